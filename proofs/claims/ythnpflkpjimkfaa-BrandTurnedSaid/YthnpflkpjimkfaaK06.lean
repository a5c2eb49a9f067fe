/-
  CLASSES: what the program returns. Conditions: none.
-/
import Derived.Test.YthnpflkpjimkfaaK05
import Derived.Test.YthnpflkpjimkfaaK03
import Derived.Test.YthnpflkpjimkfaaKAmH
import Derived.Test.YthnpflkpjimkfaaK04
import Derived.Test.YthnpflkpjimkfaaK00
set_option linter.all false
namespace Go.Proofs.Ythnpflkpjimkfaa
open Go.AM
open Go.Proofs.Try (prog)
set_option linter.all false
set_option maxRecDepth 100000
set_option maxHeartbeats 8000000

/-- An equivalence of numbers less than n. -/
structure Eqv (E : Nat → Nat → Bool) (n : Nat) : Prop where
  rf : ∀ i, i < n → E i i = true
  sy : ∀ i j, i < n → j < n → E i j = true → E j i = true
  tr : ∀ i j k, i < n → j < n → k < n → E i j = true → E j k = true → E i k = true
def frstB (E : Nat → Nat → Bool) (i : Nat) : Bool := !(List.range i).any fun j => E j i
def clsR (E : Nat → Nat → Bool) (n c : Nat) : List (List Nat) := ((List.range c).filter (frstB E)).map fun i => (List.range n).filter (E i)
def clsL (E : Nat → Nat → Bool) (n : Nat) : List (List Nat) := clsR E n n
theorem clsR_succ (E : Nat → Nat → Bool) (n c : Nat) : clsR E n (c + 1) = clsR E n c ++ if frstB E c = true then [(List.range n).filter (E c)] else [] := by
  rw [clsR, clsR, List.range_succ, List.filter_append, List.map_append]
  congr 1
  by_cases q : frstB E c = true <;> simp [q]
def clV (S : SM) (c : List Nat) : List AV := c.map fun j => .str (wrd S j)
def clF (S : SM) (c : List Nat) : AV := .fsl false c.length (clV S c)
def clsV (S : SM) (l : List (List Nat)) : AV := .fsl false l.length (l.map (clF S))
theorem clV_closed (S : SM) (c : List Nat) : closedL (clV S c) = true := by
  induction c with
  | nil => rfl
  | cons a c ih => simp only [clV, List.map_cons, closedL] at ih ⊢; rw [ih]; rfl
noncomputable def KC0 : List Item := [.code brand_monoid_classes.r17, .code .ret]
noncomputable def KC2 : List Item := .code brand_monoid_classes.r15 :: .inBlock 1 :: .code brand_monoid_classes.r16 :: .inLoop brand_monoid_classes.l0 :: .inBlock 0 :: KC0
theorem cl_in {nv gv : AV} {rows : List (List Int)} {k : Nat} {S : SM} (W : MW rows k S) {D : MB} (hD : Wf S.1.length D) {E : Nat → Nat → Bool} (hE : ∀ i j, i < S.1.length → j < S.1.length → (mth D i j && mth D j i) = E i j) {Z i lo : Nat} (hi : i < S.1.length) (hZ : Z < lo) {o : AV} {r : Option Res} :
    ∀ (c j : Nat) (h : Nat → Option AObj) (nx0 : Nat) (w : AV) (sn : List Bool), j + c = S.1.length → h Z = some (.cells (bls sn)) → sn.length = S.1.length → Nl h w (clV S ((List.range j).filter (E i))) lo nx0 → lo ≤ nx0 → (w = .nils → (List.range j).filter (E i) = []) →
    (∀ h' nx' w' sn', h' Z = some (.cells (bls sn')) → sn'.length = S.1.length → (∀ j', j' < S.1.length → bnth sn' j' = (bnth sn j' || (decide (j ≤ j') && E i j'))) → Nl h' w' (clV S ((List.range S.1.length).filter (E i))) lo nx' → nx0 ≤ nx' → (∀ y, y < lo → y ≠ Z → h' y = h y) →
      brand_monoid_classes.L2 (monV nv gv S) (mbV S.1.length D) (.sl Z 1 0 S.1.length S.1.length) o (.int .i64 i) w' (.int .i64 S.2.length) (.int .i64 i) (wdsV S) (.int .i64 S.2.length) (.int .i64 S.1.length) ⟨h', nx'⟩ KC2 = r) →
    brand_monoid_classes.L2 (monV nv gv S) (mbV S.1.length D) (.sl Z 1 0 S.1.length S.1.length) o (.int .i64 i) w (.int .i64 S.2.length) (.int .i64 i) (wdsV S) (.int .i64 S.2.length) (.int .i64 j) ⟨h, nx0⟩ KC2 = r := by
  intro c
  have hle := W.ok.le
  have hlen := W.ok.len
  induction c with
  | zero =>
    intro j h nx0 w sn h1 h0 hl N hlo hwn hk
    have e : j = S.1.length := by omega
    subst e
    exact hk h nx0 w sn h0 hl (fun j' hj' => by rw [show decide (S.1.length ≤ j') = false from decide_eq_false (by omega)]; simp) N (Nat.le_refl _) (fun _ _ _ => rfl)
  | succ c ih =>
    intro j h nx0 w sn h1 h0 hl N hlo hwn hk
    have hj : j < S.1.length := by omega
    have hj2 : j < S.2.length := by omega
    have hwj : IntKind.wrap .i64 ((j : Int) + 1) = (j : Int) + 1 := wrap_id (by omega) (by omega)
    obtain ⟨w1, w2, w3, w4⟩ := W.wok hj
    have hdw : ((S.2.map AV.str).drop j).head? = some (.str (wrd S j)) := by rw [List.head?_drop, List.getElem?_map, w1]; rfl
    have m1 := mbV_head (n := S.1.length) (i := i) (L := D) (by rw [hD.l]; exact hi)
    have m2 := mbV_head (n := S.1.length) (i := j) (L := D) (by rw [hD.l]; exact hj)
    have b1 := bls_head (bs := brw D i) (i := j) (by rw [hD.r i hi]; exact hj)
    have b2 := bls_head (bs := brw D j) (i := i) (by rw [hD.r j hj]; exact hi)
    have q1 : bnth (brw D i) j = mth D i j := rfl
    have q2 : bnth (brw D j) i = mth D j i := rfl
    rw [q1] at b1
    rw [q2] at b2
    have hEij := hE i j hi hj
    have hflt : (List.range (j + 1)).filter (E i) = (List.range j).filter (E i) ++ if E i j = true then [j] else [] := by
      rw [List.range_succ, List.filter_append]; by_cases q : E i j = true <;> simp [q]
    have hfl : ((List.range j).filter (E i)).length ≤ j := by have := List.length_filter_le (E i) (List.range j); simpa using this
    cases qE : E i j with
    | false =>
      rw [qE] at hflt hEij
      simp only [Bool.false_eq_true, if_false, List.append_nil] at hflt
      have st := ih (j + 1) h nx0 w sn (by omega) h0 hl (by rw [hflt]; exact N) hlo (by rw [hflt]; exact hwn) (fun h' nx' w' sn' f1 f2 f3 f4 f5 f6 => hk h' nx' w' sn' f1 f2 (fun j' hj' => by
        rw [f3 j' hj']
        by_cases e : j' = j
        · subst e; rw [qE]; simp
        · congr 2; rw [decide_eq_decide]; omega) f4 f5 f6)
      simp only [Int.natCast_add, Int.cast_ofNat_Int] at st
      rw [brand_monoid_classes.L2_eq]
      simp only [mbV, wdsV, hD.l] at st ⊢
      cases e1 : mth D i j with
      | false =>
        rw [e1] at b1
        simp [hj2, hdw, hi, hj, m1, b1, hwj, -List.head?_drop, -List.map_drop]
        exact st
      | true =>
        rw [e1] at b1
        rw [e1, Bool.true_and] at hEij
        rw [hEij] at b2
        simp [hj2, hdw, hi, hj, m1, m2, b1, b2, hwj, -List.head?_drop, -List.map_drop]
        exact st
    | true =>
      rw [qE] at hflt hEij
      simp only [if_true] at hflt
      rw [Bool.and_eq_true] at hEij
      rw [hEij.1] at b1
      rw [hEij.2] at b2
      have hcv : clV S ((List.range j).filter (E i)) ++ [.str (wrd S j)] = clV S ((List.range (j + 1)).filter (E i)) := by rw [hflt]; simp [clV]
      obtain ⟨w', h', nx', g1, g2, g3, g4, g5, g6, g7⟩ := N.app (nx := nx0) (by' := 16) (Nat.le_refl _) hlo (by simp [clV]; omega) (.str (wrd S j))
      rw [hcv] at g2
      have low : ∀ y, y < lo → h' y = h y := fun y hy => g6 y (fun e => by
        rcases g5 y e with q | q
        · have := N.oid q; omega
        · omega)
      have hZ' : h' Z = some (.cells (bls sn)) := by rw [low Z hZ, h0]
      have st := ih (j + 1) (upd h' Z (some (.cells (bls (sn.set j true))))) nx' w' (sn.set j true) (by omega) (by simp) (by simp [hl]) (g2.fr (fun y y1 y2 _ => updNe (by omega)) (Nat.le_refl _)) (by omega) (fun e => absurd e g7) (fun h2 nx2 w2 sn2 f1 f2 f3 f4 f5 f6 => hk h2 nx2 w2 sn2 f1 f2 (fun j' hj' => by
        rw [f3 j' hj', bnth_set (by omega)]
        by_cases e : j = j'
        · subst e; rw [if_pos rfl, qE]; simp
        · rw [if_neg e]; congr 2; rw [decide_eq_decide]; omega) f4 (by omega) (fun y y1 y2 => by rw [f6 y y1 y2, updNe y2, low y y1]))
      simp only [Int.natCast_add, Int.cast_ofNat_Int] at st
      rw [brand_monoid_classes.L2_eq]
      simp only [mbV, wdsV, hD.l] at st ⊢
      simp [hj2, hdw, hi, hj, m1, m2, b1, b2, N.one, g1, hZ', hl, bls_set, hwj, -List.head?_drop, -List.map_drop]
      exact st
end Go.Proofs.Ythnpflkpjimkfaa

/-
  BODIES OF FUNCTIONS OF THE PROGRAM AS SMALL OPERATIONS (written by gen.py; checked by the kernel against the program). Conditions: none.
-/
namespace Go.Proofs.Ythnpflkpjimkfaa
open Go.AM
open Go.Proofs.Try (prog)
set_option maxRecDepth 100000
set_option linter.all false


namespace r07_Same
/-- pommel/pommelref07.Same -/
noncomputable def b : Code := (Try.f38.body).getD .skip
theorem hf : prog.funcs[38]? = some Try.f38 := by kernel_rfl
noncomputable def r0 : Code := findReg b 0
noncomputable def r1 : Code := findReg b 1
noncomputable def i0 : Code := findCond b 0
noncomputable def i0t : Code := thenOf i0
noncomputable def i0e : Code := elseOf i0
noncomputable def r2 : Code := findReg b 2
noncomputable def r3 : Code := findReg b 3
noncomputable def k0 : Code := findBlk b 0
noncomputable def l0 : Code := loopOf k0
noncomputable def L0 (x0 x1 x5 : AV) (m : Mem) (K : List Item) : Option Res := den prog ann 38 (.code l0 :: .inLoop l0 :: .inBlock 0 :: K) ⟨[(0, x0), (1, x1), (5, x5)], 26, m⟩
noncomputable def r4 : Code := findReg b 4
noncomputable def i1 : Code := findCond b 1
noncomputable def i1t : Code := thenOf i1
noncomputable def i1e : Code := elseOf i1
noncomputable def k1 : Code := findBlk b 1
noncomputable def r6 : Code := findReg b 6
noncomputable def i2 : Code := findCond b 2
noncomputable def i2t : Code := thenOf i2
noncomputable def i2e : Code := elseOf i2
noncomputable def r7 : Code := findReg b 7
noncomputable def r5 : Code := findReg b 5
noncomputable def r8 : Code := findReg b 8
theorem b_eq (K : List Item) (s : St) : den prog ann 38 (.code b :: K) s = den prog ann 38 (.code r0 :: .code r1 :: .code i0 :: .code r3 :: .code k0 :: .code r8 :: .code .ret :: K) s := den_flat hf (l := [r0, r1, i0, r3, k0, r8, .ret]) (by kernel_rfl) K s
theorem r0_eq (K : List Item) (s : St) : den prog ann 38 (.code r0 :: K) s = mreg prog ann 38 none [] none [] [
    ⟨some 4, none, .v fun s => some (.bool false)⟩] K s := (den_reg hf _ K s).trans (by kernel_rfl)
theorem r1_eq (K : List Item) (s : St) : den prog ann 38 (.code r1 :: K) s = mreg prog ann 38 none [] none [] [
    ⟨some 6, none, .v fun s => some (s.get 0)⟩,
    ⟨some 7, none, .v fun s => lenSl (s.get 6)⟩,
    ⟨some 8, none, .v fun s => some (s.get 1)⟩,
    ⟨some 9, none, .v fun s => lenSl (s.get 8)⟩,
    ⟨some 10, none, .v fun s => binA prog .neq 3 (s.get 7) (s.get 9)⟩] K s := (den_reg hf _ K s).trans (by kernel_rfl)
theorem i0_eq (K : List Item) (s : St) : den prog ann 38 (.code i0 :: K) s = ifV prog ann 38 10 i0t i0e K s (s.get 10) := den_if hf (by kernel_rfl) K s
theorem i0t_eq (K : List Item) (s : St) : den prog ann 38 (.code i0t :: K) s = den prog ann 38 (.code r2 :: .code .ret :: K) s := den_flat hf (l := [r2, .ret]) (by kernel_rfl) K s
theorem r2_eq (K : List Item) (s : St) : den prog ann 38 (.code r2 :: K) s = mreg prog ann 38 none [] none [] [
    ⟨some 4, none, .v fun s => some (.bool false)⟩] K s := (den_reg hf _ K s).trans (by kernel_rfl)
theorem i0e_eq (K : List Item) (s : St) : den prog ann 38 (.code i0e :: K) s = den prog ann 38 (K) s := den_flat hf (l := []) (by kernel_rfl) K s
theorem r3_eq (K : List Item) (s : St) : den prog ann 38 (.code r3 :: K) s = mreg prog ann 38 none [] none [] [
    ⟨some 5, none, .v fun s => some (.int .i64 0)⟩] K s := (den_reg hf _ K s).trans (by kernel_rfl)
theorem k0_eq (K : List Item) (t : List (Nat × AV)) (m : Mem) : den prog ann 38 (.code k0 :: K) ⟨t, 26, m⟩ = L0 (get t 0) (get t 1) (get t 5) m K := den_loop_enter hf (b := l0) (id := 4) (l := [0, 1, 5]) (by kernel_rfl) (by kernel_rfl) (by kernel_rfl) K _
theorem l0_eq (K : List Item) (t : List (Nat × AV)) (m : Mem) : den prog ann 38 (.inLoop l0 :: .inBlock 0 :: K) ⟨t, 26, m⟩ = L0 (get t 0) (get t 1) (get t 5) m K := den_loop_again hf (id := 4) (l := [0, 1, 5]) (by kernel_rfl) (by kernel_rfl) (.inBlock 0 :: K) _
theorem L0_eq (x0 x1 x5 : AV) (m : Mem) (K : List Item) : L0 x0 x1 x5 m K = den prog ann 38 (.code r4 :: .code i1 :: .code k1 :: .code r5 :: .inLoop l0 :: .inBlock 0 :: K) ⟨[(0, x0), (1, x1), (5, x5)], 26, m⟩ := den_flat hf (l := [r4, i1, k1, r5]) (by kernel_rfl) _ _
theorem r4_eq (K : List Item) (s : St) : den prog ann 38 (.code r4 :: K) s = mreg prog ann 38 (some [0, 1, 5]) [] none [] [
    ⟨some 11, none, .v fun s => some (s.get 5)⟩,
    ⟨some 12, none, .v fun s => some (s.get 0)⟩,
    ⟨some 13, none, .v fun s => lenSl (s.get 12)⟩,
    ⟨some 14, none, .v fun s => binA prog .lss 3 (s.get 11) (s.get 13)⟩] K s := (den_reg hf _ K s).trans (by kernel_rfl)
theorem i1_eq (K : List Item) (s : St) : den prog ann 38 (.code i1 :: K) s = ifV prog ann 38 14 i1t i1e K s (s.get 14) := den_if hf (by kernel_rfl) K s
theorem i1t_eq (K : List Item) (s : St) : den prog ann 38 (.code i1t :: K) s = den prog ann 38 (K) s := den_flat hf (l := []) (by kernel_rfl) K s
theorem i1e_eq (K : List Item) (s : St) : den prog ann 38 (.code i1e :: K) s = den prog ann 38 (.code (.exit 0) :: K) s := den_flat hf (l := [(.exit 0)]) (by kernel_rfl) K s
theorem k1_eq (K : List Item) (s : St) : den prog ann 38 (.code k1 :: K) s = den prog ann 38 (.code r6 :: .code i2 :: .inBlock 1 :: K) s := den_blk hf (b := blkOf k1) (l := [r6, i2]) (by kernel_rfl) (by kernel_rfl) K s
theorem r6_draw : drawOk (fun g => (ann g).pure) (modeOf (ann 38) (idOf r6)) (frzOf (ann 38) (idOf r6)) (opsOf r6) = true := drawOk_of (an := [0, 0, 3, 7, 0, 0, 48, 112, 255]) (by kernel_rfl) (by kernel_rfl)
theorem r6_eq (K : List Item) (s : St) : den prog ann 38 (.code r6 :: K) s = mreg prog ann 38 none [] (some 9) [] [
    ⟨some 17, none, .v fun s => some (s.get 0)⟩,
    ⟨some 18, none, .v fun s => some (s.get 5)⟩,
    ⟨some 19, none, .v fun s => idxSl 1 (s.get 17) (s.get 18)⟩,
    ⟨some 20, none, .v fun s => loadF false 1 (s.get 19)⟩,
    ⟨some 21, none, .v fun s => some (s.get 1)⟩,
    ⟨some 22, none, .v fun s => some (s.get 5)⟩,
    ⟨some 23, none, .v fun s => idxSl 1 (s.get 21) (s.get 22)⟩,
    ⟨some 24, none, .v fun s => loadF false 1 (s.get 23)⟩,
    ⟨some 25, none, .v fun s => binA prog .neq 9 (s.get 20) (s.get 24)⟩] K s := (den_regD hf r6_draw K s).trans (by kernel_rfl)
theorem i2_eq (K : List Item) (s : St) : den prog ann 38 (.code i2 :: K) s = ifV prog ann 38 25 i2t i2e K s (s.get 25) := den_if hf (by kernel_rfl) K s
theorem i2t_eq (K : List Item) (s : St) : den prog ann 38 (.code i2t :: K) s = den prog ann 38 (.code r7 :: .code .ret :: K) s := den_flat hf (l := [r7, .ret]) (by kernel_rfl) K s
theorem r7_eq (K : List Item) (s : St) : den prog ann 38 (.code r7 :: K) s = mreg prog ann 38 none [] none [] [
    ⟨some 4, none, .v fun s => some (.bool false)⟩] K s := (den_reg hf _ K s).trans (by kernel_rfl)
theorem i2e_eq (K : List Item) (s : St) : den prog ann 38 (.code i2e :: K) s = den prog ann 38 (K) s := den_flat hf (l := []) (by kernel_rfl) K s
theorem r5_eq (K : List Item) (s : St) : den prog ann 38 (.code r5 :: K) s = mreg prog ann 38 (some [0, 1, 5]) [] none [] [
    ⟨some 15, none, .v fun s => some (s.get 5)⟩,
    ⟨some 16, none, .v fun s => binA prog .add 3 (s.get 15) (.int .i64 1)⟩,
    ⟨some 5, none, .v fun s => some (s.get 16)⟩] K s := (den_reg hf _ K s).trans (by kernel_rfl)
theorem r8_eq (K : List Item) (s : St) : den prog ann 38 (.code r8 :: K) s = mreg prog ann 38 (some []) [] none [] [
    ⟨some 4, none, .v fun s => some (.bool true)⟩] K s := (den_reg hf _ K s).trans (by kernel_rfl)
theorem ret_eq (K : List Item) (s : St) : den prog ann 38 (.code .ret :: K) s = finM true [fun s => some (s.get 4)] s := (den_ret hf K s).trans (by kernel_rfl)
theorem nil_eq (s : St) : den prog ann 38 [] s = finM true [fun s => some (s.get 4)] s := (den_nil hf s).trans (by kernel_rfl)
theorem inBlock_eq (id : Nat) (K : List Item) (s : St) : den prog ann 38 (.inBlock id :: K) s = den prog ann 38 K s := den_inBlock hf id K s
theorem exit_eq (id : Nat) (K : List Item) (s : St) : den prog ann 38 (.code (.exit id) :: K) s = exitV prog ann 38 (exitTo id K) s := den_exitV hf id K s
theorem call_eq (v0 v1 : AV) (m : Mem) (h : closedL [v0, v1] = true) : denC prog ann 38 [v0, v1] m = (den prog ann 38 [.code b] ⟨[(0, v0), (1, v1)], 26, Mem.empty⟩).bind fun r => some (r.1, m) := (denC_pure hf (b := b) (by kernel_rfl) (by kernel_rfl) (by kernel_rfl) h m).trans (by kernel_rfl)
theorem pure_eq : (ann 38).pure = true := by kernel_rfl
attribute [simp] b_eq r0_eq r1_eq i0_eq i0t_eq r2_eq i0e_eq r3_eq k0_eq l0_eq r4_eq i1_eq i1t_eq i1e_eq k1_eq r6_eq i2_eq i2t_eq r7_eq i2e_eq r5_eq r8_eq ret_eq nil_eq inBlock_eq exit_eq pure_eq
end r07_Same

namespace r07_Of
/-- pommel/pommelref07.Of -/
noncomputable def b : Code := (Try.f41.body).getD .skip
theorem hf : prog.funcs[41]? = some Try.f41 := by kernel_rfl
noncomputable def r0 : Code := findReg b 0
noncomputable def r1 : Code := findReg b 1
noncomputable def r2 : Code := findReg b 2
noncomputable def k0 : Code := findBlk b 0
noncomputable def l0 : Code := loopOf k0
noncomputable def L0 (x1 x2 x4 x5 : AV) (m : Mem) (K : List Item) : Option Res := den prog ann 41 (.code l0 :: .inLoop l0 :: .inBlock 0 :: K) ⟨[(1, x1), (2, x2), (4, x4), (5, x5)], 89, m⟩
noncomputable def r3 : Code := findReg b 3
noncomputable def i0 : Code := findCond b 0
noncomputable def i0t : Code := thenOf i0
noncomputable def i0e : Code := elseOf i0
noncomputable def k1 : Code := findBlk b 1
noncomputable def r5 : Code := findReg b 5
noncomputable def k2 : Code := findBlk b 2
noncomputable def l2 : Code := loopOf k2
noncomputable def L2 (x1 x2 x4 x5 x6 : AV) (m : Mem) (K : List Item) : Option Res := den prog ann 41 (.code l2 :: .inLoop l2 :: .inBlock 2 :: K) ⟨[(1, x1), (2, x2), (4, x4), (5, x5), (6, x6)], 89, m⟩
noncomputable def r6 : Code := findReg b 6
noncomputable def i1 : Code := findCond b 1
noncomputable def i1t : Code := thenOf i1
noncomputable def i1e : Code := elseOf i1
noncomputable def k3 : Code := findBlk b 3
noncomputable def r8 : Code := findReg b 8
noncomputable def r9 : Code := findReg b 9
noncomputable def k4 : Code := findBlk b 4
noncomputable def l4 : Code := loopOf k4
noncomputable def L4 (x1 x2 x4 x5 x6 x7 x8 : AV) (m : Mem) (K : List Item) : Option Res := den prog ann 41 (.code l4 :: .inLoop l4 :: .inBlock 4 :: K) ⟨[(1, x1), (2, x2), (4, x4), (5, x5), (6, x6), (7, x7), (8, x8)], 89, m⟩
noncomputable def r10 : Code := findReg b 10
noncomputable def i2 : Code := findCond b 2
noncomputable def i2t : Code := thenOf i2
noncomputable def i2e : Code := elseOf i2
noncomputable def k5 : Code := findBlk b 5
noncomputable def r12 : Code := findReg b 12
noncomputable def r11 : Code := findReg b 11
noncomputable def r13 : Code := findReg b 13
noncomputable def i3 : Code := findCond b 3
noncomputable def i3t : Code := thenOf i3
noncomputable def i3e : Code := elseOf i3
noncomputable def r14 : Code := findReg b 14
noncomputable def r15 : Code := findReg b 15
noncomputable def i4 : Code := findCond b 4
noncomputable def i4t : Code := thenOf i4
noncomputable def i4e : Code := elseOf i4
noncomputable def r16 : Code := findReg b 16
noncomputable def r7 : Code := findReg b 7
noncomputable def r4 : Code := findReg b 4
noncomputable def r17 : Code := findReg b 17
theorem b_eq (K : List Item) (s : St) : den prog ann 41 (.code b :: K) s = den prog ann 41 (.code r0 :: .code r1 :: .code r2 :: .code k0 :: .code r17 :: .code .ret :: K) s := den_flat hf (l := [r0, r1, r2, k0, r17, .ret]) (by kernel_rfl) K s
theorem r0_eq (K : List Item) (s : St) : den prog ann 41 (.code r0 :: K) s = mreg prog ann 41 none [] none [] [
    ⟨some 1, none, .v fun s => frozenPtr (s.get 0)⟩,
    ⟨some 2, none, .w false none fun s => newPtr s.m [.nils, .nils]⟩,
    ⟨some 3, none, .v fun s => some (.bool false)⟩] K s := (den_reg hf _ K s).trans (by kernel_rfl)
theorem r1_eq (K : List Item) (s : St) : den prog ann 41 (.code r1 :: K) s = mreg prog ann 41 none [] none [] [
    ⟨some 9, none, .v fun s => fieldA 0 (s.get 1)⟩,
    ⟨some 10, none, .v fun s => loadF false 1 (s.get 9)⟩,
    ⟨some 11, none, .v fun s => lenSl (s.get 10)⟩,
    ⟨some 12, none, .c 0 (fun s => (.fn 72 [] [])) fun s => [(s.get 11)]⟩,
    ⟨some 13, none, .v fun s => bslF 1 (bslA 1 1 [.str []] [(0, (s.get 12))])⟩,
    ⟨some 14, none, .v fun s => bslF 1 (bslA 1 1 [.str []] [(0, (.str []))])⟩,
    ⟨some 15, none, .v fun s => bldA (plc [(0, 1), (1, 1)]) [.nils, .nils] [(0, (s.get 13)), (1, (s.get 14))]⟩,
    ⟨some 4, none, .w false none fun s => newPtr s.m [.nils, .nils]⟩,
    ⟨none, none, .w false none fun s => stA true 2 s.m (s.get 4) (s.get 15)⟩] K s := (den_reg hf _ K s).trans (by kernel_rfl)
theorem r2_eq (K : List Item) (s : St) : den prog ann 41 (.code r2 :: K) s = mreg prog ann 41 none [] none [] [
    ⟨some 5, none, .v fun s => some (.int .i64 0)⟩] K s := (den_reg hf _ K s).trans (by kernel_rfl)
theorem k0_eq (K : List Item) (t : List (Nat × AV)) (m : Mem) : den prog ann 41 (.code k0 :: K) ⟨t, 89, m⟩ = L0 (get t 1) (get t 2) (get t 4) (get t 5) m K := den_loop_enter hf (b := l0) (id := 3) (l := [1, 2, 4, 5]) (by kernel_rfl) (by kernel_rfl) (by kernel_rfl) K _
theorem l0_eq (K : List Item) (t : List (Nat × AV)) (m : Mem) : den prog ann 41 (.inLoop l0 :: .inBlock 0 :: K) ⟨t, 89, m⟩ = L0 (get t 1) (get t 2) (get t 4) (get t 5) m K := den_loop_again hf (id := 3) (l := [1, 2, 4, 5]) (by kernel_rfl) (by kernel_rfl) (.inBlock 0 :: K) _
theorem L0_eq (x1 x2 x4 x5 : AV) (m : Mem) (K : List Item) : L0 x1 x2 x4 x5 m K = den prog ann 41 (.code r3 :: .code i0 :: .code k1 :: .code r4 :: .inLoop l0 :: .inBlock 0 :: K) ⟨[(1, x1), (2, x2), (4, x4), (5, x5)], 89, m⟩ := den_flat hf (l := [r3, i0, k1, r4]) (by kernel_rfl) _ _
theorem r3_eq (K : List Item) (s : St) : den prog ann 41 (.code r3 :: K) s = mreg prog ann 41 (some [1, 2, 4, 5]) [] none [] [
    ⟨some 16, none, .v fun s => some (s.get 5)⟩,
    ⟨some 17, none, .v fun s => fieldA 0 (s.get 4)⟩,
    ⟨some 18, none, .v fun s => loadA false 1 s.m (s.get 17)⟩,
    ⟨some 19, none, .v fun s => lenSl (s.get 18)⟩,
    ⟨some 20, none, .v fun s => binA prog .lss 3 (s.get 16) (s.get 19)⟩] K s := (den_reg hf _ K s).trans (by kernel_rfl)
theorem i0_eq (K : List Item) (s : St) : den prog ann 41 (.code i0 :: K) s = ifV prog ann 41 20 i0t i0e K s (s.get 20) := den_if hf (by kernel_rfl) K s
theorem i0t_eq (K : List Item) (s : St) : den prog ann 41 (.code i0t :: K) s = den prog ann 41 (K) s := den_flat hf (l := []) (by kernel_rfl) K s
theorem i0e_eq (K : List Item) (s : St) : den prog ann 41 (.code i0e :: K) s = den prog ann 41 (.code (.exit 0) :: K) s := den_flat hf (l := [(.exit 0)]) (by kernel_rfl) K s
theorem k1_eq (K : List Item) (s : St) : den prog ann 41 (.code k1 :: K) s = den prog ann 41 (.code r5 :: .code k2 :: .inBlock 1 :: K) s := den_blk hf (b := blkOf k1) (l := [r5, k2]) (by kernel_rfl) (by kernel_rfl) K s
theorem r5_eq (K : List Item) (s : St) : den prog ann 41 (.code r5 :: K) s = mreg prog ann 41 none [] none [] [
    ⟨some 6, none, .v fun s => some (.int .i64 0)⟩] K s := (den_reg hf _ K s).trans (by kernel_rfl)
theorem k2_eq (K : List Item) (t : List (Nat × AV)) (m : Mem) : den prog ann 41 (.code k2 :: K) ⟨t, 89, m⟩ = L2 (get t 1) (get t 2) (get t 4) (get t 5) (get t 6) m K := den_loop_enter hf (b := l2) (id := 6) (l := [1, 2, 4, 5, 6]) (by kernel_rfl) (by kernel_rfl) (by kernel_rfl) K _
theorem l2_eq (K : List Item) (t : List (Nat × AV)) (m : Mem) : den prog ann 41 (.inLoop l2 :: .inBlock 2 :: K) ⟨t, 89, m⟩ = L2 (get t 1) (get t 2) (get t 4) (get t 5) (get t 6) m K := den_loop_again hf (id := 6) (l := [1, 2, 4, 5, 6]) (by kernel_rfl) (by kernel_rfl) (.inBlock 2 :: K) _
theorem L2_eq (x1 x2 x4 x5 x6 : AV) (m : Mem) (K : List Item) : L2 x1 x2 x4 x5 x6 m K = den prog ann 41 (.code r6 :: .code i1 :: .code k3 :: .code r7 :: .inLoop l2 :: .inBlock 2 :: K) ⟨[(1, x1), (2, x2), (4, x4), (5, x5), (6, x6)], 89, m⟩ := den_flat hf (l := [r6, i1, k3, r7]) (by kernel_rfl) _ _
theorem r6_eq (K : List Item) (s : St) : den prog ann 41 (.code r6 :: K) s = mreg prog ann 41 (some [1, 2, 4, 5, 6]) [] none [] [
    ⟨some 23, none, .v fun s => some (s.get 6)⟩,
    ⟨some 24, none, .v fun s => fieldA 0 (s.get 1)⟩,
    ⟨some 25, none, .v fun s => loadF false 1 (s.get 24)⟩,
    ⟨some 26, none, .v fun s => idxSl 1 (s.get 25) (.int .i64 0)⟩,
    ⟨some 27, none, .v fun s => loadF false 1 (s.get 26)⟩,
    ⟨some 28, none, .v fun s => lenSl (s.get 27)⟩,
    ⟨some 29, none, .v fun s => binA prog .lss 3 (s.get 23) (s.get 28)⟩] K s := (den_reg hf _ K s).trans (by kernel_rfl)
theorem i1_eq (K : List Item) (s : St) : den prog ann 41 (.code i1 :: K) s = ifV prog ann 41 29 i1t i1e K s (s.get 29) := den_if hf (by kernel_rfl) K s
theorem i1t_eq (K : List Item) (s : St) : den prog ann 41 (.code i1t :: K) s = den prog ann 41 (K) s := den_flat hf (l := []) (by kernel_rfl) K s
theorem i1e_eq (K : List Item) (s : St) : den prog ann 41 (.code i1e :: K) s = den prog ann 41 (.code (.exit 2) :: K) s := den_flat hf (l := [(.exit 2)]) (by kernel_rfl) K s
theorem k3_eq (K : List Item) (s : St) : den prog ann 41 (.code k3 :: K) s = den prog ann 41 (.code r8 :: .code r9 :: .code k4 :: .code r13 :: .code i3 :: .inBlock 3 :: K) s := den_blk hf (b := blkOf k3) (l := [r8, r9, k4, r13, i3]) (by kernel_rfl) (by kernel_rfl) K s
theorem r8_eq (K : List Item) (s : St) : den prog ann 41 (.code r8 :: K) s = mreg prog ann 41 none [] none [] [
    ⟨some 32, none, .w false none fun s => bslM s.m 0 (bslA 1 0 [.int .u8 0] [])⟩,
    ⟨some 7, none, .v fun s => some (s.get 32)⟩] K s := (den_reg hf _ K s).trans (by kernel_rfl)
theorem r9_eq (K : List Item) (s : St) : den prog ann 41 (.code r9 :: K) s = mreg prog ann 41 none [] none [] [
    ⟨some 8, none, .v fun s => some (.int .i64 0)⟩] K s := (den_reg hf _ K s).trans (by kernel_rfl)
theorem k4_eq (K : List Item) (t : List (Nat × AV)) (m : Mem) : den prog ann 41 (.code k4 :: K) ⟨t, 89, m⟩ = L4 (get t 1) (get t 2) (get t 4) (get t 5) (get t 6) (get t 7) (get t 8) m K := den_loop_enter hf (b := l4) (id := 10) (l := [1, 2, 4, 5, 6, 7, 8]) (by kernel_rfl) (by kernel_rfl) (by kernel_rfl) K _
theorem l4_eq (K : List Item) (t : List (Nat × AV)) (m : Mem) : den prog ann 41 (.inLoop l4 :: .inBlock 4 :: K) ⟨t, 89, m⟩ = L4 (get t 1) (get t 2) (get t 4) (get t 5) (get t 6) (get t 7) (get t 8) m K := den_loop_again hf (id := 10) (l := [1, 2, 4, 5, 6, 7, 8]) (by kernel_rfl) (by kernel_rfl) (.inBlock 4 :: K) _
theorem L4_eq (x1 x2 x4 x5 x6 x7 x8 : AV) (m : Mem) (K : List Item) : L4 x1 x2 x4 x5 x6 x7 x8 m K = den prog ann 41 (.code r10 :: .code i2 :: .code k5 :: .code r11 :: .inLoop l4 :: .inBlock 4 :: K) ⟨[(1, x1), (2, x2), (4, x4), (5, x5), (6, x6), (7, x7), (8, x8)], 89, m⟩ := den_flat hf (l := [r10, i2, k5, r11]) (by kernel_rfl) _ _
theorem r10_eq (K : List Item) (s : St) : den prog ann 41 (.code r10 :: K) s = mreg prog ann 41 (some [1, 2, 4, 5, 6, 7, 8]) [] none [] [
    ⟨some 33, none, .v fun s => some (s.get 8)⟩,
    ⟨some 34, none, .v fun s => fieldA 0 (s.get 1)⟩,
    ⟨some 35, none, .v fun s => loadF false 1 (s.get 34)⟩,
    ⟨some 36, none, .v fun s => lenSl (s.get 35)⟩,
    ⟨some 37, none, .v fun s => binA prog .lss 3 (s.get 33) (s.get 36)⟩] K s := (den_reg hf _ K s).trans (by kernel_rfl)
theorem i2_eq (K : List Item) (s : St) : den prog ann 41 (.code i2 :: K) s = ifV prog ann 41 37 i2t i2e K s (s.get 37) := den_if hf (by kernel_rfl) K s
theorem i2t_eq (K : List Item) (s : St) : den prog ann 41 (.code i2t :: K) s = den prog ann 41 (K) s := den_flat hf (l := []) (by kernel_rfl) K s
theorem i2e_eq (K : List Item) (s : St) : den prog ann 41 (.code i2e :: K) s = den prog ann 41 (.code (.exit 4) :: K) s := den_flat hf (l := [(.exit 4)]) (by kernel_rfl) K s
theorem k5_eq (K : List Item) (s : St) : den prog ann 41 (.code k5 :: K) s = den prog ann 41 (.code r12 :: .inBlock 5 :: K) s := den_blk hf (b := blkOf k5) (l := [r12]) (by kernel_rfl) (by kernel_rfl) K s
theorem r12_draw : drawOk (fun g => (ann g).pure) (modeOf (ann 41) (idOf r12)) (frzOf (ann 41) (idOf r12)) (opsOf r12) = true := drawOk_of (an := [0, 0, 2, 0, 8, 0, 56, 120, 0, 504, 1022, 2046, 0, 8190, 16382, 32766, 65534, 131071, 262143]) (by kernel_rfl) (by kernel_rfl)
theorem r12_eq (K : List Item) (s : St) : den prog ann 41 (.code r12 :: K) s = mreg prog ann 41 none [] (some 19) [] [
    ⟨some 40, none, .v fun s => some (s.get 7)⟩,
    ⟨some 41, none, .v fun s => fieldA 0 (s.get 1)⟩,
    ⟨some 42, none, .v fun s => loadF false 1 (s.get 41)⟩,
    ⟨some 43, none, .v fun s => fieldA 0 (s.get 4)⟩,
    ⟨some 44, none, .v fun s => loadA false 1 s.m (s.get 43)⟩,
    ⟨some 45, none, .v fun s => some (s.get 5)⟩,
    ⟨some 46, none, .v fun s => idxSl 1 (s.get 44) (s.get 45)⟩,
    ⟨some 47, none, .v fun s => loadA false 1 s.m (s.get 46)⟩,
    ⟨some 48, none, .v fun s => some (s.get 8)⟩,
    ⟨some 49, none, .v fun s => idxStr (s.get 47) (s.get 48)⟩,
    ⟨some 50, none, .v fun s => idxSl 1 (s.get 42) (s.get 49)⟩,
    ⟨some 51, none, .v fun s => loadF false 1 (s.get 50)⟩,
    ⟨some 52, none, .v fun s => some (s.get 6)⟩,
    ⟨some 53, none, .v fun s => idxSl 1 (s.get 51) (s.get 52)⟩,
    ⟨some 54, none, .v fun s => loadF false 1 (s.get 53)⟩,
    ⟨some 55, none, .v fun s => convInt .u8 (s.get 54)⟩,
    ⟨some 56, none, .v fun s => bslF 1 (bslA 1 1 [.int .u8 0] [(0, (s.get 55))])⟩,
    ⟨some 57, none, .w false (some 17) fun s => appendA 1 1 s.m (s.get 40) (s.get 56)⟩,
    ⟨some 7, none, .v fun s => some (s.get 57)⟩] K s := (den_regD hf r12_draw K s).trans (by kernel_rfl)
theorem r11_eq (K : List Item) (s : St) : den prog ann 41 (.code r11 :: K) s = mreg prog ann 41 (some [1, 2, 4, 5, 6, 7, 8]) [] none [] [
    ⟨some 38, none, .v fun s => some (s.get 8)⟩,
    ⟨some 39, none, .v fun s => binA prog .add 3 (s.get 38) (.int .i64 1)⟩,
    ⟨some 8, none, .v fun s => some (s.get 39)⟩] K s := (den_reg hf _ K s).trans (by kernel_rfl)
theorem r13_eq (K : List Item) (s : St) : den prog ann 41 (.code r13 :: K) s = mreg prog ann 41 (some [1, 2, 4, 5, 6, 7]) [] none [] [
    ⟨some 58, none, .v fun s => loadA true 2 s.m (s.get 4)⟩,
    ⟨some 59, none, .v fun s => some (s.get 7)⟩,
    ⟨some 60, none, .v fun s => convStr s.m (s.get 59)⟩,
    ⟨some 61, none, .c 0 (fun s => (.fn 73 [] [])) fun s => [(s.get 58), (s.get 60)]⟩,
    ⟨some 62, none, .v fun s => binA prog .lss 3 (s.get 61) (.int .i64 0)⟩] K s := (den_reg hf _ K s).trans (by kernel_rfl)
theorem i3_eq (K : List Item) (s : St) : den prog ann 41 (.code i3 :: K) s = ifV prog ann 41 62 i3t i3e K s (s.get 62) := den_if hf (by kernel_rfl) K s
theorem i3t_eq (K : List Item) (s : St) : den prog ann 41 (.code i3t :: K) s = den prog ann 41 (.code r14 :: .code r15 :: .code i4 :: K) s := den_flat hf (l := [r14, r15, i4]) (by kernel_rfl) K s
theorem r14_draw : drawOk (fun g => (ann g).pure) (modeOf (ann 41) (idOf r14)) (frzOf (ann 41) (idOf r14)) (opsOf r14) = true := drawOk_of (an := [0, 1, 0, 4, 12, 31, 0, 64, 0, 256, 0, 1792, 3840, 0, 8255, 32575, 65343, 131071, 1023, 524287, 1048575, 2097151]) (by kernel_rfl) (by kernel_rfl)
theorem r14_eq (K : List Item) (s : St) : den prog ann 41 (.code r14 :: K) s = mreg prog ann 41 none [] (some 22) [3064069, 2000067, 3064071, 3064074] [
    ⟨some 63, none, .v fun s => fieldA 0 (s.get 4)⟩,
    ⟨some 64, none, .v fun s => loadA false 1 s.m (s.get 63)⟩,
    ⟨some 65, none, .v fun s => some (s.get 7)⟩,
    ⟨some 66, none, .v fun s => convStr s.m (s.get 65)⟩,
    ⟨some 67, none, .v fun s => bslF 1 (bslA 1 1 [.str []] [(0, (s.get 66))])⟩,
    ⟨some 68, none, .w false (some 5) fun s => appendA 1 16 s.m (s.get 64) (s.get 67)⟩,
    ⟨some 69, none, .v fun s => fieldA 1 (s.get 4)⟩,
    ⟨some 70, none, .v fun s => loadA false 1 s.m (s.get 69)⟩,
    ⟨some 71, none, .v fun s => fieldA 1 (s.get 4)⟩,
    ⟨some 72, none, .v fun s => loadA false 1 s.m (s.get 71)⟩,
    ⟨some 73, none, .v fun s => some (s.get 5)⟩,
    ⟨some 74, none, .v fun s => idxSl 1 (s.get 72) (s.get 73)⟩,
    ⟨some 75, none, .v fun s => loadA false 1 s.m (s.get 74)⟩,
    ⟨some 76, none, .v fun s => some (s.get 6)⟩,
    ⟨some 77, none, .c 0 (fun s => (.fn 64 [] [])) fun s => [(s.get 76)]⟩,
    ⟨some 78, none, .v fun s => binA prog .add 9 (s.get 75) (s.get 77)⟩,
    ⟨some 79, none, .v fun s => bslF 1 (bslA 1 1 [.str []] [(0, (s.get 78))])⟩,
    ⟨some 80, none, .w false (some 17) fun s => appendA 1 16 s.m (s.get 70) (s.get 79)⟩,
    ⟨some 81, none, .v fun s => fieldA 0 (s.get 4)⟩,
    ⟨none, none, .w false (some 19) fun s => stA false 1 s.m (s.get 81) (s.get 68)⟩,
    ⟨some 82, none, .v fun s => fieldA 1 (s.get 4)⟩,
    ⟨none, none, .w false (some 21) fun s => stA false 1 s.m (s.get 82) (s.get 80)⟩] K s := (den_regD hf r14_draw K s).trans (by kernel_rfl)
theorem r15_eq (K : List Item) (s : St) : den prog ann 41 (.code r15 :: K) s = mreg prog ann 41 none [] none [] [
    ⟨some 83, none, .v fun s => fieldA 0 (s.get 4)⟩,
    ⟨some 84, none, .v fun s => loadA false 1 s.m (s.get 83)⟩,
    ⟨some 85, none, .v fun s => lenSl (s.get 84)⟩,
    ⟨some 86, none, .v fun s => binA prog .gtr 3 (s.get 85) (.int .i64 400)⟩] K s := (den_reg hf _ K s).trans (by kernel_rfl)
theorem i4_eq (K : List Item) (s : St) : den prog ann 41 (.code i4 :: K) s = ifV prog ann 41 86 i4t i4e K s (s.get 86) := den_if hf (by kernel_rfl) K s
theorem i4t_eq (K : List Item) (s : St) : den prog ann 41 (.code i4t :: K) s = den prog ann 41 (.code r16 :: .code .ret :: K) s := den_flat hf (l := [r16, .ret]) (by kernel_rfl) K s
theorem r16_eq (K : List Item) (s : St) : den prog ann 41 (.code r16 :: K) s = mreg prog ann 41 none [] none [] [
    ⟨some 87, none, .v fun s => loadA true 2 s.m (s.get 4)⟩,
    ⟨none, none, .w false none fun s => stA true 2 s.m (s.get 2) (s.get 87)⟩,
    ⟨some 3, none, .v fun s => some (.bool false)⟩] K s := (den_reg hf _ K s).trans (by kernel_rfl)
theorem i4e_eq (K : List Item) (s : St) : den prog ann 41 (.code i4e :: K) s = den prog ann 41 (K) s := den_flat hf (l := []) (by kernel_rfl) K s
theorem i3e_eq (K : List Item) (s : St) : den prog ann 41 (.code i3e :: K) s = den prog ann 41 (K) s := den_flat hf (l := []) (by kernel_rfl) K s
theorem r7_eq (K : List Item) (s : St) : den prog ann 41 (.code r7 :: K) s = mreg prog ann 41 (some [1, 2, 4, 5, 6]) [] none [] [
    ⟨some 30, none, .v fun s => some (s.get 6)⟩,
    ⟨some 31, none, .v fun s => binA prog .add 3 (s.get 30) (.int .i64 1)⟩,
    ⟨some 6, none, .v fun s => some (s.get 31)⟩] K s := (den_reg hf _ K s).trans (by kernel_rfl)
theorem r4_eq (K : List Item) (s : St) : den prog ann 41 (.code r4 :: K) s = mreg prog ann 41 (some [1, 2, 4, 5]) [] none [] [
    ⟨some 21, none, .v fun s => some (s.get 5)⟩,
    ⟨some 22, none, .v fun s => binA prog .add 3 (s.get 21) (.int .i64 1)⟩,
    ⟨some 5, none, .v fun s => some (s.get 22)⟩] K s := (den_reg hf _ K s).trans (by kernel_rfl)
theorem r17_eq (K : List Item) (s : St) : den prog ann 41 (.code r17 :: K) s = mreg prog ann 41 (some [2, 4]) [] none [] [
    ⟨some 88, none, .v fun s => loadA true 2 s.m (s.get 4)⟩,
    ⟨none, none, .w false none fun s => stA true 2 s.m (s.get 2) (s.get 88)⟩,
    ⟨some 3, none, .v fun s => some (.bool true)⟩] K s := (den_reg hf _ K s).trans (by kernel_rfl)
theorem ret_eq (K : List Item) (s : St) : den prog ann 41 (.code .ret :: K) s = finM true [fun s => loadA true 2 s.m (s.get 2), fun s => some (s.get 3)] s := (den_ret hf K s).trans (by kernel_rfl)
theorem nil_eq (s : St) : den prog ann 41 [] s = finM true [fun s => loadA true 2 s.m (s.get 2), fun s => some (s.get 3)] s := (den_nil hf s).trans (by kernel_rfl)
theorem inBlock_eq (id : Nat) (K : List Item) (s : St) : den prog ann 41 (.inBlock id :: K) s = den prog ann 41 K s := den_inBlock hf id K s
theorem exit_eq (id : Nat) (K : List Item) (s : St) : den prog ann 41 (.code (.exit id) :: K) s = exitV prog ann 41 (exitTo id K) s := den_exitV hf id K s
theorem call_eq (v0 : AV) (m : Mem) (h : closedL [v0] = true) : denC prog ann 41 [v0] m = (den prog ann 41 [.code b] ⟨[(0, v0)], 89, Mem.empty⟩).bind fun r => some (r.1, m) := (denC_pure hf (b := b) (by kernel_rfl) (by kernel_rfl) (by kernel_rfl) h m).trans (by kernel_rfl)
theorem pure_eq : (ann 41).pure = true := by kernel_rfl
attribute [simp] b_eq r0_eq r1_eq r2_eq k0_eq l0_eq r3_eq i0_eq i0t_eq i0e_eq k1_eq r5_eq k2_eq l2_eq r6_eq i1_eq i1t_eq i1e_eq k3_eq r8_eq r9_eq k4_eq l4_eq r10_eq i2_eq i2t_eq i2e_eq k5_eq r12_eq r11_eq r13_eq i3_eq i3t_eq r14_eq r15_eq i4_eq i4t_eq r16_eq i4e_eq i3e_eq r7_eq r4_eq r17_eq ret_eq nil_eq inBlock_eq exit_eq pure_eq
end r07_Of





end Go.Proofs.Ythnpflkpjimkfaa

/-
  WHAT WORDS DO, AS STRINGS OF STATES: the specification's. Conditions: none.
-/
namespace Go.Proofs.Ythnpflkpjimkfaa
open Go.AM
open Go.Proofs.Try (prog)
set_option linter.all false
set_option maxRecDepth 100000
set_option maxHeartbeats 8000000

def bysV (l : List UInt8) : List AV := l.map fun b => .int .u8 (b.toNat : Nat)
@[simp] theorem bysV_len (l : List UInt8) : (bysV l).length = l.length := by simp [bysV]
def doF (f : Nat → Nat) (c : Nat) : List UInt8 := (List.range c).map fun s => UInt8.ofNat (f s)
def doS (rows : List (List Int)) (w : List UInt8) : List UInt8 := doF (fun s => goL rows w s) rows.length
def encD (n : Nat) (t : List Nat) : List UInt8 := doF (fun s => t.getD s 0) n
@[simp] theorem doF_len (f : Nat → Nat) (c : Nat) : (doF f c).length = c := by simp [doF]
/-- Where a string stands. -/
def fndI (L : List (List UInt8)) (s : List UInt8) : Int := if s ∈ L then ((L.idxOf s : Nat) : Int) else -1
end Go.Proofs.Ythnpflkpjimkfaa

/-
  ALL ELEMENTS OF A MONOID: the specification's search. Conditions: none.
-/
namespace Go.Proofs.Ythnpflkpjimkfaa
open Go.AM
open Go.Proofs.Try (prog)
set_option linter.all false
set_option maxRecDepth 100000
set_option maxHeartbeats 8000000

def bInE (rows : List (List Int)) (x : List Nat) (w : List UInt8) : Nat → Nat → SM → SM × Bool
  | 0, _, S => (S, true)
  | c + 1, a, S => if nxM rows x a ∈ S.1 then bInE rows x w c (a + 1) S else if S.1.length = 400 then ((S.1 ++ [nxM rows x a], S.2 ++ [extL w a]), false) else bInE rows x w c (a + 1) (S.1 ++ [nxM rows x a], S.2 ++ [extL w a])
def bfsE (rows : List (List Int)) (k : Nat) : Nat → Nat → SM → SM × Bool
  | 0, _, S => (S, true)
  | f + 1, i, S => match S.1[i]?, S.2[i]? with
    | some x, some w => if (bInE rows x w k 0 S).2 = true then bfsE rows k f (i + 1) (bInE rows x w k 0 S).1 else ((bInE rows x w k 0 S).1, false)
    | _, _ => (S, true)
def tat (x : List Nat) (s : Nat) : Nat := x.getD s 0
/-- The monoid as it grows: strings and words. -/
structure Dw (h : Nat → Option AObj) (M : Nat) (dv wv : AV) (n : Nat) (S : SM) (lo hi : Nat) : Prop where
  o : h M = some (.cells [dv, wv])
  d : Nf h dv ((S.1.map (encD n)).map .str) lo hi
  w : Nf h wv (S.2.map .str) lo hi
  dj : ∀ y, objId dv = some y → objId wv ≠ some y
  z : h 0 = some (.cells [.nils, .nils])
  mo : M < lo ∧ 0 < M
  x : isF dv = decide (S.2.length = 1) ∧ isF wv = decide (S.2.length = 1)
def ofV (n : Nat) (S : SM) : AV := .agg [.fsl (decide (S.2.length = 1)) S.1.length ((S.1.map (encD n)).map .str), .fsl (decide (S.2.length = 1)) S.2.length (S.2.map .str)]
def ofR (n : Nat) (P : SM × Bool) : AV := .tup [ofV n P.1, .bool P.2]
noncomputable def KO0 : List Item := [.code r07_Of.r17, .code .ret]
noncomputable def KO2 : List Item := .inBlock 1 :: .code r07_Of.r4 :: .inLoop r07_Of.l0 :: .inBlock 0 :: KO0
noncomputable def KO4 : List Item := .code r07_Of.r13 :: .code r07_Of.i3 :: .inBlock 3 :: .code r07_Of.r7 :: .inLoop r07_Of.l2 :: .inBlock 2 :: KO2
def ofE (rows : List (List Int)) (k : Nat) : SM × Bool := bfsE rows k 401 0 ([mv6 rows []], [[]])
end Go.Proofs.Ythnpflkpjimkfaa

/-
  PRODUCTS, ELEMENTS, IDEMPOTENTS: the specification's; lists of strings that are the same. Conditions: none.
-/
namespace Go.Proofs.Ythnpflkpjimkfaa
open Go.AM
open Go.Proofs.Try (prog)
set_option linter.all false
set_option maxRecDepth 100000
set_option maxHeartbeats 8000000

section
variable {rows : List (List Int)} {good : List Bool} {k : Nat} {S : SM}
end
def ofD (n : Nat) (S : SM) : AV := .fsl (decide (S.2.length = 1)) S.1.length ((S.1.map (encD n)).map .str)
end Go.Proofs.Ythnpflkpjimkfaa

/-
  ELEMENTS AND IDEMPOTENTS: the specification's; lists of strings that are the same. Conditions: none.
-/
namespace Go.Proofs.Ythnpflkpjimkfaa
open Go.AM
open Go.Proofs.Try (prog)
set_option linter.all false
set_option maxRecDepth 100000
set_option maxHeartbeats 8000000

def strsF (l : List (List UInt8)) : AV := .fsl false l.length (l.map .str)
/-- A list of strings, nil or not. -/
def IsS (v : AV) (l : List (List UInt8)) : Prop := (v = .nils ∧ l = []) ∨ ∃ ex, v = .fsl ex l.length (l.map .str)
theorem IsS.len {v : AV} {l : List (List UInt8)} (h : IsS v l) : lenSl v = some (.int .i64 l.length) := by rcases h with ⟨rfl, rfl⟩ | ⟨_, rfl⟩ <;> rfl
theorem IsS.closed {v : AV} {l : List (List UInt8)} (h : IsS v l) : v.closed = true := by rcases h with ⟨rfl, rfl⟩ | ⟨_, rfl⟩ <;> rfl
theorem IsS.one {v : AV} {l : List (List UInt8)} (h : IsS v l) : v.one = true := by rcases h with ⟨rfl, rfl⟩ | ⟨_, rfl⟩ <;> rfl
theorem IsS.idx {v : AV} {l : List (List UInt8)} (h : IsS v l) {i : Nat} (hi : i < l.length) (k : IntKind) : idxSl 1 v (.int k (i : Int)) = some (.fptr ((l.map .str).drop i)) := by
  rcases h with ⟨rfl, rfl⟩ | ⟨_, rfl⟩
  · simp at hi
  · simp [hi]
theorem wdsV_is (S : SM) : IsS (wdsV S) S.2 := .inr ⟨_, rfl⟩
theorem str_head {l : List (List UInt8)} {i : Nat} (hi : i < l.length) : ((l.map AV.str).drop i).head? = some (.str l[i]) := by
  rw [List.head?_drop]; simp [hi]
theorem same_loop {v v' : AV} {l : List (List UInt8)} (h : IsS v l) (h' : IsS v' l) (hl : l.length ≤ 1000) : ∀ (c j : Nat) (m : Mem), j + c = l.length →
    r07_Same.L0 v v' (.int .i64 j) m [.code r07_Same.r8, .code .ret] = some (.bool true, Mem.empty) := by
  intro c
  induction c with
  | zero =>
    intro j m h1
    have e : j = l.length := by omega
    subst e
    rw [r07_Same.L0_eq]
    simp [h.len]
    done
  | succ c ih =>
    intro j m h1
    have hj : j < l.length := by omega
    have hwj : IntKind.wrap .i64 ((j : Int) + 1) = (j : Int) + 1 := wrap_id (by omega) (by omega)
    have hd := str_head hj
    have st := fun m => ih (j + 1) m (by omega)
    simp only [Int.natCast_add, Int.cast_ofNat_Int] at st
    rw [r07_Same.L0_eq]
    simp [h.len, hj, h.idx hj, h'.idx hj, hd, hwj, st, -List.head?_drop, -List.map_drop]
    done
theorem same_refl {v v' : AV} {l : List (List UInt8)} (h : IsS v l) (h' : IsS v' l) (hl : l.length ≤ 1000) (m : Mem) : denC prog ann 38 [v, v'] m = some (.bool true, m) := by
  have lp := fun m => same_loop h h' hl l.length 0 m (by omega)
  simp only [Int.ofNat_zero, Int.cast_ofNat_Int] at lp
  rw [r07_Same.call_eq _ _ _ (by simp [h.closed, h'.closed])]
  simp [h.len, h'.len, lp]
  done
end Go.Proofs.Ythnpflkpjimkfaa

/-
  CLASSES: all of them. Conditions: none.
-/
namespace Go.Proofs.Ythnpflkpjimkfaa
open Go.AM
open Go.Proofs.Try (prog)
set_option linter.all false
set_option maxRecDepth 100000
set_option maxHeartbeats 8000000

theorem clF_deep (S : SM) (c : List Nat) (h : Nat → Option AObj) (d : Nat) : AM.deep h (d + 1) (clF S c) = some (clF S c) := rfl
theorem cl_out {nv gv : AV} {rows : List (List Int)} {k : Nat} {S : SM} (W : MW rows k S) {D : MB} (hD : Wf S.1.length D) {E : Nat → Nat → Bool} (hE : ∀ i j, i < S.1.length → j < S.1.length → (mth D i j && mth D j i) = E i j) (eq : Eqv E S.1.length) {Z lo : Nat} (hZ : Z < lo) :
    ∀ (c i : Nat) (h : Nat → Option AObj) (nx0 : Nat) (o : AV) (sn : List Bool), i + c = S.1.length → h Z = some (.cells (bls sn)) → sn.length = S.1.length → (∀ j', j' < S.1.length → bnth sn j' = (List.range i).any fun j => E j j') → Nl h o ((clsR E S.1.length i).map (clF S)) lo nx0 → lo ≤ nx0 → (0 < i → o ≠ .nils) → (clsR E S.1.length i).length ≤ i →
    brand_monoid_classes.L0 (monV nv gv S) (mbV S.1.length D) (.sl Z 1 0 S.1.length S.1.length) o (.int .i64 S.2.length) (.int .i64 i) ⟨h, nx0⟩ KC0 = some (clsV S (clsL E S.1.length), Mem.empty) := by
  intro c
  have hle := W.ok.le
  have hlen := W.ok.len
  have hpos := W.pos
  induction c with
  | zero =>
    intro i h nx0 o sn h1 h0 hl hsn N hlo hon hcl
    have e : i = S.2.length := by omega
    subst e
    have hd := N.deep 5 (fun x hx => by
      simp only [List.mem_map] at hx
      obtain ⟨b, _, rfl⟩ := hx
      exact clF_deep S b h 4) (hon (by omega))
    have e2 : clsL E S.1.length = clsR E S.1.length S.2.length := by rw [clsL, hlen]
    rw [brand_monoid_classes.L0_eq]
    simp [KC0, hd, clsV, e2]
    done
  | succ c ih =>
    intro i h nx0 o sn h1 h0 hl hsn N hlo hon hcl
    have hi : i < S.1.length := by omega
    have hi2 : i < S.2.length := by omega
    have hwi : IntKind.wrap .i64 ((i : Int) + 1) = (i : Int) + 1 := wrap_id (by omega) (by omega)
    have hany : ∀ j', ((List.range (i + 1)).any fun j => E j j') = (((List.range i).any fun j => E j j') || E i j') := fun j' => by rw [List.range_succ, List.any_append]; simp
    have hsc : (bls sn)[i]? = some (.bool (bnth sn i)) := by
      have : i < sn.length := by omega
      simp [bls, bnth, this, List.getD_eq_getElem?_getD]
    have hsi := hsn i hi
    cases q : (List.range i).any fun j => E j i with
    | true =>
      rw [q] at hsi
      rw [hsi] at hsc
      have hsx := (List.getElem?_eq_some_iff.1 hsc).2
      have hf : frstB E i = false := by rw [frstB, q]; rfl
      have e1 : clsR E S.1.length (i + 1) = clsR E S.1.length i := by rw [clsR_succ, hf]; simp
      obtain ⟨j0, hj0, hE0⟩ := List.any_eq_true.1 q
      have hj0 : j0 < i := by simpa using hj0
      have st := ih (i + 1) h nx0 o sn (by omega) h0 hl (fun j' hj' => by
        rw [hsn j' hj', hany]
        cases w : E i j' with
        | false => simp
        | true =>
          rw [Bool.or_true]
          exact List.any_eq_true.2 ⟨j0, by simpa using hj0, eq.tr j0 i j' (by omega) hi hj' hE0 w⟩) (by rw [e1]; exact N) hlo (fun _ => hon (by omega)) (by rw [e1]; omega)
      simp only [Int.natCast_add, Int.cast_ofNat_Int] at st
      rw [brand_monoid_classes.L0_eq]
      simp [hi2, hi, h0, hl, hsx, hwi]
      exact st
    | false =>
      rw [q] at hsi
      rw [hsi] at hsc
      have hsx := (List.getElem?_eq_some_iff.1 hsc).2
      have hf : frstB E i = true := by rw [frstB, q]; rfl
      have e1 : clsR E S.1.length (i + 1) = clsR E S.1.length i ++ [(List.range S.1.length).filter (E i)] := by rw [clsR_succ, hf]; simp
      have st := cl_in (nv := nv) (gv := gv) W hD hE (Z := Z) (lo := nx0) hi (by omega) (o := o) (r := some (clsV S (clsL E S.1.length), Mem.empty)) S.1.length 0 h nx0 .nils sn (by omega) h0 hl .nil (Nat.le_refl _) (fun _ => rfl) (fun h' nx' w' sn' f1 f2 f3 f4 f5 f6 => by
        have hmem : i ∈ (List.range S.1.length).filter (E i) := by simp [hi, eq.rf i hi]
        obtain ⟨R, rfl, w1, w2, w3⟩ := f4.sl (f4.nn (by
          intro e
          have := congrArg List.length e
          simp only [clV, List.length_map, List.length_nil] at this
          have := List.length_pos_of_mem hmem
          omega))
        have lcl : (clV S ((List.range S.1.length).filter (E i))).length = ((List.range S.1.length).filter (E i)).length := by simp [clV]
        have N2 : Nl (upd h' R none) o ((clsR E S.1.length i).map (clF S)) lo nx0 := N.fr (fun y y1 y2 _ => by rw [updNe (by omega), f6 y (by omega) (by omega)]) (Nat.le_refl _)
        obtain ⟨o', h2, n2, g1, g2, g3, g4, g5, g6, g7⟩ := N2.app (nx := nx') (by' := 24) (by omega) (by omega) (by simp; omega) (clF S ((List.range S.1.length).filter (E i)))
        have hZ2 : h2 Z = some (.cells (bls sn')) := by
          rw [g6 Z (fun e => by
            rcases g5 Z e with q | q
            · have := N.oid q; omega
            · omega), updNe (by omega), f1]
        have st2 := ih (i + 1) h2 n2 o' sn' (by omega) hZ2 f2 (fun j' hj' => by rw [f3 j' hj', hsn j' hj', hany]; simp) (by rw [e1, List.map_append]; exact g2) (by omega) (fun _ => g7) (by rw [e1]; simp; omega)
        simp only [Int.natCast_add, Int.cast_ofNat_Int] at st2
        have tk : (clV S ((List.range S.1.length).filter (E i))).take ((List.range S.1.length).filter (E i)).length = clV S ((List.range S.1.length).filter (E i)) := List.take_of_length_le (by omega)
        simp only [clF] at g1
        rw [brand_monoid_classes.L2_eq]
        simp only [wdsV]
        simp [KC2, ← hlen, w1, lcl, clV_closed, tk, N.one, g1, hwi]
        simp only [wdsV, ← hlen] at st2
        exact st2)
      simp only [Int.ofNat_zero, Int.cast_ofNat_Int] at st
      rw [brand_monoid_classes.L0_eq]
      simp only [wdsV, monV] at st ⊢
      simp [hi2, hi, h0, hl, hsx]
      exact st
theorem classes_spec {nv gv : AV} {ps : List AV} {rows : List (List Int)} {good : List Bool} {k : Nat} (hn : IsRows nv ps rows) (hg : IsB gv good) (v : VB rows good k) {S : SM} (W : MW rows k S) (lf rt : Bool) {E : Nat → Nat → Bool} (hE : ∀ i j, i < S.1.length → j < S.1.length → (mth (belM rows S k lf rt) i j && mth (belM rows S k lf rt) j i) = E i j) (eq : Eqv E S.1.length) (m : Mem) :
    denC prog ann 89 [monV nv gv S, .bool lf, .bool rt] m = some (clsV S (clsL E S.1.length), m) := by
  have hle := W.ok.le
  have hlen := W.ok.len
  have hb := fun m => below_spec hn hg v W lf rt m
  obtain ⟨hD, _⟩ := belM_law v W lf rt
  have st := cl_out (nv := nv) (gv := gv) W hD hE eq (Z := 0) (lo := 1) (by omega) S.1.length 0 (upd Mem.empty.h 0 (some (.cells (List.replicate S.1.length (.bool false))))) 1 .nils (List.replicate S.1.length false) (by omega) (by simp [bls]) (by simp) (fun j' hj' => by simp [bnth, List.getD_eq_getElem?_getD, hj']) .nil (by omega) (by omega) (by simp [clsR])
  simp only [Int.ofNat_zero, Int.cast_ofNat_Int, KC0] at st
  rw [monV, brand_monoid_classes.call_eq _ _ _ _ (by simp)]
  simp only [wdsV, monV] at st hb ⊢
  simp [← hlen, hb, show S.1.length ≤ 4611686018427387904 by omega, show S.1.length ≤ 70368744177664 by omega]
  simp only [← hlen] at st
  simp [← hlen] at hb
  first
    | (rw [st]; rfl)
    | (simp [hb, show S.1.length ≤ 4611686018427387904 by omega, show S.1.length ≤ 70368744177664 by omega]; rw [st]; rfl)
end Go.Proofs.Ythnpflkpjimkfaa

/-
  CLASSES: Left, Right, Classes; lists of lists that are the same. Conditions: none.
-/
namespace Go.Proofs.Ythnpflkpjimkfaa
open Go.AM
open Go.Proofs.Try (prog)
set_option linter.all false
set_option maxRecDepth 100000
set_option maxHeartbeats 8000000

theorem Rch.trans {stp : Nat → List Nat} {i j k : Nat} (h : Rch stp i j) (g : Rch stp j k) : Rch stp i k := by
  induction g with
  | refl => exact h
  | step _ hk ih => exact ih.step hk
section
variable {rows : List (List Int)} {good : List Bool} {k : Nat} {S : SM}
theorem Blw.rf (W : MW rows k S) {lf rt : Bool} {i : Nat} (hi : i < S.1.length) : Blw rows S k lf rt i i := ⟨[], [], okW_nil k, okW_nil k, fun _ => rfl, fun _ => rfl, by simpa using W.self hi⟩
theorem Blw.tr (v : VB rows good k) (W : MW rows k S) {lf rt : Bool} {i j l : Nat} (hi : i < S.1.length) (hj : j < S.1.length) (h : Blw rows S k lf rt i j) (g : Blw rows S k lf rt j l) : Blw rows S k lf rt i l :=
  blw_of_rch v W hi ((rch_of_blw v W hi h).trans (rch_of_blw v W hj g))
open Classical in
noncomputable def eqB (rows : List (List Int)) (S : SM) (k : Nat) (lf rt : Bool) (i j : Nat) : Bool := decide (Blw rows S k lf rt i j) && decide (Blw rows S k lf rt j i)
theorem eqB_eqv (v : VB rows good k) (W : MW rows k S) (lf rt : Bool) : Eqv (eqB rows S k lf rt) S.1.length := by
  refine ⟨fun i hi => ?_, fun i j _ _ h => ?_, fun i j l hi hj hl h g => ?_⟩
  · simp [eqB, Blw.rf W hi]
  · simp only [eqB, Bool.and_eq_true, decide_eq_true_eq] at h ⊢
    exact ⟨h.2, h.1⟩
  · simp only [eqB, Bool.and_eq_true, decide_eq_true_eq] at h g ⊢
    exact ⟨h.1.tr v W hi hj g.1, g.2.tr v W hl hj h.2⟩
end
noncomputable def clsM (rows : List (List Int)) (S : SM) (k : Nat) (lf rt : Bool) : List (List Nat) := clsL (eqB rows S k lf rt) S.1.length
theorem classed_spec {nv gv : AV} {ps : List AV} {rows : List (List Int)} {good : List Bool} (hn : IsRows nv ps rows) (hg : IsB gv good) (hl : rows.length ≤ 1000) (hgl : good.length ≤ 1000) (hr : ∀ i, i < rows.length → (cth rows i).length ≤ 1000) (lf rt : Bool) (m : Mem) :
    denC prog ann 76 [.agg [nv, gv], .bool lf, .bool rt] m = some (if validB rows good = true then (match madeB rows good (cth rows 0).length with | some S => .tup [clsV S (clsM (rowsM rows good (cth rows 0).length) S (cth rows 0).length lf rt), .int .i64 0] | none => .tup [.nils, .int .i64 7]) else .tup [.nils, .int .i64 1], m) := by
  have h1 := fun m => made_spec hn hg hl hgl hr m
  rw [brand_classed.call_eq _ _ _ _ (by simp [hn.closed, hg.closed])]
  cases c0 : validB rows good with
  | false =>
    rw [c0] at h1
    simp [hn.one, hg.one, hn.closed, hg.closed, h1]
    done
  | true =>
    rw [c0, if_pos rfl] at h1
    have v := VB.of c0
    cases e : madeB rows good (cth rows 0).length with
    | none =>
      rw [e] at h1
      simp only [mdR] at h1
      simp [hn.one, hg.one, hn.closed, hg.closed, h1]
      done
    | some S =>
      have W := MW_of v e
      have vm := VB_M v
      rw [e] at h1
      simp only [mdR, monV] at h1
      have hc := fun m => classes_spec (isRows_M rows good (cth rows 0).length) (isB_M rows good (cth rows 0).length) vm W lf rt (E := eqB (rowsM rows good (cth rows 0).length) S (cth rows 0).length lf rt) (fun i j hi hj => by rw [(belM_law vm W lf rt).2 i j hi hj, (belM_law vm W lf rt).2 j i hj hi, eqB]) (eqB_eqv vm W lf rt) m
      simp only [monV, clsV] at hc
      simp [hn.one, hg.one, hn.closed, hg.closed, h1, hc, clsV, clsM]
      done
noncomputable def clsRes (rows : List (List Int)) (good : List Bool) (lf rt : Bool) : AV := if validB rows good = true then (match madeB rows good (cth rows 0).length with | some S => .tup [clsV S (clsM (rowsM rows good (cth rows 0).length) S (cth rows 0).length lf rt), .int .i64 0] | none => .tup [.nils, .int .i64 7]) else .tup [.nils, .int .i64 1]
theorem classes45_spec {nv gv : AV} {ps : List AV} {rows : List (List Int)} {good : List Bool} (hn : IsRows nv ps rows) (hg : IsB gv good) (hl : rows.length ≤ 1000) (hgl : good.length ≤ 1000) (hr : ∀ i, i < rows.length → (cth rows i).length ≤ 1000) (m : Mem) : denC prog ann 45 [.agg [nv, gv]] m = some (clsRes rows good true true, m) := by
  have h1 := fun m => classed_spec hn hg hl hgl hr true true m
  rw [brand_Classes.call_eq _ _ (by simp [hn.closed, hg.closed])]
  unfold clsRes
  cases c0 : validB rows good with
  | false =>
    rw [c0] at h1
    simp [hn.one, hg.one, hn.closed, hg.closed, h1]
    done
  | true =>
    rw [c0, if_pos rfl] at h1
    cases e : madeB rows good (cth rows 0).length with
    | none =>
      rw [e] at h1
      simp [hn.one, hg.one, hn.closed, hg.closed, h1]
      done
    | some S =>
      rw [e] at h1
      simp only [clsV] at h1 ⊢
      simp [hn.one, hg.one, hn.closed, hg.closed, h1]
      done
/-- A list of lists of strings. -/
def IsSS (v : AV) (l : List (List (List UInt8))) : Prop := (v = .nils ∧ l = []) ∨ ∃ ex cs, v = .fsl ex l.length cs ∧ cs.length = l.length ∧ ∀ i (hi : i < l.length), ∃ x, cs[i]? = some x ∧ IsS x l[i]
theorem IsSS.len {v : AV} {l : List (List (List UInt8))} (h : IsSS v l) : lenSl v = some (.int .i64 l.length) := by rcases h with ⟨rfl, rfl⟩ | ⟨_, _, rfl, _⟩ <;> rfl
theorem IsSS.closed {v : AV} {l : List (List (List UInt8))} (h : IsSS v l) : v.closed = true := by rcases h with ⟨rfl, rfl⟩ | ⟨_, _, rfl, _⟩ <;> rfl
theorem IsSS.one {v : AV} {l : List (List (List UInt8))} (h : IsSS v l) : v.one = true := by rcases h with ⟨rfl, rfl⟩ | ⟨_, _, rfl, _⟩ <;> rfl
theorem IsSS.at {v : AV} {l : List (List (List UInt8))} (h : IsSS v l) {i : Nat} (hi : i < l.length) : ∃ cs x, idxSl 1 v (.int .i64 (i : Int)) = some (.fptr cs) ∧ cs.head? = some x ∧ IsS x l[i] := by
  rcases h with ⟨rfl, rfl⟩ | ⟨_, cs, rfl, h1, h2⟩
  · simp at hi
  · obtain ⟨x, hx, hs⟩ := h2 i hi
    exact ⟨cs.drop i, x, by simp [hi], by rw [List.head?_drop]; exact hx, hs⟩
theorem samel_loop {v v' : AV} {l : List (List (List UInt8))} (h : IsSS v l) (h' : IsSS v' l) (hl : l.length ≤ 1000) (hll : ∀ x ∈ l, x.length ≤ 1000) : ∀ (c j : Nat) (m : Mem), j + c = l.length →
    r07_SameLists.L0 v v' (.int .i64 j) m [.code r07_SameLists.r8, .code .ret] = some (.bool true, Mem.empty) := by
  intro c
  induction c with
  | zero =>
    intro j m h1
    have e : j = l.length := by omega
    subst e
    rw [r07_SameLists.L0_eq]
    simp [h.len]
    done
  | succ c ih =>
    intro j m h1
    have hj : j < l.length := by omega
    have hwj : IntKind.wrap .i64 ((j : Int) + 1) = (j : Int) + 1 := wrap_id (by omega) (by omega)
    obtain ⟨cs, x, e1, e2, e3⟩ := h.at hj
    obtain ⟨cs', x', e1', e2', e3'⟩ := h'.at hj
    have hs := fun m => same_refl e3 e3' (hll _ (List.getElem_mem hj)) m
    have st := fun m => ih (j + 1) m (by omega)
    simp only [Int.natCast_add, Int.cast_ofNat_Int] at st
    rw [r07_SameLists.L0_eq]
    simp [h.len, hj, e1, e2, e1', e2', e3.closed, e3'.closed, hs, hwj, st]
    done
theorem samel_refl {v v' : AV} {l : List (List (List UInt8))} (h : IsSS v l) (h' : IsSS v' l) (hl : l.length ≤ 1000) (hll : ∀ x ∈ l, x.length ≤ 1000) (m : Mem) : denC prog ann 46 [v, v'] m = some (.bool true, m) := by
  have lp := fun m => samel_loop h h' hl hll l.length 0 m (by omega)
  simp only [Int.ofNat_zero, Int.cast_ofNat_Int] at lp
  rw [r07_SameLists.call_eq _ _ _ (by simp [h.closed, h'.closed])]
  simp [h.len, h'.len, lp]
  done
def clsS (S : SM) (l : List (List Nat)) : List (List (List UInt8)) := l.map fun c => c.map (wrd S)
theorem clsV_is (S : SM) (l : List (List Nat)) : IsSS (clsV S l) (clsS S l) := by
  refine .inr ⟨false, l.map (clF S), by simp [clsV, clsS], by simp [clsS], fun i hi => ?_⟩
  have hi' : i < l.length := by simpa [clsS] using hi
  refine ⟨clF S l[i], by simp [hi'], ?_⟩
  refine .inr ⟨false, ?_⟩
  simp [clF, clV, clsS]
theorem clsL_few (E : Nat → Nat → Bool) (n : Nat) : (clsL E n).length ≤ n ∧ ∀ c ∈ clsL E n, c.length ≤ n := by
  refine ⟨?_, fun c hc => ?_⟩
  · have := List.length_filter_le (frstB E) (List.range n)
    simpa [clsL, clsR] using this
  · simp only [clsL, clsR, List.mem_map] at hc
    obtain ⟨i, _, rfl⟩ := hc
    have := List.length_filter_le (E i) (List.range n)
    simpa using this
end Go.Proofs.Ythnpflkpjimkfaa

/-
  BODIES OF FUNCTIONS OF THE PROGRAM AS SMALL OPERATIONS (written by gen.py; checked by the kernel against the program). Conditions: none.
-/
namespace Go.Proofs.Ythnpflkpjimkfaa
open Go.AM
open Go.Proofs.Try (prog)
set_option maxRecDepth 100000
set_option linter.all false

namespace l07_BrandTurned
/-- pommel/pommellaw07.BrandTurned -/
noncomputable def b : Code := (Try.f12.body).getD .skip
theorem hf : prog.funcs[12]? = some Try.f12 := by kernel_rfl
noncomputable def r0 : Code := findReg b 0
noncomputable def r1 : Code := findReg b 1
noncomputable def r2 : Code := findReg b 2
noncomputable def r3 : Code := findReg b 3
noncomputable def k0 : Code := findBlk b 0
noncomputable def l0 : Code := loopOf k0
noncomputable def L0 (x3 x4 x5 : AV) (m : Mem) (K : List Item) : Option Res := den prog ann 12 (.code l0 :: .inLoop l0 :: .inBlock 0 :: K) ⟨[(3, x3), (4, x4), (5, x5)], 115, m⟩
noncomputable def r4 : Code := findReg b 4
noncomputable def i0 : Code := findCond b 0
noncomputable def i0t : Code := thenOf i0
noncomputable def i0e : Code := elseOf i0
noncomputable def k1 : Code := findBlk b 1
noncomputable def r6 : Code := findReg b 6
noncomputable def r5 : Code := findReg b 5
noncomputable def r7 : Code := findReg b 7
noncomputable def r8 : Code := findReg b 8
noncomputable def r9 : Code := findReg b 9
noncomputable def r10 : Code := findReg b 10
noncomputable def r11 : Code := findReg b 11
noncomputable def r12 : Code := findReg b 12
noncomputable def r13 : Code := findReg b 13
theorem b_eq (K : List Item) (s : St) : den prog ann 12 (.code b :: K) s = den prog ann 12 (.code r0 :: .code r1 :: .code r2 :: .code r3 :: .code k0 :: .code r7 :: .code r8 :: .code r9 :: .code r10 :: .code r11 :: .code r12 :: .code r13 :: .code .ret :: K) s := den_flat hf (l := [r0, r1, r2, r3, k0, r7, r8, r9, r10, r11, r12, r13, .ret]) (by kernel_rfl) K s
theorem r0_eq (K : List Item) (s : St) : den prog ann 12 (.code r0 :: K) s = mreg prog ann 12 none [] none [] [
    ⟨some 1, none, .v fun s => frozenPtr (s.get 0)⟩,
    ⟨some 2, none, .v fun s => some (.bool false)⟩] K s := (den_reg hf _ K s).trans (by kernel_rfl)
theorem r1_eq (K : List Item) (s : St) : den prog ann 12 (.code r1 :: K) s = mreg prog ann 12 none [] none [3] [
    ⟨some 18, none, .v fun s => loadF true 4 (s.get 1)⟩,
    ⟨some 19, none, .c 0 (fun s => (.fn 22 [] [])) fun s => [(s.get 18)]⟩,
    ⟨some 3, none, .w false none fun s => newPtr s.m [.nils, .nils]⟩,
    ⟨none, none, .w false none fun s => stA true 2 s.m (s.get 3) (s.get 19)⟩] K s := (den_reg hf _ K s).trans (by kernel_rfl)
theorem r2_eq (K : List Item) (s : St) : den prog ann 12 (.code r2 :: K) s = mreg prog ann 12 none [] none [] [
    ⟨some 20, none, .v fun s => fieldA 0 (s.get 3)⟩,
    ⟨some 21, none, .v fun s => loadF false 1 (s.get 20)⟩,
    ⟨some 22, none, .v fun s => bldA (plc [(0, 1), (1, 1)]) [.nils, .nils] [(0, (s.get 21))]⟩,
    ⟨some 4, none, .w false none fun s => newPtr s.m [.nils, .nils]⟩,
    ⟨none, none, .w false none fun s => stA true 2 s.m (s.get 4) (s.get 22)⟩] K s := (den_reg hf _ K s).trans (by kernel_rfl)
theorem r3_eq (K : List Item) (s : St) : den prog ann 12 (.code r3 :: K) s = mreg prog ann 12 none [] none [] [
    ⟨some 5, none, .v fun s => some (.int .i64 0)⟩] K s := (den_reg hf _ K s).trans (by kernel_rfl)
theorem k0_eq (K : List Item) (t : List (Nat × AV)) (m : Mem) : den prog ann 12 (.code k0 :: K) ⟨t, 115, m⟩ = L0 (get t 3) (get t 4) (get t 5) m K := den_loop_enter hf (b := l0) (id := 4) (l := [3, 4, 5]) (by kernel_rfl) (by kernel_rfl) (by kernel_rfl) K _
theorem l0_eq (K : List Item) (t : List (Nat × AV)) (m : Mem) : den prog ann 12 (.inLoop l0 :: .inBlock 0 :: K) ⟨t, 115, m⟩ = L0 (get t 3) (get t 4) (get t 5) m K := den_loop_again hf (id := 4) (l := [3, 4, 5]) (by kernel_rfl) (by kernel_rfl) (.inBlock 0 :: K) _
theorem L0_eq (x3 x4 x5 : AV) (m : Mem) (K : List Item) : L0 x3 x4 x5 m K = den prog ann 12 (.code r4 :: .code i0 :: .code k1 :: .code r5 :: .inLoop l0 :: .inBlock 0 :: K) ⟨[(3, x3), (4, x4), (5, x5)], 115, m⟩ := den_flat hf (l := [r4, i0, k1, r5]) (by kernel_rfl) _ _
theorem r4_eq (K : List Item) (s : St) : den prog ann 12 (.code r4 :: K) s = mreg prog ann 12 (some [3, 4, 5]) [] none [] [
    ⟨some 23, none, .v fun s => some (s.get 5)⟩,
    ⟨some 24, none, .v fun s => fieldA 1 (s.get 3)⟩,
    ⟨some 25, none, .v fun s => loadF false 1 (s.get 24)⟩,
    ⟨some 26, none, .v fun s => lenSl (s.get 25)⟩,
    ⟨some 27, none, .v fun s => binA prog .lss 3 (s.get 23) (s.get 26)⟩] K s := (den_reg hf _ K s).trans (by kernel_rfl)
theorem i0_eq (K : List Item) (s : St) : den prog ann 12 (.code i0 :: K) s = ifV prog ann 12 27 i0t i0e K s (s.get 27) := den_if hf (by kernel_rfl) K s
theorem i0t_eq (K : List Item) (s : St) : den prog ann 12 (.code i0t :: K) s = den prog ann 12 (K) s := den_flat hf (l := []) (by kernel_rfl) K s
theorem i0e_eq (K : List Item) (s : St) : den prog ann 12 (.code i0e :: K) s = den prog ann 12 (.code (.exit 0) :: K) s := den_flat hf (l := [(.exit 0)]) (by kernel_rfl) K s
theorem k1_eq (K : List Item) (s : St) : den prog ann 12 (.code k1 :: K) s = den prog ann 12 (.code r6 :: .inBlock 1 :: K) s := den_blk hf (b := blkOf k1) (l := [r6]) (by kernel_rfl) (by kernel_rfl) K s
theorem r6_draw : drawOk (fun g => (ann g).pure) (modeOf (ann 12) (idOf r6)) (frzOf (ann 12) (idOf r6)) (opsOf r6) = true := drawOk_of (an := [0, 1, 0, 4, 0, 28, 60, 124, 252, 511, 1023, 2047]) (by kernel_rfl) (by kernel_rfl)
theorem r6_eq (K : List Item) (s : St) : den prog ann 12 (.code r6 :: K) s = mreg prog ann 12 none [] (some 12) [] [
    ⟨some 30, none, .v fun s => fieldA 1 (s.get 4)⟩,
    ⟨some 31, none, .v fun s => loadA false 1 s.m (s.get 30)⟩,
    ⟨some 32, none, .v fun s => fieldA 1 (s.get 3)⟩,
    ⟨some 33, none, .v fun s => loadF false 1 (s.get 32)⟩,
    ⟨some 34, none, .v fun s => some (s.get 5)⟩,
    ⟨some 35, none, .v fun s => idxSl 1 (s.get 33) (s.get 34)⟩,
    ⟨some 36, none, .v fun s => loadA false 1 s.m (s.get 35)⟩,
    ⟨some 37, none, .v fun s => unA .not (s.get 36)⟩,
    ⟨some 38, none, .v fun s => bslF 1 (bslA 1 1 [.bool false] [(0, (s.get 37))])⟩,
    ⟨some 39, none, .w false (some 9) fun s => appendA 1 1 s.m (s.get 31) (s.get 38)⟩,
    ⟨some 40, none, .v fun s => fieldA 1 (s.get 4)⟩,
    ⟨none, none, .w false (some 11) fun s => stA false 1 s.m (s.get 40) (s.get 39)⟩] K s := (den_regD hf r6_draw K s).trans (by kernel_rfl)
theorem r5_eq (K : List Item) (s : St) : den prog ann 12 (.code r5 :: K) s = mreg prog ann 12 (some [3, 4, 5]) [] none [] [
    ⟨some 28, none, .v fun s => some (s.get 5)⟩,
    ⟨some 29, none, .v fun s => binA prog .add 3 (s.get 28) (.int .i64 1)⟩,
    ⟨some 5, none, .v fun s => some (s.get 29)⟩] K s := (den_reg hf _ K s).trans (by kernel_rfl)
theorem r7_eq (K : List Item) (s : St) : den prog ann 12 (.code r7 :: K) s = mreg prog ann 12 (some [3, 4]) [2004, 4] none [] [
    ⟨some 42, none, .v fun s => loadF true 2 (s.get 3)⟩,
    ⟨some 43, none, .c 2 (fun s => (.fn 36 [] [])) fun s => [(s.get 42)]⟩,
    ⟨some 41, none, .v fun s => some (s.get 43)⟩,
    ⟨some 44, none, .v fun s => extA (s.get 41) 0⟩,
    ⟨some 45, none, .v fun s => extA (s.get 41) 1⟩,
    ⟨some 6, none, .v fun s => some (s.get 44)⟩,
    ⟨some 7, none, .v fun s => some (s.get 45)⟩] K s := (den_reg hf _ K s).trans (by kernel_rfl)
theorem r8_eq (K : List Item) (s : St) : den prog ann 12 (.code r8 :: K) s = mreg prog ann 12 none [] none [] [
    ⟨some 47, none, .v fun s => loadA true 2 s.m (s.get 4)⟩,
    ⟨some 48, none, .c 2 (fun s => (.fn 36 [] [])) fun s => [(s.get 47)]⟩,
    ⟨some 46, none, .v fun s => some (s.get 48)⟩,
    ⟨some 49, none, .v fun s => extA (s.get 46) 0⟩,
    ⟨some 50, none, .v fun s => extA (s.get 46) 1⟩,
    ⟨some 8, none, .v fun s => some (s.get 49)⟩,
    ⟨some 9, none, .v fun s => some (s.get 50)⟩] K s := (den_reg hf _ K s).trans (by kernel_rfl)
theorem r9_eq (K : List Item) (s : St) : den prog ann 12 (.code r9 :: K) s = mreg prog ann 12 none [] none [] [
    ⟨some 52, none, .v fun s => loadF true 2 (s.get 3)⟩,
    ⟨some 53, none, .c 2 (fun s => (.fn 45 [] [])) fun s => [(s.get 52)]⟩,
    ⟨some 51, none, .v fun s => some (s.get 53)⟩,
    ⟨some 54, none, .v fun s => extA (s.get 51) 0⟩,
    ⟨some 55, none, .v fun s => extA (s.get 51) 1⟩,
    ⟨some 10, none, .v fun s => some (s.get 54)⟩,
    ⟨some 11, none, .v fun s => some (s.get 55)⟩] K s := (den_reg hf _ K s).trans (by kernel_rfl)
theorem r10_eq (K : List Item) (s : St) : den prog ann 12 (.code r10 :: K) s = mreg prog ann 12 none [] none [] [
    ⟨some 57, none, .v fun s => loadA true 2 s.m (s.get 4)⟩,
    ⟨some 58, none, .c 2 (fun s => (.fn 45 [] [])) fun s => [(s.get 57)]⟩,
    ⟨some 56, none, .v fun s => some (s.get 58)⟩,
    ⟨some 59, none, .v fun s => extA (s.get 56) 0⟩,
    ⟨some 60, none, .v fun s => extA (s.get 56) 1⟩,
    ⟨some 12, none, .v fun s => some (s.get 59)⟩,
    ⟨some 13, none, .v fun s => some (s.get 60)⟩] K s := (den_reg hf _ K s).trans (by kernel_rfl)
theorem r11_eq (K : List Item) (s : St) : den prog ann 12 (.code r11 :: K) s = mreg prog ann 12 none [] none [] [
    ⟨some 62, none, .v fun s => loadF true 2 (s.get 3)⟩,
    ⟨some 63, none, .c 0 (fun s => (.fn 23 [] [])) fun s => [(s.get 62)]⟩,
    ⟨some 61, none, .v fun s => some (s.get 63)⟩,
    ⟨some 64, none, .v fun s => extA (s.get 61) 0⟩,
    ⟨some 65, none, .v fun s => extA (s.get 61) 1⟩,
    ⟨some 14, none, .v fun s => some (s.get 64)⟩,
    ⟨some 15, none, .v fun s => some (s.get 65)⟩] K s := (den_reg hf _ K s).trans (by kernel_rfl)
theorem r12_eq (K : List Item) (s : St) : den prog ann 12 (.code r12 :: K) s = mreg prog ann 12 none [] none [] [
    ⟨some 67, none, .v fun s => loadA true 2 s.m (s.get 4)⟩,
    ⟨some 68, none, .c 0 (fun s => (.fn 23 [] [])) fun s => [(s.get 67)]⟩,
    ⟨some 66, none, .v fun s => some (s.get 68)⟩,
    ⟨some 69, none, .v fun s => extA (s.get 66) 0⟩,
    ⟨some 70, none, .v fun s => extA (s.get 66) 1⟩,
    ⟨some 16, none, .v fun s => some (s.get 69)⟩,
    ⟨some 17, none, .v fun s => some (s.get 70)⟩] K s := (den_reg hf _ K s).trans (by kernel_rfl)
theorem r13_eq (K : List Item) (s : St) : den prog ann 12 (.code r13 :: K) s = mreg prog ann 12 none [] none [] [
    ⟨some 71, none, .v fun s => some (s.get 7)⟩,
    ⟨some 72, none, .v fun s => some (s.get 9)⟩,
    ⟨some 73, none, .v fun s => binA prog .eql 27 (s.get 71) (s.get 72)⟩,
    ⟨some 74, none, .v fun s => some (s.get 73)⟩,
    ⟨some 75, some (74, true), .v fun s => some (s.get 7)⟩,
    ⟨some 76, some (74, true), .v fun s => binA prog .eql 27 (s.get 75) (.int .i64 0)⟩,
    ⟨some 77, some (74, true), .v fun s => some (s.get 76)⟩,
    ⟨some 78, some (77, false), .v fun s => some (s.get 7)⟩,
    ⟨some 79, some (77, false), .v fun s => binA prog .eql 27 (s.get 78) (.int .i64 7)⟩,
    ⟨some 80, some (74, true), .v fun s => pickA (s.get 77) (.bool true) (s.get 79)⟩,
    ⟨some 81, none, .v fun s => pickA (s.get 74) (s.get 80) (.bool false)⟩,
    ⟨some 82, none, .v fun s => some (s.get 81)⟩,
    ⟨some 83, some (82, true), .v fun s => some (s.get 6)⟩,
    ⟨some 84, some (82, true), .v fun s => some (s.get 8)⟩,
    ⟨some 85, some (82, true), .c 0 (fun s => (.fn 38 [] [])) fun s => [(s.get 83), (s.get 84)]⟩,
    ⟨some 86, none, .v fun s => pickA (s.get 82) (s.get 85) (.bool false)⟩,
    ⟨some 87, none, .v fun s => some (s.get 86)⟩,
    ⟨some 88, some (87, true), .v fun s => some (s.get 11)⟩,
    ⟨some 89, some (87, true), .v fun s => some (s.get 7)⟩,
    ⟨some 90, some (87, true), .v fun s => binA prog .eql 27 (s.get 88) (s.get 89)⟩,
    ⟨some 91, none, .v fun s => pickA (s.get 87) (s.get 90) (.bool false)⟩,
    ⟨some 92, none, .v fun s => some (s.get 91)⟩,
    ⟨some 93, some (92, true), .v fun s => some (s.get 13)⟩,
    ⟨some 94, some (92, true), .v fun s => some (s.get 7)⟩,
    ⟨some 95, some (92, true), .v fun s => binA prog .eql 27 (s.get 93) (s.get 94)⟩,
    ⟨some 96, none, .v fun s => pickA (s.get 92) (s.get 95) (.bool false)⟩,
    ⟨some 97, none, .v fun s => some (s.get 96)⟩,
    ⟨some 98, some (97, true), .v fun s => some (s.get 10)⟩,
    ⟨some 99, some (97, true), .v fun s => some (s.get 12)⟩,
    ⟨some 100, some (97, true), .c 0 (fun s => (.fn 46 [] [])) fun s => [(s.get 98), (s.get 99)]⟩,
    ⟨some 101, none, .v fun s => pickA (s.get 97) (s.get 100) (.bool false)⟩,
    ⟨some 102, none, .v fun s => some (s.get 101)⟩,
    ⟨some 103, some (102, true), .v fun s => some (s.get 14)⟩,
    ⟨some 104, some (102, true), .v fun s => some (s.get 16)⟩,
    ⟨some 105, some (102, true), .v fun s => binA prog .eql 9 (s.get 103) (s.get 104)⟩,
    ⟨some 106, none, .v fun s => pickA (s.get 102) (s.get 105) (.bool false)⟩,
    ⟨some 107, none, .v fun s => some (s.get 106)⟩,
    ⟨some 108, some (107, true), .v fun s => some (s.get 15)⟩,
    ⟨some 109, some (107, true), .v fun s => some (s.get 17)⟩,
    ⟨some 110, some (107, true), .v fun s => binA prog .eql 27 (s.get 108) (s.get 109)⟩,
    ⟨some 111, none, .v fun s => pickA (s.get 107) (s.get 110) (.bool false)⟩,
    ⟨some 112, none, .v fun s => some (s.get 111)⟩,
    ⟨some 113, some (112, true), .c 0 (fun s => (.fn 21 [] [])) fun s => []⟩,
    ⟨some 114, none, .v fun s => pickA (s.get 112) (s.get 113) (.bool false)⟩,
    ⟨some 2, none, .v fun s => some (s.get 114)⟩] K s := (den_reg hf _ K s).trans (by kernel_rfl)
theorem ret_eq (K : List Item) (s : St) : den prog ann 12 (.code .ret :: K) s = finM true [fun s => some (s.get 2)] s := (den_ret hf K s).trans (by kernel_rfl)
theorem nil_eq (s : St) : den prog ann 12 [] s = finM true [fun s => some (s.get 2)] s := (den_nil hf s).trans (by kernel_rfl)
theorem inBlock_eq (id : Nat) (K : List Item) (s : St) : den prog ann 12 (.inBlock id :: K) s = den prog ann 12 K s := den_inBlock hf id K s
theorem exit_eq (id : Nat) (K : List Item) (s : St) : den prog ann 12 (.code (.exit id) :: K) s = exitV prog ann 12 (exitTo id K) s := den_exitV hf id K s
theorem call_eq (v0 : AV) (m : Mem) (h : closedL [v0] = true) : denC prog ann 12 [v0] m = (den prog ann 12 [.code b] ⟨[(0, v0)], 115, Mem.empty⟩).bind fun r => some (r.1, m) := (denC_pure hf (b := b) (by kernel_rfl) (by kernel_rfl) (by kernel_rfl) h m).trans (by kernel_rfl)
theorem pure_eq : (ann 12).pure = true := by kernel_rfl
attribute [simp] b_eq r0_eq r1_eq r2_eq r3_eq k0_eq l0_eq r4_eq i0_eq i0t_eq i0e_eq k1_eq r6_eq r5_eq r7_eq r8_eq r9_eq r10_eq r11_eq r12_eq r13_eq ret_eq nil_eq inBlock_eq exit_eq pure_eq
end l07_BrandTurned

namespace l07_Plan_made
/-- (pommel/pommellaw07.Plan).made -/
noncomputable def b : Code := (Try.f22.body).getD .skip
theorem hf : prog.funcs[22]? = some Try.f22 := by kernel_rfl
noncomputable def r0 : Code := findReg b 0
noncomputable def r1 : Code := findReg b 1
noncomputable def r2 : Code := findReg b 2
noncomputable def r3 : Code := findReg b 3
noncomputable def k0 : Code := findBlk b 0
noncomputable def l0 : Code := loopOf k0
noncomputable def L0 (x1 x2 x3 x4 x5 x6 : AV) (m : Mem) (K : List Item) : Option Res := den prog ann 22 (.code l0 :: .inLoop l0 :: .inBlock 0 :: K) ⟨[(1, x1), (2, x2), (3, x3), (4, x4), (5, x5), (6, x6)], 79, m⟩
noncomputable def r4 : Code := findReg b 4
noncomputable def i0 : Code := findCond b 0
noncomputable def i0t : Code := thenOf i0
noncomputable def i0e : Code := elseOf i0
noncomputable def k1 : Code := findBlk b 1
noncomputable def r6 : Code := findReg b 6
noncomputable def r7 : Code := findReg b 7
noncomputable def k2 : Code := findBlk b 2
noncomputable def l2 : Code := loopOf k2
noncomputable def L2 (x1 x2 x3 x4 x5 x6 x7 x8 : AV) (m : Mem) (K : List Item) : Option Res := den prog ann 22 (.code l2 :: .inLoop l2 :: .inBlock 2 :: K) ⟨[(1, x1), (2, x2), (3, x3), (4, x4), (5, x5), (6, x6), (7, x7), (8, x8)], 79, m⟩
noncomputable def r8 : Code := findReg b 8
noncomputable def i1 : Code := findCond b 1
noncomputable def i1t : Code := thenOf i1
noncomputable def i1e : Code := elseOf i1
noncomputable def k3 : Code := findBlk b 3
noncomputable def r10 : Code := findReg b 10
noncomputable def r11 : Code := findReg b 11
noncomputable def r12 : Code := findReg b 12
noncomputable def i2 : Code := findCond b 2
noncomputable def i2t : Code := thenOf i2
noncomputable def i2e : Code := elseOf i2
noncomputable def r13 : Code := findReg b 13
noncomputable def r14 : Code := findReg b 14
noncomputable def i3 : Code := findCond b 3
noncomputable def i3t : Code := thenOf i3
noncomputable def i3e : Code := elseOf i3
noncomputable def r15 : Code := findReg b 15
noncomputable def r16 : Code := findReg b 16
noncomputable def r9 : Code := findReg b 9
noncomputable def r17 : Code := findReg b 17
noncomputable def r5 : Code := findReg b 5
noncomputable def r18 : Code := findReg b 18
theorem b_eq (K : List Item) (s : St) : den prog ann 22 (.code b :: K) s = den prog ann 22 (.code r0 :: .code r1 :: .code r2 :: .code r3 :: .code k0 :: .code r18 :: .code .ret :: K) s := den_flat hf (l := [r0, r1, r2, r3, k0, r18, .ret]) (by kernel_rfl) K s
theorem r0_eq (K : List Item) (s : St) : den prog ann 22 (.code r0 :: K) s = mreg prog ann 22 none [] none [] [
    ⟨some 1, none, .v fun s => frozenPtr (s.get 0)⟩,
    ⟨some 2, none, .w false none fun s => newPtr s.m [.nils, .nils]⟩] K s := (den_reg hf _ K s).trans (by kernel_rfl)
theorem r1_draw : drawOk (fun g => (ann g).pure) (modeOf (ann 22) (idOf r1)) (frzOf (ann 22) (idOf r1)) (opsOf r1) = true := drawOk_of (an := [0, 1, 3, 7, 15, 0, 32, 96, 224, 480, 31, 2047]) (by kernel_rfl) (by kernel_rfl)
theorem r1_eq (K : List Item) (s : St) : den prog ann 22 (.code r1 :: K) s = mreg prog ann 22 none [] (some 12) [] [
    ⟨some 11, none, .v fun s => fieldA 0 (s.get 1)⟩,
    ⟨some 12, none, .v fun s => loadF false 1 (s.get 11)⟩,
    ⟨some 13, none, .v fun s => convInt .i64 (s.get 12)⟩,
    ⟨some 14, none, .v fun s => binA prog .rem 3 (s.get 13) (.int .i64 6)⟩,
    ⟨some 15, none, .v fun s => binA prog .add 3 (s.get 14) (.int .i64 1)⟩,
    ⟨some 16, none, .v fun s => fieldA 1 (s.get 1)⟩,
    ⟨some 17, none, .v fun s => loadF false 1 (s.get 16)⟩,
    ⟨some 18, none, .v fun s => convInt .i64 (s.get 17)⟩,
    ⟨some 19, none, .v fun s => binA prog .rem 3 (s.get 18) (.int .i64 3)⟩,
    ⟨some 20, none, .v fun s => binA prog .add 3 (s.get 19) (.int .i64 1)⟩,
    ⟨some 3, none, .v fun s => some (s.get 15)⟩,
    ⟨some 4, none, .v fun s => some (s.get 20)⟩] K s := (den_regD hf r1_draw K s).trans (by kernel_rfl)
theorem r2_eq (K : List Item) (s : St) : den prog ann 22 (.code r2 :: K) s = mreg prog ann 22 none [] none [] [
    ⟨some 21, none, .v fun s => bldA (plc [(0, 1), (1, 1)]) [.nils, .nils] []⟩,
    ⟨some 5, none, .w false none fun s => newPtr s.m [.nils, .nils]⟩,
    ⟨none, none, .w false none fun s => stA true 2 s.m (s.get 5) (s.get 21)⟩] K s := (den_reg hf _ K s).trans (by kernel_rfl)
theorem r3_eq (K : List Item) (s : St) : den prog ann 22 (.code r3 :: K) s = mreg prog ann 22 none [] none [] [
    ⟨some 6, none, .v fun s => some (.int .i64 0)⟩] K s := (den_reg hf _ K s).trans (by kernel_rfl)
theorem k0_eq (K : List Item) (t : List (Nat × AV)) (m : Mem) : den prog ann 22 (.code k0 :: K) ⟨t, 79, m⟩ = L0 (get t 1) (get t 2) (get t 3) (get t 4) (get t 5) (get t 6) m K := den_loop_enter hf (b := l0) (id := 4) (l := [1, 2, 3, 4, 5, 6]) (by kernel_rfl) (by kernel_rfl) (by kernel_rfl) K _
theorem l0_eq (K : List Item) (t : List (Nat × AV)) (m : Mem) : den prog ann 22 (.inLoop l0 :: .inBlock 0 :: K) ⟨t, 79, m⟩ = L0 (get t 1) (get t 2) (get t 3) (get t 4) (get t 5) (get t 6) m K := den_loop_again hf (id := 4) (l := [1, 2, 3, 4, 5, 6]) (by kernel_rfl) (by kernel_rfl) (.inBlock 0 :: K) _
theorem L0_eq (x1 x2 x3 x4 x5 x6 : AV) (m : Mem) (K : List Item) : L0 x1 x2 x3 x4 x5 x6 m K = den prog ann 22 (.code r4 :: .code i0 :: .code k1 :: .code r5 :: .inLoop l0 :: .inBlock 0 :: K) ⟨[(1, x1), (2, x2), (3, x3), (4, x4), (5, x5), (6, x6)], 79, m⟩ := den_flat hf (l := [r4, i0, k1, r5]) (by kernel_rfl) _ _
theorem r4_eq (K : List Item) (s : St) : den prog ann 22 (.code r4 :: K) s = mreg prog ann 22 (some [1, 2, 3, 4, 5, 6]) [] none [] [
    ⟨some 22, none, .v fun s => some (s.get 6)⟩,
    ⟨some 23, none, .v fun s => some (s.get 3)⟩,
    ⟨some 24, none, .v fun s => binA prog .lss 3 (s.get 22) (s.get 23)⟩] K s := (den_reg hf _ K s).trans (by kernel_rfl)
theorem i0_eq (K : List Item) (s : St) : den prog ann 22 (.code i0 :: K) s = ifV prog ann 22 24 i0t i0e K s (s.get 24) := den_if hf (by kernel_rfl) K s
theorem i0t_eq (K : List Item) (s : St) : den prog ann 22 (.code i0t :: K) s = den prog ann 22 (K) s := den_flat hf (l := []) (by kernel_rfl) K s
theorem i0e_eq (K : List Item) (s : St) : den prog ann 22 (.code i0e :: K) s = den prog ann 22 (.code (.exit 0) :: K) s := den_flat hf (l := [(.exit 0)]) (by kernel_rfl) K s
theorem k1_eq (K : List Item) (s : St) : den prog ann 22 (.code k1 :: K) s = den prog ann 22 (.code r6 :: .code r7 :: .code k2 :: .code r17 :: .inBlock 1 :: K) s := den_blk hf (b := blkOf k1) (l := [r6, r7, k2, r17]) (by kernel_rfl) (by kernel_rfl) K s
theorem r6_eq (K : List Item) (s : St) : den prog ann 22 (.code r6 :: K) s = mreg prog ann 22 none [] none [] [
    ⟨some 27, none, .w false none fun s => bslM s.m 0 (bslA 1 0 [.int .i64 0] [])⟩,
    ⟨some 7, none, .v fun s => some (s.get 27)⟩] K s := (den_reg hf _ K s).trans (by kernel_rfl)
theorem r7_eq (K : List Item) (s : St) : den prog ann 22 (.code r7 :: K) s = mreg prog ann 22 none [] none [] [
    ⟨some 8, none, .v fun s => some (.int .i64 0)⟩] K s := (den_reg hf _ K s).trans (by kernel_rfl)
theorem k2_eq (K : List Item) (t : List (Nat × AV)) (m : Mem) : den prog ann 22 (.code k2 :: K) ⟨t, 79, m⟩ = L2 (get t 1) (get t 2) (get t 3) (get t 4) (get t 5) (get t 6) (get t 7) (get t 8) m K := den_loop_enter hf (b := l2) (id := 8) (l := [1, 2, 3, 4, 5, 6, 7, 8]) (by kernel_rfl) (by kernel_rfl) (by kernel_rfl) K _
theorem l2_eq (K : List Item) (t : List (Nat × AV)) (m : Mem) : den prog ann 22 (.inLoop l2 :: .inBlock 2 :: K) ⟨t, 79, m⟩ = L2 (get t 1) (get t 2) (get t 3) (get t 4) (get t 5) (get t 6) (get t 7) (get t 8) m K := den_loop_again hf (id := 8) (l := [1, 2, 3, 4, 5, 6, 7, 8]) (by kernel_rfl) (by kernel_rfl) (.inBlock 2 :: K) _
theorem L2_eq (x1 x2 x3 x4 x5 x6 x7 x8 : AV) (m : Mem) (K : List Item) : L2 x1 x2 x3 x4 x5 x6 x7 x8 m K = den prog ann 22 (.code r8 :: .code i1 :: .code k3 :: .code r9 :: .inLoop l2 :: .inBlock 2 :: K) ⟨[(1, x1), (2, x2), (3, x3), (4, x4), (5, x5), (6, x6), (7, x7), (8, x8)], 79, m⟩ := den_flat hf (l := [r8, i1, k3, r9]) (by kernel_rfl) _ _
theorem r8_eq (K : List Item) (s : St) : den prog ann 22 (.code r8 :: K) s = mreg prog ann 22 (some [1, 2, 3, 4, 5, 6, 7, 8]) [] none [] [
    ⟨some 28, none, .v fun s => some (s.get 8)⟩,
    ⟨some 29, none, .v fun s => some (s.get 4)⟩,
    ⟨some 30, none, .v fun s => binA prog .lss 3 (s.get 28) (s.get 29)⟩] K s := (den_reg hf _ K s).trans (by kernel_rfl)
theorem i1_eq (K : List Item) (s : St) : den prog ann 22 (.code i1 :: K) s = ifV prog ann 22 30 i1t i1e K s (s.get 30) := den_if hf (by kernel_rfl) K s
theorem i1t_eq (K : List Item) (s : St) : den prog ann 22 (.code i1t :: K) s = den prog ann 22 (K) s := den_flat hf (l := []) (by kernel_rfl) K s
theorem i1e_eq (K : List Item) (s : St) : den prog ann 22 (.code i1e :: K) s = den prog ann 22 (.code (.exit 2) :: K) s := den_flat hf (l := [(.exit 2)]) (by kernel_rfl) K s
theorem k3_eq (K : List Item) (s : St) : den prog ann 22 (.code k3 :: K) s = den prog ann 22 (.code r10 :: .code r11 :: .code r12 :: .code i2 :: .code r14 :: .code i3 :: .code r16 :: .inBlock 3 :: K) s := den_blk hf (b := blkOf k3) (l := [r10, r11, r12, i2, r14, i3, r16]) (by kernel_rfl) (by kernel_rfl) K s
theorem r10_eq (K : List Item) (s : St) : den prog ann 22 (.code r10 :: K) s = mreg prog ann 22 none [] none [] [
    ⟨some 9, none, .v fun s => some (.int .i64 0)⟩] K s := (den_reg hf _ K s).trans (by kernel_rfl)
theorem r11_eq (K : List Item) (s : St) : den prog ann 22 (.code r11 :: K) s = mreg prog ann 22 none [] none [] [
    ⟨some 33, none, .v fun s => some (s.get 6)⟩,
    ⟨some 34, none, .v fun s => some (s.get 4)⟩,
    ⟨some 35, none, .v fun s => binA prog .mul 3 (s.get 33) (s.get 34)⟩,
    ⟨some 36, none, .v fun s => some (s.get 8)⟩,
    ⟨some 37, none, .v fun s => binA prog .add 3 (s.get 35) (s.get 36)⟩,
    ⟨some 10, none, .v fun s => some (s.get 37)⟩] K s := (den_reg hf _ K s).trans (by kernel_rfl)
theorem r12_eq (K : List Item) (s : St) : den prog ann 22 (.code r12 :: K) s = mreg prog ann 22 none [] none [] [
    ⟨some 38, none, .v fun s => some (s.get 10)⟩,
    ⟨some 39, none, .v fun s => fieldA 2 (s.get 1)⟩,
    ⟨some 40, none, .v fun s => loadF false 1 (s.get 39)⟩,
    ⟨some 41, none, .v fun s => lenSl (s.get 40)⟩,
    ⟨some 42, none, .v fun s => binA prog .lss 3 (s.get 38) (s.get 41)⟩] K s := (den_reg hf _ K s).trans (by kernel_rfl)
theorem i2_eq (K : List Item) (s : St) : den prog ann 22 (.code i2 :: K) s = ifV prog ann 22 42 i2t i2e K s (s.get 42) := den_if hf (by kernel_rfl) K s
theorem i2t_eq (K : List Item) (s : St) : den prog ann 22 (.code i2t :: K) s = den prog ann 22 (.code r13 :: K) s := den_flat hf (l := [r13]) (by kernel_rfl) K s
theorem r13_eq (K : List Item) (s : St) : den prog ann 22 (.code r13 :: K) s = mreg prog ann 22 none [] none [] [
    ⟨some 43, none, .v fun s => fieldA 2 (s.get 1)⟩,
    ⟨some 44, none, .v fun s => loadF false 1 (s.get 43)⟩,
    ⟨some 45, none, .v fun s => some (s.get 10)⟩,
    ⟨some 46, none, .v fun s => idxSl 1 (s.get 44) (s.get 45)⟩,
    ⟨some 47, none, .v fun s => loadF false 1 (s.get 46)⟩,
    ⟨some 48, none, .v fun s => convInt .i64 (s.get 47)⟩,
    ⟨some 49, none, .v fun s => some (s.get 3)⟩,
    ⟨some 50, none, .v fun s => binA prog .rem 3 (s.get 48) (s.get 49)⟩,
    ⟨some 9, none, .v fun s => some (s.get 50)⟩] K s := (den_reg hf _ K s).trans (by kernel_rfl)
theorem i2e_eq (K : List Item) (s : St) : den prog ann 22 (.code i2e :: K) s = den prog ann 22 (K) s := den_flat hf (l := []) (by kernel_rfl) K s
theorem r14_eq (K : List Item) (s : St) : den prog ann 22 (.code r14 :: K) s = mreg prog ann 22 none [] none [] [
    ⟨some 51, none, .v fun s => fieldA 3 (s.get 1)⟩,
    ⟨some 52, none, .v fun s => loadF false 1 (s.get 51)⟩,
    ⟨some 53, none, .v fun s => binA prog .geq 5 (s.get 52) (.int .u8 128)⟩] K s := (den_reg hf _ K s).trans (by kernel_rfl)
theorem i3_eq (K : List Item) (s : St) : den prog ann 22 (.code i3 :: K) s = ifV prog ann 22 53 i3t i3e K s (s.get 53) := den_if hf (by kernel_rfl) K s
theorem i3t_eq (K : List Item) (s : St) : den prog ann 22 (.code i3t :: K) s = den prog ann 22 (.code r15 :: K) s := den_flat hf (l := [r15]) (by kernel_rfl) K s
theorem r15_eq (K : List Item) (s : St) : den prog ann 22 (.code r15 :: K) s = mreg prog ann 22 none [] none [] [
    ⟨some 54, none, .v fun s => some (s.get 9)⟩,
    ⟨some 55, none, .v fun s => some (s.get 6)⟩,
    ⟨some 56, none, .v fun s => foldA max2A (s.get 54) [(s.get 55)]⟩,
    ⟨some 9, none, .v fun s => some (s.get 56)⟩] K s := (den_reg hf _ K s).trans (by kernel_rfl)
theorem i3e_eq (K : List Item) (s : St) : den prog ann 22 (.code i3e :: K) s = den prog ann 22 (K) s := den_flat hf (l := []) (by kernel_rfl) K s
theorem r16_eq (K : List Item) (s : St) : den prog ann 22 (.code r16 :: K) s = mreg prog ann 22 (some [1, 2, 3, 4, 5, 6, 7, 8, 9]) [] none [] [
    ⟨some 57, none, .v fun s => some (s.get 7)⟩,
    ⟨some 58, none, .v fun s => some (s.get 9)⟩,
    ⟨some 59, none, .v fun s => bslF 1 (bslA 1 1 [.int .i64 0] [(0, (s.get 58))])⟩,
    ⟨some 60, none, .w false none fun s => appendA 1 8 s.m (s.get 57) (s.get 59)⟩,
    ⟨some 7, none, .v fun s => some (s.get 60)⟩] K s := (den_reg hf _ K s).trans (by kernel_rfl)
theorem r9_eq (K : List Item) (s : St) : den prog ann 22 (.code r9 :: K) s = mreg prog ann 22 (some [1, 2, 3, 4, 5, 6, 7, 8]) [] none [] [
    ⟨some 31, none, .v fun s => some (s.get 8)⟩,
    ⟨some 32, none, .v fun s => binA prog .add 3 (s.get 31) (.int .i64 1)⟩,
    ⟨some 8, none, .v fun s => some (s.get 32)⟩] K s := (den_reg hf _ K s).trans (by kernel_rfl)
theorem r17_draw : drawOk (fun g => (ann g).pure) (modeOf (ann 22) (idOf r17)) (frzOf (ann 22) (idOf r17)) (opsOf r17) = true := drawOk_of (an := [0, 1, 0, 4, 15, 0, 32, 0, 128, 0, 896, 1920, 3968, 8064, 16383, 127, 65535, 131071, 262143]) (by kernel_rfl) (by kernel_rfl)
theorem r17_eq (K : List Item) (s : St) : den prog ann 22 (.code r17 :: K) s = mreg prog ann 22 (some [1, 2, 3, 4, 5, 6, 7]) [7] (some 19) [3062066, 2000064] [
    ⟨some 61, none, .v fun s => fieldA 0 (s.get 5)⟩,
    ⟨some 62, none, .v fun s => loadA false 1 s.m (s.get 61)⟩,
    ⟨some 63, none, .v fun s => some (s.get 7)⟩,
    ⟨some 64, none, .v fun s => bslF 1 (bslA 1 1 [.nils] [(0, (s.get 63))])⟩,
    ⟨some 65, none, .w false (some 4) fun s => appendA 1 24 s.m (s.get 62) (s.get 64)⟩,
    ⟨some 66, none, .v fun s => fieldA 1 (s.get 5)⟩,
    ⟨some 67, none, .v fun s => loadA false 1 s.m (s.get 66)⟩,
    ⟨some 68, none, .v fun s => fieldA 3 (s.get 1)⟩,
    ⟨some 69, none, .v fun s => loadF false 1 (s.get 68)⟩,
    ⟨some 70, none, .v fun s => some (s.get 6)⟩,
    ⟨some 71, none, .v fun s => binA prog .shr 5 (s.get 69) (s.get 70)⟩,
    ⟨some 72, none, .v fun s => binA prog .and 5 (s.get 71) (.int .u8 1)⟩,
    ⟨some 73, none, .v fun s => binA prog .eql 5 (s.get 72) (.int .u8 1)⟩,
    ⟨some 74, none, .v fun s => bslF 1 (bslA 1 1 [.bool false] [(0, (s.get 73))])⟩,
    ⟨some 75, none, .w false (some 14) fun s => appendA 1 1 s.m (s.get 67) (s.get 74)⟩,
    ⟨some 76, none, .v fun s => fieldA 0 (s.get 5)⟩,
    ⟨none, none, .w false (some 16) fun s => stA false 1 s.m (s.get 76) (s.get 65)⟩,
    ⟨some 77, none, .v fun s => fieldA 1 (s.get 5)⟩,
    ⟨none, none, .w false (some 18) fun s => stA false 1 s.m (s.get 77) (s.get 75)⟩] K s := (den_regD hf r17_draw K s).trans (by kernel_rfl)
theorem r5_eq (K : List Item) (s : St) : den prog ann 22 (.code r5 :: K) s = mreg prog ann 22 (some [1, 2, 3, 4, 5, 6]) [] none [] [
    ⟨some 25, none, .v fun s => some (s.get 6)⟩,
    ⟨some 26, none, .v fun s => binA prog .add 3 (s.get 25) (.int .i64 1)⟩,
    ⟨some 6, none, .v fun s => some (s.get 26)⟩] K s := (den_reg hf _ K s).trans (by kernel_rfl)
theorem r18_eq (K : List Item) (s : St) : den prog ann 22 (.code r18 :: K) s = mreg prog ann 22 (some [2, 5]) [] none [] [
    ⟨some 78, none, .v fun s => loadA true 2 s.m (s.get 5)⟩,
    ⟨none, none, .w false none fun s => stA true 2 s.m (s.get 2) (s.get 78)⟩] K s := (den_reg hf _ K s).trans (by kernel_rfl)
theorem ret_eq (K : List Item) (s : St) : den prog ann 22 (.code .ret :: K) s = finM true [fun s => loadA true 2 s.m (s.get 2)] s := (den_ret hf K s).trans (by kernel_rfl)
theorem nil_eq (s : St) : den prog ann 22 [] s = finM true [fun s => loadA true 2 s.m (s.get 2)] s := (den_nil hf s).trans (by kernel_rfl)
theorem inBlock_eq (id : Nat) (K : List Item) (s : St) : den prog ann 22 (.inBlock id :: K) s = den prog ann 22 K s := den_inBlock hf id K s
theorem exit_eq (id : Nat) (K : List Item) (s : St) : den prog ann 22 (.code (.exit id) :: K) s = exitV prog ann 22 (exitTo id K) s := den_exitV hf id K s
theorem call_eq (v0 : AV) (m : Mem) (h : closedL [v0] = true) : denC prog ann 22 [v0] m = (den prog ann 22 [.code b] ⟨[(0, v0)], 79, Mem.empty⟩).bind fun r => some (r.1, m) := (denC_pure hf (b := b) (by kernel_rfl) (by kernel_rfl) (by kernel_rfl) h m).trans (by kernel_rfl)
theorem pure_eq : (ann 22).pure = true := by kernel_rfl
attribute [simp] b_eq r0_eq r1_eq r2_eq r3_eq k0_eq l0_eq r4_eq i0_eq i0t_eq i0e_eq k1_eq r6_eq r7_eq k2_eq l2_eq r8_eq i1_eq i1t_eq i1e_eq k3_eq r10_eq r11_eq r12_eq i2_eq i2t_eq r13_eq i2e_eq r14_eq i3_eq i3t_eq r15_eq i3e_eq r16_eq r9_eq r17_eq r5_eq r18_eq ret_eq nil_eq inBlock_eq exit_eq pure_eq
end l07_Plan_made
end Go.Proofs.Ythnpflkpjimkfaa

/-
  PLANS: numbers from which the laws make brands. Conditions: none.
-/
namespace Go.Proofs.Ythnpflkpjimkfaa
open Go.AM
open Go.Proofs.Try (prog)
set_option linter.all false
set_option maxRecDepth 100000
set_option maxHeartbeats 8000000

theorem u5 : prog.underlying 5 = some (.int .u8) := by kernel_rfl
theorem u35 : prog.underlying 35 = some (.slice 5) := by kernel_rfl
theorem u37 : prog.underlying 37 = some (.struct #[⟨"States", 5, 0, false, "", "", 0⟩, ⟨"Signs", 5, 1, false, "", "", 1⟩, ⟨"Next", 35, 2, false, "", "", 8⟩, ⟨"Good", 5, 3, false, "", "", 32⟩]) := by kernel_rfl
def bytN (l : List Nat) : List AV := l.map fun x => .int .u8 (x : Nat)
def IsBy (v : AV) (l : List Nat) : Prop := (v = .nils ∧ l = []) ∨ ∃ ex, v = .fsl ex l.length (bytN l)
theorem dat5 {d : Nat} {cs : List AV} (h : Dat prog (d + 1) 5 cs) : ∃ n : Nat, cs = [.int .u8 (n : Nat)] ∧ n < 256 := by
  simp only [Dat, u5] at h
  obtain ⟨n, e, hw⟩ := h
  simp only [Lit.wf, Bool.and_eq_true, decide_eq_true_eq] at hw
  have e1 : IntKind.min .u8 = 0 := by decide
  have e2 : IntKind.max .u8 = 255 := by decide
  rw [e1, e2] at hw
  refine ⟨n.toNat, ?_, by omega⟩
  rw [e]
  have : ((n.toNat : Nat) : Int) = n := by omega
  rw [this]
theorem dat35 {d : Nat} {cs : List AV} (h : Dat prog (d + 2) 35 cs) : ∃ v l, cs = [v] ∧ IsBy v l ∧ (∀ x ∈ l, x < 256) ∧ (l.length : Int) ≤ 9223372036854775807 := by
  rw [Dat] at h
  simp only [u35] at h
  rcases h with rfl | ⟨parts, rfl, hl, hp⟩
  · exact ⟨.nils, [], rfl, .inl ⟨rfl, rfl⟩, by simp, by simp⟩
  · have key : ∀ (parts : List (List AV)), (∀ p ∈ parts, ∃ n : Nat, p = [.int .u8 (n : Nat)] ∧ n < 256) → ∃ l : List Nat, l.length = parts.length ∧ parts.flatten = bytN l ∧ ∀ x ∈ l, x < 256 := by
      intro parts
      induction parts with
      | nil => intro _; exact ⟨[], rfl, rfl, by simp⟩
      | cons p ps ih =>
        intro h
        obtain ⟨n, rfl, hn⟩ := h p (by simp)
        obtain ⟨l, h1, h2, h3⟩ := ih (fun q hq => h q (by simp [hq]))
        exact ⟨n :: l, by simp [h1], by simp [h2, bytN], by intro x hx; rcases List.mem_cons.1 hx with rfl | hx; exact hn; exact h3 x hx⟩
    obtain ⟨l, h1, h2, h3⟩ := key parts (fun p hq => dat5 (hp p hq).2)
    refine ⟨_, l, rfl, .inr ⟨false, by rw [h1, h2]⟩, h3, ?_⟩
    have := mlen
    omega
theorem datV37 {d : Nat} {a : AV} (h : DatV prog (d + 4) 37 a) : ∃ s g : Nat, ∃ q : Nat, ∃ nv l, a = .agg [.int .u8 (s : Nat), .int .u8 (g : Nat), nv, .int .u8 (q : Nat)] ∧ s < 256 ∧ g < 256 ∧ q < 256 ∧ IsBy nv l ∧ (∀ x ∈ l, x < 256) ∧ (l.length : Int) ≤ 9223372036854775807 := by
  simp only [DatV, u37] at h
  obtain ⟨cs, rfl, h⟩ := h
  rw [Dat] at h
  simp only [u37] at h
  obtain ⟨parts, rfl, hl, hp⟩ := h
  match parts, hl with
  | [a, b, c, e], _ =>
    obtain ⟨n0, rfl, h0⟩ := dat5 (hp 0 _ _ rfl rfl).2
    obtain ⟨n1, rfl, h1⟩ := dat5 (hp 1 _ _ rfl rfl).2
    obtain ⟨v, l, rfl, h2, h3, h4⟩ := dat35 (d := d + 1) (hp 2 _ _ rfl rfl).2
    obtain ⟨n3, rfl, h5⟩ := dat5 (hp 3 _ _ rfl rfl).2
    exact ⟨n0, n1, n3, v, l, rfl, h0, h1, h5, h2, h3, h4⟩
end Go.Proofs.Ythnpflkpjimkfaa

/-
  PLANS: the brand that is made. Conditions: none.
-/
namespace Go.Proofs.Ythnpflkpjimkfaa
open Go.AM
open Go.Proofs.Try (prog)
set_option linter.all false
set_option maxRecDepth 100000
set_option maxHeartbeats 8000000

theorem IsBy.closed {v : AV} {l : List Nat} (h : IsBy v l) : v.closed = true := by rcases h with ⟨rfl, _⟩ | ⟨_, rfl⟩ <;> rfl
theorem IsBy.one {v : AV} {l : List Nat} (h : IsBy v l) : v.one = true := by rcases h with ⟨rfl, _⟩ | ⟨_, rfl⟩ <;> rfl
theorem IsBy.len {v : AV} {l : List Nat} (h : IsBy v l) : lenSl v = some (.int .i64 l.length) := by rcases h with ⟨rfl, rfl⟩ | ⟨_, rfl⟩ <;> rfl
theorem IsBy.idx {v : AV} {l : List Nat} (h : IsBy v l) {i : Nat} (hi : i < l.length) (k : IntKind) : idxSl 1 v (.int k (i : Int)) = some (.fptr ((bytN l).drop i)) := by
  rcases h with ⟨rfl, rfl⟩ | ⟨_, rfl⟩
  · simp at hi
  · simp [hi]
theorem byt_head {l : List Nat} {i : Nat} (h : i < l.length) : ((bytN l).drop i).head? = some (.int .u8 (l.getD i 0 : Nat)) := by
  rw [List.head?_drop]
  simp [bytN, h, List.getD_eq_getElem?_getD]
/-- An entry of a plan's brand. -/
def entP (l : List Nat) (n k q s a : Nat) : Nat := let w := if s * k + a < l.length then l.getD (s * k + a) 0 % n else 0; if 128 ≤ q then max w s else w
theorem entP_lt {l : List Nat} {n k q s a : Nat} (hs : s < n) : entP l n k q s a < n := by
  unfold entP
  have h1 : (if s * k + a < l.length then l.getD (s * k + a) 0 % n else 0) < n := by
    split
    · exact Nat.mod_lt _ (by omega)
    · omega
  simp only []
  split
  · omega
  · exact h1
def rowP (l : List Nat) (n k q s c : Nat) : List Int := (List.range c).map fun a => ((entP l n k q s a : Nat) : Int)
def rowsP (l : List Nat) (n k q c : Nat) : List (List Int) := (List.range c).map fun s => rowP l n k q s k
def goodP (q c : Nat) : List Bool := (List.range c).map fun s => q.testBit s
noncomputable def KP0 : List Item := [.code l07_Plan_made.r18, .code .ret]
noncomputable def KP2 : List Item := .code l07_Plan_made.r17 :: .inBlock 1 :: .code l07_Plan_made.r5 :: .inLoop l07_Plan_made.l0 :: .inBlock 0 :: KP0
theorem pl_in {a0 a1 : Nat} {nv : AV} {l : List Nat} (hb : IsBy nv l) (hlb : ∀ x ∈ l, x < 256) {q n k s : Nat} (hq : q < 256) (hs : s < n) (n6 : n ≤ 6) (k3 : k ≤ 3) {x2 x5 : AV} {R : Nat} {r : Option Res} :
    ∀ (c a : Nat) (h : Nat → Option AObj) (nx0 : Nat), a + c = k → h R = some (.cells (ints (rowP l n k q s a))) → R < nx0 →
    (∀ h' nx', h' R = some (.cells (ints (rowP l n k q s k))) → nx0 ≤ nx' → (∀ y, y ≠ R → h' y = h y) →
      l07_Plan_made.L2 (.fptr [.int .u8 (a0 : Nat), .int .u8 (a1 : Nat), nv, .int .u8 (q : Nat)]) x2 (.int .i64 n) (.int .i64 k) x5 (.int .i64 s) (.sl R 1 0 k k) (.int .i64 k) ⟨h', nx'⟩ KP2 = r) →
    l07_Plan_made.L2 (.fptr [.int .u8 (a0 : Nat), .int .u8 (a1 : Nat), nv, .int .u8 (q : Nat)]) x2 (.int .i64 n) (.int .i64 k) x5 (.int .i64 s) (.sl R 1 0 a a) (.int .i64 a) ⟨h, nx0⟩ KP2 = r := by
  intro c
  induction c with
  | zero =>
    intro a h nx0 h1 h0 hR hk
    have e : a = k := by omega
    subst e
    exact hk h nx0 h0 (Nat.le_refl _) (fun _ _ => rfl)
  | succ c ih =>
    intro a h nx0 h1 h0 hR hk
    have ha : a < k := by omega
    have hwa : IntKind.wrap .i64 ((a : Int) + 1) = (a : Int) + 1 := wrap_id (by omega) (by omega)
    have hsk : s * k ≤ 18 := by
      have := Nat.mul_le_mul (show s ≤ 6 by omega) k3
      omega
    have hw1 : IntKind.wrap .i64 ((s : Int) * k) = ((s * k : Nat) : Int) := by rw [← Int.natCast_mul]; exact wrap_id (by omega) (by omega)
    have hw2 : IntKind.wrap .i64 (((s * k : Nat) : Int) + a) = ((s * k + a : Nat) : Int) := by rw [← Int.natCast_add]; exact wrap_id (by omega) (by omega)
    have hrl : (rowP l n k q s a).length = a := by simp [rowP]
    have hrl1 : (rowP l n k q s (a + 1)).length = a + 1 := by simp [rowP]
    have hrow : ints (rowP l n k q s a) ++ [.int .i64 ((entP l n k q s a : Nat) : Int)] = ints (rowP l n k q s (a + 1)) := by simp [rowP, List.range_succ, ints]
    have hent := entP_lt (l := l) (k := k) (q := q) (a := a) hs
    have st := ih (a + 1) (upd h R (some (.cells (ints (rowP l n k q s (a + 1)))))) nx0 (by omega) (by simp) hR (fun h' nx' f1 f2 f3 => hk h' nx' f1 f2 (fun y hy => by rw [f3 y hy, updNe hy]))
    simp only [Int.natCast_add, Int.cast_ofNat_Int] at st
    have hemax : ∀ w : Nat, max (w : Int) (s : Int) = ((max w s : Nat) : Int) := fun w => by omega
    have hn0 : ¬ n = 0 := by omega
    by_cases c1 : s * k + a < l.length
    · have hb256 : l.getD (s * k + a) 0 < 256 := by
        have : l.getD (s * k + a) 0 ∈ l := by rw [List.getD_eq_getElem?_getD, List.getElem?_eq_getElem c1]; exact List.getElem_mem c1
        exact hlb _ this
      have hcv := wrapN (x := l.getD (s * k + a) 0) (by omega)
      have hmod : ((l.getD (s * k + a) 0 : Nat) : Int).tmod (n : Int) = ((l.getD (s * k + a) 0 % n : Nat) : Int) := by
        rw [Int.tmod_eq_emod_of_nonneg (by omega)]; simp
      have hhd := byt_head c1
      have hix := hb.idx c1 .i64
      have hlt : ((s * k + a : Nat) : Int) < (l.length : Int) := by omega
      by_cases c2 : 128 ≤ q
      · have he : entP l n k q s a = max (l.getD (s * k + a) 0 % n) s := by simp only [entP, if_pos c1, if_pos c2]
        rw [he] at hrow
        have c2' : (128 : Int) ≤ (q : Int) := by omega
        generalize l.getD (s * k + a) 0 = z at *
        generalize s * k + a = at' at *
        generalize s * k = sk at *
        rw [l07_Plan_made.L2_eq]
        simp [ha, hw1, hw2, hb.len, c1, hix, hhd, hcv, hn0, hmod, c2', hemax, h0, hrl, hrow, hrl1, hwa, st, show a ≤ 4611686018427387903 by omega, show (a + 1) * 8 ≤ 70368744177664 by omega, -Int.natCast_add, -Int.natCast_mul, -Int.natCast_emod]
        done
      · have he : entP l n k q s a = l.getD (s * k + a) 0 % n := by simp only [entP, if_pos c1, if_neg c2]
        rw [he] at hrow
        have c2' : ¬ (128 : Int) ≤ (q : Int) := by omega
        generalize l.getD (s * k + a) 0 = z at *
        generalize s * k + a = at' at *
        generalize s * k = sk at *
        rw [l07_Plan_made.L2_eq]
        simp [ha, hw1, hw2, hb.len, c1, hix, hhd, hcv, hn0, hmod, c2', h0, hrl, hrow, hrl1, hwa, st, show a ≤ 4611686018427387903 by omega, show (a + 1) * 8 ≤ 70368744177664 by omega, -Int.natCast_add, -Int.natCast_mul, -Int.natCast_emod]
        done
    · have hge : ¬ ((s * k + a : Nat) : Int) < (l.length : Int) := by omega
      by_cases c2 : 128 ≤ q
      · have he : entP l n k q s a = s := by simp only [entP, if_neg c1, if_pos c2]; omega
        rw [he] at hrow
        have c2' : (128 : Int) ≤ (q : Int) := by omega
        have hm0 : max (0 : Int) (s : Int) = (s : Int) := by omega
        generalize s * k + a = at' at *
        generalize s * k = sk at *
        rw [l07_Plan_made.L2_eq]
        simp [ha, hw1, hw2, hb.len, c1, c2', hm0, h0, hrl, hrow, hrl1, hwa, st, show a ≤ 4611686018427387903 by omega, show (a + 1) * 8 ≤ 70368744177664 by omega, -Int.natCast_add, -Int.natCast_mul]
        done
      · have he : entP l n k q s a = 0 := by simp only [entP, if_neg c1, if_neg c2]
        rw [he] at hrow
        have c2' : ¬ (128 : Int) ≤ (q : Int) := by omega
        simp only [Int.ofNat_zero, Int.cast_ofNat_Int] at hrow
        generalize s * k + a = at' at *
        generalize s * k = sk at *
        rw [l07_Plan_made.L2_eq]
        simp [ha, hw1, hw2, hb.len, c1, c2', h0, hrl, hrow, hrl1, hwa, st, show a ≤ 4611686018427387903 by omega, show (a + 1) * 8 ≤ 70368744177664 by omega, -Int.natCast_add, -Int.natCast_mul]
        done
theorem frz_62_66 (s : St) : frz1 s 3062066 = bif ap (objId (s.get 62)) (objId (s.get 66)) then some s else none := by rw [← ap_eq]; rfl
theorem frz_64 (s : St) : frz1 s 2000064 = bif nsl (s.get 64) then some s else none := rfl
theorem bit8 {q s : Nat} (hq : q < 256) (hs : s < 6) : binA prog .shr 5 (.int .u8 (q : Nat)) (.int .i64 (s : Nat)) = some (.int .u8 ((q / 2 ^ s : Nat) : Int)) := by
  have h0 : ¬ ((s : Int) < 0) := by omega
  have h1 : min (s : Int).toNat (IntKind.bits .u8) = s := by
    show min (s : Int).toNat 8 = s
    omega
  rw [binA_shr, h1]
  have e : (q : Int).fdiv (2 ^ s) = ((q / 2 ^ s : Nat) : Int) := by
    rw [Int.fdiv_eq_ediv_of_nonneg _ (Int.pow_nonneg (by omega))]
    simp
  simp [h0, e]
theorem and8 {x : Nat} (hx : x < 256) : binA prog .and 5 (.int .u8 (x : Nat)) (.int .u8 1) = some (.int .u8 (if x % 2 = 1 then 1 else 0)) := by
  have key : ∀ x : Fin 256, IntKind.wrap .u8 ((BitVec.ofInt (IntKind.bits .u8) ((x.val : Nat) : Int) &&& BitVec.ofInt (IntKind.bits .u8) 1).toNat : Int) = if x.val % 2 = 1 then 1 else 0 := by decide
  rw [binA_and]
  have := key ⟨x, hx⟩
  simp only [] at this
  rw [this]
def pslP (l : List Nat) (n k q c : Nat) : List AV := (List.range c).map fun s => .fsl false k (ints (rowP l n k q s k))
structure Ol (h : Nat → Option AObj) (o z0 : Nat) (a g : AV) (A G : List AV) (lo hi : Nat) : Prop where
  o : h o = some (.cells [a, g])
  z : h z0 = some (.cells [.nils, .nils])
  na : Nl h a A lo hi
  ng : Nl h g G lo hi
  dj : ∀ y, objId a = some y → objId g ≠ some y
theorem pl_out {a0 a1 : Nat} {nv : AV} {l : List Nat} (hb : IsBy nv l) (hlb : ∀ x ∈ l, x < 256) {q n k : Nat} (hq : q < 256) (n1 : 1 ≤ n) (n6 : n ≤ 6) (k1 : 1 ≤ k) (k3 : k ≤ 3) {o lo : Nat} (ho : o < lo) (ho0 : 0 < o) :
    ∀ (c s : Nat) (h : Nat → Option AObj) (nx0 : Nat) (a g : AV), s + c = n → lo ≤ nx0 → Ol h o 0 a g (pslP l n k q s) (bls (goodP q s)) lo nx0 →
    l07_Plan_made.L0 (.fptr [.int .u8 (a0 : Nat), .int .u8 (a1 : Nat), nv, .int .u8 (q : Nat)]) (.ptr 0 0 2) (.int .i64 n) (.int .i64 k) (.ptr o 0 2) (.int .i64 s) ⟨h, nx0⟩ KP0 = some (.agg [.fsl false n (pslP l n k q n), .fsl false n (bls (goodP q n))], Mem.empty) := by
  intro c
  induction c with
  | zero =>
    intro s h nx0 a g h1 hlo O
    have e : s = n := by omega
    subst e
    have na : Nl (upd h 0 (some (AObj.cells [a, g]))) a (pslP l s k q s) lo nx0 := O.na.fr (fun y y1 _ _ => updNe (by omega)) (Nat.le_refl _)
    have ng : Nl (upd h 0 (some (AObj.cells [a, g]))) g (bls (goodP q s)) lo nx0 := O.ng.fr (fun y y1 _ _ => updNe (by omega)) (Nat.le_refl _)
    have hne1 : pslP l s k q s ≠ [] := by intro e; have := congrArg List.length e; simp [pslP] at this; omega
    have hne2 : bls (goodP q s) ≠ [] := by intro e; have := congrArg List.length e; simp [goodP] at this; omega
    have da := na.deep 4 (fun x hx => by
      simp only [pslP, List.mem_map] at hx
      obtain ⟨q, _, rfl⟩ := hx
      rfl) (na.nn hne1)
    have dg := ng.deep 4 (fun x hx => by
      simp only [bls, List.mem_map] at hx
      obtain ⟨q, _, rfl⟩ := hx
      rfl) (ng.nn hne2)
    have l1 : (pslP l s k q s).length = s := by simp [pslP]
    have l2 : (bls (goodP q s)).length = s := by simp [goodP]
    rw [l1] at da
    rw [l2] at dg
    rw [l07_Plan_made.L0_eq]
    simp [O.o, O.z, O.na.one, O.ng.one, KP0]
    simp [da, dg]
    done
  | succ c ih =>
    intro s h nx0 a g h1 hlo O
    have hs : s < n := by omega
    have eR : pslP l n k q s ++ [.fsl false k (ints (rowP l n k q s k))] = pslP l n k q (s + 1) := by simp [pslP, List.range_succ]
    have eG : bls (goodP q s) ++ [.bool (q.testBit s)] = bls (goodP q (s + 1)) := by simp [bls, goodP, List.range_succ]
    have oa := fun y e => (O.na.oid (y := y) e)
    have og := fun y e => (O.ng.oid (y := y) e)
    have st := pl_in (a0 := a0) (a1 := a1) hb hlb (q := q) (n := n) (k := k) (s := s) hq hs n6 k3 (x2 := .ptr 0 0 2) (x5 := .ptr o 0 2) (R := nx0) (r := some (.agg [.fsl false n (pslP l n k q n), .fsl false n (bls (goodP q n))], Mem.empty)) k 0 (upd h nx0 (some (.cells []))) (nx0 + 1) (by omega) (by simp [rowP]) (by omega) (fun h' nx' w1 hnx' hfr0 => by
      have hfr : ∀ y, y ≠ nx0 → h' y = h y := fun y hy => by rw [hfr0 y hy, updNe hy]
      have rl : (rowP l n k q s k).length = k := by simp [rowP]
      have na1 : Nl (upd h' nx0 none) a (pslP l n k q s) lo nx0 := O.na.fr (fun y y1 y2 _ => by rw [updNe (by omega), hfr y (by omega)]) (Nat.le_refl _)
      have lR : (pslP l n k q s).length ≤ 6 := by simp [pslP]; omega
      have lG : (bls (goodP q s)).length ≤ 6 := by simp [goodP]; omega
      obtain ⟨v1, h2, n2, g1, g2, g3, g4, g5, g6, g7⟩ := na1.app (nx := nx' + 4) (by' := 24) (by omega) (by omega) (by simp; omega) (.fsl false k (ints (rowP l n k q s k)))
      have hv1 : ∀ y, objId v1 = some y → lo ≤ y ∧ (y < nx0 ∨ y = nx' + 4) := fun y e => by
        rcases g5 y e with q | q
        · have := oa y q; omega
        · omega
      have ng1 : Nl h2 g (bls (goodP q s)) lo nx0 := O.ng.fr (fun y y1 y2 ye => by
        rw [g6 y (fun e => by
          rcases g5 y e with q | q
          · exact O.dj y q ye
          · omega), updNe (by omega), hfr y (by omega)]) (Nat.le_refl _)
      obtain ⟨v2, h3, n3, u1, u2, u3, u4, u5, u6, u7⟩ := ng1.app (nx := nx' + 14) (by' := 1) (by omega) (by omega) (by simp only [room_dec, Bool.and_eq_true, decide_eq_true_eq]; omega) (.bool (q.testBit s))
      have hv2 : ∀ y, objId v2 = some y → lo ≤ y ∧ (objId g = some y ∨ y = nx' + 14) := fun y e => by
        rcases u5 y e with q | q
        · have := og y q; exact ⟨this.1, .inl q⟩
        · exact ⟨by omega, .inr q⟩
      have low : ∀ y, y < lo → h3 y = h y := fun y hy => by
        rw [u6 y (fun e => by have := hv2 y e; omega), g6 y (fun e => by have := hv1 y e; omega), updNe (by omega), hfr y (by omega)]
      have lo2 : ∀ y, y < lo → h2 y = h y := fun y hy => by
        rw [g6 y (fun e => by have := hv1 y e; omega), updNe (by omega), hfr y (by omega)]
      have ho' : h' o = some (.cells [a, g]) := by rw [hfr o (by omega)]; exact O.o
      have ho2 : h2 o = some (.cells [a, g]) := by rw [lo2 o ho]; exact O.o
      have ho3 : h3 o = some (.cells [a, g]) := by rw [low o ho]; exact O.o
      have a1' := ap_lt (z := o) (fun y e => (oa y e).1) ho
      have hwk : IntKind.wrap .i64 ((s : Int) + 1) = (s : Int) + 1 := wrap_id (by omega) (by omega)
      have fin4 : ∀ y, y < lo → y ≠ o → (upd h3 o (some (.cells [v1, v2]))) y = h y := fun y y1 y2 => by rw [updNe y2, low y y1]
      have st3 := ih (s + 1) (upd h3 o (some (.cells [v1, v2]))) (nx' + 19) v1 v2 (by omega) (by omega)
        ⟨by simp, by rw [fin4 0 (by omega) (by omega)]; exact O.z,
          by
            rw [← eR]
            exact g2.fr (fun y y1 y2 ye => by
              rw [updNe (by omega), u6 y (fun e => by
                rcases (hv2 y e).2 with q | q
                · rcases g5 y ye with w | w
                  · exact O.dj y w q
                  · have := og y q; omega
                · have := (hv1 y ye).2; omega)]) (by omega),
          by
            rw [← eG]
            exact u2.fr (fun y y1 y2 ye => by rw [updNe (by omega)]) (by omega),
          fun y e1 e2 => by
            rcases (hv2 y e2).2 with q | q
            · rcases g5 y e1 with w | w
              · exact O.dj y w q
              · have := og y q; omega
            · have := (hv1 y e1).2; omega⟩
      simp only [Int.natCast_add, Int.cast_ofNat_Int] at st3
      have hoR : (o == nx0) = false := beq_eq_false_iff_ne.2 (by omega)
      have rtk : (ints (rowP l n k q s k)).take k = ints (rowP l n k q s k) := List.take_of_length_le (by simp [rl])
      have b8 := bit8 (q := q) (s := s) hq (by omega)
      have hq2 : q / 2 ^ s < 256 := Nat.lt_of_le_of_lt (Nat.div_le_self _ _) hq
      have n8 := and8 hq2
      have htb : q.testBit s = decide (q / 2 ^ s % 2 = 1) := by rw [Nat.testBit_eq_decide_div_mod_eq]
      generalize q / 2 ^ s = qs at *
      have he8 : binA prog .eql 5 (.int .u8 (if qs % 2 = 1 then 1 else 0)) (.int .u8 1) = some (.bool (q.testBit s)) := by
        rw [htb]
        by_cases w : qs % 2 = 1 <;> simp [w]
      rw [l07_Plan_made.L2_eq]
      simp [KP2, w1, rl, rtk, hoR, ho', ho2, ho3, g1, O.na.one, O.ng.one, b8, n8, he8, u1, (show v1.one = true from g2.one), (show v2.one = true from u2.one), frz_62_66, frz_64, nsl, a1', hwk, st3, frzL, -binA_shr, -binA_and]
      done)
    simp only [Int.ofNat_zero, Int.cast_ofNat_Int, KP2] at st
    rw [l07_Plan_made.L0_eq]
    simp [hs]
    exact st
end Go.Proofs.Ythnpflkpjimkfaa
