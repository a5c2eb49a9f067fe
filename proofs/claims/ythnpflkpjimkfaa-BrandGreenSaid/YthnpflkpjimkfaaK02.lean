/-
  THE SAME BRAND: the test answers yes for the same; the smallest form is a brand. Conditions: none.
-/
import Derived.Test.YthnpflkpjimkfaaK01
import Derived.Test.YthnpflkpjimkfaaKAmH
set_option linter.all false
namespace Go.Proofs.Ythnpflkpjimkfaa
open Go.AM
open Go.Proofs.Try (prog)
set_option linter.all false
set_option maxRecDepth 100000
set_option maxHeartbeats 8000000
noncomputable def rowsM (rows : List (List Int)) (good : List Bool) (k : Nat) : List (List Int) := (repL rows good k).map fun q => (List.range k).map fun a => ((idxA (alB rows good k) (repL rows good k) (nx rows q a) : Nat) : Int)
noncomputable def goodM (rows : List (List Int)) (good : List Bool) (k : Nat) : List Bool := (repL rows good k).map (bnth good)
noncomputable def psM (rows : List (List Int)) (good : List Bool) (k : Nat) : List AV := (repL rows good k).map (rowF (alB rows good k) rows k (repL rows good k))
noncomputable def nvM (rows : List (List Int)) (good : List Bool) (k : Nat) : AV := .fsl false (repL rows good k).length (psM rows good k)
noncomputable def gvM (rows : List (List Int)) (good : List Bool) (k : Nat) : AV := .fsl false (repL rows good k).length (bls (goodM rows good k))
theorem resV_eq (rows : List (List Int)) (good : List Bool) (k : Nat) : resV (alB rows good k) rows good k (repL rows good k) = .agg [nvM rows good k, gvM rows good k] := by
  simp [resV, nvM, gvM, psM, goodM, bls]
theorem isB_M (rows : List (List Int)) (good : List Bool) (k : Nat) : IsB (gvM rows good k) (goodM rows good k) := .inr ⟨false, by simp [gvM, goodM]⟩
theorem isRows_M (rows : List (List Int)) (good : List Bool) (k : Nat) : IsRows (nvM rows good k) (psM rows good k) (rowsM rows good k) := by
  refine ⟨by simp [psM, rowsM], fun i hi => ?_, .inr ⟨false, by simp [nvM, rowsM]⟩⟩
  have hi' : i < (repL rows good k).length := by simpa [rowsM] using hi
  have e1 : pth (psM rows good k) i = rowF (alB rows good k) rows k (repL rows good k) (repL rows good k)[i] := by simp [pth, psM, hi', List.getD_eq_getElem?_getD]
  have e2 : cth (rowsM rows good k) i = (List.range k).map fun a => ((idxA (alB rows good k) (repL rows good k) (nx rows (repL rows good k)[i] a) : Nat) : Int) := by simp [cth, rowsM, hi', List.getD_eq_getElem?_getD]
  rw [e1, e2]
  exact .inr ⟨false, by simp [rowF, rowV, ints]⟩
theorem rowsM_len (rows : List (List Int)) (good : List Bool) (k : Nat) : (rowsM rows good k).length = (repL rows good k).length := by simp [rowsM]
theorem repL_few {rows : List (List Int)} {good : List Bool} {k : Nat} (v : VB rows good k) : (repL rows good k).length ≤ rows.length ∧ 0 < (repL rows good k).length ∧ 0 ∈ (rchS rows k).1 := by
  obtain ⟨R1, R2⟩ := rch_ok v
  have hle : (repL rows good k).length ≤ rows.length := by
    have := ded_len (al := alB rows good k) (rchS rows k).1 []
    have e : (repL rows good k).length ≤ 0 + (rchS rows k).1.length := this
    have := nodup_sub R1.nd (L := List.range rows.length) fun x hx => List.mem_range.2 (R1.all x hx)
    simp at this
    omega
  have h0 : 0 ∈ (rchS rows k).1 := by
    have hp : ∀ (f i : Nat) (S : List Nat × List (List UInt8)), 0 ∈ S.1 → 0 ∈ (bfsA (nx rows) extL k f i S).1 := by
      intro f
      induction f with
      | zero => intro i S h; exact h
      | succ f ih =>
        intro i S h
        rw [bfsA]
        split
        · rename_i x w _ _
          obtain ⟨p, _, e1, _⟩ := bIn_pre (nx rows) extL x w k 0 S
          exact ih _ _ (by rw [e1]; exact List.mem_append_left _ h)
        · exact h
    exact hp _ _ _ (by simp)
  have := ded_any (lik_alB v) (rchS rows k).1 R1.all 0 h0
  obtain ⟨u, hu, _⟩ := List.any_eq_true.1 this
  exact ⟨hle, List.length_pos_of_mem hu, h0⟩
theorem VB_M {rows : List (List Int)} {good : List Bool} {k : Nat} (v : VB rows good k) : VB (rowsM rows good k) (goodM rows good k) k := by
  obtain ⟨h1, h2, h3⟩ := repL_few v
  obtain ⟨R1, R2⟩ := rch_ok v
  have n6 := v.n6
  have row : ∀ i (hi : i < (repL rows good k).length), cth (rowsM rows good k) i = (List.range k).map fun a => ((idxA (alB rows good k) (repL rows good k) (nx rows (repL rows good k)[i] a) : Nat) : Int) := fun i hi => by simp [cth, rowsM, hi, List.getD_eq_getElem?_getD]
  refine ⟨by rw [rowsM_len]; omega, by rw [rowsM_len]; omega, by simp [goodM, rowsM], v.k1, v.k3, fun i hi => ?_, fun i j hi hj => ?_⟩
  · rw [rowsM_len] at hi
    rw [row i hi]; simp
  · rw [rowsM_len] at hi
    rw [row i hi, rowsM_len]
    have hm : (repL rows good k)[i] ∈ (rchS rows k).1 := ded_mem (List.getElem_mem hi)
    have := idxA_lt (ded_any (lik_alB v) (rchS rows k).1 R1.all _ (R2 _ hm j hj))
    have e : nth ((List.range k).map fun a => ((idxA (alB rows good k) (repL rows good k) (nx rows (repL rows good k)[i] a) : Nat) : Int)) j = ((idxA (alB rows good k) (repL rows good k) (nx rows (repL rows good k)[i] j) : Nat) : Int) := by simp [nth, hj, List.getD_eq_getElem?_getD]
    rw [e]
    have this : idxA (alB rows good k) (repL rows good k) (nx rows (repL rows good k)[i] j) < (repL rows good k).length := this
    omega
end Go.Proofs.Ythnpflkpjimkfaa

/-
  BODIES OF FUNCTIONS OF THE PROGRAM AS SMALL OPERATIONS (written by gen.py; checked by the kernel against the program). Conditions: none.
-/
namespace Go.Proofs.Ythnpflkpjimkfaa
open Go.AM
open Go.Proofs.Try (prog)
set_option maxRecDepth 100000
set_option linter.all false
namespace brand_made
noncomputable section
variable (K : List Item) (s : St)
def b : Code := (Try.f70.body).getD .skip
theorem hf : prog.funcs[70]? = some Try.f70 := by kernel_rfl
def r0 := findReg b 0
def r1 := findReg b 1
def i0 := findCond b 0
def i0t := thenOf i0
def i0e := elseOf i0
def r2 := findReg b 2
def r3 := findReg b 3
def r4 := findReg b 4
def r5 := findReg b 5
def k0 := findBlk b 0
def l0 := loopOf k0
def L0 (x4 x5 : AV) (m : Mem) (K : List Item) : Option Res := den prog ann 70 (.code l0 :: .inLoop l0 :: .inBlock 0 :: K) ⟨[(4, x4), (5, x5)], 101, m⟩
def r6 := findReg b 6
def i1 := findCond b 1
def i1t := thenOf i1
def i1e := elseOf i1
def k1 := findBlk b 1
def r8 := findReg b 8
def k2 := findBlk b 2
def l2 := loopOf k2
def L2 (x4 x5 x44 x45 : AV) (m : Mem) (K : List Item) : Option Res := den prog ann 70 (.code l2 :: .inLoop l2 :: .inBlock 2 :: K) ⟨[(4, x4), (5, x5), (44, x44), (45, x45)], 101, m⟩
def r9 := findReg b 9
def i2 := findCond b 2
def i2t := thenOf i2
def i2e := elseOf i2
def k3 := findBlk b 3
def r10 := findReg b 10
def r11 := findReg b 11
def r12 := findReg b 12
def r13 := findReg b 13
def r14 := findReg b 14
def i3 := findCond b 3
def i3t := thenOf i3
def i3e := elseOf i3
def r15 := findReg b 15
def i4 := findCond b 4
def i4t := thenOf i4
def i4e := elseOf i4
def r16 := findReg b 16
def r17 := findReg b 17
def r18 := findReg b 18
def r19 := findReg b 19
def r7 := findReg b 7
def r20 := findReg b 20
theorem b_eq : den prog ann 70 (.code b :: K) s = den prog ann 70 (.code r0 :: .code r1 :: .code i0 :: .code r3 :: .code r4 :: .code r5 :: .code k0 :: .code r20 :: .code .ret :: K) s := den_flat hf (l := [r0, r1, i0, r3, r4, r5, k0, r20, .ret]) (by kernel_rfl) K s
theorem r0_eq : den prog ann 70 (.code r0 :: K) s = mreg prog ann 70 none [] none [] [qA 1 frozenPtr 0,qF 2 fun s => some (.nilp),qF 3 fun s => some (.int .i64 0)] K s := (den_reg hf _ K s).trans (by kernel_rfl)
theorem r1_eq : den prog ann 70 (.code r1 :: K) s = mreg prog ann 70 none [] none [] [qA 11 (loadF true 2) 1,⟨some 12, none, .c 0 (fun s => (.fn 55 [] [])) fun s => [(s.get 11)]⟩,qA 13 (unA .not) 12] K s := (den_reg hf _ K s).trans (by kernel_rfl)
theorem i0_eq : den prog ann 70 (.code i0 :: K) s = ifV prog ann 70 13 i0t i0e K s (s.get 13) := den_if hf (by kernel_rfl) K s
theorem i0t_eq : den prog ann 70 (.code i0t :: K) s = den prog ann 70 (.code r2 :: .code .ret :: K) s := den_flat hf (l := [r2, .ret]) (by kernel_rfl) K s
theorem r2_eq : den prog ann 70 (.code r2 :: K) s = mreg prog ann 70 none [] none [] [qF 2 fun s => some (.nilp),qF 3 fun s => some (.int .i64 1)] K s := (den_reg hf _ K s).trans (by kernel_rfl)
theorem i0e_eq : den prog ann 70 (.code i0e :: K) s = den prog ann 70 (K) s := den_flat hf (l := []) (by kernel_rfl) K s
theorem r3_eq : den prog ann 70 (.code r3 :: K) s = mreg prog ann 70 none [] none [] [qA 14 (loadF true 2) 1,⟨some 15, none, .c 0 (fun s => (.fn 56 [] [])) fun s => [(s.get 14)]⟩,qF 16 fun s => bslF 1 (bslA 1 1 [.str []] [(0, (.str []))]),⟨some 17, none, .w false none fun s => some (.map s.m.nx, s.m.new (.map 0 [] []))⟩,qF 18 fun s => bldA (plc [(0, 2), (2, 1), (3, 1)]) [.nils, .nils, .nils, .nilm] [(0, (s.get 15)), (1, (s.get 16)), (2, (s.get 17))],⟨some 19, none, .w false none fun s => newPtr s.m (AV.cells (s.get 18))⟩,qC 4 19] K s := (den_reg hf _ K s).trans (by kernel_rfl)
theorem r4_draw : drawOk (fun g => (ann g).pure) (modeOf (ann 70) (idOf r4)) (frzOf (ann 70) (idOf r4)) (opsOf r4) = true := drawOk_of (an := [0, 1, 3, 7, 0, 0, 32, 112, 255]) (by kernel_rfl) (by kernel_rfl)
theorem r4_eq : den prog ann 70 (.code r4 :: K) s = mreg prog ann 70 none [] (some 9) [] [qC 20 4,qA 21 nilA 20,qA 22 (fieldA 3) 21,qF 23 fun s => loadA false 1 s.m (s.get 22),qC 24 4,qF 25 fun s => bldA (plc []) [] [],qF 26 fun s => some (.iface 142 (s.get 25)),⟨some 27, none, .c 0 (fun s => (.fn 87 [] [])) fun s => [(s.get 24), (s.get 26)]⟩,⟨none, none, .w false (some 8) fun s => updM prog s.m 139 (s.get 23) (s.get 27) (.int .i64 0)⟩] K s := (den_regD hf r4_draw K s).trans (by kernel_rfl)
theorem r5_eq : den prog ann 70 (.code r5 :: K) s = mreg prog ann 70 none [] none [] [qF 5 fun s => some (.int .i64 0)] K s := (den_reg hf _ K s).trans (by kernel_rfl)
theorem k0_eq (K : List Item) (t : List (Nat × AV)) (m : Mem) : den prog ann 70 (.code k0 :: K) ⟨t, 101, m⟩ = L0 (get t 4) (get t 5) m K := den_loop_enter hf (b := l0) (id := 6) (l := [4, 5]) (by kernel_rfl) (by kernel_rfl) (by kernel_rfl) K _
theorem l0_eq (K : List Item) (t : List (Nat × AV)) (m : Mem) : den prog ann 70 (.inLoop l0 :: .inBlock 0 :: K) ⟨t, 101, m⟩ = L0 (get t 4) (get t 5) m K := den_loop_again hf (id := 6) (l := [4, 5]) (by kernel_rfl) (by kernel_rfl) (.inBlock 0 :: K) _
theorem L0_eq (x4 x5 : AV) (m : Mem) (K : List Item) : L0 x4 x5 m K = den prog ann 70 (.code r6 :: .code i1 :: .code k1 :: .code r7 :: .inLoop l0 :: .inBlock 0 :: K) ⟨[(4, x4), (5, x5)], 101, m⟩ := den_flat hf (l := [r6, i1, k1, r7]) (by kernel_rfl) _ _
theorem r6_eq : den prog ann 70 (.code r6 :: K) s = mreg prog ann 70 (some [4, 5]) [] none [] [qC 28 5,qC 29 4,qA 30 nilA 29,qA 31 (fieldA 2) 30,qF 32 fun s => loadA false 1 s.m (s.get 31),qA 33 lenSl 32,qB 34 (binA prog .lss 3) 28 33] K s := (den_reg hf _ K s).trans (by kernel_rfl)
theorem i1_eq : den prog ann 70 (.code i1 :: K) s = ifV prog ann 70 34 i1t i1e K s (s.get 34) := den_if hf (by kernel_rfl) K s
theorem i1t_eq : den prog ann 70 (.code i1t :: K) s = den prog ann 70 (K) s := den_flat hf (l := []) (by kernel_rfl) K s
theorem i1e_eq : den prog ann 70 (.code i1e :: K) s = den prog ann 70 (.code (.exit 0) :: K) s := den_flat hf (l := [(.exit 0)]) (by kernel_rfl) K s
theorem k1_eq : den prog ann 70 (.code k1 :: K) s = den prog ann 70 (.code r8 :: .code k2 :: .inBlock 1 :: K) s := den_blk hf (b := blkOf k1) (l := [r8, k2]) (by kernel_rfl) (by kernel_rfl) K s
theorem r8_eq : den prog ann 70 (.code r8 :: K) s = mreg prog ann 70 none [] none [] [qC 37 4,qA 38 nilA 37,qA 39 (fieldA 0) 38,qA 40 (fieldA 0) 39,qF 41 fun s => loadA false 1 s.m (s.get 40),qF 42 fun s => idxSl 1 (s.get 41) (.int .i64 0),qF 43 fun s => loadA false 1 s.m (s.get 42),qA 44 lenSl 43,qF 45 fun s => some (.int .i64 0)] K s := (den_reg hf _ K s).trans (by kernel_rfl)
theorem k2_eq (K : List Item) (t : List (Nat × AV)) (m : Mem) : den prog ann 70 (.code k2 :: K) ⟨t, 101, m⟩ = L2 (get t 4) (get t 5) (get t 44) (get t 45) m K := den_loop_enter hf (b := l2) (id := 9) (l := [4, 5, 44, 45]) (by kernel_rfl) (by kernel_rfl) (by kernel_rfl) K _
theorem l2_eq (K : List Item) (t : List (Nat × AV)) (m : Mem) : den prog ann 70 (.inLoop l2 :: .inBlock 2 :: K) ⟨t, 101, m⟩ = L2 (get t 4) (get t 5) (get t 44) (get t 45) m K := den_loop_again hf (id := 9) (l := [4, 5, 44, 45]) (by kernel_rfl) (by kernel_rfl) (.inBlock 2 :: K) _
theorem L2_eq (x4 x5 x44 x45 : AV) (m : Mem) (K : List Item) : L2 x4 x5 x44 x45 m K = den prog ann 70 (.code r9 :: .code i2 :: .code k3 :: .code r19 :: .inLoop l2 :: .inBlock 2 :: K) ⟨[(4, x4), (5, x5), (44, x44), (45, x45)], 101, m⟩ := den_flat hf (l := [r9, i2, k3, r19]) (by kernel_rfl) _ _
theorem r9_eq : den prog ann 70 (.code r9 :: K) s = mreg prog ann 70 (some [4, 5, 44, 45]) [] none [] [qB 46 (binA prog .lss 3) 45 44] K s := (den_reg hf _ K s).trans (by kernel_rfl)
theorem i2_eq : den prog ann 70 (.code i2 :: K) s = ifV prog ann 70 46 i2t i2e K s (s.get 46) := den_if hf (by kernel_rfl) K s
theorem i2t_eq : den prog ann 70 (.code i2t :: K) s = den prog ann 70 (K) s := den_flat hf (l := []) (by kernel_rfl) K s
theorem i2e_eq : den prog ann 70 (.code i2e :: K) s = den prog ann 70 (.code (.exit 2) :: K) s := den_flat hf (l := [(.exit 2)]) (by kernel_rfl) K s
theorem k3_eq : den prog ann 70 (.code k3 :: K) s = den prog ann 70 (.code r10 :: .code r11 :: .code r12 :: .code r13 :: .code r14 :: .code i3 :: .code r15 :: .code i4 :: .code r17 :: .code r18 :: .inBlock 3 :: K) s := den_blk hf (b := blkOf k3) (l := [r10, r11, r12, r13, r14, i3, r15, i4, r17, r18]) (by kernel_rfl) (by kernel_rfl) K s
theorem r10_eq : den prog ann 70 (.code r10 :: K) s = mreg prog ann 70 none [] none [] [qC 47 45,qC 6 47] K s := (den_reg hf _ K s).trans (by kernel_rfl)
theorem r11_draw : drawOk (fun g => (ann g).pure) (modeOf (ann 70) (idOf r11)) (frzOf (ann 70) (idOf r11)) (opsOf r11) = true := drawOk_of (an := [0, 1, 3, 7, 0, 31, 63, 0, 128, 511, 1023]) (by kernel_rfl) (by kernel_rfl)
theorem r11_eq : den prog ann 70 (.code r11 :: K) s = mreg prog ann 70 none [] (some 11) [] [qC 48 4,qA 49 nilA 48,qA 50 (fieldA 2) 49,qF 51 fun s => loadA false 1 s.m (s.get 50),qC 52 5,qB 53 (idxSl 1) 51 52,qF 54 fun s => loadA false 1 s.m (s.get 53),qC 55 6,⟨some 56, none, .c 0 (fun s => (.fn 59 [] [])) fun s => [(s.get 55)]⟩,qB 57 (binA prog .add 9) 54 56,qC 7 57] K s := (den_regD hf r11_draw K s).trans (by kernel_rfl)
theorem r12_eq : den prog ann 70 (.code r12 :: K) s = mreg prog ann 70 none [] none [8] [qC 58 4,qC 59 4,qC 60 7,⟨some 61, none, .c 0 (fun s => (.fn 88 [] [])) fun s => [(s.get 59), (s.get 60)]⟩,⟨some 62, none, .c 0 (fun s => (.fn 87 [] [])) fun s => [(s.get 58), (s.get 61)]⟩,⟨some 8, none, .w false none fun s => newPtr s.m [.int .i64 0, .int .i64 0, .int .i64 0, .int .i64 0, .int .i64 0, .int .i64 0]⟩,⟨none, none, .w false none fun s => stA true 6 s.m (s.get 8) (s.get 62)⟩] K s := (den_reg hf _ K s).trans (by kernel_rfl)
theorem r13_draw : drawOk (fun g => (ann g).pure) (modeOf (ann 70) (idOf r13)) (frzOf (ann 70) (idOf r13)) (opsOf r13) = true := drawOk_of (an := [0, 1, 3, 7, 0, 31, 63, 127, 127, 255, 1023]) (by kernel_rfl) (by kernel_rfl)
theorem r13_eq : den prog ann 70 (.code r13 :: K) s = mreg prog ann 70 none [] (some 11) [] [qC 64 4,qA 65 nilA 64,qA 66 (fieldA 3) 65,qF 67 fun s => loadA false 1 s.m (s.get 66),qA 68 (loadF true 6) 8,qF 69 fun s => lookP prog s.m 139 (.int .i64 0) (s.get 67) (s.get 68) true,qC 63 69,qF 70 fun s => extA (s.get 63) 0,qF 71 fun s => extA (s.get 63) 1,qC 9 70,qC 10 71] K s := (den_regD hf r13_draw K s).trans (by kernel_rfl)
theorem r14_eq : den prog ann 70 (.code r14 :: K) s = mreg prog ann 70 none [] none [] [qC 72 10] K s := (den_reg hf _ K s).trans (by kernel_rfl)
theorem i3_eq : den prog ann 70 (.code i3 :: K) s = ifV prog ann 70 72 i3t i3e K s (s.get 72) := den_if hf (by kernel_rfl) K s
theorem i3t_eq : den prog ann 70 (.code i3t :: K) s = den prog ann 70 (.code (.exit 3) :: K) s := den_flat hf (l := [(.exit 3)]) (by kernel_rfl) K s
theorem i3e_eq : den prog ann 70 (.code i3e :: K) s = den prog ann 70 (K) s := den_flat hf (l := []) (by kernel_rfl) K s
theorem r15_eq : den prog ann 70 (.code r15 :: K) s = mreg prog ann 70 none [] none [] [qC 73 4,qA 74 nilA 73,qA 75 (fieldA 2) 74,qF 76 fun s => loadA false 1 s.m (s.get 75),qA 77 lenSl 76,qF 78 fun s => binA prog .eql 3 (s.get 77) (.int .i64 400)] K s := (den_reg hf _ K s).trans (by kernel_rfl)
theorem i4_eq : den prog ann 70 (.code i4 :: K) s = ifV prog ann 70 78 i4t i4e K s (s.get 78) := den_if hf (by kernel_rfl) K s
theorem i4t_eq : den prog ann 70 (.code i4t :: K) s = den prog ann 70 (.code r16 :: .code .ret :: K) s := den_flat hf (l := [r16, .ret]) (by kernel_rfl) K s
theorem r16_eq : den prog ann 70 (.code r16 :: K) s = mreg prog ann 70 none [] none [] [qF 2 fun s => some (.nilp),qF 3 fun s => some (.int .i64 7)] K s := (den_reg hf _ K s).trans (by kernel_rfl)
theorem i4e_eq : den prog ann 70 (.code i4e :: K) s = den prog ann 70 (K) s := den_flat hf (l := []) (by kernel_rfl) K s
theorem r17_draw : drawOk (fun g => (ann g).pure) (modeOf (ann 70) (idOf r17)) (frzOf (ann 70) (idOf r17)) (opsOf r17) = true := drawOk_of (an := [0, 1, 3, 7, 0, 0, 32, 96, 224, 480, 1023]) (by kernel_rfl) (by kernel_rfl)
theorem r17_eq : den prog ann 70 (.code r17 :: K) s = mreg prog ann 70 none [] (some 11) [] [qC 79 4,qA 80 nilA 79,qA 81 (fieldA 3) 80,qF 82 fun s => loadA false 1 s.m (s.get 81),qA 83 (loadF true 6) 8,qC 84 4,qA 85 nilA 84,qA 86 (fieldA 2) 85,qF 87 fun s => loadA false 1 s.m (s.get 86),qA 88 lenSl 87,⟨none, none, .w false (some 10) fun s => updM prog s.m 139 (s.get 82) (s.get 83) (s.get 88)⟩] K s := (den_regD hf r17_draw K s).trans (by kernel_rfl)
theorem r18_eq : den prog ann 70 (.code r18 :: K) s = mreg prog ann 70 none [] none [] [qC 89 4,qC 90 4,qA 91 nilA 90,qA 92 (fieldA 2) 91,qF 93 fun s => loadA false 1 s.m (s.get 92),qC 94 7,qF 95 fun s => bslF 1 (bslA 1 1 [.str []] [(0, (s.get 94))]),⟨some 96, none, .w false none fun s => appendA 1 16 s.m (s.get 93) (s.get 95)⟩,qA 97 nilA 89,qA 98 (fieldA 2) 97,⟨none, none, .w false none fun s => stA false 1 s.m (s.get 98) (s.get 96)⟩] K s := (den_reg hf _ K s).trans (by kernel_rfl)
theorem r19_eq : den prog ann 70 (.code r19 :: K) s = mreg prog ann 70 (some [4, 5, 44, 45]) [] none [] [qF 99 fun s => binA prog .add 3 (s.get 45) (.int .i64 1),qC 45 99] K s := (den_reg hf _ K s).trans (by kernel_rfl)
theorem r7_eq : den prog ann 70 (.code r7 :: K) s = mreg prog ann 70 (some [4, 5]) [] none [] [qC 35 5,qF 36 fun s => binA prog .add 3 (s.get 35) (.int .i64 1),qC 5 36] K s := (den_reg hf _ K s).trans (by kernel_rfl)
theorem r20_eq : den prog ann 70 (.code r20 :: K) s = mreg prog ann 70 (some [4]) [] none [] [qC 100 4,qC 2 100,qF 3 fun s => some (.int .i64 0)] K s := (den_reg hf _ K s).trans (by kernel_rfl)
theorem ret_eq : den prog ann 70 (.code .ret :: K) s = finM true [fun s => some (s.get 2), fun s => some (s.get 3)] s := (den_ret hf K s).trans (by kernel_rfl)
theorem nil_eq (s : St) : den prog ann 70 [] s = finM true [fun s => some (s.get 2), fun s => some (s.get 3)] s := (den_nil hf s).trans (by kernel_rfl)
theorem inBlock_eq (id : Nat) (K : List Item) (s : St) : den prog ann 70 (.inBlock id :: K) s = den prog ann 70 K s := den_inBlock hf id K s
theorem exit_eq (id : Nat) (K : List Item) (s : St) : den prog ann 70 (.code (.exit id) :: K) s = exitV prog ann 70 (exitTo id K) s := den_exitV hf id K s
theorem call_eq (v0 : AV) (m : Mem) (h : closedL [v0] = true) : denC prog ann 70 [v0] m = (den prog ann 70 [.code b] ⟨[(0, v0)], 101, Mem.empty⟩).bind fun r => some (r.1, m) := (denC_pure hf (b := b) (by kernel_rfl) (by kernel_rfl) (by kernel_rfl) h m).trans (by kernel_rfl)
theorem pure_eq : (ann 70).pure = true := by kernel_rfl
attribute [simp] b_eq r0_eq r1_eq i0_eq i0t_eq r2_eq i0e_eq r3_eq r4_eq r5_eq k0_eq l0_eq r6_eq i1_eq i1t_eq i1e_eq k1_eq r8_eq k2_eq l2_eq r9_eq i2_eq i2t_eq i2e_eq k3_eq r10_eq r11_eq r12_eq r13_eq r14_eq i3_eq i3t_eq i3e_eq r15_eq i4_eq i4t_eq r16_eq i4e_eq r17_eq r18_eq r19_eq r7_eq r20_eq ret_eq nil_eq inBlock_eq exit_eq pure_eq
end
end brand_made
namespace brand_monoid_number
noncomputable section
variable (K : List Item) (s : St)
def b : Code := (Try.f71.body).getD .skip
theorem hf : prog.funcs[71]? = some Try.f71 := by kernel_rfl
def r0 := findReg b 0
def r1 := findReg b 1
theorem b_eq : den prog ann 71 (.code b :: K) s = den prog ann 71 (.code r0 :: .code r1 :: .code .ret :: K) s := den_flat hf (l := [r0, r1, .ret]) (by kernel_rfl) K s
theorem r0_eq : den prog ann 71 (.code r0 :: K) s = mreg prog ann 71 none [] none [] [qF 4 fun s => some (.int .i64 0)] K s := (den_reg hf _ K s).trans (by kernel_rfl)
theorem r1_draw : drawOk (fun g => (ann g).pure) (modeOf (ann 71) (idOf r1)) (frzOf (ann 71) (idOf r1)) (opsOf r1) = true := drawOk_of (an := [0, 1, 3, 7, 0, 0, 0, 96, 240, 511, 1023]) (by kernel_rfl) (by kernel_rfl)
theorem r1_eq : den prog ann 71 (.code r1 :: K) s = mreg prog ann 71 none [] (some 11) [] [qC 5 0,qA 6 nilA 5,qA 7 (fieldA 3) 6,qA 8 (loadF false 1) 7,qC 9 0,qC 10 0,qC 11 1,⟨some 12, none, .c 0 (fun s => (.fn 88 [] [])) fun s => [(s.get 10), (s.get 11)]⟩,⟨some 13, none, .c 0 (fun s => (.fn 87 [] [])) fun s => [(s.get 9), (s.get 12)]⟩,qF 14 fun s => lookP prog s.m 139 (.int .i64 0) (s.get 8) (s.get 13) false,qC 4 14] K s := (den_regD hf r1_draw K s).trans (by kernel_rfl)
theorem ret_eq : den prog ann 71 (.code .ret :: K) s = finM true [fun s => some (s.get 4)] s := (den_ret hf K s).trans (by kernel_rfl)
theorem nil_eq (s : St) : den prog ann 71 [] s = finM true [fun s => some (s.get 4)] s := (den_nil hf s).trans (by kernel_rfl)
theorem inBlock_eq (id : Nat) (K : List Item) (s : St) : den prog ann 71 (.inBlock id :: K) s = den prog ann 71 K s := den_inBlock hf id K s
theorem exit_eq (id : Nat) (K : List Item) (s : St) : den prog ann 71 (.code (.exit id) :: K) s = exitV prog ann 71 (exitTo id K) s := den_exitV hf id K s
theorem call_eq (v0 v1 : AV) (m : Mem) (h : closedL [v0, v1] = true) : denC prog ann 71 [v0, v1] m = (den prog ann 71 [.code b] ⟨[(0, v0), (1, v1)], 15, Mem.empty⟩).bind fun r => some (r.1, m) := (denC_pure hf (b := b) (by kernel_rfl) (by kernel_rfl) (by kernel_rfl) h m).trans (by kernel_rfl)
theorem pure_eq : (ann 71).pure = true := by kernel_rfl
attribute [simp] b_eq r0_eq r1_eq ret_eq nil_eq inBlock_eq exit_eq pure_eq
end
end brand_monoid_number
namespace brand_monoid_table
noncomputable section
variable (K : List Item) (s : St)
def b : Code := (Try.f87.body).getD .skip
theorem hf : prog.funcs[87]? = some Try.f87 := by kernel_rfl
def r0 := findReg b 0
def r1 := findReg b 1
def k0 := findBlk b 0
def r2 := findReg b 2
def i0 := findCond b 0
def i0t := thenOf i0
def i0e := elseOf i0
def r3 := findReg b 3
def r4 := findReg b 4
def r5 := findReg b 5
def i1 := findCond b 1
def i1t := thenOf i1
def i1e := elseOf i1
def r6 := findReg b 6
def r7 := findReg b 7
def r8 := findReg b 8
def k1 := findBlk b 1
def l1 := loopOf k1
def L1 (x4 x6 x7 x22 x23 : AV) (m : Mem) (K : List Item) : Option Res := den prog ann 87 (.code l1 :: .inLoop l1 :: .inBlock 1 :: K) ⟨[(4, x4), (6, x6), (7, x7), (22, x22), (23, x23)], 34, m⟩
def r9 := findReg b 9
def i2 := findCond b 2
def i2t := thenOf i2
def i2e := elseOf i2
def k2 := findBlk b 2
def r10 := findReg b 10
def r11 := findReg b 11
def r12 := findReg b 12
def r13 := findReg b 13
def r14 := findReg b 14
theorem b_eq : den prog ann 87 (.code b :: K) s = den prog ann 87 (.code r0 :: .code r1 :: .code k0 :: .code r14 :: .code .ret :: K) s := den_flat hf (l := [r0, r1, k0, r14, .ret]) (by kernel_rfl) K s
theorem r0_eq : den prog ann 87 (.code r0 :: K) s = mreg prog ann 87 none [] none [] [⟨some 4, none, .w false none fun s => newPtr s.m [.int .i64 0, .int .i64 0, .int .i64 0, .int .i64 0, .int .i64 0, .int .i64 0]⟩] K s := (den_reg hf _ K s).trans (by kernel_rfl)
theorem r1_eq : den prog ann 87 (.code r1 :: K) s = mreg prog ann 87 none [] none [] [qC 9 1] K s := (den_reg hf _ K s).trans (by kernel_rfl)
theorem k0_eq : den prog ann 87 (.code k0 :: K) s = den prog ann 87 (.code r2 :: .code i0 :: .inBlock 0 :: K) s := den_blk hf (b := blkOf k0) (l := [r2, i0]) (by kernel_rfl) (by kernel_rfl) K s
theorem r2_eq : den prog ann 87 (.code r2 :: K) s = mreg prog ann 87 none [] none [] [qA 10 (tyA 139 (.agg [.int .i64 0, .int .i64 0, .int .i64 0, .int .i64 0, .int .i64 0, .int .i64 0])) 9,qF 11 fun s => extA (s.get 10) 1,qF 12 fun s => extA (s.get 10) 0] K s := (den_reg hf _ K s).trans (by kernel_rfl)
theorem i0_eq : den prog ann 87 (.code i0 :: K) s = ifV prog ann 87 11 i0t i0e K s (s.get 11) := den_if hf (by kernel_rfl) K s
theorem i0t_eq : den prog ann 87 (.code i0t :: K) s = den prog ann 87 (.code r3 :: .code r4 :: .code .ret :: K) s := den_flat hf (l := [r3, r4, .ret]) (by kernel_rfl) K s
theorem r3_eq : den prog ann 87 (.code r3 :: K) s = mreg prog ann 87 none [] none [5] [⟨some 5, none, .w false none fun s => newPtr s.m [.int .i64 0, .int .i64 0, .int .i64 0, .int .i64 0, .int .i64 0, .int .i64 0]⟩,⟨none, none, .w false none fun s => stA true 6 s.m (s.get 5) (s.get 12)⟩] K s := (den_reg hf _ K s).trans (by kernel_rfl)
theorem r4_eq : den prog ann 87 (.code r4 :: K) s = mreg prog ann 87 none [] none [] [qA 13 (loadF true 6) 5,⟨none, none, .w false none fun s => stA true 6 s.m (s.get 4) (s.get 13)⟩] K s := (den_reg hf _ K s).trans (by kernel_rfl)
theorem i0e_eq : den prog ann 87 (.code i0e :: K) s = den prog ann 87 (.code r5 :: .code i1 :: K) s := den_flat hf (l := [r5, i1]) (by kernel_rfl) K s
theorem r5_eq : den prog ann 87 (.code r5 :: K) s = mreg prog ann 87 none [] none [] [qA 14 (tyA 142 (.agg [])) 9,qF 15 fun s => extA (s.get 14) 1,qF 16 fun s => extA (s.get 14) 0] K s := (den_reg hf _ K s).trans (by kernel_rfl)
theorem i1_eq : den prog ann 87 (.code i1 :: K) s = ifV prog ann 87 15 i1t i1e K s (s.get 15) := den_if hf (by kernel_rfl) K s
theorem i1t_eq : den prog ann 87 (.code i1t :: K) s = den prog ann 87 (.code r6 :: .code r7 :: .code r8 :: .code k1 :: .code r13 :: .code .ret :: K) s := den_flat hf (l := [r6, r7, r8, k1, r13, .ret]) (by kernel_rfl) K s
theorem r6_eq : den prog ann 87 (.code r6 :: K) s = mreg prog ann 87 none [] none [6] [⟨some 6, none, .w false none fun s => newPtr s.m []⟩,⟨none, none, .w false none fun s => stA true 0 s.m (s.get 6) (s.get 16)⟩] K s := (den_reg hf _ K s).trans (by kernel_rfl)
theorem r7_eq : den prog ann 87 (.code r7 :: K) s = mreg prog ann 87 none [] none [] [⟨some 7, none, .w false none fun s => newPtr s.m [.int .i64 0, .int .i64 0, .int .i64 0, .int .i64 0, .int .i64 0, .int .i64 0]⟩] K s := (den_reg hf _ K s).trans (by kernel_rfl)
theorem r8_eq : den prog ann 87 (.code r8 :: K) s = mreg prog ann 87 none [] none [] [qC 17 0,qA 18 nilA 17,qA 19 (fieldA 0) 18,qA 20 (fieldA 0) 19,qA 21 (loadF false 1) 20,qA 22 lenSl 21,qF 23 fun s => some (.int .i64 0)] K s := (den_reg hf _ K s).trans (by kernel_rfl)
theorem k1_eq (K : List Item) (t : List (Nat × AV)) (m : Mem) : den prog ann 87 (.code k1 :: K) ⟨t, 34, m⟩ = L1 (get t 4) (get t 6) (get t 7) (get t 22) (get t 23) m K := den_loop_enter hf (b := l1) (id := 9) (l := [4, 6, 7, 22, 23]) (by kernel_rfl) (by kernel_rfl) (by kernel_rfl) K _
theorem l1_eq (K : List Item) (t : List (Nat × AV)) (m : Mem) : den prog ann 87 (.inLoop l1 :: .inBlock 1 :: K) ⟨t, 34, m⟩ = L1 (get t 4) (get t 6) (get t 7) (get t 22) (get t 23) m K := den_loop_again hf (id := 9) (l := [4, 6, 7, 22, 23]) (by kernel_rfl) (by kernel_rfl) (.inBlock 1 :: K) _
theorem L1_eq (x4 x6 x7 x22 x23 : AV) (m : Mem) (K : List Item) : L1 x4 x6 x7 x22 x23 m K = den prog ann 87 (.code r9 :: .code i2 :: .code k2 :: .code r12 :: .inLoop l1 :: .inBlock 1 :: K) ⟨[(4, x4), (6, x6), (7, x7), (22, x22), (23, x23)], 34, m⟩ := den_flat hf (l := [r9, i2, k2, r12]) (by kernel_rfl) _ _
theorem r9_eq : den prog ann 87 (.code r9 :: K) s = mreg prog ann 87 (some [4, 6, 7, 22, 23]) [] none [] [qB 24 (binA prog .lss 3) 23 22] K s := (den_reg hf _ K s).trans (by kernel_rfl)
theorem i2_eq : den prog ann 87 (.code i2 :: K) s = ifV prog ann 87 24 i2t i2e K s (s.get 24) := den_if hf (by kernel_rfl) K s
theorem i2t_eq : den prog ann 87 (.code i2t :: K) s = den prog ann 87 (K) s := den_flat hf (l := []) (by kernel_rfl) K s
theorem i2e_eq : den prog ann 87 (.code i2e :: K) s = den prog ann 87 (.code (.exit 1) :: K) s := den_flat hf (l := [(.exit 1)]) (by kernel_rfl) K s
theorem k2_eq : den prog ann 87 (.code k2 :: K) s = den prog ann 87 (.code r10 :: .code r11 :: .inBlock 2 :: K) s := den_blk hf (b := blkOf k2) (l := [r10, r11]) (by kernel_rfl) (by kernel_rfl) K s
theorem r10_eq : den prog ann 87 (.code r10 :: K) s = mreg prog ann 87 none [] none [] [qC 25 23,qC 8 25] K s := (den_reg hf _ K s).trans (by kernel_rfl)
theorem r11_eq : den prog ann 87 (.code r11 :: K) s = mreg prog ann 87 none [] none [] [qC 26 8,qA 27 (loadF true 0) 6,qC 28 8,⟨some 29, none, .c 0 (fun s => (.fn 95 [] [])) fun s => [(s.get 27), (s.get 28)]⟩,qB 30 (idxArr 6 1) 7 26,⟨none, none, .w false none fun s => stA false 1 s.m (s.get 30) (s.get 29)⟩] K s := (den_reg hf _ K s).trans (by kernel_rfl)
theorem r12_eq : den prog ann 87 (.code r12 :: K) s = mreg prog ann 87 (some [4, 6, 7, 22, 23]) [] none [] [qF 31 fun s => binA prog .add 3 (s.get 23) (.int .i64 1),qC 23 31] K s := (den_reg hf _ K s).trans (by kernel_rfl)
theorem r13_eq : den prog ann 87 (.code r13 :: K) s = mreg prog ann 87 (some [4, 7]) [] none [] [qF 32 fun s => loadA true 6 s.m (s.get 7),⟨none, none, .w false none fun s => stA true 6 s.m (s.get 4) (s.get 32)⟩] K s := (den_reg hf _ K s).trans (by kernel_rfl)
theorem i1e_eq : den prog ann 87 (.code i1e :: K) s = den prog ann 87 (K) s := den_flat hf (l := []) (by kernel_rfl) K s
theorem r14_eq : den prog ann 87 (.code r14 :: K) s = mreg prog ann 87 (some [4]) [] none [] [qF 33 fun s => bldA (plcA 1) [.int .i64 0, .int .i64 0, .int .i64 0, .int .i64 0, .int .i64 0, .int .i64 0] [],⟨none, none, .w false none fun s => stA true 6 s.m (s.get 4) (s.get 33)⟩] K s := (den_reg hf _ K s).trans (by kernel_rfl)
theorem ret_eq : den prog ann 87 (.code .ret :: K) s = finM true [fun s => loadA true 6 s.m (s.get 4)] s := (den_ret hf K s).trans (by kernel_rfl)
theorem nil_eq (s : St) : den prog ann 87 [] s = finM true [fun s => loadA true 6 s.m (s.get 4)] s := (den_nil hf s).trans (by kernel_rfl)
theorem inBlock_eq (id : Nat) (K : List Item) (s : St) : den prog ann 87 (.inBlock id :: K) s = den prog ann 87 K s := den_inBlock hf id K s
theorem exit_eq (id : Nat) (K : List Item) (s : St) : den prog ann 87 (.code (.exit id) :: K) s = exitV prog ann 87 (exitTo id K) s := den_exitV hf id K s
theorem call_eq (v0 v1 : AV) (m : Mem) (h : closedL [v0, v1] = true) : denC prog ann 87 [v0, v1] m = (den prog ann 87 [.code b] ⟨[(0, v0), (1, v1)], 34, Mem.empty⟩).bind fun r => some (r.1, m) := (denC_pure hf (b := b) (by kernel_rfl) (by kernel_rfl) (by kernel_rfl) h m).trans (by kernel_rfl)
theorem pure_eq : (ann 87).pure = true := by kernel_rfl
attribute [simp] b_eq r0_eq r1_eq k0_eq r2_eq i0_eq i0t_eq r3_eq r4_eq i0e_eq r5_eq i1_eq i1t_eq r6_eq r7_eq r8_eq k1_eq l1_eq r9_eq i2_eq i2t_eq i2e_eq k2_eq r10_eq r11_eq r12_eq r13_eq i1e_eq r14_eq ret_eq nil_eq inBlock_eq exit_eq pure_eq
end
end brand_monoid_table
namespace brand_monoid_does
noncomputable section
variable (K : List Item) (s : St)
def b : Code := (Try.f88.body).getD .skip
theorem hf : prog.funcs[88]? = some Try.f88 := by kernel_rfl
def r0 := findReg b 0
def r1 := findReg b 1
def i0 := findCond b 0
def i0t := thenOf i0
def i0e := elseOf i0
def r2 := findReg b 2
def r3 := findReg b 3
def r4 := findReg b 4
def k0 := findBlk b 0
def l0 := loopOf k0
def L0 (x0 x1 x5 x16 x17 : AV) (m : Mem) (K : List Item) : Option Res := den prog ann 88 (.code l0 :: .inLoop l0 :: .inBlock 0 :: K) ⟨[(0, x0), (1, x1), (5, x5), (16, x16), (17, x17)], 32, m⟩
def r5 := findReg b 5
def i1 := findCond b 1
def i1t := thenOf i1
def i1e := elseOf i1
def k1 := findBlk b 1
def r6 := findReg b 6
def r7 := findReg b 7
def r8 := findReg b 8
def r9 := findReg b 9
theorem b_eq : den prog ann 88 (.code b :: K) s = den prog ann 88 (.code r0 :: .code r1 :: .code i0 :: .code r3 :: .code r4 :: .code k0 :: .code r9 :: .code .ret :: K) s := den_flat hf (l := [r0, r1, i0, r3, r4, k0, r9, .ret]) (by kernel_rfl) K s
theorem r0_eq : den prog ann 88 (.code r0 :: K) s = mreg prog ann 88 none [] none [] [qF 4 fun s => some (.nili)] K s := (den_reg hf _ K s).trans (by kernel_rfl)
theorem r1_eq : den prog ann 88 (.code r1 :: K) s = mreg prog ann 88 none [] none [] [qC 7 1,qF 8 fun s => binA prog .eql 9 (s.get 7) (.str [])] K s := (den_reg hf _ K s).trans (by kernel_rfl)
theorem i0_eq : den prog ann 88 (.code i0 :: K) s = ifV prog ann 88 8 i0t i0e K s (s.get 8) := den_if hf (by kernel_rfl) K s
theorem i0t_eq : den prog ann 88 (.code i0t :: K) s = den prog ann 88 (.code r2 :: .code .ret :: K) s := den_flat hf (l := [r2, .ret]) (by kernel_rfl) K s
theorem r2_eq : den prog ann 88 (.code r2 :: K) s = mreg prog ann 88 none [] none [] [qF 9 fun s => bldA (plc []) [] [],qF 10 fun s => some (.iface 142 (s.get 9)),qC 4 10] K s := (den_reg hf _ K s).trans (by kernel_rfl)
theorem i0e_eq : den prog ann 88 (.code i0e :: K) s = den prog ann 88 (K) s := den_flat hf (l := []) (by kernel_rfl) K s
theorem r3_eq : den prog ann 88 (.code r3 :: K) s = mreg prog ann 88 none [] none [] [⟨some 5, none, .w false none fun s => newPtr s.m [.int .i64 0, .int .i64 0, .int .i64 0, .int .i64 0, .int .i64 0, .int .i64 0]⟩] K s := (den_reg hf _ K s).trans (by kernel_rfl)
theorem r4_eq : den prog ann 88 (.code r4 :: K) s = mreg prog ann 88 none [] none [] [qC 11 0,qA 12 nilA 11,qA 13 (fieldA 0) 12,qA 14 (fieldA 0) 13,qA 15 (loadF false 1) 14,qA 16 lenSl 15,qF 17 fun s => some (.int .i64 0)] K s := (den_reg hf _ K s).trans (by kernel_rfl)
theorem k0_eq (K : List Item) (t : List (Nat × AV)) (m : Mem) : den prog ann 88 (.code k0 :: K) ⟨t, 32, m⟩ = L0 (get t 0) (get t 1) (get t 5) (get t 16) (get t 17) m K := den_loop_enter hf (b := l0) (id := 5) (l := [0, 1, 5, 16, 17]) (by kernel_rfl) (by kernel_rfl) (by kernel_rfl) K _
theorem l0_eq (K : List Item) (t : List (Nat × AV)) (m : Mem) : den prog ann 88 (.inLoop l0 :: .inBlock 0 :: K) ⟨t, 32, m⟩ = L0 (get t 0) (get t 1) (get t 5) (get t 16) (get t 17) m K := den_loop_again hf (id := 5) (l := [0, 1, 5, 16, 17]) (by kernel_rfl) (by kernel_rfl) (.inBlock 0 :: K) _
theorem L0_eq (x0 x1 x5 x16 x17 : AV) (m : Mem) (K : List Item) : L0 x0 x1 x5 x16 x17 m K = den prog ann 88 (.code r5 :: .code i1 :: .code k1 :: .code r8 :: .inLoop l0 :: .inBlock 0 :: K) ⟨[(0, x0), (1, x1), (5, x5), (16, x16), (17, x17)], 32, m⟩ := den_flat hf (l := [r5, i1, k1, r8]) (by kernel_rfl) _ _
theorem r5_eq : den prog ann 88 (.code r5 :: K) s = mreg prog ann 88 (some [0, 1, 5, 16, 17]) [] none [] [qB 18 (binA prog .lss 3) 17 16] K s := (den_reg hf _ K s).trans (by kernel_rfl)
theorem i1_eq : den prog ann 88 (.code i1 :: K) s = ifV prog ann 88 18 i1t i1e K s (s.get 18) := den_if hf (by kernel_rfl) K s
theorem i1t_eq : den prog ann 88 (.code i1t :: K) s = den prog ann 88 (K) s := den_flat hf (l := []) (by kernel_rfl) K s
theorem i1e_eq : den prog ann 88 (.code i1e :: K) s = den prog ann 88 (.code (.exit 0) :: K) s := den_flat hf (l := [(.exit 0)]) (by kernel_rfl) K s
theorem k1_eq : den prog ann 88 (.code k1 :: K) s = den prog ann 88 (.code r6 :: .code r7 :: .inBlock 1 :: K) s := den_blk hf (b := blkOf k1) (l := [r6, r7]) (by kernel_rfl) (by kernel_rfl) K s
theorem r6_eq : den prog ann 88 (.code r6 :: K) s = mreg prog ann 88 none [] none [] [qC 19 17,qC 6 19] K s := (den_reg hf _ K s).trans (by kernel_rfl)
theorem r7_eq : den prog ann 88 (.code r7 :: K) s = mreg prog ann 88 none [] none [] [qC 20 6,qC 21 0,qA 22 nilA 21,qA 23 (fieldA 0) 22,qA 24 (loadF true 2) 23,qC 25 6,qC 26 1,⟨some 27, none, .c 0 (fun s => (.fn 69 [] [])) fun s => [(s.get 24), (s.get 25), (s.get 26)]⟩,qB 28 (idxArr 6 1) 5 20,⟨none, none, .w false none fun s => stA false 1 s.m (s.get 28) (s.get 27)⟩] K s := (den_reg hf _ K s).trans (by kernel_rfl)
theorem r8_eq : den prog ann 88 (.code r8 :: K) s = mreg prog ann 88 (some [0, 1, 5, 16, 17]) [] none [] [qF 29 fun s => binA prog .add 3 (s.get 17) (.int .i64 1),qC 17 29] K s := (den_reg hf _ K s).trans (by kernel_rfl)
theorem r9_eq : den prog ann 88 (.code r9 :: K) s = mreg prog ann 88 (some [5]) [] none [] [qF 30 fun s => loadA true 6 s.m (s.get 5),qF 31 fun s => some (.iface 139 (s.get 30)),qC 4 31] K s := (den_reg hf _ K s).trans (by kernel_rfl)
theorem ret_eq : den prog ann 88 (.code .ret :: K) s = finM true [fun s => some (s.get 4)] s := (den_ret hf K s).trans (by kernel_rfl)
theorem nil_eq (s : St) : den prog ann 88 [] s = finM true [fun s => some (s.get 4)] s := (den_nil hf s).trans (by kernel_rfl)
theorem inBlock_eq (id : Nat) (K : List Item) (s : St) : den prog ann 88 (.inBlock id :: K) s = den prog ann 88 K s := den_inBlock hf id K s
theorem exit_eq (id : Nat) (K : List Item) (s : St) : den prog ann 88 (.code (.exit id) :: K) s = exitV prog ann 88 (exitTo id K) s := den_exitV hf id K s
theorem call_eq (v0 v1 : AV) (m : Mem) (h : closedL [v0, v1] = true) : denC prog ann 88 [v0, v1] m = (den prog ann 88 [.code b] ⟨[(0, v0), (1, v1)], 32, Mem.empty⟩).bind fun r => some (r.1, m) := (denC_pure hf (b := b) (by kernel_rfl) (by kernel_rfl) (by kernel_rfl) h m).trans (by kernel_rfl)
theorem pure_eq : (ann 88).pure = true := by kernel_rfl
attribute [simp] b_eq r0_eq r1_eq i0_eq i0t_eq r2_eq i0e_eq r3_eq r4_eq k0_eq l0_eq r5_eq i1_eq i1t_eq i1e_eq k1_eq r6_eq r7_eq r8_eq r9_eq ret_eq nil_eq inBlock_eq exit_eq pure_eq
end
end brand_monoid_does
namespace brand_Monoid
noncomputable section
variable (K : List Item) (s : St)
def b : Code := (Try.f36.body).getD .skip
theorem hf : prog.funcs[36]? = some Try.f36 := by kernel_rfl
def r0 := findReg b 0
def r1 := findReg b 1
def r2 := findReg b 2
def i0 := findCond b 0
def i0t := thenOf i0
def i0e := elseOf i0
def r3 := findReg b 3
def r4 := findReg b 4
theorem b_eq : den prog ann 36 (.code b :: K) s = den prog ann 36 (.code r0 :: .code r1 :: .code r2 :: .code i0 :: .code r4 :: .code .ret :: K) s := den_flat hf (l := [r0, r1, r2, i0, r4, .ret]) (by kernel_rfl) K s
theorem r0_eq : den prog ann 36 (.code r0 :: K) s = mreg prog ann 36 none [] none [] [qA 1 frozenPtr 0,qF 2 fun s => some (.nils),qF 3 fun s => some (.int .i64 0)] K s := (den_reg hf _ K s).trans (by kernel_rfl)
theorem r1_eq : den prog ann 36 (.code r1 :: K) s = mreg prog ann 36 none [] none [] [qA 7 (loadF true 2) 1,⟨some 8, none, .c 0 (fun s => (.fn 70 [] [])) fun s => [(s.get 7)]⟩,qC 6 8,qF 9 fun s => extA (s.get 6) 0,qF 10 fun s => extA (s.get 6) 1,qC 4 9,qC 5 10] K s := (den_reg hf _ K s).trans (by kernel_rfl)
theorem r2_eq : den prog ann 36 (.code r2 :: K) s = mreg prog ann 36 none [] none [] [qC 11 5,qF 12 fun s => binA prog .neq 27 (s.get 11) (.int .i64 0)] K s := (den_reg hf _ K s).trans (by kernel_rfl)
theorem i0_eq : den prog ann 36 (.code i0 :: K) s = ifV prog ann 36 12 i0t i0e K s (s.get 12) := den_if hf (by kernel_rfl) K s
theorem i0t_eq : den prog ann 36 (.code i0t :: K) s = den prog ann 36 (.code r3 :: .code .ret :: K) s := den_flat hf (l := [r3, .ret]) (by kernel_rfl) K s
theorem r3_eq : den prog ann 36 (.code r3 :: K) s = mreg prog ann 36 none [] none [] [qC 13 5,qF 2 fun s => some (.nils),qC 3 13] K s := (den_reg hf _ K s).trans (by kernel_rfl)
theorem i0e_eq : den prog ann 36 (.code i0e :: K) s = den prog ann 36 (K) s := den_flat hf (l := []) (by kernel_rfl) K s
theorem r4_eq : den prog ann 36 (.code r4 :: K) s = mreg prog ann 36 none [] none [] [qC 14 4,qA 15 nilA 14,qA 16 (fieldA 2) 15,qA 17 (loadF false 1) 16,qC 2 17,qF 3 fun s => some (.int .i64 0)] K s := (den_reg hf _ K s).trans (by kernel_rfl)
theorem ret_eq : den prog ann 36 (.code .ret :: K) s = finM true [fun s => some (s.get 2), fun s => some (s.get 3)] s := (den_ret hf K s).trans (by kernel_rfl)
theorem nil_eq (s : St) : den prog ann 36 [] s = finM true [fun s => some (s.get 2), fun s => some (s.get 3)] s := (den_nil hf s).trans (by kernel_rfl)
theorem inBlock_eq (id : Nat) (K : List Item) (s : St) : den prog ann 36 (.inBlock id :: K) s = den prog ann 36 K s := den_inBlock hf id K s
theorem exit_eq (id : Nat) (K : List Item) (s : St) : den prog ann 36 (.code (.exit id) :: K) s = exitV prog ann 36 (exitTo id K) s := den_exitV hf id K s
theorem call_eq (v0 : AV) (m : Mem) (h : closedL [v0] = true) : denC prog ann 36 [v0] m = (den prog ann 36 [.code b] ⟨[(0, v0)], 18, Mem.empty⟩).bind fun r => some (r.1, m) := (denC_pure hf (b := b) (by kernel_rfl) (by kernel_rfl) (by kernel_rfl) h m).trans (by kernel_rfl)
theorem pure_eq : (ann 36).pure = true := by kernel_rfl
attribute [simp] b_eq r0_eq r1_eq r2_eq i0_eq i0t_eq r3_eq i0e_eq r4_eq ret_eq nil_eq inBlock_eq exit_eq pure_eq
end
end brand_Monoid
namespace brand_still_to
noncomputable section
variable (K : List Item) (s : St)
def b : Code := (Try.f95.body).getD .skip
theorem hf : prog.funcs[95]? = some Try.f95 := by kernel_rfl
def r0 := findReg b 0
def r1 := findReg b 1
theorem b_eq : den prog ann 95 (.code b :: K) s = den prog ann 95 (.code r0 :: .code r1 :: .code .ret :: K) s := den_flat hf (l := [r0, r1, .ret]) (by kernel_rfl) K s
theorem r0_eq : den prog ann 95 (.code r0 :: K) s = mreg prog ann 95 none [] none [] [qA 2 frozenPtr 0,qF 4 fun s => some (.int .i64 0)] K s := (den_reg hf _ K s).trans (by kernel_rfl)
theorem r1_eq : den prog ann 95 (.code r1 :: K) s = mreg prog ann 95 none [] none [] [qC 5 1,qC 4 5] K s := (den_reg hf _ K s).trans (by kernel_rfl)
theorem ret_eq : den prog ann 95 (.code .ret :: K) s = finM true [fun s => some (s.get 4)] s := (den_ret hf K s).trans (by kernel_rfl)
theorem nil_eq (s : St) : den prog ann 95 [] s = finM true [fun s => some (s.get 4)] s := (den_nil hf s).trans (by kernel_rfl)
theorem inBlock_eq (id : Nat) (K : List Item) (s : St) : den prog ann 95 (.inBlock id :: K) s = den prog ann 95 K s := den_inBlock hf id K s
theorem exit_eq (id : Nat) (K : List Item) (s : St) : den prog ann 95 (.code (.exit id) :: K) s = exitV prog ann 95 (exitTo id K) s := den_exitV hf id K s
theorem call_eq (v0 v1 : AV) (m : Mem) (h : closedL [v0, v1] = true) : denC prog ann 95 [v0, v1] m = (den prog ann 95 [.code b] ⟨[(0, v0), (1, v1)], 6, Mem.empty⟩).bind fun r => some (r.1, m) := (denC_pure hf (b := b) (by kernel_rfl) (by kernel_rfl) (by kernel_rfl) h m).trans (by kernel_rfl)
theorem pure_eq : (ann 95).pure = true := by kernel_rfl
attribute [simp] b_eq r0_eq r1_eq ret_eq nil_eq inBlock_eq exit_eq pure_eq
end
end brand_still_to
end Go.Proofs.Ythnpflkpjimkfaa

/-
  WHAT WORDS DO: moves of states, as keys. Conditions: none.
-/
namespace Go.Proofs.Ythnpflkpjimkfaa
open Go.AM
open Go.Proofs.Try (prog)
set_option linter.all false
set_option maxRecDepth 100000
set_option maxHeartbeats 8000000
theorem IsRows.deep {v : AV} {ps : List AV} {rows : List (List Int)} (h : IsRows v ps rows) (hp : Nat → Option AObj) (d : Nat) : AM.deep hp (d + 1) v = some v := by rcases h.val with ⟨rfl, _⟩ | ⟨_, rfl⟩ <;> rfl
def mvF (n : Nat) (f : Nat → Nat) (c : Nat) : List Nat := (List.range 6).map fun s => if s < c then f s else 0
def mv6 (rows : List (List Int)) (w : List UInt8) : List Nat := mvF rows.length (fun s => goL rows w s) rows.length
@[simp] theorem mv6_len (rows : List (List Int)) (w : List UInt8) : (mv6 rows w).length = 6 := by simp [mv6, mvF]
def nxM (rows : List (List Int)) (t : List Nat) (a : Nat) : List Nat := mvF rows.length (fun s => nx rows (t.getD s 0) a) rows.length
def encM (t : List Nat) : AV := .agg (t.map fun x => .int .i64 (x : Nat))
@[simp] theorem mvF_len (n : Nat) (f : Nat → Nat) (c : Nat) : (mvF n f c).length = 6 := by simp [mvF]
theorem mvF_at {n : Nat} {f : Nat → Nat} {c s : Nat} (h : s < 6) (hc : s < c) : (mvF n f c).getD s 0 = f s := by
  simp [mvF, List.getD_eq_getElem?_getD, h, hc]
theorem mvF_set {n : Nat} {f : Nat → Nat} {c : Nat} (h : c < 6) : ((mvF n f c).map fun x => AV.int .i64 (x : Nat)).set c (.int .i64 (f c : Nat)) = (mvF n f (c + 1)).map fun x => AV.int .i64 (x : Nat) := by
  refine List.ext_getElem (by simp) fun i h1 h2 => ?_
  have hi : i < 6 := by simpa using h2
  rw [List.getElem_set]
  by_cases e : c = i
  · subst e; simp [mvF]
  · simp only [if_neg e, List.getElem_map, mvF, List.getElem_range]
    by_cases q : i < c
    · rw [if_pos q, if_pos (by omega)]
    · rw [if_neg q, if_neg (by omega)]
theorem goL_snoc (rows : List (List Int)) (c : UInt8) : ∀ (w : List UInt8) (s : Nat), goL rows (w ++ [c]) s = nx rows (goL rows w s) (c.toNat - 97)
  | [], s => rfl
  | b :: w, s => by rw [List.cons_append, goL, goL_snoc rows c w, goL]
theorem ltr_sub {a : Nat} (h : a < 3) : (UInt8.ofNat (97 + a)).toNat - 97 = a := by
  have : a = 0 ∨ a = 1 ∨ a = 2 := by omega
  rcases this with rfl | rfl | rfl <;> rfl
theorem goL_ltr (rows : List (List Int)) (w : List UInt8) {a : Nat} (h : a < 3) (s : Nat) : goL rows (w ++ ltr a) s = nx rows (goL rows w s) a := by rw [ltr, goL_snoc, ltr_sub h]
theorem mv6_ltr (rows : List (List Int)) (n6 : rows.length ≤ 6) (w : List UInt8) {a : Nat} (h : a < 3) : mv6 rows (extL w a) = nxM rows (mv6 rows w) a := by
  rw [mv6, nxM, mvF, mvF]
  refine List.map_congr_left fun s hs => ?_
  have hs6 : s < 6 := by simpa using hs
  by_cases q : s < rows.length
  · rw [if_pos q, if_pos q, extL, goL_ltr rows w h, mv6, mvF_at hs6 q]
  · rw [if_neg q, if_neg q]
theorem fl139 : flatT prog 139 = some [3, 3, 3, 3, 3, 3] := by kernel_rfl
theorem eqCs_nat : ∀ (a b : List Nat) (n : Nat), a.length = n → b.length = n → eqCs prog (List.replicate n 3) (a.map fun x => .int .i64 (x : Nat)) (b.map fun x => .int .i64 (x : Nat)) = some (decide (a = b))
  | [], [], 0, _, _ => rfl
  | [], _ :: _, 0, _, h => by simp at h
  | _ :: _, _, 0, h, _ => by simp at h
  | [], _, n + 1, h, _ => by simp at h
  | _ :: _, [], n + 1, _, h => by simp at h
  | x :: a, y :: b, n + 1, h1, h2 => by
    have ih := eqCs_nat a b n (by simpa using h1) (by simpa using h2)
    rw [List.replicate_succ, List.map_cons, List.map_cons, eqCs, sc3, sc3]
    by_cases e : x = y
    · subst e
      simp [eqSc, ih]
    · have : ((x : Int) == (y : Int)) = false := by rw [beq_eq_false_iff_ne]; omega
      simp [eqSc, this, e]
theorem scL_nat : ∀ (a : List Nat) (n : Nat), a.length = n → scL prog (List.replicate n 3) (a.map fun x => .int .i64 (x : Nat)) = true
  | [], 0, _ => rfl
  | _ :: _, 0, h => by simp at h
  | [], n + 1, h => by simp at h
  | x :: a, n + 1, h => by
    have ih := scL_nat a n (by simpa using h)
    rw [List.replicate_succ, List.map_cons, scL, sc3, ih]; rfl
theorem keysM : Keys 139 encM (fun t => t.length = 6) := by
  refine ⟨fun a b ha hb => ?_, fun a ha => ?_⟩
  · have := eqCs_nat a b 6 ha hb
    simp only [keyEq, encM, fl139, Option.bind_some, List.length_map, ha, hb]
    exact this
  · have := scL_nat a 6 ha
    simp only [keyT, encM, fl139, List.length_map, ha]
    exact this
theorem encM_one (t : List Nat) : oneL (t.map fun x => AV.int .i64 (x : Nat)) = true := by
  induction t with
  | nil => rfl
  | cons a t ih => simp [oneL, AV.one, ih]
theorem encM_closed (t : List Nat) : closedL (t.map fun x => AV.int .i64 (x : Nat)) = true := by
  induction t with
  | nil => rfl
  | cons a t ih => simp [closedL, AV.closed, ih]
theorem encM_mapO (h : Nat → Option AObj) (d : Nat) (t : List Nat) : mapO (AM.deep h (d + 1)) (t.map fun x => AV.int .i64 (x : Nat)) = some (t.map fun x => AV.int .i64 (x : Nat)) := mapO_same _ (fun x hx => by
  simp only [List.mem_map] at hx
  obtain ⟨b, _, rfl⟩ := hx
  rfl)
def dsV (rows : List (List Int)) (w : List UInt8) : AV := if w = [] then .iface 142 (.agg []) else .iface 139 (encM (mv6 rows w))
theorem deep_encM (h : Nat → Option AObj) (d t : Nat) (x : List Nat) : AM.deep h (d + 1) (.iface t (.agg (x.map fun x => AV.int .i64 (x : Nat)))) = some (.iface t (.agg (x.map fun x => AV.int .i64 (x : Nat)))) := by
  simp [AM.deep, AV.closed, encM_closed]
theorem does_loop {nv gv wv ov : AV} {ps : List AV} {rows : List (List Int)} {good : List Bool} {k : Nat} (hn : IsRows nv ps rows) (hg : IsB gv good) (v : VB rows good k) {w : List UInt8} (hs : w.length ≤ 1000000) (hl : letF k w w.length 0 = true) : ∀ (c s : Nat) (nx0 : Nat) (h : Nat → Option AObj), s + c = rows.length → h 0 = some (.cells ((mvF rows.length (fun s => goL rows w s) s).map fun x => AV.int .i64 (x : Nat))) →
    brand_monoid_does.L0 (.fptr [nv, gv, wv, ov]) (.str w) (.ptr 0 0 6) (.int .i64 rows.length) (.int .i64 s) ⟨h, nx0⟩ [.code brand_monoid_does.r9, .code .ret] = some (.iface 139 (encM (mv6 rows w)), Mem.empty) := by
  intro c
  have n6 := v.n6
  induction c with
  | zero =>
    intro s nx0 h h1 h0
    have e : s = rows.length := by omega
    subst e
    rw [brand_monoid_does.L0_eq]
    have tk : ((mvF rows.length (fun s => goL rows w s) rows.length).map fun x => AV.int .i64 (x : Nat)).take 6 = (mvF rows.length (fun s => goL rows w s) rows.length).map fun x => AV.int .i64 (x : Nat) := List.take_of_length_le (by simp)
    simp [h0, encM, mv6, tk, deep_encM]
    done
  | succ c ih =>
    intro s nx0 h h1 h0
    have hs' : s < rows.length := by omega
    have hws : IntKind.wrap .i64 ((s : Int) + 1) = (s : Int) + 1 := wrap_id (by omega) (by omega)
    have ha := fun m => after_spec hn hg v hs hl hs' m
    have st := ih (s + 1) nx0 (upd h 0 (some (.cells ((mvF rows.length (fun s => goL rows w s) (s + 1)).map fun x => AV.int .i64 (x : Nat))))) (by omega) (by simp)
    simp only [Int.natCast_add, Int.cast_ofNat_Int] at st
    have hset := mvF_set (n := rows.length) (f := fun s => goL rows w s) (c := s) (by omega)
    rw [brand_monoid_does.L0_eq]
    simp [hs', hn.one, hg.one, hn.closed, hg.closed, ha, h0, hset, hws, st, show s < 6 by omega]
    done
theorem mvF_zero (n : Nat) (f : Nat → Nat) : (mvF n f 0).map (fun x => AV.int .i64 (x : Nat)) = [.int .i64 0, .int .i64 0, .int .i64 0, .int .i64 0, .int .i64 0, .int .i64 0] := by
  simp [mvF, List.range_succ]
theorem does_spec {nv gv wv ov : AV} {ps : List AV} {rows : List (List Int)} {good : List Bool} {k : Nat} (hn : IsRows nv ps rows) (hg : IsB gv good) (v : VB rows good k) (hw : wv.closed = true) (ho : ov.closed = true) {w : List UInt8} (hs : w.length ≤ 1000000) (hl : letF k w w.length 0 = true) (m : Mem) :
    denC prog ann 88 [.fptr [nv, gv, wv, ov], .str w] m = some (dsV rows w, m) := by
  rw [brand_monoid_does.call_eq _ _ _ (by simp [hn.closed, hg.closed, hw, ho])]
  unfold dsV
  by_cases c : w = []
  · subst c
    simp [AM.deep, AV.closed, closedL]
    done
  · have lp := does_loop (wv := wv) (ov := ov) hn hg v hs hl rows.length 0 1 (upd Mem.empty.h 0 (some (.cells [.int .i64 0, .int .i64 0, .int .i64 0, .int .i64 0, .int .i64 0, .int .i64 0]))) (by omega) (by rw [mvF_zero]; simp)
    simp only [Int.ofNat_zero, Int.cast_ofNat_Int] at lp
    simp [c, hn.len, lp]
    done
theorem still_spec (s : Int) (m : Mem) : denC prog ann 95 [.agg [], .int .i64 s] m = some (.int .i64 s, m) := by
  rw [brand_still_to.call_eq _ _ _ (by simp)]
  simp
  done
theorem table_loop {n : Nat} (n6 : n ≤ 6) {K : List Item} : ∀ (c s : Nat) (nx0 : Nat) (h : Nat → Option AObj) (z : Nat) (zs : List AV), s + c = n → z ≠ 2 → zs.length = 6 → h z = some (.cells zs) → h 2 = some (.cells ((mvF n (fun s => s) s).map fun x => AV.int .i64 (x : Nat))) →
    brand_monoid_table.L1 (.ptr z 0 6) (.fptr []) (.ptr 2 0 6) (.int .i64 n) (.int .i64 s) ⟨h, nx0⟩ (.code brand_monoid_table.r13 :: .code .ret :: K) = some (encM (mvF n (fun s => s) n), Mem.empty) := by
  intro c
  induction c with
  | zero =>
    intro s nx0 h z zs h1 hz hzl hzs h0
    have e : s = n := by omega
    subst e
    have tk : ((mvF s (fun s => s) s).map fun x => AV.int .i64 (x : Nat)).take 6 = (mvF s (fun s => s) s).map fun x => AV.int .i64 (x : Nat) := List.take_of_length_le (by simp)
    rw [brand_monoid_table.L1_eq]
    simp [h0, hzs, hzl, encM, tk, encM_one, encM_mapO]
    done
  | succ c ih =>
    intro s nx0 h z zs h1 hz hzl hzs h0
    have hs' : s < n := by omega
    have hws : IntKind.wrap .i64 ((s : Int) + 1) = (s : Int) + 1 := wrap_id (by omega) (by omega)
    have st := ih (s + 1) nx0 (upd h 2 (some (.cells ((mvF n (fun s => s) (s + 1)).map fun x => AV.int .i64 (x : Nat))))) z zs (by omega) hz hzl (by rw [updNe hz]; exact hzs) (by simp)
    simp only [Int.natCast_add, Int.cast_ofNat_Int] at st
    have hset := mvF_set (n := n) (f := fun s => s) (c := s) (by omega)
    rw [brand_monoid_table.L1_eq]
    simp [hs', still_spec, h0, hset, hws, st, show s < 6 by omega]
    done
theorem mv6_nil (rows : List (List Int)) : mv6 rows [] = mvF rows.length (fun s => s) rows.length := rfl
theorem table_spec {nv gv wv ov : AV} {ps : List AV} {rows : List (List Int)} {good : List Bool} {k : Nat} (hn : IsRows nv ps rows) (hg : IsB gv good) (v : VB rows good k) (hw : wv.closed = true) (ho : ov.closed = true) (w : List UInt8) (m : Mem) :
    denC prog ann 87 [.fptr [nv, gv, wv, ov], dsV rows w] m = some (encM (mv6 rows w), m) := by
  have n6 := v.n6
  have hcl : (dsV rows w).closed = true := by
    unfold dsV encM
    split
    · rfl
    · simp [AV.closed, encM_closed]
  rw [brand_monoid_table.call_eq _ _ _ (by simp [hn.closed, hg.closed, hw, ho, hcl])]
  unfold dsV
  by_cases c : w = []
  · subst c
    have st := table_loop n6 (K := [.inBlock 0, .code brand_monoid_table.r14, .code .ret]) rows.length 0 3 (upd (upd (upd (upd Mem.empty.h 0 (some (.cells [.int .i64 0, .int .i64 0, .int .i64 0, .int .i64 0, .int .i64 0, .int .i64 0]))) 1 (some (.cells []))) 1 none) 2 (some (.cells [.int .i64 0, .int .i64 0, .int .i64 0, .int .i64 0, .int .i64 0, .int .i64 0]))) 0 _ (by omega) (by omega) rfl (by simp; rfl) (by rw [mvF_zero]; simp)
    simp only [Int.ofNat_zero, Int.cast_ofNat_Int, ← mv6_nil] at st
    simp [hn.len, tyA]
    simp at st
    rw [st]
    rfl
  · have tk : ((mv6 rows w).map fun x => AV.int .i64 (x : Nat)).take 6 = (mv6 rows w).map fun x => AV.int .i64 (x : Nat) := List.take_of_length_le (by simp)
    simp [c, tyA, encM, encM_one, encM_mapO, encM_closed, tk]
    done
end Go.Proofs.Ythnpflkpjimkfaa

/-
  ALL ELEMENTS OF A MONOID: the law of the search, and the program's memory. Conditions: none.
-/
namespace Go.Proofs.Ythnpflkpjimkfaa
open Go.AM
open Go.Proofs.Try (prog)
set_option linter.all false
set_option maxRecDepth 100000
set_option maxHeartbeats 8000000
def okW (k : Nat) (w : List UInt8) : Prop := ∀ c ∈ w, 97 ≤ c.toNat ∧ c.toNat - 97 < k
theorem letF_iff (k : Nat) (s : List UInt8) : letF k s s.length 0 = true ↔ okW k s := by
  have hb : ∀ i (h : i < s.length), byt s i = s[i].toNat := fun i h => by simp [byt, h]
  simp only [letF, List.all_eq_true, List.mem_range'_1, letB, Bool.and_eq_true, decide_eq_true_eq, okW]
  constructor
  · intro h c hc
    obtain ⟨i, hi, rfl⟩ := List.getElem_of_mem hc
    have := h i ⟨by omega, by omega⟩
    rwa [hb i hi] at this
  · intro h i hi
    have hi' : i < s.length := by omega
    rw [hb i hi']
    exact h _ (List.getElem_mem hi')
theorem okW_ext {k a : Nat} {w : List UInt8} (h : okW k w) (ha : a < k) (hk : k ≤ 3) : okW k (extL w a) := by
  intro c hc
  rcases List.mem_append.1 hc with hc | hc
  · exact h c hc
  · simp [ltr] at hc
    subst hc
    have : a = 0 ∨ a = 1 ∨ a = 2 := by omega
    rcases this with rfl | rfl | rfl <;> exact ⟨by decide, by simpa using ha⟩
theorem okW_nil (k : Nat) : okW k [] := by simp [okW]
theorem okW_app {k : Nat} {u w : List UInt8} (h : okW k u) (g : okW k w) : okW k (u ++ w) := fun c hc => by
  rcases List.mem_append.1 hc with hc | hc
  · exact h c hc
  · exact g c hc
abbrev SM := List (List Nat) × List (List UInt8)
def bInM (rows : List (List Int)) (x : List Nat) (w : List UInt8) : Nat → Nat → SM → Option SM
  | 0, _, S => some S
  | c + 1, a, S => if nxM rows x a ∈ S.1 then bInM rows x w c (a + 1) S else if S.1.length = 400 then none else bInM rows x w c (a + 1) (S.1 ++ [nxM rows x a], S.2 ++ [extL w a])
def bfsM (rows : List (List Int)) (k : Nat) : Nat → Nat → SM → Option SM
  | 0, _, S => some S
  | f + 1, i, S => match S.1[i]?, S.2[i]? with
    | some x, some w => (bInM rows x w k 0 S).bind fun S' => bfsM rows k f (i + 1) S'
    | _, _ => some S
def madeS (rows : List (List Int)) (k : Nat) : Option SM := bfsM rows k 401 0 ([mv6 rows []], [[]])
structure MOk (rows : List (List Int)) (k : Nat) (S : SM) : Prop where
  nd : S.1.Nodup
  eq : S.1 = S.2.map (mv6 rows)
  ok : ∀ w ∈ S.2, okW k w ∧ w.length ≤ S.2.length
  le : S.1.length ≤ 400
section
variable {rows : List (List Int)} {k : Nat} {S : SM}
theorem MOk.len (h : MOk rows k S) : S.1.length = S.2.length := by rw [h.eq]; simp
theorem MOk.at (h : MOk rows k S) {i : Nat} {x : List Nat} {w : List UInt8} (h1 : S.1[i]? = some x) (h2 : S.2[i]? = some w) : x = mv6 rows w := by
  rw [h.eq, List.getElem?_map, h2] at h1
  exact (Option.some.inj h1).symm
theorem MOk.six (h : MOk rows k S) : ∀ x ∈ S.1, x.length = 6 := by
  rw [h.eq]
  intro x hx
  simp only [List.mem_map] at hx
  obtain ⟨w, _, rfl⟩ := hx
  simp
theorem MOk.add (h : MOk rows k S) (n6 : rows.length ≤ 6) (k3 : k ≤ 3) {w : List UInt8} {a : Nat} (hw : w ∈ S.2) (ha : a < k) (hn : nxM rows (mv6 rows w) a ∉ S.1) (hl : S.1.length ≠ 400) : MOk rows k (S.1 ++ [nxM rows (mv6 rows w) a], S.2 ++ [extL w a]) := by
  have hle := h.le
  have hlen := h.len
  refine ⟨?_, ?_, ?_, ?_⟩
  · rw [List.nodup_append]
    refine ⟨h.nd, by simp, ?_⟩
    intro x hx y hy
    simp at hy
    subst hy
    exact fun e => hn (e ▸ hx)
  · simp only [List.map_append, List.map_cons, List.map_nil]
    rw [← h.eq, mv6_ltr rows n6 w (by omega)]
  · intro u hu
    rcases List.mem_append.1 hu with hu | hu
    · have := h.ok u hu
      exact ⟨this.1, by simp; omega⟩
    · simp at hu
      subst hu
      have := h.ok w hw
      exact ⟨okW_ext this.1 ha k3, by simp [extL, ltr]; omega⟩
  · simp; omega
theorem bInM_ok (n6 : rows.length ≤ 6) (k3 : k ≤ 3) {w : List UInt8} : ∀ (c a : Nat) (S S' : SM), a + c ≤ k → MOk rows k S → w ∈ S.2 → bInM rows (mv6 rows w) w c a S = some S' → MOk rows k S' ∧ (∃ p q, S'.1 = S.1 ++ p ∧ S'.2 = S.2 ++ q) ∧ ∀ b, a ≤ b → b < a + c → nxM rows (mv6 rows w) b ∈ S'.1
  | 0, a, S, S', _, h, hw, e => by
    simp only [bInM, Option.some.injEq] at e
    subst e
    exact ⟨h, ⟨[], [], by simp, by simp⟩, by omega⟩
  | c + 1, a, S, S', hc, h, hw, e => by
    rw [bInM] at e
    by_cases q : nxM rows (mv6 rows w) a ∈ S.1
    · rw [if_pos q] at e
      obtain ⟨h1, ⟨p, r, h2, h3⟩, h4⟩ := bInM_ok n6 k3 c (a + 1) S S' (by omega) h hw e
      refine ⟨h1, ⟨p, r, h2, h3⟩, fun b b1 b2 => ?_⟩
      by_cases ba : b = a
      · subst ba; rw [h2]; exact List.mem_append_left _ q
      · exact h4 b (by omega) (by omega)
    · rw [if_neg q] at e
      by_cases q2 : S.1.length = 400
      · rw [if_pos q2] at e; cases e
      · rw [if_neg q2] at e
        obtain ⟨h1, ⟨p, r, h2, h3⟩, h4⟩ := bInM_ok n6 k3 c (a + 1) _ S' (by omega) (h.add n6 k3 hw (by omega) q q2) (by simp [hw]) e
        refine ⟨h1, ⟨nxM rows (mv6 rows w) a :: p, extL w a :: r, by rw [h2]; simp, by rw [h3]; simp⟩, fun b b1 b2 => ?_⟩
        by_cases ba : b = a
        · subst ba; rw [h2]; simp
        · exact h4 b (by omega) (by omega)
theorem bfsM_ok (n6 : rows.length ≤ 6) (k3 : k ≤ 3) : ∀ (f i : Nat) (S S' : SM), MOk rows k S → i ≤ S.1.length → 400 < f + i → (∀ x ∈ S.1.take i, ∀ a, a < k → nxM rows x a ∈ S.1) → bfsM rows k f i S = some S' → MOk rows k S' ∧ (∃ p q, S'.1 = S.1 ++ p ∧ S'.2 = S.2 ++ q) ∧ ∀ x ∈ S'.1, ∀ a, a < k → nxM rows x a ∈ S'.1 := by
  intro f
  induction f with
  | zero => intro i S S' h hi hf; have := h.le; omega
  | succ f ih =>
    intro i S S' h hi hf hcl e
    by_cases c : i < S.1.length
    · have hx := List.getElem?_eq_getElem c
      have c2 : i < S.2.length := by rw [← h.len]; exact c
      have hw := List.getElem?_eq_getElem c2
      generalize S.1[i] = x at hx
      generalize S.2[i] = w at hw
      have hxw := h.at hx hw
      subst hxw
      rw [bfsM, hx, hw] at e
      simp only [] at e
      cases e1 : bInM rows (mv6 rows w) w k 0 S with
      | none => rw [e1] at e; cases e
      | some S1 =>
        rw [e1, Option.bind_some] at e
        obtain ⟨h1, ⟨p, r, h2, h3⟩, h4⟩ := bInM_ok n6 k3 k 0 S S1 (by omega) h (List.mem_of_getElem? hw) e1
        have ht : S1.1.take (i + 1) = S.1.take i ++ [mv6 rows w] := by rw [h2, List.take_append_of_le_length (by omega), List.take_add_one, hx]; rfl
        obtain ⟨g1, ⟨p', r', g2, g3⟩, g4⟩ := ih (i + 1) S1 S' h1 (by rw [h2]; simp; omega) (by omega) (by
          rw [ht]
          intro y hy a ha
          rcases List.mem_append.1 hy with hy | hy
          · rw [h2]; exact List.mem_append_left _ (hcl y hy a ha)
          · simp at hy
            subst hy
            exact h4 a (by omega) (by omega)) e
        exact ⟨g1, ⟨p ++ p', r ++ r', by rw [g2, h2, List.append_assoc], by rw [g3, h3, List.append_assoc]⟩, g4⟩
    · have hx : S.1[i]? = none := List.getElem?_eq_none (by omega)
      rw [bfsM, hx] at e
      simp only [Option.some.injEq] at e
      subst e
      refine ⟨h, ⟨[], [], by simp, by simp⟩, fun x hx a ha => hcl x ?_ a ha⟩
      rw [List.take_of_length_le (by omega)]; exact hx
theorem MOk1 (rows : List (List Int)) (k : Nat) : MOk rows k ([mv6 rows []], [[]]) := ⟨by simp, rfl, by intro w hw; simp at hw; subst hw; exact ⟨okW_nil k, by simp⟩, by simp⟩
theorem madeS_ok (n6 : rows.length ≤ 6) (k3 : k ≤ 3) {S : SM} (h : madeS rows k = some S) : MOk rows k S ∧ (∃ p q, S.1 = [mv6 rows []] ++ p ∧ S.2 = [[]] ++ q) ∧ ∀ x ∈ S.1, ∀ a, a < k → nxM rows x a ∈ S.1 :=
  bfsM_ok n6 k3 401 0 _ S (MOk1 rows k) (by simp) (by omega) (by simp) h
end
def isF : AV → Bool
  | .fsl .. => true
  | _ => false
def Nf (h : Nat → Option AObj) (v : AV) (xs : List AV) (lo hi : Nat) : Prop := v = .fsl true xs.length xs ∨ ∃ R, v = .sl R 1 0 xs.length xs.length ∧ h R = some (.cells xs) ∧ lo ≤ R ∧ R < hi
section
variable {h h' : Nat → Option AObj} {v : AV} {xs : List AV} {lo hi hi' : Nat}
theorem Nf.fr (n : Nf h v xs lo hi) (e : ∀ y, lo ≤ y → y < hi → objId v = some y → h' y = h y) (l : hi ≤ hi') : Nf h' v xs lo hi' := by
  rcases n with rfl | ⟨R, rfl, h1, h2, h3⟩
  · exact .inl rfl
  · exact .inr ⟨R, rfl, by rw [e R h2 h3 rfl, h1], h2, by omega⟩
theorem Nf.one (n : Nf h v xs lo hi) : v.one = true := by
  rcases n with rfl | ⟨R, rfl, h1, h2, h3⟩ <;> rfl
theorem Nf.oid (n : Nf h v xs lo hi) {y : Nat} (e : objId v = some y) : lo ≤ y ∧ y < hi := by
  rcases n with rfl | ⟨R, rfl, h1, h2, h3⟩
  · cases e
  · simp [objId] at e; omega
theorem Nf.len (n : Nf h v xs lo hi) : lenSl v = some (.int .i64 xs.length) := by
  rcases n with rfl | ⟨R, rfl, h1, h2, h3⟩ <;> rfl
theorem Nf.at (n : Nf h v xs lo hi) {i : Nat} (hi' : i < xs.length) : ∃ p, idxSl 1 v (.int .i64 i) = some p ∧ (∀ nx, loadA false 1 ⟨h, nx⟩ p = xs[i]?) ∧ objId p = objId v := by
  rcases n with rfl | ⟨R, rfl, h1, h2, h3⟩
  · exact ⟨.fptr (xs.drop i), by simp [hi'], fun nx => by simp [loadA, readN, read1, List.head?_drop], rfl⟩
  · exact ⟨.ptr R i xs.length, by simp [hi'], fun nx => by simp [h1], rfl⟩
theorem Nf.deep (n : Nf h v xs lo hi) (d : Nat) (hd : ∀ x ∈ xs, AM.deep h d x = some x) : AM.deep h (d + 1) v = some (.fsl (isF v) xs.length xs) := by
  rcases n with rfl | ⟨R, rfl, h1, h2, h3⟩
  · rfl
  · simp [AM.deep, h1, mapO_same xs hd, isF]
theorem Nf.app {nx by' : Nat} (n : Nf h v xs lo hi) (hh : hi ≤ nx) (hl : lo ≤ nx) (hr : room (xs.length + 1) by' = true) (y : AV) :
    ∃ v' h' nx', appT 1 by' ⟨h, nx⟩ v (some (1, [y])) = some (v', ⟨h', nx'⟩) ∧ Nf h' v' (xs ++ [y]) lo nx' ∧ nx ≤ nx' ∧ nx' ≤ nx + 1 ∧ (∀ z, objId v' = some z → objId v = some z ∨ z = nx) ∧ (∀ z, objId v' ≠ some z → h' z = h z) ∧ isF v' = false := by
  rcases n with rfl | ⟨R, rfl, h1, h2, h3⟩
  · refine ⟨.sl nx 1 0 (xs.length + 1) (xs.length + 1), upd h nx (some (.cells (xs ++ [y]))), nx + 1, ?_, .inr ⟨nx, by simp, by simp, hl, by omega⟩, by omega, by omega, fun z e => .inr (by simp [objId] at e; omega), fun z e => updNe (fun q => e (by rw [q]; rfl)), rfl⟩
    simp at hr
    simp [Mem.new, hr]
  · refine ⟨.sl R 1 0 (xs.length + 1) (xs.length + 1), upd h R (some (.cells (xs ++ [y]))), nx, ?_, .inr ⟨R, by simp, by simp, h2, by omega⟩, by omega, by omega, fun z e => .inl e, fun z e => updNe (fun q => e (by rw [q]; rfl)), rfl⟩
    simp at hr
    simp [h1, hr.1, hr.2]
end
end Go.Proofs.Ythnpflkpjimkfaa

/-
  ALL ELEMENTS OF A MONOID: the program's search. Conditions: none.
-/
namespace Go.Proofs.Ythnpflkpjimkfaa
open Go.AM
open Go.Proofs.Try (prog)
set_option linter.all false
set_option maxRecDepth 100000
set_option maxHeartbeats 8000000
def natV (x : Nat) : AV := .int .i64 (x : Nat)
structure Md (m : Mem) (M O : Nat) (nv gv wv : AV) (S : SM) (lo : Nat) : Prop where
  o : m.h M = some (.cells [nv, gv, wv, .map O])
  w : Nf m.h wv (S.2.map .str) lo m.nx
  p : Mp m O (S.1.map encM) ((List.range S.1.length).map natV)
  mo : M < lo ∧ O < lo ∧ M ≠ O
  x : isF wv = decide (S.2.length = 1)
noncomputable def KM0 : List Item := [.code brand_made.r20, .code .ret]
noncomputable def KM2 : List Item := .inBlock 1 :: .code brand_made.r7 :: .inLoop brand_made.l0 :: .inBlock 0 :: KM0
def monV (nv gv : AV) (S : SM) : AV := .fptr [nv, gv, .fsl (decide (S.2.length = 1)) S.2.length (S.2.map .str), .fmap (S.1.map encM) ((List.range S.1.length).map natV)]
theorem deep_md {m : Mem} {M O : Nat} {nv gv wv : AV} {S : SM} {lo : Nat} (D : Md m M O nv gv wv S lo) (n1 : ∀ hp d, AM.deep hp (d + 1) nv = some nv) (n2 : ∀ hp d, AM.deep hp (d + 1) gv = some gv) (e : Nat) : AM.deep m.h (e + 5) (.ptr M 0 4) = some (monV nv gv S) := by
  have he := D.w.deep (e + 3) (fun x hx => by
    simp only [List.mem_map] at hx
    obtain ⟨b, _, rfl⟩ := hx
    rfl)
  rw [D.x] at he
  obtain ⟨⟨g, hg⟩, _⟩ := D.p
  have k1 : mapO (AM.deep m.h (e + 3)) (S.1.map encM) = some (S.1.map encM) := mapO_same _ (fun x hx => by
    simp only [List.mem_map] at hx
    obtain ⟨b, _, rfl⟩ := hx
    simp [encM, encM_mapO])
  have k2 : mapO (AM.deep m.h (e + 3)) ((List.range S.1.length).map natV) = some ((List.range S.1.length).map natV) := mapO_same _ (fun x hx => by
    simp only [List.mem_map] at hx
    obtain ⟨b, _, rfl⟩ := hx
    rfl)
  simp at he
  simp [D.o, n1, n2, he, hg, k1, k2, monV]
theorem nat_flatL : ∀ t : List Nat, flatL (t.map fun x => AV.int .i64 (x : Nat)) = true
  | [] => rfl
  | a :: t => by simp [flatL, AV.flat1, AV.flat, nat_flatL t]
theorem dsV_flat (rows : List (List Int)) (w : List UInt8) : (dsV rows w).flat = true := by
  unfold dsV encM
  split
  · rfl
  · exact nat_flatL _
theorem dsV_deep (rows : List (List Int)) (w : List UInt8) (h : Nat → Option AObj) (d : Nat) : AM.deep h (d + 1) (dsV rows w) = some (dsV rows w) := by
  unfold dsV encM
  split
  · rfl
  · exact deep_encM h d 139 _
theorem encM_flat (t : List Nat) : (AV.agg (t.map fun x => AV.int .i64 (x : Nat))).flat = true := nat_flatL t
theorem md_in {nv gv : AV} {ps : List AV} {rows : List (List Int)} {good : List Bool} {k : Nat} (hn : IsRows nv ps rows) (hg : IsB gv good) (v : VB rows good k) {M O lo i : Nat} {w : List UInt8} {r : Option Res} :
    ∀ (c a : Nat) (m : Mem) (wv : AV) (S : SM), a + c = k → Md m M O nv gv wv S lo → lo ≤ m.nx → MOk rows k S → S.2[i]? = some w → i < 400 →
    (∀ S', bInM rows (mv6 rows w) w c a S = some S' → ∀ m' wv', Md m' M O nv gv wv' S' lo → lo ≤ m'.nx → brand_made.L0 (.ptr M 0 4) (.int .i64 ((i : Int) + 1)) m' KM0 = r) →
    (bInM rows (mv6 rows w) w c a S = none → r = some (.tup [.nilp, .int .i64 7], Mem.empty)) →
    brand_made.L2 (.ptr M 0 4) (.int .i64 i) (.int .i64 k) (.int .i64 a) m KM2 = r := by
  intro c
  have n6 := v.n6
  have k3 := v.k3
  induction c with
  | zero =>
    intro a m wv S h1 D hlo hS hw hi hk hf
    have e : a = k := by omega
    subst e
    have hwi : IntKind.wrap .i64 ((i : Int) + 1) = (i : Int) + 1 := wrap_id (by omega) (by omega)
    have hk := hk S rfl m wv D hlo
    rw [brand_made.L2_eq]
    simp [KM2, hwi]
    exact hk
  | succ c ih =>
    intro a m wv S h1 D hlo hS hw hi hk hf
    have ha : a < k := by omega
    have hwa : IntKind.wrap .i64 ((a : Int) + 1) = (a : Int) + 1 := wrap_id (by omega) (by omega)
    have hi2 := (List.getElem?_eq_some_iff.1 hw).1
    have hwm := List.mem_of_getElem? hw
    have hle := hS.le
    have hlen := hS.len
    have hlt := fun m => letter_spec (a := a) (by omega) m
    obtain ⟨h, nx0⟩ := m
    obtain ⟨p, hp1, hp2, _⟩ := D.w.at (i := i) (by simpa using hi2)
    have hs2 : (S.2.map AV.str)[i]? = some (.str w) := by simp [hw]
    rw [hs2] at hp2
    have hok := hS.ok w hwm
    have hoke := okW_ext hok.1 ha k3
    have hll : w.length + (ltr a).length ≤ 4611686018427387904 := by simp [ltr]; omega
    have hle1 : (extL w a).length ≤ 1000000 := by simp [extL, ltr]; omega
    have hd := deep_md D hn.deep hg.deep 1
    have hfl := (letF_iff k (extL w a)).2 hoke
    have hdo := fun m => does_spec (wv := .fsl (decide (S.2.length = 1)) S.2.length (S.2.map .str)) (ov := .fmap (S.1.map encM) ((List.range S.1.length).map natV)) hn hg v rfl rfl hle1 hfl m
    have htb := fun m => table_spec (wv := .fsl (decide (S.2.length = 1)) S.2.length (S.2.map .str)) (ov := .fmap (S.1.map encM) ((List.range S.1.length).map natV)) hn hg v rfl rfl (extL w a) m
    have et : nxM rows (mv6 rows w) a = mv6 rows (w ++ ltr a) := (mv6_ltr rows n6 w (by omega)).symm
    rw [bInM, et] at hk hf
    simp only [extL, encM] at hdo htb
    have hM : h M = some (.cells [nv, gv, wv, .map O]) := D.o
    have moM := D.mo
    simp only [monV] at hd hlo
    have hM2 : (M == nx0 + 11) = false := beq_eq_false_iff_ne.2 (by omega)
    have tlen : (mv6 rows (w ++ ltr a)).length = 6 := mv6_len _ _
    have tk : ((mv6 rows (w ++ ltr a)).map fun x => AV.int .i64 (x : Nat)).take 6 = (mv6 rows (w ++ ltr a)).map fun x => AV.int .i64 (x : Nat) := List.take_of_length_le (by simp)
    have P1 : Mp ⟨upd h (nx0 + 11) none, nx0 + 11 + 1 + 11⟩ O (S.1.map encM) ((List.range S.1.length).map natV) := D.p.fr (updNe (by omega)) (by show O < nx0 + 11 + 1 + 11; omega)
    have l1 := P1.look keysM (fun x hx => hS.six x hx) (by simp) tlen (.int .i64 0) true
    have wl := D.w.fr (h' := upd h (nx0 + 11) none) (hi' := nx0 + 11 + 1) (fun y y1 y2 _ => updNe (by have : y < nx0 := y2; omega)) (by show nx0 ≤ nx0 + 11 + 1; omega)
    by_cases hc : mv6 rows (w ++ ltr a) ∈ S.1
    · rw [if_pos hc] at hk hf
      obtain ⟨i', hi'⟩ := List.getElem?_of_mem hc
      have hi2' := (List.getElem?_eq_some_iff.1 hi').1
      have q1 := lkP_at (vs := List.range S.1.length) hS.nd hi' (w := i') (by simp [hi2'])
      rw [q1] at l1
      simp only [encM, natV] at l1
      have st := ih (a + 1) ⟨upd h (nx0 + 11) none, nx0 + 11 + 1 + 11⟩ wv S (by omega) ⟨by show upd h (nx0 + 11) none M = _; rw [updNe (by omega)]; exact hM, wl.fr (fun _ _ _ _ => rfl) (by show nx0 + 11 + 1 ≤ nx0 + 11 + 1 + 11; omega), P1, D.mo, D.x⟩ (by show lo ≤ nx0 + 11 + 1 + 11; omega) hS hw hi hk hf
      simp only [Int.natCast_add, Int.cast_ofNat_Int] at st
      rw [brand_made.L2_eq]
      simp [ha, hM, hM2, hp1, hp2, hlt, hll, hd, hdo, htb, dsV_flat, dsV_deep, encM_flat, encM_one, encM_closed, tk, l1, hwa, -deep_ptr]
      exact st
    · rw [if_neg hc] at hk hf
      have q1 := lkP_none (vs := List.range S.1.length) hc
      rw [q1] at l1
      simp only [encM, natV] at l1
      by_cases h400 : S.1.length = 400
      · rw [if_pos h400] at hf
        have hr := hf rfl
        have h4 : ((S.2.length : Nat) : Int) = 400 := by omega
        rw [hr, brand_made.L2_eq]
        simp [ha, hM, hM2, hp1, hp2, hlt, hll, hd, hdo, htb, dsV_flat, dsV_deep, encM_flat, encM_one, encM_closed, tk, l1, wl.len, h4, -deep_ptr]
        done
      · rw [if_neg h400] at hk hf
        have h4 : ¬ (S.2.length : Int) = 400 := by omega
        have P2 : Mp ⟨upd h (nx0 + 11) none, nx0 + 11 + 1 + 11 + 10⟩ O (S.1.map encM) ((List.range S.1.length).map natV) := D.p.fr (updNe (by omega)) (by show O < nx0 + 11 + 1 + 11 + 10; omega)
        obtain ⟨m2, p1, p2, p3, p4⟩ := P2.put keysM (fun x hx => hS.six x hx) (by simp) tlen hc S.2.length
        simp only [encM, natV] at p1
        have hm2M : m2.h M = some (.cells [nv, gv, wv, .map O]) := by rw [p4 M moM.2.2]; show upd h (nx0 + 11) none M = _; rw [updNe (by omega)]; exact hM
        have wl2 : Nf m2.h wv (S.2.map .str) lo (nx0 + 11 + 1) := wl.fr (fun y y1 y2 _ => p4 y (by omega)) (Nat.le_refl _)
        obtain ⟨wv', h3, nx', g1, g2, g3, g4, g5, g6, g7⟩ := wl2.app (nx := nx0 + 11 + 1 + 11 + 11) (by' := 16) (by omega) (by omega) (by simp; omega) (.str (w ++ ltr a))
        have low : ∀ y, y < lo → h3 y = m2.h y := fun y hy => g6 y (fun e => by
          rcases g5 y e with q | q
          · have := wl2.oid q; omega
          · omega)
        have h3M : h3 M = some (.cells [nv, gv, wv, .map O]) := by rw [low M moM.1]; exact hm2M
        have erng : List.range S.1.length ++ [S.2.length] = List.range (S.1 ++ [mv6 rows (w ++ ltr a)]).length := by
          rw [List.length_append, List.length_singleton, List.range_succ, hlen]
        have st := ih (a + 1) ⟨upd h3 M (some (.cells [nv, gv, wv', .map O])), nx'⟩ wv' (S.1 ++ [mv6 rows (w ++ ltr a)], S.2 ++ [extL w a]) (by omega)
          ⟨by simp, by
            show Nf (upd h3 M (some (.cells [nv, gv, wv', .map O]))) wv' ((S.2 ++ [extL w a]).map .str) lo nx'
            rw [List.map_append]
            exact g2.fr (fun y y1 y2 _ => updNe (by omega)) (Nat.le_refl _), by
            rw [erng] at p2
            exact p2.fr (by show upd h3 M (some (.cells [nv, gv, wv', .map O])) O = m2.h O; rw [updNe (Ne.symm moM.2.2), low O moM.2.1]) (by show O < nx'; omega), D.mo, by rw [g7]; exact (decide_eq_false (by show ¬ (S.2 ++ [extL w a]).length = 1; rw [List.length_append]; have := List.length_pos_of_mem hwm; simp only [List.length_singleton]; omega)).symm⟩ (by show lo ≤ nx'; omega)
          (by have := hS.add n6 k3 hwm ha (by rw [et]; exact hc) h400; rw [et] at this; exact this)
          (by rw [List.getElem?_append_left hi2]; exact hw) hi hk hf
        simp only [Int.natCast_add, Int.cast_ofNat_Int] at st
        rw [brand_made.L2_eq]
        simp [ha, hM, hM2, hp1, hp2, hlt, hll, hd, hdo, htb, dsV_flat, dsV_deep, encM_flat, encM_one, encM_closed, tk, l1, wl.len, h4, p1, hm2M, wl.one, g1, h3M, (show wv'.one = true from g2.one), hwa, -deep_ptr]
        exact st
def mdR (nv gv : AV) : Option SM → AV
  | some S => .tup [monV nv gv S, .int .i64 0]
  | none => .tup [.nilp, .int .i64 7]
theorem md_out {nv gv : AV} {ps : List AV} {rows : List (List Int)} {good : List Bool} {k : Nat} (hn : IsRows nv ps rows) (hg : IsB gv good) (v : VB rows good k) {M O lo : Nat} :
    ∀ (f i : Nat) (m : Mem) (wv : AV) (S : SM), Md m M O nv gv wv S lo → lo ≤ m.nx → MOk rows k S → i ≤ S.1.length → 400 < f + i →
    brand_made.L0 (.ptr M 0 4) (.int .i64 i) m KM0 = some (mdR nv gv (bfsM rows k f i S), Mem.empty) := by
  intro f
  have n6 := v.n6
  have k3 := v.k3
  induction f with
  | zero => intro i m wv S D hlo hS hi hf; have := hS.le; omega
  | succ f ih =>
    intro i m wv S D hlo hS hi hf
    have hle := hS.le
    have hlen := hS.len
    obtain ⟨h, nx0⟩ := m
    have hM : h M = some (.cells [nv, gv, wv, .map O]) := D.o
    by_cases c : i < S.1.length
    · have hx := List.getElem?_eq_getElem c
      have c2 : i < S.2.length := by rw [← hS.len]; exact c
      have hw := List.getElem?_eq_getElem c2
      generalize S.1[i] = x at hx
      generalize S.2[i] = w at hw
      have hxw := hS.at hx hw
      subst hxw
      have hwm := List.mem_of_getElem? hw
      have r0 := v.rl 0 v.n1
      have i0 := hn.idx (i := 0) v.n1 .i64
      have j0 := hn.head (i := 0) v.n1
      have iw0 := hn.row 0 v.n1
      simp only [Int.ofNat_zero, Int.cast_ofNat_Int, List.drop_zero] at i0 j0
      rw [bfsM, hx, hw]
      simp only []
      have st := md_in (M := M) (O := O) (lo := lo) (i := i) (w := w) (r := some (mdR nv gv ((bInM rows (mv6 rows w) w k 0 S).bind fun S' => bfsM rows k f (i + 1) S'), Mem.empty)) hn hg v k 0 ⟨h, nx0⟩ wv S (by omega) D hlo hS hw (by omega) (fun S1 e m' wv' D' hlo' => by
        obtain ⟨h1, ⟨p, r, h2, h3⟩, h4⟩ := bInM_ok n6 k3 k 0 S S1 (by omega) hS hwm e
        have := ih (i + 1) m' wv' S1 D' hlo' h1 (by rw [h2]; simp; omega) (by omega)
        simp only [Int.natCast_add, Int.cast_ofNat_Int] at this
        rw [e, Option.bind_some]
        exact this) (fun e => by rw [e]; rfl)
      simp only [Int.ofNat_zero, Int.cast_ofNat_Int] at st
      rw [brand_made.L0_eq]
      simp [hM, D.w.len, c2, i0, j0, iw0.len, r0]
      exact st
    · have hx : S.1[i]? = none := List.getElem?_eq_none (by omega)
      have c2 : ¬ i < S.2.length := by omega
      have hd := deep_md D hn.deep hg.deep 0
      simp only at hd
      rw [bfsM, hx, brand_made.L0_eq]
      simp [hM, D.w.len, c2, KM0, hd, mdR, -deep_ptr]
      done
noncomputable def madeB (rows : List (List Int)) (good : List Bool) (k : Nat) : Option SM := madeS (rowsM rows good k) k
theorem deep_142 (h : Nat → Option AObj) (d : Nat) : AM.deep h (d + 1) (.iface 142 (.agg [])) = some (.iface 142 (.agg [])) := rfl
theorem made_spec {nv gv : AV} {ps : List AV} {rows : List (List Int)} {good : List Bool} (hn : IsRows nv ps rows) (hg : IsB gv good) (hl : rows.length ≤ 1000) (hgl : good.length ≤ 1000) (hr : ∀ i, i < rows.length → (cth rows i).length ≤ 1000) (m : Mem) :
    denC prog ann 70 [.agg [nv, gv]] m = some (if validB rows good = true then mdR (nvM rows good (cth rows 0).length) (gvM rows good (cth rows 0).length) (madeB rows good (cth rows 0).length) else .tup [.nilp, .int .i64 1], m) := by
  have h1 := fun m => valid_spec hn hg hl hgl hr m
  rw [brand_made.call_eq _ _ (by simp [hn.closed, hg.closed])]
  cases c0 : validB rows good with
  | false =>
    rw [c0] at h1
    simp [hn.one, hg.one, hn.closed, hg.closed, h1]
    done
  | true =>
    rw [c0] at h1
    have v := VB.of c0
    have h2 := fun m => smallest_spec hn hg v m
    rw [repL_eq v, resV_eq] at h2
    have vm := VB_M v
    have hm := isRows_M rows good (cth rows 0).length
    have hb := isB_M rows good (cth rows 0).length
    have htb := fun m => table_spec (wv := .fsl true 1 [.str []]) (ov := .fmap [] []) hm hb vm rfl rfl [] m
    rw [show dsV (rowsM rows good (cth rows 0).length) [] = .iface 142 (.agg []) from rfl] at htb
    simp only [encM] at htb
    have hm0 : Mp ⟨upd (upd Mem.empty.h 0 (some (AObj.map 0 [] []))) 1 (some (AObj.cells [nvM rows good (cth rows 0).length, gvM rows good (cth rows 0).length, AV.fsl true 1 [AV.str []], AV.map 0])), 10⟩ 0 (([] : List (List Nat)).map encM) (([] : List Nat).map natV) := ⟨⟨0, by simp⟩, by show 0 < 10; omega⟩
    obtain ⟨m2, p1, p2, p3, p4⟩ := hm0.put (c := mv6 (rowsM rows good (cth rows 0).length) []) keysM (by simp) rfl (mv6_len _ _) (by simp) 0
    simp only [encM, natV, Int.ofNat_zero, Int.cast_ofNat_Int] at p1
    have st := md_out (M := 1) (O := 0) (lo := 2) hm hb vm 401 0 ⟨m2.h, 11⟩ (.fsl true 1 [.str []]) ([mv6 (rowsM rows good (cth rows 0).length) []], [[]]) ⟨by show m2.h 1 = _; rw [p4 1 (by omega)]; simp, .inl rfl, p2.fr rfl (by show 0 < 11; omega), by omega, rfl⟩ (by show 2 ≤ 11; omega) (MOk1 _ _) (by simp) (by omega)
    simp only [Int.ofNat_zero, Int.cast_ofNat_Int, KM0] at st
    have d1 := fun hp => hm.deep hp 4
    have d2 := fun hp => hb.deep hp 4
    simp [hn.one, hg.one, hn.closed, hg.closed, h1, h2, hm.one, hb.one, d1, d2, deep_142, htb, encM_flat, p1]
    rw [st]
    rfl
end Go.Proofs.Ythnpflkpjimkfaa

/-
  ELEMENTS' NUMBERS: the program's Monoid, Element, Idempotents. Conditions: none.
-/
namespace Go.Proofs.Ythnpflkpjimkfaa
open Go.AM
open Go.Proofs.Try (prog)
set_option linter.all false
set_option maxRecDepth 100000
set_option maxHeartbeats 8000000
def numM (rows : List (List Int)) (S : SM) (w : List UInt8) : Nat := S.1.idxOf (mv6 rows w)
structure MW (rows : List (List Int)) (k : Nat) (S : SM) : Prop where
  ok : MOk rows k S
  pre : ∃ p q, S.1 = [mv6 rows []] ++ p ∧ S.2 = [[]] ++ q
  cl : ∀ x ∈ S.1, ∀ a, a < k → nxM rows x a ∈ S.1
section
variable {rows : List (List Int)} {k : Nat} {S : SM}
theorem chr_ltr {c : UInt8} (h : 97 ≤ c.toNat) : [c] = ltr (c.toNat - 97) := by
  rw [ltr, show 97 + (c.toNat - 97) = c.toNat by omega]
  simp
theorem MW.mem (h : MW rows k S) (n6 : rows.length ≤ 6) (k3 : k ≤ 3) : ∀ (w p : List UInt8), okW k w → mv6 rows p ∈ S.1 → mv6 rows (p ++ w) ∈ S.1
  | [], p, _, hp => by simpa using hp
  | c :: w, p, hw, hp => by
    have hc := hw c (by simp)
    have e : p ++ c :: w = (p ++ [c]) ++ w := by simp
    rw [e]
    refine MW.mem h n6 k3 w (p ++ [c]) (fun b hb => hw b (by simp [hb])) ?_
    rw [chr_ltr hc.1]
    have := mv6_ltr rows n6 p (a := c.toNat - 97) (by omega)
    rw [extL] at this
    rw [this]
    exact h.cl _ hp _ hc.2
theorem MW.all (h : MW rows k S) (n6 : rows.length ≤ 6) (k3 : k ≤ 3) {w : List UInt8} (hw : okW k w) : mv6 rows w ∈ S.1 := by
  have := h.mem n6 k3 w [] hw (by obtain ⟨p, _, e, _⟩ := h.pre; rw [e]; simp)
  simpa using this
theorem MW.lt (h : MW rows k S) (n6 : rows.length ≤ 6) (k3 : k ≤ 3) {w : List UInt8} (hw : okW k w) : numM rows S w < S.1.length := List.idxOf_lt_length_iff.2 (h.all n6 k3 hw)
theorem MW.at (h : MW rows k S) (n6 : rows.length ≤ 6) (k3 : k ≤ 3) {w : List UInt8} (hw : okW k w) : S.1[numM rows S w]? = some (mv6 rows w) := by
  have hl := h.lt n6 k3 hw
  rw [List.getElem?_eq_getElem hl]
  simp [numM]
theorem MW.pos (h : MW rows k S) : 0 < S.1.length := by obtain ⟨p, _, e, _⟩ := h.pre; rw [e]; simp
def wrd (S : SM) (i : Nat) : List UInt8 := S.2.getD i []
theorem MW.wok (h : MW rows k S) {i : Nat} (hi : i < S.1.length) : S.2[i]? = some (wrd S i) ∧ okW k (wrd S i) ∧ (wrd S i).length ≤ 400 ∧ S.1[i]? = some (mv6 rows (wrd S i)) := by
  have hi2 : i < S.2.length := by rw [← h.ok.len]; exact hi
  have e : S.2[i]? = some (wrd S i) := by simp [wrd, List.getD_eq_getElem?_getD, hi2]
  have hm := List.mem_of_getElem? e
  have := h.ok.ok _ hm
  have hle := h.ok.le
  have hlen := h.ok.len
  refine ⟨e, this.1, by omega, ?_⟩
  rw [h.ok.eq, List.getElem?_map, e]; rfl
theorem MW.self (h : MW rows k S) {i : Nat} (hi : i < S.1.length) : numM rows S (wrd S i) = i := by
  obtain ⟨_, _, _, e⟩ := h.wok hi
  have e' := (List.getElem?_eq_some_iff.1 e).2
  rw [numM, ← e']
  exact h.ok.nd.idxOf_getElem i hi
theorem look_num (h : MW rows k S) (n6 : rows.length ≤ 6) (k3 : k ≤ 3) {w : List UInt8} (hw : okW k w) (m : Mem) : lookP prog m 139 (.int .i64 0) (.fmap (S.1.map encM) ((List.range S.1.length).map natV)) (encM (mv6 rows w)) false = some (.int .i64 (numM rows S w : Nat)) := by
  have hl := h.lt n6 k3 hw
  have q1 := lkP_at (vs := List.range S.1.length) h.ok.nd (h.at n6 k3 hw) (w := numM rows S w) (by simp [hl])
  simp only [lookP, keysM.key (mv6 rows w) (mv6_len _ _), cond_true, lookA, findK_of keysM (vs := List.range S.1.length) (ev := natV) (fun x hx => h.ok.six x hx) (mv6_len rows w) (by simp), q1, Option.bind_some]
  rfl
end
theorem number_spec {nv gv : AV} {ps : List AV} {rows : List (List Int)} {good : List Bool} {k : Nat} (hn : IsRows nv ps rows) (hg : IsB gv good) (v : VB rows good k) {S : SM} (h : MW rows k S) {w : List UInt8} (hw : okW k w) (hwl : w.length ≤ 1000000) (m : Mem) :
    denC prog ann 71 [monV nv gv S, .str w] m = some (.int .i64 (numM rows S w : Nat), m) := by
  have hl := look_num h v.n6 v.k3 hw
  have hfl := (letF_iff k w).2 hw
  have hdo := fun m => does_spec (wv := .fsl (decide (S.2.length = 1)) S.2.length (S.2.map .str)) (ov := .fmap (S.1.map encM) ((List.range S.1.length).map natV)) hn hg v rfl rfl hwl hfl m
  have htb := fun m => table_spec (wv := .fsl (decide (S.2.length = 1)) S.2.length (S.2.map .str)) (ov := .fmap (S.1.map encM) ((List.range S.1.length).map natV)) hn hg v rfl rfl w m
  have hdc : (dsV rows w).closed = true := by
    unfold dsV encM
    split
    · rfl
    · simp [AV.closed, encM_closed]
  rw [monV, brand_monoid_number.call_eq _ _ _ (by simp [hn.closed, hg.closed])]
  simp [hn.closed, hg.closed, hn.one, hg.one, hdo, htb, hdc, hl]
  done
end Go.Proofs.Ythnpflkpjimkfaa

/-
  Monoid, Element, Idempotents: what the program returns. Conditions: none.
-/
namespace Go.Proofs.Ythnpflkpjimkfaa
open Go.AM
open Go.Proofs.Try (prog)
set_option linter.all false
set_option maxRecDepth 100000
set_option maxHeartbeats 8000000
theorem MW_of {rows : List (List Int)} {good : List Bool} {k : Nat} (v : VB rows good k) {S : SM} (h : madeB rows good k = some S) : MW (rowsM rows good k) k S := by
  have vm := VB_M v
  obtain ⟨h1, h2, h3⟩ := madeS_ok vm.n6 vm.k3 h
  exact ⟨h1, h2, h3⟩
def wdsV (S : SM) : AV := .fsl (decide (S.2.length = 1)) S.2.length (S.2.map .str)
theorem monoid_spec {nv gv : AV} {ps : List AV} {rows : List (List Int)} {good : List Bool} (hn : IsRows nv ps rows) (hg : IsB gv good) (hl : rows.length ≤ 1000) (hgl : good.length ≤ 1000) (hr : ∀ i, i < rows.length → (cth rows i).length ≤ 1000) (m : Mem) :
    denC prog ann 36 [.agg [nv, gv]] m = some (if validB rows good = true then (match madeB rows good (cth rows 0).length with | some S => .tup [wdsV S, .int .i64 0] | none => .tup [.nils, .int .i64 7]) else .tup [.nils, .int .i64 1], m) := by
  have h1 := fun m => made_spec hn hg hl hgl hr m
  rw [brand_Monoid.call_eq _ _ (by simp [hn.closed, hg.closed])]
  cases c0 : validB rows good with
  | false =>
    rw [c0] at h1
    simp [hn.one, hg.one, hn.closed, hg.closed, h1]
    done
  | true =>
    rw [c0, if_pos rfl] at h1
    cases e : madeB rows good (cth rows 0).length with
    | none =>
      rw [e] at h1
      simp only [mdR] at h1
      simp [hn.one, hg.one, hn.closed, hg.closed, h1]
      done
    | some S =>
      rw [e] at h1
      simp only [mdR, monV] at h1
      simp [hn.one, hg.one, hn.closed, hg.closed, h1, wdsV]
      done
end Go.Proofs.Ythnpflkpjimkfaa

/-
  BODIES OF FUNCTIONS OF THE PROGRAM AS SMALL OPERATIONS (written by gen.py; checked by the kernel against the program). Conditions: none.
-/
namespace Go.Proofs.Ythnpflkpjimkfaa
open Go.AM
open Go.Proofs.Try (prog)
set_option maxRecDepth 100000
set_option linter.all false
end Go.Proofs.Ythnpflkpjimkfaa

/-
  WHAT WORDS DO, AS STRINGS OF STATES: the specification's. Conditions: none.
-/
namespace Go.Proofs.Ythnpflkpjimkfaa
open Go.AM
open Go.Proofs.Try (prog)
set_option linter.all false
set_option maxRecDepth 100000
set_option maxHeartbeats 8000000
def bysV (l : List UInt8) : List AV := l.map fun b => .int .u8 (b.toNat : Nat)
@[simp] theorem bysV_len (l : List UInt8) : (bysV l).length = l.length := by simp [bysV]
def doF (f : Nat → Nat) (c : Nat) : List UInt8 := (List.range c).map fun s => UInt8.ofNat (f s)
def encD (n : Nat) (t : List Nat) : List UInt8 := doF (fun s => t.getD s 0) n
@[simp] theorem doF_len (f : Nat → Nat) (c : Nat) : (doF f c).length = c := by simp [doF]
end Go.Proofs.Ythnpflkpjimkfaa

/-
  ALL ELEMENTS OF A MONOID: the specification's search. Conditions: none.
-/
namespace Go.Proofs.Ythnpflkpjimkfaa
open Go.AM
open Go.Proofs.Try (prog)
set_option linter.all false
set_option maxRecDepth 100000
set_option maxHeartbeats 8000000
structure Dw (h : Nat → Option AObj) (M : Nat) (dv wv : AV) (n : Nat) (S : SM) (lo hi : Nat) : Prop where
  o : h M = some (.cells [dv, wv])
  d : Nf h dv ((S.1.map (encD n)).map .str) lo hi
  w : Nf h wv (S.2.map .str) lo hi
  dj : ∀ y, objId dv = some y → objId wv ≠ some y
  z : h 0 = some (.cells [.nils, .nils])
  mo : M < lo ∧ 0 < M
  x : isF dv = decide (S.2.length = 1) ∧ isF wv = decide (S.2.length = 1)
end Go.Proofs.Ythnpflkpjimkfaa

/-
  PRODUCTS, ELEMENTS, IDEMPOTENTS: the specification's; lists of strings that are the same. Conditions: none.
-/
namespace Go.Proofs.Ythnpflkpjimkfaa
open Go.AM
open Go.Proofs.Try (prog)
set_option linter.all false
set_option maxRecDepth 100000
set_option maxHeartbeats 8000000
section
variable {rows : List (List Int)} {good : List Bool} {k : Nat} {S : SM}
end
end Go.Proofs.Ythnpflkpjimkfaa

/-
  ELEMENTS AND IDEMPOTENTS: the specification's; lists of strings that are the same. Conditions: none.
-/
namespace Go.Proofs.Ythnpflkpjimkfaa
open Go.AM
open Go.Proofs.Try (prog)
set_option linter.all false
set_option maxRecDepth 100000
set_option maxHeartbeats 8000000
def IsS (v : AV) (l : List (List UInt8)) : Prop := (v = .nils ∧ l = []) ∨ ∃ ex, v = .fsl ex l.length (l.map .str)
theorem IsS.len {v : AV} {l : List (List UInt8)} (h : IsS v l) : lenSl v = some (.int .i64 l.length) := by rcases h with ⟨rfl, rfl⟩ | ⟨_, rfl⟩ <;> rfl
theorem IsS.closed {v : AV} {l : List (List UInt8)} (h : IsS v l) : v.closed = true := by rcases h with ⟨rfl, rfl⟩ | ⟨_, rfl⟩ <;> rfl
theorem IsS.one {v : AV} {l : List (List UInt8)} (h : IsS v l) : v.one = true := by rcases h with ⟨rfl, rfl⟩ | ⟨_, rfl⟩ <;> rfl
theorem IsS.idx {v : AV} {l : List (List UInt8)} (h : IsS v l) {i : Nat} (hi : i < l.length) (k : IntKind) : idxSl 1 v (.int k (i : Int)) = some (.fptr ((l.map .str).drop i)) := by
  rcases h with ⟨rfl, rfl⟩ | ⟨_, rfl⟩
  · simp at hi
  · simp [hi]
end Go.Proofs.Ythnpflkpjimkfaa

/-
  BODIES OF FUNCTIONS OF THE PROGRAM AS SMALL OPERATIONS (written by gen.py; checked by the kernel against the program). Conditions: none.
-/
namespace Go.Proofs.Ythnpflkpjimkfaa
open Go.AM
open Go.Proofs.Try (prog)
set_option maxRecDepth 100000
set_option linter.all false
end Go.Proofs.Ythnpflkpjimkfaa

/-
  ALL PRODUCTS: the specification's table. Conditions: none.
-/
namespace Go.Proofs.Ythnpflkpjimkfaa
open Go.AM
open Go.Proofs.Try (prog)
set_option linter.all false
set_option maxRecDepth 100000
set_option maxHeartbeats 8000000
def pr (rows : List (List Int)) (S : SM) (i j : Nat) : Nat := numM rows S (wrd S i ++ wrd S j)
end Go.Proofs.Ythnpflkpjimkfaa

/-
  BELOW: the elements that are reached by writing letters before or after. The law. Conditions: none.
-/
namespace Go.Proofs.Ythnpflkpjimkfaa
open Go.AM
open Go.Proofs.Try (prog)
set_option linter.all false
set_option maxRecDepth 100000
set_option maxHeartbeats 4000000
inductive Rch (stp : Nat → List Nat) (i : Nat) : Nat → Prop
  | refl : Rch stp i i
  | step {j k : Nat} : Rch stp i j → k ∈ stp j → Rch stp i k
abbrev VP := List Bool × List Nat
def vis1 (P : VP) (j : Nat) : VP := if bnth P.1 j = true then P else (P.1.set j true, P.2 ++ [j])
def visF (l : List Nat) (P : VP) : VP := l.foldl vis1 P
def vis (stp : Nat → List Nat) : Nat → VP → List Bool
  | 0, P => P.1
  | f + 1, P => match P.2 with
    | [] => P.1
    | x :: _ => vis stp f ((visF (stp x) P).1, (visF (stp x) P).2.drop 1)
def cf (row : List Bool) : Nat := row.countP fun b => !b
theorem cf_set : ∀ {row : List Bool} {j : Nat}, j < row.length → bnth row j = false → cf (row.set j true) + 1 = cf row
  | [], j, h, _ => by simp at h
  | b :: row, 0, _, h => by
    simp [bnth] at h
    subst h
    simp [cf]
  | b :: row, j + 1, h, h2 => by
    have := cf_set (row := row) (j := j) (by simpa using h) (by simpa [bnth] using h2)
    simp only [cf, List.set_cons_succ, List.countP_cons] at this ⊢
    omega
structure VI (n : Nat) (stp : Nat → List Nat) (i : Nat) (P : VP) : Prop where
  l : P.1.length = n
  m : bnth P.1 i = true
  r : ∀ j, j < n → bnth P.1 j = true → Rch stp i j
  t : ∀ j ∈ P.2, j < n ∧ bnth P.1 j = true
  c : ∀ j, j < n → bnth P.1 j = true → j ∈ P.2 ∨ ∀ k ∈ stp j, bnth P.1 k = true
section
variable {n : Nat} {stp : Nat → List Nat} {i : Nat}
theorem visF_inv (hs : ∀ j, ∀ k ∈ stp j, k < n) {x : Nat} (hx : Rch stp i x) : ∀ (l : List Nat) (P : VP), (∀ k ∈ l, k ∈ stp x) → VI n stp i P → P.2.head? = some x → VI n stp i (visF l P) ∧ (visF l P).2.head? = some x ∧ (∀ k, bnth P.1 k = true → bnth (visF l P).1 k = true) ∧ (∀ k ∈ l, bnth (visF l P).1 k = true) ∧ cf (visF l P).1 + (visF l P).2.length = cf P.1 + P.2.length
  | [], P, _, h, hh => ⟨h, hh, fun _ e => e, by simp, rfl⟩
  | k :: l, P, hl, h, hh => by
    have hk := hl k (by simp)
    have hkn := hs x k hk
    have key : VI n stp i (vis1 P k) ∧ (vis1 P k).2.head? = some x ∧ (∀ k', bnth P.1 k' = true → bnth (vis1 P k).1 k' = true) ∧ bnth (vis1 P k).1 k = true ∧ cf (vis1 P k).1 + (vis1 P k).2.length = cf P.1 + P.2.length := by
      unfold vis1
      by_cases q : bnth P.1 k = true
      · rw [if_pos q]
        exact ⟨h, hh, fun _ e => e, q, rfl⟩
      · rw [if_neg q]
        have q' : bnth P.1 k = false := by simpa using q
        have hkl : k < P.1.length := by rw [h.l]; exact hkn
        have st : ∀ k', bnth (P.1.set k true) k' = if k = k' then true else bnth P.1 k' := fun k' => bnth_set hkl
        have mono : ∀ k', bnth P.1 k' = true → bnth (P.1.set k true) k' = true := fun k' e => by rw [st]; split; rfl; exact e
        refine ⟨⟨by simp [h.l], mono i h.m, fun j hj e => ?_, fun j hj => ?_, fun j hj e => ?_⟩, ?_, mono, by rw [st]; simp, ?_⟩
        · rw [st] at e
          by_cases w : k = j
          · subst w; exact hx.step hk
          · rw [if_neg w] at e; exact h.r j hj e
        · rcases List.mem_append.1 hj with hj | hj
          · exact ⟨(h.t j hj).1, mono j (h.t j hj).2⟩
          · simp at hj; subst hj; exact ⟨hkn, by rw [st]; simp⟩
        · rw [st] at e
          by_cases w : k = j
          · subst w; left; simp
          · rw [if_neg w] at e
            rcases h.c j hj e with h1 | h1
            · left; exact List.mem_append_left _ h1
            · right; exact fun k' hk' => mono k' (h1 k' hk')
        · show (P.2 ++ [k]).head? = some x
          cases e : P.2 with
          | nil => rw [e] at hh; cases hh
          | cons y t => rw [e] at hh; simpa using hh
        · have := cf_set hkl q'
          simp only [List.length_append, List.length_singleton]
          omega
    obtain ⟨k1, k2, k3, k4, k5⟩ := key
    obtain ⟨g1, g2, g3, g4, g5⟩ := visF_inv hs hx l (vis1 P k) (fun k' hk' => hl k' (by simp [hk'])) k1 k2
    refine ⟨g1, g2, fun k' e => g3 k' (k3 k' e), fun k' hk' => ?_, by simp only [visF, List.foldl_cons] at g5 ⊢; omega⟩
    rcases List.mem_cons.1 hk' with rfl | hk'
    · exact g3 _ k4
    · exact g4 k' hk'
theorem vis_law (hs : ∀ j, ∀ k ∈ stp j, k < n) (hi : i < n) : ∀ (f : Nat) (P : VP), VI n stp i P → cf P.1 + P.2.length < f → (vis stp f P).length = n ∧ ∀ j, j < n → (bnth (vis stp f P) j = true ↔ Rch stp i j)
  | 0, P, _, h => by omega
  | f + 1, P, h, hf => by
    rw [vis]
    cases e : P.2 with
    | nil =>
      refine ⟨h.l, fun j hj => ⟨h.r j hj, fun r => ?_⟩⟩
      have : ∀ j, Rch stp i j → j < n ∧ bnth P.1 j = true := by
        intro j r
        induction r with
        | refl => exact ⟨hi, h.m⟩
        | step r1 hk ih =>
          rename_i j' k'
          refine ⟨hs _ _ hk, ?_⟩
          rcases h.c j' ih.1 ih.2 with h1 | h1
          · rw [e] at h1; simp at h1
          · exact h1 _ hk
      exact (this j r).2
    | cons x t =>
      have hh : P.2.head? = some x := by rw [e]; rfl
      have hx := h.t x (by rw [e]; simp)
      obtain ⟨g1, g2, g3, g4, g5⟩ := visF_inv hs (h.r x hx.1 hx.2) (stp x) P (fun k hk => hk) h hh
      simp only []
      generalize visF (stp x) P = Q at *
      obtain ⟨Q1, Q2⟩ := Q
      cases Q2 with
      | nil => simp at g2
      | cons y Q2 =>
        simp at g2
        subst g2
        refine vis_law hs hi f (Q1, (y :: Q2).drop 1) ⟨g1.l, g1.m, g1.r, fun j hj => g1.t j (by simp at hj; simp [hj]), fun j hj ej => ?_⟩ (by simp only [List.length_cons, List.drop_succ_cons, List.drop_zero] at g5 ⊢; omega)
        by_cases w : j = y
        · subst w; right; exact g4
        · rcases g1.c j hj ej with h1 | h1
          · left
            simp at h1 ⊢
            rcases h1 with h1 | h1
            · exact absurd h1 w
            · exact h1
          · right; exact h1
end
section
variable {rows : List (List Int)} {k : Nat} {S : SM}
def stpM (rows : List (List Int)) (S : SM) (k : Nat) (lf rt : Bool) (i : Nat) : List Nat := (List.range k).flatMap fun a => (if lf = true then [numM rows S (ltr a ++ wrd S i)] else []) ++ (if rt = true then [numM rows S (wrd S i ++ ltr a)] else [])
def Blw (rows : List (List Int)) (S : SM) (k : Nat) (lf rt : Bool) (i j : Nat) : Prop := ∃ u v, okW k u ∧ okW k v ∧ (lf = false → u = []) ∧ (rt = false → v = []) ∧ numM rows S (u ++ wrd S i ++ v) = j
theorem mv6_congr {u u' w w' : List UInt8} (h1 : ∀ s, s < rows.length → goL rows u s = goL rows u' s) (hlt : ∀ s, s < rows.length → goL rows u' s < rows.length) (h2 : ∀ s, s < rows.length → goL rows w s = goL rows w' s) : ∀ s, s < rows.length → goL rows (u ++ w) s = goL rows (u' ++ w') s := fun s hs => by
  have ga : ∀ (u w : List UInt8) (s : Nat), goL rows (u ++ w) s = goL rows w (goL rows u s) := by
    intro u
    induction u with
    | nil => intro w s; rfl
    | cons c u ih => intro w s; rw [List.cons_append, goL, goL, ih]
  rw [ga, ga, h1 s hs, h2 _ (hlt s hs)]
theorem mv6_ext {u u' : List UInt8} (h : ∀ s, s < rows.length → goL rows u s = goL rows u' s) : mv6 rows u = mv6 rows u' := by
  rw [mv6, mv6, mvF, mvF]
  refine List.map_congr_left fun s hs => ?_
  by_cases q : s < rows.length
  · rw [if_pos q, if_pos q, h s q]
  · rw [if_neg q, if_neg q]
theorem mv6_at {u u' : List UInt8} (n6 : rows.length ≤ 6) (h : mv6 rows u = mv6 rows u') : ∀ s, s < rows.length → goL rows u s = goL rows u' s := fun s hs => by
  have e1 : (mv6 rows u).getD s 0 = goL rows u s := mvF_at (by omega) hs
  have e2 : (mv6 rows u').getD s 0 = goL rows u' s := mvF_at (by omega) hs
  rw [← e1, ← e2, h]
variable {good : List Bool}
theorem goL_lt7 (v : VB rows good k) {w : List UInt8} (hw : okW k w) {s : Nat} (hs : s < rows.length) : goL rows w s < rows.length := by
  have := goL_lt v w w.length 0 s (by omega) hs ((letF_iff k w).2 hw)
  rw [goF_goL rows w w.length 0 s (by omega)] at this
  simpa using this
theorem num_congr (v : VB rows good k) {u w w' x : List UInt8} (hu : okW k u) (hw : okW k w) (hw' : okW k w') (h : mv6 rows w = mv6 rows w') : numM rows S (u ++ w ++ x) = numM rows S (u ++ w' ++ x) := by
  have h1 := mv6_at v.n6 h
  have : mv6 rows (u ++ w ++ x) = mv6 rows (u ++ w' ++ x) := mv6_ext (mv6_congr (mv6_congr (fun _ _ => rfl) (fun s hs => goL_lt7 v hu hs) h1) (fun s hs => goL_lt7 v (okW_app hu hw') hs) (fun _ _ => rfl))
  rw [numM, numM, this]
theorem wrd_num (v : VB rows good k) (W : MW rows k S) {w : List UInt8} (hw : okW k w) : mv6 rows (wrd S (numM rows S w)) = mv6 rows w := by
  have h1 := W.at v.n6 v.k3 hw
  obtain ⟨_, _, _, h2⟩ := W.wok (W.lt v.n6 v.k3 hw)
  rw [h1] at h2
  exact (Option.some.inj h2).symm
theorem okW_ltr {a : Nat} (ha : a < k) (k3 : k ≤ 3) : okW k (ltr a) := by
  have := okW_ext (okW_nil k) ha k3
  simpa [extL] using this
theorem stpM_lt (v : VB rows good k) (W : MW rows k S) {lf rt : Bool} {i : Nat} (hi : i < S.1.length) : ∀ j ∈ stpM rows S k lf rt i, j < S.1.length := by
  intro j hj
  obtain ⟨_, w2, _, _⟩ := W.wok hi
  simp only [stpM, List.mem_flatMap, List.mem_range] at hj
  obtain ⟨a, ha, hj⟩ := hj
  have ho := okW_ltr ha v.k3
  rcases List.mem_append.1 hj with hj | hj
  · split at hj
    · simp at hj; subst hj; exact W.lt v.n6 v.k3 (okW_app ho w2)
    · simp at hj
  · split at hj
    · simp at hj; subst hj; exact W.lt v.n6 v.k3 (okW_app w2 ho)
    · simp at hj
theorem blw_of_rch (v : VB rows good k) (W : MW rows k S) {lf rt : Bool} {i j : Nat} (hi : i < S.1.length) (r : Rch (stpM rows S k lf rt) i j) : Blw rows S k lf rt i j := by
  obtain ⟨_, wi, _, _⟩ := W.wok hi
  induction r with
  | refl => exact ⟨[], [], okW_nil k, okW_nil k, fun _ => rfl, fun _ => rfl, by simpa using W.self hi⟩
  | step r1 hk ih =>
    rename_i j k'
    obtain ⟨u, x, hu, hx, h1, h2, e⟩ := ih
    have hok := okW_app (okW_app hu wi) hx
    have hj : mv6 rows (wrd S j) = mv6 rows (u ++ wrd S i ++ x) := by rw [← e]; exact wrd_num v W hok
    have hjl : j < S.1.length := by rw [← e]; exact W.lt v.n6 v.k3 hok
    obtain ⟨_, wj, _, _⟩ := W.wok hjl
    simp only [stpM, List.mem_flatMap, List.mem_range] at hk
    obtain ⟨a, ha, hk⟩ := hk
    have ho := okW_ltr ha v.k3
    rcases List.mem_append.1 hk with hk | hk
    · split at hk
      · rename_i hl
        simp at hk
        refine ⟨ltr a ++ u, x, okW_app ho hu, hx, fun q => (by rw [hl] at q; cases q), h2, ?_⟩
        have := num_congr (S := S) (x := []) v ho wj hok hj
        simp only [List.append_nil] at this
        rw [hk, this]; simp only [List.append_assoc]
      · simp at hk
    · split at hk
      · rename_i hl
        simp at hk
        refine ⟨u, x ++ ltr a, hu, okW_app hx ho, h1, fun q => (by rw [hl] at q; cases q), ?_⟩
        have := num_congr (S := S) (u := []) (x := ltr a) v (okW_nil k) wj hok hj
        simp only [List.nil_append] at this
        rw [hk, this]; simp only [List.append_assoc]
      · simp at hk
theorem rch_of_blw (v : VB rows good k) (W : MW rows k S) {lf rt : Bool} {i j : Nat} (hi : i < S.1.length) (b : Blw rows S k lf rt i j) : Rch (stpM rows S k lf rt) i j := by
  obtain ⟨_, wi, _, _⟩ := W.wok hi
  have left : ∀ (u : List UInt8), okW k u → (lf = false → u = []) → Rch (stpM rows S k lf rt) i (numM rows S (u ++ wrd S i)) := by
    intro u
    induction u with
    | nil => intro _ _; rw [List.nil_append, W.self hi]; exact .refl
    | cons c u ih =>
      intro hu hl
      have hlt : lf = true := by cases lf with
        | true => rfl
        | false => exact absurd (hl rfl) (by simp)
      have hu' : okW k u := fun b hb => hu b (by simp [hb])
      have hc := hu c (by simp)
      have r := ih hu' (fun q => by rw [hlt] at q; cases q)
      refine r.step ?_
      have hok := okW_app hu' wi
      have hjl := W.lt v.n6 v.k3 hok
      obtain ⟨_, wj, _, _⟩ := W.wok hjl
      simp only [stpM, List.mem_flatMap, List.mem_range]
      refine ⟨c.toNat - 97, hc.2, List.mem_append_left _ ?_⟩
      rw [if_pos hlt, ← chr_ltr hc.1]
      have := num_congr (S := S) (u := [c]) (x := []) v (fun b hb => hu b (by simp at hb; simp [hb])) wj hok (wrd_num v W hok)
      simp only [List.append_nil] at this
      rw [this]; simp
  obtain ⟨u, x, hu, hx, h1, h2, e⟩ := b
  have right : ∀ (x y : List UInt8), okW k x → okW k y → (rt = false → x = []) → Rch (stpM rows S k lf rt) i (numM rows S (u ++ wrd S i ++ y)) → Rch (stpM rows S k lf rt) i (numM rows S (u ++ wrd S i ++ y ++ x)) := by
    intro x
    induction x with
    | nil => intro y _ _ _ r; rw [List.append_nil]; exact r
    | cons c x ih =>
      intro y hx hy hl r
      have hrt : rt = true := by cases rt with
        | true => rfl
        | false => exact absurd (hl rfl) (by simp)
      have hc := hx c (by simp)
      have hx' : okW k x := fun b hb => hx b (by simp [hb])
      have hc1 : okW k [c] := fun b hb => hx b (by simp at hb; simp [hb])
      have e1 : u ++ wrd S i ++ y ++ c :: x = u ++ wrd S i ++ (y ++ [c]) ++ x := by simp
      rw [e1]
      refine ih (y ++ [c]) hx' (okW_app hy hc1) (fun q => by rw [hrt] at q; cases q) (r.step ?_)
      have hok := okW_app (okW_app hu wi) hy
      have hjl := W.lt v.n6 v.k3 hok
      obtain ⟨_, wj, _, _⟩ := W.wok hjl
      simp only [stpM, List.mem_flatMap, List.mem_range]
      refine ⟨c.toNat - 97, hc.2, List.mem_append_right _ ?_⟩
      rw [if_pos hrt, ← chr_ltr hc.1]
      have := num_congr (S := S) (u := []) (x := [c]) v (okW_nil k) wj hok (wrd_num v W hok)
      simp only [List.nil_append] at this
      rw [this]; simp
  have := right x [] hx (okW_nil k) h2 (by rw [List.append_nil]; exact left u hu h1)
  rw [List.append_nil, e] at this
  exact this
end
end Go.Proofs.Ythnpflkpjimkfaa
