/-
  WatchBirkhoff RETURNS TRUE. Conditions: none.
-/
import Derived.Test.YtdkmepjedjclkaaK06
import Derived.Test.YtdkmepjedjclkaaK05
import Derived.Test.YtdkmepjedjclkaaKAmH
set_option linter.all false
namespace Go.Proofs.Ytdkmepjedjclkaa
open Go.AM
open Go.Proofs.Try (prog)
set_option linter.all false
set_option maxRecDepth 100000
set_option maxHeartbeats 4000000
inductive CutsRes (D : List Int) (N : List Note) : Int → Int → Prop where
  | bad (h : ¬ ValidS D N) : CutsRes D N 0 1
  | ok (v : ValidS D N) : CutsRes D N (cutsL D N).length 0
theorem cutsV_spec {v : AV} {D : List Int} {N : List Note} (hs : IsTale v D N) (hl : D.length < 100000) (hn : N.length < 100000) :
    ∃ x e, CutsRes D N x e ∧ ∀ m, denC prog ann 35 [v] m = some (.tup [.int .i64 x, .int .i64 e], m) := by
  obtain ⟨r, hr, er⟩ := readV_spec hs hl hn
  obtain ⟨vD, vN, rfl, h1, h2⟩ := hs.ex
  have hcl : closedL [.agg [vD, vN]] = true := by simp [h1.closed, h2.closed]
  cases hr with
  | no h =>
    refine ⟨0, 1, .bad h, fun m => ?_⟩
    rw [watch_Cuts.call_eq _ _ hcl]
    simp [h1.one, h2.one, h1.closed, h2.closed, er]
  | @ok sv K val k s =>
    obtain ⟨av, ea, ia⟩ := allV s
    have hlen : (allL (pad D) K D.length).length = (cutsL D N).length := by rw [← allL_eq k, List.length_map]
    refine ⟨_, 0, .ok val, fun m => ?_⟩
    rw [watch_Cuts.call_eq _ _ hcl]
    simp [h1.one, h2.one, h1.closed, h2.closed, er, ea, ia.len, hlen, s.closed]
section
variable {D : List Int} {N : List Note} {K : List (List (List Int))} {vD vN vl : AV} {l : List Int}
end
end Go.Proofs.Ytdkmepjedjclkaa

/-
  BODIES OF FUNCTIONS OF THE PROGRAM AS SMALL OPERATIONS (written by gen.py; checked by the kernel against the program). Conditions: none.
-/
namespace Go.Proofs.Ytdkmepjedjclkaa
open Go.AM
open Go.Proofs.Try (prog)
set_option maxRecDepth 100000
set_option linter.all false
namespace l09_WatchClocks
noncomputable section
variable (K : List Item) (s : St)
def b : Code := (Try.f12.body).getD .skip
theorem hf : prog.funcs[12]? = some Try.f12 := by kernel_rfl
def r0 := findReg b 0
def r1 := findReg b 1
def r2 := findReg b 2
def r3 := findReg b 3
def r4 := findReg b 4
def r5 := findReg b 5
def i0 := findCond b 0
def i0t := thenOf i0
def i0e := elseOf i0
def r6 := findReg b 6
def r7 := findReg b 7
def r8 := findReg b 8
def i1 := findCond b 1
def i1t := thenOf i1
def i1e := elseOf i1
def r9 := findReg b 9
def r10 := findReg b 10
def k0 := findBlk b 0
def l0 := loopOf k0
def L0 (x4 x10 x11 : AV) (m : Mem) (K : List Item) : Option Res := den prog ann 12 (.code l0 :: .inLoop l0 :: .inBlock 0 :: K) ⟨[(4, x4), (10, x10), (11, x11)], 110, m⟩
def r11 := findReg b 11
def i2 := findCond b 2
def i2t := thenOf i2
def i2e := elseOf i2
def k1 := findBlk b 1
def r13 := findReg b 13
def i3 := findCond b 3
def i3t := thenOf i3
def i3e := elseOf i3
def r14 := findReg b 14
def r12 := findReg b 12
def r15 := findReg b 15
theorem b_eq : den prog ann 12 (.code b :: K) s = den prog ann 12 (.code r0 :: .code r1 :: .code r2 :: .code r3 :: .code r4 :: .code r5 :: .code i0 :: .code r7 :: .code r8 :: .code i1 :: .code r10 :: .code k0 :: .code r15 :: .code .ret :: K) s := den_flat hf (l := [r0, r1, r2, r3, r4, r5, i0, r7, r8, i1, r10, k0, r15, .ret]) (by kernel_rfl) K s
theorem r0_eq : den prog ann 12 (.code r0 :: K) s = mreg prog ann 12 none [] none [] [qA 1 frozenPtr 0,qF 2 fun s => some (.bool false)] K s := (den_reg hf _ K s).trans (by kernel_rfl)
theorem r1_eq : den prog ann 12 (.code r1 :: K) s = mreg prog ann 12 none [] none [3] [qA 12 (loadF true 2) 1,⟨some 13, none, .c 0 (fun s => (.fn 17 [] [])) fun s => [(s.get 12)]⟩,⟨some 3, none, .w false none fun s => newPtr s.m [.nils, .nils]⟩,⟨none, none, .w false none fun s => stA true 2 s.m (s.get 3) (s.get 13)⟩] K s := (den_reg hf _ K s).trans (by kernel_rfl)
theorem r2_eq : den prog ann 12 (.code r2 :: K) s = mreg prog ann 12 none [] none [] [qA 15 (loadF true 2) 3,⟨some 16, none, .c 2 (fun s => (.fn 43 [] [])) fun s => [(s.get 15)]⟩,qC 14 16,qF 17 fun s => extA (s.get 14) 0,qF 18 fun s => extA (s.get 14) 1,qC 4 17,qC 5 18] K s := (den_reg hf _ K s).trans (by kernel_rfl)
theorem r3_eq : den prog ann 12 (.code r3 :: K) s = mreg prog ann 12 none [] none [] [qA 20 (loadF true 2) 3,⟨some 21, none, .c 0 (fun s => (.fn 35 [] [])) fun s => [(s.get 20)]⟩,qC 19 21,qF 22 fun s => extA (s.get 19) 0,qF 23 fun s => extA (s.get 19) 1,qC 6 22,qC 7 23] K s := (den_reg hf _ K s).trans (by kernel_rfl)
theorem r4_eq : den prog ann 12 (.code r4 :: K) s = mreg prog ann 12 none [] none [] [qA 25 (loadF true 2) 3,⟨some 26, none, .c 0 (fun s => (.fn 36 [] [])) fun s => [(s.get 25)]⟩,qC 24 26,qF 27 fun s => extA (s.get 24) 0,qF 28 fun s => extA (s.get 24) 1,qC 8 27,qC 9 28] K s := (den_reg hf _ K s).trans (by kernel_rfl)
theorem r5_eq : den prog ann 12 (.code r5 :: K) s = mreg prog ann 12 none [] none [] [qA 29 (loadF true 2) 3,⟨some 30, none, .c 0 (fun s => (.fn 19 [] [])) fun s => [(s.get 29)]⟩,qA 31 (unA .not) 30] K s := (den_reg hf _ K s).trans (by kernel_rfl)
theorem i0_eq : den prog ann 12 (.code i0 :: K) s = ifV prog ann 12 31 i0t i0e K s (s.get 31) := den_if hf (by kernel_rfl) K s
theorem i0t_eq : den prog ann 12 (.code i0t :: K) s = den prog ann 12 (.code r6 :: .code .ret :: K) s := den_flat hf (l := [r6, .ret]) (by kernel_rfl) K s
theorem r6_eq : den prog ann 12 (.code r6 :: K) s = mreg prog ann 12 none [] none [] [qC 32 4,qA 33 lenSl 32,qF 34 fun s => binA prog .eql 3 (s.get 33) (.int .i64 0),qC 35 34,⟨some 36, some (35, true), .v fun s => some (s.get 5)⟩,⟨some 37, some (35, true), .v fun s => binA prog .eql 27 (s.get 36) (.int .i64 1)⟩,qF 38 fun s => pickA (s.get 35) (s.get 37) (.bool false),qC 39 38,⟨some 40, some (39, true), .v fun s => some (s.get 6)⟩,⟨some 41, some (39, true), .v fun s => binA prog .eql 3 (s.get 40) (.int .i64 0)⟩,qF 42 fun s => pickA (s.get 39) (s.get 41) (.bool false),qC 43 42,⟨some 44, some (43, true), .v fun s => some (s.get 7)⟩,⟨some 45, some (43, true), .v fun s => binA prog .eql 27 (s.get 44) (.int .i64 1)⟩,qF 46 fun s => pickA (s.get 43) (s.get 45) (.bool false),qC 47 46,⟨some 48, some (47, true), .v fun s => some (s.get 8)⟩,⟨some 49, some (47, true), .v fun s => binA prog .eql 3 (s.get 48) (.int .i64 0)⟩,qF 50 fun s => pickA (s.get 47) (s.get 49) (.bool false),qC 51 50,⟨some 52, some (51, true), .v fun s => some (s.get 9)⟩,⟨some 53, some (51, true), .v fun s => binA prog .eql 27 (s.get 52) (.int .i64 1)⟩,qF 54 fun s => pickA (s.get 51) (s.get 53) (.bool false),qC 55 54,⟨some 56, some (55, true), .c 0 (fun s => (.fn 22 [] [])) fun s => []⟩,qF 57 fun s => pickA (s.get 55) (s.get 56) (.bool false),qC 2 57] K s := (den_reg hf _ K s).trans (by kernel_rfl)
theorem i0e_eq : den prog ann 12 (.code i0e :: K) s = den prog ann 12 (K) s := den_flat hf (l := []) (by kernel_rfl) K s
theorem r7_eq : den prog ann 12 (.code r7 :: K) s = mreg prog ann 12 none [] none [] [qA 58 (loadF true 2) 3,⟨some 59, none, .c 2 (fun s => (.fn 34 [] [])) fun s => [(s.get 58)]⟩,qC 10 59] K s := (den_reg hf _ K s).trans (by kernel_rfl)
theorem r8_eq : den prog ann 12 (.code r8 :: K) s = mreg prog ann 12 none [] none [] [qC 60 4,qA 61 lenSl 60,qC 62 10,qA 63 lenSl 62,qB 64 (binA prog .neq 3) 61 63,qC 65 64,⟨some 66, some (65, false), .v fun s => some (s.get 5)⟩,⟨some 67, some (65, false), .v fun s => binA prog .neq 27 (s.get 66) (.int .i64 0)⟩,qF 68 fun s => pickA (s.get 65) (.bool true) (s.get 67),qC 69 68,⟨some 70, some (69, false), .v fun s => some (s.get 6)⟩,⟨some 71, some (69, false), .v fun s => loadF true 2 (s.get 3)⟩,⟨some 72, some (69, false), .c 2 (fun s => (.fn 20 [] [])) fun s => [(s.get 71)]⟩,⟨some 73, some (69, false), .v fun s => lenSl (s.get 72)⟩,⟨some 74, some (69, false), .v fun s => binA prog .neq 3 (s.get 70) (s.get 73)⟩,qF 75 fun s => pickA (s.get 69) (.bool true) (s.get 74),qC 76 75,⟨some 77, some (76, false), .v fun s => some (s.get 7)⟩,⟨some 78, some (76, false), .v fun s => binA prog .neq 27 (s.get 77) (.int .i64 0)⟩,qF 79 fun s => pickA (s.get 76) (.bool true) (s.get 78),qC 80 79,⟨some 81, some (80, false), .v fun s => some (s.get 8)⟩,⟨some 82, some (80, false), .v fun s => loadF true 2 (s.get 3)⟩,⟨some 83, some (80, false), .c 0 (fun s => (.fn 49 [] [])) fun s => [(s.get 82)]⟩,⟨some 84, some (80, false), .v fun s => binA prog .neq 3 (s.get 81) (s.get 83)⟩,qF 85 fun s => pickA (s.get 80) (.bool true) (s.get 84),qC 86 85,⟨some 87, some (86, false), .v fun s => some (s.get 9)⟩,⟨some 88, some (86, false), .v fun s => binA prog .neq 27 (s.get 87) (.int .i64 0)⟩,qF 89 fun s => pickA (s.get 86) (.bool true) (s.get 88),qC 90 89,⟨some 91, some (90, false), .c 0 (fun s => (.fn 22 [] [])) fun s => []⟩,⟨some 92, some (90, false), .v fun s => unA .not (s.get 91)⟩,qF 93 fun s => pickA (s.get 90) (.bool true) (s.get 92)] K s := (den_reg hf _ K s).trans (by kernel_rfl)
theorem i1_eq : den prog ann 12 (.code i1 :: K) s = ifV prog ann 12 93 i1t i1e K s (s.get 93) := den_if hf (by kernel_rfl) K s
theorem i1t_eq : den prog ann 12 (.code i1t :: K) s = den prog ann 12 (.code r9 :: .code .ret :: K) s := den_flat hf (l := [r9, .ret]) (by kernel_rfl) K s
theorem r9_eq : den prog ann 12 (.code r9 :: K) s = mreg prog ann 12 none [] none [] [qF 2 fun s => some (.bool false)] K s := (den_reg hf _ K s).trans (by kernel_rfl)
theorem i1e_eq : den prog ann 12 (.code i1e :: K) s = den prog ann 12 (K) s := den_flat hf (l := []) (by kernel_rfl) K s
theorem r10_eq : den prog ann 12 (.code r10 :: K) s = mreg prog ann 12 none [] none [] [qF 11 fun s => some (.int .i64 0)] K s := (den_reg hf _ K s).trans (by kernel_rfl)
theorem k0_eq (K : List Item) (t : List (Nat × AV)) (m : Mem) : den prog ann 12 (.code k0 :: K) ⟨t, 110, m⟩ = L0 (get t 4) (get t 10) (get t 11) m K := den_loop_enter hf (b := l0) (id := 11) (l := [4, 10, 11]) (by kernel_rfl) (by kernel_rfl) (by kernel_rfl) K _
theorem l0_eq (K : List Item) (t : List (Nat × AV)) (m : Mem) : den prog ann 12 (.inLoop l0 :: .inBlock 0 :: K) ⟨t, 110, m⟩ = L0 (get t 4) (get t 10) (get t 11) m K := den_loop_again hf (id := 11) (l := [4, 10, 11]) (by kernel_rfl) (by kernel_rfl) (.inBlock 0 :: K) _
theorem L0_eq (x4 x10 x11 : AV) (m : Mem) (K : List Item) : L0 x4 x10 x11 m K = den prog ann 12 (.code r11 :: .code i2 :: .code k1 :: .code r12 :: .inLoop l0 :: .inBlock 0 :: K) ⟨[(4, x4), (10, x10), (11, x11)], 110, m⟩ := den_flat hf (l := [r11, i2, k1, r12]) (by kernel_rfl) _ _
theorem r11_eq : den prog ann 12 (.code r11 :: K) s = mreg prog ann 12 (some [4, 10, 11]) [] none [] [qC 94 11,qC 95 4,qA 96 lenSl 95,qB 97 (binA prog .lss 3) 94 96] K s := (den_reg hf _ K s).trans (by kernel_rfl)
theorem i2_eq : den prog ann 12 (.code i2 :: K) s = ifV prog ann 12 97 i2t i2e K s (s.get 97) := den_if hf (by kernel_rfl) K s
theorem i2t_eq : den prog ann 12 (.code i2t :: K) s = den prog ann 12 (K) s := den_flat hf (l := []) (by kernel_rfl) K s
theorem i2e_eq : den prog ann 12 (.code i2e :: K) s = den prog ann 12 (.code (.exit 0) :: K) s := den_flat hf (l := [(.exit 0)]) (by kernel_rfl) K s
theorem k1_eq : den prog ann 12 (.code k1 :: K) s = den prog ann 12 (.code r13 :: .code i3 :: .inBlock 1 :: K) s := den_blk hf (b := blkOf k1) (l := [r13, i3]) (by kernel_rfl) (by kernel_rfl) K s
theorem r13_draw : drawOk (fun g => (ann g).pure) (modeOf (ann 12) (idOf r13)) (frzOf (ann 12) (idOf r13)) (opsOf r13) = true := drawOk_of (an := [0, 0, 3, 7, 0, 0, 48, 112, 255, 511]) (by kernel_rfl) (by kernel_rfl)
theorem r13_eq : den prog ann 12 (.code r13 :: K) s = mreg prog ann 12 none [] (some 10) [] [qC 100 4,qC 101 11,qB 102 (idxSl 1) 100 101,qA 103 (loadF false 1) 102,qC 104 10,qC 105 11,qB 106 (idxSl 1) 104 105,qA 107 (loadF false 1) 106,⟨some 108, none, .c 0 (fun s => (.fn 42 [] [])) fun s => [(s.get 103), (s.get 107)]⟩,qA 109 (unA .not) 108] K s := (den_regD hf r13_draw K s).trans (by kernel_rfl)
theorem i3_eq : den prog ann 12 (.code i3 :: K) s = ifV prog ann 12 109 i3t i3e K s (s.get 109) := den_if hf (by kernel_rfl) K s
theorem i3t_eq : den prog ann 12 (.code i3t :: K) s = den prog ann 12 (.code r14 :: .code .ret :: K) s := den_flat hf (l := [r14, .ret]) (by kernel_rfl) K s
theorem r14_eq : den prog ann 12 (.code r14 :: K) s = mreg prog ann 12 none [] none [] [qF 2 fun s => some (.bool false)] K s := (den_reg hf _ K s).trans (by kernel_rfl)
theorem i3e_eq : den prog ann 12 (.code i3e :: K) s = den prog ann 12 (K) s := den_flat hf (l := []) (by kernel_rfl) K s
theorem r12_eq : den prog ann 12 (.code r12 :: K) s = mreg prog ann 12 (some [4, 10, 11]) [] none [] [qC 98 11,qF 99 fun s => binA prog .add 3 (s.get 98) (.int .i64 1),qC 11 99] K s := (den_reg hf _ K s).trans (by kernel_rfl)
theorem r15_eq : den prog ann 12 (.code r15 :: K) s = mreg prog ann 12 (some []) [] none [] [qF 2 fun s => some (.bool true)] K s := (den_reg hf _ K s).trans (by kernel_rfl)
theorem ret_eq : den prog ann 12 (.code .ret :: K) s = finM true [fun s => some (s.get 2)] s := (den_ret hf K s).trans (by kernel_rfl)
theorem nil_eq (s : St) : den prog ann 12 [] s = finM true [fun s => some (s.get 2)] s := (den_nil hf s).trans (by kernel_rfl)
theorem inBlock_eq (id : Nat) (K : List Item) (s : St) : den prog ann 12 (.inBlock id :: K) s = den prog ann 12 K s := den_inBlock hf id K s
theorem exit_eq (id : Nat) (K : List Item) (s : St) : den prog ann 12 (.code (.exit id) :: K) s = exitV prog ann 12 (exitTo id K) s := den_exitV hf id K s
theorem call_eq (v0 : AV) (m : Mem) (h : closedL [v0] = true) : denC prog ann 12 [v0] m = (den prog ann 12 [.code b] ⟨[(0, v0)], 110, Mem.empty⟩).bind fun r => some (r.1, m) := (denC_pure hf (b := b) (by kernel_rfl) (by kernel_rfl) (by kernel_rfl) h m).trans (by kernel_rfl)
theorem pure_eq : (ann 12).pure = true := by kernel_rfl
attribute [simp] b_eq r0_eq r1_eq r2_eq r3_eq r4_eq r5_eq i0_eq i0t_eq r6_eq i0e_eq r7_eq r8_eq i1_eq i1t_eq r9_eq i1e_eq r10_eq k0_eq l0_eq r11_eq i2_eq i2t_eq i2e_eq k1_eq r13_eq i3_eq i3t_eq r14_eq i3e_eq r12_eq r15_eq ret_eq nil_eq inBlock_eq exit_eq pure_eq
end
end l09_WatchClocks
end Go.Proofs.Ytdkmepjedjclkaa

/-
  WatchClocks RETURNS TRUE. Conditions: none.
-/
namespace Go.Proofs.Ytdkmepjedjclkaa
open Go.AM
open Go.Proofs.Try (prog)
set_option linter.all false
set_option maxRecDepth 100000
set_option maxHeartbeats 4000000
section
variable {D : List Int} {N : List Note} {K C : List (List (List Int))}
theorem rows_same (c : Clocks D N K) (I : RInv D N C) (hq : ∀ (h i : Nat), (i : Int) < nth D h → ∀ q, kn C h i q = kn K h i q) {h : Nat} (hh : h < D.length) : rowsN K D.length h = kth C h := by
  have l1 := c.I.rows h hh
  have l2 := I.rows h hh
  refine List.ext_getElem (by rw [rowsN_len]; omega) fun i h1 h2 => ?_
  have hi : i < (kth K h).length := by rw [rowsN_len] at h1; exact h1
  have e1 : (rowsN K D.length h)[i] = cth (rowsN K D.length h) i := by
    have := cth_eq h1
    rw [List.getElem?_eq_getElem h1] at this
    exact Option.some.inj this
  have e2 : (kth C h)[i] = cth (kth C h) i := by
    have := cth_eq h2
    rw [List.getElem?_eq_getElem h2] at this
    exact Option.some.inj this
  have hd : (i : Int) < nth D h := by omega
  have w := I.wid h _ (cth_mem h2)
  have w4 := c.clk4 hh hd
  have h4 := c.P.L.n4
  rw [e1, e2, cth_rowsN hi]
  refine ext_nth (by rw [w]; simp [w4]; omega) fun q => ?_
  rcases Nat.lt_or_ge q D.length with hql | hql
  · rw [nth_take hql]; exact (hq h i hd q).symm
  · rw [take_out hql, nth_out (by omega)]
theorem clk_loop (val : ValidS D N) (c : Clocks D N K) (I : RInv D N C) (hq : ∀ (h i : Nat), (i : Int) < nth D h → ∀ q, kn C h i q = kn K h i q) : ∀ (k h : Nat) (m : Mem), h + k = D.length →
    l09_WatchClocks.L0 (wclkV K D.length) (clkV C) (.int .i64 h) m [.code l09_WatchClocks.r15, .code .ret] = some (.bool true, Mem.empty) := by
  have h4 := val.n4
  have hC := I.len
  have hlw : lenSl (wclkV K D.length) = some (.int .i64 D.length) := rfl
  intro k
  induction k with
  | zero =>
    intro h m h1
    have e : h = D.length := by omega
    rw [l09_WatchClocks.L0_eq]
    simp [hlw, e]
    done
  | succ k ih =>
    intro h m h1
    have hh : h < D.length := by omega
    have hw : IntKind.wrap .i64 ((h : Int) + 1) = (h : Int) + 1 := wrap_id (by omega) (by omega)
    have i1 := wclk_idx K hh .i64
    have i2 := wclk_load K hh
    have i3 := clkV_idx (C := C) (i := h) (by omega) .i64
    have i4 := load_clk (C := C) (i := h) (by omega)
    have rs := rows_same c I hq hh
    have hs := slotV_is K D.length h
    have d6 := val.hi h
    have l2 := I.rows h hh
    have same : ∀ m, denC prog ann 42 [slotV K D.length h, .fsl false (kth C h).length (flatC rowC (kth C h))] m = some (.bool true, m) := by
      intro m
      have sh : Short (kth C h) := fun i hi => by
        have := I.wid h _ (gth_mem hi)
        rw [this]; omega
      rw [slotV, rs]
      by_cases q : kth C h = []
      · rw [if_pos q, q]
        have := sameL_spec (vec_nil (R := IsInts)) (vec_rows false []) (fun i hi => by simp at hi) (fun i hi => by simp at hi) (by simp) m
        simpa using this
      · rw [if_neg q]
        have := sameL_spec (vec_rows false (kth C h)) (vec_rows false (kth C h)) sh sh (by omega) m
        simpa using this
    have hst := fun m => ih (h + 1) m (by omega)
    simp only [Int.natCast_add, Int.cast_ofNat_Int] at hst
    rw [l09_WatchClocks.L0_eq]
    simp [hlw, hh, i1, i2, i3, i4, hs.closed, same, hw, hst]
    done
end
theorem clks_runs {d : Nat} (a0 : AV) (h0 : DatV prog (d + 4) 25 a0) : ∃ m', denC prog ann 12 [a0] Mem.empty = some (.bool true, m') := by
  obtain ⟨D, N, hs, kD, kN⟩ := dat25 h0
  obtain ⟨v, ht, hc⟩ := cut_spec hs kD kN
  generalize hD' : D.take 5 = D' at ht
  generalize hN' : N.take 25 = N' at ht
  have l1 : D'.length ≤ 5 := by rw [← hD']; simp; omega
  have l2 : N'.length ≤ 25 := by rw [← hN']; simp; omega
  obtain ⟨bb, hb, eb⟩ := valid_spec ht (by omega) (by omega)
  obtain ⟨x, ex, hx, ec⟩ := clocksV_spec ht (by omega) (by omega)
  obtain ⟨y, ey, hy, en⟩ := cutsV_spec ht (by omega) (by omega)
  obtain ⟨z, ez, hz, ew⟩ := cou_spec ht (by omega) (by omega)
  have ht' := ht
  obtain ⟨wD, wN, rfl, g1, g2⟩ := ht.ex
  obtain ⟨vD, vN, rfl, f1, f2⟩ := hs.ex
  refine ⟨Mem.empty, ?_⟩
  rw [l09_WatchClocks.call_eq _ _ (by simp [f1.closed, f2.closed])]
  cases bb with
  | false =>
    have hv : ¬ ValidS D' N' := fun v => by have := hb.2 v; cases this
    obtain ⟨rfl, rfl⟩ := hz.no hv
    cases hx with
    | ok v _ => exact absurd v hv
    | bad _ =>
      cases hy with
      | ok v => exact absurd v hv
      | bad _ =>
        simp [f1.one, f2.one, f1.closed, f2.closed, g1.one, g2.one, g1.closed, g2.closed, hc, ec, en, ew, eb, lives_spec]
        done
  | true =>
    have hv : ValidS D' N' := hb.1 rfl
    obtain ⟨rfl, rfl⟩ := hz.ok hv
    cases hx with
    | bad h => exact absurd hv h
    | @ok K _ k =>
      cases hy with
      | bad h => exact absurd hv h
      | ok _ =>
        obtain ⟨C, I, ek, er⟩ := clocksR_spec ht' hv k
        have hC := I.len
        have e20 := fun m => cutsR_spec ht' k.P.L m
        have e49 := fun m => rcou_spec ht' hv m
        have fin := fun m => clk_loop hv k I ek D'.length 0 m (by omega)
        simp only [Int.cast_ofNat_Int] at fin
        have hlw : lenSl (wclkV K D'.length) = some (.int .i64 D'.length) := rfl
        have hlc : lenSl (clkV C) = some (.int .i64 C.length) := rfl
        have hfw : ∀ m, frzV (wclkV K D'.length) m = some (wclkV K D'.length, m) := fun _ => rfl
        have hfc : ∀ m, frzV (clkV C) m = some (clkV C, m) := fun _ => rfl
        simp [f1.one, f2.one, f1.closed, f2.closed, g1.one, g2.one, g1.closed, g2.closed, hc, ec, en, ew, eb, lives_spec, er, e20, e49, hlw, hlc, hC, fin]
        done
end Go.Proofs.Ytdkmepjedjclkaa
