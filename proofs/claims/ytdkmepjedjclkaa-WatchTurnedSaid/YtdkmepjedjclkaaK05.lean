/-
  BODIES OF FUNCTIONS OF THE PROGRAM AS SMALL OPERATIONS (written by gen.py; checked by the kernel against the program). Conditions: none.
-/
import Derived.Test.YtdkmepjedjclkaaKAmH
import Derived.Test.YtdkmepjedjclkaaK04
set_option linter.all false
namespace Go.Proofs.Ytdkmepjedjclkaa
open Go.AM
open Go.Proofs.Try (prog)
set_option maxRecDepth 100000
set_option linter.all false
namespace watch_Cuts
noncomputable section
variable (K : List Item) (s : St)
def b : Code := (Try.f35.body).getD .skip
theorem hf : prog.funcs[35]? = some Try.f35 := by kernel_rfl
def r0 := findReg b 0
def r1 := findReg b 1
def r2 := findReg b 2
def i0 := findCond b 0
def i0t := thenOf i0
def i0e := elseOf i0
def r3 := findReg b 3
def r4 := findReg b 4
theorem b_eq : den prog ann 35 (.code b :: K) s = den prog ann 35 (.code r0 :: .code r1 :: .code r2 :: .code i0 :: .code r4 :: .code .ret :: K) s := den_flat hf (l := [r0, r1, r2, i0, r4, .ret]) (by kernel_rfl) K s
theorem r0_eq : den prog ann 35 (.code r0 :: K) s = mreg prog ann 35 none [] none [] [qA 1 frozenPtr 0,qF 2 fun s => some (.int .i64 0),qF 3 fun s => some (.int .i64 0)] K s := (den_reg hf _ K s).trans (by kernel_rfl)
theorem r1_eq : den prog ann 35 (.code r1 :: K) s = mreg prog ann 35 none [] none [] [qA 7 (loadF true 2) 1,⟨some 8, none, .c 0 (fun s => (.fn 61 [] [])) fun s => [(s.get 7)]⟩,qC 6 8,qF 9 fun s => extA (s.get 6) 0,qF 10 fun s => extA (s.get 6) 1,qC 4 9,qC 5 10] K s := (den_reg hf _ K s).trans (by kernel_rfl)
theorem r2_eq : den prog ann 35 (.code r2 :: K) s = mreg prog ann 35 none [] none [] [qC 11 5,qA 12 (unA .not) 11] K s := (den_reg hf _ K s).trans (by kernel_rfl)
theorem i0_eq : den prog ann 35 (.code i0 :: K) s = ifV prog ann 35 12 i0t i0e K s (s.get 12) := den_if hf (by kernel_rfl) K s
theorem i0t_eq : den prog ann 35 (.code i0t :: K) s = den prog ann 35 (.code r3 :: .code .ret :: K) s := den_flat hf (l := [r3, .ret]) (by kernel_rfl) K s
theorem r3_eq : den prog ann 35 (.code r3 :: K) s = mreg prog ann 35 none [] none [] [qF 2 fun s => some (.int .i64 0),qF 3 fun s => some (.int .i64 1)] K s := (den_reg hf _ K s).trans (by kernel_rfl)
theorem i0e_eq : den prog ann 35 (.code i0e :: K) s = den prog ann 35 (K) s := den_flat hf (l := []) (by kernel_rfl) K s
theorem r4_eq : den prog ann 35 (.code r4 :: K) s = mreg prog ann 35 none [] none [] [qC 13 4,⟨some 14, none, .c 0 (fun s => (.fn 62 [] [])) fun s => [(s.get 13)]⟩,qA 15 lenSl 14,qC 2 15,qF 3 fun s => some (.int .i64 0)] K s := (den_reg hf _ K s).trans (by kernel_rfl)
theorem ret_eq : den prog ann 35 (.code .ret :: K) s = finM true [fun s => some (s.get 2), fun s => some (s.get 3)] s := (den_ret hf K s).trans (by kernel_rfl)
theorem nil_eq (s : St) : den prog ann 35 [] s = finM true [fun s => some (s.get 2), fun s => some (s.get 3)] s := (den_nil hf s).trans (by kernel_rfl)
theorem inBlock_eq (id : Nat) (K : List Item) (s : St) : den prog ann 35 (.inBlock id :: K) s = den prog ann 35 K s := den_inBlock hf id K s
theorem exit_eq (id : Nat) (K : List Item) (s : St) : den prog ann 35 (.code (.exit id) :: K) s = exitV prog ann 35 (exitTo id K) s := den_exitV hf id K s
theorem call_eq (v0 : AV) (m : Mem) (h : closedL [v0] = true) : denC prog ann 35 [v0] m = (den prog ann 35 [.code b] ⟨[(0, v0)], 16, Mem.empty⟩).bind fun r => some (r.1, m) := (denC_pure hf (b := b) (by kernel_rfl) (by kernel_rfl) (by kernel_rfl) h m).trans (by kernel_rfl)
theorem pure_eq : (ann 35).pure = true := by kernel_rfl
attribute [simp] b_eq r0_eq r1_eq r2_eq i0_eq i0t_eq r3_eq i0e_eq r4_eq ret_eq nil_eq inBlock_eq exit_eq pure_eq
end
end watch_Cuts
end Go.Proofs.Ytdkmepjedjclkaa

/-
  WatchBirkhoff RETURNS TRUE. Conditions: none.
-/
namespace Go.Proofs.Ytdkmepjedjclkaa
open Go.AM
open Go.Proofs.Try (prog)
set_option linter.all false
set_option maxRecDepth 100000
set_option maxHeartbeats 4000000
inductive CutsRes (D : List Int) (N : List Note) : Int → Int → Prop where
  | bad (h : ¬ ValidS D N) : CutsRes D N 0 1
  | ok (v : ValidS D N) : CutsRes D N (cutsL D N).length 0
theorem cutsV_spec {v : AV} {D : List Int} {N : List Note} (hs : IsTale v D N) (hl : D.length < 100000) (hn : N.length < 100000) :
    ∃ x e, CutsRes D N x e ∧ ∀ m, denC prog ann 35 [v] m = some (.tup [.int .i64 x, .int .i64 e], m) := by
  obtain ⟨r, hr, er⟩ := readV_spec hs hl hn
  obtain ⟨vD, vN, rfl, h1, h2⟩ := hs.ex
  have hcl : closedL [.agg [vD, vN]] = true := by simp [h1.closed, h2.closed]
  cases hr with
  | no h =>
    refine ⟨0, 1, .bad h, fun m => ?_⟩
    rw [watch_Cuts.call_eq _ _ hcl]
    simp [h1.one, h2.one, h1.closed, h2.closed, er]
  | @ok sv K val k s =>
    obtain ⟨av, ea, ia⟩ := allV s
    have hlen : (allL (pad D) K D.length).length = (cutsL D N).length := by rw [← allL_eq k, List.length_map]
    refine ⟨_, 0, .ok val, fun m => ?_⟩
    rw [watch_Cuts.call_eq _ _ hcl]
    simp [h1.one, h2.one, h1.closed, h2.closed, er, ea, ia.len, hlen, s.closed]
section
variable {D : List Int} {N : List Note} {K : List (List (List Int))} {vD vN vl : AV} {l : List Int}
end
end Go.Proofs.Ytdkmepjedjclkaa

/-
  BODIES OF FUNCTIONS OF THE PROGRAM AS SMALL OPERATIONS (written by gen.py; checked by the kernel against the program). Conditions: none.
-/
namespace Go.Proofs.Ytdkmepjedjclkaa
open Go.AM
open Go.Proofs.Try (prog)
set_option maxRecDepth 100000
set_option linter.all false
namespace l09_WatchTurned
noncomputable section
variable (K : List Item) (s : St)
def b : Code := (Try.f7.body).getD .skip
theorem hf : prog.funcs[7]? = some Try.f7 := by kernel_rfl
def r0 := findReg b 0
def r1 := findReg b 1
def r2 := findReg b 2
def r3 := findReg b 3
def k0 := findBlk b 0
def l0 := loopOf k0
def L0 (x3 x4 x5 : AV) (m : Mem) (K : List Item) : Option Res := den prog ann 7 (.code l0 :: .inLoop l0 :: .inBlock 0 :: K) ⟨[(3, x3), (4, x4), (5, x5)], 154, m⟩
def r4 := findReg b 4
def i0 := findCond b 0
def i0t := thenOf i0
def i0e := elseOf i0
def k1 := findBlk b 1
def r6 := findReg b 6
def r7 := findReg b 7
def r5 := findReg b 5
def r8 := findReg b 8
def r9 := findReg b 9
def r10 := findReg b 10
def r11 := findReg b 11
def r12 := findReg b 12
def r13 := findReg b 13
def r14 := findReg b 14
def k2 := findBlk b 2
def l2 := loopOf k2
def L2 (x3 x7 x8 x9 x10 x11 x12 x13 x14 x15 x16 x17 x18 : AV) (m : Mem) (K : List Item) : Option Res := den prog ann 7 (.code l2 :: .inLoop l2 :: .inBlock 2 :: K) ⟨[(3, x3), (7, x7), (8, x8), (9, x9), (10, x10), (11, x11), (12, x12), (13, x13), (14, x14), (15, x15), (16, x16), (17, x17), (18, x18)], 154, m⟩
def r15 := findReg b 15
def i1 := findCond b 1
def i1t := thenOf i1
def i1e := elseOf i1
def k3 := findBlk b 3
def r17 := findReg b 17
def r16 := findReg b 16
def r18 := findReg b 18
theorem b_eq : den prog ann 7 (.code b :: K) s = den prog ann 7 (.code r0 :: .code r1 :: .code r2 :: .code r3 :: .code k0 :: .code r8 :: .code r9 :: .code r10 :: .code r11 :: .code r12 :: .code r13 :: .code r14 :: .code k2 :: .code r18 :: .code .ret :: K) s := den_flat hf (l := [r0, r1, r2, r3, k0, r8, r9, r10, r11, r12, r13, r14, k2, r18, .ret]) (by kernel_rfl) K s
theorem r0_eq : den prog ann 7 (.code r0 :: K) s = mreg prog ann 7 none [] none [] [qA 1 frozenPtr 0,qF 2 fun s => some (.bool false)] K s := (den_reg hf _ K s).trans (by kernel_rfl)
theorem r1_eq : den prog ann 7 (.code r1 :: K) s = mreg prog ann 7 none [] none [3] [qA 19 (loadF true 6) 1,⟨some 20, none, .c 0 (fun s => (.fn 23 [] [])) fun s => [(s.get 19)]⟩,⟨some 3, none, .w false none fun s => newPtr s.m [.nils, .nils]⟩,⟨none, none, .w false none fun s => stA true 2 s.m (s.get 3) (s.get 20)⟩] K s := (den_reg hf _ K s).trans (by kernel_rfl)
theorem r2_eq : den prog ann 7 (.code r2 :: K) s = mreg prog ann 7 none [] none [] [qA 21 (fieldA 0) 3,qA 22 (loadF false 1) 21,qF 23 fun s => bldA (plc [(0, 1), (1, 1)]) [.nils, .nils] [(0, (s.get 22))],⟨some 4, none, .w false none fun s => newPtr s.m [.nils, .nils]⟩,⟨none, none, .w false none fun s => stA true 2 s.m (s.get 4) (s.get 23)⟩] K s := (den_reg hf _ K s).trans (by kernel_rfl)
theorem r3_eq : den prog ann 7 (.code r3 :: K) s = mreg prog ann 7 none [] none [] [qA 24 (fieldA 1) 3,qA 25 (loadF false 1) 24,qA 26 lenSl 25,qF 27 fun s => binA prog .sub 3 (s.get 26) (.int .i64 1),qC 5 27] K s := (den_reg hf _ K s).trans (by kernel_rfl)
theorem k0_eq (K : List Item) (t : List (Nat × AV)) (m : Mem) : den prog ann 7 (.code k0 :: K) ⟨t, 154, m⟩ = L0 (get t 3) (get t 4) (get t 5) m K := den_loop_enter hf (b := l0) (id := 4) (l := [3, 4, 5]) (by kernel_rfl) (by kernel_rfl) (by kernel_rfl) K _
theorem l0_eq (K : List Item) (t : List (Nat × AV)) (m : Mem) : den prog ann 7 (.inLoop l0 :: .inBlock 0 :: K) ⟨t, 154, m⟩ = L0 (get t 3) (get t 4) (get t 5) m K := den_loop_again hf (id := 4) (l := [3, 4, 5]) (by kernel_rfl) (by kernel_rfl) (.inBlock 0 :: K) _
theorem L0_eq (x3 x4 x5 : AV) (m : Mem) (K : List Item) : L0 x3 x4 x5 m K = den prog ann 7 (.code r4 :: .code i0 :: .code k1 :: .code r5 :: .inLoop l0 :: .inBlock 0 :: K) ⟨[(3, x3), (4, x4), (5, x5)], 154, m⟩ := den_flat hf (l := [r4, i0, k1, r5]) (by kernel_rfl) _ _
theorem r4_eq : den prog ann 7 (.code r4 :: K) s = mreg prog ann 7 (some [3, 4, 5]) [] none [] [qC 28 5,qF 29 fun s => binA prog .geq 3 (s.get 28) (.int .i64 0)] K s := (den_reg hf _ K s).trans (by kernel_rfl)
theorem i0_eq : den prog ann 7 (.code i0 :: K) s = ifV prog ann 7 29 i0t i0e K s (s.get 29) := den_if hf (by kernel_rfl) K s
theorem i0t_eq : den prog ann 7 (.code i0t :: K) s = den prog ann 7 (K) s := den_flat hf (l := []) (by kernel_rfl) K s
theorem i0e_eq : den prog ann 7 (.code i0e :: K) s = den prog ann 7 (.code (.exit 0) :: K) s := den_flat hf (l := [(.exit 0)]) (by kernel_rfl) K s
theorem k1_eq : den prog ann 7 (.code k1 :: K) s = den prog ann 7 (.code r6 :: .code r7 :: .inBlock 1 :: K) s := den_blk hf (b := blkOf k1) (l := [r6, r7]) (by kernel_rfl) (by kernel_rfl) K s
theorem r6_eq : den prog ann 7 (.code r6 :: K) s = mreg prog ann 7 none [] none [6] [qA 32 (fieldA 1) 3,qA 33 (loadF false 1) 32,qC 34 5,qB 35 (idxSl 4) 33 34,qF 36 fun s => loadA true 4 s.m (s.get 35),⟨some 6, none, .w false none fun s => newPtr s.m [.int .i64 0, .int .i64 0, .int .i64 0, .int .i64 0]⟩,⟨none, none, .w false none fun s => stA true 4 s.m (s.get 6) (s.get 36)⟩] K s := (den_reg hf _ K s).trans (by kernel_rfl)
theorem r7_draw : drawOk (fun g => (ann g).pure) (modeOf (ann 7) (idOf r7)) (frzOf (ann 7) (idOf r7)) (opsOf r7) = true := drawOk_of (an := [0, 1, 0, 4, 0, 16, 0, 64, 240, 496, 1008, 0, 2048, 8176, 0, 16384, 0, 65536, 0, 262144, 983040, 2031616, 4128768, 0, 8388608, 33488896, 67108860, 134217724, 268435455, 536870911, 1073741823]) (by kernel_rfl) (by kernel_rfl)
theorem r7_eq : den prog ann 7 (.code r7 :: K) s = mreg prog ann 7 none [] (some 31) [] [qA 37 (fieldA 1) 4,qF 38 fun s => loadA false 1 s.m (s.get 37),qA 39 (fieldA 2) 6,qA 40 (loadF false 1) 39,qA 41 (fieldA 0) 3,qA 42 (loadF false 1) 41,qA 43 (fieldA 2) 6,qA 44 (loadF false 1) 43,qB 45 (idxSl 1) 42 44,qF 46 fun s => loadA false 1 s.m (s.get 45),qF 47 fun s => binA prog .add 3 (s.get 46) (.int .i64 1),qA 48 (fieldA 3) 6,qA 49 (loadF false 1) 48,qB 50 (binA prog .sub 3) 47 49,qA 51 (fieldA 0) 6,qA 52 (loadF false 1) 51,qA 53 (fieldA 0) 3,qA 54 (loadF false 1) 53,qA 55 (fieldA 0) 6,qA 56 (loadF false 1) 55,qB 57 (idxSl 1) 54 56,qF 58 fun s => loadA false 1 s.m (s.get 57),qF 59 fun s => binA prog .add 3 (s.get 58) (.int .i64 1),qA 60 (fieldA 1) 6,qA 61 (loadF false 1) 60,qB 62 (binA prog .sub 3) 59 61,qF 63 fun s => bldA (plc [(0, 1), (1, 1), (2, 1), (3, 1)]) [.int .i64 0, .int .i64 0, .int .i64 0, .int .i64 0] [(0, (s.get 40)), (1, (s.get 50)), (2, (s.get 52)), (3, (s.get 62))],qF 64 fun s => bslF 1 (bslA 4 1 [.int .i64 0, .int .i64 0, .int .i64 0, .int .i64 0] [(0, (s.get 63))]),⟨some 65, none, .w false (some 28) fun s => appendA 4 32 s.m (s.get 38) (s.get 64)⟩,qA 66 (fieldA 1) 4,⟨none, none, .w false (some 30) fun s => stA false 1 s.m (s.get 66) (s.get 65)⟩] K s := (den_regD hf r7_draw K s).trans (by kernel_rfl)
theorem r5_eq : den prog ann 7 (.code r5 :: K) s = mreg prog ann 7 (some [3, 4, 5]) [] none [] [qC 30 5,qF 31 fun s => binA prog .sub 3 (s.get 30) (.int .i64 1),qC 5 31] K s := (den_reg hf _ K s).trans (by kernel_rfl)
theorem r8_eq : den prog ann 7 (.code r8 :: K) s = mreg prog ann 7 (some [3, 4]) [] none [] [qA 68 (loadF true 2) 3,⟨some 69, none, .c 0 (fun s => (.fn 35 [] [])) fun s => [(s.get 68)]⟩,qC 67 69,qF 70 fun s => extA (s.get 67) 0,qF 71 fun s => extA (s.get 67) 1,qC 7 70,qC 8 71] K s := (den_reg hf _ K s).trans (by kernel_rfl)
theorem r9_eq : den prog ann 7 (.code r9 :: K) s = mreg prog ann 7 none [] none [] [qF 73 fun s => loadA true 2 s.m (s.get 4),⟨some 74, none, .c 0 (fun s => (.fn 35 [] [])) fun s => [(s.get 73)]⟩,qC 72 74,qF 75 fun s => extA (s.get 72) 0,qF 76 fun s => extA (s.get 72) 1,qC 9 75,qC 10 76] K s := (den_reg hf _ K s).trans (by kernel_rfl)
theorem r10_eq : den prog ann 7 (.code r10 :: K) s = mreg prog ann 7 none [] none [] [qA 78 (loadF true 2) 3,⟨some 79, none, .c 0 (fun s => (.fn 36 [] [])) fun s => [(s.get 78)]⟩,qC 77 79,qF 80 fun s => extA (s.get 77) 0,qF 81 fun s => extA (s.get 77) 1,qC 11 80,qC 12 81] K s := (den_reg hf _ K s).trans (by kernel_rfl)
theorem r11_eq : den prog ann 7 (.code r11 :: K) s = mreg prog ann 7 none [] none [] [qF 83 fun s => loadA true 2 s.m (s.get 4),⟨some 84, none, .c 0 (fun s => (.fn 36 [] [])) fun s => [(s.get 83)]⟩,qC 82 84,qF 85 fun s => extA (s.get 82) 0,qF 86 fun s => extA (s.get 82) 1,qC 13 85,qC 14 86] K s := (den_reg hf _ K s).trans (by kernel_rfl)
theorem r12_eq : den prog ann 7 (.code r12 :: K) s = mreg prog ann 7 none [] none [] [qA 88 (fieldA 0) 3,qA 89 (loadF false 1) 88,qF 90 fun s => bldA (plc [(0, 1), (1, 1)]) [.nils, .nils] [(0, (s.get 89))],⟨some 91, none, .c 0 (fun s => (.fn 35 [] [])) fun s => [(s.get 90)]⟩,qC 87 91,qF 92 fun s => extA (s.get 87) 0,qF 93 fun s => extA (s.get 87) 1,qC 15 92,qC 16 93] K s := (den_reg hf _ K s).trans (by kernel_rfl)
theorem r13_eq : den prog ann 7 (.code r13 :: K) s = mreg prog ann 7 none [] none [] [qF 17 fun s => some (.int .i64 1)] K s := (den_reg hf _ K s).trans (by kernel_rfl)
theorem r14_eq : den prog ann 7 (.code r14 :: K) s = mreg prog ann 7 none [] none [] [qF 18 fun s => some (.int .i64 0)] K s := (den_reg hf _ K s).trans (by kernel_rfl)
theorem k2_eq (K : List Item) (t : List (Nat × AV)) (m : Mem) : den prog ann 7 (.code k2 :: K) ⟨t, 154, m⟩ = L2 (get t 3) (get t 7) (get t 8) (get t 9) (get t 10) (get t 11) (get t 12) (get t 13) (get t 14) (get t 15) (get t 16) (get t 17) (get t 18) m K := den_loop_enter hf (b := l2) (id := 15) (l := [3, 7, 8, 9, 10, 11, 12, 13, 14, 15, 16, 17, 18]) (by kernel_rfl) (by kernel_rfl) (by kernel_rfl) K _
theorem l2_eq (K : List Item) (t : List (Nat × AV)) (m : Mem) : den prog ann 7 (.inLoop l2 :: .inBlock 2 :: K) ⟨t, 154, m⟩ = L2 (get t 3) (get t 7) (get t 8) (get t 9) (get t 10) (get t 11) (get t 12) (get t 13) (get t 14) (get t 15) (get t 16) (get t 17) (get t 18) m K := den_loop_again hf (id := 15) (l := [3, 7, 8, 9, 10, 11, 12, 13, 14, 15, 16, 17, 18]) (by kernel_rfl) (by kernel_rfl) (.inBlock 2 :: K) _
theorem L2_eq (x3 x7 x8 x9 x10 x11 x12 x13 x14 x15 x16 x17 x18 : AV) (m : Mem) (K : List Item) : L2 x3 x7 x8 x9 x10 x11 x12 x13 x14 x15 x16 x17 x18 m K = den prog ann 7 (.code r15 :: .code i1 :: .code k3 :: .code r16 :: .inLoop l2 :: .inBlock 2 :: K) ⟨[(3, x3), (7, x7), (8, x8), (9, x9), (10, x10), (11, x11), (12, x12), (13, x13), (14, x14), (15, x15), (16, x16), (17, x17), (18, x18)], 154, m⟩ := den_flat hf (l := [r15, i1, k3, r16]) (by kernel_rfl) _ _
theorem r15_eq : den prog ann 7 (.code r15 :: K) s = mreg prog ann 7 (some [3, 7, 8, 9, 10, 11, 12, 13, 14, 15, 16, 17, 18]) [] none [] [qC 94 18,qA 95 (fieldA 0) 3,qA 96 (loadF false 1) 95,qA 97 lenSl 96,qB 98 (binA prog .lss 3) 94 97] K s := (den_reg hf _ K s).trans (by kernel_rfl)
theorem i1_eq : den prog ann 7 (.code i1 :: K) s = ifV prog ann 7 98 i1t i1e K s (s.get 98) := den_if hf (by kernel_rfl) K s
theorem i1t_eq : den prog ann 7 (.code i1t :: K) s = den prog ann 7 (K) s := den_flat hf (l := []) (by kernel_rfl) K s
theorem i1e_eq : den prog ann 7 (.code i1e :: K) s = den prog ann 7 (.code (.exit 2) :: K) s := den_flat hf (l := [(.exit 2)]) (by kernel_rfl) K s
theorem k3_eq : den prog ann 7 (.code k3 :: K) s = den prog ann 7 (.code r17 :: .inBlock 3 :: K) s := den_blk hf (b := blkOf k3) (l := [r17]) (by kernel_rfl) (by kernel_rfl) K s
theorem r17_eq : den prog ann 7 (.code r17 :: K) s = mreg prog ann 7 none [] none [] [qC 101 17,qA 102 (fieldA 0) 3,qA 103 (loadF false 1) 102,qC 104 18,qB 105 (idxSl 1) 103 104,qF 106 fun s => loadA false 1 s.m (s.get 105),qF 107 fun s => binA prog .add 3 (s.get 106) (.int .i64 1),qB 108 (binA prog .mul 3) 101 107,qC 17 108] K s := (den_reg hf _ K s).trans (by kernel_rfl)
theorem r16_eq : den prog ann 7 (.code r16 :: K) s = mreg prog ann 7 (some [3, 7, 8, 9, 10, 11, 12, 13, 14, 15, 16, 17, 18]) [] none [] [qC 99 18,qF 100 fun s => binA prog .add 3 (s.get 99) (.int .i64 1),qC 18 100] K s := (den_reg hf _ K s).trans (by kernel_rfl)
theorem r18_eq : den prog ann 7 (.code r18 :: K) s = mreg prog ann 7 (some [7, 8, 9, 10, 11, 12, 13, 14, 15, 16, 17]) [] none [] [qC 109 8,qF 110 fun s => binA prog .eql 27 (s.get 109) (.int .i64 0),qC 111 110,⟨some 112, some (111, true), .v fun s => some (s.get 10)⟩,⟨some 113, some (111, true), .v fun s => binA prog .eql 27 (s.get 112) (.int .i64 0)⟩,qF 114 fun s => pickA (s.get 111) (s.get 113) (.bool false),qC 115 114,⟨some 116, some (115, true), .v fun s => some (s.get 12)⟩,⟨some 117, some (115, true), .v fun s => binA prog .eql 27 (s.get 116) (.int .i64 0)⟩,qF 118 fun s => pickA (s.get 115) (s.get 117) (.bool false),qC 119 118,⟨some 120, some (119, true), .v fun s => some (s.get 14)⟩,⟨some 121, some (119, true), .v fun s => binA prog .eql 27 (s.get 120) (.int .i64 0)⟩,qF 122 fun s => pickA (s.get 119) (s.get 121) (.bool false),qC 123 122,⟨some 124, some (123, true), .v fun s => some (s.get 16)⟩,⟨some 125, some (123, true), .v fun s => binA prog .eql 27 (s.get 124) (.int .i64 0)⟩,qF 126 fun s => pickA (s.get 123) (s.get 125) (.bool false),qC 127 126,⟨some 128, some (127, true), .v fun s => some (s.get 7)⟩,⟨some 129, some (127, true), .v fun s => some (s.get 9)⟩,⟨some 130, some (127, true), .v fun s => binA prog .eql 3 (s.get 128) (s.get 129)⟩,qF 131 fun s => pickA (s.get 127) (s.get 130) (.bool false),qC 132 131,⟨some 133, some (132, true), .v fun s => some (s.get 11)⟩,⟨some 134, some (132, true), .v fun s => some (s.get 13)⟩,⟨some 135, some (132, true), .v fun s => binA prog .eql 3 (s.get 133) (s.get 134)⟩,qF 136 fun s => pickA (s.get 132) (s.get 135) (.bool false),qC 137 136,⟨some 138, some (137, true), .v fun s => some (s.get 15)⟩,⟨some 139, some (137, true), .v fun s => some (s.get 17)⟩,⟨some 140, some (137, true), .v fun s => binA prog .eql 3 (s.get 138) (s.get 139)⟩,qF 141 fun s => pickA (s.get 137) (s.get 140) (.bool false),qC 142 141,⟨some 143, some (142, true), .v fun s => some (s.get 7)⟩,⟨some 144, some (142, true), .v fun s => some (s.get 17)⟩,⟨some 145, some (142, true), .v fun s => binA prog .leq 3 (s.get 143) (s.get 144)⟩,qF 146 fun s => pickA (s.get 142) (s.get 145) (.bool false),qC 147 146,⟨some 148, some (147, true), .v fun s => some (s.get 11)⟩,⟨some 149, some (147, true), .v fun s => binA prog .geq 3 (s.get 148) (.int .i64 1)⟩,qF 150 fun s => pickA (s.get 147) (s.get 149) (.bool false),qC 151 150,⟨some 152, some (151, true), .c 0 (fun s => (.fn 22 [] [])) fun s => []⟩,qF 153 fun s => pickA (s.get 151) (s.get 152) (.bool false),qC 2 153] K s := (den_reg hf _ K s).trans (by kernel_rfl)
theorem ret_eq : den prog ann 7 (.code .ret :: K) s = finM true [fun s => some (s.get 2)] s := (den_ret hf K s).trans (by kernel_rfl)
theorem nil_eq (s : St) : den prog ann 7 [] s = finM true [fun s => some (s.get 2)] s := (den_nil hf s).trans (by kernel_rfl)
theorem inBlock_eq (id : Nat) (K : List Item) (s : St) : den prog ann 7 (.inBlock id :: K) s = den prog ann 7 K s := den_inBlock hf id K s
theorem exit_eq (id : Nat) (K : List Item) (s : St) : den prog ann 7 (.code (.exit id) :: K) s = exitV prog ann 7 (exitTo id K) s := den_exitV hf id K s
theorem call_eq (v0 : AV) (m : Mem) (h : closedL [v0] = true) : denC prog ann 7 [v0] m = (den prog ann 7 [.code b] ⟨[(0, v0)], 154, Mem.empty⟩).bind fun r => some (r.1, m) := (denC_pure hf (b := b) (by kernel_rfl) (by kernel_rfl) (by kernel_rfl) h m).trans (by kernel_rfl)
theorem pure_eq : (ann 7).pure = true := by kernel_rfl
attribute [simp] b_eq r0_eq r1_eq r2_eq r3_eq k0_eq l0_eq r4_eq i0_eq i0t_eq i0e_eq k1_eq r6_eq r7_eq r5_eq r8_eq r9_eq r10_eq r11_eq r12_eq r13_eq r14_eq k2_eq l2_eq r15_eq i1_eq i1t_eq i1e_eq k3_eq r17_eq r16_eq r18_eq ret_eq nil_eq inBlock_eq exit_eq pure_eq
end
end l09_WatchTurned
end Go.Proofs.Ytdkmepjedjclkaa

/-
  WatchTurned RETURNS TRUE. Conditions: none.
-/
namespace Go.Proofs.Ytdkmepjedjclkaa
open Go.AM
open Go.Proofs.Try (prog)
set_option linter.all false
set_option maxRecDepth 100000
set_option maxHeartbeats 4000000
def nvX (oid : Nat) (acc : List Note) : AV := if acc = [] then .nils else .sl oid 4 0 acc.length (acc.length * 4)
structure TAt (m : Mem) (vD : AV) (acc : List Note) (oid : Nat) : Prop where
  r : m.h 1 = some (.cells [vD, nvX oid acc])
  o : acc ≠ [] → m.h oid = some (.cells (flatC noteC acc)) ∧ oid < m.nx ∧ oid ≠ 1
  l : 1 < m.nx
section
variable {D : List Int} {N : List Note} {vD vN : AV}
theorem turn_loop (hD : IsInts vD D) (hN : IsSl noteC vN N) (P : Pre D N) (Kc : List Item) : ∀ (k : Nat) (acc : List Note) (oid : Nat) (m : Mem), k ≤ N.length → acc = ((N.drop k).map (turnNote D)).reverse → TAt m vD acc oid →
    ∃ oid' m', TAt m' vD (turnL D N) oid' ∧ l09_WatchTurned.L0 (.fptr [vD, vN]) (.ptr 1 0 2) (.int .i64 ((k : Int) - 1)) m Kc = l09_WatchTurned.L0 (.fptr [vD, vN]) (.ptr 1 0 2) (.int .i64 (-1)) m' Kc := by
  have h24 := P.L.N24
  have h4 := P.L.n4
  intro k
  induction k with
  | zero =>
    intro acc oid m h1 h2 h3
    refine ⟨oid, m, ?_, by simp⟩
    rw [List.drop_zero] at h2
    rw [turnL, ← h2]; exact h3
  | succ k ih =>
    intro acc oid m h1 h2 h3
    have hk : k < N.length := by omega
    have hget : N[k]? = some N[k] := List.getElem?_eq_getElem hk
    obtain ⟨f0, f1, t0, t1, ne, s0, s1', r0, r1⟩ := P.notes N[k] (List.getElem_mem hk)
    have hacc : acc ++ [turnNote D N[k]] = ((N.drop k).map (turnNote D)).reverse := by
      rw [h2, List.drop_eq_getElem_cons hk, List.map_cons, List.reverse_cons]
    have hfl : flatC noteC (N.drop k) = noteC N[k] ++ flatC noteC (N.drop (k + 1)) := flatC_at hget
    have hidx := hN.idx (noteC_len N) hk .i64
    have hw : IntKind.wrap .i64 ((k : Int) - 1) = (k : Int) - 1 := wrap_id (by omega) (by omega)
    have e0 : ((k + 1 : Nat) : Int) - 1 = (k : Int) := by omega
    have hal : acc.length + k + 1 = N.length := by rw [h2]; simp; omega
    rw [e0]
    generalize N[k] = x at *
    have ft := hD.idxI f0 f1 .i64
    have tt := hD.idxI t0 t1 .i64
    have fh : (ints (D.drop x.f.toNat)).head? = some (.int .i64 (nth D x.f.toNat)) := ints_head (by omega)
    have th : (ints (D.drop x.t.toNat)).head? = some (.int .i64 (nth D x.t.toNat)) := ints_head (by omega)
    have d6f := P.L.hi x.f.toNat
    have d6t := P.L.hi x.t.toNat
    have w1 : IntKind.wrap .i64 (nth D x.t.toNat + 1) = nth D x.t.toNat + 1 := wrap_id (by omega) (by omega)
    have w2 : IntKind.wrap .i64 (nth D x.f.toNat + 1) = nth D x.f.toNat + 1 := wrap_id (by omega) (by omega)
    have w3 : IntKind.wrap .i64 (nth D x.t.toNat + 1 - x.r) = nth D x.t.toNat + 1 - x.r := wrap_id (by omega) (by omega)
    have w4 : IntKind.wrap .i64 (nth D x.f.toNat + 1 - x.s) = nth D x.f.toNat + 1 - x.s := wrap_id (by omega) (by omega)
    have hl1 := h3.l
    have n1 : (1 == m.nx) = false := beq_eq_false_iff_ne.2 (by omega)
    have hy : noteC (turnNote D x) = [.int .i64 x.t, .int .i64 (nth D x.t.toNat + 1 - x.r), .int .i64 x.f, .int .i64 (nth D x.f.toNat + 1 - x.s)] := rfl
    by_cases q : acc = []
    · subst q
      have hr := h3.r
      rw [nvX, if_pos rfl] at hr
      obtain ⟨M, hM⟩ : ∃ M : Mem, M = ⟨upd (upd (upd m.h m.nx none) (m.nx + 1 + 28) (some (.cells [.int .i64 x.t, .int .i64 (nth D x.t.toNat + 1 - x.r), .int .i64 x.f, .int .i64 (nth D x.f.toNat + 1 - x.s)]))) 1 (some (.cells [vD, .sl (m.nx + 1 + 28) 4 0 1 4])), m.nx + 1 + 31⟩ := ⟨_, rfl⟩
      obtain ⟨oid', m', a, b⟩ := ih [turnNote D x] (m.nx + 1 + 28) M (by omega) (by simpa using hacc) (by
        rw [hM]
        exact ⟨by simp [nvX], fun _ => ⟨by simp [flatC_one, hy, show (m.nx + 1 + 28 == 1) = false from beq_eq_false_iff_ne.2 (by omega)], by show m.nx + 1 + 28 < m.nx + 1 + 31; omega, by omega⟩, by show 1 < m.nx + 1 + 31; omega⟩)
      refine ⟨oid', m', a, ?_⟩
      rw [← b, l09_WatchTurned.L0_eq]
      simp [hidx, hfl, noteC, ft, tt, fh, th, w1, w2, w3, w4, hw, hr, n1]
      rw [hM]
      done
    · obtain ⟨o1, o2, o3⟩ := h3.o q
      have hr := h3.r
      rw [nvX, if_neg q] at hr
      have n2 : (oid == m.nx) = false := beq_eq_false_iff_ne.2 (by omega)
      have n3 : (oid == 1) = false := beq_eq_false_iff_ne.2 o3
      have n4 : (1 == oid) = false := beq_eq_false_iff_ne.2 (fun e => o3 e.symm)
      have hcl := flatC_len (f := noteC) (k := 4) (l := acc) (fun x _ => noteC_len acc x ‹_›)
      obtain ⟨M, hM⟩ : ∃ M : Mem, M = ⟨upd (upd (upd m.h m.nx none) oid (some (.cells (flatC noteC acc ++ [.int .i64 x.t, .int .i64 (nth D x.t.toNat + 1 - x.r), .int .i64 x.f, .int .i64 (nth D x.f.toNat + 1 - x.s)])))) 1 (some (.cells [vD, .sl oid 4 0 (acc.length + 1) (acc.length * 4 + 4)])), m.nx + 1 + 31⟩ := ⟨_, rfl⟩
      obtain ⟨oid', m', a, b⟩ := ih (acc ++ [turnNote D x]) oid M (by omega) hacc (by
        rw [hM]
        exact ⟨by simp [nvX, Nat.add_mul], fun _ => ⟨by simp [flatC_append, flatC_one, hy, n3], by show oid < m.nx + 1 + 31; omega, o3⟩, by show 1 < m.nx + 1 + 31; omega⟩)
      refine ⟨oid', m', a, ?_⟩
      rw [← b, l09_WatchTurned.L0_eq]
      simp [hidx, hfl, noteC, ft, tt, fh, th, w1, w2, w3, w4, hw, hr, n1, n2, n3, n4, o1, hcl, show acc.length ≤ 4611686018427387903 by omega, show acc.length + 1 ≤ 4611686018427387904 by omega, show (acc.length + 1) * 32 ≤ 70368744177664 by omega]
      rw [hM]
      done
theorem prod_append : ∀ (a b : List Int), prodL (a ++ b) = prodL a * prodL b
  | [], b => by simp [prodL]
  | x :: a, b => by rw [List.cons_append, prodL, prodL, prod_append a b, Nat.mul_assoc]
theorem prod_take {i : Nat} (hi : i < D.length) : prodL (D.take (i + 1)) = prodL (D.take i) * ((nth D i).toNat + 1) := by
  rw [List.take_add_one, prod_append, nth_eq hi]
  simp [prodL]
theorem prod_le (h6 : ∀ i, nth D i ≤ 6) (h0 : ∀ i, 0 ≤ nth D i) : ∀ i, i ≤ D.length → prodL (D.take i) ≤ 7 ^ i
  | 0, _ => by simp [prodL]
  | i + 1, hi => by
    have ih := prod_le h6 h0 i (by omega)
    rw [prod_take (by omega), Nat.pow_succ]
    exact Nat.mul_le_mul ih (by have := h6 i; have := h0 i; omega)
theorem turn_prod (hD : IsInts vD D) (L : Lims D N) {a p : Int} (ha : a ≤ (prodL D : Int)) (hp : 1 ≤ p) : ∀ (k i : Nat) (m : Mem), i + k = D.length →
    l09_WatchTurned.L2 (.fptr [vD, vN]) (.int .i64 a) (.int .i64 0) (.int .i64 a) (.int .i64 0) (.int .i64 p) (.int .i64 0) (.int .i64 p) (.int .i64 0) (.int .i64 (prodL D)) (.int .i64 0) (.int .i64 (prodL (D.take i))) (.int .i64 i) m [.code l09_WatchTurned.r18, .code .ret] = some (.bool true, Mem.empty) := by
  have h4 := L.n4
  intro k
  induction k with
  | zero =>
    intro i m h1
    have e : i = D.length := by omega
    rw [l09_WatchTurned.L2_eq]
    simp [e, hD.len, lives_spec, ha, hp]
    done
  | succ k ih =>
    intro i m h1
    have hi : i < D.length := by omega
    have hwr : IntKind.wrap .i64 ((i : Int) + 1) = (i : Int) + 1 := wrap_id (by omega) (by omega)
    have hidx := hD.idx hi .i64
    have hh : (ints (D.drop i)).head? = some (.int .i64 (nth D i)) := ints_head hi
    have l0 := L.lo i
    have l6 := L.hi i
    have w1 : IntKind.wrap .i64 (nth D i + 1) = nth D i + 1 := wrap_id (by omega) (by omega)
    have hpl := prod_le L.hi L.lo i (by omega)
    have hpl' : prodL (D.take i) ≤ 2401 := Nat.le_trans hpl (by
      have : (7 : Nat) ^ i ≤ 7 ^ 4 := Nat.pow_le_pow_right (by omega) (by omega)
      simpa using this)
    have hmul : (prodL (D.take i) : Int) * (nth D i + 1) = (prodL (D.take (i + 1)) : Nat) := by
      rw [prod_take hi, Int.natCast_mul, Int.natCast_add, Int.toNat_of_nonneg l0]; rfl
    have hpl2 : prodL (D.take (i + 1)) ≤ 16807 := by
      rw [prod_take hi]
      exact Nat.le_trans (Nat.mul_le_mul hpl' (show (nth D i).toNat + 1 ≤ 7 by omega)) (by omega)
    have w2 : IntKind.wrap .i64 ((prodL (D.take i) : Int) * (nth D i + 1)) = (prodL (D.take (i + 1)) : Nat) := by rw [hmul]; exact wrap_id (by omega) (by omega)
    have hst := fun m => ih (i + 1) m (by omega)
    simp only [Int.natCast_add, Int.cast_ofNat_Int] at hst
    rw [l09_WatchTurned.L2_eq]
    simp [hD.len, hi, hidx, hh, w1, w2, hwr, hst]
    done
end
theorem ways_one {D : List Int} {N : List Note} (val : ValidS D N) : 1 ≤ IntKind.wrap .i64 (waysN D N D.sum.toNat D : Int) := by
  have h1 := ways_pos val.pre val.all
  have h2 := ways_le (N := N) val.n4 D.sum.toNat D
  have h4 := val.n4
  have hs : D.sum ≤ 24 := by
    have key : ∀ l : List Int, (∀ i, nth l i ≤ 6) → l.sum ≤ 6 * (l.length : Int) := by
      intro l
      induction l with
      | nil => intro _; simp
      | cons x l ih =>
        intro h
        have := ih fun i => h (i + 1)
        have := h 0
        simp only [nth, List.getD, List.getElem?_cons_zero, Option.getD_some] at this
        simp only [List.sum_cons, List.length_cons]
        omega
    have := key D val.hi
    omega
  have h3 : 4 ^ D.sum.toNat ≤ 4 ^ 24 := Nat.pow_le_pow_right (by omega) (by omega)
  have h5 : (4 : Nat) ^ 24 = 281474976710656 := by decide
  rw [wrap_id (by omega) (by omega)]
  omega
theorem turn_runs {d : Nat} (a0 : AV) (h0 : DatV prog (d + 4) 39 a0) : ∃ m', denC prog ann 7 [a0] Mem.empty = some (.bool true, m') := by
  obtain ⟨hh, ds, vT, T, t⟩ := datV39 h0
  obtain ⟨v, D, N, hs, val, hN12, em⟩ := made_spec t
  have P := val.pre
  have h4 := val.n4
  have h24 := val.N24
  have ds4 := t.d4
  have valT : ValidS D (turnL D N) := (turn_pre P).valid (turn_reach P val.all)
  have valF : ValidS D [] := by
    have L : Lims D [] := ⟨val.n1, val.n4, val.lo, val.hi, by simp, fun x hx => by cases hx⟩
    have Pf : Pre D [] := ⟨L, fun x hx => by cases hx⟩
    exact Pf.valid (reach_nil L)
  obtain ⟨same1, same2⟩ := turn_same P
  have hs0 := hs
  obtain ⟨vD, vN, rfl, hD, hN⟩ := hs.ex
  have cs : ∀ {w : AV} {M : List Note}, IsTale w D M → ValidS D M → ∀ m, denC prog ann 35 [w] m = some (.tup [.int .i64 (cutsL D M).length, .int .i64 0], m) := by
    intro w M hw hv
    obtain ⟨x, e, hr, ee⟩ := cutsV_spec hw (by omega) (by have := hv.N24; omega)
    cases hr with
    | bad h => exact absurd hv h
    | ok _ => exact ee
  have ws : ∀ {w : AV} {M : List Note}, IsTale w D M → ValidS D M → ∀ m, denC prog ann 36 [w] m = some (.tup [.int .i64 (IntKind.wrap .i64 (waysN D M D.sum.toNat D)), .int .i64 0], m) := by
    intro w M hw hv
    obtain ⟨x, e, hr, ee⟩ := cou_spec hw (by omega) (by have := hv.N24; omega)
    obtain ⟨rfl, rfl⟩ := hr.ok hv
    exact ee
  have tO : IsTale (.agg [vD, .fsl false (turnL D N).length (flatC noteC (turnL D N))]) D (turnL D N) := ⟨_, _, rfl, hD, IsSl.fsl false _⟩
  have tF : IsTale (.agg [vD, .nils]) D [] := ⟨_, _, rfl, hD, .inl ⟨rfl, rfl⟩⟩
  have hcl : a0.closed = true := by rw [t.eq]; simp [t.vT.closed]
  have td6 : (.int .u8 hh :: (u8s ds ++ [vT]) : List AV).take 6 = .int .u8 hh :: (u8s ds ++ [vT]) := List.take_of_length_le (by simp [ds4])
  simp at td6
  have fin := fun m => turn_prod (vN := vN) hD P.L (a := ((cutsL D N).length : Nat)) (p := IntKind.wrap .i64 (waysN D N D.sum.toNat D)) (by have := cuts_prod D N; omega) (ways_one val) D.length 0 m (by omega)
  simp only [List.take_zero, prodL, Int.cast_ofNat_Int] at fin
  have c1 := cs hs0 val
  have c2 := cs tO valT
  have c3 := cs tF valF
  have p1 := ws hs0 val
  have p2 := ws tO valT
  rw [same1] at c2
  rw [same2] at p2
  rw [cuts_free, tuples_prod] at c3
  have hwN : IntKind.wrap .i64 ((N.length : Int) - 1) = (N.length : Int) - 1 := wrap_id (by omega) (by omega)
  rw [t.eq] at hcl em ⊢
  refine ⟨Mem.empty, ?_⟩
  rw [l09_WatchTurned.call_eq _ _ (by simp [hcl])]
  obtain ⟨oid, M, tat, lp⟩ := turn_loop hD hN P [.code l09_WatchTurned.r8, .code l09_WatchTurned.r9, .code l09_WatchTurned.r10, .code l09_WatchTurned.r11, .code l09_WatchTurned.r12, .code l09_WatchTurned.r13, .code l09_WatchTurned.r14, .code l09_WatchTurned.k2, .code l09_WatchTurned.r18, .code .ret] N.length [] 0 ⟨upd (upd Mem.empty.h 0 none) 1 (some (.cells [vD, .nils])), 2⟩ (Nat.le_refl _) (by simp) ⟨by simp [nvX], fun h => absurd rfl h, by show 1 < 2; omega⟩
  have hr := tat.r
  by_cases q : turnL D N = []
  · rw [nvX, if_pos q] at hr
    rw [q] at c2 p2
    have c2' := cs tF valF
    have p2' := ws tF valF
    rw [q] at same1 same2
    rw [same1] at c2'
    rw [same2] at p2'
    have e3 : (cutsL D N).length = prodL D := by rw [← same1, cuts_free, tuples_prod]
    rw [e3] at c1 fin
    simp [hcl, t.vT.one, t.vT.closed, ds4, td6, em, hD.one, hN.one, hD.closed, hN.closed, hD.cells, hN.cells, hN.len, hwN, lp]
    rw [l09_WatchTurned.L0_eq]
    simp [hD.one, hN.one, hD.closed, hN.closed, hD.cells, hr, c1, c3, p1, p2', fin]
    done
  · obtain ⟨o1, o2, o3⟩ := tat.o q
    rw [nvX, if_neg q] at hr
    have hfl := flatC_len (f := noteC) (k := 4) (l := turnL D N) (noteC_len _)
    have htk : (flatC noteC (turnL D N)).take ((turnL D N).length * 4) = flatC noteC (turnL D N) := List.take_of_length_le (by omega)
    have hdp : ∀ (h : Nat → Option AObj) (d : Nat), mapO (deep h (d + 1)) (flatC noteC (turnL D N)) = some (flatC noteC (turnL D N)) := fun h d => flatC_deep h d (fun a => rfl) _
    simp [hcl, t.vT.one, t.vT.closed, ds4, td6, em, hD.one, hN.one, hD.closed, hN.closed, hD.cells, hN.cells, hN.len, hwN, lp]
    rw [l09_WatchTurned.L0_eq]
    simp [hD.one, hN.one, hD.closed, hN.closed, hD.cells, hD.deep, hr, o1, hfl, htk, hdp, AV.flat, flatL, AV.flat1, c1, c2, c3, p1, p2, fin]
    done
end Go.Proofs.Ytdkmepjedjclkaa
