/- Tests of the search for words that lead all states to one, done by the kernel (written by mkk.py). -/
import Derived.Test.YthnpflkpjimkfaaK03
import Derived.Test.YthnpflkpjimkfaaK04
set_option linter.all false
set_option linter.all false
set_option maxRecDepth 1000000
namespace Cz
noncomputable def eb6_2 : List (Nat × Nat) := [(11160, 11520), (11520, 11880), (11880, 12240), (12240, 12600), (12600, 13320), (13320, 14040), (14040, 14760), (14760, 15480), (15480, 16200), (16200, 16920), (16920, 17640), (17640, 18360), (18360, 19080), (19080, 19800), (19800, 20520), (20520, 21240), (21240, 21960), (21960, 22680), (22680, 23400), (23400, 24120)]
theorem blk6_2 : blks 6 P6 (tabP 6 (ones 46656) P6) (perm2 6) eb6_2 = true := by decide +kernel
noncomputable def ec6_68 : List (Nat × Nat × Nat × Nat) := [(19080, 68, 2178, 100000)]
theorem cl6_68 : clss 6 25 P6 ec6_68 = true := by decide +kernel
noncomputable def ec6_40 : List (Nat × Nat × Nat × Nat) := [(6840, 122, 817, 1634)]
theorem cl6_40 : clss 6 25 P6 ec6_40 = true := by decide +kernel
noncomputable def ec6_30 : List (Nat × Nat × Nat × Nat) := [(5400, 109, 1220, 100000)]
theorem cl6_30 : clss 6 25 P6 ec6_30 = true := by decide +kernel
noncomputable def ec6_73 : List (Nat × Nat × Nat × Nat) := [(24120, 243, 0, 100000)]
theorem cl6_73 : clss 6 25 P6 ec6_73 = true := by decide +kernel
noncomputable def ec6_52 : List (Nat × Nat × Nat × Nat) := [(12600, 260, 0, 100000)]
theorem cl6_52 : clss 6 25 P6 ec6_52 = true := by decide +kernel
noncomputable def ec6_83 : List (Nat × Nat × Nat × Nat) := [(30600, 261, 0, 764)]
theorem cl6_83 : clss 6 25 P6 ec6_83 = true := by decide +kernel
noncomputable def ec6_17 : List (Nat × Nat × Nat × Nat) := [(3060, 282, 0, 100000)]
theorem cl6_17 : clss 6 25 P6 ec6_17 = true := by decide +kernel
noncomputable def ec6_75 : List (Nat × Nat × Nat × Nat) := [(25560, 183, 544, 100000)]
theorem cl6_75 : clss 6 25 P6 ec6_75 = true := by decide +kernel
noncomputable def ec6_5 : List (Nat × Nat × Nat × Nat) := [(1140, 192, 519, 100000)]
theorem cl6_5 : clss 6 25 P6 ec6_5 = true := by decide +kernel
noncomputable def ec6_63 : List (Nat × Nat × Nat × Nat) := [(18360, 324, 0, 617)]
theorem cl6_63 : clss 6 25 P6 ec6_63 = true := by decide +kernel
noncomputable def ec6_18 : List (Nat × Nat × Nat × Nat) := [(3240, 343, 0, 100000)]
theorem cl6_18 : clss 6 25 P6 ec6_18 = true := by decide +kernel
noncomputable def ec6_74 : List (Nat × Nat × Nat × Nat) := [(24840, 1, 0, 100000), (25560, 367, 0, 544)]
theorem cl6_74 : clss 6 25 P6 ec6_74 = true := by decide +kernel
noncomputable def ec5_2 : List (Nat × Nat × Nat × Nat) := [(480, 258, 0, 100000), (540, 184, 0, 100000)]
theorem cl5_2 : clss 5 16 P5 ec5_2 = true := by decide +kernel
noncomputable def ec6_27 : List (Nat × Nat × Nat × Nat) := [(5040, 434, 0, 100000)]
theorem cl6_27 : clss 6 25 P6 ec6_27 = true := by decide +kernel
noncomputable def ec5_1 : List (Nat × Nat × Nat × Nat) := [(360, 42, 0, 100000), (420, 178, 0, 100000)]
theorem cl5_1 : clss 5 16 P5 ec5_1 = true := by decide +kernel
noncomputable def eb2_0 : List (Nat × Nat) := [(2, 4)]
theorem blk2_0 : blks 2 P2 (tabP 2 (ones 4) P2) (perm2 2) eb2_0 = true := by decide +kernel
noncomputable def eb3_0 : List (Nat × Nat) := [(6, 9), (9, 15), (15, 21), (21, 27)]
theorem blk3_0 : blks 3 P3 (tabP 3 (ones 27) P3) (perm2 3) eb3_0 = true := by decide +kernel
noncomputable def eb4_0 : List (Nat × Nat) := [(24, 36), (36, 48), (48, 60), (60, 72), (72, 84), (84, 96), (96, 108), (108, 132), (132, 156), (156, 180), (180, 204), (204, 228), (228, 252), (252, 256)]
theorem blk4_0 : blks 4 P4 (tabP 4 (ones 256) P4) (perm2 4) eb4_0 = true := by decide +kernel
theorem pls3 : lens 3 P3 = true := by decide +kernel
theorem full3 : full (tabP 3 (ones 27) P3) (ones 27) = true := by decide +kernel
theorem inj3 : injs (ones 6) (tabP 3 (ones 27) P3) = true := by decide +kernel
theorem isp3 : allB (isP 3) (perm2 3) = true := by decide +kernel
noncomputable def ec6_70 : List (Nat × Nat × Nat × Nat) := [(21960, 1, 0, 100000)]
theorem cl6_70 : clss 6 25 P6 ec6_70 = true := by decide +kernel
noncomputable def ec6_85 : List (Nat × Nat × Nat × Nat) := [(31320, 1, 0, 100000)]
theorem cl6_85 : clss 6 25 P6 ec6_85 = true := by decide +kernel
end Cz
