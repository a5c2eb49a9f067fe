/- Tests of the search for words that lead all states to one, done by the kernel (written by mkk.py). -/
import Derived.Test.YthnpflkpjimkfaaK03
import Derived.Test.YthnpflkpjimkfaaK04
set_option linter.all false
set_option linter.all false
set_option maxRecDepth 1000000
namespace Cz
noncomputable def eb6_4 : List (Nat × Nat) := [(35076, 35136), (35136, 35226), (35226, 35316), (35316, 35436), (35436, 35556), (35556, 35676), (35676, 35796), (35796, 35916), (35916, 36036), (36036, 36156), (36156, 36276), (36276, 36396), (36396, 36516), (36516, 36696), (36696, 36936), (36936, 37296), (37296, 37656), (37656, 38016), (38016, 38376), (38376, 38736)]
theorem blk6_4 : blks 6 P6 (tabP 6 (ones 46656) P6) (perm2 6) eb6_4 = true := by decide +kernel
noncomputable def ec6_88 : List (Nat × Nat × Nat × Nat) := [(32760, 111, 894, 1788)]
theorem cl6_88 : clss 6 25 P6 ec6_88 = true := by decide +kernel
noncomputable def ec6_67 : List (Nat × Nat × Nat × Nat) := [(19080, 91, 1452, 2178)]
theorem cl6_67 : clss 6 25 P6 ec6_67 = true := by decide +kernel
noncomputable def ec6_35 : List (Nat × Nat × Nat × Nat) := [(6120, 134, 742, 100000)]
theorem cl6_35 : clss 6 25 P6 ec6_35 = true := by decide +kernel
noncomputable def ec6_51 : List (Nat × Nat × Nat × Nat) := [(12240, 235, 0, 100000)]
theorem cl6_51 : clss 6 25 P6 ec6_51 = true := by decide +kernel
noncomputable def ec6_10 : List (Nat × Nat × Nat × Nat) := [(1800, 251, 0, 100000)]
theorem cl6_10 : clss 6 25 P6 ec6_10 = true := by decide +kernel
noncomputable def ec6_31 : List (Nat × Nat × Nat × Nat) := [(5760, 268, 0, 744)]
theorem cl6_31 : clss 6 25 P6 ec6_31 = true := by decide +kernel
noncomputable def ec6_78 : List (Nat × Nat × Nat × Nat) := [(27000, 172, 580, 100000)]
theorem cl6_78 : clss 6 25 P6 ec6_78 = true := by decide +kernel
noncomputable def ec6_81 : List (Nat × Nat × Nat × Nat) := [(29160, 295, 0, 100000)]
theorem cl6_81 : clss 6 25 P6 ec6_81 = true := by decide +kernel
noncomputable def ec6_86 : List (Nat × Nat × Nat × Nat) := [(32040, 297, 0, 100000)]
theorem cl6_86 : clss 6 25 P6 ec6_86 = true := by decide +kernel
noncomputable def ec4_0 : List (Nat × Nat × Nat × Nat) := [(36, 18, 0, 100000), (48, 16, 0, 100000), (60, 1, 0, 100000), (72, 1, 0, 100000), (84, 1, 0, 100000), (96, 1, 0, 100000), (108, 1, 0, 100000), (132, 1, 0, 100000), (156, 1, 0, 100000), (180, 1, 0, 100000), (204, 22, 0, 100000), (228, 28, 0, 100000), (252, 1, 0, 100000)]
theorem cl4_0 : clss 4 9 P4 ec4_0 = true := by decide +kernel
noncomputable def ec6_22 : List (Nat × Nat × Nat × Nat) := [(3960, 344, 0, 581)]
theorem cl6_22 : clss 6 25 P6 ec6_22 = true := by decide +kernel
noncomputable def ec6_14 : List (Nat × Nat × Nat × Nat) := [(2520, 355, 0, 100000)]
theorem cl6_14 : clss 6 25 P6 ec6_14 = true := by decide +kernel
noncomputable def ec5_0 : List (Nat × Nat × Nat × Nat) := [(140, 134, 0, 100000), (170, 1, 0, 100000), (200, 1, 0, 100000), (240, 87, 0, 100000), (300, 58, 0, 100000)]
theorem cl5_0 : clss 5 16 P5 ec5_0 = true := by decide +kernel
noncomputable def ec5_4 : List (Nat × Nat × Nat × Nat) := [(1380, 159, 0, 100000), (1500, 196, 0, 100000)]
theorem cl5_4 : clss 5 16 P5 ec5_4 = true := by decide +kernel
noncomputable def ec5_5 : List (Nat × Nat × Nat × Nat) := [(1620, 289, 0, 100000), (1740, 1, 0, 100000)]
theorem cl5_5 : clss 5 16 P5 ec5_5 = true := by decide +kernel
noncomputable def ec6_6 : List (Nat × Nat × Nat × Nat) := [(1260, 150, 0, 100000)]
theorem cl6_6 : clss 6 25 P6 ec6_6 = true := by decide +kernel
noncomputable def eb5_0 : List (Nat × Nat) := [(120, 140), (140, 170), (170, 200), (200, 240), (240, 300), (300, 360), (360, 420), (420, 480), (480, 540), (540, 600), (600, 660), (660, 720), (720, 780), (780, 840), (840, 900), (900, 960), (960, 1020), (1020, 1140), (1140, 1260), (1260, 1380)]
theorem blk5_0 : blks 5 P5 (tabP 5 (ones 3125) P5) (perm2 5) eb5_0 = true := by decide +kernel
theorem pls4 : lens 4 P4 = true := by decide +kernel
theorem full4 : full (tabP 4 (ones 256) P4) (ones 256) = true := by decide +kernel
theorem inj4 : injs (ones 24) (tabP 4 (ones 256) P4) = true := by decide +kernel
theorem isp4 : allB (isP 4) (perm2 4) = true := by decide +kernel
noncomputable def ec6_72 : List (Nat × Nat × Nat × Nat) := [(23400, 1, 0, 100000)]
theorem cl6_72 : clss 6 25 P6 ec6_72 = true := by decide +kernel
end Cz
