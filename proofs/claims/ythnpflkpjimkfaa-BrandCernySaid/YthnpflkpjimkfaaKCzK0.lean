/- Tests of the search for words that lead all states to one, done by the kernel (written by mkk.py). -/
import Derived.Test.YthnpflkpjimkfaaK03
import Derived.Test.YthnpflkpjimkfaaK04
set_option linter.all false
set_option linter.all false
set_option maxRecDepth 1000000
namespace Cz
noncomputable def ec6_42 : List (Nat × Nat × Nat × Nat) := [(6840, 61, 2451, 100000)]
theorem cl6_42 : clss 6 25 P6 ec6_42 = true := by decide +kernel
noncomputable def ec6_33 : List (Nat × Nat × Nat × Nat) := [(5760, 89, 1488, 100000)]
theorem cl6_33 : clss 6 25 P6 ec6_33 = true := by decide +kernel
noncomputable def ec6_62 : List (Nat × Nat × Nat × Nat) := [(17640, 118, 847, 100000)]
theorem cl6_62 : clss 6 25 P6 ec6_62 = true := by decide +kernel
noncomputable def ec6_38 : List (Nat × Nat × Nat × Nat) := [(6480, 107, 1242, 100000)]
theorem cl6_38 : clss 6 25 P6 ec6_38 = true := by decide +kernel
noncomputable def ec6_54 : List (Nat × Nat × Nat × Nat) := [(14760, 239, 0, 834)]
theorem cl6_54 : clss 6 25 P6 ec6_54 = true := by decide +kernel
noncomputable def ec6_64 : List (Nat × Nat × Nat × Nat) := [(18360, 162, 617, 100000)]
theorem cl6_64 : clss 6 25 P6 ec6_64 = true := by decide +kernel
noncomputable def ec6_49 : List (Nat × Nat × Nat × Nat) := [(11160, 165, 605, 100000)]
theorem cl6_49 : clss 6 25 P6 ec6_49 = true := by decide +kernel
noncomputable def ec6_8 : List (Nat × Nat × Nat × Nat) := [(1440, 175, 570, 100000)]
theorem cl6_8 : clss 6 25 P6 ec6_8 = true := by decide +kernel
noncomputable def ec6_91 : List (Nat × Nat × Nat × Nat) := [(34200, 294, 0, 100000)]
theorem cl6_91 : clss 6 25 P6 ec6_91 = true := by decide +kernel
noncomputable def ec6_20 : List (Nat × Nat × Nat × Nat) := [(3720, 301, 0, 663)]
theorem cl6_20 : clss 6 25 P6 ec6_20 = true := by decide +kernel
noncomputable def ec6_28 : List (Nat × Nat × Nat × Nat) := [(5400, 327, 0, 610)]
theorem cl6_28 : clss 6 25 P6 ec6_28 = true := by decide +kernel
noncomputable def ec6_92 : List (Nat × Nat × Nat × Nat) := [(34920, 1, 0, 100000), (34926, 1, 0, 100000), (34956, 1, 0, 100000), (34986, 1, 0, 100000), (35016, 1, 0, 100000), (35076, 1, 0, 100000), (35136, 1, 0, 100000), (35226, 1, 0, 100000), (35316, 1, 0, 100000), (35436, 1, 0, 100000), (35556, 1, 0, 100000), (35676, 1, 0, 100000), (35796, 1, 0, 100000), (35916, 1, 0, 100000), (36036, 1, 0, 100000), (36156, 1, 0, 100000), (36276, 1, 0, 100000), (36396, 1, 0, 100000), (36516, 1, 0, 100000), (36696, 1, 0, 100000), (36936, 1, 0, 100000), (37296, 1, 0, 100000), (37656, 1, 0, 100000), (38016, 1, 0, 100000), (38376, 1, 0, 100000), (38736, 1, 0, 100000), (39096, 1, 0, 100000), (39456, 1, 0, 100000), (39816, 1, 0, 100000), (40176, 1, 0, 100000), (40536, 1, 0, 100000), (40896, 1, 0, 100000), (41256, 1, 0, 100000), (41616, 1, 0, 100000), (41976, 1, 0, 100000), (42336, 1, 0, 100000), (42696, 1, 0, 100000), (43056, 1, 0, 100000), (43416, 1, 0, 100000)]
theorem cl6_92 : clss 6 25 P6 ec6_92 = true := by decide +kernel
noncomputable def ec6_24 : List (Nat × Nat × Nat × Nat) := [(4320, 364, 0, 548)]
theorem cl6_24 : clss 6 25 P6 ec6_24 = true := by decide +kernel
noncomputable def ec6_11 : List (Nat × Nat × Nat × Nat) := [(1980, 366, 0, 100000)]
theorem cl6_11 : clss 6 25 P6 ec6_11 = true := by decide +kernel
noncomputable def ec6_46 : List (Nat × Nat × Nat × Nat) := [(9720, 357, 0, 100000), (10080, 1, 0, 100000), (10440, 1, 0, 100000)]
theorem cl6_46 : clss 6 25 P6 ec6_46 = true := by decide +kernel
noncomputable def ec5_3 : List (Nat × Nat × Nat × Nat) := [(600, 38, 0, 100000), (660, 1, 0, 100000), (720, 42, 0, 100000), (780, 1, 0, 100000), (840, 1, 0, 100000), (900, 1, 0, 100000), (960, 1, 0, 100000), (1020, 1, 0, 100000), (1140, 1, 0, 100000), (1260, 1, 0, 100000)]
theorem cl5_3 : clss 5 16 P5 ec5_3 = true := by decide +kernel
noncomputable def ec6_60 : List (Nat × Nat × Nat × Nat) := [(16920, 240, 0, 100000)]
theorem cl6_60 : clss 6 25 P6 ec6_60 = true := by decide +kernel
theorem pls2 : lens 2 P2 = true := by decide +kernel
theorem full2 : full (tabP 2 (ones 4) P2) (ones 4) = true := by decide +kernel
theorem inj2 : injs (ones 2) (tabP 2 (ones 4) P2) = true := by decide +kernel
theorem isp2 : allB (isP 2) (perm2 2) = true := by decide +kernel
theorem pls5 : lens 5 P5 = true := by decide +kernel
theorem full5 : full (tabP 5 (ones 3125) P5) (ones 3125) = true := by decide +kernel
theorem inj5 : injs (ones 120) (tabP 5 (ones 3125) P5) = true := by decide +kernel
theorem isp5 : allB (isP 5) (perm2 5) = true := by decide +kernel
noncomputable def ec6_80 : List (Nat × Nat × Nat × Nat) := [(28440, 1, 0, 100000)]
theorem cl6_80 : clss 6 25 P6 ec6_80 = true := by decide +kernel
end Cz
