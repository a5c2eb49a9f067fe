/- Tests of the search for words that lead all states to one, done by the kernel (written by mkk.py). -/
import Derived.Test.YthnpflkpjimkfaaK03
import Derived.Test.YthnpflkpjimkfaaK04
set_option linter.all false
set_option linter.all false
set_option maxRecDepth 1000000
namespace Cz
noncomputable def eb6_3 : List (Nat × Nat) := [(24120, 24840), (24840, 25560), (25560, 26280), (26280, 27000), (27000, 27720), (27720, 28440), (28440, 29160), (29160, 29880), (29880, 30600), (30600, 31320), (31320, 32040), (32040, 32760), (32760, 33480), (33480, 34200), (34200, 34920), (34920, 34926), (34926, 34956), (34956, 34986), (34986, 35016), (35016, 35076)]
theorem blk6_3 : blks 6 P6 (tabP 6 (ones 46656) P6) (perm2 6) eb6_3 = true := by decide +kernel
noncomputable def ec6_41 : List (Nat × Nat × Nat × Nat) := [(6840, 81, 1634, 2451)]
theorem cl6_41 : clss 6 25 P6 ec6_41 = true := by decide +kernel
noncomputable def ec6_55 : List (Nat × Nat × Nat × Nat) := [(14760, 119, 834, 100000)]
theorem cl6_55 : clss 6 25 P6 ec6_55 = true := by decide +kernel
noncomputable def ec6_66 : List (Nat × Nat × Nat × Nat) := [(19080, 137, 726, 1452)]
theorem cl6_66 : clss 6 25 P6 ec6_66 = true := by decide +kernel
noncomputable def ec6_39 : List (Nat × Nat × Nat × Nat) := [(6840, 244, 0, 817)]
theorem cl6_39 : clss 6 25 P6 ec6_39 = true := by decide +kernel
noncomputable def ec6_37 : List (Nat × Nat × Nat × Nat) := [(6480, 161, 621, 1242)]
theorem cl6_37 : clss 6 25 P6 ec6_37 = true := by decide +kernel
noncomputable def ec6_0 : List (Nat × Nat × Nat × Nat) := [(750, 275, 0, 100000)]
theorem cl6_0 : clss 6 25 P6 ec6_0 = true := by decide +kernel
noncomputable def ec6_65 : List (Nat × Nat × Nat × Nat) := [(19080, 275, 0, 726)]
theorem cl6_65 : clss 6 25 P6 ec6_65 = true := by decide +kernel
noncomputable def ec6_47 : List (Nat × Nat × Nat × Nat) := [(10800, 289, 0, 100000)]
theorem cl6_47 : clss 6 25 P6 ec6_47 = true := by decide +kernel
noncomputable def ec6_2 : List (Nat × Nat × Nat × Nat) := [(900, 306, 0, 100000)]
theorem cl6_2 : clss 6 25 P6 ec6_2 = true := by decide +kernel
noncomputable def ec6_59 : List (Nat × Nat × Nat × Nat) := [(16200, 202, 494, 100000)]
theorem cl6_59 : clss 6 25 P6 ec6_59 = true := by decide +kernel
noncomputable def ec6_77 : List (Nat × Nat × Nat × Nat) := [(27000, 344, 0, 580)]
theorem cl6_77 : clss 6 25 P6 ec6_77 = true := by decide +kernel
noncomputable def ec6_3 : List (Nat × Nat × Nat × Nat) := [(1020, 354, 0, 100000)]
theorem cl6_3 : clss 6 25 P6 ec6_3 = true := by decide +kernel
noncomputable def ec6_4 : List (Nat × Nat × Nat × Nat) := [(1140, 385, 0, 519)]
theorem cl6_4 : clss 6 25 P6 ec6_4 = true := by decide +kernel
noncomputable def ec6_58 : List (Nat × Nat × Nat × Nat) := [(16200, 404, 0, 494)]
theorem cl6_58 : clss 6 25 P6 ec6_58 = true := by decide +kernel
theorem pls6 : lens 6 P6 = true := by decide +kernel
theorem full6 : full (tabP 6 (ones 46656) P6) (ones 46656) = true := by decide +kernel
theorem inj6 : injs (ones 720) (tabP 6 (ones 46656) P6) = true := by decide +kernel
theorem isp6 : allB (isP 6) (perm2 6) = true := by decide +kernel
noncomputable def ec6_1 : List (Nat × Nat × Nat × Nat) := [(810, 240, 0, 100000)]
theorem cl6_1 : clss 6 25 P6 ec6_1 = true := by decide +kernel
noncomputable def ec3_0 : List (Nat × Nat × Nat × Nat) := [(9, 1, 0, 100000), (15, 1, 0, 100000), (21, 1, 0, 100000), (27, 1, 0, 100000)]
theorem cl3_0 : clss 3 4 P3 ec3_0 = true := by decide +kernel
noncomputable def ec6_50 : List (Nat × Nat × Nat × Nat) := [(11520, 1, 0, 100000), (11880, 1, 0, 100000)]
theorem cl6_50 : clss 6 25 P6 ec6_50 = true := by decide +kernel
noncomputable def ec2_0 : List (Nat × Nat × Nat × Nat) := [(4, 1, 0, 100000)]
theorem cl2_0 : clss 2 1 P2 ec2_0 = true := by decide +kernel
noncomputable def ec6_76 : List (Nat × Nat × Nat × Nat) := [(26280, 1, 0, 100000)]
theorem cl6_76 : clss 6 25 P6 ec6_76 = true := by decide +kernel
end Cz
