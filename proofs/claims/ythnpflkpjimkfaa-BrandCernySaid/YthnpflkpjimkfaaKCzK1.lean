/- Tests of the search for words that lead all states to one, done by the kernel (written by mkk.py). -/
import Derived.Test.YthnpflkpjimkfaaK03
import Derived.Test.YthnpflkpjimkfaaK04
set_option linter.all false
set_option linter.all false
set_option maxRecDepth 1000000
namespace Cz
noncomputable def eb6_0 : List (Nat × Nat) := [(720, 750), (750, 810), (810, 900), (900, 1020), (1020, 1140), (1140, 1260), (1260, 1440), (1440, 1620), (1620, 1800), (1800, 1980), (1980, 2160), (2160, 2340), (2340, 2520), (2520, 2700), (2700, 2880), (2880, 3060), (3060, 3240), (3240, 3480), (3480, 3720), (3720, 3960)]
theorem blk6_0 : blks 6 P6 (tabP 6 (ones 46656) P6) (perm2 6) eb6_0 = true := by decide +kernel
noncomputable def ec6_89 : List (Nat × Nat × Nat × Nat) := [(32760, 74, 1788, 100000)]
theorem cl6_89 : clss 6 25 P6 ec6_89 = true := by decide +kernel
noncomputable def ec6_32 : List (Nat × Nat × Nat × Nat) := [(5760, 134, 744, 1488)]
theorem cl6_32 : clss 6 25 P6 ec6_32 = true := by decide +kernel
noncomputable def ec6_87 : List (Nat × Nat × Nat × Nat) := [(32760, 223, 0, 894)]
theorem cl6_87 : clss 6 25 P6 ec6_87 = true := by decide +kernel
noncomputable def ec6_21 : List (Nat × Nat × Nat × Nat) := [(3720, 150, 663, 100000)]
theorem cl6_21 : clss 6 25 P6 ec6_21 = true := by decide +kernel
noncomputable def ec6_71 : List (Nat × Nat × Nat × Nat) := [(22680, 260, 0, 100000)]
theorem cl6_71 : clss 6 25 P6 ec6_71 = true := by decide +kernel
noncomputable def ec6_34 : List (Nat × Nat × Nat × Nat) := [(6120, 269, 0, 742)]
theorem cl6_34 : clss 6 25 P6 ec6_34 = true := by decide +kernel
noncomputable def ec6_9 : List (Nat × Nat × Nat × Nat) := [(1620, 276, 0, 100000)]
theorem cl6_9 : clss 6 25 P6 ec6_9 = true := by decide +kernel
noncomputable def ec6_12 : List (Nat × Nat × Nat × Nat) := [(2160, 294, 0, 100000)]
theorem cl6_12 : clss 6 25 P6 ec6_12 = true := by decide +kernel
noncomputable def ec6_79 : List (Nat × Nat × Nat × Nat) := [(27720, 315, 0, 100000)]
theorem cl6_79 : clss 6 25 P6 ec6_79 = true := by decide +kernel
noncomputable def ec6_36 : List (Nat × Nat × Nat × Nat) := [(6480, 322, 0, 621)]
theorem cl6_36 : clss 6 25 P6 ec6_36 = true := by decide +kernel
noncomputable def ec6_69 : List (Nat × Nat × Nat × Nat) := [(19800, 358, 0, 100000), (20520, 1, 0, 100000), (21240, 1, 0, 100000)]
theorem cl6_69 : clss 6 25 P6 ec6_69 = true := by decide +kernel
noncomputable def ec6_7 : List (Nat × Nat × Nat × Nat) := [(1440, 350, 0, 570)]
theorem cl6_7 : clss 6 25 P6 ec6_7 = true := by decide +kernel
noncomputable def ec6_44 : List (Nat × Nat × Nat × Nat) := [(9000, 390, 0, 100000)]
theorem cl6_44 : clss 6 25 P6 ec6_44 = true := by decide +kernel
noncomputable def ec5_6 : List (Nat × Nat × Nat × Nat) := [(1860, 238, 0, 100000), (1980, 1, 0, 100000), (2100, 1, 0, 100000), (2220, 1, 0, 100000), (2340, 1, 0, 100000), (2460, 74, 0, 100000), (2580, 1, 0, 100000)]
theorem cl5_6 : clss 5 16 P5 ec5_6 = true := by decide +kernel
noncomputable def ec5_7 : List (Nat × Nat × Nat × Nat) := [(2700, 82, 0, 100000), (2820, 1, 0, 100000), (2825, 1, 0, 100000), (2845, 1, 0, 100000), (2865, 1, 0, 100000), (2885, 1, 0, 100000), (2945, 1, 0, 100000), (3005, 1, 0, 100000), (3065, 1, 0, 100000), (3125, 1, 0, 100000)]
theorem cl5_7 : clss 5 16 P5 ec5_7 = true := by decide +kernel
noncomputable def ec6_15 : List (Nat × Nat × Nat × Nat) := [(2700, 228, 0, 100000)]
theorem cl6_15 : clss 6 25 P6 ec6_15 = true := by decide +kernel
noncomputable def ec6_93 : List (Nat × Nat × Nat × Nat) := [(43776, 1, 0, 100000), (44136, 1, 0, 100000), (44496, 1, 0, 100000), (45216, 1, 0, 100000), (45936, 1, 0, 100000), (46656, 1, 0, 100000)]
theorem cl6_93 : clss 6 25 P6 ec6_93 = true := by decide +kernel
noncomputable def ec6_53 : List (Nat × Nat × Nat × Nat) := [(13320, 1, 0, 100000), (14040, 1, 0, 100000)]
theorem cl6_53 : clss 6 25 P6 ec6_53 = true := by decide +kernel
end Cz
