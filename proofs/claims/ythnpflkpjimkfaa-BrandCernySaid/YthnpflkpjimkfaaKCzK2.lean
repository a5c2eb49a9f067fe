/- Tests of the search for words that lead all states to one, done by the kernel (written by mkk.py). -/
import Derived.Test.YthnpflkpjimkfaaK03
import Derived.Test.YthnpflkpjimkfaaK04
set_option linter.all false
set_option linter.all false
set_option maxRecDepth 1000000
namespace Cz
noncomputable def eb6_1 : List (Nat × Nat) := [(3960, 4320), (4320, 4680), (4680, 5040), (5040, 5400), (5400, 5760), (5760, 6120), (6120, 6480), (6480, 6840), (6840, 7200), (7200, 7560), (7560, 7920), (7920, 8280), (8280, 8640), (8640, 9000), (9000, 9360), (9360, 9720), (9720, 10080), (10080, 10440), (10440, 10800), (10800, 11160)]
theorem blk6_1 : blks 6 P6 (tabP 6 (ones 46656) P6) (perm2 6) eb6_1 = true := by decide +kernel
noncomputable def eb6_5 : List (Nat × Nat) := [(38736, 39096), (39096, 39456), (39456, 39816), (39816, 40176), (40176, 40536), (40536, 40896), (40896, 41256), (41256, 41616), (41616, 41976), (41976, 42336), (42336, 42696), (42696, 43056), (43056, 43416), (43416, 43776), (43776, 44136), (44136, 44496), (44496, 45216), (45216, 45936), (45936, 46656)]
theorem blk6_5 : blks 6 P6 (tabP 6 (ones 46656) P6) (perm2 6) eb6_5 = true := by decide +kernel
noncomputable def ec6_84 : List (Nat × Nat × Nat × Nat) := [(30600, 130, 764, 100000)]
theorem cl6_84 : clss 6 25 P6 ec6_84 = true := by decide +kernel
noncomputable def ec6_57 : List (Nat × Nat × Nat × Nat) := [(15480, 136, 733, 100000)]
theorem cl6_57 : clss 6 25 P6 ec6_57 = true := by decide +kernel
noncomputable def ec6_61 : List (Nat × Nat × Nat × Nat) := [(17640, 236, 0, 847)]
theorem cl6_61 : clss 6 25 P6 ec6_61 = true := by decide +kernel
noncomputable def ec6_29 : List (Nat × Nat × Nat × Nat) := [(5400, 163, 610, 1220)]
theorem cl6_29 : clss 6 25 P6 ec6_29 = true := by decide +kernel
noncomputable def ec6_56 : List (Nat × Nat × Nat × Nat) := [(15480, 272, 0, 733)]
theorem cl6_56 : clss 6 25 P6 ec6_56 = true := by decide +kernel
noncomputable def ec6_23 : List (Nat × Nat × Nat × Nat) := [(3960, 172, 581, 100000)]
theorem cl6_23 : clss 6 25 P6 ec6_23 = true := by decide +kernel
noncomputable def ec6_25 : List (Nat × Nat × Nat × Nat) := [(4320, 182, 548, 100000)]
theorem cl6_25 : clss 6 25 P6 ec6_25 = true := by decide +kernel
noncomputable def ec6_90 : List (Nat × Nat × Nat × Nat) := [(33480, 297, 0, 100000)]
theorem cl6_90 : clss 6 25 P6 ec6_90 = true := by decide +kernel
noncomputable def ec6_48 : List (Nat × Nat × Nat × Nat) := [(11160, 330, 0, 605)]
theorem cl6_48 : clss 6 25 P6 ec6_48 = true := by decide +kernel
noncomputable def ec6_16 : List (Nat × Nat × Nat × Nat) := [(2880, 349, 0, 100000)]
theorem cl6_16 : clss 6 25 P6 ec6_16 = true := by decide +kernel
noncomputable def ec6_43 : List (Nat × Nat × Nat × Nat) := [(7200, 1, 0, 100000), (7560, 1, 0, 100000), (7920, 1, 0, 100000), (8280, 409, 0, 100000), (8640, 1, 0, 100000)]
theorem cl6_43 : clss 6 25 P6 ec6_43 = true := by decide +kernel
noncomputable def ec6_26 : List (Nat × Nat × Nat × Nat) := [(4680, 367, 0, 100000)]
theorem cl6_26 : clss 6 25 P6 ec6_26 = true := by decide +kernel
noncomputable def ec6_19 : List (Nat × Nat × Nat × Nat) := [(3480, 417, 0, 100000)]
theorem cl6_19 : clss 6 25 P6 ec6_19 = true := by decide +kernel
noncomputable def ec6_45 : List (Nat × Nat × Nat × Nat) := [(9360, 342, 0, 100000)]
theorem cl6_45 : clss 6 25 P6 ec6_45 = true := by decide +kernel
noncomputable def ec6_13 : List (Nat × Nat × Nat × Nat) := [(2340, 204, 0, 100000)]
theorem cl6_13 : clss 6 25 P6 ec6_13 = true := by decide +kernel
noncomputable def eb5_1 : List (Nat × Nat) := [(1380, 1500), (1500, 1620), (1620, 1740), (1740, 1860), (1860, 1980), (1980, 2100), (2100, 2220), (2220, 2340), (2340, 2460), (2460, 2580), (2580, 2700), (2700, 2820), (2820, 2825), (2825, 2845), (2845, 2865), (2865, 2885), (2885, 2945), (2945, 3005), (3005, 3065), (3065, 3125)]
theorem blk5_1 : blks 5 P5 (tabP 5 (ones 3125) P5) (perm2 5) eb5_1 = true := by decide +kernel
noncomputable def ec4_1 : List (Nat × Nat × Nat × Nat) := [(256, 1, 0, 100000)]
theorem cl4_1 : clss 4 9 P4 ec4_1 = true := by decide +kernel
noncomputable def ec6_82 : List (Nat × Nat × Nat × Nat) := [(29880, 1, 0, 100000)]
theorem cl6_82 : clss 6 25 P6 ec6_82 = true := by decide +kernel
end Cz
