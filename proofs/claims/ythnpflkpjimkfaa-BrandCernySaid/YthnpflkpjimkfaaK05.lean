/- The facts of two to six states (written by mkk.py). -/
import Derived.Test.YthnpflkpjimkfaaKCzK0
import Derived.Test.YthnpflkpjimkfaaKCzK1
import Derived.Test.YthnpflkpjimkfaaKCzK2
import Derived.Test.YthnpflkpjimkfaaKCzK3
import Derived.Test.YthnpflkpjimkfaaKCzK4
import Derived.Test.YthnpflkpjimkfaaKCzK5
import Derived.Test.YthnpflkpjimkfaaK02
import Derived.Test.YthnpflkpjimkfaaK01
import Derived.Test.YthnpflkpjimkfaaKAmH
set_option linter.all false
set_option linter.all false
set_option maxRecDepth 1000000
namespace Cz
noncomputable def bl2 : List Nat := [4]
theorem eb2 : ends bl2 2 = eb2_0 := by decide +kernel
theorem cv2 : allB (fun hi => Nat.ble 100000 (cov hi (ec2_0) 0)) bl2 = true := by decide +kernel
theorem facts2 : Facts 2 1 P2 2 bl2 4 where
  last := by decide +kernel
  n2 := by omega
  n8 := by omega
  lim := by omega
  pls := pls2
  full := full2
  inj := inj2
  isp := isp2
  blk := by
    intro p hp
    rw [eb2] at hp
    exact (beq_iff _ _).1 (allB_spec (fun b : Nat × Nat => Nat.beq (orbs (tabP 2 (ones 4) P2) (ltr P2 (Nat.sub b.2 1)) (perm2 2) (Nat.xor (ones b.2) (ones b.1))) 0) _ (blk2_0) p hp)
  bnd := by decide +kernel
  rng := by decide +kernel
  cls := cls_of (E := ec2_0) (cl2_0) cv2
noncomputable def bl3 : List Nat := [9, 15, 21, 27]
theorem eb3 : ends bl3 6 = eb3_0 := by decide +kernel
theorem cv3 : allB (fun hi => Nat.ble 100000 (cov hi (ec3_0) 0)) bl3 = true := by decide +kernel
theorem facts3 : Facts 3 4 P3 6 bl3 27 where
  last := by decide +kernel
  n2 := by omega
  n8 := by omega
  lim := by omega
  pls := pls3
  full := full3
  inj := inj3
  isp := isp3
  blk := by
    intro p hp
    rw [eb3] at hp
    exact (beq_iff _ _).1 (allB_spec (fun b : Nat × Nat => Nat.beq (orbs (tabP 3 (ones 27) P3) (ltr P3 (Nat.sub b.2 1)) (perm2 3) (Nat.xor (ones b.2) (ones b.1))) 0) _ (blk3_0) p hp)
  bnd := by decide +kernel
  rng := by decide +kernel
  cls := cls_of (E := ec3_0) (cl3_0) cv3
noncomputable def bl4 : List Nat := [36, 48, 60, 72, 84, 96, 108, 132, 156, 180, 204, 228, 252, 256]
theorem eb4 : ends bl4 24 = eb4_0 := by decide +kernel
theorem cv4 : allB (fun hi => Nat.ble 100000 (cov hi (ec4_0 ++ (ec4_1)) 0)) bl4 = true := by decide +kernel
theorem facts4 : Facts 4 9 P4 24 bl4 256 where
  last := by decide +kernel
  n2 := by omega
  n8 := by omega
  lim := by omega
  pls := pls4
  full := full4
  inj := inj4
  isp := isp4
  blk := by
    intro p hp
    rw [eb4] at hp
    exact (beq_iff _ _).1 (allB_spec (fun b : Nat × Nat => Nat.beq (orbs (tabP 4 (ones 256) P4) (ltr P4 (Nat.sub b.2 1)) (perm2 4) (Nat.xor (ones b.2) (ones b.1))) 0) _ (blk4_0) p hp)
  bnd := by decide +kernel
  rng := by decide +kernel
  cls := cls_of (E := ec4_0 ++ (ec4_1)) (allB_app _ _ _ cl4_0 (cl4_1)) cv4
noncomputable def bl5 : List Nat := [140, 170, 200, 240, 300, 360, 420, 480, 540, 600, 660, 720, 780, 840, 900, 960, 1020, 1140, 1260, 1380, 1500, 1620, 1740, 1860, 1980, 2100, 2220, 2340, 2460, 2580, 2700, 2820, 2825, 2845, 2865, 2885, 2945, 3005, 3065, 3125]
theorem eb5 : ends bl5 120 = eb5_0 ++ (eb5_1) := by decide +kernel
theorem cv5 : allB (fun hi => Nat.ble 100000 (cov hi (ec5_0 ++ (ec5_1 ++ (ec5_2 ++ (ec5_3 ++ (ec5_4 ++ (ec5_5 ++ (ec5_6 ++ (ec5_7)))))))) 0)) bl5 = true := by decide +kernel
theorem facts5 : Facts 5 16 P5 120 bl5 3125 where
  last := by decide +kernel
  n2 := by omega
  n8 := by omega
  lim := by omega
  pls := pls5
  full := full5
  inj := inj5
  isp := isp5
  blk := by
    intro p hp
    rw [eb5] at hp
    exact (beq_iff _ _).1 (allB_spec (fun b : Nat × Nat => Nat.beq (orbs (tabP 5 (ones 3125) P5) (ltr P5 (Nat.sub b.2 1)) (perm2 5) (Nat.xor (ones b.2) (ones b.1))) 0) _ (allB_app _ _ _ blk5_0 (blk5_1)) p hp)
  bnd := by decide +kernel
  rng := by decide +kernel
  cls := cls_of (E := ec5_0 ++ (ec5_1 ++ (ec5_2 ++ (ec5_3 ++ (ec5_4 ++ (ec5_5 ++ (ec5_6 ++ (ec5_7)))))))) (allB_app _ _ _ cl5_0 (allB_app _ _ _ cl5_1 (allB_app _ _ _ cl5_2 (allB_app _ _ _ cl5_3 (allB_app _ _ _ cl5_4 (allB_app _ _ _ cl5_5 (allB_app _ _ _ cl5_6 (cl5_7)))))))) cv5
noncomputable def bl6 : List Nat := [750, 810, 900, 1020, 1140, 1260, 1440, 1620, 1800, 1980, 2160, 2340, 2520, 2700, 2880, 3060, 3240, 3480, 3720, 3960, 4320, 4680, 5040, 5400, 5760, 6120, 6480, 6840, 7200, 7560, 7920, 8280, 8640, 9000, 9360, 9720, 10080, 10440, 10800, 11160, 11520, 11880, 12240, 12600, 13320, 14040, 14760, 15480, 16200, 16920, 17640, 18360, 19080, 19800, 20520, 21240, 21960, 22680, 23400, 24120, 24840, 25560, 26280, 27000, 27720, 28440, 29160, 29880, 30600, 31320, 32040, 32760, 33480, 34200, 34920, 34926, 34956, 34986, 35016, 35076, 35136, 35226, 35316, 35436, 35556, 35676, 35796, 35916, 36036, 36156, 36276, 36396, 36516, 36696, 36936, 37296, 37656, 38016, 38376, 38736, 39096, 39456, 39816, 40176, 40536, 40896, 41256, 41616, 41976, 42336, 42696, 43056, 43416, 43776, 44136, 44496, 45216, 45936, 46656]
theorem eb6 : ends bl6 720 = eb6_0 ++ (eb6_1 ++ (eb6_2 ++ (eb6_3 ++ (eb6_4 ++ (eb6_5))))) := by decide +kernel
theorem cv6 : allB (fun hi => Nat.ble 100000 (cov hi (ec6_0 ++ (ec6_1 ++ (ec6_2 ++ (ec6_3 ++ (ec6_4 ++ (ec6_5 ++ (ec6_6 ++ (ec6_7 ++ (ec6_8 ++ (ec6_9 ++ (ec6_10 ++ (ec6_11 ++ (ec6_12 ++ (ec6_13 ++ (ec6_14 ++ (ec6_15 ++ (ec6_16 ++ (ec6_17 ++ (ec6_18 ++ (ec6_19 ++ (ec6_20 ++ (ec6_21 ++ (ec6_22 ++ (ec6_23 ++ (ec6_24 ++ (ec6_25 ++ (ec6_26 ++ (ec6_27 ++ (ec6_28 ++ (ec6_29 ++ (ec6_30 ++ (ec6_31 ++ (ec6_32 ++ (ec6_33 ++ (ec6_34 ++ (ec6_35 ++ (ec6_36 ++ (ec6_37 ++ (ec6_38 ++ (ec6_39 ++ (ec6_40 ++ (ec6_41 ++ (ec6_42 ++ (ec6_43 ++ (ec6_44 ++ (ec6_45 ++ (ec6_46 ++ (ec6_47 ++ (ec6_48 ++ (ec6_49 ++ (ec6_50 ++ (ec6_51 ++ (ec6_52 ++ (ec6_53 ++ (ec6_54 ++ (ec6_55 ++ (ec6_56 ++ (ec6_57 ++ (ec6_58 ++ (ec6_59 ++ (ec6_60 ++ (ec6_61 ++ (ec6_62 ++ (ec6_63 ++ (ec6_64 ++ (ec6_65 ++ (ec6_66 ++ (ec6_67 ++ (ec6_68 ++ (ec6_69 ++ (ec6_70 ++ (ec6_71 ++ (ec6_72 ++ (ec6_73 ++ (ec6_74 ++ (ec6_75 ++ (ec6_76 ++ (ec6_77 ++ (ec6_78 ++ (ec6_79 ++ (ec6_80 ++ (ec6_81 ++ (ec6_82 ++ (ec6_83 ++ (ec6_84 ++ (ec6_85 ++ (ec6_86 ++ (ec6_87 ++ (ec6_88 ++ (ec6_89 ++ (ec6_90 ++ (ec6_91 ++ (ec6_92 ++ (ec6_93)))))))))))))))))))))))))))))))))))))))))))))))))))))))))))))))))))))))))))))))))))))))))))))) 0)) bl6 = true := by decide +kernel
theorem facts6 : Facts 6 25 P6 720 bl6 46656 where
  last := by decide +kernel
  n2 := by omega
  n8 := by omega
  lim := by omega
  pls := pls6
  full := full6
  inj := inj6
  isp := isp6
  blk := by
    intro p hp
    rw [eb6] at hp
    exact (beq_iff _ _).1 (allB_spec (fun b : Nat × Nat => Nat.beq (orbs (tabP 6 (ones 46656) P6) (ltr P6 (Nat.sub b.2 1)) (perm2 6) (Nat.xor (ones b.2) (ones b.1))) 0) _ (allB_app _ _ _ blk6_0 (allB_app _ _ _ blk6_1 (allB_app _ _ _ blk6_2 (allB_app _ _ _ blk6_3 (allB_app _ _ _ blk6_4 (blk6_5)))))) p hp)
  bnd := by decide +kernel
  rng := by decide +kernel
  cls := cls_of (E := ec6_0 ++ (ec6_1 ++ (ec6_2 ++ (ec6_3 ++ (ec6_4 ++ (ec6_5 ++ (ec6_6 ++ (ec6_7 ++ (ec6_8 ++ (ec6_9 ++ (ec6_10 ++ (ec6_11 ++ (ec6_12 ++ (ec6_13 ++ (ec6_14 ++ (ec6_15 ++ (ec6_16 ++ (ec6_17 ++ (ec6_18 ++ (ec6_19 ++ (ec6_20 ++ (ec6_21 ++ (ec6_22 ++ (ec6_23 ++ (ec6_24 ++ (ec6_25 ++ (ec6_26 ++ (ec6_27 ++ (ec6_28 ++ (ec6_29 ++ (ec6_30 ++ (ec6_31 ++ (ec6_32 ++ (ec6_33 ++ (ec6_34 ++ (ec6_35 ++ (ec6_36 ++ (ec6_37 ++ (ec6_38 ++ (ec6_39 ++ (ec6_40 ++ (ec6_41 ++ (ec6_42 ++ (ec6_43 ++ (ec6_44 ++ (ec6_45 ++ (ec6_46 ++ (ec6_47 ++ (ec6_48 ++ (ec6_49 ++ (ec6_50 ++ (ec6_51 ++ (ec6_52 ++ (ec6_53 ++ (ec6_54 ++ (ec6_55 ++ (ec6_56 ++ (ec6_57 ++ (ec6_58 ++ (ec6_59 ++ (ec6_60 ++ (ec6_61 ++ (ec6_62 ++ (ec6_63 ++ (ec6_64 ++ (ec6_65 ++ (ec6_66 ++ (ec6_67 ++ (ec6_68 ++ (ec6_69 ++ (ec6_70 ++ (ec6_71 ++ (ec6_72 ++ (ec6_73 ++ (ec6_74 ++ (ec6_75 ++ (ec6_76 ++ (ec6_77 ++ (ec6_78 ++ (ec6_79 ++ (ec6_80 ++ (ec6_81 ++ (ec6_82 ++ (ec6_83 ++ (ec6_84 ++ (ec6_85 ++ (ec6_86 ++ (ec6_87 ++ (ec6_88 ++ (ec6_89 ++ (ec6_90 ++ (ec6_91 ++ (ec6_92 ++ (ec6_93)))))))))))))))))))))))))))))))))))))))))))))))))))))))))))))))))))))))))))))))))))))))))))))) (allB_app _ _ _ cl6_0 (allB_app _ _ _ cl6_1 (allB_app _ _ _ cl6_2 (allB_app _ _ _ cl6_3 (allB_app _ _ _ cl6_4 (allB_app _ _ _ cl6_5 (allB_app _ _ _ cl6_6 (allB_app _ _ _ cl6_7 (allB_app _ _ _ cl6_8 (allB_app _ _ _ cl6_9 (allB_app _ _ _ cl6_10 (allB_app _ _ _ cl6_11 (allB_app _ _ _ cl6_12 (allB_app _ _ _ cl6_13 (allB_app _ _ _ cl6_14 (allB_app _ _ _ cl6_15 (allB_app _ _ _ cl6_16 (allB_app _ _ _ cl6_17 (allB_app _ _ _ cl6_18 (allB_app _ _ _ cl6_19 (allB_app _ _ _ cl6_20 (allB_app _ _ _ cl6_21 (allB_app _ _ _ cl6_22 (allB_app _ _ _ cl6_23 (allB_app _ _ _ cl6_24 (allB_app _ _ _ cl6_25 (allB_app _ _ _ cl6_26 (allB_app _ _ _ cl6_27 (allB_app _ _ _ cl6_28 (allB_app _ _ _ cl6_29 (allB_app _ _ _ cl6_30 (allB_app _ _ _ cl6_31 (allB_app _ _ _ cl6_32 (allB_app _ _ _ cl6_33 (allB_app _ _ _ cl6_34 (allB_app _ _ _ cl6_35 (allB_app _ _ _ cl6_36 (allB_app _ _ _ cl6_37 (allB_app _ _ _ cl6_38 (allB_app _ _ _ cl6_39 (allB_app _ _ _ cl6_40 (allB_app _ _ _ cl6_41 (allB_app _ _ _ cl6_42 (allB_app _ _ _ cl6_43 (allB_app _ _ _ cl6_44 (allB_app _ _ _ cl6_45 (allB_app _ _ _ cl6_46 (allB_app _ _ _ cl6_47 (allB_app _ _ _ cl6_48 (allB_app _ _ _ cl6_49 (allB_app _ _ _ cl6_50 (allB_app _ _ _ cl6_51 (allB_app _ _ _ cl6_52 (allB_app _ _ _ cl6_53 (allB_app _ _ _ cl6_54 (allB_app _ _ _ cl6_55 (allB_app _ _ _ cl6_56 (allB_app _ _ _ cl6_57 (allB_app _ _ _ cl6_58 (allB_app _ _ _ cl6_59 (allB_app _ _ _ cl6_60 (allB_app _ _ _ cl6_61 (allB_app _ _ _ cl6_62 (allB_app _ _ _ cl6_63 (allB_app _ _ _ cl6_64 (allB_app _ _ _ cl6_65 (allB_app _ _ _ cl6_66 (allB_app _ _ _ cl6_67 (allB_app _ _ _ cl6_68 (allB_app _ _ _ cl6_69 (allB_app _ _ _ cl6_70 (allB_app _ _ _ cl6_71 (allB_app _ _ _ cl6_72 (allB_app _ _ _ cl6_73 (allB_app _ _ _ cl6_74 (allB_app _ _ _ cl6_75 (allB_app _ _ _ cl6_76 (allB_app _ _ _ cl6_77 (allB_app _ _ _ cl6_78 (allB_app _ _ _ cl6_79 (allB_app _ _ _ cl6_80 (allB_app _ _ _ cl6_81 (allB_app _ _ _ cl6_82 (allB_app _ _ _ cl6_83 (allB_app _ _ _ cl6_84 (allB_app _ _ _ cl6_85 (allB_app _ _ _ cl6_86 (allB_app _ _ _ cl6_87 (allB_app _ _ _ cl6_88 (allB_app _ _ _ cl6_89 (allB_app _ _ _ cl6_90 (allB_app _ _ _ cl6_91 (allB_app _ _ _ cl6_92 (cl6_93)))))))))))))))))))))))))))))))))))))))))))))))))))))))))))))))))))))))))))))))))))))))))))))) cv6
end Cz

/-
  THE LEAST WORD FOR RESET HAS AT MOST (n - 1)² LETTERS: plain law. Conditions: none.
-/
namespace Go.Proofs.Ythnpflkpjimkfaa
open Go.AM
open Go.Proofs.Try (prog)
set_option linter.all false
set_option maxRecDepth 100000
set_option maxHeartbeats 8000000
section
variable {rows : List (List Int)} {good : List Bool} {k : Nat}
def fL (rows : List (List Int)) (k a : Nat) : Nat → Nat := fun s => nx rows s (if a < k then a else 0)
def L3 (rows : List (List Int)) (k : Nat) : (Nat → Nat) → Prop := Cz.Three (fL rows k 0) (fL rows k 1) (fL rows k 2)
theorem L3_in (v : VB rows good k) : Cz.In rows.length (L3 rows k) := by
  have k1 := v.k1
  rintro f ((rfl | rfl) | rfl) s hs
  · exact (nx_lt v hs (by split <;> omega)).1
  · exact (nx_lt v hs (by split <;> omega)).1
  · exact (nx_lt v hs (by split <;> omega)).1
theorem L3_mem (v : VB rows good k) {a : Nat} (ha : a < k) : L3 rows k (fun s => nx rows s a) := by
  have k3 := v.k3
  have : a = 0 ∨ a = 1 ∨ a = 2 := by omega
  rcases this with rfl | rfl | rfl
  · refine Or.inl (Or.inl ?_); funext s; rw [fL, if_pos ha]
  · refine Or.inl (Or.inr ?_); funext s; rw [fL, if_pos ha]
  · refine Or.inr ?_; funext s; rw [fL, if_pos ha]
theorem L3_of (v : VB rows good k) {f : Nat → Nat} (h : L3 rows k f) : ∃ a, a < k ∧ f = fun s => nx rows s a := by
  have k1 := v.k1
  rcases h with (rfl | rfl) | rfl
  · exact ⟨_, by split <;> omega, rfl⟩
  · exact ⟨_, by split <;> omega, rfl⟩
  · exact ⟨_, by split <;> omega, rfl⟩
theorem run_gow (rows : List (List Int)) : ∀ (u : List Nat) (s : Nat), Cz.run (u.map fun a => fun s => nx rows s a) s = gow rows s u
  | [], s => rfl
  | a :: u, s => by
    rw [List.map_cons, Cz.run_cons, run_gow rows u]; rfl
theorem L3_word (v : VB rows good k) : ∀ w : List (Nat → Nat), Cz.Wd (L3 rows k) w → ∃ u : List Nat, (∀ a ∈ u, a < k) ∧ w = u.map fun a => fun s => nx rows s a
  | [], _ => ⟨[], by simp, rfl⟩
  | f :: w, h => by
    obtain ⟨a, ha, rfl⟩ := L3_of v (h f (List.mem_cons_self ..))
    obtain ⟨u, hu, rfl⟩ := L3_word v w fun g hg => h g (List.mem_cons_of_mem _ hg)
    refine ⟨a :: u, ?_, rfl⟩
    intro b hb
    rcases List.mem_cons.1 hb with e | e
    · rw [e]; exact ha
    · exact hu b e
theorem cerny_all (v : VB rows good k) (n2 : 2 ≤ rows.length) : Cz.Ok rows.length ((rows.length - 1) * (rows.length - 1)) (L3 rows k) := by
  have hN := L3_in v
  have n6 := v.n6
  unfold L3 at *
  generalize fL rows k 0 = f at *
  generalize fL rows k 1 = g at *
  generalize fL rows k 2 = h at *
  have : rows.length = 2 ∨ rows.length = 3 ∨ rows.length = 4 ∨ rows.length = 5 ∨ rows.length = 6 := by omega
  rcases this with e | e | e | e | e <;> rw [e] at hN ⊢
  · exact Cz.facts2.all hN
  · exact Cz.facts3.all hN
  · exact Cz.facts4.all hN
  · exact Cz.facts5.all hN
  · exact Cz.facts6.all hN
def QS (rows : List (List Int)) (k : Nat) (x : Nat) (w : List UInt8) : Prop := okW k w ∧ ∀ t, x.testBit t = true ↔ ∃ s, s < rows.length ∧ goL rows w s = t
theorem QS_step (v : VB rows good k) {x a : Nat} {w : List UInt8} (h : QS rows k x w) (ha : a < k) : QS rows k (nxS rows x a) (w ++ ltr a) := by
  have k3 := v.k3
  refine ⟨okW_ext h.1 ha k3, ?_⟩
  intro t
  rw [nxS_bit]
  constructor
  · rintro ⟨s, hs, h1, h2⟩
    obtain ⟨s0, g1, g2⟩ := (h.2 s).1 h1
    exact ⟨s0, g1, by rw [goL_ltr rows w (by omega), g2]; exact h2⟩
  · rintro ⟨s0, g1, g2⟩
    rw [goL_ltr rows w (by omega)] at g2
    exact ⟨goL rows w s0, goL_lt6 v h.1 g1, (h.2 _).2 ⟨s0, g1, rfl⟩, g2⟩
theorem QS_0 (v : VB rows good k) : QS rows k (pwB rows.length - 1) [] := by
  refine ⟨okW_nil k, ?_⟩
  intro t
  rw [pwB, Nat.testBit_two_pow_sub_one, decide_eq_true_eq]
  constructor
  · intro h; exact ⟨t, h, rfl⟩
  · rintro ⟨s, h, rfl⟩; exact h
theorem QS_lt (v : VB rows good k) {x : Nat} {w : List UInt8} (h : QS rows k x w) : x < 64 := by
  apply lt64
  intro t ht
  obtain ⟨s, hs, e⟩ := (h.2 t).1 ht
  have := goL_lt6 v h.1 hs
  have := v.n6
  omega
theorem gow_ltS (v : VB rows good k) : ∀ (u : List Nat) (s : Nat), (∀ a ∈ u, a < k) → s < rows.length → gow rows s u < rows.length
  | [], s, _, hs => hs
  | a :: u, s, h, hs => gow_ltS v u _ (fun b hb => h b (List.mem_cons_of_mem _ hb)) (nx_lt v hs (h a (List.mem_cons_self ..))).1
theorem setS (v : VB rows good k) : ∀ (u : List Nat) (x : Nat), (∀ a ∈ u, a < k) → (∀ t, x.testBit t = true → t < rows.length) → ∀ t, (u.foldl (nxS rows) x).testBit t = true → ∃ s, s < rows.length ∧ x.testBit s = true ∧ gow rows s u = t
  | [], x, _, hx, t, h => ⟨t, hx t h, h, rfl⟩
  | a :: u, x, hu, hx, t, h => by
    rw [List.foldl_cons] at h
    have ha := hu a (List.mem_cons_self ..)
    obtain ⟨s, h1, h2, h3⟩ := setS v u (nxS rows x a) (fun b hb => hu b (List.mem_cons_of_mem _ hb)) (fun t ht => by
      obtain ⟨s, g1, _, g3⟩ := (nxS_bit rows x a t).1 ht
      rw [← g3]; exact (nx_lt v g1 ha).1) t h
    obtain ⟨s0, g1, g2, g3⟩ := (nxS_bit rows x a s).1 h2
    refine ⟨s0, g1, g2, ?_⟩
    rw [gow, List.foldl_cons, g3]; exact h3
theorem cer_plain (v : VB rows good k) : match rstW rows k with
    | none => rows.length ≠ 1
    | some w => okW k w ∧ w.length ≤ (rows.length - 1) * (rows.length - 1) ∧ ∀ s, s < rows.length → ∀ t, t < rows.length → goL rows w s = goL rows w t := by
  have n1 := v.n1
  have n6 := v.n6
  cases e : rstW rows k with
  | none =>
    intro e1
    rw [rstW, e1] at e
    simp [bfs, stS, lowB, pwB] at e
  | some w =>
    have e' : bfs (nxS rows) (fun w a => w ++ ltr a) stS k 65 0 ([pwB rows.length - 1], [[]]) = some w := e
    obtain ⟨⟨x, q, hst⟩, hmin⟩ := bfs_least (nxt := nxS rows) (ext := fun w a => w ++ ltr a) (stop := stS) (k := k) (ln := List.length) (Q := QS rows k) (fun w a => by simp [ltr]) (fun x w a q ha => QS_step v q ha) rfl (QS_0 v) e'
    have hx := QS_lt v q
    have hall : ∀ s, s < rows.length → ∀ t, t < rows.length → goL rows w s = goL rows w t := by
      intro s hs t ht
      have l1 := goL_lt6 v q.1 hs
      have l2 := goL_lt6 v q.1 ht
      exact low_one x hx (by simpa [stS] using hst) _ (by omega) _ (by omega) ((q.2 _).2 ⟨s, hs, rfl⟩) ((q.2 _).2 ⟨t, ht, rfl⟩)
    refine ⟨q.1, ?_, hall⟩
    by_cases n2 : 2 ≤ rows.length
    · have hS : Cz.Syn rows.length (L3 rows k) := by
        refine ⟨(w.map fun c => c.toNat - 97).map fun a => fun s => nx rows s a, ?_, ?_⟩
        · intro f hf
          obtain ⟨a, ha, rfl⟩ := List.mem_map.1 hf
          obtain ⟨c, hc, rfl⟩ := List.mem_map.1 ha
          exact L3_mem v (q.1 c hc).2
        · intro s hs t ht
          rw [run_gow, run_gow, gow_goL, gow_goL]
          exact hall s hs t ht
      obtain ⟨w', w1, w2, w3⟩ := cerny_all v n2 hS
      obtain ⟨u, hu, rfl⟩ := L3_word v w' w1
      rw [List.length_map] at w2
      refine Nat.le_trans (hmin u hu ?_) w2
      have hb : ∀ t, (pwB rows.length - 1).testBit t = true → t < rows.length := by
        intro t ht
        rw [pwB, Nat.testBit_two_pow_sub_one, decide_eq_true_eq] at ht
        exact ht
      have hlt : ∀ t, (u.foldl (nxS rows) (pwB rows.length - 1)).testBit t = true → t < rows.length := by
        intro t ht
        obtain ⟨s, h1, _, h3⟩ := setS v u _ hu hb t ht
        rw [← h3]; exact gow_ltS v u s hu h1
      simp only [stS, decide_eq_true_eq]
      refine one_low _ (lt64 fun t ht => by have := hlt t ht; omega) ?_
      intro s _ t _ hs ht
      obtain ⟨s0, h1, _, h3⟩ := setS v u _ hu hb s hs
      obtain ⟨t0, g1, _, g3⟩ := setS v u _ hu hb t ht
      have := w3 s0 h1 t0 g1
      rw [run_gow, run_gow, h3, g3] at this
      exact this
    · have e1 : rows.length = 1 := by omega
      rw [rstW, e1] at e
      simp [bfs, stS, lowB, pwB] at e
      subst e; simp
end
end Go.Proofs.Ythnpflkpjimkfaa

/-
  BODIES OF FUNCTIONS OF THE PROGRAM AS SMALL OPERATIONS (written by gen.py; checked by the kernel against the program). Conditions: none.
-/
namespace Go.Proofs.Ythnpflkpjimkfaa
open Go.AM
open Go.Proofs.Try (prog)
set_option maxRecDepth 100000
set_option linter.all false
namespace l07_BrandCerny
noncomputable section
variable (K : List Item) (s : St)
def b : Code := (Try.f4.body).getD .skip
theorem hf : prog.funcs[4]? = some Try.f4 := by kernel_rfl
def r0 := findReg b 0
def r1 := findReg b 1
def r2 := findReg b 2
def r3 := findReg b 3
def r4 := findReg b 4
def i0 := findCond b 0
def i0t := thenOf i0
def i0e := elseOf i0
def r5 := findReg b 5
def r6 := findReg b 6
def i1 := findCond b 1
def i1t := thenOf i1
def i1e := elseOf i1
def r7 := findReg b 7
def r8 := findReg b 8
def k0 := findBlk b 0
def l0 := loopOf k0
def L0 (x3 x4 x6 x7 : AV) (m : Mem) (K : List Item) : Option Res := den prog ann 4 (.code l0 :: .inLoop l0 :: .inBlock 0 :: K) ⟨[(3, x3), (4, x4), (6, x6), (7, x7)], 64, m⟩
def r9 := findReg b 9
def i2 := findCond b 2
def i2t := thenOf i2
def i2e := elseOf i2
def k1 := findBlk b 1
def r11 := findReg b 11
def i3 := findCond b 3
def i3t := thenOf i3
def i3e := elseOf i3
def r12 := findReg b 12
def r10 := findReg b 10
def r13 := findReg b 13
theorem b_eq : den prog ann 4 (.code b :: K) s = den prog ann 4 (.code r0 :: .code r1 :: .code r2 :: .code r3 :: .code r4 :: .code i0 :: .code r6 :: .code i1 :: .code r8 :: .code k0 :: .code r13 :: .code .ret :: K) s := den_flat hf (l := [r0, r1, r2, r3, r4, i0, r6, i1, r8, k0, r13, .ret]) (by kernel_rfl) K s
theorem r0_eq : den prog ann 4 (.code r0 :: K) s = mreg prog ann 4 none [] none [] [qA 1 frozenPtr 0,qF 2 fun s => some (.bool false)] K s := (den_reg hf _ K s).trans (by kernel_rfl)
theorem r1_eq : den prog ann 4 (.code r1 :: K) s = mreg prog ann 4 none [] none [3] [qA 8 (loadF true 4) 1,⟨some 9, none, .c 0 (fun s => (.fn 22 [] [])) fun s => [(s.get 8)]⟩,⟨some 3, none, .w false none fun s => newPtr s.m [.nils, .nils]⟩,⟨none, none, .w false none fun s => stA true 2 s.m (s.get 3) (s.get 9)⟩] K s := (den_reg hf _ K s).trans (by kernel_rfl)
theorem r2_eq : den prog ann 4 (.code r2 :: K) s = mreg prog ann 4 none [] none [] [qA 11 (loadF true 2) 3,⟨some 12, none, .c 0 (fun s => (.fn 23 [] [])) fun s => [(s.get 11)]⟩,qC 10 12,qF 13 fun s => extA (s.get 10) 0,qF 14 fun s => extA (s.get 10) 1,qC 4 13,qC 5 14] K s := (den_reg hf _ K s).trans (by kernel_rfl)
theorem r3_eq : den prog ann 4 (.code r3 :: K) s = mreg prog ann 4 none [] none [] [qA 15 (fieldA 0) 3,qA 16 (loadF false 1) 15,qA 17 lenSl 16,qC 6 17] K s := (den_reg hf _ K s).trans (by kernel_rfl)
theorem r4_eq : den prog ann 4 (.code r4 :: K) s = mreg prog ann 4 none [] none [] [qC 18 5,qF 19 fun s => binA prog .neq 27 (s.get 18) (.int .i64 0)] K s := (den_reg hf _ K s).trans (by kernel_rfl)
theorem i0_eq : den prog ann 4 (.code i0 :: K) s = ifV prog ann 4 19 i0t i0e K s (s.get 19) := den_if hf (by kernel_rfl) K s
theorem i0t_eq : den prog ann 4 (.code i0t :: K) s = den prog ann 4 (.code r5 :: .code .ret :: K) s := den_flat hf (l := [r5, .ret]) (by kernel_rfl) K s
theorem r5_eq : den prog ann 4 (.code r5 :: K) s = mreg prog ann 4 none [] none [] [qC 20 5,qF 21 fun s => binA prog .eql 27 (s.get 20) (.int .i64 5),qC 22 21,⟨some 23, some (22, true), .v fun s => some (s.get 4)⟩,⟨some 24, some (22, true), .v fun s => binA prog .eql 9 (s.get 23) (.str [])⟩,qF 25 fun s => pickA (s.get 22) (s.get 24) (.bool false),qC 26 25,⟨some 27, some (26, true), .v fun s => some (s.get 6)⟩,⟨some 28, some (26, true), .v fun s => binA prog .gtr 3 (s.get 27) (.int .i64 1)⟩,qF 29 fun s => pickA (s.get 26) (s.get 28) (.bool false),qC 30 29,⟨some 31, some (30, true), .c 0 (fun s => (.fn 21 [] [])) fun s => []⟩,qF 32 fun s => pickA (s.get 30) (s.get 31) (.bool false),qC 2 32] K s := (den_reg hf _ K s).trans (by kernel_rfl)
theorem i0e_eq : den prog ann 4 (.code i0e :: K) s = den prog ann 4 (K) s := den_flat hf (l := []) (by kernel_rfl) K s
theorem r6_eq : den prog ann 4 (.code r6 :: K) s = mreg prog ann 4 none [] none [] [qC 33 4,qA 34 lenStr 33,qC 35 6,qF 36 fun s => binA prog .sub 3 (s.get 35) (.int .i64 1),qC 37 6,qF 38 fun s => binA prog .sub 3 (s.get 37) (.int .i64 1),qB 39 (binA prog .mul 3) 36 38,qB 40 (binA prog .gtr 3) 34 39,qC 41 40,⟨some 42, some (41, false), .v fun s => loadF true 2 (s.get 3)⟩,⟨some 43, some (41, false), .v fun s => some (s.get 4)⟩,⟨some 44, some (41, false), .c 0 (fun s => (.fn 24 [] [])) fun s => [(s.get 42), (s.get 43)]⟩,⟨some 45, some (41, false), .v fun s => binA prog .neq 27 (s.get 44) (.int .i64 0)⟩,qF 46 fun s => pickA (s.get 41) (.bool true) (s.get 45),qC 47 46,⟨some 48, some (47, false), .c 0 (fun s => (.fn 21 [] [])) fun s => []⟩,⟨some 49, some (47, false), .v fun s => unA .not (s.get 48)⟩,qF 50 fun s => pickA (s.get 47) (.bool true) (s.get 49)] K s := (den_reg hf _ K s).trans (by kernel_rfl)
theorem i1_eq : den prog ann 4 (.code i1 :: K) s = ifV prog ann 4 50 i1t i1e K s (s.get 50) := den_if hf (by kernel_rfl) K s
theorem i1t_eq : den prog ann 4 (.code i1t :: K) s = den prog ann 4 (.code r7 :: .code .ret :: K) s := den_flat hf (l := [r7, .ret]) (by kernel_rfl) K s
theorem r7_eq : den prog ann 4 (.code r7 :: K) s = mreg prog ann 4 none [] none [] [qF 2 fun s => some (.bool false)] K s := (den_reg hf _ K s).trans (by kernel_rfl)
theorem i1e_eq : den prog ann 4 (.code i1e :: K) s = den prog ann 4 (K) s := den_flat hf (l := []) (by kernel_rfl) K s
theorem r8_eq : den prog ann 4 (.code r8 :: K) s = mreg prog ann 4 none [] none [] [qF 7 fun s => some (.int .i64 1)] K s := (den_reg hf _ K s).trans (by kernel_rfl)
theorem k0_eq (K : List Item) (t : List (Nat × AV)) (m : Mem) : den prog ann 4 (.code k0 :: K) ⟨t, 64, m⟩ = L0 (get t 3) (get t 4) (get t 6) (get t 7) m K := den_loop_enter hf (b := l0) (id := 9) (l := [3, 4, 6, 7]) (by kernel_rfl) (by kernel_rfl) (by kernel_rfl) K _
theorem l0_eq (K : List Item) (t : List (Nat × AV)) (m : Mem) : den prog ann 4 (.inLoop l0 :: .inBlock 0 :: K) ⟨t, 64, m⟩ = L0 (get t 3) (get t 4) (get t 6) (get t 7) m K := den_loop_again hf (id := 9) (l := [3, 4, 6, 7]) (by kernel_rfl) (by kernel_rfl) (.inBlock 0 :: K) _
theorem L0_eq (x3 x4 x6 x7 : AV) (m : Mem) (K : List Item) : L0 x3 x4 x6 x7 m K = den prog ann 4 (.code r9 :: .code i2 :: .code k1 :: .code r10 :: .inLoop l0 :: .inBlock 0 :: K) ⟨[(3, x3), (4, x4), (6, x6), (7, x7)], 64, m⟩ := den_flat hf (l := [r9, i2, k1, r10]) (by kernel_rfl) _ _
theorem r9_eq : den prog ann 4 (.code r9 :: K) s = mreg prog ann 4 (some [3, 4, 6, 7]) [] none [] [qC 51 7,qC 52 6,qB 53 (binA prog .lss 3) 51 52] K s := (den_reg hf _ K s).trans (by kernel_rfl)
theorem i2_eq : den prog ann 4 (.code i2 :: K) s = ifV prog ann 4 53 i2t i2e K s (s.get 53) := den_if hf (by kernel_rfl) K s
theorem i2t_eq : den prog ann 4 (.code i2t :: K) s = den prog ann 4 (K) s := den_flat hf (l := []) (by kernel_rfl) K s
theorem i2e_eq : den prog ann 4 (.code i2e :: K) s = den prog ann 4 (.code (.exit 0) :: K) s := den_flat hf (l := [(.exit 0)]) (by kernel_rfl) K s
theorem k1_eq : den prog ann 4 (.code k1 :: K) s = den prog ann 4 (.code r11 :: .code i3 :: .inBlock 1 :: K) s := den_blk hf (b := blkOf k1) (l := [r11, i3]) (by kernel_rfl) (by kernel_rfl) K s
theorem r11_draw : drawOk (fun g => (ann g).pure) (modeOf (ann 4) (idOf r11)) (frzOf (ann 4) (idOf r11)) (opsOf r11) = true := drawOk_of (an := [0, 0, 0, 7, 0, 0, 63, 127]) (by kernel_rfl) (by kernel_rfl)
theorem r11_eq : den prog ann 4 (.code r11 :: K) s = mreg prog ann 4 none [] (some 8) [] [qA 56 (loadF true 2) 3,qC 57 7,qC 58 4,⟨some 59, none, .c 0 (fun s => (.fn 25 [] [])) fun s => [(s.get 56), (s.get 57), (s.get 58)]⟩,qA 60 (loadF true 2) 3,qC 61 4,⟨some 62, none, .c 0 (fun s => (.fn 25 [] [])) fun s => [(s.get 60), (.int .i64 0), (s.get 61)]⟩,qB 63 (binA prog .neq 3) 59 62] K s := (den_regD hf r11_draw K s).trans (by kernel_rfl)
theorem i3_eq : den prog ann 4 (.code i3 :: K) s = ifV prog ann 4 63 i3t i3e K s (s.get 63) := den_if hf (by kernel_rfl) K s
theorem i3t_eq : den prog ann 4 (.code i3t :: K) s = den prog ann 4 (.code r12 :: .code .ret :: K) s := den_flat hf (l := [r12, .ret]) (by kernel_rfl) K s
theorem r12_eq : den prog ann 4 (.code r12 :: K) s = mreg prog ann 4 none [] none [] [qF 2 fun s => some (.bool false)] K s := (den_reg hf _ K s).trans (by kernel_rfl)
theorem i3e_eq : den prog ann 4 (.code i3e :: K) s = den prog ann 4 (K) s := den_flat hf (l := []) (by kernel_rfl) K s
theorem r10_eq : den prog ann 4 (.code r10 :: K) s = mreg prog ann 4 (some [3, 4, 6, 7]) [] none [] [qC 54 7,qF 55 fun s => binA prog .add 3 (s.get 54) (.int .i64 1),qC 7 55] K s := (den_reg hf _ K s).trans (by kernel_rfl)
theorem r13_eq : den prog ann 4 (.code r13 :: K) s = mreg prog ann 4 (some []) [] none [] [qF 2 fun s => some (.bool true)] K s := (den_reg hf _ K s).trans (by kernel_rfl)
theorem ret_eq : den prog ann 4 (.code .ret :: K) s = finM true [fun s => some (s.get 2)] s := (den_ret hf K s).trans (by kernel_rfl)
theorem nil_eq (s : St) : den prog ann 4 [] s = finM true [fun s => some (s.get 2)] s := (den_nil hf s).trans (by kernel_rfl)
theorem inBlock_eq (id : Nat) (K : List Item) (s : St) : den prog ann 4 (.inBlock id :: K) s = den prog ann 4 K s := den_inBlock hf id K s
theorem exit_eq (id : Nat) (K : List Item) (s : St) : den prog ann 4 (.code (.exit id) :: K) s = exitV prog ann 4 (exitTo id K) s := den_exitV hf id K s
theorem call_eq (v0 : AV) (m : Mem) (h : closedL [v0] = true) : denC prog ann 4 [v0] m = (den prog ann 4 [.code b] ⟨[(0, v0)], 64, Mem.empty⟩).bind fun r => some (r.1, m) := (denC_pure hf (b := b) (by kernel_rfl) (by kernel_rfl) (by kernel_rfl) h m).trans (by kernel_rfl)
theorem pure_eq : (ann 4).pure = true := by kernel_rfl
attribute [simp] b_eq r0_eq r1_eq r2_eq r3_eq r4_eq i0_eq i0t_eq r5_eq i0e_eq r6_eq i1_eq i1t_eq r7_eq i1e_eq r8_eq k0_eq l0_eq r9_eq i2_eq i2t_eq i2e_eq k1_eq r11_eq i3_eq i3t_eq r12_eq i3e_eq r10_eq r13_eq ret_eq nil_eq inBlock_eq exit_eq pure_eq
end
end l07_BrandCerny
end Go.Proofs.Ythnpflkpjimkfaa

/-
  BrandCerny: the law answers true. Conditions: none.
-/
namespace Go.Proofs.Ythnpflkpjimkfaa
open Go.AM
open Go.Proofs.Try (prog)
set_option linter.all false
set_option maxRecDepth 100000
set_option maxHeartbeats 8000000
theorem wordE_okC {k : Nat} {s : List UInt8} (h : s.length ≤ 200) (g : okW k s) : wordE k s = 0 := by
  unfold wordE
  rw [if_neg (by omega), if_pos ((letF_iff k s).2 g)]
noncomputable def KCer : List Item := [.code l07_BrandCerny.r13, .code .ret]
theorem cer_loop {nv gv : AV} {ps : List AV} {rows : List (List Int)} {good : List Bool} {k : Nat} (hn : IsRows nv ps rows) (hg : IsB gv good) (v : VB rows good k) {w : List UInt8} (hw : okW k w) (hl : w.length ≤ 1000) (h : ∀ s, s < rows.length → ∀ t, t < rows.length → goL rows w s = goL rows w t) :
    ∀ (c i : Nat) (m : Mem), i + c = rows.length → l07_BrandCerny.L0 (.fptr [nv, gv]) (.str w) (.int .i64 rows.length) (.int .i64 i) m KCer = some (.bool true, Mem.empty) := by
  have n1 := v.n1
  have n6 := v.n6
  intro c
  induction c with
  | zero =>
    intro i m h1
    have e : i = rows.length := by omega
    subst e
    rw [l07_BrandCerny.L0_eq]
    simp [KCer]
    done
  | succ c ih =>
    intro i m h1
    have hi : i < rows.length := by omega
    have hwi : IntKind.wrap .i64 ((i : Int) + 1) = (i : Int) + 1 := wrap_id (by omega) (by omega)
    have st := fun m => ih (i + 1) m (by omega)
    simp only [Int.natCast_add, Int.cast_ofNat_Int] at st
    have g1 := fun m => go_spec hn hg v (s := w) (by omega) ((letF_iff k w).2 hw) hi m
    have g2 := fun m => go_spec hn hg v (s := w) (by omega) ((letF_iff k w).2 hw) (st := 0) (by omega) m
    simp only [Int.ofNat_zero, Int.cast_ofNat_Int] at g2
    have e := h i hi 0 (by omega)
    rw [l07_BrandCerny.L0_eq]
    simp [hi, hn.closed, hg.closed, hn.one, hg.one, hn.cells, hg.cells, g1, g2, e, hwi, st]
    done
theorem cer_runs {d : Nat} (a0 : AV) (h0 : DatV prog (d + 4) 37 a0) : ∃ m', denC prog ann 4 [a0] Mem.empty = some (.bool true, m') := by
  obtain ⟨s0, s1, q, bv, l, rfl, b0, b1, b2, hb, hlb, _⟩ := datV37 h0
  obtain ⟨rows, good, k, nv, gv, ps, hn, hg, v, hp⟩ := plan_spec b0 b1 b2 hb hlb
  have n1 := v.n1
  have n6 := v.n6
  have k3 := v.k3
  have hgl := v.gl
  have hr : ∀ i, i < rows.length → (cth rows i).length ≤ 1000 := fun i hi => by rw [v.rl i hi]; omega
  have vt := v.to
  have r1 := fun m => reset_spec hn hg (by omega) (by omega) hr m
  rw [vt, if_pos rfl, v.k0] at r1
  have pl := cer_plain v
  have hws : IntKind.wrap .i64 ((rows.length : Int) - 1) = ((rows.length - 1 : Nat) : Int) := by rw [wrap_id (by omega) (by omega)]; omega
  have h25 : (rows.length - 1) * (rows.length - 1) ≤ 25 := Nat.mul_le_mul (show rows.length - 1 ≤ 5 by omega) (show rows.length - 1 ≤ 5 by omega)
  have hwm : IntKind.wrap .i64 (((rows.length - 1 : Nat) : Int) * ((rows.length - 1 : Nat) : Int)) = (((rows.length - 1) * (rows.length - 1) : Nat) : Int) := by
    rw [← Int.natCast_mul, wrap_id (by omega) (by omega)]
  refine ⟨Mem.empty, ?_⟩
  rw [l07_BrandCerny.call_eq _ _ (by simp [hb.closed])]
  cases er : rstW rows k with
  | none =>
    rw [er] at r1 pl
    simp [hb.one, hb.closed, hp, hn.one, hg.one, hn.closed, hg.closed, hn.cells, hg.cells, r1, resP, lives_spec, hn.len, show (1 : Int) < rows.length by omega]
    done
  | some w =>
    rw [er] at r1 pl
    obtain ⟨p1, p2, p3⟩ := pl
    have we := fun m => word_spec hn hg (by omega) (by rw [v.k0]; omega) (s := w) (by omega) m
    rw [v.k0, wordE_okC (by omega) p1] at we
    have lp := fun m => cer_loop hn hg v p1 (by omega) p3 (rows.length - 1) 1 m (by omega)
    simp only [Int.cast_ofNat_Int, KCer] at lp
    have hlw : ¬ (((rows.length - 1 : Nat) : Int) * ((rows.length - 1 : Nat) : Int) < (w.length : Int)) := by rw [← Int.natCast_mul]; omega
    simp [hb.one, hb.closed, hp, hn.one, hg.one, hn.closed, hg.closed, hn.cells, hg.cells, r1, resP, lives_spec, hn.len, hws, hwm, hlw, we, lp]
    done
end Go.Proofs.Ythnpflkpjimkfaa
