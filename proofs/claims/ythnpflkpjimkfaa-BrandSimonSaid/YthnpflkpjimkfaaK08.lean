/-
  BrandSimon: the law answers true. Conditions: none.
-/
import Derived.Test.YthnpflkpjimkfaaK07
set_option linter.all false
namespace Go.Proofs.Ythnpflkpjimkfaa
open Go.AM
open Go.Proofs.Try (prog)
set_option linter.all false
set_option maxRecDepth 100000
set_option maxHeartbeats 8000000
theorem rem4 {n : Nat} (h : n < 256) : ((n : Nat) : Int).tmod 4 = ((n % 4 : Nat) : Int) := by
  rw [Int.tmod_eq_emod_of_nonneg (by omega)]; simp
theorem wordE_w {k : Nat} {s : List UInt8} (h : okW k s) : wordE k s = if 200 < s.length then 3 else 0 := by
  unfold wordE
  split
  · rfl
  · rw [if_pos ((letF_iff k s).2 h)]
theorem sim_runs {d : Nat} (a0 a1 : AV) (h0 : DatV prog (d + 4) 37 a0) (h1 : DatV prog (d + 4) 5 a1) : ∃ m', denC prog ann 16 [a0, a1] Mem.empty = some (.bool true, m') := by
  obtain ⟨s0, s1, q, bv, l, rfl, b0, b1, b2, hb, hlb, _⟩ := datV37 h0
  obtain ⟨n, rfl, hn256⟩ := datV5 h1
  obtain ⟨rows, good, k, nv, gv, ps, hn, hg, v, hp⟩ := plan_spec b0 b1 b2 hb hlb
  have n6 := v.n6
  have k1 := v.k1
  have k3 := v.k3
  have hgl := v.gl
  have hr : ∀ i, i < rows.length → (cth rows i).length ≤ 1000 := fun i hi => by rw [v.rl i hi]; omega
  have vt := v.to
  have vm := VB_M v
  have hk0 := v.k0
  have hs := fun m => short_ok hn hg (by omega) (by omega) hr vt (K := n % 4) (by omega) m
  have hf := fun m => simple_spec hn hg (by omega) (by omega) hr m
  have hgr := fun m => groups_spec hn hg (by omega) (by omega) hr m
  simp only [vt, if_true, hk0] at hs hf hgr
  rw [shoV_R] at hs
  have hr4 := rem4 hn256
  have hw : IntKind.wrap .i64 ((n : Nat) : Int) = (n : Nat) := wrap_id (by omega) (by omega)
  have hw4 : IntKind.wrap .i64 ((n % 4 : Nat) : Int) = ((n % 4 : Nat) : Int) := wrap_id (by omega) (by omega)
  have hK : n % 4 ≤ 3 := by omega
  have smn := fun T (h : shoB (rowsM rows good k) k (n % 4) = some T) => smn_of (K := n % 4) vm h
  have som := fun T (h : shoB (rowsM rows good k) k (n % 4) = some T) p => sho_some (K := n % 4) (p := p) vm h
  have hcl : closedL [.agg [.int .u8 (s0 : Nat), .int .u8 (s1 : Nat), bv, .int .u8 (q : Nat)], .int .u8 (n : Nat)] = true := by simp [hb.closed]
  have fg : ∃ (f1 f2 g1 : List UInt8) (f g g2 : Int), (∀ m, denC prog ann 52 [.agg [nv, gv]] m = some (.tup [.str f1, .str f2, .int .i64 f], m)) ∧ (∀ m, denC prog ann 44 [.agg [nv, gv]] m = some (.tup [.str g1, .int .i64 g2, .int .i64 g], m)) ∧
      ((f = 7 ∧ g = 7) ∨ ((f = 0 ∨ f = 5) ∧ (g = 0 ∨ g = 5) ∧ (f = 5 → g = 5) ∧ ∀ T, shoB (rowsM rows good k) k (n % 4) = some T → sel (cand (shoG (goodM rows good k) T).1 (shoG (goodM rows good k) T).2.1 (shoG (goodM rows good k) T).2.2) = none → f = 5)) := by
    cases e : madeB rows good k with
    | none =>
      rw [e] at hf hgr
      exact ⟨[], [], [], 7, 7, 0, hf, hgr, .inl ⟨rfl, rfl⟩⟩
    | some S =>
      rw [e] at hf hgr
      have W := MW_of v e
      have it := simple_iff vm W
      have grc : ∃ (g1 : List UInt8) (g2 g : Int), grpV (rowsM rows good k) S S.1.length 0 = .tup [.str g1, .int .i64 g2, .int .i64 g] ∧ (g = 0 ∨ g = 5) := by
        unfold grpV
        split
        · exact ⟨_, _, _, rfl, .inl rfl⟩
        · exact ⟨_, _, _, rfl, .inr rfl⟩
      by_cases c : (smp S (clsM (rowsM rows good k) S k true true)).2.2 = true
      · obtain ⟨g1, g2, g, eg, hg5⟩ := grc
        refine ⟨_, _, g1, 0, g, g2, fun m => by rw [hf m]; simp only [smpV]; rw [if_pos c], fun m => by rw [hgr m]; simp only []; rw [eg], .inr ⟨.inl rfl, hg5, fun h => by omega, fun T hT hn0 => ?_⟩⟩
        obtain ⟨i, j, h1, h2, h3, h4⟩ := it.1 c
        exact absurd (simon_j v W (smn T hT hn0) h1 h2 h4) h3
      · have hJ : ∀ x y, x < S.1.length → y < S.1.length → eJ (pr (rowsM rows good k) S) S.1.length x y → x = y := fun x y hx hy h => by
          refine Classical.byContradiction fun ne => c (it.2 ⟨x, y, hx, hy, ne, h⟩)
        have eg := grp_none vm W hJ
        exact ⟨_, _, [], 5, 5, 0, fun m => by rw [hf m]; simp only [smpV]; rw [if_neg c], fun m => by rw [hgr m]; simp only []; rw [eg], .inr ⟨.inr rfl, .inr rfl, fun _ => rfl, fun _ _ _ => rfl⟩⟩
  clear hf hgr
  obtain ⟨f1, f2, g1, f, g, g2, hf, hgr, hfg⟩ := fg
  refine ⟨Mem.empty, ?_⟩
  rw [l07_BrandSimon.call_eq _ _ _ hcl]
  have l0 := lives_spec
  cases o : shoB (rowsM rows good k) k (n % 4) with
  | none =>
    rw [o] at hs
    simp only [shoR, pV, fulV] at hs
    rcases hfg with ⟨rfl, rfl⟩ | ⟨h1, h2, h3, _⟩
    · simp [hp, hb.one, hb.closed, hn.one, hg.one, hn.closed, hg.closed, hn.cells, hg.cells, hw, hr4, hw4, hs, hf, hgr, lives_spec, -Int.natCast_emod]
      done
    · rcases h1 with rfl | rfl
      · rcases h2 with rfl | rfl
        · simp [hp, hb.one, hb.closed, hn.one, hg.one, hn.closed, hg.closed, hn.cells, hg.cells, hw, hr4, hw4, hs, hf, hgr, lives_spec, -Int.natCast_emod]
          done
        · simp [hp, hb.one, hb.closed, hn.one, hg.one, hn.closed, hg.closed, hn.cells, hg.cells, hw, hr4, hw4, hs, hf, hgr, lives_spec, -Int.natCast_emod]
          done
      · have := h3 rfl
        subst this
        simp [hp, hb.one, hb.closed, hn.one, hg.one, hn.closed, hg.closed, hn.cells, hg.cells, hw, hr4, hw4, hs, hf, hgr, lives_spec, -Int.natCast_emod]
        done
  | some T =>
    rw [o] at hs
    simp only [shoR, pV] at hs
    cases e : sel (cand (shoG (goodM rows good k) T).1 (shoG (goodM rows good k) T).2.1 (shoG (goodM rows good k) T).2.2) with
    | none =>
      rw [e] at hs
      simp only [selV] at hs
      rcases hfg with ⟨rfl, rfl⟩ | ⟨h1, h2, h3, h4⟩
      · simp [hp, hb.one, hb.closed, hn.one, hg.one, hn.closed, hg.closed, hn.cells, hg.cells, hw, hr4, hw4, hs, hf, hgr, lives_spec, -Int.natCast_emod]
        done
      · have := h4 T o e
        subst this
        have := h3 rfl
        subst this
        simp [hp, hb.one, hb.closed, hn.one, hg.one, hn.closed, hg.closed, hn.cells, hg.cells, hw, hr4, hw4, hs, hf, hgr, lives_spec, -Int.natCast_emod]
        done
    | some p =>
      rw [e] at hs
      simp only [selV] at hs
      obtain ⟨o1, o2, l1, l2, a1, a2, pe⟩ := som T o p e
      rw [← (small_lang v).goL o1] at a1
      rw [← (small_lang v).goL o2] at a2
      have ac1 := fun m => accepts_spec hn hg (by omega) (by omega) hr l1 m
      have ac2 := fun m => accepts_spec hn hg (by omega) (by omega) hr l2 m
      simp only [vt, if_true, hk0, wordE_w o1, wordE_w o2, a1, a2] at ac1 ac2
      have p1 := fun m => pts_spec (K := n % 4) k3 hK o1 l1 m
      have p2 := fun m => pts_spec (K := n % 4) k3 hK o2 l2 m
      rw [pR_same k3 o1 o2 pe] at p1
      have fin : ∀ (x y : Bool), (∀ m, denC prog ann 31 [.agg [nv, gv], .str p.1] m = some (if x = true then .tup [.bool false, .int .i64 3] else .tup [.bool true, .int .i64 0], m)) → (∀ m, denC prog ann 31 [.agg [nv, gv], .str p.2] m = some (if y = true then .tup [.bool false, .int .i64 3] else .tup [.bool false, .int .i64 0], m)) → (den prog ann 16 [.code l07_BrandSimon.b] ⟨[(0, .agg [.int .u8 (s0 : Nat), .int .u8 (s1 : Nat), bv, .int .u8 (q : Nat)]), (1, .int .u8 (n : Nat))], 132, Mem.empty⟩).bind (fun r => some (r.1, Mem.empty)) = some (.bool true, Mem.empty) := by
        intro x y hx hy
        rcases hfg with ⟨rfl, rfl⟩ | ⟨h1, h2, h3, _⟩
        · cases x <;> cases y <;> simp at hx hy <;> simp [hx, hy, p1, p2, hp, hb.one, hb.closed, hn.one, hg.one, hn.closed, hg.closed, hn.cells, hg.cells, hw, hr4, hw4, hs, hf, hgr, lives_spec, -Int.natCast_emod]
        · rcases h1 with rfl | rfl
          · rcases h2 with rfl | rfl
            · cases x <;> cases y <;> simp at hx hy <;> simp [hx, hy, p1, p2, hp, hb.one, hb.closed, hn.one, hg.one, hn.closed, hg.closed, hn.cells, hg.cells, hw, hr4, hw4, hs, hf, hgr, lives_spec, -Int.natCast_emod]
            · cases x <;> cases y <;> simp at hx hy <;> simp [hx, hy, p1, p2, hp, hb.one, hb.closed, hn.one, hg.one, hn.closed, hg.closed, hn.cells, hg.cells, hw, hr4, hw4, hs, hf, hgr, lives_spec, -Int.natCast_emod]
          · have := h3 rfl
            subst this
            cases x <;> cases y <;> simp at hx hy <;> simp [hx, hy, p1, p2, hp, hb.one, hb.closed, hn.one, hg.one, hn.closed, hg.closed, hn.cells, hg.cells, hw, hr4, hw4, hs, hf, hgr, lives_spec, -Int.natCast_emod]
      refine fin (decide (200 < p.1.length)) (decide (200 < p.2.length)) (fun m => ?_) (fun m => ?_)
      · rw [ac1 m]
        by_cases c : 200 < p.1.length <;> simp [c]
      · rw [ac2 m]
        by_cases c : 200 < p.2.length <;> simp [c]
end Go.Proofs.Ythnpflkpjimkfaa
