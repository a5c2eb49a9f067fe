/-
  BrandAccepts: the law answers true. Conditions: none.
-/
import Derived.Test.YthnpflkpjimkfaaK00
import Derived.Test.YthnpflkpjimkfaaK04
set_option linter.all false
namespace Go.Proofs.Ythnpflkpjimkfaa
open Go.AM
open Go.Proofs.Try (prog)
set_option linter.all false
set_option maxRecDepth 100000
set_option maxHeartbeats 8000000

theorem IsRows.cells {v : AV} {ps : List AV} {rows : List (List Int)} (h : IsRows v ps rows) : v.cells = [v] := by rcases h.val with ⟨rfl, _⟩ | ⟨_, rfl⟩ <;> rfl
end Go.Proofs.Ythnpflkpjimkfaa

/-
  BrandSmallest: the law answers true. Conditions: none.
-/
namespace Go.Proofs.Ythnpflkpjimkfaa
open Go.AM
open Go.Proofs.Try (prog)
set_option linter.all false
set_option maxRecDepth 100000
set_option maxHeartbeats 8000000

theorem IsRows.deep {v : AV} {ps : List AV} {rows : List (List Int)} (h : IsRows v ps rows) (hp : Nat → Option AObj) (d : Nat) : AM.deep hp (d + 1) v = some v := by rcases h.val with ⟨rfl, _⟩ | ⟨_, rfl⟩ <;> rfl
theorem smallest26_spec {nv gv : AV} {ps : List AV} {rows : List (List Int)} {good : List Bool} (hn : IsRows nv ps rows) (hg : IsB gv good) (hl : rows.length ≤ 1000) (hgl : good.length ≤ 1000) (hr : ∀ i, i < rows.length → (cth rows i).length ≤ 1000) (m : Mem) :
    denC prog ann 26 [.agg [nv, gv]] m = some (if validB rows good = true then .tup [.agg [nvM rows good (cth rows 0).length, gvM rows good (cth rows 0).length], .int .i64 0] else .tup [.agg [.nils, .nils], .int .i64 1], m) := by
  have h1 := fun m => valid_spec hn hg hl hgl hr m
  rw [brand_Smallest.call_eq _ _ (by simp [hn.closed, hg.closed])]
  cases c0 : validB rows good with
  | false =>
    rw [c0] at h1
    simp [hn.one, hg.one, hn.closed, hg.closed, h1]
    done
  | true =>
    rw [c0] at h1
    have v := VB.of c0
    have h2 := fun m => smallest_spec hn hg v m
    rw [repL_eq v, resV_eq] at h2
    have o1 := (isRows_M rows good (cth rows 0).length).one
    have o2 := (isB_M rows good (cth rows 0).length).one
    have c1 := (isRows_M rows good (cth rows 0).length).closed
    have c2 := (isB_M rows good (cth rows 0).length).closed
    have d1 := fun hp => (isRows_M rows good (cth rows 0).length).deep hp 3
    have d2 := fun hp => (isB_M rows good (cth rows 0).length).deep hp 3
    simp [hn.one, hg.one, hn.closed, hg.closed, h1, h2, o1, o2, d1, d2]
    done
theorem sma_runs {d : Nat} (a0 : AV) (h0 : DatV prog (d + 4) 25 a0) : ∃ m', denC prog ann 5 [a0] Mem.empty = some (.bool true, m') := by
  obtain ⟨nv, gv, ps, rows, good, rfl, hn, hg, hgl, hrl⟩ := datV25 h0
  obtain ⟨nv1, gv1, ps1, hn1, hg1, hc1⟩ := cut_spec hn hg hgl hrl
  have hl1 := cutR_len rows
  have hr1 : ∀ i, i < (cutR rows).length → (cth (cutR rows) i).length ≤ 1000 := fun i hi => by have := cutR_row rows i hi; omega
  have hg71 : (good.take 7).length ≤ 7 := by simp; omega
  have hcl : closedL [.agg [nv, gv]] = true := by simp [hn.closed, hg.closed]
  generalize good.take 7 = gd at *
  generalize cutR rows = R at *
  have ha := fun m => smallest26_spec hn1 hg1 (by omega) (by omega) hr1 m
  have hb := fun m => reset_spec hn1 hg1 (by omega) (by omega) hr1 m
  have hv1 := fun m => rvalid_spec hn1 hg1 (by omega) (by omega) hr1 m
  refine ⟨Mem.empty, ?_⟩
  rw [l07_BrandSmallest.call_eq _ _ hcl]
  cases c1 : validB R gd with
  | false =>
    rw [c1] at ha hb hv1
    simp [hn.one, hg.one, hn.closed, hg.closed, hc1, hn1.one, hg1.one, hn1.closed, hg1.closed, hn1.cells, hg1.cells, ha, hb, hv1, lives_spec]
    done
  | true =>
    rw [c1] at ha hb hv1
    have v := VB.of c1
    have hm := isRows_M R gd (cth R 0).length
    have hg2 := isB_M R gd (cth R 0).length
    have vm := VB_M v
    have hrs := fun m => rreset_spec hn1 hg1 v m
    have hsm := fun m => rsmallest_spec hn1 hg1 v m
    rw [resV_eq] at hsm
    have hsb := fun m => samebrand_refl hm hm hg2 hg2 (by have := vm.n6; omega) (fun i hi => by rw [vm.rl i hi]; have := v.k3; omega) (by have := vm.gl; have := vm.n6; omega) m
    cases e : rstW R (cth R 0).length with
    | none =>
      rw [e] at hb hrs
      simp [hn.one, hg.one, hn.closed, hg.closed, hc1, hn1.one, hg1.one, hn1.closed, hg1.closed, hn1.cells, hg1.cells, hm.one, hg2.one, hm.closed, hg2.closed, hm.cells, hg2.cells, ha, hb, hv1, hrs, hsm, hsb, resP, rresP, lives_spec]
      done
    | some w =>
      rw [e] at hb hrs
      simp [hn.one, hg.one, hn.closed, hg.closed, hc1, hn1.one, hg1.one, hn1.closed, hg1.closed, hn1.cells, hg1.cells, hm.one, hg2.one, hm.closed, hg2.closed, hm.cells, hg2.cells, ha, hb, hv1, hrs, hsm, hsb, resP, rresP, lives_spec]
      done
end Go.Proofs.Ythnpflkpjimkfaa
