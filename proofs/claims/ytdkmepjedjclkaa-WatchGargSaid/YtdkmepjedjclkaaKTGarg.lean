/-
  WatchGarg RETURNS TRUE. Conditions: none.
-/
import Derived.Test.YtdkmepjedjclkaaKSGarg
import Derived.Test.YtdkmepjedjclkaaKTFlags
set_option linter.all false
namespace Go.Proofs.Ytdkmepjedjclkaa
open Go.AM
open Go.Proofs.Try (prog)
set_option linter.all false
set_option maxRecDepth 100000
set_option maxHeartbeats 4000000

def rowW (l : List Bool) : AV := .fsl false l.length (flatC boolC l)
theorem rowW_is (l : List Bool) : IsBools (rowW l) l := .inr ⟨_, rfl⟩
theorem boolC_append (l : List Bool) (b : Bool) : flatC boolC l ++ [.bool b] = flatC boolC (l ++ [b]) := by rw [flatC_append, flatC_one]; rfl
theorem flatB_len (l : List Bool) : (flatC boolC l).length = l.length := by have := flatC_len (k := 1) (boolC_len l); omega

theorem bit_ex (x : Int) (d : Nat) : ∃ (b : Bool) (y z : AV), binA prog .shr 5 (.int .u8 x) (.int .i64 (d : Int)) = some y ∧ binA prog .and 5 y (.int .u8 1) = some z ∧ binA prog .eql 5 z (.int .u8 1) = some (.bool b) := by
  have h1 : binA prog .shr 5 (.int .u8 x) (.int .i64 (d : Int)) = some (.int .u8 (x.fdiv (2 ^ min (d : Int).toNat (IntKind.bits .u8)))) := by
    rw [binA_shr, show decide ((d : Int) < 0) = false from decide_eq_false (by omega)]; rfl
  generalize x.fdiv (2 ^ min (d : Int).toNat (IntKind.bits .u8)) = y at h1
  have h2 := binA_and prog 5 .u8 y 1
  generalize IntKind.wrap .u8 (((BitVec.ofInt (IntKind.bits .u8) y &&& BitVec.ofInt (IntKind.bits .u8) 1).toNat : Nat) : Int) = z at h2
  exact ⟨_, _, _, h1, h2, binA_eql prog 5 .u8 z 1⟩

theorem gbit_loop {vD vN : AV} {D xs : List Int} (hD : IsInts vD D) (h4 : D.length ≤ 4) (hx : xs.length = 4) {h : Nat} (hh : h < D.length) (lo : 0 ≤ nth D h) (hi : nth D h ≤ 6) {rid : Nat} (hr : rid ≠ 1) {X : List AV} (Kc : List Item) : ∀ (k d : Nat) (row : List Bool) (m : Mem), (d : Int) + k = nth D h + 1 → row.length = d → m.h rid = some (.cells (flatC boolC row)) → m.h 1 = some (.cells X) →
    ∃ (row' : List Bool) (nx : Nat), (row'.length : Int) = nth D h + 1 ∧ m.nx ≤ nx ∧
      l09_WatchGarg.L2 (.fptr (u8s xs)) (.fptr [vD, vN]) (.sl 1 1 0 h h) (.int .i64 h) (.sl rid 1 0 d d) (.int .i64 d) m Kc =
        l09_WatchGarg.L2 (.fptr (u8s xs)) (.fptr [vD, vN]) (.sl 1 1 0 h h) (.int .i64 h) (.sl rid 1 0 row'.length row'.length) (.int .i64 row'.length) ⟨upd m.h rid (some (.cells (flatC boolC row'))), nx⟩ Kc := by
  intro k
  induction k with
  | zero =>
    intro d row m h1 h2 h3 h4'
    have e : upd m.h rid (some (.cells (flatC boolC row))) = m.h := by
      funext j
      by_cases q : j = rid
      · subst q; simp [h3]
      · exact updNe q
    exact ⟨row, m.nx, by omega, Nat.le_refl _, by rw [e, h2]⟩
  | succ k ih =>
    intro d row m h1 h2 h3 h4'
    have hw : IntKind.wrap .i64 ((d : Int) + 1) = (d : Int) + 1 := wrap_id (by omega) (by omega)
    have hld : (u8s xs)[h]? = some (.int .u8 (nth xs h)) := by simp [u8s, nth_eq (show h < xs.length by omega)]
    have step : ∃ b : Bool, l09_WatchGarg.L2 (.fptr (u8s xs)) (.fptr [vD, vN]) (.sl 1 1 0 h h) (.int .i64 h) (.sl rid 1 0 d d) (.int .i64 d) m Kc =
        l09_WatchGarg.L2 (.fptr (u8s xs)) (.fptr [vD, vN]) (.sl 1 1 0 h h) (.int .i64 h) (.sl rid 1 0 (d + 1) (d + 1)) (.int .i64 ((d : Int) + 1)) ⟨upd m.h rid (some (.cells (flatC boolC (row ++ [b])))), m.nx⟩ Kc := by
      obtain ⟨b, y, z, t1, t2, t3⟩ := bit_ex (nth xs h) d
      refine ⟨b, ?_⟩
      rw [l09_WatchGarg.L2_eq]
      simp [-binA_shr, -binA_and, t1, t2, t3, hD.idx hh, ints_head hh, show (d : Int) ≤ nth D h by omega, show h < 4 by omega, hld, h3, flatB_len, h2, hw, show d ≤ 4611686018427387903 by omega, show d + 1 ≤ 70368744177664 by omega, boolC_append, List.head?_drop]
      done
    obtain ⟨b, eb⟩ := step
    obtain ⟨row', nx, j1, j2, j3⟩ := ih (d + 1) (row ++ [b]) ⟨upd m.h rid (some (.cells (flatC boolC (row ++ [b])))), m.nx⟩ (by omega) (by simp [h2]) (by simp) (by simp [show ((1 : Nat) == rid) = false from beq_eq_false_iff_ne.2 (fun x => hr x.symm), h4'])
    refine ⟨row', nx, j1, j2, ?_⟩
    simp only [Int.natCast_add, Int.cast_ofNat_Int] at j3
    rw [eb, j3]
    congr 2
    funext j
    by_cases q : j = rid
    · subst q; simp
    · simp [show (j == rid) = false from beq_eq_false_iff_ne.2 q]

theorem grow_loop {vD vN : AV} {D xs : List Int} (hD : IsInts vD D) (h4 : D.length ≤ 4) (hx : xs.length = 4) (lo : ∀ h, 0 ≤ nth D h) (hi : ∀ h, nth D h ≤ 6) (Kc : List Item) : ∀ (k h : Nat) (F : List (List Bool)) (m : Mem), h + k = D.length → F.length = h → (∀ g, g < h → ((gth F g).length : Int) = nth D g + 1) → m.h 1 = some (.cells (F.map rowW)) → 2 ≤ m.nx →
    ∃ (F' : List (List Bool)) (m' : Mem), FlagsOk D F' ∧ m'.h 1 = some (.cells (F'.map rowW)) ∧
      l09_WatchGarg.L0 (.fptr (u8s xs)) (.fptr [vD, vN]) (.sl 1 1 0 h h) (.int .i64 h) m Kc =
        l09_WatchGarg.L0 (.fptr (u8s xs)) (.fptr [vD, vN]) (.sl 1 1 0 D.length D.length) (.int .i64 D.length) m' Kc := by
  intro k
  induction k with
  | zero =>
    intro h F m h1 h2 h3 h4' h5
    have e : h = D.length := by omega
    subst e
    exact ⟨F, m, ⟨h2, h3⟩, h4', rfl⟩
  | succ k ih =>
    intro h F m h1 h2 h3 h4' h5
    have hh : h < D.length := by omega
    have l0 := lo h
    have l6 := hi h
    have hw : IntKind.wrap .i64 ((h : Int) + 1) = (h : Int) + 1 := wrap_id (by omega) (by omega)
    obtain ⟨row, nx, r1, r2, r3⟩ := gbit_loop (vN := vN) hD h4 hx hh l0 l6 (rid := m.nx) (by omega) (X := F.map rowW) (.code l09_WatchGarg.r11 :: .inBlock 1 :: .code l09_WatchGarg.r5 :: .inLoop l09_WatchGarg.l0 :: .inBlock 0 :: Kc) (nth D h + 1).toNat 0 [] ⟨upd m.h m.nx (some (.cells [])), m.nx + 1⟩ (by omega) rfl (by simp) (by simp [show ((1 : Nat) == m.nx) = false from beq_eq_false_iff_ne.2 (by omega), h4'])
    simp only [Int.cast_ofNat_Int, Int.ofNat_zero] at r3
    have r2' : m.nx + 1 ≤ nx := r2
    have hFl : (F.map rowW).length = h := by simp [h2]
    have hFm : F.map rowW ++ [rowW row] = (F ++ [row]).map rowW := by simp
    have e1 : ((1 : Nat) == m.nx) = false := beq_eq_false_iff_ne.2 (by omega)
    obtain ⟨F', m', j1, j2, j3⟩ := ih (h + 1) (F ++ [row]) ⟨upd (upd (upd m.h m.nx (some (.cells (flatC boolC row)))) m.nx none) 1 (some (.cells ((F ++ [row]).map rowW))), nx⟩ (by omega) (by simp [h2]) (fun g hg => by
        by_cases q : g < h
        · have := h3 g q
          simp only [gth, List.getD] at this ⊢
          rw [List.getElem?_append_left (by omega)]; exact this
        · have e : g = F.length := by omega
          rw [e]
          simp [gth, List.getD, h2, r1]) (by simp) (by show 2 ≤ nx; omega)
    refine ⟨F', m', j1, j2, ?_⟩
    simp only [Int.natCast_add, Int.cast_ofNat_Int] at j3
    have e0 : l09_WatchGarg.L0 (.fptr (u8s xs)) (.fptr [vD, vN]) (.sl 1 1 0 h h) (.int .i64 h) m Kc = l09_WatchGarg.L2 (.fptr (u8s xs)) (.fptr [vD, vN]) (.sl 1 1 0 h h) (.int .i64 h) (.sl m.nx 1 0 0 0) (.int .i64 0) ⟨upd m.h m.nx (some (.cells [])), m.nx + 1⟩ (.code l09_WatchGarg.r11 :: .inBlock 1 :: .code l09_WatchGarg.r5 :: .inLoop l09_WatchGarg.l0 :: .inBlock 0 :: Kc) := by
      rw [l09_WatchGarg.L0_eq]
      simp [hD.len, hh]
      done
    have hrl : ¬ ((row.length : Int) ≤ nth D h) := by omega
    have hcl : closedL (flatC boolC row) = true := flatC_closedL (fun _ => rfl) row
    have htk : (flatC boolC row).take row.length = flatC boolC row := List.take_of_length_le (by rw [flatB_len]; exact Nat.le_refl _)
    have hrow : AV.fsl false row.length (flatC boolC row) = rowW row := rfl
    have o1 : (rowW row).one = true := rfl
    have o2 : (rowW row).closed = true := rfl
    have o3 : (rowW row).cells = [rowW row] := rfl
    have hXl : ((F ++ [row]).map rowW).length = h + 1 := by simp [h2]
    generalize (F ++ [row]).map rowW = X' at hFm j3 hXl
    generalize F.map rowW = X at hFm h4' hFl
    rw [e0, r3, ← j3, l09_WatchGarg.L2_eq]
    simp [hD.idx hh, ints_head hh, hrl, flatB_len, hcl, htk, hrow, o1, o2, o3, e1, h4', hFl, h2, hw, hFm, hXl, show h ≤ 4611686018427387903 by omega, show (h + 1) * 24 ≤ 70368744177664 by omega]
    done

/-- All of some cuts lie between the first and the last one. -/
theorem gcheck_loop {x5 u w x15 : AV} {fu fw : List Int} {n : Nat} (hu : IsInts u fu) (hw : IsInts w fw) (hun : fu.length = n) (hwn : fw.length = n) (hn : n < 100000) {Y : List (List Int)} (hY : ∀ y ∈ Y, y.length = n) (hYl : Y.length < 100000) (h1 : ∀ y ∈ Y, ∀ g, nth fu g ≤ nth y g) (h2 : ∀ y ∈ Y, ∀ g, nth y g ≤ nth fw g) (Kc : List Item) : ∀ (k i : Nat) (b1 b2 : Bool) (m : Mem), i + k = Y.length →
    l09_WatchGarg.L4 x5 u w (.fsl false Y.length (flatC rowC Y)) x15 (.bool b1) (.bool b2) (.int .i64 i) m Kc =
      l09_WatchGarg.L4 x5 u w (.fsl false Y.length (flatC rowC Y)) x15 (.bool (b1 || (Y.drop i).any fun y => decide (fu = y))) (.bool (b2 || (Y.drop i).any fun y => decide (fw = y))) (.int .i64 Y.length) m Kc := by
  intro k
  induction k with
  | zero =>
    intro i b1 b2 m hk
    have e : i = Y.length := by omega
    subst e
    simp
  | succ k ih =>
    intro i b1 b2 m hk
    have hi : i < Y.length := by omega
    have hwr : IntKind.wrap .i64 ((i : Int) + 1) = (i : Int) + 1 := wrap_id (by omega) (by omega)
    have hmem := cth_mem hi
    have hyl := hY _ hmem
    have i1 := (IsSl.fsl (f := rowC) false Y).idx (rowC_len _) hi .i64
    have i2 := load_row hi
    have b1' := fun m => belowR_spec hu (IsInts.fsl false (cth Y i)) (by omega) (by omega) m
    rw [(below_iff (by omega)).2 (h1 _ hmem)] at b1'
    have b2' := fun m => belowR_spec (IsInts.fsl false (cth Y i)) hw (by omega) (by omega) m
    rw [(below_iff (by omega)).2 (h2 _ hmem)] at b2'
    have s1 := same_spec hu (IsInts.fsl false (cth Y i)) (by omega) (by omega)
    have s2 := same_spec hw (IsInts.fsl false (cth Y i)) (by omega) (by omega)
    have hd : Y.drop i = cth Y i :: Y.drop (i + 1) := by
      obtain ⟨g1, g2⟩ := List.getElem?_eq_some_iff.1 (cth_eq hi)
      rw [List.drop_eq_getElem_cons g1, g2]
    have hst := ih (i + 1) (b1 || decide (fu = cth Y i)) (b2 || decide (fw = cth Y i)) m (by omega)
    simp only [Int.natCast_add, Int.cast_ofNat_Int] at hst
    rw [hd, List.any_cons, List.any_cons, ← Bool.or_assoc, ← Bool.or_assoc, ← hst, l09_WatchGarg.L4_eq]
    generalize decide (fu = cth Y i) = d1 at s1
    generalize decide (fw = cth Y i) = d2 at s2
    cases b1 <;> cases b2 <;> simp [hi, i1, i2, b1', b2', s1, s2, hu.closed, hw.closed, hwr]
    done

theorem vec_rows (ex : Bool) (Y : List (List Int)) : IsVec IsInts (.fsl ex Y.length (flatC rowC Y)) (flatC rowC Y) Y := by
  rw [flatC_row]
  exact vec_of (g := fun c : List Int => AV.fsl false c.length (ints c)) (fun c => IsInts.fsl false c) (fun _ => rfl) ex Y
theorem vec_one {v : AV} {l : List Int} (h : IsInts v l) (ex : Bool) : IsVec IsInts (.fsl ex 1 [v]) [v] [l] := by
  refine ⟨rfl, fun i hi => ?_, by simp [h.closed], .inr ⟨ex, rfl⟩⟩
  have e : i = 0 := by simpa using hi
  subst e
  exact h

theorem garg_runs {d : Nat} (a0 a1 : AV) (h0 : DatV prog (d + 4) 39 a0) (h1 : DatV prog (d + 4) 36 a1) : ∃ m', denC prog ann 16 [a0, a1] Mem.empty = some (.bool true, m') := by
  obtain ⟨hh, ds, vT, T, t⟩ := datV39 h0
  obtain ⟨xs, rfl, hx4, hxB⟩ := datV36 (d := d + 2) h1
  obtain ⟨v, D, N, hs, val, hN12, em⟩ := made_spec t
  have hs' := hs
  have h4 := val.n4
  have L := val.lims
  have hcl : a0.closed = true := by rw [t.eq]; simp [t.vT.closed]
  have ds4 := t.d4
  rw [t.eq] at hcl em ⊢
  have td6 : (.int .u8 hh :: (u8s ds ++ [vT]) : List AV).take 6 = .int .u8 hh :: (u8s ds ++ [vT]) := List.take_of_length_le (by simp [ds4])
  simp at td6
  obtain ⟨vD, vN, rfl, hD, hNn⟩ := hs.ex
  obtain ⟨F, m1, f1, f2, f3⟩ := grow_loop (vN := vN) hD h4 hx4 val.lo val.hi [.code l09_WatchGarg.r12, .code l09_WatchGarg.r13, .code l09_WatchGarg.r14, .code l09_WatchGarg.r15, .code l09_WatchGarg.r16, .code l09_WatchGarg.i2, .code l09_WatchGarg.r18, .code l09_WatchGarg.i3, .code l09_WatchGarg.r20, .code l09_WatchGarg.r21, .code l09_WatchGarg.k4, .code l09_WatchGarg.r27, .code l09_WatchGarg.r28, .code .ret] D.length 0 [] ⟨upd (upd Mem.empty.h 0 none) 1 (some (.cells [])), 2⟩ (by omega) rfl (fun g hg => by omega) (by simp) (by show 2 ≤ 2; omega)
  simp only [Int.cast_ofNat_Int, Int.ofNat_zero] at f3
  have hF := vec_of (R := IsBools) (g := rowW) rowW_is (fun _ => rfl) false F
  have hFn := f1.n
  have hFl2 : (F.map rowW).length = D.length := by simp [hFn]
  have hcl2 : closedL (F.map rowW) = true := hF.cl
  have htk : (F.map rowW).take D.length = F.map rowW := List.take_of_length_le (by omega)
  obtain ⟨u, e, hu, eu⟩ := firstV_spec hs' (by omega) (by omega) hF (by omega)
  obtain ⟨w, e', hw, ew⟩ := lastV_spec hs' (by omega) (by omega) hF (by omega)
  have hcf := cuts_few (N := N) L
  have hyr := yesR_spec hs' val hF f1 (by omega)
  have hylen : (yesL D N F).length ≤ 2401 := Nat.le_trans (List.length_filter_le _ _) hcf
  have hyrow : ∀ y ∈ yesL D N F, y.length = D.length := fun y hy => cutsL_row (List.mem_filter.1 hy).1
  have hall : (yesL D N F).all (cutB D) = true := List.all_eq_true.2 fun y hy => cutB_iff.2 ((mem_cuts L).1 (List.mem_filter.1 hy).1).1
  obtain ⟨p, e'', hp, ep⟩ := possV_spec hs' (by omega) (by omega) (vec_rows false (yesL D N F)) (by omega) (fun i hi => by rw [hyrow _ (gth_mem hi)]; omega)
  have hfind : (cutsL D N).find? (fun c => decide (c ∈ yesL D N F)) = (yesL D N F).head? := by
    rw [find_sub, show (cutsL D N).filter (fun c => decide (c ∈ yesL D N F)) = yesL D N F from filter_mem]
  rw [hFn] at eu ew hyr hF
  have e0 : den prog ann 16 [.code l09_WatchGarg.b] ⟨[(0, .agg (.int .u8 hh :: (u8s ds ++ [vT]))), (1, .agg (u8s xs))], 163, Mem.empty⟩ = l09_WatchGarg.L0 (.fptr (u8s xs)) (.fptr [vD, vN]) (.sl 1 1 0 D.length D.length) (.int .i64 D.length) m1 [.code l09_WatchGarg.r12, .code l09_WatchGarg.r13, .code l09_WatchGarg.r14, .code l09_WatchGarg.r15, .code l09_WatchGarg.r16, .code l09_WatchGarg.i2, .code l09_WatchGarg.r18, .code l09_WatchGarg.i3, .code l09_WatchGarg.r20, .code l09_WatchGarg.r21, .code l09_WatchGarg.k4, .code l09_WatchGarg.r27, .code l09_WatchGarg.r28, .code .ret] := by
    rw [← f3]
    simp [hcl, t.vT.one, t.vT.closed, ds4, td6, em, hD.one, hNn.one, hD.closed, hNn.closed]
    done
  refine ⟨Mem.empty, ?_⟩
  rw [l09_WatchGarg.call_eq _ _ _ (by simp [hcl]), e0]
  clear e0 f3
  cases hp with
  | bad h => exact absurd val h
  | long _ h => omega
  | form _ _ h => rw [hall] at h; cases h
  | none _ _ _ hq =>
    rw [hfind] at hq
    have hnil : yesL D N F = [] := List.head?_eq_none_iff.1 hq
    cases hu with
    | bad h => exact absurd val h
    | form _ h => exact absurd f1 h
    | ok _ _ h _ => exact absurd hnil h
    | none _ _ _ =>
      cases hw with
      | bad h => exact absurd val h
      | form _ h => exact absurd f1 h
      | ok _ _ h _ => exact absurd hnil h
      | none _ _ _ =>
        rw [hnil] at hyr ep
        generalize F.map rowW = X at *
        simp at ep hyr
        rw [l09_WatchGarg.L0_eq]
        simp [hD.len, f2, hFl2, hcl2, htk, hD.one, hNn.one, hD.closed, hNn.closed, hD.deep, hNn.deep, eu, ew, hyr, ep, lives_spec]
        done
  | @ok _ c _ _ _ hq ip =>
    rw [hfind] at hq
    cases hu with
    | bad h => exact absurd val h
    | form _ h => exact absurd f1 h
    | none _ _ h => rw [h] at hq; cases hq
    | ok _ _ he iu =>
      cases hw with
      | bad h => exact absurd val h
      | form _ h => exact absurd f1 h
      | none _ _ h => exact absurd h he
      | ok _ _ _ iw =>
        rw [foldL_first] at iu
        rw [foldL_last] at iw
        have hmf := first_mem L he
        have hml := last_mem L he
        obtain ⟨n1, k1, _⟩ := firstL_spec he hyrow
        obtain ⟨n2, k2, _⟩ := lastL_spec he hyrow
        have hhd := head_least ((cuts_sorted D N).filter _) hmf hyrow k1
        rw [show List.filter (yesB F) (cutsL D N) = yesL D N F from rfl, hq] at hhd
        have hce : c = firstL (yesL D N F) := Option.some.inj hhd
        subst hce
        obtain ⟨cl1, _⟩ := (mem_cuts L).1 (List.mem_filter.1 hml).1
        obtain ⟨q, e3, hp2, ep2⟩ := possV_spec hs' (by omega) (by omega) (vec_one iw true) (by simp) (fun i hi => by
          have e : i = 0 := by simpa using hi
          subst e
          show (lastL (yesL D N F)).length < 1000000
          omega)
        have hfl : (cutsL D N).find? (fun c => decide (c ∈ [lastL (yesL D N F)])) = some (lastL (yesL D N F)) := by
          have hm := (List.mem_filter.1 hml).1
          rw [find_sub]
          have hsub : ∀ y ∈ (cutsL D N).filter (fun c => decide (c ∈ [lastL (yesL D N F)])), y = lastL (yesL D N F) := fun y hy => by
            have := (List.mem_filter.1 hy).2
            simpa using this
          have hne : (cutsL D N).filter (fun c => decide (c ∈ [lastL (yesL D N F)])) ≠ [] := fun h => by
            have : lastL (yesL D N F) ∈ (cutsL D N).filter (fun c => decide (c ∈ [lastL (yesL D N F)])) := List.mem_filter.2 ⟨hm, by simp⟩
            rw [h] at this; cases this
          cases hz : (cutsL D N).filter (fun c => decide (c ∈ [lastL (yesL D N F)])) with
          | nil => exact absurd hz hne
          | cons z l =>
            rw [hz] at hsub
            rw [hsub z (by simp)]; rfl
        cases hp2 with
        | bad h => exact absurd val h
        | long _ h => simp at h
        | form _ _ h => simp [cutB_iff.2 cl1] at h
        | none _ _ _ h => rw [hfl] at h; cases h
        | @ok _ c2 _ _ _ h iq =>
          rw [hfl] at h
          have hc2 : lastL (yesL D N F) = c2 := Option.some.inj h
          subst hc2
          have gl := fun x5 x15 Kc b1 b2 m => gcheck_loop (x5 := x5) (x15 := x15) iu iw n1 n2 (by omega) hyrow (by omega) k1 k2 Kc (yesL D N F).length 0 b1 b2 m (by omega)
          have a1 : (yesL D N F).any (fun y => decide (firstL (yesL D N F) = y)) = true := List.any_eq_true.2 ⟨_, hmf, by simp⟩
          have a2 : (yesL D N F).any (fun y => decide (lastL (yesL D N F) = y)) = true := List.any_eq_true.2 ⟨_, hml, by simp⟩
          have gl2 := fun x5 x15 Kc m => gl x5 x15 Kc false false m
          simp only [List.drop_zero, Bool.false_or, a1, a2, Int.cast_ofNat_Int, Int.ofNat_zero] at gl2
          have s1 := same_spec ip iu (by omega) (by omega)
          have s2 := same_spec iq iw (by omega) (by omega)
          have gl3 : ∀ x5 x15 Kc m, l09_WatchGarg.L4 x5 u w (.fsl false (yesL D N F).length (flatC rowC (yesL D N F))) x15 (.bool false) (.bool false) (.int .i64 0) m Kc = l09_WatchGarg.L4 x5 u w (.fsl false (yesL D N F).length (flatC rowC (yesL D N F))) x15 (.bool true) (.bool true) (.int .i64 (yesL D N F).length) m Kc := gl2
          generalize yesL D N F = Y at *
          generalize F.map rowW = X at *
          have fin : ∀ m, l09_WatchGarg.L4 (.fptr [vD, vN]) u w (.fsl false Y.length (flatC rowC Y)) p (.bool true) (.bool true) (.int .i64 Y.length) m [.code l09_WatchGarg.r27, .code l09_WatchGarg.r28, .code .ret] = some (.bool true, Mem.empty) := by
            intro m
            rw [l09_WatchGarg.L4_eq]
            simp [hD.one, hNn.one, hD.closed, hNn.closed, iw.one, iw.closed, iw.cells, iu.closed, ip.closed, iq.closed, ep2, s1, s2]
            done
          rw [l09_WatchGarg.L0_eq]
          simp [hD.len, f2, hFl2, hcl2, htk, hD.one, hNn.one, hD.closed, hNn.closed, hD.deep, hNn.deep, eu, ew, hyr, ep, lives_spec, gl3, fin]
          done
end Go.Proofs.Ytdkmepjedjclkaa
