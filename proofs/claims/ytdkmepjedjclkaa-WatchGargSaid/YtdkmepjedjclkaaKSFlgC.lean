/-
  FLAGS: First AND Last; THE REFERENCE's. Conditions: none.
-/
import Derived.Test.YtdkmepjedjclkaaKSFlgB
set_option linter.all false
namespace Go.Proofs.Ytdkmepjedjclkaa
open Go.AM
open Go.Proofs.Try (prog)
set_option linter.all false
set_option maxRecDepth 100000
set_option maxHeartbeats 4000000

/-- All consistent cuts at which all hands say yes. -/
def yesL (D : List Int) (N : List Note) (F : List (List Bool)) : List (List Int) := (cutsL D N).filter (yesB F)
def foldL (op : List Int → List Int → List Int) : List (List Int) → List Int
  | [] => []
  | x :: l => (x :: l).foldl op x
/-- What comes of them. -/
inductive EndsRes (op : List Int → List Int → List Int) (D : List Int) (N : List Note) (F : List (List Bool)) : AV → Int → Prop where
  | bad (h : ¬ ValidS D N) : EndsRes op D N F .nils 1
  | form (v : ValidS D N) (h : ¬ FlagsOk D F) : EndsRes op D N F .nils 2
  | none (v : ValidS D N) (h : FlagsOk D F) (e : yesL D N F = []) : EndsRes op D N F .nils 5
  | ok {x : AV} (v : ValidS D N) (h : FlagsOk D F) (e : yesL D N F ≠ []) (i : IsInts x (foldL op (yesL D N F))) : EndsRes op D N F x 0

theorem yesB_take {F : List (List Bool)} {c : List Int} {n : Nat} (hn : F.length = n) : yesB F (c.take n) = yesB F c := by
  simp only [yesB, yesR]
  refine Bool.eq_iff_iff.2 ?_
  simp only [List.all_eq_true, List.mem_range'_1]
  constructor
  · intro a h hh
    have := a h hh
    rwa [nth_take (by omega)] at this
  · intro a h hh
    rw [nth_take (by omega)]; exact a h hh
theorem filter_take {F : List (List Bool)} {n : Nat} (hn : F.length = n) : ∀ A : List (List Int), (A.filter (yesB F)).map (fun c => c.take n) = (A.map fun c => c.take n).filter (yesB F)
  | [] => rfl
  | c :: A => by
    rw [List.map_cons, List.filter_cons, List.filter_cons, yesB_take hn]
    split
    · rw [List.map_cons, filter_take hn A]
    · exact filter_take hn A
theorem fold_take {op : List Int → List Int → List Int} {n : Nat} (h : ∀ a b : List Int, (op a b).take n = op (a.take n) (b.take n)) : ∀ (l : List (List Int)) (x : List Int), (l.foldl op x).take n = (l.map fun c => c.take n).foldl op (x.take n)
  | [], _ => rfl
  | c :: l, x => by rw [List.foldl_cons, List.map_cons, List.foldl_cons, fold_take h l, h]
theorem zmin_take (n : Nat) (a b : List Int) : (zmin a b).take n = zmin (a.take n) (b.take n) := by simp [zmin, List.take_zipWith]
theorem zmax_take (n : Nat) (a b : List Int) : (zmax a b).take n = zmax (a.take n) (b.take n) := by simp [zmax, List.take_zipWith]
theorem zmin_self : ∀ a : List Int, zmin a a = a
  | [] => rfl
  | x :: a => by simp [zmin]
theorem zmax_self : ∀ a : List Int, zmax a a = a
  | [] => rfl
  | x :: a => by simp [zmax]
theorem foldL_first : ∀ L, foldL zmin L = firstL L
  | [] => rfl
  | x :: l => by rw [foldL, List.foldl_cons, zmin_self]; rfl
theorem foldL_last : ∀ L, foldL zmax L = lastL L
  | [] => rfl
  | x :: l => by rw [foldL, List.foldl_cons, zmax_self]; rfl

theorem ends_spec {fb : Nat} {op : List Int → List Int → List Int} (o : IsOp fb op) (ht : ∀ (n : Nat) (a b : List Int), (op a b).take n = op (a.take n) (b.take n)) {v vF : AV} {D : List Int} {N : List Note} {cs : List AV} {F : List (List Bool)} (hs : IsTale v D N) (hl : D.length < 100000) (hn : N.length < 100000) (hF : IsVec IsBools vF cs F) (hFl : F.length < 100000) :
    ∃ x e, EndsRes op D N F x e ∧ ∀ m, denC prog ann 89 [v, vF, .fn fb [] []] m = some (.tup [x, .int .i64 e], m) := by
  obtain ⟨r, e, hr, er⟩ := flagsOf_spec hs hl hn hF hFl
  obtain ⟨vD, vN, rfl, h1, h2⟩ := hs.ex
  have hcl : closedL [.agg [vD, vN], vF, .fn fb [] []] = true := by simp [h1.closed, h2.closed, hF.closed]
  cases hr with
  | bad h =>
    refine ⟨_, _, .bad h, fun m => ?_⟩
    rw [watch_ends.call_eq _ _ _ _ hcl]
    simp [h1.one, h2.one, h1.closed, h2.closed, hF.closed, er]
    done
  | form v h =>
    refine ⟨_, _, .form v h, fun m => ?_⟩
    rw [watch_ends.call_eq _ _ _ _ hcl]
    simp [h1.one, h2.one, h1.closed, h2.closed, hF.closed, er]
    done
  | @ok sv K val h k s =>
    have hn4 := s.n4
    have hFn := h.n
    obtain ⟨av, ea, ia⟩ := allV s
    have hlen := allL_len s
    have hw : ∀ c ∈ allL (pad D) K D.length, ∀ h, h < F.length → 0 ≤ nth c h ∧ nth c h < (gth F h).length := by
      intro c hc g hg
      have hc' := (List.mem_filter.1 hc).1
      have ic := enumR_cut (n := D.length) s.pos D.length 0 [0, 0, 0, 0] ⟨rfl, fun h => by rw [show ([0, 0, 0, 0] : List Int) = List.replicate 4 0 from rfl, nth_zero']; exact Int.le_refl _, fun h => by rw [show ([0, 0, 0, 0] : List Int) = List.replicate 4 0 from rfl, nth_zero']; exact s.pos h⟩ c hc'
      have := ic.lo g
      have := ic.hi g
      rw [nth_pad] at this
      have := h.w g (by omega)
      omega
    have hyl : ((allL (pad D) K D.length).filter (yesB F)).map (fun c => c.take D.length) = yesL D N F := by rw [filter_take hFn, allL_eq k]; rfl
    have fin := fun m => ends_loop o s hF (by omega) ia (allL_four s) (by omega) hw (allL (pad D) K D.length).length 0 [] 0 m (by omega) (fun c hc => by cases hc) (Nat.le_refl _) (fun hne => absurd rfl hne)
    simp only [Int.cast_ofNat_Int, Int.ofNat_zero, List.drop_zero, List.nil_append] at fin
    have e0 : outX 0 [] = .nils := by simp [outX]
    rw [e0] at fin
    cases hq : (allL (pad D) K D.length).filter (yesB F) with
    | nil =>
      rw [hq] at fin hyl
      refine ⟨_, _, .none val h hyl.symm, fun m => ?_⟩
      simp only [endV] at fin
      rw [watch_ends.call_eq _ _ _ _ hcl]
      simp [h1.one, h2.one, h1.closed, h2.closed, hF.closed, hF.one, hF.cells, hF.deep, er, s.closed, s.one, s.frz, ea, ia.len, fin]
      done
    | cons x l =>
      rw [hq] at fin hyl
      have hx : (((x :: l).foldl op x).take D.length) = foldL op (yesL D N F) := by rw [fold_take (ht _), ← hyl]; rfl
      simp only [endV] at fin
      have hx4 : ∀ y ∈ x :: l, y.length = 4 := fun y hy => allL_four s y (List.mem_filter.1 (by rw [hq]; exact hy)).1
      have hfl : ∀ (l : List (List Int)) (x : List Int), x.length = 4 → (∀ y ∈ l, y.length = 4) → (l.foldl op x).length = 4 := by
        intro l
        induction l with
        | nil => intro x hx _; exact hx
        | cons c l ih => intro x hx h; exact ih _ (o.len _ _ hx (h c (by simp))) fun y hy => h y (by simp [hy])
      have hln : (((x :: l).foldl op x).take D.length).length = D.length := by
        have := hfl (x :: l) x (hx4 x (by simp)) hx4
        simp only [List.length_take, this]; omega
      refine ⟨.fsl false D.length (ints (((x :: l).foldl op x).take D.length)), 0, .ok val h (by rw [← hyl]; simp) ?_, fun m => ?_⟩
      · rw [← hx]; exact .inr ⟨false, by rw [hln]⟩
      generalize ((x :: l).foldl op x).take D.length = z at fin
      rw [watch_ends.call_eq _ _ _ _ hcl]
      simp [h1.one, h2.one, h1.closed, h2.closed, hF.closed, hF.one, hF.cells, hF.deep, er, s.closed, s.one, s.frz, ea, ia.len, fin]
      done

theorem firstV_spec {v vF : AV} {D : List Int} {N : List Note} {cs : List AV} {F : List (List Bool)} (hs : IsTale v D N) (hl : D.length < 100000) (hn : N.length < 100000) (hF : IsVec IsBools vF cs F) (hFl : F.length < 100000) :
    ∃ x e, EndsRes zmin D N F x e ∧ ∀ m, denC prog ann 55 [v, vF] m = some (.tup [x, .int .i64 e], m) := by
  obtain ⟨x, e, hr, er⟩ := ends_spec op_meet zmin_take hs hl hn hF hFl
  have hd : ∀ h d, deep h (d + 1) x = some x := by cases hr with
    | ok _ _ _ i => exact i.deep
    | _ => exact fun _ _ => rfl
  refine ⟨x, e, hr, fun m => ?_⟩
  obtain ⟨vD, vN, rfl, h1, h2⟩ := hs.ex
  rw [watch_First.call_eq _ _ _ (by simp [h1.closed, h2.closed, hF.closed])]
  simp [h1.one, h2.one, h1.closed, h2.closed, hF.closed, er, hd]
theorem lastV_spec {v vF : AV} {D : List Int} {N : List Note} {cs : List AV} {F : List (List Bool)} (hs : IsTale v D N) (hl : D.length < 100000) (hn : N.length < 100000) (hF : IsVec IsBools vF cs F) (hFl : F.length < 100000) :
    ∃ x e, EndsRes zmax D N F x e ∧ ∀ m, denC prog ann 56 [v, vF] m = some (.tup [x, .int .i64 e], m) := by
  obtain ⟨x, e, hr, er⟩ := ends_spec op_join zmax_take hs hl hn hF hFl
  have hd : ∀ h d, deep h (d + 1) x = some x := by cases hr with
    | ok _ _ _ i => exact i.deep
    | _ => exact fun _ _ => rfl
  refine ⟨x, e, hr, fun m => ?_⟩
  obtain ⟨vD, vN, rfl, h1, h2⟩ := hs.ex
  rw [watch_Last.call_eq _ _ _ (by simp [h1.closed, h2.closed, hF.closed])]
  simp [h1.one, h2.one, h1.closed, h2.closed, hF.closed, er, hd]

theorem yesIn_loop {vF : AV} {cs : List AV} {F : List (List Bool)} (hF : IsVec IsBools vF cs F) {L : List (List Int)} (hL : L.length < 1000000) {i : Nat} (hi : i < L.length) (hn : (cth L i).length = F.length) (hF4 : F.length ≤ 4) (hw : ∀ h, h < F.length → 0 ≤ nth (cth L i) h ∧ nth (cth L i) h < (gth F h).length) (x6 : AV) (Kc : List Item) : ∀ (k h : Nat) (b : Bool) (m : Mem), h + k = F.length →
    ∃ nx, m.nx ≤ nx ∧ r09_Yes.L2 vF (.fsl false L.length (flatC rowC L)) x6 (.int .i64 i) (.bool b) (.int .i64 h) m (.code r09_Yes.r10 :: .code r09_Yes.i2 :: Kc) =
      den prog ann 58 (.code r09_Yes.i2 :: Kc) ⟨[(44, .bool (b && yesR F (cth L i) k h)), (1, vF), (5, .fsl false L.length (flatC rowC L)), (6, x6), (7, .int .i64 i), (8, .bool (b && yesR F (cth L i) k h))], 53, ⟨m.h, nx⟩⟩ := by
  have i1 := (IsSl.fsl (f := rowC) false L).idx (rowC_len _) hi .i64
  have i2 := load_row hi
  intro k
  induction k with
  | zero =>
    intro h b m h1
    have e : h = F.length := by omega
    refine ⟨m.nx, Nat.le_refl _, ?_⟩
    rw [r09_Yes.L2_eq]
    simp [-r09_Yes.i2_eq, e, i1, i2, hn, yesR]
    done
  | succ k ih =>
    intro h b m h1
    have hh : h < F.length := by omega
    obtain ⟨w0, w1⟩ := hw h hh
    have hwr : IntKind.wrap .i64 ((h : Int) + 1) = (h : Int) + 1 := wrap_id (by omega) (by omega)
    have hb := hF.at hh
    obtain ⟨j, hj⟩ : ∃ j : Nat, nth (cth L i) h = j := ⟨(nth (cth L i) h).toNat, by omega⟩
    rw [hj] at w1
    have hjl : j < (gth F h).length := by omega
    have k1 := hb.idx (boolC_len _) hjl .i64
    have k2 := bool_load hjl
    have hhl : h < (cth L i).length := by omega
    obtain ⟨nx, a1, a2⟩ := ih (h + 1) (b && bnth (gth F h) j) ⟨m.h, m.nx + 17⟩ (by omega)
    simp only [Int.natCast_add, Int.cast_ofNat_Int] at a2
    refine ⟨nx, by have : m.nx + 17 ≤ nx := a1; omega, ?_⟩
    rw [yesR_succ, hj, Int.toNat_natCast, ← Bool.and_assoc, ← a2, r09_Yes.L2_eq]
    cases b with
    | false =>
      simp [-r09_Yes.i2_eq, hh, i1, i2, hn, hwr]
      done
    | true =>
      simp [-r09_Yes.i2_eq, hh, i1, i2, hn, hF.idx hh, hF.load hh, (IsInts.fsl false (cth L i)).idx hhl, ints_head hhl, hj, k1, k2, hwr]
      done
end Go.Proofs.Ytdkmepjedjclkaa
