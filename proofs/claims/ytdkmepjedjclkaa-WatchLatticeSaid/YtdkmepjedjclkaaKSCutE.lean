/-
  CUTS OF A STORY THAT WAS MADE; Back and Forth of a valid story. Conditions: none.
-/
import Derived.Test.YtdkmepjedjclkaaKSMadeC
import Derived.Test.YtdkmepjedjclkaaKBLawB
set_option linter.all false
namespace Go.Proofs.Ytdkmepjedjclkaa
open Go.AM
open Go.Proofs.Try (prog)
set_option linter.all false
set_option maxRecDepth 100000
set_option maxHeartbeats 4000000

/-! ### Arguments -/
theorem u5 : prog.underlying 5 = some (.int .u8) := by kernel_rfl
theorem u36 : prog.underlying 36 = some (.array 4 5) := by kernel_rfl
theorem u37 : prog.underlying 37 = some (.slice 36) := by kernel_rfl
theorem u39 : prog.underlying 39 = some (.struct #[⟨ "Hands", 5, 0, false, "", "", 0⟩, ⟨ "Deeds", 36, 1, false, "", "", 1⟩, ⟨ "Notes", 37, 5, false, "", "", 8⟩]) := by kernel_rfl
theorem dat5 {d : Nat} {cs : List AV} (h : Dat prog (d + 1) 5 cs) : ∃ n, cs = [.int .u8 n] ∧ Byte n := by
  simp only [Dat, u5] at h
  obtain ⟨n, rfl, hw⟩ := h
  refine ⟨n, rfl, ?_⟩
  simp only [Lit.wf, Bool.and_eq_true, decide_eq_true_eq] at hw
  have e1 : IntKind.min .u8 = 0 := by decide
  have e2 : IntKind.max .u8 = 255 := by decide
  rw [e1, e2] at hw
  exact hw
theorem dat36 {d : Nat} {cs : List AV} (h : Dat prog (d + 2) 36 cs) : ∃ xs : List Int, cs = u8s xs ∧ xs.length = 4 ∧ ∀ i, Byte (nth xs i) := by
  rw [Dat] at h
  simp only [u36] at h
  obtain ⟨parts, rfl, hl, hp⟩ := h
  match parts, hl with
  | [a, b, c, e], _ =>
    obtain ⟨n0, rfl, h0⟩ := dat5 (hp a (by simp)).2
    obtain ⟨n1, rfl, h1⟩ := dat5 (hp b (by simp)).2
    obtain ⟨n2, rfl, h2⟩ := dat5 (hp c (by simp)).2
    obtain ⟨n3, rfl, h3⟩ := dat5 (hp e (by simp)).2
    refine ⟨[n0, n1, n2, n3], rfl, rfl, fun i => ?_⟩
    match i with
    | 0 => exact h0
    | 1 => exact h1
    | 2 => exact h2
    | 3 => exact h3
    | _ + 4 => exact ⟨by simp [nth], by simp [nth]⟩
theorem dat37 {d : Nat} {cs : List AV} (h : Dat prog (d + 3) 37 cs) : ∃ v T, cs = [v] ∧ IsSl u8s v T ∧ (∀ x ∈ T, x.length = 4) ∧ (∀ x ∈ T, ∀ i, Byte (nth x i)) ∧ (T.length : Int) ≤ 9223372036854775807 := by
  rw [Dat] at h
  simp only [u37] at h
  rcases h with rfl | ⟨parts, rfl, hl, hp⟩
  · exact ⟨.nils, [], rfl, .inl ⟨rfl, rfl⟩, (fun x h => by cases h), (fun x h => by cases h), by simp⟩
  · have key : ∀ ps : List (List AV), (∀ p ∈ ps, Dat prog (d + 2) 36 p) → ∃ T : List (List Int), T.length = ps.length ∧ ps.flatten = flatC u8s T ∧ (∀ x ∈ T, x.length = 4) ∧ ∀ x ∈ T, ∀ i, Byte (nth x i) := by
      intro ps
      induction ps with
      | nil => exact fun _ => ⟨[], rfl, rfl, (fun x h => by cases h), fun x h => by cases h⟩
      | cons p ps ih =>
        intro h
        obtain ⟨x, e, h4, hB⟩ := dat36 (h p (by simp))
        obtain ⟨T, k1, k2, k3, k4⟩ := ih (fun q hq => h q (by simp [hq]))
        refine ⟨x :: T, by simp [k1], by rw [List.flatten_cons, flatC_cons, e, k2], fun y hy => ?_, fun y hy => ?_⟩
        · rcases List.mem_cons.1 hy with rfl | hy
          · exact h4
          · exact k3 y hy
        · rcases List.mem_cons.1 hy with rfl | hy
          · exact hB
          · exact k4 y hy
    obtain ⟨T, k1, k2, k3, k4⟩ := key parts (fun p hq => (hp p hq).2)
    refine ⟨_, T, rfl, .inr ⟨false, by rw [k1, k2]⟩, k3, k4, ?_⟩
    have : maxLen = 9223372036854775807 := by decide
    omega
theorem datV39 {d : Nat} {a : AV} (h : DatV prog (d + 4) 39 a) : ∃ hh ds vT T, IsTaleN a hh ds vT T := by
  simp only [DatV, u39] at h
  obtain ⟨cs, rfl, h⟩ := h
  rw [Dat] at h
  simp only [u39] at h
  obtain ⟨parts, rfl, hl, hp⟩ := h
  match parts, hl with
  | [a, b, c], _ =>
    obtain ⟨hh, rfl, h0⟩ := dat5 (d := d + 2) (hp 0 _ _ rfl rfl).2
    obtain ⟨ds, rfl, h1, h1'⟩ := dat36 (d := d + 1) (hp 1 _ _ rfl rfl).2
    obtain ⟨vT, T, rfl, h2, h3, h4, h5⟩ := dat37 (d := d) (hp 2 _ _ rfl rfl).2
    exact ⟨hh, ds, vT, T, ⟨by simp, h0, h1, h1', h2, h3, h4, h5⟩⟩
theorem datV36 {d : Nat} {a : AV} (h : DatV prog (d + 2) 36 a) : ∃ xs : List Int, a = .agg (u8s xs) ∧ xs.length = 4 ∧ ∀ i, Byte (nth xs i) := by
  simp only [DatV, u36] at h
  obtain ⟨cs, rfl, h⟩ := h
  obtain ⟨xs, rfl, h1, h2⟩ := dat36 h
  exact ⟨xs, rfl, h1, h2⟩

/-! ### A cut of arbitrary numbers -/
theorem cutN_loop {vD vN : AV} {D xs : List Int} (hD : IsInts vD D) (hx : xs.length = 4) (hB : ∀ i, Byte (nth xs i)) (h4 : D.length ≤ 4) (lo : ∀ i, 0 ≤ nth D i) (hi : ∀ i, nth D i ≤ 6) : ∀ (k i : Nat) (acc : List Int) (m : Mem), i + k = D.length → acc.length = i → (∀ h, 0 ≤ nth acc h ∧ nth acc h ≤ nth D h) → m.h 0 = some (.cells (ints acc)) →
    ∃ l, CutL D l ∧ l09_cutOf.L0 (.fptr [vD, vN]) (.fptr (u8s xs)) (.sl 0 1 0 i i) (.int .i64 i) m [.code l09_cutOf.r6, .code .ret] = some (.fsl false l.length (ints l), Mem.empty) := by
  intro k
  induction k with
  | zero =>
    intro i acc m h1 h2 h3 h0
    have e : i = D.length := by omega
    refine ⟨acc, ⟨by omega, fun h => (h3 h).1, fun h => (h3 h).2⟩, ?_⟩
    have h2' : acc.length = D.length := by omega
    have ht : (ints acc).take D.length = ints acc := List.take_of_length_le (by simp; omega)
    simp at ht
    rw [l09_cutOf.L0_eq]
    simp [hD.len, e, h0, h2', ht]
  | succ k ih =>
    intro i acc m h1 h2 h3 h0
    have q1 : i < D.length := by omega
    have q2 : i < 4 := by omega
    have q2' : (i : Int) < 4 := by omega
    have hw : IntKind.wrap .i64 ((i : Int) + 1) = (i : Int) + 1 := wrap_id (by omega) (by omega)
    have hld : (u8s xs)[i]? = some (.int .u8 (nth xs i)) := by simp [u8s, nth_eq (show i < xs.length by omega)]
    have hB := hB i
    have hw1 := wrap_byte hB
    have l0 := lo i
    have l6 := hi i
    have hw2 : IntKind.wrap .i64 (nth D i + 1) = nth D i + 1 := wrap_id (by omega) (by omega)
    have p1 := Int.tmod_nonneg (nth D i + 1) hB.1
    have p2 := Int.tmod_lt_of_pos (nth xs i) (show 0 < nth D i + 1 by omega)
    have hw3 : IntKind.wrap .i64 ((nth xs i).tmod (nth D i + 1)) = (nth xs i).tmod (nth D i + 1) := wrap_id (by omega) (by omega)
    generalize hcq : (nth xs i).tmod (nth D i + 1) = c at p1 p2 hw3
    have hne : ¬ (nth D i + 1 = 0) := by omega
    have hr : ints acc ++ [.int .i64 c] = ints (acc ++ [c]) := by simp [ints]
    obtain ⟨l, j1, j2⟩ := ih (i + 1) (acc ++ [c]) ⟨upd m.h 0 (some (.cells (ints (acc ++ [c])))), m.nx + 15⟩ (by omega) (by simp [h2]) (fun h => by
      simp only [nth, List.getD] at h3 p2 ⊢
      rcases Nat.lt_or_ge h acc.length with g1 | g1
      · rw [List.getElem?_append_left g1]; exact h3 h
      · rw [List.getElem?_append_right g1]
        cases g : h - acc.length with
        | zero =>
          have : h = i := by omega
          subst this
          simp
          exact ⟨p1, by omega⟩
        | succ n => simp; exact lo h) (by simp)
    refine ⟨l, j1, ?_⟩
    simp only [Int.natCast_add, Int.cast_ofNat_Int] at j2
    rw [← j2, l09_cutOf.L0_eq]
    simp [hD.len, q1, q2, q2', hld, hw1, hD.idx q1, ints_head q1, hw2, hcq, hw3, hne, h0, h2, hw, hr, show i ≤ 4611686018427387903 by omega, show (i + 1) * 8 ≤ 70368744177664 by omega]
    done

theorem cutN_spec {v : AV} {D xs : List Int} {N : List Note} (hs : IsTale v D N) (val : ValidS D N) (hx : xs.length = 4) (hB : ∀ i, Byte (nth xs i)) : ∃ l, CutL D l ∧ ∀ m, denC prog ann 25 [v, .agg (u8s xs)] m = some (.fsl false l.length (ints l), m) := by
  obtain ⟨vD, vN, rfl, hD, hN⟩ := hs.ex
  obtain ⟨l, h1, h2⟩ := cutN_loop (vN := vN) hD hx hB val.n4 val.lo val.hi D.length 0 [] ⟨upd Mem.empty.h 0 (some (.cells [])), 1⟩ (by omega) rfl (fun h => by simp [nth]; exact val.lo h) (by simp)
  refine ⟨l, h1, fun m => ?_⟩
  rw [l09_cutOf.call_eq _ _ _ (by simp [hD.closed, hN.closed])]
  simp at h2
  simp [hD.one, hN.one, hD.closed, hN.closed, h2]

/-! ### Back and Forth of a valid story -/
def bl (D : List Int) (N : List Note) (l : List Int) : List Int := lastL ((cutsL D N).filter fun x => belowB x l)
def fl (D : List Int) (N : List Note) (l : List Int) : List Int := firstL ((cutsL D N).filter fun x => belowB l x)

section
variable {v vl : AV} {D l : List Int} {N : List Note}
theorem backOk (hs : IsTale v D N) (val : ValidS D N) (hv : IsInts vl l) (hc : CutL D l) : ∃ u, IsInts u (bl D N l) ∧ ∀ m, denC prog ann 24 [v, vl] m = some (.tup [u, .int .i64 0], m) := by
  have h4 := val.n4
  have hN := val.N24
  obtain ⟨r, e, h1, h2⟩ := backV_spec hs (by omega) (by omega) hv (by have := hc.len; omega)
  cases h1 with
  | bad h => exact absurd val h
  | form _ h => rw [cutB_iff.2 hc] at h; cases h
  | ok _ _ k hr => rw [back_eq k val.all hc] at hr; exact ⟨r, hr, h2⟩
theorem forthOk (hs : IsTale v D N) (val : ValidS D N) (hv : IsInts vl l) (hc : CutL D l) : ∃ u, IsInts u (fl D N l) ∧ ∀ m, denC prog ann 26 [v, vl] m = some (.tup [u, .int .i64 0], m) := by
  have h4 := val.n4
  have hN := val.N24
  obtain ⟨r, e, h1, h2⟩ := forthV_spec hs (by omega) (by omega) hv (by have := hc.len; omega)
  cases h1 with
  | bad h => exact absurd val h
  | form _ h => rw [cutB_iff.2 hc] at h; cases h
  | ok _ _ k hr => rw [forth_eq k hc] at hr; exact ⟨r, hr, h2⟩
theorem consOk (hs : IsTale v D N) (val : ValidS D N) (hv : IsInts vl l) (hc : CutL D l) (m : Mem) : denC prog ann 30 [v, vl] m = some (.tup [.bool (conR N l), .int .i64 0], m) := by
  have h4 := val.n4
  have hN := val.N24
  obtain ⟨b, e, h1, h2⟩ := consistentV_spec hs (by omega) (by omega) hv (by have := hc.len; omega)
  obtain ⟨rfl, rfl⟩ := h1.ok val (cutB_iff.2 hc)
  exact h2 m

/-- A valid story has clocks. -/
theorem clocks_of (hs : IsTale v D N) (val : ValidS D N) : ∃ K, Clocks D N K := by
  have h4 := val.n4
  have hN := val.N24
  obtain ⟨r, hr, _⟩ := readV_spec hs (by omega) (by omega)
  cases hr with
  | ok _ k _ => exact ⟨_, k⟩
  | no h => exact absurd val h

theorem bl_spec {K : List (List (List Int))} (k : Clocks D N K) (h : CutL D l) : bl D N l ∈ cutsL D N ∧ (∀ g, nth (bl D N l) g ≤ nth l g) ∧ ∀ x ∈ cutsL D N, (∀ g, nth x g ≤ nth l g) → ∀ g, nth x g ≤ nth (bl D N l) g := by
  have hll := h.len
  have mem : ∀ x, x ∈ (cutsL D N).filter (fun x => belowB x l) ↔ x ∈ cutsL D N ∧ ∀ g, nth x g ≤ nth l g := by
    intro x
    rw [List.mem_filter]
    constructor
    · rintro ⟨a, b⟩; exact ⟨a, (below_iff (by rw [cutsL_row a, hll])).1 b⟩
    · rintro ⟨a, b⟩; exact ⟨a, (below_iff (by rw [cutsL_row a, hll])).2 b⟩
  have hz := zeros_cut k.P.L k.P
  obtain ⟨s1, s2, s3⟩ := lastL_spec (S := (cutsL D N).filter fun x => belowB x l) (n := D.length) (List.ne_nil_of_mem ((mem _).2 ⟨hz, fun g => by rw [nth_zero']; exact h.lo g⟩)) (fun y hy => cutsL_row ((mem y).1 hy).1)
  have s1' : (bl D N l).length = D.length := s1
  have le : ∀ g, nth (bl D N l) g ≤ nth l g := fun g => by
    obtain ⟨x, hx, e⟩ := s3 g
    show nth (lastL _) g ≤ _
    rw [e]; exact ((mem x).1 hx).2 g
  have lo : ∀ g, 0 ≤ nth (bl D N l) g := fun g => by
    obtain ⟨x, hx, e⟩ := s3 g
    show 0 ≤ nth (lastL _) g
    rw [e]; exact ((mem_cuts k.P.L).1 ((mem x).1 hx).1).1.lo g
  have hcut : CutL D (bl D N l) := ⟨s1', lo, fun g => Int.le_trans (le g) (h.hi g)⟩
  refine ⟨(mem_cuts k.P.L).2 ⟨hcut, (con_iff k hcut).2 fun g _ hg hpos q => ?_⟩, le, fun x hx hxl g => s2 x ((mem x).2 ⟨hx, hxl⟩) g⟩
  obtain ⟨x, hx, e⟩ := s3 g
  have e' : nth (bl D N l) g = nth x g := e
  rw [e'] at hpos ⊢
  exact Int.le_trans (clk_in k ((mem x).1 hx).1 (by omega) q) (s2 x hx q)
theorem fl_spec {K : List (List (List Int))} (k : Clocks D N K) (h : CutL D l) : fl D N l ∈ cutsL D N ∧ (∀ g, nth l g ≤ nth (fl D N l) g) ∧ ∀ x ∈ cutsL D N, (∀ g, nth l g ≤ nth x g) → ∀ g, nth (fl D N l) g ≤ nth x g := by
  obtain ⟨len, zero, mem0, ge, le⟩ := forth_cut k h
  have e : fl D N l = (forthL K D.length (pad l)).take D.length := (forth_eq k h).symm
  have tk : ∀ g, nth (fl D N l) g = nth (forthL K D.length (pad l)) g := fun g => by
    rw [e]
    rcases Nat.lt_or_ge g D.length with hg | hg
    · exact take_n hg
    · rw [take_out hg, zero g hg]
  exact ⟨by rw [e]; exact mem0, fun g => by rw [tk]; exact ge g, fun x hx hlx g => by rw [tk]; exact le x hx hlx g⟩
theorem bl_self {K : List (List (List Int))} (k : Clocks D N K) (h : l ∈ cutsL D N) : bl D N l = l := by
  have hc := ((mem_cuts k.P.L).1 h).1
  obtain ⟨a, b, c⟩ := bl_spec k hc
  exact ext_nth (by rw [cutsL_row a, hc.len]) fun g => Int.le_antisymm (b g) (c l h (fun _ => Int.le_refl _) g)
theorem fl_self {K : List (List (List Int))} (k : Clocks D N K) (h : l ∈ cutsL D N) : fl D N l = l := by
  have hc := ((mem_cuts k.P.L).1 h).1
  obtain ⟨a, b, c⟩ := fl_spec k hc
  exact ext_nth (by rw [cutsL_row a, hc.len]) fun g => Int.le_antisymm (c l h (fun _ => Int.le_refl _) g) (b g)
end
end Go.Proofs.Ytdkmepjedjclkaa
