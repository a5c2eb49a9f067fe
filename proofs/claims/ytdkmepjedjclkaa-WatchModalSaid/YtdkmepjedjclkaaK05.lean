/-
  CUTS OF A STORY THAT WAS MADE; Back and Forth of a valid story. Conditions: none.
-/
import Derived.Test.YtdkmepjedjclkaaK04
import Derived.Test.YtdkmepjedjclkaaK00
import Derived.Test.YtdkmepjedjclkaaKAmH
import Derived.Test.YtdkmepjedjclkaaKAmG
set_option linter.all false
namespace Go.Proofs.Ytdkmepjedjclkaa
open Go.AM
open Go.Proofs.Try (prog)
set_option linter.all false
set_option maxRecDepth 100000
set_option maxHeartbeats 4000000

/-! ### Arguments -/
theorem u5 : prog.underlying 5 = some (.int .u8) := by kernel_rfl
theorem u36 : prog.underlying 36 = some (.array 4 5) := by kernel_rfl
theorem u37 : prog.underlying 37 = some (.slice 36) := by kernel_rfl
theorem u39 : prog.underlying 39 = some (.struct #[⟨ "Hands", 5, 0, false, "", "", 0⟩, ⟨ "Deeds", 36, 1, false, "", "", 1⟩, ⟨ "Notes", 37, 5, false, "", "", 8⟩]) := by kernel_rfl
theorem dat5 {d : Nat} {cs : List AV} (h : Dat prog (d + 1) 5 cs) : ∃ n, cs = [.int .u8 n] ∧ Byte n := by
  simp only [Dat, u5] at h
  obtain ⟨n, rfl, hw⟩ := h
  refine ⟨n, rfl, ?_⟩
  simp only [Lit.wf, Bool.and_eq_true, decide_eq_true_eq] at hw
  have e1 : IntKind.min .u8 = 0 := by decide
  have e2 : IntKind.max .u8 = 255 := by decide
  rw [e1, e2] at hw
  exact hw
theorem dat36 {d : Nat} {cs : List AV} (h : Dat prog (d + 2) 36 cs) : ∃ xs : List Int, cs = u8s xs ∧ xs.length = 4 ∧ ∀ i, Byte (nth xs i) := by
  rw [Dat] at h
  simp only [u36] at h
  obtain ⟨parts, rfl, hl, hp⟩ := h
  match parts, hl with
  | [a, b, c, e], _ =>
    obtain ⟨n0, rfl, h0⟩ := dat5 (hp a (by simp)).2
    obtain ⟨n1, rfl, h1⟩ := dat5 (hp b (by simp)).2
    obtain ⟨n2, rfl, h2⟩ := dat5 (hp c (by simp)).2
    obtain ⟨n3, rfl, h3⟩ := dat5 (hp e (by simp)).2
    refine ⟨[n0, n1, n2, n3], rfl, rfl, fun i => ?_⟩
    match i with
    | 0 => exact h0
    | 1 => exact h1
    | 2 => exact h2
    | 3 => exact h3
    | _ + 4 => exact ⟨by simp [nth], by simp [nth]⟩
theorem dat37 {d : Nat} {cs : List AV} (h : Dat prog (d + 3) 37 cs) : ∃ v T, cs = [v] ∧ IsSl u8s v T ∧ (∀ x ∈ T, x.length = 4) ∧ (∀ x ∈ T, ∀ i, Byte (nth x i)) ∧ (T.length : Int) ≤ 9223372036854775807 := by
  rw [Dat] at h
  simp only [u37] at h
  rcases h with rfl | ⟨parts, rfl, hl, hp⟩
  · exact ⟨.nils, [], rfl, .inl ⟨rfl, rfl⟩, (fun x h => by cases h), (fun x h => by cases h), by simp⟩
  · have key : ∀ ps : List (List AV), (∀ p ∈ ps, Dat prog (d + 2) 36 p) → ∃ T : List (List Int), T.length = ps.length ∧ ps.flatten = flatC u8s T ∧ (∀ x ∈ T, x.length = 4) ∧ ∀ x ∈ T, ∀ i, Byte (nth x i) := by
      intro ps
      induction ps with
      | nil => exact fun _ => ⟨[], rfl, rfl, (fun x h => by cases h), fun x h => by cases h⟩
      | cons p ps ih =>
        intro h
        obtain ⟨x, e, h4, hB⟩ := dat36 (h p (by simp))
        obtain ⟨T, k1, k2, k3, k4⟩ := ih (fun q hq => h q (by simp [hq]))
        refine ⟨x :: T, by simp [k1], by rw [List.flatten_cons, flatC_cons, e, k2], fun y hy => ?_, fun y hy => ?_⟩
        · rcases List.mem_cons.1 hy with rfl | hy
          · exact h4
          · exact k3 y hy
        · rcases List.mem_cons.1 hy with rfl | hy
          · exact hB
          · exact k4 y hy
    obtain ⟨T, k1, k2, k3, k4⟩ := key parts (fun p hq => (hp p hq).2)
    refine ⟨_, T, rfl, .inr ⟨false, by rw [k1, k2]⟩, k3, k4, ?_⟩
    have : maxLen = 9223372036854775807 := by decide
    omega
theorem datV39 {d : Nat} {a : AV} (h : DatV prog (d + 4) 39 a) : ∃ hh ds vT T, IsTaleN a hh ds vT T := by
  simp only [DatV, u39] at h
  obtain ⟨cs, rfl, h⟩ := h
  rw [Dat] at h
  simp only [u39] at h
  obtain ⟨parts, rfl, hl, hp⟩ := h
  match parts, hl with
  | [a, b, c], _ =>
    obtain ⟨hh, rfl, h0⟩ := dat5 (d := d + 2) (hp 0 _ _ rfl rfl).2
    obtain ⟨ds, rfl, h1, h1'⟩ := dat36 (d := d + 1) (hp 1 _ _ rfl rfl).2
    obtain ⟨vT, T, rfl, h2, h3, h4, h5⟩ := dat37 (d := d) (hp 2 _ _ rfl rfl).2
    exact ⟨hh, ds, vT, T, ⟨by simp, h0, h1, h1', h2, h3, h4, h5⟩⟩
/-! ### A cut of arbitrary numbers -/
theorem cutN_loop {vD vN : AV} {D xs : List Int} (hD : IsInts vD D) (hx : xs.length = 4) (hB : ∀ i, Byte (nth xs i)) (h4 : D.length ≤ 4) (lo : ∀ i, 0 ≤ nth D i) (hi : ∀ i, nth D i ≤ 6) : ∀ (k i : Nat) (acc : List Int) (m : Mem), i + k = D.length → acc.length = i → (∀ h, 0 ≤ nth acc h ∧ nth acc h ≤ nth D h) → m.h 0 = some (.cells (ints acc)) →
    ∃ l, CutL D l ∧ l09_cutOf.L0 (.fptr [vD, vN]) (.fptr (u8s xs)) (.sl 0 1 0 i i) (.int .i64 i) m [.code l09_cutOf.r6, .code .ret] = some (.fsl false l.length (ints l), Mem.empty) := by
  intro k
  induction k with
  | zero =>
    intro i acc m h1 h2 h3 h0
    have e : i = D.length := by omega
    refine ⟨acc, ⟨by omega, fun h => (h3 h).1, fun h => (h3 h).2⟩, ?_⟩
    have h2' : acc.length = D.length := by omega
    have ht : (ints acc).take D.length = ints acc := List.take_of_length_le (by simp; omega)
    simp at ht
    rw [l09_cutOf.L0_eq]
    simp [hD.len, e, h0, h2', ht]
  | succ k ih =>
    intro i acc m h1 h2 h3 h0
    have q1 : i < D.length := by omega
    have q2 : i < 4 := by omega
    have q2' : (i : Int) < 4 := by omega
    have hw : IntKind.wrap .i64 ((i : Int) + 1) = (i : Int) + 1 := wrap_id (by omega) (by omega)
    have hld : (u8s xs)[i]? = some (.int .u8 (nth xs i)) := by simp [u8s, nth_eq (show i < xs.length by omega)]
    have hB := hB i
    have hw1 := wrap_byte hB
    have l0 := lo i
    have l6 := hi i
    have hw2 : IntKind.wrap .i64 (nth D i + 1) = nth D i + 1 := wrap_id (by omega) (by omega)
    have p1 := Int.tmod_nonneg (nth D i + 1) hB.1
    have p2 := Int.tmod_lt_of_pos (nth xs i) (show 0 < nth D i + 1 by omega)
    have hw3 : IntKind.wrap .i64 ((nth xs i).tmod (nth D i + 1)) = (nth xs i).tmod (nth D i + 1) := wrap_id (by omega) (by omega)
    generalize hcq : (nth xs i).tmod (nth D i + 1) = c at p1 p2 hw3
    have hne : ¬ (nth D i + 1 = 0) := by omega
    have hr : ints acc ++ [.int .i64 c] = ints (acc ++ [c]) := by simp [ints]
    obtain ⟨l, j1, j2⟩ := ih (i + 1) (acc ++ [c]) ⟨upd m.h 0 (some (.cells (ints (acc ++ [c])))), m.nx + 15⟩ (by omega) (by simp [h2]) (fun h => by
      simp only [nth, List.getD] at h3 p2 ⊢
      rcases Nat.lt_or_ge h acc.length with g1 | g1
      · rw [List.getElem?_append_left g1]; exact h3 h
      · rw [List.getElem?_append_right g1]
        cases g : h - acc.length with
        | zero =>
          have : h = i := by omega
          subst this
          simp
          exact ⟨p1, by omega⟩
        | succ n => simp; exact lo h) (by simp)
    refine ⟨l, j1, ?_⟩
    simp only [Int.natCast_add, Int.cast_ofNat_Int] at j2
    rw [← j2, l09_cutOf.L0_eq]
    simp [hD.len, q1, q2, q2', hld, hw1, hD.idx q1, ints_head q1, hw2, hcq, hw3, hne, h0, h2, hw, hr, show i ≤ 4611686018427387903 by omega, show (i + 1) * 8 ≤ 70368744177664 by omega]
    done

theorem cutN_spec {v : AV} {D xs : List Int} {N : List Note} (hs : IsTale v D N) (val : ValidS D N) (hx : xs.length = 4) (hB : ∀ i, Byte (nth xs i)) : ∃ l, CutL D l ∧ ∀ m, denC prog ann 25 [v, .agg (u8s xs)] m = some (.fsl false l.length (ints l), m) := by
  obtain ⟨vD, vN, rfl, hD, hN⟩ := hs.ex
  obtain ⟨l, h1, h2⟩ := cutN_loop (vN := vN) hD hx hB val.n4 val.lo val.hi D.length 0 [] ⟨upd Mem.empty.h 0 (some (.cells [])), 1⟩ (by omega) rfl (fun h => by simp [nth]; exact val.lo h) (by simp)
  refine ⟨l, h1, fun m => ?_⟩
  rw [l09_cutOf.call_eq _ _ _ (by simp [hD.closed, hN.closed])]
  simp at h2
  simp [hD.one, hN.one, hD.closed, hN.closed, h2]

/-! ### Back and Forth of a valid story -/
def bl (D : List Int) (N : List Note) (l : List Int) : List Int := lastL ((cutsL D N).filter fun x => belowB x l)
def fl (D : List Int) (N : List Note) (l : List Int) : List Int := firstL ((cutsL D N).filter fun x => belowB l x)

section
variable {v vl : AV} {D l : List Int} {N : List Note}
end
end Go.Proofs.Ytdkmepjedjclkaa

/-
  THE PLAIN LAW (5): the reference's clocks settle deed by deed, and are the program's. Conditions: none.
-/
namespace Go.Proofs.Ytdkmepjedjclkaa
open Go.AM
open Go.Proofs.Try (prog)
set_option linter.all false
set_option maxRecDepth 10000

section
variable {D : List Int} {N : List Note} {K : List (List (List Int))}
/-- What is known of the reference's clocks while they grow. -/
structure RInv (D : List Int) (N : List Note) (C : List (List (List Int))) : Prop where
  len : C.length = D.length
  rows : ∀ h, h < D.length → ((kth C h).length : Int) = nth D h
  wid : ∀ h, ∀ c ∈ kth C h, c.length = D.length
  low : ∀ V, Super D N V → ∀ h i, i < (kth C h).length → ∀ g, kn C h i g ≤ V h i g
  unit : ∀ (h i : Nat), i < (kth C h).length → (i : Int) + 1 ≤ kn C h i h
  pos : ∀ h i, i < (kth C h).length → ∀ g, 0 ≤ kn C h i g

def Ge (C C' : List (List (List Int))) : Prop := ∀ h i q, kn C h i q ≤ kn C' h i q
theorem Ge.refl (C : List (List (List Int))) : Ge C C := fun _ _ _ => Int.le_refl _
theorem Ge.trans {A B C : List (List (List Int))} (h : Ge A B) (k : Ge B C) : Ge A C := fun a b c => Int.le_trans (h a b c) (k a b c)

theorem kn_grow {C : List (List (List Int))} {h i n : Nat} {c : List Int} (hh : h < C.length) (hi : i < (kth C h).length) (hw : (cth (kth C h) i).length = n) (hc : c.length = n) (g j q : Nat) : kn (growK C h i c) g j q = if g = h ∧ j = i then max (kn C h i q) (nth c q) else kn C g j q := by
  show nth (cth (kth (growK C h i c) g) j) q = _
  rw [growK, kth_set hh]
  by_cases e : g = h
  · subst e
    simp only [if_true, true_and]
    by_cases e2 : j = i
    · subst e2
      rw [if_pos rfl, ← nth_zmax (by omega)]
      congr 1
      simp [cth, List.getD, List.getElem?_set, hi]
    · rw [if_neg e2]
      have : ¬ i = j := fun x => e2 x.symm
      show nth _ _ = nth _ _
      congr 1
      simp [cth, List.getD, List.getElem?_set, this]
  · simp [e]

theorem RInv.grow {C : List (List (List Int))} (I : RInv D N C) {h i : Nat} (hh : h < D.length) (hi : i < (kth C h).length) {c : List Int} (hc : c.length = D.length) (hl : ∀ V, Super D N V → ∀ g, nth c g ≤ V h i g) : RInv D N (growK C h i c) ∧ Ge C (growK C h i c) ∧ ∀ q, nth c q ≤ kn (growK C h i c) h i q := by
  have hhC : h < C.length := by rw [I.len]; exact hh
  have hw := I.wid h _ (cth_mem hi)
  have e := kn_grow (n := D.length) hhC hi hw hc
  have hk := fun g => kth_set (K := C) (h := h) (g := g) (r := (kth C h).set i (zmax (cth (kth C h) i) c)) hhC
  have hkl : ∀ g, (kth (growK C h i c) g).length = (kth C g).length := by
    intro g; rw [growK, hk]; split
    · rename_i e; subst e; simp
    · rfl
  refine ⟨⟨by simp [growK, I.len], fun g hg => by rw [hkl]; exact I.rows g hg, fun g d hd => ?_, fun V hV g j hj q => ?_, fun g j hj => ?_, fun g j hj q => ?_⟩, fun g j q => ?_, fun q => ?_⟩
  · rw [growK, hk] at hd
    split at hd
    · rcases List.mem_or_eq_of_mem_set hd with h1 | h1
      · exact I.wid h d h1
      · rw [h1]; simp [zmax, hw, hc]
    · exact I.wid g d hd
  · rw [hkl] at hj
    rw [e]; split
    · rename_i e2; obtain ⟨rfl, rfl⟩ := e2
      have := I.low V hV g j hj q; have := hl V hV q; omega
    · exact I.low V hV g j hj q
  · rw [hkl] at hj
    rw [e]; split
    · rename_i e2; obtain ⟨rfl, rfl⟩ := e2
      have := I.unit g j hj; omega
    · exact I.unit g j hj
  · rw [hkl] at hj
    rw [e]; split
    · rename_i e2; obtain ⟨rfl, rfl⟩ := e2
      have := I.pos g j hj q; omega
    · exact I.pos g j hj q
  · rw [e]; split
    · rename_i e2; obtain ⟨rfl, rfl⟩ := e2; omega
    · exact Int.le_refl _
  · rw [e, if_pos ⟨rfl, rfl⟩]; omega

/-- A round: all has grown, and holds what came before it at the round's begin. -/
structure Round (D : List Int) (N : List Note) (C C' : List (List (List Int))) : Prop where
  inv : RInv D N C'
  ge : Ge C C'
  own : ∀ (h i : Nat), h < D.length → (i : Int) + 1 < nth D h → ∀ q, kn C h i q ≤ kn C' h (i + 1) q
  note : ∀ x ∈ N, ∀ q, kn C x.f.toNat (x.s.toNat - 1) q ≤ kn C' x.t.toNat (x.r.toNat - 1) q

def Settled (K C : List (List (List Int))) (x : List Int) : Prop := ∀ (h i : Nat), (i : Int) < nth x h → ∀ q, kn K h i q ≤ kn C h i q

end
end Go.Proofs.Ytdkmepjedjclkaa

/-
  WatchCuts RETURNS TRUE. Conditions: none.
-/
namespace Go.Proofs.Ytdkmepjedjclkaa
open Go.AM
open Go.Proofs.Try (prog)
set_option linter.all false
set_option maxRecDepth 100000

/-- Where a list stands from a place on. -/
def fromI (rows : List (List Int)) (l : List Int) (i : Nat) : Int := match (rows.drop i).findIdx? (fun x => l == x) with | some j => (i : Int) + j | none => -1
end Go.Proofs.Ytdkmepjedjclkaa

/-
  BODIES OF FUNCTIONS OF THE PROGRAM AS SMALL OPERATIONS (written by gen.py; checked by the kernel against the program). Conditions: none.
-/
namespace Go.Proofs.Ytdkmepjedjclkaa
open Go.AM
open Go.Proofs.Try (prog)
set_option maxRecDepth 100000
set_option linter.all false





end Go.Proofs.Ytdkmepjedjclkaa

/-
  Before, AND WHAT A DEED IS. Conditions: none.
-/
namespace Go.Proofs.Ytdkmepjedjclkaa
open Go.AM
open Go.Proofs.Try (prog)
set_option linter.all false
set_option maxRecDepth 100000
set_option maxHeartbeats 4000000

/-- What Before hands back. -/
inductive BefRes (D : List Int) (N : List Note) (a b c d : Int) : Bool → Int → Prop where
  | bad (h : ¬ ValidS D N) : BefRes D N a b c d false 1
  | form (v : ValidS D N) (h : (deedOk D a b && deedOk D c d) = false) : BefRes D N a b c d false 2
  | ok {K : List (List (List Int))} (v : ValidS D N) (h : deedOk D a b = true) (h' : deedOk D c d = true) (k : Clocks D N K) : BefRes D N a b c d (!decide ([a, b] = [c, d]) && decide (b ≤ kn K c.toNat (d.toNat - 1) a.toNat)) 0

end Go.Proofs.Ytdkmepjedjclkaa

/-
  THE REFERENCE's CLOCKS IN MEMORY (1): a row of single deeds. Conditions: none.
-/
namespace Go.Proofs.Ytdkmepjedjclkaa
open Go.AM
open Go.Proofs.Try (prog)
set_option linter.all false
set_option maxRecDepth 100000
set_option maxHeartbeats 4000000

/-- The first clock of a deed: of its hand alone. -/
def unitW (n h i : Nat) : List Int := (List.replicate n 0).set h ((i : Int) + 1)
def unitsW (n h k : Nat) : List (List Int) := (List.range k).map (unitW n h)
/-- A row as a slice. -/
def rowV (D : List Int) (rids : Nat → Nat) (h : Nat) : AV := .sl (rids h) 1 0 (nth D h).toNat (nth D h).toNat
def rowsV (D : List Int) (rids : Nat → Nat) (k : Nat) : List AV := (List.range k).map (rowV D rids)
end Go.Proofs.Ytdkmepjedjclkaa

/-
  THE REFERENCE's CLOCKS IN MEMORY (2): all rows. Conditions: none.
-/
namespace Go.Proofs.Ytdkmepjedjclkaa
open Go.AM
open Go.Proofs.Try (prog)
set_option linter.all false
set_option maxRecDepth 100000
set_option maxHeartbeats 4000000

/-- Some rows of clocks in memory. -/
structure CAt (m : Mem) (oid : Nat) (rids : Nat → Nat) (D : List Int) (C : List (List (List Int))) : Prop where
  o : m.h oid = some (.cells (rowsV D rids C.length))
  r : ∀ h, h < C.length → m.h (rids h) = some (.cells (flatC rowC (kth C h)))
  ol : oid < m.nx
  rl : ∀ h, h < C.length → rids h < m.nx
  ne : ∀ h, h < C.length → oid ≠ rids h
  inj : ∀ g h, g < C.length → h < C.length → rids g = rids h → g = h

def unitsC (D : List Int) (k : Nat) : List (List (List Int)) := (List.range k).map fun h => unitsW D.length h (nth D h).toNat
end Go.Proofs.Ytdkmepjedjclkaa

/-
  THE REFERENCE's CLOCKS IN MEMORY (3): at the outset. Conditions: none.
-/
namespace Go.Proofs.Ytdkmepjedjclkaa
open Go.AM
open Go.Proofs.Try (prog)
set_option linter.all false
set_option maxRecDepth 100000

end Go.Proofs.Ytdkmepjedjclkaa

/-
  THE REFERENCE's CLOCKS IN MEMORY (4): the rounds, as growth. Conditions: none.
-/
namespace Go.Proofs.Ytdkmepjedjclkaa
open Go.AM
open Go.Proofs.Try (prog)
set_option linter.all false
set_option maxRecDepth 100000
set_option maxHeartbeats 4000000

theorem updNe {h : Nat → Option AObj} {i j : Nat} {o : Option AObj} (e : j ≠ i) : upd h i o j = h j := by simp [upd, show (j == i) = false from beq_eq_false_iff_ne.2 e]
theorem flatC_row (R : List (List Int)) : flatC rowC R = R.map fun c => .fsl false c.length (ints c) := by
  induction R with
  | nil => rfl
  | cons a R ih => rw [flatC_cons, ih]; rfl
theorem flatC_row_set (R : List (List Int)) (i : Nat) (x : List Int) : (flatC rowC R).set i (.fsl false x.length (ints x)) = flatC rowC (R.set i x) := by
  rw [flatC_row, flatC_row, List.map_set]
theorem flatC_row_get {R : List (List Int)} {i : Nat} (hi : i < R.length) : (flatC rowC R)[i]? = some (.fsl false (cth R i).length (ints (cth R i))) := by
  rw [flatC_row, List.getElem?_map, cth_eq hi]; rfl
theorem flatC_row_len (R : List (List Int)) : (flatC rowC R).length = R.length := by rw [flatC_row]; simp
@[simp] theorem rowsV_getElem (D : List Int) (rids : Nat → Nat) {k h : Nat} (hh : h < (rowsV D rids k).length) : (rowsV D rids k)[h] = rowV D rids h := by simp [rowsV]
@[simp] theorem flatC_row_getElem {R : List (List Int)} {i : Nat} (hi : i < (flatC rowC R).length) : (flatC rowC R)[i] = .fsl false (cth R i).length (ints (cth R i)) := by
  have h := flatC_row_get (R := R) (i := i) (by rwa [flatC_row_len] at hi)
  rw [List.getElem?_eq_getElem hi] at h
  simpa using h

theorem kth_grow {C : List (List (List Int))} {h i : Nat} {c : List Int} (hh : h < C.length) (g : Nat) : kth (growK C h i c) g = if g = h then (kth C h).set i (zmax (cth (kth C h) i) c) else kth C g := by rw [growK, kth_set hh]
theorem growK_len {C : List (List (List Int))} {h i : Nat} {c : List Int} : (growK C h i c).length = C.length := by simp [growK]

theorem CAt.grow {m : Mem} {oid : Nat} {rids : Nat → Nat} {D : List Int} {C : List (List (List Int))} (k : CAt m oid rids D C) {h i n' : Nat} {c : List Int} (hh : h < C.length) (hn : m.nx ≤ n') :
    CAt ⟨upd m.h (rids h) (some (.cells ((flatC rowC (kth C h)).set i (.fsl false (zmax (cth (kth C h) i) c).length (ints (zmax (cth (kth C h) i) c)))))), n'⟩ oid rids D (growK C h i c) := by
  refine ⟨?_, fun g hg => ?_, Nat.lt_of_lt_of_le k.ol hn, fun g hg => ?_, fun g hg => ?_, fun g g' hg hg' e => ?_⟩
  · rw [growK_len]
    show upd m.h (rids h) _ oid = _
    rw [updNe (k.ne h hh)]; exact k.o
  · rw [growK_len] at hg
    rw [kth_grow hh, flatC_row_set]
    show upd m.h (rids h) _ (rids g) = _
    by_cases e : g = h
    · subst e; simp
    · rw [updNe (fun x => e (k.inj g h hg hh x)), if_neg e]; exact k.r g hg
  · rw [growK_len] at hg; exact Nat.lt_of_lt_of_le (k.rl g hg) hn
  · rw [growK_len] at hg; exact k.ne g hg
  · rw [growK_len] at hg hg'; exact k.inj g g' hg hg' e
theorem CAt.more {m : Mem} {oid : Nat} {rids : Nat → Nat} {D : List Int} {C : List (List (List Int))} (k : CAt m oid rids D C) {m' : Mem} (hm : ∀ id, id < m.nx → m'.h id = m.h id) (hn : m.nx ≤ m'.nx) : CAt m' oid rids D C :=
  ⟨by rw [hm _ k.ol]; exact k.o, fun h hh => by rw [hm _ (k.rl h hh)]; exact k.r h hh, Nat.lt_of_lt_of_le k.ol hn, fun h hh => Nat.lt_of_lt_of_le (k.rl h hh) hn, k.ne, k.inj⟩

/-- Some deeds have taken in what was before them. -/
structure Part (D : List Int) (N : List Note) (C C' : List (List (List Int))) (S : Nat → Nat → Prop) : Prop where
  inv : RInv D N C'
  ge : Ge C C'
  own : ∀ (h i : Nat), h < D.length → S h (i + 1) → (i : Int) + 1 < nth D h → ∀ q, kn C h i q ≤ kn C' h (i + 1) q
  note : ∀ x ∈ N, S x.t.toNat (x.r.toNat - 1) → ∀ q, kn C x.f.toNat (x.s.toNat - 1) q ≤ kn C' x.t.toNat (x.r.toNat - 1) q

section
variable {D : List Int} {N : List Note} {A B C : List (List (List Int))} {S T : Nat → Nat → Prop}
theorem Part.refl (I : RInv D N C) (h : ∀ g i, S g i → False) : Part D N C C S := ⟨I, Ge.refl C, fun g i _ s => (h _ _ s).elim, fun x _ s => (h _ _ s).elim⟩
theorem Part.trans {U : Nat → Nat → Prop} (a : Part D N A B S) (b : Part D N B C T) (h : ∀ g i, U g i → S g i ∨ T g i) : Part D N A C U := by
  refine ⟨b.inv, a.ge.trans b.ge, fun g i hg u hi q => ?_, fun x hx u q => ?_⟩
  · rcases h _ _ u with s | t
    · exact Int.le_trans (a.own g i hg s hi q) (b.ge _ _ q)
    · exact Int.le_trans (a.ge _ _ q) (b.own g i hg t hi q)
  · rcases h _ _ u with s | t
    · exact Int.le_trans (a.note x hx s q) (b.ge _ _ q)
    · exact Int.le_trans (a.ge _ _ q) (b.note x hx t q)
end

end Go.Proofs.Ytdkmepjedjclkaa

/-
  THE REFERENCE's CLOCKS IN MEMORY (5): a deed takes in what it receives. Conditions: none.
-/
namespace Go.Proofs.Ytdkmepjedjclkaa
open Go.AM
open Go.Proofs.Try (prog)
set_option linter.all false
set_option maxRecDepth 100000
set_option maxHeartbeats 4000000

end Go.Proofs.Ytdkmepjedjclkaa

/-
  THE REFERENCE's CLOCKS IN MEMORY (6): hands, rounds, and what is handed back. Conditions: none.
-/
namespace Go.Proofs.Ytdkmepjedjclkaa
open Go.AM
open Go.Proofs.Try (prog)
set_option linter.all false
set_option maxRecDepth 100000
set_option maxHeartbeats 4000000

/-- The clocks as a value. -/
def clkC (R : List (List Int)) : List AV := [.fsl false R.length (flatC rowC R)]
def clkV (C : List (List (List Int))) : AV := .fsl false C.length (flatC clkC C)

theorem sum_six (D : List Int) (h4 : D.length ≤ 4) (hi : ∀ i, nth D i ≤ 6) : D.sum ≤ 24 := by
  have h0 := hi 0; have h1 := hi 1; have h2 := hi 2; have h3 := hi 3
  match D, h4 with
  | [], _ => simp
  | [a], _ => simp [nth] at *; omega
  | [a, b], _ => simp [nth] at *; omega
  | [a, b, c], _ => simp [nth] at *; omega
  | [a, b, c, d], _ => simp [nth] at *; omega

end Go.Proofs.Ytdkmepjedjclkaa

/-
  WatchBefore RETURNS TRUE. Conditions: none.
-/
namespace Go.Proofs.Ytdkmepjedjclkaa
open Go.AM
open Go.Proofs.Try (prog)
set_option linter.all false
set_option maxRecDepth 100000
set_option maxHeartbeats 4000000

@[simp] theorem clkV_closed (C : List (List (List Int))) : (clkV C).closed = true := rfl
@[simp] theorem clkV_one (C : List (List (List Int))) : (clkV C).one = true := rfl
@[simp] theorem clkV_cells (C : List (List (List Int))) : (clkV C).cells = [clkV C] := rfl
@[simp] theorem clkV_deep (C : List (List (List Int))) (h : Nat → Option AObj) (d : Nat) : deep h (d + 1) (clkV C) = some (clkV C) := rfl

end Go.Proofs.Ytdkmepjedjclkaa

/-
  watch.Clocks: ITS ROWS IN MEMORY. Conditions: none.
-/
namespace Go.Proofs.Ytdkmepjedjclkaa
open Go.AM
open Go.Proofs.Try (prog)
set_option linter.all false
set_option maxRecDepth 100000
set_option maxHeartbeats 4000000

theorem appV_full {size by' n : Nat} {ex : Bool} {cs : List AV} (h : size ≠ 0) (hl : cs.length = n * size) (hc : closedL cs = true) (hr : room n by' = true) (hn : n ≠ 0) :
    appV size by' (.fsl true 0 []) (.fsl ex n cs) = some (.fsl false n cs) := by
  have h' : (size == 0) = false := by simpa using h
  have hn' : (n == 0) = false := by simpa using hn
  have hr' := hr
  simp at hr'
  simp [appV, appF, h', hl, hn', hr', hc]
  simp [← hl]
theorem list_fix {v : AV} {n : Nat} {D : List Int} {K : List (List (List Int))} (s : IsStory v n D K) {c : List Int} (hc : c.length = 4) (m : Mem) :
    denC prog ann 63 [v, .agg (ints c)] m = some (.fsl false n (ints (c.take n)), m) := by
  obtain ⟨V, rfl, hV, _⟩ := s.V
  have hn := s.n4
  have hn1 := s.n1
  have he := appV_full (size := 1) (by' := 8) (n := n) (ex := n == 4) (cs := ints (c.take n)) (by simp) (by simp [hc]; omega) (by simp) (by simp [room]; omega) (by omega)
  have hcl : ∀ m, denC prog ann 98 [.fsl (n == 4) n (ints (c.take n))] m = some (.fsl false n (ints (c.take n)), m) := by
    intro m
    rw [slices_Clone_int.call_eq _ _ (by simp)]
    simp [nil22, he]
  rw [watch_story_list.call_eq _ _ _ (by simp)]
  have hn' : (n : Int) ≤ 4 := by omega
  simp [sliceArr, bnds, bnd, hc, hn', hcl]

/-- A row as a slice, or nothing. -/
def slR (ids : Nat → Nat) (R : List (List (List Int))) (g : Nat) : AV := if kth R g = [] then .nils else .sl (ids g) 1 0 (kth R g).length (kth R g).length
def outR (ids : Nat → Nat) (R : List (List (List Int))) (n : Nat) : List AV := (List.range n).map (slR ids R)
@[simp] theorem outR_getElem (ids : Nat → Nat) (R : List (List (List Int))) {n h : Nat} (hh : h < (outR ids R n).length) : (outR ids R n)[h] = slR ids R h := by simp [outR]

/-- The rows in memory. -/
structure WAt (m : Mem) (oid : Nat) (ids : Nat → Nat) (n : Nat) (R : List (List (List Int))) : Prop where
  o : m.h oid = some (.cells (outR ids R n))
  r : ∀ h, kth R h ≠ [] → m.h (ids h) = some (.cells (flatC rowC (kth R h)))
  ol : oid < m.nx
  rl : ∀ h, kth R h ≠ [] → ids h < m.nx
  ne : ∀ h, kth R h ≠ [] → oid ≠ ids h
  inj : ∀ g h, kth R g ≠ [] → kth R h ≠ [] → ids g = ids h → g = h

/-- A row grows. -/
def pushR (R : List (List (List Int))) (h : Nat) (x : List Int) : List (List (List Int)) := R.set h (kth R h ++ [x])
theorem kth_push {R : List (List (List Int))} {h : Nat} {x : List Int} (hh : h < R.length) (g : Nat) : kth (pushR R h x) g = if g = h then kth R h ++ [x] else kth R g := by rw [pushR, kth_set hh]

theorem outR_set {ids : Nat → Nat} {R : List (List (List Int))} {n h : Nat} {x : List Int} (hh : h < R.length) (hn : h < n) {ids' : Nat → Nat} (hi : ∀ g, g ≠ h → ids' g = ids g) :
    (outR ids R n).set h (.sl (ids' h) 1 0 ((kth R h).length + 1) ((kth R h).length + 1)) = outR ids' (pushR R h x) n := by
  refine List.ext_getElem (by simp [outR]) fun g h1 h2 => ?_
  rw [List.getElem_set]
  have hg : g < n := by simpa [outR] using h2
  by_cases e : h = g
  · subst e
    rw [if_pos rfl, outR_getElem]
    simp [slR, kth_push hh]
  · rw [if_neg e, outR_getElem, outR_getElem]
    have e' : ¬ g = h := fun x => e x.symm
    simp [slR, kth_push hh, e', hi g e']

theorem WAt.push {m m' : Mem} {oid : Nat} {ids : Nat → Nat} {n : Nat} {R : List (List (List Int))} (w : WAt m oid ids n R) {h : Nat} (hh : h < R.length) (hn : h < n) {x : List Int} {ids' : Nat → Nat} (hi : ∀ g, g ≠ h → ids' g = ids g)
    (h1 : m'.h oid = some (.cells ((outR ids R n).set h (.sl (ids' h) 1 0 ((kth R h).length + 1) ((kth R h).length + 1)))))
    (h2 : m'.h (ids' h) = some (.cells (flatC rowC (kth R h ++ [x]))))
    (h3 : ∀ id, id < m.nx → id ≠ oid → id ≠ ids' h → m'.h id = m.h id) (h4 : m.nx ≤ m'.nx) (h5 : ids' h < m'.nx) (h6 : oid ≠ ids' h) (h7 : ∀ g, g ≠ h → kth R g ≠ [] → ids g ≠ ids' h) : WAt m' oid ids' n (pushR R h x) := by
  refine ⟨by rw [h1, outR_set (ids' := ids') hh hn hi], fun g hg => ?_, Nat.lt_of_lt_of_le w.ol h4, fun g hg => ?_, fun g hg => ?_, fun g g' hg hg' e => ?_⟩
  · by_cases e : g = h
    · subst e; rw [kth_push hh, if_pos rfl]; exact h2
    · rw [kth_push hh, if_neg e] at hg ⊢
      rw [hi g e, h3 _ (w.rl g hg) (fun x => w.ne g hg x.symm) (h7 g e hg)]; exact w.r g hg
  · by_cases e : g = h
    · subst e; exact h5
    · rw [kth_push hh, if_neg e] at hg
      rw [hi g e]; exact Nat.lt_of_lt_of_le (w.rl g hg) h4
  · by_cases e : g = h
    · subst e; exact h6
    · rw [kth_push hh, if_neg e] at hg
      rw [hi g e]; exact w.ne g hg
  · by_cases e1 : g = h
    · by_cases e2 : g' = h
      · omega
      · rw [kth_push hh, if_neg e2] at hg'
        rw [e1, hi g' e2] at e; exact absurd e.symm (h7 g' e2 hg')
    · rw [kth_push hh, if_neg e1] at hg
      by_cases e2 : g' = h
      · rw [e2, hi g e1] at e; exact absurd e (h7 g e1 hg)
      · rw [kth_push hh, if_neg e2] at hg'
        rw [hi g e1, hi g' e2] at e; exact w.inj g g' hg hg' e

/-- What Clocks hands back of each hand: the clocks, cut to the number of hands. -/
def rowsN (K : List (List (List Int))) (n h : Nat) : List (List Int) := (kth K h).map fun c => c.take n
/-- The rows while they are built: those of the hands before h whole, of hand h the first i. -/
def partR (K : List (List (List Int))) (n h i : Nat) : List (List (List Int)) := (List.range n).map fun g => if g < h then rowsN K n g else if g = h then (rowsN K n g).take i else []
end Go.Proofs.Ytdkmepjedjclkaa

/-
  watch.Clocks: WHAT IT COMPUTES. Conditions: none.
-/
namespace Go.Proofs.Ytdkmepjedjclkaa
open Go.AM
open Go.Proofs.Try (prog)
set_option linter.all false
set_option maxRecDepth 100000
set_option maxHeartbeats 4000000

end Go.Proofs.Ytdkmepjedjclkaa

/-
  watch.Clocks: WHAT IT HANDS BACK. Conditions: none.
-/
namespace Go.Proofs.Ytdkmepjedjclkaa
open Go.AM
open Go.Proofs.Try (prog)
set_option linter.all false
set_option maxRecDepth 100000
set_option maxHeartbeats 4000000

/-- A row as a value. -/
def slotV (K : List (List (List Int))) (n h : Nat) : AV := if rowsN K n h = [] then .nils else .fsl false (rowsN K n h).length (flatC rowC (rowsN K n h))
/-- The clocks as a value. -/
def wclkV (K : List (List (List Int))) (n : Nat) : AV := .fsl false n ((List.range n).map (slotV K n))
@[simp] theorem wclk_closed (K : List (List (List Int))) (n : Nat) : (wclkV K n).closed = true := rfl
@[simp] theorem wclk_one (K : List (List (List Int))) (n : Nat) : (wclkV K n).one = true := rfl
@[simp] theorem wclk_cells (K : List (List (List Int))) (n : Nat) : (wclkV K n).cells = [wclkV K n] := rfl
@[simp] theorem wclk_deep (K : List (List (List Int))) (n : Nat) (h : Nat → Option AObj) (d : Nat) : deep h (d + 1) (wclkV K n) = some (wclkV K n) := rfl
@[simp] theorem wclk_len (K : List (List (List Int))) (n : Nat) : lenSl (wclkV K n) = some (.int .i64 n) := rfl
@[simp] theorem wclk_frz (K : List (List (List Int))) (n : Nat) (m : Mem) : frzV (wclkV K n) m = some (wclkV K n, m) := rfl

/-- What Clocks hands back. -/
inductive ClkRes (D : List Int) (N : List Note) : AV → Int → Prop where
  | bad (h : ¬ ValidS D N) : ClkRes D N .nils 1
  | ok {K : List (List (List Int))} (v : ValidS D N) (k : Clocks D N K) : ClkRes D N (wclkV K D.length) 0

end Go.Proofs.Ytdkmepjedjclkaa

/-
  SLICES WHOSE ELEMENTS ARE THEMSELVES SLICES, AS VALUES. Conditions: none.
-/
namespace Go.AM
set_option linter.all false

def cAt (cs : List AV) (i : Nat) : AV := cs.getD i .undef
theorem cAt_eq {cs : List AV} {i : Nat} (h : i < cs.length) : cs[i]? = some (cAt cs i) := by
  rw [List.getElem?_eq_getElem h]; simp [cAt, List.getD, List.getElem?_eq_getElem h]
theorem cAt_load {cs : List AV} {i : Nat} (h : i < cs.length) : loadF false 1 (.fptr (cs.drop i)) = some (cAt cs i) := by
  simp [List.head?_drop, cAt_eq h]
def gth {α : Type} [Inhabited α] (l : List α) (i : Nat) : α := l.getD i default
theorem gth_eq {α : Type} [Inhabited α] {l : List α} {i : Nat} (h : i < l.length) : l[i]? = some (gth l i) := by
  rw [List.getElem?_eq_getElem h]; simp [gth, List.getD, List.getElem?_eq_getElem h]
theorem gth_mem {α : Type} [Inhabited α] {l : List α} {i : Nat} (h : i < l.length) : gth l i ∈ l := List.mem_of_getElem? (gth_eq h)
theorem drop_gth {α : Type} [Inhabited α] {l : List α} {i : Nat} (h : i < l.length) : l.drop i = gth l i :: l.drop (i + 1) := by
  obtain ⟨h1, h2⟩ := List.getElem?_eq_some_iff.1 (gth_eq h)
  rw [List.drop_eq_getElem_cons h1, h2]

/-- A slice of cells that stand each for an element. -/
structure IsVec {α : Type} [Inhabited α] (R : AV → α → Prop) (v : AV) (cs : List AV) (l : List α) : Prop where
  n : cs.length = l.length
  rel : ∀ i, i < l.length → R (cAt cs i) (gth l i)
  cl : closedL cs = true
  v : (v = .nils ∧ l = []) ∨ ∃ ex, v = .fsl ex l.length cs
section
variable {α : Type} [Inhabited α] {R : AV → α → Prop} {v : AV} {cs : List AV} {l : List α}
theorem IsVec.closed (h : IsVec R v cs l) : v.closed = true := by rcases h.v with ⟨rfl, _⟩ | ⟨_, rfl⟩ <;> rfl
theorem IsVec.one (h : IsVec R v cs l) : v.one = true := by rcases h.v with ⟨rfl, _⟩ | ⟨_, rfl⟩ <;> rfl
theorem IsVec.cells (h : IsVec R v cs l) : v.cells = [v] := by rcases h.v with ⟨rfl, _⟩ | ⟨_, rfl⟩ <;> rfl
theorem IsVec.len (h : IsVec R v cs l) : lenSl v = some (.int .i64 l.length) := by rcases h.v with ⟨rfl, rfl⟩ | ⟨_, rfl⟩ <;> simp
theorem IsVec.deep (h : IsVec R v cs l) (hp : Nat → Option AObj) (d : Nat) : AM.deep hp (d + 1) v = some v := by rcases h.v with ⟨rfl, _⟩ | ⟨_, rfl⟩ <;> rfl
theorem IsVec.frz (h : IsVec R v cs l) (m : Mem) : frzV v m = some (v, m) := by rcases h.v with ⟨rfl, _⟩ | ⟨_, rfl⟩ <;> rfl
theorem IsVec.idx (h : IsVec R v cs l) {i : Nat} (hi : i < l.length) (k : IntKind) : idxSl 1 v (.int k (i : Int)) = some (.fptr (cs.drop i)) := by
  rcases h.v with ⟨rfl, rfl⟩ | ⟨_, rfl⟩
  · simp at hi
  · simp [hi]
theorem IsVec.load (h : IsVec R v cs l) {i : Nat} (hi : i < l.length) : loadF false 1 (.fptr (cs.drop i)) = some (cAt cs i) := cAt_load (by rw [h.n]; exact hi)
theorem IsVec.at (h : IsVec R v cs l) {i : Nat} (hi : i < l.length) : R (cAt cs i) (gth l i) := h.rel i hi
end
/-- The cells of a slice whose cells are lists of numbers of one form. -/
theorem vec_of {α : Type} [Inhabited α] {R : AV → α → Prop} {g : α → AV} (hg : ∀ a, R (g a) a) (hc : ∀ a, (g a).closed = true) (ex : Bool) (l : List α) : IsVec R (.fsl ex l.length (l.map g)) (l.map g) l := by
  refine ⟨by simp, fun i hi => ?_, ?_, .inr ⟨ex, rfl⟩⟩
  · have e := gth_eq hi
    have e2 := cAt_eq (cs := l.map g) (i := i) (by simpa using hi)
    rw [List.getElem?_map, e] at e2
    simp only [Option.map_some, Option.some.injEq] at e2
    rw [← e2]; exact hg _
  · induction l with
    | nil => rfl
    | cons a l ih => simp [hc a, ih]

/-! ### Bools -/
def boolC (b : Bool) : List AV := [.bool b]
def bnth (l : List Bool) (i : Nat) : Bool := l.getD i false
abbrev IsBools : AV → List Bool → Prop := IsSl boolC
end Go.AM

/-
  BODIES OF FUNCTIONS OF THE PROGRAM AS SMALL OPERATIONS (written by gen.py; checked by the kernel against the program). Conditions: none.
-/
namespace Go.Proofs.Ytdkmepjedjclkaa
open Go.AM
open Go.Proofs.Try (prog)
set_option maxRecDepth 100000
set_option linter.all false







end Go.Proofs.Ytdkmepjedjclkaa

/-
  FLAGS: WHAT THE HANDS SAY. Conditions: none.
-/
namespace Go.Proofs.Ytdkmepjedjclkaa
open Go.AM
open Go.Proofs.Try (prog)
set_option linter.all false
set_option maxRecDepth 100000
set_option maxHeartbeats 4000000

/-- Do all hands from h on say yes at a cut? -/
def yesR (F : List (List Bool)) (c : List Int) (k h : Nat) : Bool := (List.range' h k).all fun h => bnth (gth F h) (nth c h).toNat
def yesB (F : List (List Bool)) (c : List Int) : Bool := yesR F c F.length 0
/-- Are the flags those of the deeds? -/
structure FlagsOk (D : List Int) (F : List (List Bool)) : Prop where
  n : F.length = D.length
  w : ∀ h, h < D.length → ((gth F h).length : Int) = nth D h + 1
def flagsB (D : List Int) (F : List (List Bool)) : Bool := decide (F.length = D.length) && (List.range' 0 D.length).all fun h => decide (((gth F h).length : Int) = nth D h + 1)
/-- What flagsOf hands back. -/
inductive FlagsRes (D : List Int) (N : List Note) (F : List (List Bool)) (vF : AV) : AV → Int → Prop where
  | bad (h : ¬ ValidS D N) : FlagsRes D N F vF (.agg [.nilp, .nils]) 1
  | form (v : ValidS D N) (h : ¬ FlagsOk D F) : FlagsRes D N F vF (.agg [.nilp, .nils]) 2
  | ok {sv : AV} {K : List (List (List Int))} (v : ValidS D N) (h : FlagsOk D F) (k : Clocks D N K) (s : IsStory sv D.length (pad D) K) : FlagsRes D N F vF (.agg [sv, vF]) 0

end Go.Proofs.Ytdkmepjedjclkaa

/-
  FLAGS: WHAT ALL CUTS AT WHICH ALL HANDS SAY YES BECOME. Conditions: none.
-/
namespace Go.Proofs.Ytdkmepjedjclkaa
open Go.AM
open Go.Proofs.Try (prog)
set_option linter.all false
set_option maxRecDepth 100000
set_option maxHeartbeats 4000000

/-- A function of two cuts. -/
structure IsOp (fb : Nat) (op : List Int → List Int → List Int) : Prop where
  pure : (ann fb).pure = true
  call : ∀ a b : List Int, a.length = 4 → b.length = 4 → ∀ m, denC prog ann fb [.agg (ints a), .agg (ints b)] m = some (.agg (ints (op a b)), m)
  len : ∀ a b : List Int, a.length = 4 → b.length = 4 → (op a b).length = 4
section
variable {fb : Nat} {op : List Int → List Int → List Int} {sv vF : AV} {n : Nat} {D4 : List Int} {K : List (List (List Int))}

theorem IsStory.frz (s : IsStory sv n D4 K) (m : Mem) : frzV sv m = some (sv, m) := by obtain ⟨V, rfl, _⟩ := s.V; rfl

/-- The list while it grows. -/
def outX (oid : Nat) (acc : List (List Int)) : AV := if acc = [] then .nils else .sl oid 4 0 acc.length (acc.length * 4)
def OutX (m : Mem) (oid : Nat) (acc : List (List Int)) : Prop := acc ≠ [] → m.h oid = some (.cells (flatC ints acc)) ∧ oid < m.nx

/-- What comes of all that was found. -/
def endV (op : List Int → List Int → List Int) (n : Nat) (acc : List (List Int)) : AV := match acc with
  | [] => .tup [.nils, .int .i64 5]
  | x :: l => .tup [.fsl false n (ints (((x :: l).foldl op x).take n)), .int .i64 0]

end
end Go.Proofs.Ytdkmepjedjclkaa

/-
  FLAGS: First AND Last; THE REFERENCE's. Conditions: none.
-/
namespace Go.Proofs.Ytdkmepjedjclkaa
open Go.AM
open Go.Proofs.Try (prog)
set_option linter.all false
set_option maxRecDepth 100000
set_option maxHeartbeats 4000000

/-- All consistent cuts at which all hands say yes. -/
def yesL (D : List Int) (N : List Note) (F : List (List Bool)) : List (List Int) := (cutsL D N).filter (yesB F)
def foldL (op : List Int → List Int → List Int) : List (List Int) → List Int
  | [] => []
  | x :: l => (x :: l).foldl op x
/-- What comes of them. -/
inductive EndsRes (op : List Int → List Int → List Int) (D : List Int) (N : List Note) (F : List (List Bool)) : AV → Int → Prop where
  | bad (h : ¬ ValidS D N) : EndsRes op D N F .nils 1
  | form (v : ValidS D N) (h : ¬ FlagsOk D F) : EndsRes op D N F .nils 2
  | none (v : ValidS D N) (h : FlagsOk D F) (e : yesL D N F = []) : EndsRes op D N F .nils 5
  | ok {x : AV} (v : ValidS D N) (h : FlagsOk D F) (e : yesL D N F ≠ []) (i : IsInts x (foldL op (yesL D N F))) : EndsRes op D N F x 0

end Go.Proofs.Ytdkmepjedjclkaa

/-
  MAPS KEYED BY CUTS. Conditions: none.
-/
namespace Go.Proofs.Ytdkmepjedjclkaa
open Go.AM
open Go.Proofs.Try (prog)
set_option linter.all false
set_option maxRecDepth 100000

theorem keyEq99 {a b : List Int} (ha : a.length = 4) (hb : b.length = 4) : keyEq prog 99 (.agg (ints a)) (.agg (ints b)) = some (decide (a = b)) := by
  have h := eqCs_ints 4 a b ha hb
  simp only [List.replicate] at h
  simp [keyEq, flat99, ha, hb, h]
theorem keyT99 {a : List Int} (ha : a.length = 4) : keyT prog 99 (.agg (ints a)) = true := by simp [keyT, flat99, ha]

/-- Entries: cuts and values. -/
abbrev Ents := List (List Int × AV)
def keysL (L : Ents) : List AV := L.map fun e => .agg (ints e.1)
def valsL (L : Ents) : List AV := L.map (·.2)
def lkL : Ents → List Int → Option AV
  | [], _ => none
  | e :: L, c => if e.1 = c then some e.2 else lkL L c
def setL : Ents → List Int → AV → Ents
  | [], c, v => [(c, v)]
  | e :: L, c, v => if e.1 = c then (c, v) :: L else e :: setL L c v
def Keys4 (L : Ents) : Prop := ∀ e ∈ L, e.1.length = 4

theorem findK99 : ∀ {L : Ents} {c : List Int}, Keys4 L → c.length = 4 → findK prog 99 (.agg (ints c)) (keysL L) (valsL L) = some (lkL L c)
  | [], c, _, _ => rfl
  | e :: L, c, h, hc => by
    have ih := findK99 (L := L) (c := c) (fun x hx => h x (by simp [hx])) hc
    have he : e.1.length = 4 := h e (by simp)
    simp only [keysL, valsL, List.map_cons, findK, keyEq99 hc he, Option.bind_some]
    simp only [keysL, valsL] at ih
    by_cases q : e.1 = c
    · simp [q, lkL]
    · have q' : ¬ c = e.1 := fun x => q x.symm
      simp [q, q', lkL, ih]
theorem setK99 : ∀ {L : Ents} {c : List Int} {v : AV}, Keys4 L → c.length = 4 → setK prog 99 (.agg (ints c)) v (keysL L) (valsL L) = some (keysL (setL L c v), valsL (setL L c v))
  | [], c, v, _, _ => rfl
  | e :: L, c, v, h, hc => by
    have ih := setK99 (L := L) (c := c) (v := v) (fun x hx => h x (by simp [hx])) hc
    have he : e.1.length = 4 := h e (by simp)
    simp only [keysL, valsL, List.map_cons, setK, keyEq99 hc he, Option.bind_some]
    simp only [keysL, valsL] at ih
    by_cases q : e.1 = c
    · simp [q, setL]
    · have q' : ¬ c = e.1 := fun x => q x.symm
      simp [q, q', setL, ih]
theorem setL_keys4 : ∀ {L : Ents} {c : List Int} {v : AV}, Keys4 L → c.length = 4 → Keys4 (setL L c v)
  | [], c, v, _, hc => fun e he => by simp [setL] at he; rw [he]; exact hc
  | x :: L, c, v, h, hc => fun e he => by
    rw [setL] at he
    split at he
    · rcases List.mem_cons.1 he with rfl | he
      · exact hc
      · exact h e (by simp [he])
    · rcases List.mem_cons.1 he with rfl | he
      · exact h e (by simp)
      · exact setL_keys4 (fun y hy => h y (by simp [hy])) hc e he
theorem lk_set : ∀ (L : Ents) (c : List Int) (v : AV) (d : List Int), lkL (setL L c v) d = if c = d then some v else lkL L d
  | [], c, v, d => by simp [setL, lkL]
  | e :: L, c, v, d => by
    rw [setL]
    by_cases q : e.1 = c
    · rw [if_pos q, lkL, lkL]
      by_cases q2 : c = d
      · rw [if_pos q2, if_pos q2]
      · rw [if_neg q2, if_neg q2, if_neg (by rw [q]; exact q2)]
    · rw [if_neg q, lkL, lkL, lk_set L c v d]
      by_cases q2 : e.1 = d
      · rw [if_pos q2, if_pos q2, if_neg (fun x => q (q2.trans x.symm))]
      · rw [if_neg q2, if_neg q2]
theorem keysL_deep (L : Ents) (h : Nat → Option AObj) (d : Nat) : mapO (deep h (d + 2)) (keysL L) = some (keysL L) := by
  refine mapO_fix fun a ha => ?_
  simp only [keysL, List.mem_map] at ha
  obtain ⟨e, _, rfl⟩ := ha
  simp
/-- A map as a value. -/
def mapV (L : Ents) : AV := .fmap (keysL L) (valsL L)
theorem look99 {L : Ents} {c : List Int} (h : Keys4 L) (hc : c.length = 4) (m : Mem) (z : AV) (ok : Bool) : lookP prog m 99 z (mapV L) (.agg (ints c)) ok = some (match lkL L c with
    | some v => bif ok then .tup [v, .bool true] else v
    | none => bif ok then .tup [z, .bool false] else z) := by
  simp only [lookP, keyT99 hc, cond_true, lookA, mapV, findK99 h hc, Option.bind_some]
  cases lkL L c <;> rfl
theorem lookM99 {L : Ents} {c : List Int} {m : Mem} {id g : Nat} (hm : m.h id = some (.map g (keysL L) (valsL L))) (h : Keys4 L) (hc : c.length = 4) (z : AV) (ok : Bool) : lookP prog m 99 z (.map id) (.agg (ints c)) ok = some (match lkL L c with
    | some v => bif ok then .tup [v, .bool true] else v
    | none => bif ok then .tup [z, .bool false] else z) := by
  simp only [lookP, keyT99 hc, cond_true, lookA, hm, findK99 h hc, Option.bind_some]
  cases lkL L c <;> rfl
theorem upd99 {L : Ents} {c : List Int} {m : Mem} {id g : Nat} {v : AV} (hm : m.h id = some (.map g (keysL L) (valsL L))) (h : Keys4 L) (hc : c.length = 4) : updM prog m 99 (.map id) (.agg (ints c)) v = some (.tup [], m.set id (some (.map (g + 1) (keysL (setL L c v)) (valsL (setL L c v))))) := by
  simp only [updM, updP, keyT99 hc, cond_true, hm, setK99 h hc, Option.bind_some, Option.map_some]
end Go.Proofs.Ytdkmepjedjclkaa

/-
  BODIES OF FUNCTIONS OF THE PROGRAM AS SMALL OPERATIONS (written by gen.py; checked by the kernel against the program). Conditions: none.
-/
namespace Go.Proofs.Ytdkmepjedjclkaa
open Go.AM
open Go.Proofs.Try (prog)
set_option maxRecDepth 100000
set_option linter.all false

namespace watch_Possibly
/-- pommel/watch.Possibly -/
noncomputable def b : Code := (Try.f38.body).getD .skip
theorem hf : prog.funcs[38]? = some Try.f38 := by kernel_rfl
noncomputable def r0 : Code := findReg b 0
noncomputable def r1 : Code := findReg b 1
noncomputable def r2 : Code := findReg b 2
noncomputable def i0 : Code := findCond b 0
noncomputable def i0t : Code := thenOf i0
noncomputable def i0e : Code := elseOf i0
noncomputable def r3 : Code := findReg b 3
noncomputable def r4 : Code := findReg b 4
noncomputable def r5 : Code := findReg b 5
noncomputable def r6 : Code := findReg b 6
noncomputable def i1 : Code := findCond b 1
noncomputable def i1t : Code := thenOf i1
noncomputable def i1e : Code := elseOf i1
noncomputable def r7 : Code := findReg b 7
noncomputable def r8 : Code := findReg b 8
theorem b_eq (K : List Item) (s : St) : den prog ann 38 (.code b :: K) s = den prog ann 38 (.code r0 :: .code r1 :: .code r2 :: .code i0 :: .code r4 :: .code r5 :: .code r6 :: .code i1 :: .code r8 :: .code .ret :: K) s := den_flat hf (l := [r0, r1, r2, i0, r4, r5, r6, i1, r8, .ret]) (by kernel_rfl) K s
theorem r0_eq (K : List Item) (s : St) : den prog ann 38 (.code r0 :: K) s = mreg prog ann 38 none [] none [] [
    ⟨some 2, none, .v fun s => frozenPtr (s.get 0)⟩,
    ⟨some 4, none, .v fun s => some (.nils)⟩,
    ⟨some 5, none, .v fun s => some (.int .i64 0)⟩] K s := (den_reg hf _ K s).trans (by kernel_rfl)
theorem r1_eq (K : List Item) (s : St) : den prog ann 38 (.code r1 :: K) s = mreg prog ann 38 none [] none [7] [
    ⟨some 12, none, .v fun s => loadF true 2 (s.get 2)⟩,
    ⟨some 13, none, .v fun s => some (s.get 1)⟩,
    ⟨some 14, none, .c 0 (fun s => (.fn 74 [] [])) fun s => [(s.get 12), (s.get 13)]⟩,
    ⟨some 11, none, .v fun s => some (s.get 14)⟩,
    ⟨some 15, none, .v fun s => extA (s.get 11) 0⟩,
    ⟨some 16, none, .v fun s => extA (s.get 11) 1⟩,
    ⟨some 17, none, .v fun s => extA (s.get 11) 2⟩,
    ⟨some 7, none, .w false none fun s => newPtr s.m [.nilm]⟩,
    ⟨some 6, none, .v fun s => some (s.get 15)⟩,
    ⟨none, none, .w false none fun s => stA false 1 s.m (s.get 7) (s.get 16)⟩,
    ⟨some 8, none, .v fun s => some (s.get 17)⟩] K s := (den_reg hf _ K s).trans (by kernel_rfl)
theorem r2_eq (K : List Item) (s : St) : den prog ann 38 (.code r2 :: K) s = mreg prog ann 38 none [] none [] [
    ⟨some 18, none, .v fun s => some (s.get 8)⟩,
    ⟨some 19, none, .v fun s => binA prog .neq 27 (s.get 18) (.int .i64 0)⟩] K s := (den_reg hf _ K s).trans (by kernel_rfl)
theorem i0_eq (K : List Item) (s : St) : den prog ann 38 (.code i0 :: K) s = ifV prog ann 38 19 i0t i0e K s (s.get 19) := den_if hf (by kernel_rfl) K s
theorem i0t_eq (K : List Item) (s : St) : den prog ann 38 (.code i0t :: K) s = den prog ann 38 (.code r3 :: .code .ret :: K) s := den_flat hf (l := [r3, .ret]) (by kernel_rfl) K s
theorem r3_eq (K : List Item) (s : St) : den prog ann 38 (.code r3 :: K) s = mreg prog ann 38 none [] none [] [
    ⟨some 20, none, .v fun s => some (s.get 8)⟩,
    ⟨some 4, none, .v fun s => some (.nils)⟩,
    ⟨some 5, none, .v fun s => some (s.get 20)⟩] K s := (den_reg hf _ K s).trans (by kernel_rfl)
theorem i0e_eq (K : List Item) (s : St) : den prog ann 38 (.code i0e :: K) s = den prog ann 38 (K) s := den_flat hf (l := []) (by kernel_rfl) K s
theorem r4_eq (K : List Item) (s : St) : den prog ann 38 (.code r4 :: K) s = mreg prog ann 38 none [] none [] [
    ⟨some 21, none, .v fun s => some (s.get 6)⟩,
    ⟨some 22, none, .c 0 (fun s => (.fn 62 [] [])) fun s => [(s.get 21)]⟩,
    ⟨some 9, none, .v fun s => some (s.get 22)⟩] K s := (den_reg hf _ K s).trans (by kernel_rfl)
theorem r5_eq (K : List Item) (s : St) : den prog ann 38 (.code r5 :: K) s = mreg prog ann 38 none [] none [] [
    ⟨some 23, none, .v fun s => some (s.get 9)⟩,
    ⟨some 24, none, .v fun s => some (.fn 76 [] [(s.get 7)])⟩,
    ⟨some 25, none, .c 0 (fun s => (.fn 75 [] [])) fun s => [(s.get 23), (s.get 24)]⟩,
    ⟨some 10, none, .v fun s => some (s.get 25)⟩] K s := (den_reg hf _ K s).trans (by kernel_rfl)
theorem r6_eq (K : List Item) (s : St) : den prog ann 38 (.code r6 :: K) s = mreg prog ann 38 none [] none [] [
    ⟨some 26, none, .v fun s => some (s.get 10)⟩,
    ⟨some 27, none, .v fun s => binA prog .lss 3 (s.get 26) (.int .i64 0)⟩] K s := (den_reg hf _ K s).trans (by kernel_rfl)
theorem i1_eq (K : List Item) (s : St) : den prog ann 38 (.code i1 :: K) s = ifV prog ann 38 27 i1t i1e K s (s.get 27) := den_if hf (by kernel_rfl) K s
theorem i1t_eq (K : List Item) (s : St) : den prog ann 38 (.code i1t :: K) s = den prog ann 38 (.code r7 :: .code .ret :: K) s := den_flat hf (l := [r7, .ret]) (by kernel_rfl) K s
theorem r7_eq (K : List Item) (s : St) : den prog ann 38 (.code r7 :: K) s = mreg prog ann 38 none [] none [] [
    ⟨some 4, none, .v fun s => some (.nils)⟩,
    ⟨some 5, none, .v fun s => some (.int .i64 5)⟩] K s := (den_reg hf _ K s).trans (by kernel_rfl)
theorem i1e_eq (K : List Item) (s : St) : den prog ann 38 (.code i1e :: K) s = den prog ann 38 (K) s := den_flat hf (l := []) (by kernel_rfl) K s
theorem r8_eq (K : List Item) (s : St) : den prog ann 38 (.code r8 :: K) s = mreg prog ann 38 none [] none [] [
    ⟨some 28, none, .v fun s => some (s.get 6)⟩,
    ⟨some 29, none, .v fun s => some (s.get 9)⟩,
    ⟨some 30, none, .v fun s => some (s.get 10)⟩,
    ⟨some 31, none, .v fun s => idxSl 4 (s.get 29) (s.get 30)⟩,
    ⟨some 32, none, .v fun s => loadF true 4 (s.get 31)⟩,
    ⟨some 33, none, .c 0 (fun s => (.fn 63 [] [])) fun s => [(s.get 28), (s.get 32)]⟩,
    ⟨some 4, none, .v fun s => some (s.get 33)⟩,
    ⟨some 5, none, .v fun s => some (.int .i64 0)⟩] K s := (den_reg hf _ K s).trans (by kernel_rfl)
theorem ret_eq (K : List Item) (s : St) : den prog ann 38 (.code .ret :: K) s = finM true [fun s => some (s.get 4), fun s => some (s.get 5)] s := (den_ret hf K s).trans (by kernel_rfl)
theorem nil_eq (s : St) : den prog ann 38 [] s = finM true [fun s => some (s.get 4), fun s => some (s.get 5)] s := (den_nil hf s).trans (by kernel_rfl)
theorem inBlock_eq (id : Nat) (K : List Item) (s : St) : den prog ann 38 (.inBlock id :: K) s = den prog ann 38 K s := den_inBlock hf id K s
theorem exit_eq (id : Nat) (K : List Item) (s : St) : den prog ann 38 (.code (.exit id) :: K) s = exitV prog ann 38 (exitTo id K) s := den_exitV hf id K s
theorem call_eq (v0 v1 : AV) (m : Mem) (h : closedL [v0, v1] = true) : denC prog ann 38 [v0, v1] m = (den prog ann 38 [.code b] ⟨[(0, v0), (1, v1)], 34, Mem.empty⟩).bind fun r => some (r.1, m) := (denC_pure hf (b := b) (by kernel_rfl) (by kernel_rfl) (by kernel_rfl) h m).trans (by kernel_rfl)
theorem pure_eq : (ann 38).pure = true := by kernel_rfl
attribute [simp] b_eq r0_eq r1_eq r2_eq i0_eq i0t_eq r3_eq i0e_eq r4_eq r5_eq r6_eq i1_eq i1t_eq r7_eq i1e_eq r8_eq ret_eq nil_eq inBlock_eq exit_eq pure_eq
end watch_Possibly

namespace watch_setOf
/-- pommel/watch.setOf -/
noncomputable def b : Code := (Try.f74.body).getD .skip
theorem hf : prog.funcs[74]? = some Try.f74 := by kernel_rfl
noncomputable def r0 : Code := findReg b 0
noncomputable def r1 : Code := findReg b 1
noncomputable def k0 : Code := findBlk b 0
noncomputable def r2 : Code := findReg b 2
noncomputable def i0 : Code := findCond b 0
noncomputable def i0t : Code := thenOf i0
noncomputable def i0e : Code := elseOf i0
noncomputable def r3 : Code := findReg b 3
noncomputable def r4 : Code := findReg b 4
noncomputable def i1 : Code := findCond b 1
noncomputable def i1t : Code := thenOf i1
noncomputable def i1e : Code := elseOf i1
noncomputable def r5 : Code := findReg b 5
noncomputable def r6 : Code := findReg b 6
noncomputable def r7 : Code := findReg b 7
noncomputable def k1 : Code := findBlk b 1
noncomputable def l1 : Code := loopOf k1
noncomputable def L1 (x7 x9 x27 x28 x29 : AV) (m : Mem) (K : List Item) : Option Res := den prog ann 74 (.code l1 :: .inLoop l1 :: .inBlock 1 :: K) ⟨[(7, x7), (9, x9), (27, x27), (28, x28), (29, x29)], 46, m⟩
noncomputable def r8 : Code := findReg b 8
noncomputable def i2 : Code := findCond b 2
noncomputable def i2t : Code := thenOf i2
noncomputable def i2e : Code := elseOf i2
noncomputable def k2 : Code := findBlk b 2
noncomputable def r9 : Code := findReg b 9
noncomputable def r10 : Code := findReg b 10
noncomputable def r11 : Code := findReg b 11
noncomputable def i3 : Code := findCond b 3
noncomputable def i3t : Code := thenOf i3
noncomputable def i3e : Code := elseOf i3
noncomputable def r12 : Code := findReg b 12
noncomputable def r13 : Code := findReg b 13
noncomputable def r14 : Code := findReg b 14
noncomputable def r15 : Code := findReg b 15
theorem b_eq (K : List Item) (s : St) : den prog ann 74 (.code b :: K) s = den prog ann 74 (.code r0 :: .code r1 :: .code k0 :: .code r6 :: .code r7 :: .code k1 :: .code r15 :: .code .ret :: K) s := den_flat hf (l := [r0, r1, k0, r6, r7, k1, r15, .ret]) (by kernel_rfl) K s
theorem r0_eq (K : List Item) (s : St) : den prog ann 74 (.code r0 :: K) s = mreg prog ann 74 none [] none [] [
    ⟨some 2, none, .v fun s => frozenPtr (s.get 0)⟩,
    ⟨some 4, none, .v fun s => some (.nilp)⟩,
    ⟨some 5, none, .v fun s => some (.nilm)⟩,
    ⟨some 6, none, .v fun s => some (.int .i64 0)⟩] K s := (den_reg hf _ K s).trans (by kernel_rfl)
theorem r1_eq (K : List Item) (s : St) : den prog ann 74 (.code r1 :: K) s = mreg prog ann 74 none [] none [] [
    ⟨some 15, none, .v fun s => loadF true 2 (s.get 2)⟩,
    ⟨some 16, none, .c 0 (fun s => (.fn 61 [] [])) fun s => [(s.get 15)]⟩,
    ⟨some 14, none, .v fun s => some (s.get 16)⟩,
    ⟨some 17, none, .v fun s => extA (s.get 14) 0⟩,
    ⟨some 18, none, .v fun s => extA (s.get 14) 1⟩,
    ⟨some 7, none, .v fun s => some (s.get 17)⟩,
    ⟨some 8, none, .v fun s => some (s.get 18)⟩] K s := (den_reg hf _ K s).trans (by kernel_rfl)
theorem k0_eq (K : List Item) (s : St) : den prog ann 74 (.code k0 :: K) s = den prog ann 74 (.code r2 :: .code i0 :: .inBlock 0 :: K) s := den_blk hf (b := blkOf k0) (l := [r2, i0]) (by kernel_rfl) (by kernel_rfl) K s
theorem r2_eq (K : List Item) (s : St) : den prog ann 74 (.code r2 :: K) s = mreg prog ann 74 none [] none [] [
    ⟨some 20, none, .v fun s => some (s.get 8)⟩,
    ⟨some 21, none, .v fun s => unA .not (s.get 20)⟩,
    ⟨some 19, none, .v fun s => some (s.get 21)⟩] K s := (den_reg hf _ K s).trans (by kernel_rfl)
theorem i0_eq (K : List Item) (s : St) : den prog ann 74 (.code i0 :: K) s = ifV prog ann 74 19 i0t i0e K s (s.get 19) := den_if hf (by kernel_rfl) K s
theorem i0t_eq (K : List Item) (s : St) : den prog ann 74 (.code i0t :: K) s = den prog ann 74 (.code r3 :: .code .ret :: K) s := den_flat hf (l := [r3, .ret]) (by kernel_rfl) K s
theorem r3_eq (K : List Item) (s : St) : den prog ann 74 (.code r3 :: K) s = mreg prog ann 74 none [] none [] [
    ⟨some 4, none, .v fun s => some (.nilp)⟩,
    ⟨some 5, none, .v fun s => some (.nilm)⟩,
    ⟨some 6, none, .v fun s => some (.int .i64 1)⟩] K s := (den_reg hf _ K s).trans (by kernel_rfl)
theorem i0e_eq (K : List Item) (s : St) : den prog ann 74 (.code i0e :: K) s = den prog ann 74 (.code r4 :: .code i1 :: K) s := den_flat hf (l := [r4, i1]) (by kernel_rfl) K s
theorem r4_eq (K : List Item) (s : St) : den prog ann 74 (.code r4 :: K) s = mreg prog ann 74 none [] none [] [
    ⟨some 23, none, .v fun s => some (s.get 1)⟩,
    ⟨some 24, none, .v fun s => lenSl (s.get 23)⟩,
    ⟨some 25, none, .v fun s => binA prog .gtr 3 (s.get 24) (.int .i64 2500)⟩,
    ⟨some 22, none, .v fun s => some (s.get 25)⟩] K s := (den_reg hf _ K s).trans (by kernel_rfl)
theorem i1_eq (K : List Item) (s : St) : den prog ann 74 (.code i1 :: K) s = ifV prog ann 74 22 i1t i1e K s (s.get 22) := den_if hf (by kernel_rfl) K s
theorem i1t_eq (K : List Item) (s : St) : den prog ann 74 (.code i1t :: K) s = den prog ann 74 (.code r5 :: .code .ret :: K) s := den_flat hf (l := [r5, .ret]) (by kernel_rfl) K s
theorem r5_eq (K : List Item) (s : St) : den prog ann 74 (.code r5 :: K) s = mreg prog ann 74 none [] none [] [
    ⟨some 4, none, .v fun s => some (.nilp)⟩,
    ⟨some 5, none, .v fun s => some (.nilm)⟩,
    ⟨some 6, none, .v fun s => some (.int .i64 3)⟩] K s := (den_reg hf _ K s).trans (by kernel_rfl)
theorem i1e_eq (K : List Item) (s : St) : den prog ann 74 (.code i1e :: K) s = den prog ann 74 (K) s := den_flat hf (l := []) (by kernel_rfl) K s
theorem r6_eq (K : List Item) (s : St) : den prog ann 74 (.code r6 :: K) s = mreg prog ann 74 (some [1, 7]) [] none [] [
    ⟨some 26, none, .w false none fun s => some (.map s.m.nx, s.m.new (.map 0 [] []))⟩,
    ⟨some 9, none, .v fun s => some (s.get 26)⟩] K s := (den_reg hf _ K s).trans (by kernel_rfl)
theorem r7_eq (K : List Item) (s : St) : den prog ann 74 (.code r7 :: K) s = mreg prog ann 74 none [] none [] [
    ⟨some 27, none, .v fun s => some (s.get 1)⟩,
    ⟨some 28, none, .v fun s => lenSl (s.get 27)⟩,
    ⟨some 29, none, .v fun s => some (.int .i64 0)⟩] K s := (den_reg hf _ K s).trans (by kernel_rfl)
theorem k1_eq (K : List Item) (t : List (Nat × AV)) (m : Mem) : den prog ann 74 (.code k1 :: K) ⟨t, 46, m⟩ = L1 (get t 7) (get t 9) (get t 27) (get t 28) (get t 29) m K := den_loop_enter hf (b := l1) (id := 8) (l := [7, 9, 27, 28, 29]) (by kernel_rfl) (by kernel_rfl) (by kernel_rfl) K _
theorem l1_eq (K : List Item) (t : List (Nat × AV)) (m : Mem) : den prog ann 74 (.inLoop l1 :: .inBlock 1 :: K) ⟨t, 46, m⟩ = L1 (get t 7) (get t 9) (get t 27) (get t 28) (get t 29) m K := den_loop_again hf (id := 8) (l := [7, 9, 27, 28, 29]) (by kernel_rfl) (by kernel_rfl) (.inBlock 1 :: K) _
theorem L1_eq (x7 x9 x27 x28 x29 : AV) (m : Mem) (K : List Item) : L1 x7 x9 x27 x28 x29 m K = den prog ann 74 (.code r8 :: .code i2 :: .code k2 :: .code r14 :: .inLoop l1 :: .inBlock 1 :: K) ⟨[(7, x7), (9, x9), (27, x27), (28, x28), (29, x29)], 46, m⟩ := den_flat hf (l := [r8, i2, k2, r14]) (by kernel_rfl) _ _
theorem r8_eq (K : List Item) (s : St) : den prog ann 74 (.code r8 :: K) s = mreg prog ann 74 (some [7, 9, 27, 28, 29]) [] none [] [
    ⟨some 30, none, .v fun s => binA prog .lss 3 (s.get 29) (s.get 28)⟩] K s := (den_reg hf _ K s).trans (by kernel_rfl)
theorem i2_eq (K : List Item) (s : St) : den prog ann 74 (.code i2 :: K) s = ifV prog ann 74 30 i2t i2e K s (s.get 30) := den_if hf (by kernel_rfl) K s
theorem i2t_eq (K : List Item) (s : St) : den prog ann 74 (.code i2t :: K) s = den prog ann 74 (K) s := den_flat hf (l := []) (by kernel_rfl) K s
theorem i2e_eq (K : List Item) (s : St) : den prog ann 74 (.code i2e :: K) s = den prog ann 74 (.code (.exit 1) :: K) s := den_flat hf (l := [(.exit 1)]) (by kernel_rfl) K s
theorem k2_eq (K : List Item) (s : St) : den prog ann 74 (.code k2 :: K) s = den prog ann 74 (.code r9 :: .code r10 :: .code r11 :: .code i3 :: .code r13 :: .inBlock 2 :: K) s := den_blk hf (b := blkOf k2) (l := [r9, r10, r11, i3, r13]) (by kernel_rfl) (by kernel_rfl) K s
theorem r9_eq (K : List Item) (s : St) : den prog ann 74 (.code r9 :: K) s = mreg prog ann 74 none [] none [] [
    ⟨some 31, none, .v fun s => idxSl 1 (s.get 27) (s.get 29)⟩,
    ⟨some 32, none, .v fun s => loadF false 1 (s.get 31)⟩,
    ⟨some 11, none, .v fun s => some (s.get 32)⟩] K s := (den_reg hf _ K s).trans (by kernel_rfl)
theorem r10_eq (K : List Item) (s : St) : den prog ann 74 (.code r10 :: K) s = mreg prog ann 74 none [] none [12] [
    ⟨some 34, none, .v fun s => some (s.get 7)⟩,
    ⟨some 35, none, .v fun s => some (s.get 11)⟩,
    ⟨some 36, none, .c 0 (fun s => (.fn 71 [] [])) fun s => [(s.get 34), (s.get 35)]⟩,
    ⟨some 33, none, .v fun s => some (s.get 36)⟩,
    ⟨some 37, none, .v fun s => extA (s.get 33) 0⟩,
    ⟨some 38, none, .v fun s => extA (s.get 33) 1⟩,
    ⟨some 12, none, .w false none fun s => newPtr s.m [.int .i64 0, .int .i64 0, .int .i64 0, .int .i64 0]⟩,
    ⟨none, none, .w false none fun s => stA true 4 s.m (s.get 12) (s.get 37)⟩,
    ⟨some 13, none, .v fun s => some (s.get 38)⟩] K s := (den_reg hf _ K s).trans (by kernel_rfl)
theorem r11_eq (K : List Item) (s : St) : den prog ann 74 (.code r11 :: K) s = mreg prog ann 74 none [] none [] [
    ⟨some 39, none, .v fun s => some (s.get 13)⟩,
    ⟨some 40, none, .v fun s => unA .not (s.get 39)⟩] K s := (den_reg hf _ K s).trans (by kernel_rfl)
theorem i3_eq (K : List Item) (s : St) : den prog ann 74 (.code i3 :: K) s = ifV prog ann 74 40 i3t i3e K s (s.get 40) := den_if hf (by kernel_rfl) K s
theorem i3t_eq (K : List Item) (s : St) : den prog ann 74 (.code i3t :: K) s = den prog ann 74 (.code r12 :: .code .ret :: K) s := den_flat hf (l := [r12, .ret]) (by kernel_rfl) K s
theorem r12_eq (K : List Item) (s : St) : den prog ann 74 (.code r12 :: K) s = mreg prog ann 74 none [] none [] [
    ⟨some 4, none, .v fun s => some (.nilp)⟩,
    ⟨some 5, none, .v fun s => some (.nilm)⟩,
    ⟨some 6, none, .v fun s => some (.int .i64 2)⟩] K s := (den_reg hf _ K s).trans (by kernel_rfl)
theorem i3e_eq (K : List Item) (s : St) : den prog ann 74 (.code i3e :: K) s = den prog ann 74 (K) s := den_flat hf (l := []) (by kernel_rfl) K s
theorem r13_eq (K : List Item) (s : St) : den prog ann 74 (.code r13 :: K) s = mreg prog ann 74 none [] none [] [
    ⟨some 41, none, .v fun s => some (s.get 9)⟩,
    ⟨some 42, none, .v fun s => loadF true 4 (s.get 12)⟩,
    ⟨none, none, .w false none fun s => updM prog s.m 99 (s.get 41) (s.get 42) (.bool true)⟩] K s := (den_reg hf _ K s).trans (by kernel_rfl)
theorem r14_eq (K : List Item) (s : St) : den prog ann 74 (.code r14 :: K) s = mreg prog ann 74 (some [7, 9, 27, 28, 29]) [] none [] [
    ⟨some 43, none, .v fun s => binA prog .add 3 (s.get 29) (.int .i64 1)⟩,
    ⟨some 29, none, .v fun s => some (s.get 43)⟩] K s := (den_reg hf _ K s).trans (by kernel_rfl)
theorem r15_eq (K : List Item) (s : St) : den prog ann 74 (.code r15 :: K) s = mreg prog ann 74 (some [7, 9]) [] none [] [
    ⟨some 44, none, .v fun s => some (s.get 7)⟩,
    ⟨some 45, none, .v fun s => some (s.get 9)⟩,
    ⟨some 4, none, .v fun s => some (s.get 44)⟩,
    ⟨some 5, none, .v fun s => some (s.get 45)⟩,
    ⟨some 6, none, .v fun s => some (.int .i64 0)⟩] K s := (den_reg hf _ K s).trans (by kernel_rfl)
theorem ret_eq (K : List Item) (s : St) : den prog ann 74 (.code .ret :: K) s = finM true [fun s => some (s.get 4), fun s => some (s.get 5), fun s => some (s.get 6)] s := (den_ret hf K s).trans (by kernel_rfl)
theorem nil_eq (s : St) : den prog ann 74 [] s = finM true [fun s => some (s.get 4), fun s => some (s.get 5), fun s => some (s.get 6)] s := (den_nil hf s).trans (by kernel_rfl)
theorem inBlock_eq (id : Nat) (K : List Item) (s : St) : den prog ann 74 (.inBlock id :: K) s = den prog ann 74 K s := den_inBlock hf id K s
theorem exit_eq (id : Nat) (K : List Item) (s : St) : den prog ann 74 (.code (.exit id) :: K) s = exitV prog ann 74 (exitTo id K) s := den_exitV hf id K s
theorem call_eq (v0 v1 : AV) (m : Mem) (h : closedL [v0, v1] = true) : denC prog ann 74 [v0, v1] m = (den prog ann 74 [.code b] ⟨[(0, v0), (1, v1)], 46, Mem.empty⟩).bind fun r => some (r.1, m) := (denC_pure hf (b := b) (by kernel_rfl) (by kernel_rfl) (by kernel_rfl) h m).trans (by kernel_rfl)
theorem pure_eq : (ann 74).pure = true := by kernel_rfl
attribute [simp] b_eq r0_eq r1_eq k0_eq r2_eq i0_eq i0t_eq r3_eq i0e_eq r4_eq i1_eq i1t_eq r5_eq i1e_eq r6_eq r7_eq k1_eq l1_eq r8_eq i2_eq i2t_eq i2e_eq k2_eq r9_eq r10_eq r11_eq i3_eq i3t_eq r12_eq i3e_eq r13_eq r14_eq r15_eq ret_eq nil_eq inBlock_eq exit_eq pure_eq
end watch_setOf

namespace slices_IndexFunc_cut
/-- slices.IndexFuncpommel/watch.cutpommel/watch.cut -/
noncomputable def b : Code := (Try.f75.body).getD .skip
theorem hf : prog.funcs[75]? = some Try.f75 := by kernel_rfl
noncomputable def r0 : Code := findReg b 0
noncomputable def r1 : Code := findReg b 1
noncomputable def k0 : Code := findBlk b 0
noncomputable def l0 : Code := loopOf k0
noncomputable def L0 (x0 x1 x7 x8 : AV) (m : Mem) (K : List Item) : Option Res := den prog ann 75 (.code l0 :: .inLoop l0 :: .inBlock 0 :: K) ⟨[(0, x0), (1, x1), (7, x7), (8, x8)], 19, m⟩
noncomputable def r2 : Code := findReg b 2
noncomputable def i0 : Code := findCond b 0
noncomputable def i0t : Code := thenOf i0
noncomputable def i0e : Code := elseOf i0
noncomputable def k1 : Code := findBlk b 1
noncomputable def r3 : Code := findReg b 3
noncomputable def r4 : Code := findReg b 4
noncomputable def i1 : Code := findCond b 1
noncomputable def i1t : Code := thenOf i1
noncomputable def i1e : Code := elseOf i1
noncomputable def r5 : Code := findReg b 5
noncomputable def r6 : Code := findReg b 6
noncomputable def r7 : Code := findReg b 7
theorem b_eq (K : List Item) (s : St) : den prog ann 75 (.code b :: K) s = den prog ann 75 (.code r0 :: .code r1 :: .code k0 :: .code r7 :: .code .ret :: K) s := den_flat hf (l := [r0, r1, k0, r7, .ret]) (by kernel_rfl) K s
theorem r0_eq (K : List Item) (s : St) : den prog ann 75 (.code r0 :: K) s = mreg prog ann 75 none [] none [] [
    ⟨some 4, none, .v fun s => some (.int .i64 0)⟩] K s := (den_reg hf _ K s).trans (by kernel_rfl)
theorem r1_eq (K : List Item) (s : St) : den prog ann 75 (.code r1 :: K) s = mreg prog ann 75 none [] none [] [
    ⟨some 6, none, .v fun s => some (s.get 0)⟩,
    ⟨some 7, none, .v fun s => lenSl (s.get 6)⟩,
    ⟨some 8, none, .v fun s => some (.int .i64 0)⟩] K s := (den_reg hf _ K s).trans (by kernel_rfl)
theorem k0_eq (K : List Item) (t : List (Nat × AV)) (m : Mem) : den prog ann 75 (.code k0 :: K) ⟨t, 19, m⟩ = L0 (get t 0) (get t 1) (get t 7) (get t 8) m K := den_loop_enter hf (b := l0) (id := 2) (l := [0, 1, 7, 8]) (by kernel_rfl) (by kernel_rfl) (by kernel_rfl) K _
theorem l0_eq (K : List Item) (t : List (Nat × AV)) (m : Mem) : den prog ann 75 (.inLoop l0 :: .inBlock 0 :: K) ⟨t, 19, m⟩ = L0 (get t 0) (get t 1) (get t 7) (get t 8) m K := den_loop_again hf (id := 2) (l := [0, 1, 7, 8]) (by kernel_rfl) (by kernel_rfl) (.inBlock 0 :: K) _
theorem L0_eq (x0 x1 x7 x8 : AV) (m : Mem) (K : List Item) : L0 x0 x1 x7 x8 m K = den prog ann 75 (.code r2 :: .code i0 :: .code k1 :: .code r6 :: .inLoop l0 :: .inBlock 0 :: K) ⟨[(0, x0), (1, x1), (7, x7), (8, x8)], 19, m⟩ := den_flat hf (l := [r2, i0, k1, r6]) (by kernel_rfl) _ _
theorem r2_eq (K : List Item) (s : St) : den prog ann 75 (.code r2 :: K) s = mreg prog ann 75 (some [0, 1, 7, 8]) [] none [] [
    ⟨some 9, none, .v fun s => binA prog .lss 3 (s.get 8) (s.get 7)⟩] K s := (den_reg hf _ K s).trans (by kernel_rfl)
theorem i0_eq (K : List Item) (s : St) : den prog ann 75 (.code i0 :: K) s = ifV prog ann 75 9 i0t i0e K s (s.get 9) := den_if hf (by kernel_rfl) K s
theorem i0t_eq (K : List Item) (s : St) : den prog ann 75 (.code i0t :: K) s = den prog ann 75 (K) s := den_flat hf (l := []) (by kernel_rfl) K s
theorem i0e_eq (K : List Item) (s : St) : den prog ann 75 (.code i0e :: K) s = den prog ann 75 (.code (.exit 0) :: K) s := den_flat hf (l := [(.exit 0)]) (by kernel_rfl) K s
theorem k1_eq (K : List Item) (s : St) : den prog ann 75 (.code k1 :: K) s = den prog ann 75 (.code r3 :: .code r4 :: .code i1 :: .inBlock 1 :: K) s := den_blk hf (b := blkOf k1) (l := [r3, r4, i1]) (by kernel_rfl) (by kernel_rfl) K s
theorem r3_eq (K : List Item) (s : St) : den prog ann 75 (.code r3 :: K) s = mreg prog ann 75 none [] none [] [
    ⟨some 10, none, .v fun s => some (s.get 8)⟩,
    ⟨some 5, none, .v fun s => some (s.get 10)⟩] K s := (den_reg hf _ K s).trans (by kernel_rfl)
theorem r4_eq (K : List Item) (s : St) : den prog ann 75 (.code r4 :: K) s = mreg prog ann 75 none [] none [] [
    ⟨some 11, none, .v fun s => some (s.get 1)⟩,
    ⟨some 12, none, .v fun s => some (s.get 0)⟩,
    ⟨some 13, none, .v fun s => some (s.get 5)⟩,
    ⟨some 14, none, .v fun s => idxSl 4 (s.get 12) (s.get 13)⟩,
    ⟨some 15, none, .v fun s => loadA true 4 s.m (s.get 14)⟩,
    ⟨some 16, none, .c 0 (fun s => (s.get 11)) fun s => [(s.get 15)]⟩] K s := (den_reg hf _ K s).trans (by kernel_rfl)
theorem i1_eq (K : List Item) (s : St) : den prog ann 75 (.code i1 :: K) s = ifV prog ann 75 16 i1t i1e K s (s.get 16) := den_if hf (by kernel_rfl) K s
theorem i1t_eq (K : List Item) (s : St) : den prog ann 75 (.code i1t :: K) s = den prog ann 75 (.code r5 :: .code .ret :: K) s := den_flat hf (l := [r5, .ret]) (by kernel_rfl) K s
theorem r5_eq (K : List Item) (s : St) : den prog ann 75 (.code r5 :: K) s = mreg prog ann 75 none [] none [] [
    ⟨some 17, none, .v fun s => some (s.get 5)⟩,
    ⟨some 4, none, .v fun s => some (s.get 17)⟩] K s := (den_reg hf _ K s).trans (by kernel_rfl)
theorem i1e_eq (K : List Item) (s : St) : den prog ann 75 (.code i1e :: K) s = den prog ann 75 (K) s := den_flat hf (l := []) (by kernel_rfl) K s
theorem r6_eq (K : List Item) (s : St) : den prog ann 75 (.code r6 :: K) s = mreg prog ann 75 (some [0, 1, 7, 8]) [] none [] [
    ⟨some 18, none, .v fun s => binA prog .add 3 (s.get 8) (.int .i64 1)⟩,
    ⟨some 8, none, .v fun s => some (s.get 18)⟩] K s := (den_reg hf _ K s).trans (by kernel_rfl)
theorem r7_eq (K : List Item) (s : St) : den prog ann 75 (.code r7 :: K) s = mreg prog ann 75 (some []) [] none [] [
    ⟨some 4, none, .v fun s => some (.int .i64 (-1))⟩] K s := (den_reg hf _ K s).trans (by kernel_rfl)
theorem ret_eq (K : List Item) (s : St) : den prog ann 75 (.code .ret :: K) s = finM false [fun s => some (s.get 4)] s := (den_ret hf K s).trans (by kernel_rfl)
theorem nil_eq (s : St) : den prog ann 75 [] s = finM false [fun s => some (s.get 4)] s := (den_nil hf s).trans (by kernel_rfl)
theorem inBlock_eq (id : Nat) (K : List Item) (s : St) : den prog ann 75 (.inBlock id :: K) s = den prog ann 75 K s := den_inBlock hf id K s
theorem exit_eq (id : Nat) (K : List Item) (s : St) : den prog ann 75 (.code (.exit id) :: K) s = exitV prog ann 75 (exitTo id K) s := den_exitV hf id K s
theorem call_eq (v0 v1 : AV) (m : Mem) : denC prog ann 75 [v0, v1] m = den prog ann 75 [.code b] ⟨[(0, v0), (1, v1)], 19, m⟩ := (denC_impure hf (b := b) (by kernel_rfl) (by kernel_rfl) (by kernel_rfl) m).trans (by kernel_rfl)
theorem pure_eq : (ann 75).pure = false := by kernel_rfl
attribute [simp] b_eq r0_eq r1_eq k0_eq l0_eq r2_eq i0_eq i0t_eq i0e_eq k1_eq r3_eq r4_eq i1_eq i1t_eq r5_eq i1e_eq r6_eq r7_eq ret_eq nil_eq inBlock_eq exit_eq pure_eq
end slices_IndexFunc_cut

namespace watch_Possibly_1
/-- pommel/watch.Possibly$1 -/
noncomputable def b : Code := (Try.f76.body).getD .skip
theorem hf : prog.funcs[76]? = some Try.f76 := by kernel_rfl
noncomputable def r0 : Code := findReg b 0
noncomputable def r1 : Code := findReg b 1
theorem b_eq (K : List Item) (s : St) : den prog ann 76 (.code b :: K) s = den prog ann 76 (.code r0 :: .code r1 :: .code .ret :: K) s := den_flat hf (l := [r0, r1, .ret]) (by kernel_rfl) K s
theorem r0_eq (K : List Item) (s : St) : den prog ann 76 (.code r0 :: K) s = mreg prog ann 76 none [] none [] [
    ⟨some 2, none, .v fun s => frozenPtr (s.get 0)⟩,
    ⟨some 3, none, .v fun s => some (.bool false)⟩] K s := (den_reg hf _ K s).trans (by kernel_rfl)
theorem r1_eq (K : List Item) (s : St) : den prog ann 76 (.code r1 :: K) s = mreg prog ann 76 none [] none [] [
    ⟨some 4, none, .v fun s => loadA false 1 s.m (s.get 1)⟩,
    ⟨some 5, none, .v fun s => loadF true 4 (s.get 2)⟩,
    ⟨some 6, none, .v fun s => lookP prog s.m 99 (.bool false) (s.get 4) (s.get 5) false⟩,
    ⟨some 3, none, .v fun s => some (s.get 6)⟩] K s := (den_reg hf _ K s).trans (by kernel_rfl)
theorem ret_eq (K : List Item) (s : St) : den prog ann 76 (.code .ret :: K) s = finM false [fun s => some (s.get 3)] s := (den_ret hf K s).trans (by kernel_rfl)
theorem nil_eq (s : St) : den prog ann 76 [] s = finM false [fun s => some (s.get 3)] s := (den_nil hf s).trans (by kernel_rfl)
theorem inBlock_eq (id : Nat) (K : List Item) (s : St) : den prog ann 76 (.inBlock id :: K) s = den prog ann 76 K s := den_inBlock hf id K s
theorem exit_eq (id : Nat) (K : List Item) (s : St) : den prog ann 76 (.code (.exit id) :: K) s = exitV prog ann 76 (exitTo id K) s := den_exitV hf id K s
theorem call_eq (v0 v1 : AV) (m : Mem) : denC prog ann 76 [v0, v1] m = den prog ann 76 [.code b] ⟨[(0, v0), (1, v1)], 7, m⟩ := (denC_impure hf (b := b) (by kernel_rfl) (by kernel_rfl) (by kernel_rfl) m).trans (by kernel_rfl)
theorem pure_eq : (ann 76).pure = false := by kernel_rfl
attribute [simp] b_eq r0_eq r1_eq ret_eq nil_eq inBlock_eq exit_eq pure_eq
end watch_Possibly_1

end Go.Proofs.Ytdkmepjedjclkaa

/-
  SETS OF CUTS; Possibly. Conditions: none.
-/
namespace Go.Proofs.Ytdkmepjedjclkaa
open Go.AM
open Go.Proofs.Try (prog)
set_option linter.all false
set_option maxRecDepth 100000
set_option maxHeartbeats 4000000

/-- The entries of a set. -/
def setE (rows : List (List Int)) (E : Ents) : Ents := rows.foldl (fun E r => setL E (pad r) (.bool true)) E
def TrueE (E : Ents) : Prop := ∀ e ∈ E, e.2 = .bool true
theorem setL_true : ∀ {L : Ents} {c : List Int}, TrueE L → TrueE (setL L c (.bool true))
  | [], c, _ => fun e he => by simp [setL] at he; rw [he]
  | x :: L, c, h => fun e he => by
    rw [setL] at he
    split at he
    · rcases List.mem_cons.1 he with rfl | he
      · rfl
      · exact h e (by simp [he])
    · rcases List.mem_cons.1 he with rfl | he
      · exact h e (by simp)
      · exact setL_true (fun y hy => h y (by simp [hy])) e he
theorem lk_setE : ∀ (rows : List (List Int)) (E : Ents) (c : List Int), lkL (setE rows E) c = if c ∈ rows.map pad then some (.bool true) else lkL E c
  | [], E, c => by simp [setE]
  | r :: rows, E, c => by
    show lkL (setE rows (setL E (pad r) (.bool true))) c = _
    rw [lk_setE rows, lk_set]
    by_cases q : c ∈ rows.map pad
    · rw [if_pos q, if_pos (by simp only [List.map_cons, List.mem_cons]; exact .inr q)]
    · rw [if_neg q]
      by_cases q2 : pad r = c
      · rw [if_pos q2, if_pos (by simp only [List.map_cons, List.mem_cons]; exact .inl q2.symm)]
      · rw [if_neg q2, if_neg (by simp only [List.map_cons, List.mem_cons]; exact fun x => x.elim (fun y => q2 y.symm) q)]
theorem valsL_true {E : Ents} (h : TrueE E) (hp : Nat → Option AObj) (d : Nat) : mapO (deep hp (d + 1)) (valsL E) = some (valsL E) := by
  refine mapO_fix fun a ha => ?_
  simp only [valsL, List.mem_map] at ha
  obtain ⟨e, he, rfl⟩ := ha
  rw [h e he]; rfl
/-- What setOf hands back. -/
inductive SetRes (D : List Int) (N : List Note) (L : List (List Int)) : AV → AV → Int → Prop where
  | bad (h : ¬ ValidS D N) : SetRes D N L .nilp .nilm 1
  | long (v : ValidS D N) (h : 2500 < L.length) : SetRes D N L .nilp .nilm 3
  | form (v : ValidS D N) (h : L.length ≤ 2500) (h2 : L.all (cutB D) = false) : SetRes D N L .nilp .nilm 2
  | ok {sv : AV} {K : List (List (List Int))} (v : ValidS D N) (h : L.length ≤ 2500) (h2 : L.all (cutB D) = true) (k : Clocks D N K) (s : IsStory sv D.length (pad D) K) : SetRes D N L sv (mapV (setE L [])) 0

theorem set_loop {sv vL : AV} {D : List Int} {K : List (List (List Int))} (s : IsStory sv D.length (pad D) K) {cs : List AV} {L : List (List Int)} (hL : IsVec IsInts vL cs L) (hl : L.length ≤ 2500) (hw : ∀ i, i < L.length → (gth L i).length < 1000000) {id : Nat} : ∀ (k i : Nat) (E : Ents) (g : Nat) (m : Mem), i + k = L.length → Keys4 E → TrueE E → m.h id = some (.map g (keysL E) (valsL E)) → id < m.nx →
    watch_setOf.L1 sv (.map id) vL (.int .i64 L.length) (.int .i64 i) m [.code watch_setOf.r15, .code .ret] =
      some (if (L.drop i).all (cutB D) = true then .tup [sv, mapV (setE (L.drop i) E), .int .i64 0] else .tup [.nilp, .nilm, .int .i64 2], Mem.empty) := by
  have hn4 := s.n4
  have hfz : ∀ h d, deep h (d + 1) sv = some sv := by obtain ⟨V, rfl, _⟩ := s.V; exact fun _ _ => rfl
  intro k
  induction k with
  | zero =>
    intro i E g m h1 hE hT hm hid
    have e : i = L.length := by omega
    rw [watch_setOf.L1_eq]
    simp [e, hm, hfz, keysL_deep, valsL_true hT, setE, mapV]
    done
  | succ k ih =>
    intro i E g m h1 hE hT hm hid
    have hi : i < L.length := by omega
    have hwr : IntKind.wrap .i64 ((i : Int) + 1) = (i : Int) + 1 := wrap_id (by omega) (by omega)
    have hb := hL.at hi
    obtain ⟨c, hc, hc4, ec⟩ := cutOf_spec s hb (hw i hi)
    have hd := drop_gth hi
    have htc : (ints c).take 4 = ints c := List.take_of_length_le (by simp [hc4])
    have hd0 : (ints c).drop 4 = [] := List.drop_of_length_le (by simp [hc4])
    simp at htc hd0
    have e1 : (id == m.nx) = false := beq_eq_false_iff_ne.2 (by omega)
    rw [watch_setOf.L1_eq, hd, List.all_cons]
    cases q : cutB D (gth L i) with
    | false =>
      rw [q] at ec
      simp [hi, hL.idx hi, hL.load hi, s.closed, hb.closed, ec, hc4, htc, hd0]
      done
    | true =>
      rw [q] at ec
      have hcp := hc q
      have hst := ih (i + 1) (setL E c (.bool true)) (g + 1) ⟨upd (upd m.h m.nx none) id (some (.map (g + 1) (keysL (setL E c (.bool true))) (valsL (setL E c (.bool true))))), m.nx + 1⟩ (by omega) (setL_keys4 hE hc4) (setL_true hT) (by simp) (by show id < m.nx + 1; omega)
      have hu := upd99 (m := ⟨upd m.h m.nx none, m.nx + 1⟩) (id := id) (g := g) (L := E) (c := c) (v := .bool true) (by simp [e1, hm]) hE hc4
      simp only [Int.natCast_add, Int.cast_ofNat_Int] at hst
      have hse : setE (gth L i :: L.drop (i + 1)) E = setE (L.drop (i + 1)) (setL E c (.bool true)) := by rw [hcp]; rfl
      rw [hse, Bool.true_and, ← hst]
      simp [hi, hL.idx hi, hL.load hi, s.closed, hb.closed, ec, hc4, htc, hd0, hu, Mem.set, hwr]
      done

theorem setOf_spec {v vL : AV} {D : List Int} {N : List Note} {cs : List AV} {L : List (List Int)} (hs : IsTale v D N) (hl : D.length < 100000) (hn : N.length < 100000) (hL : IsVec IsInts vL cs L) (hLl : L.length < 1000000) (hw : ∀ i, i < L.length → (gth L i).length < 1000000) :
    ∃ x y e, SetRes D N L x y e ∧ ∀ m, denC prog ann 74 [v, vL] m = some (.tup [x, y, .int .i64 e], m) := by
  obtain ⟨r, hr, er⟩ := readV_spec hs hl hn
  obtain ⟨vD, vN, rfl, h1, h2⟩ := hs.ex
  have hcl : closedL [.agg [vD, vN], vL] = true := by simp [h1.closed, h2.closed, hL.closed]
  cases hr with
  | no h =>
    refine ⟨_, _, _, .bad h, fun m => ?_⟩
    rw [watch_setOf.call_eq _ _ _ hcl]
    simp [h1.one, h2.one, h1.closed, h2.closed, er]
    done
  | @ok sv K val k s =>
    by_cases q : 2500 < L.length
    · refine ⟨_, _, _, .long val q, fun m => ?_⟩
      rw [watch_setOf.call_eq _ _ _ hcl]
      simp [h1.one, h2.one, h1.closed, h2.closed, er, hL.len, show (2500 : Int) < L.length by omega]
      done
    · have lp := set_loop s hL (by omega) hw (id := 0) L.length 0 [] 0 ⟨upd Mem.empty.h 0 (some (.map 0 [] [])), 1⟩ (by omega) (fun e he => by cases he) (fun e he => by cases he) (by simp [keysL, valsL]) (by show 0 < 1; omega)
      simp only [Int.cast_ofNat_Int, Int.ofNat_zero, List.drop_zero] at lp
      cases hq : L.all (cutB D) with
      | true =>
        rw [hq] at lp
        refine ⟨_, _, _, .ok val (by omega) hq k s, fun m => ?_⟩
        rw [watch_setOf.call_eq _ _ _ hcl]
        simp at lp
        simp [h1.one, h2.one, h1.closed, h2.closed, er, hL.len, show ¬ (2500 : Int) < L.length by omega, lp]
        done
      | false =>
        rw [hq] at lp
        refine ⟨_, _, _, .form val (by omega) hq, fun m => ?_⟩
        rw [watch_setOf.call_eq _ _ _ hcl]
        simp at lp
        simp [h1.one, h2.one, h1.closed, h2.closed, er, hL.len, show ¬ (2500 : Int) < L.length by omega, lp]
        done
end Go.Proofs.Ytdkmepjedjclkaa

/-
  Possibly: WHAT IT HANDS BACK. Conditions: none.
-/
namespace Go.Proofs.Ytdkmepjedjclkaa
open Go.AM
open Go.Proofs.Try (prog)
set_option linter.all false
set_option maxRecDepth 100000
set_option maxHeartbeats 4000000

/-- Is a cut in a set? -/
def inE (E : Ents) (c : List Int) : Bool := (lkL E c).isSome
theorem inE_look {E : Ents} (hT : TrueE E) {c : List Int} : (match lkL E c with
    | some v => bif false then AV.tup [v, .bool true] else v
    | none => bif false then AV.tup [.bool false, .bool false] else .bool false) = .bool (inE E c) := by
  unfold inE
  have : ∀ (E : Ents), TrueE E → ∀ v, lkL E c = some v → v = .bool true := by
    intro E
    induction E with
    | nil => intro _ v h; cases h
    | cons e E ih =>
      intro hT v h
      rw [lkL] at h
      split at h
      · rw [← Option.some.inj h]; exact hT e (by simp)
      · exact ih (fun x hx => hT x (by simp [hx])) v h
  cases h : lkL E c with
  | none => rfl
  | some v => rw [this E hT v h]; rfl
theorem inC_spec {E : Ents} (hE : Keys4 E) (hT : TrueE E) {c : List Int} (hc : c.length = 4) (m : Mem) : denC prog ann 76 [.agg (ints c), .fptr [mapV E]] m = some (.bool (inE E c), m) := by
  have hl : ∀ m, lookP prog m 99 (.bool false) (mapV E) (.agg (ints c)) false = some (.bool (inE E c)) := fun m => by
    rw [look99 hE hc]; exact congrArg some (inE_look hT)
  rw [watch_Possibly_1.call_eq]
  have htc : (ints c).take 4 = ints c := List.take_of_length_le (by simp [hc])
  simp at htc
  simp [hc, htc, hl]

theorem ixf_loop {av : AV} {A : List (List Int)} (hav : IsSl ints av A) (hA : Four A) (hAl : A.length < 1000000) {E : Ents} (hE : Keys4 E) (hT : TrueE E) : ∀ (k i : Nat) (m : Mem), i + k = A.length →
    ∃ m', slices_IndexFunc_cut.L0 av (.fn 76 [] [.fptr [mapV E]]) (.int .i64 A.length) (.int .i64 i) m [.code slices_IndexFunc_cut.r7, .code .ret] = some (.int .i64 (match (A.drop i).findIdx? (inE E) with | some j => ((i + j : Nat) : Int) | none => -1), m') := by
  intro k
  induction k with
  | zero =>
    intro i m h1
    have e : i = A.length := by omega
    refine ⟨m, ?_⟩
    rw [slices_IndexFunc_cut.L0_eq]
    simp [e]
    done
  | succ k ih =>
    intro i m h1
    have hi : i < A.length := by omega
    have hw : IntKind.wrap .i64 ((i : Int) + 1) = (i : Int) + 1 := wrap_id (by omega) (by omega)
    have hc4 : (cth A i).length = 4 := hA _ (cth_mem hi)
    have hidx := hav.idx hA.cells hi .i64
    have hld := load_cut hA hi
    have hlA : ∀ m, loadA true 4 m (.fptr (flatC ints (A.drop i))) = some (.agg (ints (cth A i))) := fun m => by
      have := hld
      simp only [loadF, loadA, readN, cond_true] at this ⊢
      cases h : Nat.ble 4 (flatC ints (A.drop i)).length with
      | false => rw [h] at this; cases this
      | true => rw [h] at this; simpa using this
    have hin := inC_spec hE hT hc4
    have hd : A.drop i = cth A i :: A.drop (i + 1) := by
      obtain ⟨g1, g2⟩ := List.getElem?_eq_some_iff.1 (cth_eq hi)
      rw [List.drop_eq_getElem_cons g1, g2]
    obtain ⟨m', hst⟩ := ih (i + 1) m (by omega)
    simp only [Int.natCast_add, Int.cast_ofNat_Int] at hst
    have hpu : (ann 76).pure = false := by kernel_rfl
    cases q : inE E (cth A i) with
    | true =>
      refine ⟨m, ?_⟩
      rw [slices_IndexFunc_cut.L0_eq]
      rw [hd, List.findIdx?_cons, q]
      simp [hi, hidx, hlA, hin, q, hpu]
      done
    | false =>
      have hfi : (match (A.drop i).findIdx? (inE E) with | some j => ((i + j : Nat) : Int) | none => -1) = (match (A.drop (i + 1)).findIdx? (inE E) with | some j => ((i + 1 + j : Nat) : Int) | none => -1) := by
        rw [hd, List.findIdx?_cons, q]
        cases (A.drop (i + 1)).findIdx? (inE E) with
        | none => rfl
        | some j => exact congrArg _ (show i + (j + 1) = i + 1 + j by omega)
      refine ⟨m', ?_⟩
      have hst' : slices_IndexFunc_cut.L0 av (.fn 76 [] [.fptr [mapV E]]) (.int .i64 A.length) (.int .i64 ((i : Int) + 1)) m [.code slices_IndexFunc_cut.r7, .code .ret] = some (.int .i64 (match (A.drop (i + 1)).findIdx? (inE E) with | some j => ((i + 1 + j : Nat) : Int) | none => -1), m') := by
        rw [hst]
        cases (A.drop (i + 1)).findIdx? (inE E) with
        | none => rfl
        | some j => simp
      rw [hfi, ← hst', slices_IndexFunc_cut.L0_eq]
      simp [hi, hidx, hlA, hin, q, hw, hpu]
      done

theorem ixf_spec {av : AV} {A : List (List Int)} (hav : IsSl ints av A) (hA : Four A) (hAl : A.length < 1000000) {E : Ents} (hE : Keys4 E) (hT : TrueE E) (m : Mem) :
    ∃ m', denC prog ann 75 [av, .fn 76 [] [.fptr [mapV E]]] m = some (.int .i64 (match A.findIdx? (inE E) with | some j => (j : Int) | none => -1), m') := by
  obtain ⟨m', h⟩ := ixf_loop hav hA hAl hE hT A.length 0 m (by omega)
  simp only [Int.cast_ofNat_Int, Int.ofNat_zero, List.drop_zero, Nat.zero_add] at h
  refine ⟨m', ?_⟩
  rw [slices_IndexFunc_cut.call_eq]
  simp [hav.len, h]

/-- What Possibly hands back. -/
inductive PosRes (D : List Int) (N : List Note) (L : List (List Int)) : AV → Int → Prop where
  | bad (h : ¬ ValidS D N) : PosRes D N L .nils 1
  | long (v : ValidS D N) (h : 2500 < L.length) : PosRes D N L .nils 3
  | form (v : ValidS D N) (h : L.length ≤ 2500) (h2 : L.all (cutB D) = false) : PosRes D N L .nils 2
  | none (v : ValidS D N) (h : L.length ≤ 2500) (h2 : L.all (cutB D) = true) (e : (cutsL D N).find? (fun c => decide (c ∈ L)) = none) : PosRes D N L .nils 5
  | ok {x : AV} {c : List Int} (v : ValidS D N) (h : L.length ≤ 2500) (h2 : L.all (cutB D) = true) (e : (cutsL D N).find? (fun c => decide (c ∈ L)) = some c) (i : IsInts x c) : PosRes D N L x 0

theorem find_map {α β : Type} {f : α → β} {p : α → Bool} {q : β → Bool} : ∀ {A : List α}, (∀ a ∈ A, p a = q (f a)) → (A.map f).find? q = (A.find? p).map f
  | [], _ => rfl
  | a :: A, h => by
    rw [List.map_cons, List.find?_cons, List.find?_cons, h a (by simp)]
    cases q (f a) with
    | true => rfl
    | false => exact find_map fun b hb => h b (by simp [hb])
theorem find_idx {α : Type} {p : α → Bool} : ∀ {A : List α}, (∀ j, A.findIdx? p = some j → ∃ a, A[j]? = some a ∧ A.find? p = some a) ∧ (A.findIdx? p = none → A.find? p = none)
  | [] => ⟨fun j h => by simp at h, fun _ => rfl⟩
  | a :: A => by
    obtain ⟨h1, h2⟩ := find_idx (p := p) (A := A)
    rw [List.findIdx?_cons, List.find?_cons]
    cases q : p a with
    | true => exact ⟨fun j h => by simp at h; subst h; exact ⟨a, rfl, rfl⟩, fun h => by simp at h⟩
    | false =>
      refine ⟨fun j h => ?_, fun h => ?_⟩
      · simp at h
        obtain ⟨i, h, rfl⟩ := h
        obtain ⟨b, b1, b2⟩ := h1 i h
        exact ⟨b, by simpa using b1, b2⟩
      · rw [if_neg (by simp)] at h
        exact h2 (Option.map_eq_none_iff.1 h)

theorem pad_take {l : List Int} {n : Nat} (h : l.length = n) : (pad l).take n = l := by simp [pad, ← h]
theorem take_pad {n : Nat} {D c : List Int} (hn : D.length = n) (h : IsCut n (pad D) c) (h4 : n ≤ 4) : pad (c.take n) = c := by
  have hl := h.len
  refine ext_nth (by rw [pad_len (by simp; omega), hl]) fun g => ?_
  rw [nth_pad]
  rcases Nat.lt_or_ge g n with hg | hg
  · exact nth_take hg
  · rw [nth_out (by simp; omega)]
    have := h.lo g
    have := h.hi g
    rw [nth_pad, nth_out (l := D) (by omega)] at this
    omega
theorem all_cut {sv : AV} {D : List Int} {K : List (List (List Int))} (s : IsStory sv D.length (pad D) K) : ∀ c ∈ allL (pad D) K D.length, IsCut D.length (pad D) c := by
  intro c hc
  have hc' := (List.mem_filter.1 hc).1
  exact enumR_cut (n := D.length) s.pos D.length 0 [0, 0, 0, 0] ⟨rfl, fun h => by rw [show ([0, 0, 0, 0] : List Int) = List.replicate 4 0 from rfl, nth_zero']; exact Int.le_refl _, fun h => by rw [show ([0, 0, 0, 0] : List Int) = List.replicate 4 0 from rfl, nth_zero']; exact s.pos h⟩ c hc'

theorem setE_keys : ∀ {rows : List (List Int)} {E : Ents}, Keys4 E → (∀ r ∈ rows, r.length ≤ 4) → Keys4 (setE rows E)
  | [], E, h, _ => h
  | r :: rows, E, h, hr => setE_keys (rows := rows) (setL_keys4 h (pad_len (hr r (by simp)))) fun x hx => hr x (by simp [hx])
theorem setE_true : ∀ {rows : List (List Int)} {E : Ents}, TrueE E → TrueE (setE rows E)
  | [], E, h => h
  | r :: rows, E, h => setE_true (rows := rows) (setL_true h)
theorem all_cutB {D : List Int} {L : List (List Int)} (h : L.all (cutB D) = true) : ∀ r ∈ L, CutL D r := fun r hr => cutB_iff.1 (List.all_eq_true.1 h r hr)
theorem inE_set {D : List Int} {L : List (List Int)} (h4 : D.length ≤ 4) (h : L.all (cutB D) = true) {c : List Int} (hc : IsCut D.length (pad D) c) : inE (setE L []) c = decide (c.take D.length ∈ L) := by
  rw [inE, lk_setE]
  have e : c ∈ L.map pad ↔ c.take D.length ∈ L := by
    simp only [List.mem_map]
    constructor
    · rintro ⟨r, hr, rfl⟩
      rw [pad_take (all_cutB h r hr).len]; exact hr
    · intro hr
      exact ⟨_, hr, take_pad rfl hc h4⟩
  by_cases q : c.take D.length ∈ L
  · rw [if_pos (e.2 q), decide_eq_true q]; rfl
  · rw [if_neg (fun x => q (e.1 x)), decide_eq_false q]; rfl

theorem possV_spec {v vL : AV} {D : List Int} {N : List Note} {cs : List AV} {L : List (List Int)} (hs : IsTale v D N) (hl : D.length < 100000) (hn : N.length < 100000) (hL : IsVec IsInts vL cs L) (hLl : L.length < 1000000) (hw : ∀ i, i < L.length → (gth L i).length < 1000000) :
    ∃ x e, PosRes D N L x e ∧ ∀ m, denC prog ann 38 [v, vL] m = some (.tup [x, .int .i64 e], m) := by
  obtain ⟨x, y, e, hr, er⟩ := setOf_spec hs hl hn hL hLl hw
  obtain ⟨vD, vN, rfl, h1, h2⟩ := hs.ex
  have hcl : closedL [.agg [vD, vN], vL] = true := by simp [h1.closed, h2.closed, hL.closed]
  cases hr with
  | bad h =>
    refine ⟨_, _, .bad h, fun m => ?_⟩
    rw [watch_Possibly.call_eq _ _ _ hcl]
    simp [h1.one, h2.one, h1.closed, h2.closed, hL.closed, er]
    done
  | long v h =>
    refine ⟨_, _, .long v h, fun m => ?_⟩
    rw [watch_Possibly.call_eq _ _ _ hcl]
    simp [h1.one, h2.one, h1.closed, h2.closed, hL.closed, er]
    done
  | form v h h' =>
    refine ⟨_, _, .form v h h', fun m => ?_⟩
    rw [watch_Possibly.call_eq _ _ _ hcl]
    simp [h1.one, h2.one, h1.closed, h2.closed, hL.closed, er]
    done
  | @ok sv K val h h' k s =>
    have hn4 := s.n4
    obtain ⟨av, ea, ia⟩ := allV s
    have hlen := allL_len s
    have hE : Keys4 (setE L []) := setE_keys (fun e he => by cases he) fun r hr => by rw [(all_cutB h' r hr).len]; exact hn4
    have hT : TrueE (setE L []) := setE_true (fun e he => by cases he)
    have ixf := fun m => ixf_spec ia (allL_four s) (by omega) hE hT m
    have hfm := find_map (f := fun c : List Int => c.take D.length) (p := inE (setE L [])) (q := fun c => decide (c ∈ L)) (A := allL (pad D) K D.length) fun c hc => inE_set hn4 h' (all_cut s c hc)
    rw [allL_eq k] at hfm
    obtain ⟨fi1, fi2⟩ := find_idx (p := inE (setE L [])) (A := allL (pad D) K D.length)
    have hpu : (ann 75).pure = false := by kernel_rfl
    have hmc : (mapV (setE L [])).closed = true := rfl
    have hmo : (mapV (setE L [])).one = true := rfl
    have hmce : (mapV (setE L [])).cells = [mapV (setE L [])] := rfl
    cases hq : (allL (pad D) K D.length).findIdx? (inE (setE L [])) with
    | none =>
      rw [fi2 hq] at hfm
      refine ⟨_, _, .none val h h' hfm, fun m => ?_⟩
      obtain ⟨m', ix⟩ := ixf ⟨upd Mem.empty.h 0 none, 1⟩
      rw [hq] at ix
      simp only at ix
      rw [watch_Possibly.call_eq _ _ _ hcl]
      simp [h1.one, h2.one, h1.closed, h2.closed, hL.closed, er, s.closed, hmc, hmo, hmce, ea, ia.closed, ix, hpu]
      done
    | some j =>
      obtain ⟨c, c1, c2⟩ := fi1 j hq
      rw [c2] at hfm
      obtain ⟨hj, hce⟩ := List.getElem?_eq_some_iff.1 c1
      have hc4 : c.length = 4 := allL_four s c (by rw [← hce]; exact List.getElem_mem hj)
      have hcj : cth (allL (pad D) K D.length) j = c := by simp [cth, List.getD, c1]
      have hidx := ia.idx (allL_four s).cells hj .i64
      have hld := load_cut (allL_four s) hj
      rw [hcj] at hld
      have hlist := list_fix s hc4
      refine ⟨_, _, .ok val h h' hfm (.inr ⟨false, rfl⟩), fun m => ?_⟩
      obtain ⟨m', ix⟩ := ixf ⟨upd Mem.empty.h 0 none, 1⟩
      rw [hq] at ix
      simp only at ix
      have htl : (c.take D.length).length = D.length := by simp [hc4]; omega
      rw [watch_Possibly.call_eq _ _ _ hcl, htl]
      simp [h1.one, h2.one, h1.closed, h2.closed, hL.closed, er, s.closed, hmc, hmo, hmce, ea, ia.closed, ix, hpu, hidx, hld, hlist, hc4]
      done
end Go.Proofs.Ytdkmepjedjclkaa
