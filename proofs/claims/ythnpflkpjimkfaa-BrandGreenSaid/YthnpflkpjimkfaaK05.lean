/-
  PLANS: numbers from which the laws make brands. Conditions: none.
-/
import Derived.Test.YthnpflkpjimkfaaK00
import Derived.Test.YthnpflkpjimkfaaK04
import Derived.Test.YthnpflkpjimkfaaK01
set_option linter.all false
namespace Go.Proofs.Ythnpflkpjimkfaa
open Go.AM
open Go.Proofs.Try (prog)
set_option linter.all false
set_option maxRecDepth 100000
set_option maxHeartbeats 8000000
theorem u5 : prog.underlying 5 = some (.int .u8) := by kernel_rfl
theorem u35 : prog.underlying 35 = some (.slice 5) := by kernel_rfl
theorem u37 : prog.underlying 37 = some (.struct #[⟨ "States", 5, 0, false, "", "", 0⟩, ⟨ "Signs", 5, 1, false, "", "", 1⟩, ⟨ "Next", 35, 2, false, "", "", 8⟩, ⟨ "Good", 5, 3, false, "", "", 32⟩]) := by kernel_rfl
def bytN (l : List Nat) : List AV := l.map fun x => .int .u8 (x : Nat)
def IsBy (v : AV) (l : List Nat) : Prop := (v = .nils ∧ l = []) ∨ ∃ ex, v = .fsl ex l.length (bytN l)
theorem dat5 {d : Nat} {cs : List AV} (h : Dat prog (d + 1) 5 cs) : ∃ n : Nat, cs = [.int .u8 (n : Nat)] ∧ n < 256 := by
  simp only [Dat, u5] at h
  obtain ⟨n, e, hw⟩ := h
  simp only [Lit.wf, Bool.and_eq_true, decide_eq_true_eq] at hw
  have e1 : IntKind.min .u8 = 0 := by decide
  have e2 : IntKind.max .u8 = 255 := by decide
  rw [e1, e2] at hw
  refine ⟨n.toNat, ?_, by omega⟩
  rw [e]
  have : ((n.toNat : Nat) : Int) = n := by omega
  rw [this]
theorem dat35 {d : Nat} {cs : List AV} (h : Dat prog (d + 2) 35 cs) : ∃ v l, cs = [v] ∧ IsBy v l ∧ (∀ x ∈ l, x < 256) ∧ (l.length : Int) ≤ 9223372036854775807 := by
  rw [Dat] at h
  simp only [u35] at h
  rcases h with rfl | ⟨parts, rfl, hl, hp⟩
  · exact ⟨.nils, [], rfl, .inl ⟨rfl, rfl⟩, by simp, by simp⟩
  · have key : ∀ (parts : List (List AV)), (∀ p ∈ parts, ∃ n : Nat, p = [.int .u8 (n : Nat)] ∧ n < 256) → ∃ l : List Nat, l.length = parts.length ∧ parts.flatten = bytN l ∧ ∀ x ∈ l, x < 256 := by
      intro parts
      induction parts with
      | nil => intro _; exact ⟨[], rfl, rfl, by simp⟩
      | cons p ps ih =>
        intro h
        obtain ⟨n, rfl, hn⟩ := h p (by simp)
        obtain ⟨l, h1, h2, h3⟩ := ih (fun q hq => h q (by simp [hq]))
        exact ⟨n :: l, by simp [h1], by simp [h2, bytN], by intro x hx; rcases List.mem_cons.1 hx with rfl | hx; exact hn; exact h3 x hx⟩
    obtain ⟨l, h1, h2, h3⟩ := key parts (fun p hq => dat5 (hp p hq).2)
    refine ⟨_, l, rfl, .inr ⟨false, by rw [h1, h2]⟩, h3, ?_⟩
    have := mlen
    omega
theorem datV37 {d : Nat} {a : AV} (h : DatV prog (d + 4) 37 a) : ∃ s g : Nat, ∃ q : Nat, ∃ nv l, a = .agg [.int .u8 (s : Nat), .int .u8 (g : Nat), nv, .int .u8 (q : Nat)] ∧ s < 256 ∧ g < 256 ∧ q < 256 ∧ IsBy nv l ∧ (∀ x ∈ l, x < 256) ∧ (l.length : Int) ≤ 9223372036854775807 := by
  simp only [DatV, u37] at h
  obtain ⟨cs, rfl, h⟩ := h
  rw [Dat] at h
  simp only [u37] at h
  obtain ⟨parts, rfl, hl, hp⟩ := h
  match parts, hl with
  | [a, b, c, e], _ =>
    obtain ⟨n0, rfl, h0⟩ := dat5 (hp 0 _ _ rfl rfl).2
    obtain ⟨n1, rfl, h1⟩ := dat5 (hp 1 _ _ rfl rfl).2
    obtain ⟨v, l, rfl, h2, h3, h4⟩ := dat35 (d := d + 1) (hp 2 _ _ rfl rfl).2
    obtain ⟨n3, rfl, h5⟩ := dat5 (hp 3 _ _ rfl rfl).2
    exact ⟨n0, n1, n3, v, l, rfl, h0, h1, h5, h2, h3, h4⟩
end Go.Proofs.Ythnpflkpjimkfaa

/-
  PLANS: the brand that is made. Conditions: none.
-/
namespace Go.Proofs.Ythnpflkpjimkfaa
open Go.AM
open Go.Proofs.Try (prog)
set_option linter.all false
set_option maxRecDepth 100000
set_option maxHeartbeats 8000000
theorem IsBy.closed {v : AV} {l : List Nat} (h : IsBy v l) : v.closed = true := by rcases h with ⟨rfl, _⟩ | ⟨_, rfl⟩ <;> rfl
theorem IsBy.one {v : AV} {l : List Nat} (h : IsBy v l) : v.one = true := by rcases h with ⟨rfl, _⟩ | ⟨_, rfl⟩ <;> rfl
theorem IsBy.len {v : AV} {l : List Nat} (h : IsBy v l) : lenSl v = some (.int .i64 l.length) := by rcases h with ⟨rfl, rfl⟩ | ⟨_, rfl⟩ <;> rfl
theorem IsBy.idx {v : AV} {l : List Nat} (h : IsBy v l) {i : Nat} (hi : i < l.length) (k : IntKind) : idxSl 1 v (.int k (i : Int)) = some (.fptr ((bytN l).drop i)) := by
  rcases h with ⟨rfl, rfl⟩ | ⟨_, rfl⟩
  · simp at hi
  · simp [hi]
theorem byt_head {l : List Nat} {i : Nat} (h : i < l.length) : ((bytN l).drop i).head? = some (.int .u8 (l.getD i 0 : Nat)) := by
  rw [List.head?_drop]
  simp [bytN, h, List.getD_eq_getElem?_getD]
def entP (l : List Nat) (n k q s a : Nat) : Nat := let w := if s * k + a < l.length then l.getD (s * k + a) 0 % n else 0; if 128 ≤ q then max w s else w
theorem entP_lt {l : List Nat} {n k q s a : Nat} (hs : s < n) : entP l n k q s a < n := by
  unfold entP
  have h1 : (if s * k + a < l.length then l.getD (s * k + a) 0 % n else 0) < n := by
    split
    · exact Nat.mod_lt _ (by omega)
    · omega
  simp only []
  split
  · omega
  · exact h1
def rowP (l : List Nat) (n k q s c : Nat) : List Int := (List.range c).map fun a => ((entP l n k q s a : Nat) : Int)
def rowsP (l : List Nat) (n k q c : Nat) : List (List Int) := (List.range c).map fun s => rowP l n k q s k
def goodP (q c : Nat) : List Bool := (List.range c).map fun s => q.testBit s
noncomputable def KP0 : List Item := [.code l07_Plan_made.r18, .code .ret]
noncomputable def KP2 : List Item := .code l07_Plan_made.r17 :: .inBlock 1 :: .code l07_Plan_made.r5 :: .inLoop l07_Plan_made.l0 :: .inBlock 0 :: KP0
theorem pl_in {a0 a1 : Nat} {nv : AV} {l : List Nat} (hb : IsBy nv l) (hlb : ∀ x ∈ l, x < 256) {q n k s : Nat} (hq : q < 256) (hs : s < n) (n6 : n ≤ 6) (k3 : k ≤ 3) {x2 x5 : AV} {R : Nat} {r : Option Res} :
    ∀ (c a : Nat) (h : Nat → Option AObj) (nx0 : Nat), a + c = k → h R = some (.cells (ints (rowP l n k q s a))) → R < nx0 →
    (∀ h' nx', h' R = some (.cells (ints (rowP l n k q s k))) → nx0 ≤ nx' → (∀ y, y ≠ R → h' y = h y) →
      l07_Plan_made.L2 (.fptr [.int .u8 (a0 : Nat), .int .u8 (a1 : Nat), nv, .int .u8 (q : Nat)]) x2 (.int .i64 n) (.int .i64 k) x5 (.int .i64 s) (.sl R 1 0 k k) (.int .i64 k) ⟨h', nx'⟩ KP2 = r) →
    l07_Plan_made.L2 (.fptr [.int .u8 (a0 : Nat), .int .u8 (a1 : Nat), nv, .int .u8 (q : Nat)]) x2 (.int .i64 n) (.int .i64 k) x5 (.int .i64 s) (.sl R 1 0 a a) (.int .i64 a) ⟨h, nx0⟩ KP2 = r := by
  intro c
  induction c with
  | zero =>
    intro a h nx0 h1 h0 hR hk
    have e : a = k := by omega
    subst e
    exact hk h nx0 h0 (Nat.le_refl _) (fun _ _ => rfl)
  | succ c ih =>
    intro a h nx0 h1 h0 hR hk
    have ha : a < k := by omega
    have hwa : IntKind.wrap .i64 ((a : Int) + 1) = (a : Int) + 1 := wrap_id (by omega) (by omega)
    have hsk : s * k ≤ 18 := by
      have := Nat.mul_le_mul (show s ≤ 6 by omega) k3
      omega
    have hw1 : IntKind.wrap .i64 ((s : Int) * k) = ((s * k : Nat) : Int) := by rw [← Int.natCast_mul]; exact wrap_id (by omega) (by omega)
    have hw2 : IntKind.wrap .i64 (((s * k : Nat) : Int) + a) = ((s * k + a : Nat) : Int) := by rw [← Int.natCast_add]; exact wrap_id (by omega) (by omega)
    have hrl : (rowP l n k q s a).length = a := by simp [rowP]
    have hrl1 : (rowP l n k q s (a + 1)).length = a + 1 := by simp [rowP]
    have hrow : ints (rowP l n k q s a) ++ [.int .i64 ((entP l n k q s a : Nat) : Int)] = ints (rowP l n k q s (a + 1)) := by simp [rowP, List.range_succ, ints]
    have hent := entP_lt (l := l) (k := k) (q := q) (a := a) hs
    have st := ih (a + 1) (upd h R (some (.cells (ints (rowP l n k q s (a + 1)))))) nx0 (by omega) (by simp) hR (fun h' nx' f1 f2 f3 => hk h' nx' f1 f2 (fun y hy => by rw [f3 y hy, updNe hy]))
    simp only [Int.natCast_add, Int.cast_ofNat_Int] at st
    have hemax : ∀ w : Nat, max (w : Int) (s : Int) = ((max w s : Nat) : Int) := fun w => by omega
    have hn0 : ¬ n = 0 := by omega
    by_cases c1 : s * k + a < l.length
    · have hb256 : l.getD (s * k + a) 0 < 256 := by
        have : l.getD (s * k + a) 0 ∈ l := by rw [List.getD_eq_getElem?_getD, List.getElem?_eq_getElem c1]; exact List.getElem_mem c1
        exact hlb _ this
      have hcv := wrapN (x := l.getD (s * k + a) 0) (by omega)
      have hmod : ((l.getD (s * k + a) 0 : Nat) : Int).tmod (n : Int) = ((l.getD (s * k + a) 0 % n : Nat) : Int) := by
        rw [Int.tmod_eq_emod_of_nonneg (by omega)]; simp
      have hhd := byt_head c1
      have hix := hb.idx c1 .i64
      have hlt : ((s * k + a : Nat) : Int) < (l.length : Int) := by omega
      by_cases c2 : 128 ≤ q
      · have he : entP l n k q s a = max (l.getD (s * k + a) 0 % n) s := by simp only [entP, if_pos c1, if_pos c2]
        rw [he] at hrow
        have c2' : (128 : Int) ≤ (q : Int) := by omega
        generalize l.getD (s * k + a) 0 = z at *
        generalize s * k + a = at' at *
        generalize s * k = sk at *
        rw [l07_Plan_made.L2_eq]
        simp [ha, hw1, hw2, hb.len, c1, hix, hhd, hcv, hn0, hmod, c2', hemax, h0, hrl, hrow, hrl1, hwa, st, show a ≤ 4611686018427387903 by omega, show (a + 1) * 8 ≤ 70368744177664 by omega, -Int.natCast_add, -Int.natCast_mul, -Int.natCast_emod]
        done
      · have he : entP l n k q s a = l.getD (s * k + a) 0 % n := by simp only [entP, if_pos c1, if_neg c2]
        rw [he] at hrow
        have c2' : ¬ (128 : Int) ≤ (q : Int) := by omega
        generalize l.getD (s * k + a) 0 = z at *
        generalize s * k + a = at' at *
        generalize s * k = sk at *
        rw [l07_Plan_made.L2_eq]
        simp [ha, hw1, hw2, hb.len, c1, hix, hhd, hcv, hn0, hmod, c2', h0, hrl, hrow, hrl1, hwa, st, show a ≤ 4611686018427387903 by omega, show (a + 1) * 8 ≤ 70368744177664 by omega, -Int.natCast_add, -Int.natCast_mul, -Int.natCast_emod]
        done
    · have hge : ¬ ((s * k + a : Nat) : Int) < (l.length : Int) := by omega
      by_cases c2 : 128 ≤ q
      · have he : entP l n k q s a = s := by simp only [entP, if_neg c1, if_pos c2]; omega
        rw [he] at hrow
        have c2' : (128 : Int) ≤ (q : Int) := by omega
        have hm0 : max (0 : Int) (s : Int) = (s : Int) := by omega
        generalize s * k + a = at' at *
        generalize s * k = sk at *
        rw [l07_Plan_made.L2_eq]
        simp [ha, hw1, hw2, hb.len, c1, c2', hm0, h0, hrl, hrow, hrl1, hwa, st, show a ≤ 4611686018427387903 by omega, show (a + 1) * 8 ≤ 70368744177664 by omega, -Int.natCast_add, -Int.natCast_mul]
        done
      · have he : entP l n k q s a = 0 := by simp only [entP, if_neg c1, if_neg c2]
        rw [he] at hrow
        have c2' : ¬ (128 : Int) ≤ (q : Int) := by omega
        simp only [Int.ofNat_zero, Int.cast_ofNat_Int] at hrow
        generalize s * k + a = at' at *
        generalize s * k = sk at *
        rw [l07_Plan_made.L2_eq]
        simp [ha, hw1, hw2, hb.len, c1, c2', h0, hrl, hrow, hrl1, hwa, st, show a ≤ 4611686018427387903 by omega, show (a + 1) * 8 ≤ 70368744177664 by omega, -Int.natCast_add, -Int.natCast_mul]
        done
theorem frz_62_66 (s : St) : frz1 s 3062066 = bif ap (objId (s.get 62)) (objId (s.get 66)) then some s else none := by rw [← ap_eq]; rfl
theorem frz_64 (s : St) : frz1 s 2000064 = bif nsl (s.get 64) then some s else none := rfl
theorem bit8 {q s : Nat} (hq : q < 256) (hs : s < 6) : binA prog .shr 5 (.int .u8 (q : Nat)) (.int .i64 (s : Nat)) = some (.int .u8 ((q / 2 ^ s : Nat) : Int)) := by
  have h0 : ¬ ((s : Int) < 0) := by omega
  have h1 : min (s : Int).toNat (IntKind.bits .u8) = s := by
    show min (s : Int).toNat 8 = s
    omega
  rw [binA_shr, h1]
  have e : (q : Int).fdiv (2 ^ s) = ((q / 2 ^ s : Nat) : Int) := by
    rw [Int.fdiv_eq_ediv_of_nonneg _ (Int.pow_nonneg (by omega))]
    simp
  simp [h0, e]
theorem and8 {x : Nat} (hx : x < 256) : binA prog .and 5 (.int .u8 (x : Nat)) (.int .u8 1) = some (.int .u8 (if x % 2 = 1 then 1 else 0)) := by
  have key : ∀ x : Fin 256, IntKind.wrap .u8 ((BitVec.ofInt (IntKind.bits .u8) ((x.val : Nat) : Int) &&& BitVec.ofInt (IntKind.bits .u8) 1).toNat : Int) = if x.val % 2 = 1 then 1 else 0 := by decide
  rw [binA_and]
  have := key ⟨x, hx⟩
  simp only [] at this
  rw [this]
def pslP (l : List Nat) (n k q c : Nat) : List AV := (List.range c).map fun s => .fsl false k (ints (rowP l n k q s k))
structure Ol (h : Nat → Option AObj) (o z0 : Nat) (a g : AV) (A G : List AV) (lo hi : Nat) : Prop where
  o : h o = some (.cells [a, g])
  z : h z0 = some (.cells [.nils, .nils])
  na : Nl h a A lo hi
  ng : Nl h g G lo hi
  dj : ∀ y, objId a = some y → objId g ≠ some y
theorem pl_out {a0 a1 : Nat} {nv : AV} {l : List Nat} (hb : IsBy nv l) (hlb : ∀ x ∈ l, x < 256) {q n k : Nat} (hq : q < 256) (n1 : 1 ≤ n) (n6 : n ≤ 6) (k1 : 1 ≤ k) (k3 : k ≤ 3) {o lo : Nat} (ho : o < lo) (ho0 : 0 < o) :
    ∀ (c s : Nat) (h : Nat → Option AObj) (nx0 : Nat) (a g : AV), s + c = n → lo ≤ nx0 → Ol h o 0 a g (pslP l n k q s) (bls (goodP q s)) lo nx0 →
    l07_Plan_made.L0 (.fptr [.int .u8 (a0 : Nat), .int .u8 (a1 : Nat), nv, .int .u8 (q : Nat)]) (.ptr 0 0 2) (.int .i64 n) (.int .i64 k) (.ptr o 0 2) (.int .i64 s) ⟨h, nx0⟩ KP0 = some (.agg [.fsl false n (pslP l n k q n), .fsl false n (bls (goodP q n))], Mem.empty) := by
  intro c
  induction c with
  | zero =>
    intro s h nx0 a g h1 hlo O
    have e : s = n := by omega
    subst e
    have na : Nl (upd h 0 (some (AObj.cells [a, g]))) a (pslP l s k q s) lo nx0 := O.na.fr (fun y y1 _ _ => updNe (by omega)) (Nat.le_refl _)
    have ng : Nl (upd h 0 (some (AObj.cells [a, g]))) g (bls (goodP q s)) lo nx0 := O.ng.fr (fun y y1 _ _ => updNe (by omega)) (Nat.le_refl _)
    have hne1 : pslP l s k q s ≠ [] := by intro e; have := congrArg List.length e; simp [pslP] at this; omega
    have hne2 : bls (goodP q s) ≠ [] := by intro e; have := congrArg List.length e; simp [goodP] at this; omega
    have da := na.deep 4 (fun x hx => by
      simp only [pslP, List.mem_map] at hx
      obtain ⟨q, _, rfl⟩ := hx
      rfl) (na.nn hne1)
    have dg := ng.deep 4 (fun x hx => by
      simp only [bls, List.mem_map] at hx
      obtain ⟨q, _, rfl⟩ := hx
      rfl) (ng.nn hne2)
    have l1 : (pslP l s k q s).length = s := by simp [pslP]
    have l2 : (bls (goodP q s)).length = s := by simp [goodP]
    rw [l1] at da
    rw [l2] at dg
    rw [l07_Plan_made.L0_eq]
    simp [O.o, O.z, O.na.one, O.ng.one, KP0]
    simp [da, dg]
    done
  | succ c ih =>
    intro s h nx0 a g h1 hlo O
    have hs : s < n := by omega
    have eR : pslP l n k q s ++ [.fsl false k (ints (rowP l n k q s k))] = pslP l n k q (s + 1) := by simp [pslP, List.range_succ]
    have eG : bls (goodP q s) ++ [.bool (q.testBit s)] = bls (goodP q (s + 1)) := by simp [bls, goodP, List.range_succ]
    have oa := fun y e => (O.na.oid (y := y) e)
    have og := fun y e => (O.ng.oid (y := y) e)
    have st := pl_in (a0 := a0) (a1 := a1) hb hlb (q := q) (n := n) (k := k) (s := s) hq hs n6 k3 (x2 := .ptr 0 0 2) (x5 := .ptr o 0 2) (R := nx0) (r := some (.agg [.fsl false n (pslP l n k q n), .fsl false n (bls (goodP q n))], Mem.empty)) k 0 (upd h nx0 (some (.cells []))) (nx0 + 1) (by omega) (by simp [rowP]) (by omega) (fun h' nx' w1 hnx' hfr0 => by
      have hfr : ∀ y, y ≠ nx0 → h' y = h y := fun y hy => by rw [hfr0 y hy, updNe hy]
      have rl : (rowP l n k q s k).length = k := by simp [rowP]
      have na1 : Nl (upd h' nx0 none) a (pslP l n k q s) lo nx0 := O.na.fr (fun y y1 y2 _ => by rw [updNe (by omega), hfr y (by omega)]) (Nat.le_refl _)
      have lR : (pslP l n k q s).length ≤ 6 := by simp [pslP]; omega
      have lG : (bls (goodP q s)).length ≤ 6 := by simp [goodP]; omega
      obtain ⟨v1, h2, n2, g1, g2, g3, g4, g5, g6, g7⟩ := na1.app (nx := nx' + 4) (by' := 24) (by omega) (by omega) (by simp; omega) (.fsl false k (ints (rowP l n k q s k)))
      have hv1 : ∀ y, objId v1 = some y → lo ≤ y ∧ (y < nx0 ∨ y = nx' + 4) := fun y e => by
        rcases g5 y e with q | q
        · have := oa y q; omega
        · omega
      have ng1 : Nl h2 g (bls (goodP q s)) lo nx0 := O.ng.fr (fun y y1 y2 ye => by
        rw [g6 y (fun e => by
          rcases g5 y e with q | q
          · exact O.dj y q ye
          · omega), updNe (by omega), hfr y (by omega)]) (Nat.le_refl _)
      obtain ⟨v2, h3, n3, u1, u2, u3, u4, u5, u6, u7⟩ := ng1.app (nx := nx' + 14) (by' := 1) (by omega) (by omega) (by simp only [room_dec, Bool.and_eq_true, decide_eq_true_eq]; omega) (.bool (q.testBit s))
      have hv2 : ∀ y, objId v2 = some y → lo ≤ y ∧ (objId g = some y ∨ y = nx' + 14) := fun y e => by
        rcases u5 y e with q | q
        · have := og y q; exact ⟨this.1, .inl q⟩
        · exact ⟨by omega, .inr q⟩
      have low : ∀ y, y < lo → h3 y = h y := fun y hy => by
        rw [u6 y (fun e => by have := hv2 y e; omega), g6 y (fun e => by have := hv1 y e; omega), updNe (by omega), hfr y (by omega)]
      have lo2 : ∀ y, y < lo → h2 y = h y := fun y hy => by
        rw [g6 y (fun e => by have := hv1 y e; omega), updNe (by omega), hfr y (by omega)]
      have ho' : h' o = some (.cells [a, g]) := by rw [hfr o (by omega)]; exact O.o
      have ho2 : h2 o = some (.cells [a, g]) := by rw [lo2 o ho]; exact O.o
      have ho3 : h3 o = some (.cells [a, g]) := by rw [low o ho]; exact O.o
      have a1' := ap_lt (z := o) (fun y e => (oa y e).1) ho
      have hwk : IntKind.wrap .i64 ((s : Int) + 1) = (s : Int) + 1 := wrap_id (by omega) (by omega)
      have fin4 : ∀ y, y < lo → y ≠ o → (upd h3 o (some (.cells [v1, v2]))) y = h y := fun y y1 y2 => by rw [updNe y2, low y y1]
      have st3 := ih (s + 1) (upd h3 o (some (.cells [v1, v2]))) (nx' + 19) v1 v2 (by omega) (by omega)
        ⟨by simp, by rw [fin4 0 (by omega) (by omega)]; exact O.z,
          by
            rw [← eR]
            exact g2.fr (fun y y1 y2 ye => by
              rw [updNe (by omega), u6 y (fun e => by
                rcases (hv2 y e).2 with q | q
                · rcases g5 y ye with w | w
                  · exact O.dj y w q
                  · have := og y q; omega
                · have := (hv1 y ye).2; omega)]) (by omega),
          by
            rw [← eG]
            exact u2.fr (fun y y1 y2 ye => by rw [updNe (by omega)]) (by omega),
          fun y e1 e2 => by
            rcases (hv2 y e2).2 with q | q
            · rcases g5 y e1 with w | w
              · exact O.dj y w q
              · have := og y q; omega
            · have := (hv1 y e1).2; omega⟩
      simp only [Int.natCast_add, Int.cast_ofNat_Int] at st3
      have hoR : (o == nx0) = false := beq_eq_false_iff_ne.2 (by omega)
      have rtk : (ints (rowP l n k q s k)).take k = ints (rowP l n k q s k) := List.take_of_length_le (by simp [rl])
      have b8 := bit8 (q := q) (s := s) hq (by omega)
      have hq2 : q / 2 ^ s < 256 := Nat.lt_of_le_of_lt (Nat.div_le_self _ _) hq
      have n8 := and8 hq2
      have htb : q.testBit s = decide (q / 2 ^ s % 2 = 1) := by rw [Nat.testBit_eq_decide_div_mod_eq]
      generalize q / 2 ^ s = qs at *
      have he8 : binA prog .eql 5 (.int .u8 (if qs % 2 = 1 then 1 else 0)) (.int .u8 1) = some (.bool (q.testBit s)) := by
        rw [htb]
        by_cases w : qs % 2 = 1 <;> simp [w]
      rw [l07_Plan_made.L2_eq]
      simp [KP2, w1, rl, rtk, hoR, ho', ho2, ho3, g1, O.na.one, O.ng.one, b8, n8, he8, u1, (show v1.one = true from g2.one), (show v2.one = true from u2.one), frz_62_66, frz_64, nsl, a1', hwk, st3, frzL, -binA_shr, -binA_and]
      done)
    simp only [Int.ofNat_zero, Int.cast_ofNat_Int, KP2] at st
    rw [l07_Plan_made.L0_eq]
    simp [hs]
    exact st
end Go.Proofs.Ythnpflkpjimkfaa

/-
  PLANS: the brand is valid. Conditions: none.
-/
namespace Go.Proofs.Ythnpflkpjimkfaa
open Go.AM
open Go.Proofs.Try (prog)
set_option linter.all false
set_option maxRecDepth 100000
set_option maxHeartbeats 8000000
theorem VB.to {rows : List (List Int)} {good : List Bool} {k : Nat} (v : VB rows good k) : validB rows good = true := by
  have h0 := v.rl 0 v.n1
  unfold validB
  simp only [Bool.and_eq_true, decide_eq_true_eq, List.all_eq_true]
  refine ⟨⟨v.n1, v.n6⟩, v.gl, ⟨by rw [h0]; exact v.k1, by rw [h0]; exact v.k3⟩, fun r hr => ?_⟩
  obtain ⟨i, hi, rfl⟩ := List.getElem_of_mem hr
  have e : cth rows i = rows[i] := by simp [cth, hi, List.getD_eq_getElem?_getD]
  have hl := v.rl i hi
  rw [e] at hl
  unfold rowOk
  simp only [Bool.and_eq_true, decide_eq_true_eq, List.all_eq_true]
  refine ⟨by rw [hl, h0], fun x hx => ?_⟩
  obtain ⟨j, hj, rfl⟩ := List.getElem_of_mem hx
  have := v.rg i j hi (by omega)
  rw [e] at this
  rw [nth_get hj]
  exact this
theorem VB.k0 {rows : List (List Int)} {good : List Bool} {k : Nat} (v : VB rows good k) : (cth rows 0).length = k := v.rl 0 v.n1
theorem planVB {l : List Nat} {n k q : Nat} (n1 : 1 ≤ n) (n6 : n ≤ 6) (k1 : 1 ≤ k) (k3 : k ≤ 3) : VB (rowsP l n k q n) (goodP q n) k := by
  have row : ∀ i, i < n → cth (rowsP l n k q n) i = rowP l n k q i k := fun i hi => by simp [cth, rowsP, hi, List.getD_eq_getElem?_getD]
  refine ⟨by simp [rowsP]; omega, by simp [rowsP]; omega, by simp [rowsP, goodP], k1, k3, fun i hi => ?_, fun i j hi hj => ?_⟩
  · rw [row i (by simpa [rowsP] using hi)]; simp [rowP]
  · have hi' : i < n := by simpa [rowsP] using hi
    rw [row i hi']
    have e : nth (rowP l n k q i k) j = ((entP l n k q i j : Nat) : Int) := by simp [nth, rowP, hj, List.getD_eq_getElem?_getD]
    have := entP_lt (l := l) (k := k) (q := q) (a := j) hi'
    rw [e]
    simp only [rowsP, List.length_map, List.length_range]
    omega
theorem planR {l : List Nat} {n k q : Nat} : IsRows (.fsl false n (pslP l n k q n)) (pslP l n k q n) (rowsP l n k q n) := by
  refine ⟨by simp [pslP, rowsP], fun i hi => ?_, .inr ⟨false, by simp [rowsP]⟩⟩
  have hi' : i < n := by simpa [rowsP] using hi
  have e1 : pth (pslP l n k q n) i = .fsl false k (ints (rowP l n k q i k)) := by simp [pth, pslP, hi', List.getD_eq_getElem?_getD]
  have e2 : cth (rowsP l n k q n) i = rowP l n k q i k := by simp [cth, rowsP, hi', List.getD_eq_getElem?_getD]
  rw [e1, e2]
  exact .inr ⟨false, by simp [rowP]⟩
theorem planG {q n : Nat} : IsB (.fsl false n (bls (goodP q n))) (goodP q n) := .inr ⟨false, by simp [goodP]⟩
theorem plan_spec {a0 a1 q : Nat} {nv : AV} {l : List Nat} (h0 : a0 < 256) (h1 : a1 < 256) (hq : q < 256) (hb : IsBy nv l) (hlb : ∀ x ∈ l, x < 256) :
    ∃ rows good k nv' gv ps, IsRows nv' ps rows ∧ IsB gv good ∧ VB rows good k ∧ ∀ m, denC prog ann 22 [.agg [.int .u8 (a0 : Nat), .int .u8 (a1 : Nat), nv, .int .u8 (q : Nat)]] m = some (.agg [nv', gv], m) := by
  have hn : 1 ≤ a0 % 6 + 1 ∧ a0 % 6 + 1 ≤ 6 := by omega
  have hk : 1 ≤ a1 % 3 + 1 ∧ a1 % 3 + 1 ≤ 3 := by omega
  refine ⟨rowsP l (a0 % 6 + 1) (a1 % 3 + 1) q (a0 % 6 + 1), goodP q (a0 % 6 + 1), a1 % 3 + 1, _, _, pslP l (a0 % 6 + 1) (a1 % 3 + 1) q (a0 % 6 + 1), planR, planG, planVB hn.1 hn.2 hk.1 hk.2, fun m => ?_⟩
  have c0 := wrapN (x := a0) (by omega)
  have c1 := wrapN (x := a1) (by omega)
  have m0 : ((a0 : Nat) : Int).tmod 6 = ((a0 % 6 : Nat) : Int) := by rw [Int.tmod_eq_emod_of_nonneg (by omega)]; simp
  have m1 : ((a1 : Nat) : Int).tmod 3 = ((a1 % 3 : Nat) : Int) := by rw [Int.tmod_eq_emod_of_nonneg (by omega)]; simp
  have w0 : IntKind.wrap .i64 (((a0 % 6 : Nat) : Int) + 1) = ((a0 % 6 + 1 : Nat) : Int) := by
    rw [wrap_id (by omega) (by omega)]; omega
  have w1 : IntKind.wrap .i64 (((a1 % 3 : Nat) : Int) + 1) = ((a1 % 3 + 1 : Nat) : Int) := by
    rw [wrap_id (by omega) (by omega)]; omega
  generalize a0 % 6 = n0 at *
  generalize a1 % 3 = k0 at *
  have lp := pl_out (a0 := a0) (a1 := a1) hb hlb (q := q) (n := n0 + 1) (k := k0 + 1) hq hn.1 hn.2 hk.1 hk.2 (o := 13) (lo := 14) (by omega) (by omega) (n0 + 1) 0 (upd (upd Mem.empty.h 0 (some (.cells [.nils, .nils]))) 13 (some (.cells [.nils, .nils]))) 14 .nils .nils (by omega) (by omega) ⟨by simp, by simp, .nil, .nil, by simp [objId]⟩
  simp only [Int.ofNat_zero, Int.cast_ofNat_Int, KP0] at lp
  rw [l07_Plan_made.call_eq _ _ (by simp [hb.closed])]
  simp [hb.one, hb.closed, c0, c1, m0, m1, w0, w1, -Int.natCast_add, -Int.natCast_emod]
  rw [lp]
  rfl
end Go.Proofs.Ythnpflkpjimkfaa

/-
  BrandAccepts: the law answers true. Conditions: none.
-/
namespace Go.Proofs.Ythnpflkpjimkfaa
open Go.AM
open Go.Proofs.Try (prog)
set_option linter.all false
set_option maxRecDepth 100000
set_option maxHeartbeats 8000000
theorem IsRows.cells {v : AV} {ps : List AV} {rows : List (List Int)} (h : IsRows v ps rows) : v.cells = [v] := by rcases h.val with ⟨rfl, _⟩ | ⟨_, rfl⟩ <;> rfl
end Go.Proofs.Ythnpflkpjimkfaa

/-
  BrandGreen: the law answers true. Conditions: none.
-/
namespace Go.Proofs.Ythnpflkpjimkfaa
open Go.AM
open Go.Proofs.Try (prog)
set_option linter.all false
set_option maxRecDepth 100000
set_option maxHeartbeats 8000000
theorem fl86 : flatT prog 86 = some [3, 3] := by kernel_rfl
abbrev MfP (h : Nat → Option AObj) (id : Nat) (f : PN → Option Nat) := Mf encP (fun _ => True) natV h id f
abbrev MfN (h : Nat → Option AObj) (id : Nat) (f : Nat → Option Nat) := Mf encS (fun _ => True) natV h id f
structure Gs (cl cr cj : Nat → Nat) (h : Nat → Option AObj) (A B C D : Nat) (j : Nat) : Prop where
  ma : ∃ f, MfP h A f ∧ ∀ a b, (f (a, b)).getD 0 = (List.range j).countP fun z => decide (cl z = a ∧ cr z = b)
  mb : ∃ f, MfP h B f ∧ (0 < j → ∃ c, f c ≠ none)
  mc : ∃ f, MfN h C f ∧ (∀ z, z < j → f (cl z) = some (cj z)) ∧ ∀ x d, f x = some d → ∃ z, z < j ∧ cl z = x ∧ cj z = d
  md : ∃ f, MfN h D f ∧ (∀ z, z < j → f (cr z) = some (cj z)) ∧ ∀ x d, f x = some d → ∃ z, z < j ∧ cr z = x ∧ cj z = d
noncomputable def KE0 : List Item := [.code l07_BrandGreen.r32, .code l07_BrandGreen.r33, .code l07_BrandGreen.k2, .code l07_BrandGreen.r46, .code .ret]
noncomputable def KE2 : List Item := [.code l07_BrandGreen.r46, .code .ret]
noncomputable def KE4 : List Item := .inBlock 3 :: .code l07_BrandGreen.r35 :: .inLoop l07_BrandGreen.l2 :: .inBlock 2 :: KE2
def spV (p : List (List UInt8) × List Nat) : AV := .fmap (p.1.map .str) (p.2.map natV)
theorem gn_a {S : SM} (hl : S.2.length ≤ 400) {cl cr cj : Nat → Nat} (hll : ∀ z, z < S.2.length → cl z ≤ 1000 ∧ cr z ≤ 1000 ∧ cj z ≤ 1000) (hwd : ∀ z, z < S.2.length → S.2[z]? = some (wrd S z))
    (h1 : ∀ z w, z < S.2.length → w < S.2.length → cl z = cl w → cj z = cj w) (h2 : ∀ z w, z < S.2.length → w < S.2.length → cr z = cr w → cj z = cj w)
    {p12 p13 p14 : List (List UInt8) × List Nat} (q12 : p12.1.length = p12.2.length) (q13 : p13.1.length = p13.2.length) (q14 : p14.1.length = p14.2.length)
    (v12 : ∀ z, z < S.2.length → lkP p12.1 p12.2 (wrd S z) = some (cl z)) (v13 : ∀ z, z < S.2.length → lkP p13.1 p13.2 (wrd S z) = some (cr z)) (v14 : ∀ z, z < S.2.length → lkP p14.1 p14.2 (wrd S z) = some (cj z))
    {A B C D : Nat} (hAB : A ≠ B) (hAC : A ≠ C) (hAD : A ≠ D) (hBC : B ≠ C) (hBD : B ≠ D) (hCD : C ≠ D) {x6 x8 x10 : AV} {r : Option Res}
    {lo : Nat} (hk : ∀ h' nx', lo ≤ nx' → Gs cl cr cj h' A B C D S.2.length → l07_BrandGreen.L0 (wdsV S) x6 x8 x10 (spV p12) (spV p13) (spV p14) (.map A) (.map B) (.map C) (.map D) (.int .i64 S.2.length) ⟨h', nx'⟩ KE0 = r) :
    ∀ (c j : Nat) (h : Nat → Option AObj) (nx0 : Nat), j + c = S.2.length → lo ≤ nx0 → Gs cl cr cj h A B C D j →
    l07_BrandGreen.L0 (wdsV S) x6 x8 x10 (spV p12) (spV p13) (spV p14) (.map A) (.map B) (.map C) (.map D) (.int .i64 j) ⟨h, nx0⟩ KE0 = r := by
  intro c
  induction c with
  | zero =>
    intro j h nx0 e1 hlo G
    have e : j = S.2.length := by omega
    subst e
    exact hk h nx0 hlo G
  | succ c ih =>
    intro j h nx0 e1 hlo G
    have hj : j < S.2.length := by omega
    have hwj : IntKind.wrap .i64 ((j : Int) + 1) = (j : Int) + 1 := wrap_id (by omega) (by omega)
    obtain ⟨fa, Ma, Ga⟩ := G.ma
    obtain ⟨fb, Mb, Gb⟩ := G.mb
    obtain ⟨fc, Mc, Gc1, Gc2⟩ := G.mc
    obtain ⟨fd, Md', Gd1, Gd2⟩ := G.md
    have hd : ((S.2.map AV.str).drop j).head? = some (.str (wrd S j)) := by rw [List.head?_drop, List.getElem?_map, hwd j hj]; rfl
    have k12 := fun m => look_f (ev := natV) (keysW (fun _ => True)) (ks := p12.1) (vs := p12.2) (fun _ _ => trivial) q12 (c := wrd S j) trivial (.int .i64 0) true m
    have k13 := fun m => look_f (ev := natV) (keysW (fun _ => True)) (ks := p13.1) (vs := p13.2) (fun _ _ => trivial) q13 (c := wrd S j) trivial (.int .i64 0) true m
    have k14 := fun m => look_f (ev := natV) (keysW (fun _ => True)) (ks := p14.1) (vs := p14.2) (fun _ _ => trivial) q14 (c := wrd S j) trivial (.int .i64 0) true m
    rw [v12 j hj] at k12
    rw [v13 j hj] at k13
    rw [v14 j hj] at k14
    simp only [lkZ, cond_true] at k12 k13 k14
    have la := fun nx => Ma.look (keysP fl86 _) (c := (cl j, cr j)) trivial (natV 0) false nx
    have laz : lkZ natV (natV 0) false (fa (cl j, cr j)) = natV ((fa (cl j, cr j)).getD 0) := by cases fa (cl j, cr j) <;> rfl
    rw [laz, Ga] at la
    have hcn : (List.range j).countP (fun z => decide (cl z = cl j ∧ cr z = cr j)) ≤ j := by have := List.countP_le_length (p := fun z => decide (cl z = cl j ∧ cr z = cr j)) (l := List.range j); simpa using this
    generalize hcnt : (List.range j).countP (fun z => decide (cl z = cl j ∧ cr z = cr j)) = cn at *
    have hwc : IntKind.wrap .i64 ((cn : Int) + 1) = ((cn + 1 : Nat) : Int) := by rw [wrap_id (by omega) (by omega)]; omega
    obtain ⟨o1, st, ov, a1, a2⟩ := Ma.inc (keysP fl86 _) (c := (cl j, cr j)) trivial 0
    obtain ⟨o2, a3, a4⟩ := a2 (cn + 1)
    have a3' := fun nx => a3 (upd h A o1) nx (by simp [upd])
    have Mb1 : MfP (upd h A o2) B fb := Mb.fr (by rw [updNe (Ne.symm hAB)])
    obtain ⟨o3, b1, b2⟩ := Mb1.put (keysP fl86 _) (c := (cl j, cr j)) trivial (cj j)
    have Mc1 : MfN (upd (upd h A o2) B o3) C fc := Mc.fr (by rw [updNe (Ne.symm hBC), updNe (Ne.symm hAC)])
    have Md1 : MfN (upd (upd h A o2) B o3) D fd := Md'.fr (by rw [updNe (Ne.symm hBD), updNe (Ne.symm hAD)])
    have lc := fun nx => Mc1.look (keysS _) (c := cl j) trivial (natV 0) true nx
    have ld := fun nx => Md1.look (keysS _) (c := cr j) trivial (natV 0) true nx
    obtain ⟨o4, c1, c2⟩ := Mc1.put (keysS _) (c := cl j) trivial (cj j)
    have Md2 : MfN (upd (upd (upd h A o2) B o3) C o4) D fd := Md1.fr (by rw [updNe (Ne.symm hCD)])
    obtain ⟨o5, d1, d2⟩ := Md2.put (keysS _) (c := cr j) trivial (cj j)
    have G' : Gs cl cr cj (upd (upd (upd (upd h A o2) B o3) C o4) D o5) A B C D (j + 1) := by
      refine ⟨⟨putF fa (cl j, cr j) (cn + 1), a4 _ (by rw [updNe hAD, updNe hAC, updNe hAB]; simp [upd]), fun a b => ?_⟩, ⟨putF fb (cl j, cr j) (cj j), b2 _ (by rw [updNe hBD, updNe hBC]; simp [upd]), fun _ => ⟨(cl j, cr j), by simp [putF]⟩⟩, ⟨putF fc (cl j) (cj j), c2 _ (by rw [updNe hCD]; simp [upd]), fun z hz => ?_, fun x d hx => ?_⟩, ⟨putF fd (cr j) (cj j), d2 _ (by simp [upd]), fun z hz => ?_, fun x d hx => ?_⟩⟩
      · rw [List.range_succ, List.countP_append]
        simp only [putF]
        by_cases q : (a, b) = (cl j, cr j)
        · rw [if_pos q]
          have e1 : a = cl j := congrArg Prod.fst q
          have e2 : b = cr j := congrArg Prod.snd q
          subst e1 e2
          rw [hcnt]; simp
        · rw [if_neg q, Ga]
          have : ¬ (cl j = a ∧ cr j = b) := fun ⟨e1, e2⟩ => q (by rw [← e1, ← e2])
          simp [this]
      · simp only [putF]
        by_cases q : cl z = cl j
        · rw [if_pos q]
          rw [h1 z j (by omega) hj q]
        · rw [if_neg q]
          refine Gc1 z ?_
          by_cases e : z = j
          · subst e; exact absurd rfl q
          · omega
      · simp only [putF] at hx
        by_cases q : x = cl j
        · rw [if_pos q] at hx
          exact ⟨j, by omega, q.symm, Option.some.inj hx⟩
        · rw [if_neg q] at hx
          obtain ⟨z, z1, z2⟩ := Gc2 x d hx
          exact ⟨z, by omega, z2⟩
      · simp only [putF]
        by_cases q : cr z = cr j
        · rw [if_pos q]
          rw [h2 z j (by omega) hj q]
        · rw [if_neg q]
          refine Gd1 z ?_
          by_cases e : z = j
          · subst e; exact absurd rfl q
          · omega
      · simp only [putF] at hx
        by_cases q : x = cr j
        · rw [if_pos q] at hx
          exact ⟨j, by omega, q.symm, Option.some.inj hx⟩
        · rw [if_neg q] at hx
          obtain ⟨z, z1, z2⟩ := Gd2 x d hx
          exact ⟨z, by omega, z2⟩
    have kc : fc (cl j) = none ∨ fc (cl j) = some (cj j) := by
      cases e : fc (cl j) with
      | none => exact .inl rfl
      | some d =>
        obtain ⟨z, z1, z2, z3⟩ := Gc2 _ _ e
        right; rw [← z3, h1 z j (by omega) hj z2]
    have kd : fd (cr j) = none ∨ fd (cr j) = some (cj j) := by
      cases e : fd (cr j) with
      | none => exact .inl rfl
      | some d =>
        obtain ⟨z, z1, z2, z3⟩ := Gd2 _ _ e
        right; rw [← z3, h2 z j (by omega) hj z2]
    have st2 := ih (j + 1) _ (nx0 + 9) (by omega) (by omega) G'
    simp only [Int.natCast_add, Int.cast_ofNat_Int] at st2
    simp only [natV, encS, encP, cP] at la a1 a3' b1 lc ld c1 d1 k12 k13 k14
    rw [l07_BrandGreen.L0_eq]
    simp only [wdsV, spV] at st2 ⊢
    simp only [Int.natCast_add, Int.cast_ofNat_Int] at hwc a3'
    simp only [Int.ofNat_zero, Int.cast_ofNat_Int] at la a1 lc ld
    rcases kc with kc | kc <;> rcases kd with kd | kd <;> (
      rw [kc] at lc
      rw [kd] at ld
      simp only [lkZ, cond_true, natV] at lc ld
      simp [hj, hd, k12, k13, k14, la, hwc, a1, a3', b1, lc, ld, c1, d1, hwj, st2, plc, -List.head?_drop, -List.map_drop])
theorem natL_set (sz : List Nat) (i n : Nat) : (natL sz).set i (.int .i64 (n : Nat)) = natL (sz.set i n) := by simp [natL, natV, List.map_set]
def cntN (cl cr : Nat → Nat) (N i k : Nat) : Nat := (List.range N).countP fun z => decide (cl z = i ∧ cr z = k)
structure Gz (cl cr cj : Nat → Nat) (h : Nat → Option AObj) (A B C D Z N nc : Nat) (sz : List Nat) : Prop where
  g : Gs cl cr cj h A B C D N
  z : h Z = some (.cells (natL sz))
  l : sz.length = nc
  i : ∀ p q, p < N → q < N → cj p = cj q → sz.getD (cj p) 0 = 0 ∨ sz.getD (cj p) 0 = cntN cl cr N (cl p) (cr q)
theorem Gs.fr {cl cr cj : Nat → Nat} {h h' : Nat → Option AObj} {A B C D N : Nat} (G : Gs cl cr cj h A B C D N) (a : h' A = h A) (b : h' B = h B) (c : h' C = h C) (d : h' D = h D) : Gs cl cr cj h' A B C D N := by
  obtain ⟨fa, Ma, Ga⟩ := G.ma
  obtain ⟨fb, Mb, Gb⟩ := G.mb
  obtain ⟨fc, Mc, Gc⟩ := G.mc
  obtain ⟨fd, Md', Gd⟩ := G.md
  exact ⟨⟨fa, Ma.fr a, Ga⟩, ⟨fb, Mb.fr b, Gb⟩, ⟨fc, Mc.fr c, Gc⟩, ⟨fd, Md'.fr d, Gd⟩⟩
theorem gn_b {S : SM} {N nc : Nat} (hN : N ≤ 400) (hnc : nc ≤ 1000) {cl cr cj : Nat → Nat} {lL lR : List (List Nat)} (hlR : lR.length ≤ 1000)
    {p12 : List (List UInt8) × List Nat} (q12 : p12.1.length = p12.2.length) (v12 : ∀ z, z < N → lkP p12.1 p12.2 (wrd S z) = some (cl z))
    (cjl : ∀ z, z < N → cj z < nc) (Q1 : ∀ p q, p < N → q < N → cj p ≠ cj q → cntN cl cr N (cl p) (cr q) = 0) (Q2 : ∀ p q, p < N → q < N → cj p = cj q → 0 < cntN cl cr N (cl p) (cr q))
    (Q3 : ∀ p q p' q', p < N → q < N → p' < N → q' < N → cj p = cj q → cj p' = cj q' → cj p = cj p' → cntN cl cr N (cl p) (cr q) = cntN cl cr N (cl p') (cr q'))
    {i p : Nat} (hi : i < lL.length) (hp : p < N) (hl0 : 0 < lL[i].length) (hp0 : lL[i].getD 0 0 = p) (hpi : cl p = i) (hR : ∀ k (h : k < lR.length), 0 < lR[k].length ∧ ∃ q, q < N ∧ cr q = k)
    {A B C D Z : Nat} (hZA : Z ≠ A) (hZB : Z ≠ B) (hZC : Z ≠ C) (hZD : Z ≠ D) {r : Option Res} {nx0 : Nat}
    (hk : ∀ h' sz', Gz cl cr cj h' A B C D Z N nc sz' → l07_BrandGreen.L4 (clsV S lL) (clsV S lR) (spV p12) (.map A) (.map B) (.map C) (.map D) (.sl Z 1 0 nc nc) (.int .i64 i) (.int .i64 lR.length) ⟨h', nx0⟩ KE4 = r) :
    ∀ (c k : Nat) (h : Nat → Option AObj) (sz : List Nat), k + c = lR.length → Gz cl cr cj h A B C D Z N nc sz →
    l07_BrandGreen.L4 (clsV S lL) (clsV S lR) (spV p12) (.map A) (.map B) (.map C) (.map D) (.sl Z 1 0 nc nc) (.int .i64 i) (.int .i64 k) ⟨h, nx0⟩ KE4 = r := by
  intro c
  induction c with
  | zero =>
    intro k h sz e1 G
    have e : k = lR.length := by omega
    subst e
    exact hk h sz G
  | succ c ih =>
    intro k h sz e1 G
    have hkl : k < lR.length := by omega
    have hwk : IntKind.wrap .i64 ((k : Int) + 1) = (k : Int) + 1 := wrap_id (by omega) (by omega)
    obtain ⟨hr0, q, hq, hqk⟩ := hR k hkl
    obtain ⟨fa, Ma, Ga⟩ := G.g.ma
    obtain ⟨fc, Mc, Gc1, _⟩ := G.g.mc
    obtain ⟨fd, Md', Gd1, _⟩ := G.g.md
    have la := fun nx => Ma.look (keysP fl86 _) (c := (i, k)) trivial (natV 0) false nx
    have laz : lkZ natV (natV 0) false (fa (i, k)) = natV ((fa (i, k)).getD 0) := by cases fa (i, k) <;> rfl
    rw [laz, Ga] at la
    have hcn : cntN cl cr N i k ≤ N := by have := List.countP_le_length (p := fun z => decide (cl z = i ∧ cr z = k)) (l := List.range N); simpa [cntN] using this
    have lc := fun nx => Mc.look (keysS _) (c := i) trivial (natV 0) false nx
    have ld := fun nx => Md'.look (keysS _) (c := k) trivial (natV 0) false nx
    have gc := Gc1 p hp
    have gd := Gd1 q hq
    rw [hpi] at gc
    rw [hqk] at gd
    rw [gc] at lc
    rw [gd] at ld
    have k12 := fun m => look_f (ev := natV) (keysW (fun _ => True)) (ks := p12.1) (vs := p12.2) (fun _ _ => trivial) q12 (c := wrd S p) trivial (.int .i64 0) false m
    rw [v12 p hp, hpi] at k12
    simp only [lkZ, cond_false, natV] at k12 lc ld
    have t1 := clF_head (S := S) hi
    have t2 := clF_head (S := S) hkl
    have t3 := clV_head (S := S) (c := lL[i]) (i := 0) hl0
    rw [hp0, List.drop_zero] at t3
    have n1 := Q1 p q hp hq
    have n2 := Q2 p q hp hq
    have n3 := G.i p q hp hq
    have n4 := fun p' q' h1 h2 h3 h4 h5 => Q3 p q p' q' hp hq h1 h2 h3 h4 h5
    rw [hpi, hqk] at n1 n2 n3 n4
    have hz := G.z
    have hzl := G.l
    have hcp := cjl p hp
    have hzp : (natL sz)[cj p]? = some (.int .i64 (sz.getD (cj p) 0 : Nat)) := by
      have : cj p < sz.length := by omega
      simp [natL, natV, this, List.getD_eq_getElem?_getD]
    have hzq := (List.getElem?_eq_some_iff.1 hzp).2
    simp only [natV, encP, cP] at la
    simp only [encS] at lc ld
    have hcd : (List.range N).countP (fun z => decide (cl z = i ∧ cr z = k)) = cntN cl cr N i k := rfl
    rw [hcd] at la
    have i0 : ¬ lL[i].length = 0 := by omega
    have j0 : ¬ lR[k].length = 0 := by omega
    have i0' : ¬ (lL[i].length : Int) = 0 := by omega
    have j0' : ¬ (lR[k].length : Int) = 0 := by omega
    generalize lL[i] = Li at *
    generalize lR[k] = Rk at *
    simp only [Int.ofNat_zero, Int.cast_ofNat_Int] at la lc ld
    by_cases e : cj p = cj q
    · have hpos := n2 e
      have hcz : ¬ ((cntN cl cr N i k : Nat) : Int) = 0 := by omega
      have hcz' : ¬ cntN cl cr N i k = 0 := by omega
      have hst := natL_set sz (cj p) (cntN cl cr N i k)
      have G' : Gz cl cr cj (upd h Z (some (.cells (natL (sz.set (cj p) (cntN cl cr N i k)))))) A B C D Z N nc (sz.set (cj p) (cntN cl cr N i k)) := by
        refine ⟨G.g.fr (updNe (Ne.symm hZA)) (updNe (Ne.symm hZB)) (updNe (Ne.symm hZC)) (updNe (Ne.symm hZD)), by simp [upd], by simp [hzl], fun p' q' h1 h2 h3 => ?_⟩
        by_cases e2 : cj p = cj p'
        · right
          have : cj p < sz.length := by omega
          rw [← e2, ← n4 p' q' h1 h2 e h3 e2]
          simp [List.getD_eq_getElem?_getD, this]
        · have := G.i p' q' h1 h2 h3
          have e3 : (sz.set (cj p) (cntN cl cr N i k)).getD (cj p') 0 = sz.getD (cj p') 0 := by
            simp [List.getD_eq_getElem?_getD, List.getElem?_set, e2]
          rw [e3]; exact this
      have st2 := ih (k + 1) _ _ (by omega) G'
      simp only [Int.natCast_add, Int.cast_ofNat_Int] at st2
      have n5 := n3 e
      generalize cntN cl cr N i k = cn at *
      generalize sz.getD (cj p) 0 = s0 at *
      rw [l07_BrandGreen.L4_eq]
      simp only [clsV, spV] at st2 ⊢
      rw [← e] at ld
      rcases n5 with n5 | n5
      · subst n5
        simp [hi, hkl, t1, t2, t3, hl0, la, i0', j0', i0, j0, k12, lc, ld, hcz, hcz', hz, hzl, hzq, hcp, hst, hwk, st2, plc, -List.head?_drop, -List.map_drop]
        done
      · subst n5
        simp [hi, hkl, t1, t2, t3, hl0, la, i0', j0', i0, j0, k12, lc, ld, hcz, hcz', hz, hzl, hzq, hcp, hst, hwk, st2, plc, -List.head?_drop, -List.map_drop]
        done
    · have hz0 := n1 e
      have e' : ¬ ((cj p : Nat) : Int) = (cj q : Nat) := by omega
      have st2 := ih (k + 1) h sz (by omega) G
      simp only [Int.natCast_add, Int.cast_ofNat_Int] at st2
      rw [hz0] at la
      rw [l07_BrandGreen.L4_eq]
      simp only [clsV, spV] at st2 ⊢
      simp [hi, hkl, t1, t2, t3, hl0, la, i0', j0', i0, j0, k12, lc, ld, e, e', hwk, st2, plc, -List.head?_drop, -List.map_drop]
      done
theorem Mf.len {α β : Type} [DecidableEq α] {enc : α → AV} {ok : α → Prop} {ev : β → AV} {h : Nat → Option AObj} {id : Nat} {f : α → Option β} (M : Mf enc ok ev h id f) (hf : ∃ c, f c ≠ none) (nx : Nat) : ∃ n : Nat, 0 < n ∧ mapLenA ⟨h, nx⟩ (.map id) = some (.int .i64 (n : Nat)) := by
  obtain ⟨g, ks, vs, h1, h2, h3, h4, h5⟩ := M.ex
  obtain ⟨c, hc⟩ := hf
  refine ⟨ks.length, ?_, by simp [mapLenA, mapLen, h1]⟩
  cases ks with
  | nil => exact absurd (by rw [← h5]; cases vs <;> rfl) hc
  | cons a ks => simp
theorem gn_c {S : SM} {N nc : Nat} (hN0 : 0 < N) (hN : N ≤ 400) (hnc : nc ≤ 1000) {cl cr cj : Nat → Nat} {lL lR : List (List Nat)} (hlL : lL.length ≤ 1000) (hlR : lR.length ≤ 1000)
    {p12 : List (List UInt8) × List Nat} (q12 : p12.1.length = p12.2.length) (v12 : ∀ z, z < N → lkP p12.1 p12.2 (wrd S z) = some (cl z))
    (cjl : ∀ z, z < N → cj z < nc) (Q1 : ∀ p q, p < N → q < N → cj p ≠ cj q → cntN cl cr N (cl p) (cr q) = 0) (Q2 : ∀ p q, p < N → q < N → cj p = cj q → 0 < cntN cl cr N (cl p) (cr q))
    (Q3 : ∀ p q p' q', p < N → q < N → p' < N → q' < N → cj p = cj q → cj p' = cj q' → cj p = cj p' → cntN cl cr N (cl p) (cr q) = cntN cl cr N (cl p') (cr q'))
    (hL : ∀ i (h : i < lL.length), 0 < lL[i].length ∧ lL[i].getD 0 0 < N ∧ cl (lL[i].getD 0 0) = i) (hR : ∀ k (h : k < lR.length), 0 < lR[k].length ∧ ∃ q, q < N ∧ cr q = k)
    {A B C D Z : Nat} (hZA : Z ≠ A) (hZB : Z ≠ B) (hZC : Z ≠ C) (hZD : Z ≠ D) {nx0 : Nat} :
    ∀ (c i : Nat) (h : Nat → Option AObj) (sz : List Nat), i + c = lL.length → Gz cl cr cj h A B C D Z N nc sz →
    l07_BrandGreen.L2 (clsV S lL) (clsV S lR) (spV p12) (.map A) (.map B) (.map C) (.map D) (.sl Z 1 0 nc nc) (.int .i64 i) ⟨h, nx0⟩ KE2 = some (.bool true, Mem.empty) := by
  intro c
  induction c with
  | zero =>
    intro i h sz e1 G
    have e : i = lL.length := by omega
    subst e
    obtain ⟨fb, Mb, Gb⟩ := G.g.mb
    obtain ⟨n, hn, hm⟩ := Mb.len (Gb hN0) nx0
    have hn' : (0 : Int) < (n : Nat) := by omega
    rw [l07_BrandGreen.L2_eq]
    simp only [clsV, spV]
    simp [KE2, hm, hn, hn']
    done
  | succ c ih =>
    intro i h sz e1 G
    have hi : i < lL.length := by omega
    have hwi : IntKind.wrap .i64 ((i : Int) + 1) = (i : Int) + 1 := wrap_id (by omega) (by omega)
    obtain ⟨a1, a2, a3⟩ := hL i hi
    have st := gn_b (S := S) hN hnc (cl := cl) (cr := cr) (cj := cj) (lL := lL) (lR := lR) hlR q12 v12 cjl Q1 Q2 Q3 hi a2 a1 rfl a3 hR hZA hZB hZC hZD (r := some (.bool true, Mem.empty)) (nx0 := nx0) (fun h' sz' G' => by
      have st2 := ih (i + 1) h' sz' (by omega) G'
      simp only [Int.natCast_add, Int.cast_ofNat_Int] at st2
      rw [l07_BrandGreen.L4_eq]
      simp only [clsV, spV] at st2 ⊢
      simp [KE4, hwi, st2]
      done) lR.length 0 h sz (by omega) G
    simp only [Int.ofNat_zero, Int.cast_ofNat_Int, KE4] at st
    rw [l07_BrandGreen.L2_eq]
    simp only [clsV, spV] at st ⊢
    simp [hi, st]
    done
theorem grn_runs {d : Nat} (a0 : AV) (h0 : DatV prog (d + 4) 37 a0) : ∃ m', denC prog ann 14 [a0] Mem.empty = some (.bool true, m') := by
  obtain ⟨s0, s1, q, bv, l, rfl, b0, b1, b2, hb, hlb, _⟩ := datV37 h0
  obtain ⟨rows, good, k, nv, gv, ps, hn, hg, v, hp⟩ := plan_spec b0 b1 b2 hb hlb
  have n6 := v.n6
  have k3 := v.k3
  have hgl := v.gl
  have hr : ∀ i, i < rows.length → (cth rows i).length ≤ 1000 := fun i hi => by rw [v.rl i hi]; omega
  have vt := v.to
  have vm := VB_M v
  have m1 := fun m => monoid_spec hn hg (by omega) (by omega) hr m
  have c1 := fun m => left47_spec hn hg (by omega) (by omega) hr m
  have c2 := fun m => right48_spec hn hg (by omega) (by omega) hr m
  have c3 := fun m => classes45_spec hn hg (by omega) (by omega) hr m
  unfold clsRes at c1 c2 c3
  rw [vt, if_pos rfl, v.k0] at m1 c1 c2 c3
  refine ⟨Mem.empty, ?_⟩
  rw [l07_BrandGreen.call_eq _ _ (by simp [hb.closed])]
  cases e : madeB rows good k with
  | none =>
    rw [e] at m1 c1 c2 c3
    simp [hb.one, hb.closed, hp, hn.one, hg.one, hn.closed, hg.closed, hn.cells, hg.cells, m1, c1, c2, c3, lives_spec]
    done
  | some S =>
    rw [e] at m1 c1 c2 c3
    simp only [] at m1 c1 c2 c3
    have W := MW_of v e
    have wl := W.ok.le
    have wle := W.ok.len
    have hpos := W.pos
    have F := fm_pr vm W
    have eqL := eqB_eqv vm W true false
    have eqR := eqB_eqv vm W false true
    have eqJ := eqB_eqv vm W true true
    have few := fun lf rt => clsL_few (eqB (rowsM rows good k) S k lf rt) S.1.length
    obtain ⟨ksL, vsL, dL1, dL2, dL3, dL4⟩ := spread_spec (S := S) (l := clsL (eqB (rowsM rows good k) S k true false) S.1.length) (by have := (few true false).1; omega) (fun c hc => by have := (few true false).2 c hc; omega)
    obtain ⟨ksR, vsR, dR1, dR2, dR3, dR4⟩ := spread_spec (S := S) (l := clsL (eqB (rowsM rows good k) S k false true) S.1.length) (by have := (few false true).1; omega) (fun c hc => by have := (few false true).2 c hc; omega)
    obtain ⟨ksJ, vsJ, dJ1, dJ2, dJ3, dJ4⟩ := spread_spec (S := S) (l := clsL (eqB (rowsM rows good k) S k true true) S.1.length) (by have := (few true true).1; omega) (fun c hc => by have := (few true true).2 c hc; omega)
    have lenL := spread_len W eqL dL1 dL2 dL3
    have lenR := spread_len W eqR dR1 dR2 dR3
    have lenJ := spread_len W eqJ dJ1 dJ2 dJ3
    have iL := fun x y hx hy => ciE_iff eqL (x := x) (y := y) hx hy
    have iR := fun x y hx hy => ciE_iff eqR (x := x) (y := y) hx hy
    have iJ := fun x y hx hy => ciE_iff eqJ (x := x) (y := y) hx hy
    have tL := fun z hz => ciE_lt eqL (j := z) hz
    have tR := fun z hz => ciE_lt eqR (j := z) hz
    have tJ := fun z hz => ciE_lt eqJ (j := z) hz
    have vL := fun z (hz : z < S.1.length) => (dL3 (wrd S z)).trans (spread_at W eqL hz)
    have vR := fun z (hz : z < S.1.length) => (dR3 (wrd S z)).trans (spread_at W eqR hz)
    have vJ := fun z (hz : z < S.1.length) => (dJ3 (wrd S z)).trans (spread_at W eqJ hz)
    have hcnt : ∀ p q, p < S.1.length → q < S.1.length → cntN (ciE (eqB (rowsM rows good k) S k true false) S.1.length) (ciE (eqB (rowsM rows good k) S k false true) S.1.length) S.1.length (ciE (eqB (rowsM rows good k) S k true false) S.1.length p) (ciE (eqB (rowsM rows good k) S k false true) S.1.length q) = cntE (pr (rowsM rows good k) S) S.1.length p q := by
      intro p q hp' hq'
      rw [cntN, cntE]
      refine List.countP_congr fun z hz => ?_
      have hz : z < S.1.length := by simpa using hz
      rw [inH_iff, ← eqB_l vm W hp' hz, ← eqB_r vm W hq' hz, decide_eq_true_eq, eq_comm, iL p z hp' hz, eq_comm (a := ciE (eqB (rowsM rows good k) S k false true) S.1.length z), iR q z hq' hz]
    have hJe : ∀ p q, p < S.1.length → q < S.1.length → (ciE (eqB (rowsM rows good k) S k true true) S.1.length p = ciE (eqB (rowsM rows good k) S k true true) S.1.length q ↔ eJ (pr (rowsM rows good k) S) S.1.length p q) := fun p q hp' hq' => by
      rw [iJ p q hp' hq', eqB_j vm W hp' hq']
    have H1 : ∀ z w, z < S.1.length → w < S.1.length → ciE (eqB (rowsM rows good k) S k true false) S.1.length z = ciE (eqB (rowsM rows good k) S k true false) S.1.length w → ciE (eqB (rowsM rows good k) S k true true) S.1.length z = ciE (eqB (rowsM rows good k) S k true true) S.1.length w := fun z w hz hw h => by
      rw [hJe z w hz hw]
      exact ((eqB_l vm W hz hw).1 ((iL z w hz hw).1 h)).j F hz hw
    have H2 : ∀ z w, z < S.1.length → w < S.1.length → ciE (eqB (rowsM rows good k) S k false true) S.1.length z = ciE (eqB (rowsM rows good k) S k false true) S.1.length w → ciE (eqB (rowsM rows good k) S k true true) S.1.length z = ciE (eqB (rowsM rows good k) S k true true) S.1.length w := fun z w hz hw h => by
      rw [hJe z w hz hw]
      exact ((eqB_r vm W hz hw).1 ((iR z w hz hw).1 h)).j F hz hw
    have hL : ∀ i (h : i < (clsL (eqB (rowsM rows good k) S k true false) S.1.length).length), 0 < (clsL (eqB (rowsM rows good k) S k true false) S.1.length)[i].length ∧ (clsL (eqB (rowsM rows good k) S k true false) S.1.length)[i].getD 0 0 < S.1.length ∧ ciE (eqB (rowsM rows good k) S k true false) S.1.length ((clsL (eqB (rowsM rows good k) S k true false) S.1.length)[i].getD 0 0) = i := fun i h => by
      have hne := cls_ne eqL h
      have hm : (clsL (eqB (rowsM rows good k) S k true false) S.1.length)[i].getD 0 0 ∈ (clsL (eqB (rowsM rows good k) S k true false) S.1.length)[i] := by
        simp [List.getD_eq_getElem?_getD, hne]
      have := ciE_eq eqL h hm
      exact ⟨hne, this.2, this.1⟩
    have hR : ∀ i (h : i < (clsL (eqB (rowsM rows good k) S k false true) S.1.length).length), 0 < (clsL (eqB (rowsM rows good k) S k false true) S.1.length)[i].length ∧ ∃ q, q < S.1.length ∧ ciE (eqB (rowsM rows good k) S k false true) S.1.length q = i := fun i h => by
      have hne := cls_ne eqR h
      have hm := List.getElem_mem hne
      have := ciE_eq eqR h hm
      exact ⟨hne, _, this.2, this.1⟩
    have key : ∀ h, h 1 = some (.map 0 [] []) → h 2 = some (.map 0 [] []) → h 3 = some (.map 0 [] []) → h 4 = some (.map 0 [] []) → l07_BrandGreen.L0 (wdsV S) (clsV S (clsL (eqB (rowsM rows good k) S k true false) S.1.length)) (clsV S (clsL (eqB (rowsM rows good k) S k false true) S.1.length)) (clsV S (clsL (eqB (rowsM rows good k) S k true true) S.1.length)) (spV (ksL, vsL)) (spV (ksR, vsR)) (spV (ksJ, vsJ)) (.map 1) (.map 2) (.map 3) (.map 4) (.int .i64 (0 : Nat)) ⟨h, 5⟩ KE0 = some (.bool true, Mem.empty) := by
      intro h e1 e2 e3 e4
      refine gn_a (S := S) (by omega) (cl := ciE (eqB (rowsM rows good k) S k true false) S.1.length) (cr := ciE (eqB (rowsM rows good k) S k false true) S.1.length) (cj := ciE (eqB (rowsM rows good k) S k true true) S.1.length) (fun z hz => ?_) (fun z hz => (W.wok (by omega)).1) (fun z w hz hw => H1 z w (by omega) (by omega)) (fun z w hz hw => H2 z w (by omega) (by omega)) dL2 dR2 dJ2 (fun z hz => vL z (by omega)) (fun z hz => vR z (by omega)) (fun z hz => vJ z (by omega)) (by omega) (by omega) (by omega) (by omega) (by omega) (by omega) (lo := 5) (fun h' nx' hlo G => ?_) S.2.length 0 h 5 (by omega) (by omega) ⟨⟨_, .new e1, fun a b => by simp⟩, ⟨_, .new e2, fun h => by omega⟩, ⟨_, .new e3, fun z hz => by omega, fun x d hx => by cases hx⟩, ⟨_, .new e4, fun z hz => by omega, fun x d hx => by cases hx⟩⟩
      · have := (tL z (by omega)).1; have := (few true false).1
        have := (tR z (by omega)).1; have := (few false true).1
        have := (tJ z (by omega)).1; have := (few true true).1
        omega
      · rw [← wle] at G
        have hZ : ∀ y, y < 5 → nx' ≠ y := fun y hy => by omega
        have st := gn_c (S := S) (N := S.1.length) (nc := (clsL (eqB (rowsM rows good k) S k true true) S.1.length).length) hpos (by omega) (by have := (few true true).1; omega) (by have := (few true false).1; omega) (by have := (few false true).1; omega) (p12 := (ksL, vsL)) dL2 vL (fun z hz => (tJ z hz).1) (fun p q hp' hq' hne => by rw [hcnt p q hp' hq']; exact cnt_zero F hp' hq' fun h => hne ((hJe p q hp' hq').2 h)) (fun p q hp' hq' he => by rw [hcnt p q hp' hq']; exact cnt_pos F hp' hq' ((hJe p q hp' hq').1 he)) (fun p q p' q' h1 h2 h3 h4 h5 h6 h7 => by
          rw [hcnt p q h1 h2, hcnt p' q' h3 h4]
          exact cnt_eq F h1 h2 h3 h4 ((hJe p p' h1 h3).1 h7) ((hJe q q' h2 h4).1 (h5.symm.trans (h7.trans h6)))) hL hR (Z := nx') (hZ 1 (by omega)) (hZ 2 (by omega)) (hZ 3 (by omega)) (hZ 4 (by omega)) (nx0 := nx' + 1) (clsL (eqB (rowsM rows good k) S k true false) S.1.length).length 0 (upd h' nx' (some (.cells (natL (List.replicate (clsL (eqB (rowsM rows good k) S k true true) S.1.length).length 0))))) (List.replicate (clsL (eqB (rowsM rows good k) S k true true) S.1.length).length 0) (by omega) ⟨G.fr (updNe (by omega)) (updNe (by omega)) (updNe (by omega)) (updNe (by omega)), by simp [upd], by simp, fun p q _ _ _ => by left; simp [List.getD_eq_getElem?_getD, List.getElem?_replicate]; split <;> rfl⟩
        have hrep : natL (List.replicate (clsL (eqB (rowsM rows good k) S k true true) S.1.length).length 0) = List.replicate (clsL (eqB (rowsM rows good k) S k true true) S.1.length).length (.int .i64 0) := by simp [natL, natV]
        rw [hrep] at st
        simp only [Int.ofNat_zero, Int.cast_ofNat_Int, KE2] at st
        have hc := (few true true).1
        rw [l07_BrandGreen.L0_eq]
        simp only [wdsV, clsV, spV] at st ⊢
        simp [KE0, show (clsL (eqB (rowsM rows good k) S k true true) S.1.length).length ≤ 4611686018427387904 by omega, show (clsL (eqB (rowsM rows good k) S k true true) S.1.length).length * 8 ≤ 70368744177664 by omega, st]
        done
    simp only [Int.ofNat_zero, Int.cast_ofNat_Int, KE0] at key
    have mlL : ∀ m, mapLenA m (spV (ksL, vsL)) = some (.int .i64 S.2.length) := fun m => by simp [mapLenA, mapLen, spV, lenL]
    have mlR : ∀ m, mapLenA m (spV (ksR, vsR)) = some (.int .i64 S.2.length) := fun m => by simp [mapLenA, mapLen, spV, lenR]
    have mlJ : ∀ m, mapLenA m (spV (ksJ, vsJ)) = some (.int .i64 S.2.length) := fun m => by simp [mapLenA, mapLen, spV, lenJ]
    have scL' : (spV (ksL, vsL)).closed = true := rfl
    have scR' : (spV (ksR, vsR)).closed = true := rfl
    have scJ' : (spV (ksJ, vsJ)).closed = true := rfl
    have cc1 : (clsV S (clsL (eqB (rowsM rows good k) S k true false) S.1.length)).closed = true := rfl
    have cc2 : (clsV S (clsL (eqB (rowsM rows good k) S k false true) S.1.length)).closed = true := rfl
    have cc3 : (clsV S (clsL (eqB (rowsM rows good k) S k true true) S.1.length)).closed = true := rfl
    have cwd : (wdsV S).closed = true := rfl
    have wlen : lenSl (wdsV S) = some (.int .i64 S.2.length) := rfl
    have D1 : ∀ m, denC prog ann 51 [clsV S (clsL (eqB (rowsM rows good k) S k true false) S.1.length)] m = some (spV (ksL, vsL), m) := dL4
    have D2 : ∀ m, denC prog ann 51 [clsV S (clsL (eqB (rowsM rows good k) S k false true) S.1.length)] m = some (spV (ksR, vsR), m) := dR4
    have D3 : ∀ m, denC prog ann 51 [clsV S (clsL (eqB (rowsM rows good k) S k true true) S.1.length)] m = some (spV (ksJ, vsJ), m) := dJ4
    rw [clsM] at c1 c2 c3
    generalize clsV S (clsL (eqB (rowsM rows good k) S k true false) S.1.length) = cv1 at *
    generalize clsV S (clsL (eqB (rowsM rows good k) S k false true) S.1.length) = cv2 at *
    generalize clsV S (clsL (eqB (rowsM rows good k) S k true true) S.1.length) = cv3 at *
    generalize spV (ksL, vsL) = sv1 at *
    generalize spV (ksR, vsR) = sv2 at *
    generalize spV (ksJ, vsJ) = sv3 at *
    generalize wdsV S = wv at *
    simp [hb.one, hb.closed, hp, hn.one, hg.one, hn.closed, hg.closed, hn.cells, hg.cells, m1, c1, c2, c3, D1, D2, D3, mlL, mlR, mlJ, wlen, cc1, cc2, cc3, scL', scR', scJ', cwd, lives_spec]
    rw [key _ (by simp) (by simp) (by simp) (by simp)]
    rfl
end Go.Proofs.Ythnpflkpjimkfaa
