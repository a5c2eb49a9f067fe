/-
  PLANS: the brand that is made. Conditions: none.
-/
import Derived.Test.YthnpflkpjimkfaaK03
import Derived.Test.YthnpflkpjimkfaaK01
import Derived.Test.YthnpflkpjimkfaaKAmH
import Derived.Test.YthnpflkpjimkfaaK02
import Derived.Test.YthnpflkpjimkfaaK00
set_option linter.all false
namespace Go.Proofs.Ythnpflkpjimkfaa
open Go.AM
open Go.Proofs.Try (prog)
set_option linter.all false
set_option maxRecDepth 100000
set_option maxHeartbeats 8000000
theorem IsBy.closed {v : AV} {l : List Nat} (h : IsBy v l) : v.closed = true := by rcases h with ⟨rfl, _⟩ | ⟨_, rfl⟩ <;> rfl
theorem IsBy.one {v : AV} {l : List Nat} (h : IsBy v l) : v.one = true := by rcases h with ⟨rfl, _⟩ | ⟨_, rfl⟩ <;> rfl
theorem IsBy.len {v : AV} {l : List Nat} (h : IsBy v l) : lenSl v = some (.int .i64 l.length) := by rcases h with ⟨rfl, rfl⟩ | ⟨_, rfl⟩ <;> rfl
theorem IsBy.idx {v : AV} {l : List Nat} (h : IsBy v l) {i : Nat} (hi : i < l.length) (k : IntKind) : idxSl 1 v (.int k (i : Int)) = some (.fptr ((bytN l).drop i)) := by
  rcases h with ⟨rfl, rfl⟩ | ⟨_, rfl⟩
  · simp at hi
  · simp [hi]
theorem byt_head {l : List Nat} {i : Nat} (h : i < l.length) : ((bytN l).drop i).head? = some (.int .u8 (l.getD i 0 : Nat)) := by
  rw [List.head?_drop]
  simp [bytN, h, List.getD_eq_getElem?_getD]
def entP (l : List Nat) (n k q s a : Nat) : Nat := let w := if s * k + a < l.length then l.getD (s * k + a) 0 % n else 0; if 128 ≤ q then max w s else w
theorem entP_lt {l : List Nat} {n k q s a : Nat} (hs : s < n) : entP l n k q s a < n := by
  unfold entP
  have h1 : (if s * k + a < l.length then l.getD (s * k + a) 0 % n else 0) < n := by
    split
    · exact Nat.mod_lt _ (by omega)
    · omega
  simp only []
  split
  · omega
  · exact h1
def rowP (l : List Nat) (n k q s c : Nat) : List Int := (List.range c).map fun a => ((entP l n k q s a : Nat) : Int)
def rowsP (l : List Nat) (n k q c : Nat) : List (List Int) := (List.range c).map fun s => rowP l n k q s k
def goodP (q c : Nat) : List Bool := (List.range c).map fun s => q.testBit s
noncomputable def KP0 : List Item := [.code l07_Plan_made.r18, .code .ret]
noncomputable def KP2 : List Item := .code l07_Plan_made.r17 :: .inBlock 1 :: .code l07_Plan_made.r5 :: .inLoop l07_Plan_made.l0 :: .inBlock 0 :: KP0
theorem pl_in {a0 a1 : Nat} {nv : AV} {l : List Nat} (hb : IsBy nv l) (hlb : ∀ x ∈ l, x < 256) {q n k s : Nat} (hq : q < 256) (hs : s < n) (n6 : n ≤ 6) (k3 : k ≤ 3) {x2 x5 : AV} {R : Nat} {r : Option Res} :
    ∀ (c a : Nat) (h : Nat → Option AObj) (nx0 : Nat), a + c = k → h R = some (.cells (ints (rowP l n k q s a))) → R < nx0 →
    (∀ h' nx', h' R = some (.cells (ints (rowP l n k q s k))) → nx0 ≤ nx' → (∀ y, y ≠ R → h' y = h y) →
      l07_Plan_made.L2 (.fptr [.int .u8 (a0 : Nat), .int .u8 (a1 : Nat), nv, .int .u8 (q : Nat)]) x2 (.int .i64 n) (.int .i64 k) x5 (.int .i64 s) (.sl R 1 0 k k) (.int .i64 k) ⟨h', nx'⟩ KP2 = r) →
    l07_Plan_made.L2 (.fptr [.int .u8 (a0 : Nat), .int .u8 (a1 : Nat), nv, .int .u8 (q : Nat)]) x2 (.int .i64 n) (.int .i64 k) x5 (.int .i64 s) (.sl R 1 0 a a) (.int .i64 a) ⟨h, nx0⟩ KP2 = r := by
  intro c
  induction c with
  | zero =>
    intro a h nx0 h1 h0 hR hk
    have e : a = k := by omega
    subst e
    exact hk h nx0 h0 (Nat.le_refl _) (fun _ _ => rfl)
  | succ c ih =>
    intro a h nx0 h1 h0 hR hk
    have ha : a < k := by omega
    have hwa : IntKind.wrap .i64 ((a : Int) + 1) = (a : Int) + 1 := wrap_id (by omega) (by omega)
    have hsk : s * k ≤ 18 := by
      have := Nat.mul_le_mul (show s ≤ 6 by omega) k3
      omega
    have hw1 : IntKind.wrap .i64 ((s : Int) * k) = ((s * k : Nat) : Int) := by rw [← Int.natCast_mul]; exact wrap_id (by omega) (by omega)
    have hw2 : IntKind.wrap .i64 (((s * k : Nat) : Int) + a) = ((s * k + a : Nat) : Int) := by rw [← Int.natCast_add]; exact wrap_id (by omega) (by omega)
    have hrl : (rowP l n k q s a).length = a := by simp [rowP]
    have hrl1 : (rowP l n k q s (a + 1)).length = a + 1 := by simp [rowP]
    have hrow : ints (rowP l n k q s a) ++ [.int .i64 ((entP l n k q s a : Nat) : Int)] = ints (rowP l n k q s (a + 1)) := by simp [rowP, List.range_succ, ints]
    have hent := entP_lt (l := l) (k := k) (q := q) (a := a) hs
    have st := ih (a + 1) (upd h R (some (.cells (ints (rowP l n k q s (a + 1)))))) nx0 (by omega) (by simp) hR (fun h' nx' f1 f2 f3 => hk h' nx' f1 f2 (fun y hy => by rw [f3 y hy, updNe hy]))
    simp only [Int.natCast_add, Int.cast_ofNat_Int] at st
    have hemax : ∀ w : Nat, max (w : Int) (s : Int) = ((max w s : Nat) : Int) := fun w => by omega
    have hn0 : ¬ n = 0 := by omega
    by_cases c1 : s * k + a < l.length
    · have hb256 : l.getD (s * k + a) 0 < 256 := by
        have : l.getD (s * k + a) 0 ∈ l := by rw [List.getD_eq_getElem?_getD, List.getElem?_eq_getElem c1]; exact List.getElem_mem c1
        exact hlb _ this
      have hcv := wrapN (x := l.getD (s * k + a) 0) (by omega)
      have hmod : ((l.getD (s * k + a) 0 : Nat) : Int).tmod (n : Int) = ((l.getD (s * k + a) 0 % n : Nat) : Int) := by
        rw [Int.tmod_eq_emod_of_nonneg (by omega)]; simp
      have hhd := byt_head c1
      have hix := hb.idx c1 .i64
      have hlt : ((s * k + a : Nat) : Int) < (l.length : Int) := by omega
      by_cases c2 : 128 ≤ q
      · have he : entP l n k q s a = max (l.getD (s * k + a) 0 % n) s := by simp only [entP, if_pos c1, if_pos c2]
        rw [he] at hrow
        have c2' : (128 : Int) ≤ (q : Int) := by omega
        generalize l.getD (s * k + a) 0 = z at *
        generalize s * k + a = at' at *
        generalize s * k = sk at *
        rw [l07_Plan_made.L2_eq]
        simp [ha, hw1, hw2, hb.len, c1, hix, hhd, hcv, hn0, hmod, c2', hemax, h0, hrl, hrow, hrl1, hwa, st, show a ≤ 4611686018427387903 by omega, show (a + 1) * 8 ≤ 70368744177664 by omega, -Int.natCast_add, -Int.natCast_mul, -Int.natCast_emod]
        done
      · have he : entP l n k q s a = l.getD (s * k + a) 0 % n := by simp only [entP, if_pos c1, if_neg c2]
        rw [he] at hrow
        have c2' : ¬ (128 : Int) ≤ (q : Int) := by omega
        generalize l.getD (s * k + a) 0 = z at *
        generalize s * k + a = at' at *
        generalize s * k = sk at *
        rw [l07_Plan_made.L2_eq]
        simp [ha, hw1, hw2, hb.len, c1, hix, hhd, hcv, hn0, hmod, c2', h0, hrl, hrow, hrl1, hwa, st, show a ≤ 4611686018427387903 by omega, show (a + 1) * 8 ≤ 70368744177664 by omega, -Int.natCast_add, -Int.natCast_mul, -Int.natCast_emod]
        done
    · have hge : ¬ ((s * k + a : Nat) : Int) < (l.length : Int) := by omega
      by_cases c2 : 128 ≤ q
      · have he : entP l n k q s a = s := by simp only [entP, if_neg c1, if_pos c2]; omega
        rw [he] at hrow
        have c2' : (128 : Int) ≤ (q : Int) := by omega
        have hm0 : max (0 : Int) (s : Int) = (s : Int) := by omega
        generalize s * k + a = at' at *
        generalize s * k = sk at *
        rw [l07_Plan_made.L2_eq]
        simp [ha, hw1, hw2, hb.len, c1, c2', hm0, h0, hrl, hrow, hrl1, hwa, st, show a ≤ 4611686018427387903 by omega, show (a + 1) * 8 ≤ 70368744177664 by omega, -Int.natCast_add, -Int.natCast_mul]
        done
      · have he : entP l n k q s a = 0 := by simp only [entP, if_neg c1, if_neg c2]
        rw [he] at hrow
        have c2' : ¬ (128 : Int) ≤ (q : Int) := by omega
        simp only [Int.ofNat_zero, Int.cast_ofNat_Int] at hrow
        generalize s * k + a = at' at *
        generalize s * k = sk at *
        rw [l07_Plan_made.L2_eq]
        simp [ha, hw1, hw2, hb.len, c1, c2', h0, hrl, hrow, hrl1, hwa, st, show a ≤ 4611686018427387903 by omega, show (a + 1) * 8 ≤ 70368744177664 by omega, -Int.natCast_add, -Int.natCast_mul]
        done
theorem frz_62_66 (s : St) : frz1 s 3062066 = bif ap (objId (s.get 62)) (objId (s.get 66)) then some s else none := by rw [← ap_eq]; rfl
theorem frz_64 (s : St) : frz1 s 2000064 = bif nsl (s.get 64) then some s else none := rfl
theorem bit8 {q s : Nat} (hq : q < 256) (hs : s < 6) : binA prog .shr 5 (.int .u8 (q : Nat)) (.int .i64 (s : Nat)) = some (.int .u8 ((q / 2 ^ s : Nat) : Int)) := by
  have h0 : ¬ ((s : Int) < 0) := by omega
  have h1 : min (s : Int).toNat (IntKind.bits .u8) = s := by
    show min (s : Int).toNat 8 = s
    omega
  rw [binA_shr, h1]
  have e : (q : Int).fdiv (2 ^ s) = ((q / 2 ^ s : Nat) : Int) := by
    rw [Int.fdiv_eq_ediv_of_nonneg _ (Int.pow_nonneg (by omega))]
    simp
  simp [h0, e]
theorem and8 {x : Nat} (hx : x < 256) : binA prog .and 5 (.int .u8 (x : Nat)) (.int .u8 1) = some (.int .u8 (if x % 2 = 1 then 1 else 0)) := by
  have key : ∀ x : Fin 256, IntKind.wrap .u8 ((BitVec.ofInt (IntKind.bits .u8) ((x.val : Nat) : Int) &&& BitVec.ofInt (IntKind.bits .u8) 1).toNat : Int) = if x.val % 2 = 1 then 1 else 0 := by decide
  rw [binA_and]
  have := key ⟨x, hx⟩
  simp only [] at this
  rw [this]
def pslP (l : List Nat) (n k q c : Nat) : List AV := (List.range c).map fun s => .fsl false k (ints (rowP l n k q s k))
structure Ol (h : Nat → Option AObj) (o z0 : Nat) (a g : AV) (A G : List AV) (lo hi : Nat) : Prop where
  o : h o = some (.cells [a, g])
  z : h z0 = some (.cells [.nils, .nils])
  na : Nl h a A lo hi
  ng : Nl h g G lo hi
  dj : ∀ y, objId a = some y → objId g ≠ some y
theorem pl_out {a0 a1 : Nat} {nv : AV} {l : List Nat} (hb : IsBy nv l) (hlb : ∀ x ∈ l, x < 256) {q n k : Nat} (hq : q < 256) (n1 : 1 ≤ n) (n6 : n ≤ 6) (k1 : 1 ≤ k) (k3 : k ≤ 3) {o lo : Nat} (ho : o < lo) (ho0 : 0 < o) :
    ∀ (c s : Nat) (h : Nat → Option AObj) (nx0 : Nat) (a g : AV), s + c = n → lo ≤ nx0 → Ol h o 0 a g (pslP l n k q s) (bls (goodP q s)) lo nx0 →
    l07_Plan_made.L0 (.fptr [.int .u8 (a0 : Nat), .int .u8 (a1 : Nat), nv, .int .u8 (q : Nat)]) (.ptr 0 0 2) (.int .i64 n) (.int .i64 k) (.ptr o 0 2) (.int .i64 s) ⟨h, nx0⟩ KP0 = some (.agg [.fsl false n (pslP l n k q n), .fsl false n (bls (goodP q n))], Mem.empty) := by
  intro c
  induction c with
  | zero =>
    intro s h nx0 a g h1 hlo O
    have e : s = n := by omega
    subst e
    have na : Nl (upd h 0 (some (AObj.cells [a, g]))) a (pslP l s k q s) lo nx0 := O.na.fr (fun y y1 _ _ => updNe (by omega)) (Nat.le_refl _)
    have ng : Nl (upd h 0 (some (AObj.cells [a, g]))) g (bls (goodP q s)) lo nx0 := O.ng.fr (fun y y1 _ _ => updNe (by omega)) (Nat.le_refl _)
    have hne1 : pslP l s k q s ≠ [] := by intro e; have := congrArg List.length e; simp [pslP] at this; omega
    have hne2 : bls (goodP q s) ≠ [] := by intro e; have := congrArg List.length e; simp [goodP] at this; omega
    have da := na.deep 4 (fun x hx => by
      simp only [pslP, List.mem_map] at hx
      obtain ⟨q, _, rfl⟩ := hx
      rfl) (na.nn hne1)
    have dg := ng.deep 4 (fun x hx => by
      simp only [bls, List.mem_map] at hx
      obtain ⟨q, _, rfl⟩ := hx
      rfl) (ng.nn hne2)
    have l1 : (pslP l s k q s).length = s := by simp [pslP]
    have l2 : (bls (goodP q s)).length = s := by simp [goodP]
    rw [l1] at da
    rw [l2] at dg
    rw [l07_Plan_made.L0_eq]
    simp [O.o, O.z, O.na.one, O.ng.one, KP0]
    simp [da, dg]
    done
  | succ c ih =>
    intro s h nx0 a g h1 hlo O
    have hs : s < n := by omega
    have eR : pslP l n k q s ++ [.fsl false k (ints (rowP l n k q s k))] = pslP l n k q (s + 1) := by simp [pslP, List.range_succ]
    have eG : bls (goodP q s) ++ [.bool (q.testBit s)] = bls (goodP q (s + 1)) := by simp [bls, goodP, List.range_succ]
    have oa := fun y e => (O.na.oid (y := y) e)
    have og := fun y e => (O.ng.oid (y := y) e)
    have st := pl_in (a0 := a0) (a1 := a1) hb hlb (q := q) (n := n) (k := k) (s := s) hq hs n6 k3 (x2 := .ptr 0 0 2) (x5 := .ptr o 0 2) (R := nx0) (r := some (.agg [.fsl false n (pslP l n k q n), .fsl false n (bls (goodP q n))], Mem.empty)) k 0 (upd h nx0 (some (.cells []))) (nx0 + 1) (by omega) (by simp [rowP]) (by omega) (fun h' nx' w1 hnx' hfr0 => by
      have hfr : ∀ y, y ≠ nx0 → h' y = h y := fun y hy => by rw [hfr0 y hy, updNe hy]
      have rl : (rowP l n k q s k).length = k := by simp [rowP]
      have na1 : Nl (upd h' nx0 none) a (pslP l n k q s) lo nx0 := O.na.fr (fun y y1 y2 _ => by rw [updNe (by omega), hfr y (by omega)]) (Nat.le_refl _)
      have lR : (pslP l n k q s).length ≤ 6 := by simp [pslP]; omega
      have lG : (bls (goodP q s)).length ≤ 6 := by simp [goodP]; omega
      obtain ⟨v1, h2, n2, g1, g2, g3, g4, g5, g6, g7⟩ := na1.app (nx := nx' + 4) (by' := 24) (by omega) (by omega) (by simp; omega) (.fsl false k (ints (rowP l n k q s k)))
      have hv1 : ∀ y, objId v1 = some y → lo ≤ y ∧ (y < nx0 ∨ y = nx' + 4) := fun y e => by
        rcases g5 y e with q | q
        · have := oa y q; omega
        · omega
      have ng1 : Nl h2 g (bls (goodP q s)) lo nx0 := O.ng.fr (fun y y1 y2 ye => by
        rw [g6 y (fun e => by
          rcases g5 y e with q | q
          · exact O.dj y q ye
          · omega), updNe (by omega), hfr y (by omega)]) (Nat.le_refl _)
      obtain ⟨v2, h3, n3, u1, u2, u3, u4, u5, u6, u7⟩ := ng1.app (nx := nx' + 14) (by' := 1) (by omega) (by omega) (by simp only [room_dec, Bool.and_eq_true, decide_eq_true_eq]; omega) (.bool (q.testBit s))
      have hv2 : ∀ y, objId v2 = some y → lo ≤ y ∧ (objId g = some y ∨ y = nx' + 14) := fun y e => by
        rcases u5 y e with q | q
        · have := og y q; exact ⟨this.1, .inl q⟩
        · exact ⟨by omega, .inr q⟩
      have low : ∀ y, y < lo → h3 y = h y := fun y hy => by
        rw [u6 y (fun e => by have := hv2 y e; omega), g6 y (fun e => by have := hv1 y e; omega), updNe (by omega), hfr y (by omega)]
      have lo2 : ∀ y, y < lo → h2 y = h y := fun y hy => by
        rw [g6 y (fun e => by have := hv1 y e; omega), updNe (by omega), hfr y (by omega)]
      have ho' : h' o = some (.cells [a, g]) := by rw [hfr o (by omega)]; exact O.o
      have ho2 : h2 o = some (.cells [a, g]) := by rw [lo2 o ho]; exact O.o
      have ho3 : h3 o = some (.cells [a, g]) := by rw [low o ho]; exact O.o
      have a1' := ap_lt (z := o) (fun y e => (oa y e).1) ho
      have hwk : IntKind.wrap .i64 ((s : Int) + 1) = (s : Int) + 1 := wrap_id (by omega) (by omega)
      have fin4 : ∀ y, y < lo → y ≠ o → (upd h3 o (some (.cells [v1, v2]))) y = h y := fun y y1 y2 => by rw [updNe y2, low y y1]
      have st3 := ih (s + 1) (upd h3 o (some (.cells [v1, v2]))) (nx' + 19) v1 v2 (by omega) (by omega)
        ⟨by simp, by rw [fin4 0 (by omega) (by omega)]; exact O.z,
          by
            rw [← eR]
            exact g2.fr (fun y y1 y2 ye => by
              rw [updNe (by omega), u6 y (fun e => by
                rcases (hv2 y e).2 with q | q
                · rcases g5 y ye with w | w
                  · exact O.dj y w q
                  · have := og y q; omega
                · have := (hv1 y ye).2; omega)]) (by omega),
          by
            rw [← eG]
            exact u2.fr (fun y y1 y2 ye => by rw [updNe (by omega)]) (by omega),
          fun y e1 e2 => by
            rcases (hv2 y e2).2 with q | q
            · rcases g5 y e1 with w | w
              · exact O.dj y w q
              · have := og y q; omega
            · have := (hv1 y e1).2; omega⟩
      simp only [Int.natCast_add, Int.cast_ofNat_Int] at st3
      have hoR : (o == nx0) = false := beq_eq_false_iff_ne.2 (by omega)
      have rtk : (ints (rowP l n k q s k)).take k = ints (rowP l n k q s k) := List.take_of_length_le (by simp [rl])
      have b8 := bit8 (q := q) (s := s) hq (by omega)
      have hq2 : q / 2 ^ s < 256 := Nat.lt_of_le_of_lt (Nat.div_le_self _ _) hq
      have n8 := and8 hq2
      have htb : q.testBit s = decide (q / 2 ^ s % 2 = 1) := by rw [Nat.testBit_eq_decide_div_mod_eq]
      generalize q / 2 ^ s = qs at *
      have he8 : binA prog .eql 5 (.int .u8 (if qs % 2 = 1 then 1 else 0)) (.int .u8 1) = some (.bool (q.testBit s)) := by
        rw [htb]
        by_cases w : qs % 2 = 1 <;> simp [w]
      rw [l07_Plan_made.L2_eq]
      simp [KP2, w1, rl, rtk, hoR, ho', ho2, ho3, g1, O.na.one, O.ng.one, b8, n8, he8, u1, (show v1.one = true from g2.one), (show v2.one = true from u2.one), frz_62_66, frz_64, nsl, a1', hwk, st3, frzL, -binA_shr, -binA_and]
      done)
    simp only [Int.ofNat_zero, Int.cast_ofNat_Int, KP2] at st
    rw [l07_Plan_made.L0_eq]
    simp [hs]
    exact st
end Go.Proofs.Ythnpflkpjimkfaa

/-
  PLANS: the brand is valid. Conditions: none.
-/
namespace Go.Proofs.Ythnpflkpjimkfaa
open Go.AM
open Go.Proofs.Try (prog)
set_option linter.all false
set_option maxRecDepth 100000
set_option maxHeartbeats 8000000
theorem VB.to {rows : List (List Int)} {good : List Bool} {k : Nat} (v : VB rows good k) : validB rows good = true := by
  have h0 := v.rl 0 v.n1
  unfold validB
  simp only [Bool.and_eq_true, decide_eq_true_eq, List.all_eq_true]
  refine ⟨⟨v.n1, v.n6⟩, v.gl, ⟨by rw [h0]; exact v.k1, by rw [h0]; exact v.k3⟩, fun r hr => ?_⟩
  obtain ⟨i, hi, rfl⟩ := List.getElem_of_mem hr
  have e : cth rows i = rows[i] := by simp [cth, hi, List.getD_eq_getElem?_getD]
  have hl := v.rl i hi
  rw [e] at hl
  unfold rowOk
  simp only [Bool.and_eq_true, decide_eq_true_eq, List.all_eq_true]
  refine ⟨by rw [hl, h0], fun x hx => ?_⟩
  obtain ⟨j, hj, rfl⟩ := List.getElem_of_mem hx
  have := v.rg i j hi (by omega)
  rw [e] at this
  rw [nth_get hj]
  exact this
theorem VB.k0 {rows : List (List Int)} {good : List Bool} {k : Nat} (v : VB rows good k) : (cth rows 0).length = k := v.rl 0 v.n1
theorem planVB {l : List Nat} {n k q : Nat} (n1 : 1 ≤ n) (n6 : n ≤ 6) (k1 : 1 ≤ k) (k3 : k ≤ 3) : VB (rowsP l n k q n) (goodP q n) k := by
  have row : ∀ i, i < n → cth (rowsP l n k q n) i = rowP l n k q i k := fun i hi => by simp [cth, rowsP, hi, List.getD_eq_getElem?_getD]
  refine ⟨by simp [rowsP]; omega, by simp [rowsP]; omega, by simp [rowsP, goodP], k1, k3, fun i hi => ?_, fun i j hi hj => ?_⟩
  · rw [row i (by simpa [rowsP] using hi)]; simp [rowP]
  · have hi' : i < n := by simpa [rowsP] using hi
    rw [row i hi']
    have e : nth (rowP l n k q i k) j = ((entP l n k q i j : Nat) : Int) := by simp [nth, rowP, hj, List.getD_eq_getElem?_getD]
    have := entP_lt (l := l) (k := k) (q := q) (a := j) hi'
    rw [e]
    simp only [rowsP, List.length_map, List.length_range]
    omega
theorem planR {l : List Nat} {n k q : Nat} : IsRows (.fsl false n (pslP l n k q n)) (pslP l n k q n) (rowsP l n k q n) := by
  refine ⟨by simp [pslP, rowsP], fun i hi => ?_, .inr ⟨false, by simp [rowsP]⟩⟩
  have hi' : i < n := by simpa [rowsP] using hi
  have e1 : pth (pslP l n k q n) i = .fsl false k (ints (rowP l n k q i k)) := by simp [pth, pslP, hi', List.getD_eq_getElem?_getD]
  have e2 : cth (rowsP l n k q n) i = rowP l n k q i k := by simp [cth, rowsP, hi', List.getD_eq_getElem?_getD]
  rw [e1, e2]
  exact .inr ⟨false, by simp [rowP]⟩
theorem planG {q n : Nat} : IsB (.fsl false n (bls (goodP q n))) (goodP q n) := .inr ⟨false, by simp [goodP]⟩
theorem plan_spec {a0 a1 q : Nat} {nv : AV} {l : List Nat} (h0 : a0 < 256) (h1 : a1 < 256) (hq : q < 256) (hb : IsBy nv l) (hlb : ∀ x ∈ l, x < 256) :
    ∃ rows good k nv' gv ps, IsRows nv' ps rows ∧ IsB gv good ∧ VB rows good k ∧ ∀ m, denC prog ann 22 [.agg [.int .u8 (a0 : Nat), .int .u8 (a1 : Nat), nv, .int .u8 (q : Nat)]] m = some (.agg [nv', gv], m) := by
  have hn : 1 ≤ a0 % 6 + 1 ∧ a0 % 6 + 1 ≤ 6 := by omega
  have hk : 1 ≤ a1 % 3 + 1 ∧ a1 % 3 + 1 ≤ 3 := by omega
  refine ⟨rowsP l (a0 % 6 + 1) (a1 % 3 + 1) q (a0 % 6 + 1), goodP q (a0 % 6 + 1), a1 % 3 + 1, _, _, pslP l (a0 % 6 + 1) (a1 % 3 + 1) q (a0 % 6 + 1), planR, planG, planVB hn.1 hn.2 hk.1 hk.2, fun m => ?_⟩
  have c0 := wrapN (x := a0) (by omega)
  have c1 := wrapN (x := a1) (by omega)
  have m0 : ((a0 : Nat) : Int).tmod 6 = ((a0 % 6 : Nat) : Int) := by rw [Int.tmod_eq_emod_of_nonneg (by omega)]; simp
  have m1 : ((a1 : Nat) : Int).tmod 3 = ((a1 % 3 : Nat) : Int) := by rw [Int.tmod_eq_emod_of_nonneg (by omega)]; simp
  have w0 : IntKind.wrap .i64 (((a0 % 6 : Nat) : Int) + 1) = ((a0 % 6 + 1 : Nat) : Int) := by
    rw [wrap_id (by omega) (by omega)]; omega
  have w1 : IntKind.wrap .i64 (((a1 % 3 : Nat) : Int) + 1) = ((a1 % 3 + 1 : Nat) : Int) := by
    rw [wrap_id (by omega) (by omega)]; omega
  generalize a0 % 6 = n0 at *
  generalize a1 % 3 = k0 at *
  have lp := pl_out (a0 := a0) (a1 := a1) hb hlb (q := q) (n := n0 + 1) (k := k0 + 1) hq hn.1 hn.2 hk.1 hk.2 (o := 13) (lo := 14) (by omega) (by omega) (n0 + 1) 0 (upd (upd Mem.empty.h 0 (some (.cells [.nils, .nils]))) 13 (some (.cells [.nils, .nils]))) 14 .nils .nils (by omega) (by omega) ⟨by simp, by simp, .nil, .nil, by simp [objId]⟩
  simp only [Int.ofNat_zero, Int.cast_ofNat_Int, KP0] at lp
  rw [l07_Plan_made.call_eq _ _ (by simp [hb.closed])]
  simp [hb.one, hb.closed, c0, c1, m0, m1, w0, w1, -Int.natCast_add, -Int.natCast_emod]
  rw [lp]
  rfl
end Go.Proofs.Ythnpflkpjimkfaa

/-
  BODIES OF FUNCTIONS OF THE PROGRAM AS SMALL OPERATIONS (written by gen.py; checked by the kernel against the program). Conditions: none.
-/
namespace Go.Proofs.Ythnpflkpjimkfaa
open Go.AM
open Go.Proofs.Try (prog)
set_option maxRecDepth 100000
set_option linter.all false
namespace l07_word
noncomputable section
variable (K : List Item) (s : St)
def b : Code := (Try.f35.body).getD .skip
theorem hf : prog.funcs[35]? = some Try.f35 := by kernel_rfl
def r0 := findReg b 0
def r1 := findReg b 1
def r2 := findReg b 2
def k0 := findBlk b 0
def l0 := loopOf k0
def L0 (x1 x2 x7 x8 x9 : AV) (m : Mem) (K : List Item) : Option Res := den prog ann 35 (.code l0 :: .inLoop l0 :: .inBlock 0 :: K) ⟨[(1, x1), (2, x2), (7, x7), (8, x8), (9, x9)], 45, m⟩
def r3 := findReg b 3
def i0 := findCond b 0
def i0t := thenOf i0
def i0e := elseOf i0
def k1 := findBlk b 1
def r5 := findReg b 5
def r4 := findReg b 4
def r6 := findReg b 6
theorem b_eq : den prog ann 35 (.code b :: K) s = den prog ann 35 (.code r0 :: .code r1 :: .code r2 :: .code k0 :: .code r6 :: .code .ret :: K) s := den_flat hf (l := [r0, r1, r2, k0, r6, .ret]) (by kernel_rfl) K s
theorem r0_eq : den prog ann 35 (.code r0 :: K) s = mreg prog ann 35 none [] none [] [qA 3 frozenPtr 0,qF 6 fun s => some (.str [])] K s := (den_reg hf _ K s).trans (by kernel_rfl)
theorem r1_draw : drawOk (fun g => (ann g).pure) (modeOf (ann 35) (idOf r1)) (frzOf (ann 35) (idOf r1)) (opsOf r1) = true := drawOk_of (an := [0, 1, 3, 7, 15, 0, 63]) (by kernel_rfl) (by kernel_rfl)
theorem r1_eq : den prog ann 35 (.code r1 :: K) s = mreg prog ann 35 none [] (some 7) [] [qA 10 (fieldA 0) 3,qA 11 (loadF false 1) 10,qF 12 fun s => idxSl 1 (s.get 11) (.int .i64 0),qA 13 (loadF false 1) 12,qA 14 lenSl 13,qF 7 fun s => some (.str []),qC 8 14] K s := (den_regD hf r1_draw K s).trans (by kernel_rfl)
theorem r2_eq : den prog ann 35 (.code r2 :: K) s = mreg prog ann 35 none [] none [] [qF 9 fun s => some (.int .i64 0)] K s := (den_reg hf _ K s).trans (by kernel_rfl)
theorem k0_eq (K : List Item) (t : List (Nat × AV)) (m : Mem) : den prog ann 35 (.code k0 :: K) ⟨t, 45, m⟩ = L0 (get t 1) (get t 2) (get t 7) (get t 8) (get t 9) m K := den_loop_enter hf (b := l0) (id := 3) (l := [1, 2, 7, 8, 9]) (by kernel_rfl) (by kernel_rfl) (by kernel_rfl) K _
theorem l0_eq (K : List Item) (t : List (Nat × AV)) (m : Mem) : den prog ann 35 (.inLoop l0 :: .inBlock 0 :: K) ⟨t, 45, m⟩ = L0 (get t 1) (get t 2) (get t 7) (get t 8) (get t 9) m K := den_loop_again hf (id := 3) (l := [1, 2, 7, 8, 9]) (by kernel_rfl) (by kernel_rfl) (.inBlock 0 :: K) _
theorem L0_eq (x1 x2 x7 x8 x9 : AV) (m : Mem) (K : List Item) : L0 x1 x2 x7 x8 x9 m K = den prog ann 35 (.code r3 :: .code i0 :: .code k1 :: .code r4 :: .inLoop l0 :: .inBlock 0 :: K) ⟨[(1, x1), (2, x2), (7, x7), (8, x8), (9, x9)], 45, m⟩ := den_flat hf (l := [r3, i0, k1, r4]) (by kernel_rfl) _ _
theorem r3_eq : den prog ann 35 (.code r3 :: K) s = mreg prog ann 35 (some [1, 2, 7, 8, 9]) [] none [] [qC 15 9,qC 16 1,qA 17 lenSl 16,qB 18 (binA prog .lss 3) 15 17,qC 19 18,⟨some 20, some (19, true), .v fun s => some (s.get 9)⟩,⟨some 21, some (19, true), .v fun s => some (s.get 2)⟩,⟨some 22, some (19, true), .v fun s => binA prog .lss 3 (s.get 20) (s.get 21)⟩,qF 23 fun s => pickA (s.get 19) (s.get 22) (.bool false)] K s := (den_reg hf _ K s).trans (by kernel_rfl)
theorem i0_eq : den prog ann 35 (.code i0 :: K) s = ifV prog ann 35 23 i0t i0e K s (s.get 23) := den_if hf (by kernel_rfl) K s
theorem i0t_eq : den prog ann 35 (.code i0t :: K) s = den prog ann 35 (K) s := den_flat hf (l := []) (by kernel_rfl) K s
theorem i0e_eq : den prog ann 35 (.code i0e :: K) s = den prog ann 35 (.code (.exit 0) :: K) s := den_flat hf (l := [(.exit 0)]) (by kernel_rfl) K s
theorem k1_eq : den prog ann 35 (.code k1 :: K) s = den prog ann 35 (.code r5 :: .inBlock 1 :: K) s := den_blk hf (b := blkOf k1) (l := [r5]) (by kernel_rfl) (by kernel_rfl) K s
theorem r5_draw : drawOk (fun g => (ann g).pure) (modeOf (ann 35) (idOf r5)) (frzOf (ann 35) (idOf r5)) (opsOf r5) = true := drawOk_of (an := [0, 0, 0, 6, 14, 30, 0, 126, 0, 0, 768, 1792, 3840, 0, 16128, 32512, 65534, 131071, 262143]) (by kernel_rfl) (by kernel_rfl)
theorem r5_eq : den prog ann 35 (.code r5 :: K) s = mreg prog ann 35 none [] (some 19) [] [qC 26 7,qC 27 1,qC 28 9,qB 29 (idxSl 1) 27 28,qA 30 (loadF false 1) 29,qA 31 (convInt .i64) 30,qC 32 8,qB 33 (binA prog .rem 3) 31 32,qC 34 1,qC 35 9,qB 36 (idxSl 1) 34 35,qA 37 (loadF false 1) 36,qA 38 (convInt .i64) 37,qC 39 8,qB 40 (binA prog .rem 3) 38 39,qF 41 fun s => binA prog .add 3 (s.get 40) (.int .i64 1),qF 42 fun s => sliceStr (.str [97, 98, 99]) (some (s.get 33)) (some (s.get 41)),qB 43 (binA prog .add 9) 26 42,qC 7 43] K s := (den_regD hf r5_draw K s).trans (by kernel_rfl)
theorem r4_eq : den prog ann 35 (.code r4 :: K) s = mreg prog ann 35 (some [1, 2, 7, 8, 9]) [] none [] [qC 24 9,qF 25 fun s => binA prog .add 3 (s.get 24) (.int .i64 1),qC 9 25] K s := (den_reg hf _ K s).trans (by kernel_rfl)
theorem r6_eq : den prog ann 35 (.code r6 :: K) s = mreg prog ann 35 (some [7]) [] none [] [qC 44 7,qC 6 44] K s := (den_reg hf _ K s).trans (by kernel_rfl)
theorem ret_eq : den prog ann 35 (.code .ret :: K) s = finM true [fun s => some (s.get 6)] s := (den_ret hf K s).trans (by kernel_rfl)
theorem nil_eq (s : St) : den prog ann 35 [] s = finM true [fun s => some (s.get 6)] s := (den_nil hf s).trans (by kernel_rfl)
theorem inBlock_eq (id : Nat) (K : List Item) (s : St) : den prog ann 35 (.inBlock id :: K) s = den prog ann 35 K s := den_inBlock hf id K s
theorem exit_eq (id : Nat) (K : List Item) (s : St) : den prog ann 35 (.code (.exit id) :: K) s = exitV prog ann 35 (exitTo id K) s := den_exitV hf id K s
theorem call_eq (v0 v1 v2 : AV) (m : Mem) (h : closedL [v0, v1, v2] = true) : denC prog ann 35 [v0, v1, v2] m = (den prog ann 35 [.code b] ⟨[(0, v0), (1, v1), (2, v2)], 45, Mem.empty⟩).bind fun r => some (r.1, m) := (denC_pure hf (b := b) (by kernel_rfl) (by kernel_rfl) (by kernel_rfl) h m).trans (by kernel_rfl)
theorem pure_eq : (ann 35).pure = true := by kernel_rfl
attribute [simp] b_eq r0_eq r1_eq r2_eq k0_eq l0_eq r3_eq i0_eq i0t_eq i0e_eq k1_eq r5_eq r4_eq r6_eq ret_eq nil_eq inBlock_eq exit_eq pure_eq
end
end l07_word
end Go.Proofs.Ythnpflkpjimkfaa

/-
  BODIES OF FUNCTIONS OF THE PROGRAM AS SMALL OPERATIONS (written by gen.py; checked by the kernel against the program). Conditions: none.
-/
namespace Go.Proofs.Ythnpflkpjimkfaa
open Go.AM
open Go.Proofs.Try (prog)
set_option maxRecDepth 100000
set_option linter.all false
end Go.Proofs.Ythnpflkpjimkfaa

/-
  WORDS OUT OF NUMBERS; THE ORDER OF WORDS: what the laws' functions return. Conditions: none.
-/
namespace Go.Proofs.Ythnpflkpjimkfaa
open Go.AM
open Go.Proofs.Try (prog)
set_option linter.all false
set_option maxRecDepth 100000
set_option maxHeartbeats 8000000
def wdL (k : Nat) (l : List Nat) : List UInt8 := l.map fun b => UInt8.ofNat (97 + b % k)
theorem wdL_ok {k : Nat} (k1 : 1 ≤ k) (k3 : k ≤ 3) (l : List Nat) : okW k (wdL k l) := fun c hc => by
  obtain ⟨b, _, rfl⟩ := List.mem_map.1 hc
  have := Nat.mod_lt b (show 0 < k by omega)
  rw [ofNat6 (by omega)]
  omega
theorem abc_at {r : Nat} (h : r < 3) : sliceStr (.str [97, 98, 99]) (some (.int .i64 (r : Nat))) (some (.int .i64 ((r : Int) + 1))) = some (.str (ltr r)) := by
  rcases (by omega : r = 0 ∨ r = 1 ∨ r = 2) with rfl | rfl | rfl
  · simp [sliceStr, bnds, bnd, ltr]; done
  · simp [sliceStr, bnds, bnd, ltr]; done
  · simp [sliceStr, bnds, bnd, ltr]; done
theorem word_loop35 {lv nv gv : AV} {l : List Nat} (hb : IsBy lv l) (hlb : ∀ x ∈ l, x < 256) {most k : Nat} (k1 : 1 ≤ k) (k3 : k ≤ 3) (hm : most ≤ 1000) : ∀ (c i : Nat) (m : Mem), i + c = min l.length most →
    l07_word.L0 lv (.int .i64 most) (.str (wdL k (l.take i))) (.int .i64 k) (.int .i64 i) m [.code l07_word.r6, .code .ret] = some (.str (wdL k (l.take most)), Mem.empty) := by
  intro c
  induction c with
  | zero =>
    intro i m h1
    have e : i = min l.length most := by omega
    have e2 : l.take i = l.take most := by
      rw [e]
      by_cases q : l.length ≤ most
      · rw [Nat.min_eq_left q, List.take_of_length_le (Nat.le_refl _), List.take_of_length_le q]
      · rw [Nat.min_eq_right (by omega)]
    rw [e2, l07_word.L0_eq]
    by_cases q : i < l.length
    · have q2 : ¬ i < most := by omega
      simp [hb.len, q, q2]
      done
    · simp [hb.len, q]
      done
  | succ c ih =>
    intro i m h1
    have hi : i < l.length := by omega
    have hi2 : i < most := by omega
    have hwi : IntKind.wrap .i64 ((i : Int) + 1) = (i : Int) + 1 := wrap_id (by omega) (by omega)
    have hx := List.getElem_mem hi
    have hlt := hlb _ hx
    have hd : ((bytN l).drop i).head? = some (.int .u8 (l[i] : Nat)) := by rw [List.head?_drop]; simp [bytN, hi]
    have ht : wdL k (l.take i) ++ ltr (l[i] % k) = wdL k (l.take (i + 1)) := by rw [List.take_add_one, List.getElem?_eq_getElem hi, wdL, wdL, List.map_append]; rfl
    have hlen : (wdL k (l.take i)).length = i := by simp [wdL, List.length_take]; omega
    have hll : (ltr (l[i] % k)).length = 1 := rfl
    generalize l[i] = b at *
    have hw : IntKind.wrap .i64 ((b : Nat) : Int) = (b : Nat) := wrap_id (by omega) (by omega)
    have hmod : ((b : Nat) : Int).tmod ((k : Nat) : Int) = ((b % k : Nat) : Int) := by rw [Int.tmod_eq_emod_of_nonneg (by omega)]; simp
    have hr := Nat.mod_lt b (show 0 < k by omega)
    have hab := abc_at (r := b % k) (by omega)
    have hk0 : ¬ k = 0 := by omega
    have hwr : IntKind.wrap .i64 (((b % k : Nat) : Int) + 1) = ((b % k : Nat) : Int) + 1 := wrap_id (by omega) (by omega)
    have st := fun m => ih (i + 1) m (by omega)
    rw [← ht] at st
    simp only [Int.natCast_add, Int.cast_ofNat_Int] at st
    generalize b % k = r at *
    rw [l07_word.L0_eq]
    simp [hb.len, hi, hi2, hb.idx hi, hd, hw, hmod, hk0, hwr, hab, hlen, hll, show i + 1 ≤ 4611686018427387904 by omega, hwi, st, -List.head?_drop, -Int.natCast_emod]
    done
theorem word35_spec {lv nv gv : AV} {l : List Nat} (hb : IsBy lv l) (hlb : ∀ x ∈ l, x < 256) {ps : List AV} {rows : List (List Int)} {good : List Bool} {k : Nat} (hn : IsRows nv ps rows) (hg : IsB gv good) (v : VB rows good k) {most : Nat} (hm : most ≤ 1000) (m : Mem) :
    denC prog ann 35 [.agg [nv, gv], lv, .int .i64 (most : Nat)] m = some (.str (wdL k (l.take most)), m) := by
  have k1 := v.k1
  have k3 := v.k3
  have lp := fun m => word_loop35 hb hlb (nv := nv) (gv := gv) k1 k3 hm (min l.length most) 0 m (by omega)
  simp only [Int.ofNat_zero, Int.cast_ofNat_Int] at lp
  have e0 : wdL k (l.take 0) = [] := by simp [wdL]
  rw [e0] at lp
  have i0 := hn.idx (i := 0) v.n1 .i64
  have j0 := hn.head (i := 0) v.n1
  have iw0 := hn.row 0 v.n1
  have hk := v.k0
  simp only [Int.ofNat_zero, Int.cast_ofNat_Int, List.drop_zero] at i0 j0
  rw [l07_word.call_eq _ _ _ _ (by simp [hn.closed, hg.closed, hb.closed])]
  simp [hn.one, hg.one, hn.closed, hg.closed, i0, j0, iw0.len, hk, lp]
  done
theorem rk_lenle {x y : List UInt8} (h : rk x ≤ rk y) : x.length ≤ y.length := by
  by_cases q : y.length < x.length
  · have := rk_len _ y x rfl q; omega
  · omega
end Go.Proofs.Ythnpflkpjimkfaa

/-
  POWERS: the first word with a period is short: plain law. Conditions: none.
-/
namespace Go.Proofs.Ythnpflkpjimkfaa
open Go.AM
open Go.Proofs.Try (prog)
set_option linter.all false
set_option maxRecDepth 100000
set_option maxHeartbeats 8000000
theorem least_nat {P : Nat → Prop} : ∀ (n : Nat), P n → ∃ m, P m ∧ ∀ q, q < m → ¬ P q := by
  intro n
  induction n using Nat.strongRecOn with
  | ind n ih =>
    intro h
    by_cases q : ∃ m, m < n ∧ P m
    · obtain ⟨m, hm, hp⟩ := q
      exact ih m hm hp
    · exact ⟨n, h, fun m hm hp => q ⟨m, hm, hp⟩⟩
section
variable {rows : List (List Int)} {good : List Bool} {k : Nat} {S : SM}
theorem okW_take {w : List UInt8} (h : okW k w) (l : Nat) : okW k (w.take l) := fun c hc => h c (List.mem_of_mem_take hc)
theorem okW_drop {w : List UInt8} (h : okW k w) (l : Nat) : okW k (w.drop l) := fun c hc => h c (List.mem_of_mem_drop hc)
theorem grp_short (v : VB rows good k) (W : MW rows k S) (Ls : Least rows k S) {g : Nat} (hg : g < S.1.length) (hf : ∀ j, j < g → ¬ 1 < perd rows S j) (h : 1 < perd rows S g) : (wrd S g).length ≤ 144 := by
  have n6 := v.n6
  have ow := wrd_ok W hg
  have hmin : ∀ (u : List UInt8) (s j : Nat), okW k u → Cyc rows u s j → (wrd S g).length ≤ u.length := by
    intro u s j ou hc
    have h1 := cyc_per v W ou hc
    have hn := W.lt n6 v.k3 ou
    have hge : g ≤ numM rows S u := by
      by_cases q : numM rows S u < g
      · exact absurd h1 (hf _ q)
      · omega
    have h2 : rk (wrd S g) ≤ rk (wrd S (numM rows S u)) := by
      by_cases e : g = numM rows S u
      · rw [← e]; exact Nat.le_refl _
      · exact Nat.le_of_lt (Ls.inc _ _ (by omega) hn)
    exact rk_lenle (Nat.le_trans h2 (Ls.le u ou))
  obtain ⟨s, j0, hc0⟩ := per_cyc v W hg h
  generalize wrd S g = w at *
  obtain ⟨p, ⟨p1, hp⟩, hpm⟩ := least_nat (P := fun j => 1 ≤ j ∧ gi rows w j s = s) j0 ⟨hc0.ps, hc0.bk⟩
  have hs := hc0.lt
  have hcper : ∀ i, gi rows w (i + p) s = gi rows w i s := fun i => by rw [Nat.add_comm, gi_add, hp]
  have hcinj : ∀ i j, i < j → j < p → gi rows w i s ≠ gi rows w j s := by
    intro i j hij hj e
    have h1 : gi rows w (i + (p - j)) s = s := by
      rw [gi_add, e, ← gi_add, show j + (p - j) = p by omega, hp]
    exact hpm (i + (p - j)) (by omega) ⟨by omega, h1⟩
  have p6 : p ≤ 6 := by
    have := rep_few (f := fun i => gi rows w i s) (N := rows.length) (fun t => gi_lt v ow hs t) hcinj
    omega
  have hcinj2 : ∀ i j, i < p → j < p → gi rows w i s = gi rows w j s → i = j := by
    intro i j hi hj e
    rcases Nat.lt_trichotomy i j with c | c | c
    · exact absurd e (hcinj i j c hj)
    · exact c
    · exact absurd e.symm (hcinj j i c hi)
  have htd : ∀ l x, goL rows (w.drop l) (goL rows (w.take l) x) = goL rows w x := fun l x => by rw [← goL_app, List.take_append_drop]
  have hinj : ∀ l i j, i < p → j < p → goL rows (w.take l) (gi rows w i s) = goL rows (w.take l) (gi rows w j s) → i = j := by
    intro l i j hi hj e
    have h1 := congrArg (goL rows (w.drop l)) e
    rw [htd, htd] at h1
    have h2 : gi rows w (i + 1) s = gi rows w (j + 1) s := h1
    have h3 : gi rows w (i + 1 + (p - 1)) s = gi rows w (j + 1 + (p - 1)) s := by rw [gi_add w s (i + 1), gi_add w s (j + 1), h2]
    rw [show i + 1 + (p - 1) = i + p by omega, show j + 1 + (p - 1) = j + p by omega, hcper, hcper] at h3
    exact hcinj2 i j hi hj h3
  refine rings (b := fun l i => goL rows (w.take l) (gi rows w i s)) p1 p6 (fun l i => Nat.lt_of_lt_of_le (goL_lt6 v (okW_take ow l) (gi_lt v ow hs i)) n6) (fun l i => by rw [hcper]) (fun l _ i j hi hj e => hinj l i j hi hj e) ?_
  intro l l' r hll hl' hrel
  have hbper : ∀ i m, goL rows (w.take l) (gi rows w (i + p * m) s) = goL rows (w.take l) (gi rows w i s) := by
    intro i m
    induction m with
    | zero => rfl
    | succ m ih => rw [Nat.mul_succ, ← Nat.add_assoc, hcper, ih]
  have htk : w.take l' = w.take l ++ (w.drop l).take (l' - l) := by
    rw [← List.take_append_drop l (w.take l'), List.take_take, Nat.min_eq_left (by omega), List.drop_take]
  have hv : ∀ x, goL rows ((w.drop l).take (l' - l)) (goL rows (w.take l) x) = goL rows (w.take l') x := fun x => by rw [htk, goL_app]
  have ov : okW k ((w.drop l).take (l' - l)) := okW_take (okW_drop ow l) _
  by_cases q : goL rows (w.take l) (gi rows w r s) = goL rows (w.take l) (gi rows w 0 s)
  · -- the segment between does nothing to the ring
    have hr0 : r % p = 0 := by
      have h1 := hbper (r % p) (r / p)
      rw [Nat.mod_add_div] at h1
      exact hinj l _ _ (Nat.mod_lt _ (by omega)) (by omega) (h1.symm.trans q)
    have hrr : ∀ i, goL rows (w.take l) (gi rows w (i + r) s) = goL rows (w.take l) (gi rows w i s) := fun i => by
      have h1 := hbper i (r / p)
      have h2 := Nat.mod_add_div r p
      rw [hr0, Nat.zero_add] at h2
      rw [h2] at h1
      exact h1
    have hw' : ∀ i, goL rows (w.take l ++ w.drop l') (gi rows w i s) = gi rows w (i + 1) s := fun i => by
      rw [goL_app, ← hrr i, ← hrel i, htd]; rfl
    have hg' : ∀ t, gi rows (w.take l ++ w.drop l') t s = gi rows w t s := by
      intro t
      induction t with
      | zero => rfl
      | succ t ih => rw [gi, ih, hw']
    have := hmin (w.take l ++ w.drop l') s p (okW_app (okW_take ow l) (okW_drop ow l')) ⟨hs, by
      have := hw' 0
      intro e
      have e2 : gi rows w 1 s = s := by
        have e3 : goL rows (w.take l ++ w.drop l') (gi rows w 0 s) = s := e
        rw [this] at e3; exact e3
      exact hc0.ne e2, p1, by rw [hg', hp]⟩
    simp at this
    omega
  · have hgv : ∀ t, gi rows ((w.drop l).take (l' - l)) t (goL rows (w.take l) (gi rows w 0 s)) = goL rows (w.take l) (gi rows w (r * t) s) := by
      intro t
      induction t with
      | zero => rfl
      | succ t ih =>
        show goL rows ((w.drop l).take (l' - l)) (gi rows ((w.drop l).take (l' - l)) t (goL rows (w.take l) (gi rows w 0 s))) = _
        rw [ih, hv, hrel, Nat.mul_succ]
    have := hmin ((w.drop l).take (l' - l)) (goL rows (w.take l) (gi rows w 0 s)) p ov ⟨goL_lt6 v (okW_take ow l) hs, by
      rw [hv, hrel 0, Nat.zero_add]; exact q, p1, by
      rw [hgv, Nat.mul_comm]
      have := hbper 0 r
      rw [Nat.zero_add] at this
      exact this⟩
    simp at this
    omega
end
end Go.Proofs.Ythnpflkpjimkfaa

/-
  BODIES OF FUNCTIONS OF THE PROGRAM AS SMALL OPERATIONS (written by gen.py; checked by the kernel against the program). Conditions: none.
-/
namespace Go.Proofs.Ythnpflkpjimkfaa
open Go.AM
open Go.Proofs.Try (prog)
set_option maxRecDepth 100000
set_option linter.all false
namespace l07_BrandPowers
noncomputable section
variable (K : List Item) (s : St)
def b : Code := (Try.f10.body).getD .skip
theorem hf : prog.funcs[10]? = some Try.f10 := by kernel_rfl
def r0 := findReg b 0
def r1 := findReg b 1
def r2 := findReg b 2
def r3 := findReg b 3
def r4 := findReg b 4
def i0 := findCond b 0
def i0t := thenOf i0
def i0e := elseOf i0
def r5 := findReg b 5
def r6 := findReg b 6
def i1 := findCond b 1
def i1t := thenOf i1
def i1e := elseOf i1
def r7 := findReg b 7
def r8 := findReg b 8
def r9 := findReg b 9
def k0 := findBlk b 0
def l0 := loopOf k0
def L0 (x5 x6 x8 x9 x10 x11 x12 x13 x14 : AV) (m : Mem) (K : List Item) : Option Res := den prog ann 10 (.code l0 :: .inLoop l0 :: .inBlock 0 :: K) ⟨[(5, x5), (6, x6), (8, x8), (9, x9), (10, x10), (11, x11), (12, x12), (13, x13), (14, x14)], 177, m⟩
def r10 := findReg b 10
def i2 := findCond b 2
def i2t := thenOf i2
def i2e := elseOf i2
def k1 := findBlk b 1
def r12 := findReg b 12
def r13 := findReg b 13
def i3 := findCond b 3
def i3t := thenOf i3
def i3e := elseOf i3
def r14 := findReg b 14
def r15 := findReg b 15
def r16 := findReg b 16
def i4 := findCond b 4
def i4t := thenOf i4
def i4e := elseOf i4
def r17 := findReg b 17
def r18 := findReg b 18
def k2 := findBlk b 2
def l2 := loopOf k2
def L2 (x5 x6 x8 x9 x10 x11 x12 x13 x14 x17 : AV) (m : Mem) (K : List Item) : Option Res := den prog ann 10 (.code l2 :: .inLoop l2 :: .inBlock 2 :: K) ⟨[(5, x5), (6, x6), (8, x8), (9, x9), (10, x10), (11, x11), (12, x12), (13, x13), (14, x14), (17, x17)], 177, m⟩
def r19 := findReg b 19
def i5 := findCond b 5
def i5t := thenOf i5
def i5e := elseOf i5
def k3 := findBlk b 3
def r21 := findReg b 21
def r20 := findReg b 20
def r11 := findReg b 11
def r22 := findReg b 22
def i6 := findCond b 6
def i6t := thenOf i6
def i6e := elseOf i6
def r23 := findReg b 23
def r24 := findReg b 24
def i7 := findCond b 7
def i7t := thenOf i7
def i7e := elseOf i7
def r25 := findReg b 25
def r26 := findReg b 26
def r27 := findReg b 27
def k4 := findBlk b 4
def l4 := loopOf k4
def L4 (x5 x8 x9 x18 x19 : AV) (m : Mem) (K : List Item) : Option Res := den prog ann 10 (.code l4 :: .inLoop l4 :: .inBlock 4 :: K) ⟨[(5, x5), (8, x8), (9, x9), (18, x18), (19, x19)], 177, m⟩
def r28 := findReg b 28
def i8 := findCond b 8
def i8t := thenOf i8
def i8e := elseOf i8
def k5 := findBlk b 5
def r30 := findReg b 30
def r31 := findReg b 31
def i9 := findCond b 9
def i9t := thenOf i9
def i9e := elseOf i9
def r32 := findReg b 32
def r33 := findReg b 33
def r34 := findReg b 34
def i10 := findCond b 10
def i10t := thenOf i10
def i10e := elseOf i10
def r35 := findReg b 35
def r29 := findReg b 29
def r36 := findReg b 36
def r37 := findReg b 37
def k6 := findBlk b 6
def l6 := loopOf k6
def L6 (x5 x8 x9 x18 x22 x23 : AV) (m : Mem) (K : List Item) : Option Res := den prog ann 10 (.code l6 :: .inLoop l6 :: .inBlock 6 :: K) ⟨[(5, x5), (8, x8), (9, x9), (18, x18), (22, x22), (23, x23)], 177, m⟩
def r38 := findReg b 38
def i11 := findCond b 11
def i11t := thenOf i11
def i11e := elseOf i11
def k7 := findBlk b 7
def r40 := findReg b 40
def r41 := findReg b 41
def i12 := findCond b 12
def i12t := thenOf i12
def i12e := elseOf i12
def r42 := findReg b 42
def r43 := findReg b 43
def r44 := findReg b 44
def i13 := findCond b 13
def i13t := thenOf i13
def i13e := elseOf i13
def r45 := findReg b 45
def r39 := findReg b 39
def r46 := findReg b 46
theorem b_eq : den prog ann 10 (.code b :: K) s = den prog ann 10 (.code r0 :: .code r1 :: .code r2 :: .code r3 :: .code r4 :: .code i0 :: .code r6 :: .code i1 :: .code r8 :: .code r9 :: .code k0 :: .code r22 :: .code i6 :: .code r24 :: .code i7 :: .code r26 :: .code r27 :: .code k4 :: .code r36 :: .code r37 :: .code k6 :: .code r46 :: .code .ret :: K) s := den_flat hf (l := [r0, r1, r2, r3, r4, i0, r6, i1, r8, r9, k0, r22, i6, r24, i7, r26, r27, k4, r36, r37, k6, r46, .ret]) (by kernel_rfl) K s
theorem r0_eq : den prog ann 10 (.code r0 :: K) s = mreg prog ann 10 none [] none [] [qA 2 frozenPtr 0,qF 4 fun s => some (.bool false)] K s := (den_reg hf _ K s).trans (by kernel_rfl)
theorem r1_eq : den prog ann 10 (.code r1 :: K) s = mreg prog ann 10 none [] none [5] [qA 26 (loadF true 4) 2,⟨some 27, none, .c 0 (fun s => (.fn 22 [] [])) fun s => [(s.get 26)]⟩,⟨some 5, none, .w false none fun s => newPtr s.m [.nils, .nils]⟩,⟨none, none, .w false none fun s => stA true 2 s.m (s.get 5) (s.get 27)⟩] K s := (den_reg hf _ K s).trans (by kernel_rfl)
theorem r2_eq : den prog ann 10 (.code r2 :: K) s = mreg prog ann 10 none [] none [] [qA 29 (loadF true 2) 5,⟨some 30, none, .c 2 (fun s => (.fn 40 [] [])) fun s => [(s.get 29)]⟩,qC 28 30,qF 31 fun s => extA (s.get 28) 0,qF 32 fun s => extA (s.get 28) 1,qC 6 31,qC 7 32] K s := (den_reg hf _ K s).trans (by kernel_rfl)
theorem r3_eq : den prog ann 10 (.code r3 :: K) s = mreg prog ann 10 none [] none [] [qA 34 (loadF true 2) 5,⟨some 35, none, .c 0 (fun s => (.fn 44 [] [])) fun s => [(s.get 34)]⟩,qC 33 35,qF 36 fun s => extA (s.get 33) 0,qF 37 fun s => extA (s.get 33) 1,qF 38 fun s => extA (s.get 33) 2,qC 8 36,qC 9 37,qC 10 38] K s := (den_reg hf _ K s).trans (by kernel_rfl)
theorem r4_eq : den prog ann 10 (.code r4 :: K) s = mreg prog ann 10 none [] none [] [qC 39 7,qF 40 fun s => binA prog .eql 27 (s.get 39) (.int .i64 7)] K s := (den_reg hf _ K s).trans (by kernel_rfl)
theorem i0_eq : den prog ann 10 (.code i0 :: K) s = ifV prog ann 10 40 i0t i0e K s (s.get 40) := den_if hf (by kernel_rfl) K s
theorem i0t_eq : den prog ann 10 (.code i0t :: K) s = den prog ann 10 (.code r5 :: .code .ret :: K) s := den_flat hf (l := [r5, .ret]) (by kernel_rfl) K s
theorem r5_eq : den prog ann 10 (.code r5 :: K) s = mreg prog ann 10 none [] none [] [qC 41 10,qC 42 7,qB 43 (binA prog .eql 27) 41 42,qC 44 43,⟨some 45, some (44, true), .c 0 (fun s => (.fn 21 [] [])) fun s => []⟩,qF 46 fun s => pickA (s.get 44) (s.get 45) (.bool false),qC 4 46] K s := (den_reg hf _ K s).trans (by kernel_rfl)
theorem i0e_eq : den prog ann 10 (.code i0e :: K) s = den prog ann 10 (K) s := den_flat hf (l := []) (by kernel_rfl) K s
theorem r6_eq : den prog ann 10 (.code r6 :: K) s = mreg prog ann 10 none [] none [] [qC 47 7,qF 48 fun s => binA prog .neq 27 (s.get 47) (.int .i64 0),qC 49 48,⟨some 50, some (49, false), .v fun s => some (s.get 10)⟩,⟨some 51, some (49, false), .v fun s => binA prog .neq 27 (s.get 50) (.int .i64 0)⟩,⟨some 52, some (49, false), .v fun s => some (s.get 51)⟩,⟨some 53, some (52, true), .v fun s => some (s.get 10)⟩,⟨some 54, some (52, true), .v fun s => binA prog .neq 27 (s.get 53) (.int .i64 5)⟩,⟨some 55, some (49, false), .v fun s => pickA (s.get 52) (s.get 54) (.bool false)⟩,qF 56 fun s => pickA (s.get 49) (.bool true) (s.get 55),qC 57 56,⟨some 58, some (57, false), .v fun s => some (s.get 6)⟩,⟨some 59, some (57, false), .v fun s => lenSl (s.get 58)⟩,⟨some 60, some (57, false), .v fun s => binA prog .eql 3 (s.get 59) (.int .i64 0)⟩,qF 61 fun s => pickA (s.get 57) (.bool true) (s.get 60),qC 62 61,⟨some 63, some (62, false), .v fun s => some (s.get 6)⟩,⟨some 64, some (62, false), .v fun s => idxSl 1 (s.get 63) (.int .i64 0)⟩,⟨some 65, some (62, false), .v fun s => loadF false 1 (s.get 64)⟩,⟨some 66, some (62, false), .v fun s => binA prog .neq 9 (s.get 65) (.str [])⟩,qF 67 fun s => pickA (s.get 62) (.bool true) (s.get 66),qC 68 67,⟨some 69, some (68, false), .c 0 (fun s => (.fn 21 [] [])) fun s => []⟩,⟨some 70, some (68, false), .v fun s => unA .not (s.get 69)⟩,qF 71 fun s => pickA (s.get 68) (.bool true) (s.get 70)] K s := (den_reg hf _ K s).trans (by kernel_rfl)
theorem i1_eq : den prog ann 10 (.code i1 :: K) s = ifV prog ann 10 71 i1t i1e K s (s.get 71) := den_if hf (by kernel_rfl) K s
theorem i1t_eq : den prog ann 10 (.code i1t :: K) s = den prog ann 10 (.code r7 :: .code .ret :: K) s := den_flat hf (l := [r7, .ret]) (by kernel_rfl) K s
theorem r7_eq : den prog ann 10 (.code r7 :: K) s = mreg prog ann 10 none [] none [] [qF 4 fun s => some (.bool false)] K s := (den_reg hf _ K s).trans (by kernel_rfl)
theorem i1e_eq : den prog ann 10 (.code i1e :: K) s = den prog ann 10 (K) s := den_flat hf (l := []) (by kernel_rfl) K s
theorem r8_eq : den prog ann 10 (.code r8 :: K) s = mreg prog ann 10 none [] none [] [qA 72 (loadF true 2) 5,qC 73 1,⟨some 74, none, .c 0 (fun s => (.fn 35 [] [])) fun s => [(s.get 72), (s.get 73), (.int .i64 8)]⟩,qC 11 74,qF 12 fun s => some (.str []),qF 13 fun s => some (.bool false)] K s := (den_reg hf _ K s).trans (by kernel_rfl)
theorem r9_eq : den prog ann 10 (.code r9 :: K) s = mreg prog ann 10 none [] none [] [qF 14 fun s => some (.int .i64 0)] K s := (den_reg hf _ K s).trans (by kernel_rfl)
theorem k0_eq (K : List Item) (t : List (Nat × AV)) (m : Mem) : den prog ann 10 (.code k0 :: K) ⟨t, 177, m⟩ = L0 (get t 5) (get t 6) (get t 8) (get t 9) (get t 10) (get t 11) (get t 12) (get t 13) (get t 14) m K := den_loop_enter hf (b := l0) (id := 10) (l := [5, 6, 8, 9, 10, 11, 12, 13, 14]) (by kernel_rfl) (by kernel_rfl) (by kernel_rfl) K _
theorem l0_eq (K : List Item) (t : List (Nat × AV)) (m : Mem) : den prog ann 10 (.inLoop l0 :: .inBlock 0 :: K) ⟨t, 177, m⟩ = L0 (get t 5) (get t 6) (get t 8) (get t 9) (get t 10) (get t 11) (get t 12) (get t 13) (get t 14) m K := den_loop_again hf (id := 10) (l := [5, 6, 8, 9, 10, 11, 12, 13, 14]) (by kernel_rfl) (by kernel_rfl) (.inBlock 0 :: K) _
theorem L0_eq (x5 x6 x8 x9 x10 x11 x12 x13 x14 : AV) (m : Mem) (K : List Item) : L0 x5 x6 x8 x9 x10 x11 x12 x13 x14 m K = den prog ann 10 (.code r10 :: .code i2 :: .code k1 :: .code r11 :: .inLoop l0 :: .inBlock 0 :: K) ⟨[(5, x5), (6, x6), (8, x8), (9, x9), (10, x10), (11, x11), (12, x12), (13, x13), (14, x14)], 177, m⟩ := den_flat hf (l := [r10, i2, k1, r11]) (by kernel_rfl) _ _
theorem r10_eq : den prog ann 10 (.code r10 :: K) s = mreg prog ann 10 (some [5, 6, 8, 9, 10, 11, 12, 13, 14]) [] none [] [qC 75 14,qF 76 fun s => binA prog .lss 3 (s.get 75) (.int .i64 401),qC 77 76,⟨some 78, some (77, true), .v fun s => some (s.get 13)⟩,⟨some 79, some (77, true), .v fun s => unA .not (s.get 78)⟩,qF 80 fun s => pickA (s.get 77) (s.get 79) (.bool false)] K s := (den_reg hf _ K s).trans (by kernel_rfl)
theorem i2_eq : den prog ann 10 (.code i2 :: K) s = ifV prog ann 10 80 i2t i2e K s (s.get 80) := den_if hf (by kernel_rfl) K s
theorem i2t_eq : den prog ann 10 (.code i2t :: K) s = den prog ann 10 (K) s := den_flat hf (l := []) (by kernel_rfl) K s
theorem i2e_eq : den prog ann 10 (.code i2e :: K) s = den prog ann 10 (.code (.exit 0) :: K) s := den_flat hf (l := [(.exit 0)]) (by kernel_rfl) K s
theorem k1_eq : den prog ann 10 (.code k1 :: K) s = den prog ann 10 (.code r12 :: .code r13 :: .code i3 :: .code r15 :: .code r16 :: .code i4 :: .code r18 :: .code k2 :: .inBlock 1 :: K) s := den_blk hf (b := blkOf k1) (l := [r12, r13, i3, r15, r16, i4, r18, k2]) (by kernel_rfl) (by kernel_rfl) K s
theorem r12_eq : den prog ann 10 (.code r12 :: K) s = mreg prog ann 10 none [] none [] [qA 84 (loadF true 2) 5,qC 85 12,qC 86 11,qB 87 (binA prog .add 9) 85 86,⟨some 88, none, .c 0 (fun s => (.fn 37 [] [])) fun s => [(s.get 84), (s.get 87)]⟩,qC 83 88,qF 89 fun s => extA (s.get 83) 0,qF 90 fun s => extA (s.get 83) 1,qC 15 89,qC 16 90] K s := (den_reg hf _ K s).trans (by kernel_rfl)
theorem r13_eq : den prog ann 10 (.code r13 :: K) s = mreg prog ann 10 none [] none [] [qC 91 16,qF 92 fun s => binA prog .neq 27 (s.get 91) (.int .i64 0)] K s := (den_reg hf _ K s).trans (by kernel_rfl)
theorem i3_eq : den prog ann 10 (.code i3 :: K) s = ifV prog ann 10 92 i3t i3e K s (s.get 92) := den_if hf (by kernel_rfl) K s
theorem i3t_eq : den prog ann 10 (.code i3t :: K) s = den prog ann 10 (.code r14 :: .code .ret :: K) s := den_flat hf (l := [r14, .ret]) (by kernel_rfl) K s
theorem r14_eq : den prog ann 10 (.code r14 :: K) s = mreg prog ann 10 none [] none [] [qF 4 fun s => some (.bool false)] K s := (den_reg hf _ K s).trans (by kernel_rfl)
theorem i3e_eq : den prog ann 10 (.code i3e :: K) s = den prog ann 10 (K) s := den_flat hf (l := []) (by kernel_rfl) K s
theorem r15_eq : den prog ann 10 (.code r15 :: K) s = mreg prog ann 10 none [] none [] [qC 93 15,qC 12 93] K s := (den_reg hf _ K s).trans (by kernel_rfl)
theorem r16_eq : den prog ann 10 (.code r16 :: K) s = mreg prog ann 10 none [] none [] [qC 94 12,qA 95 lenStr 94,qF 96 fun s => binA prog .gtr 3 (s.get 95) (.int .i64 150)] K s := (den_reg hf _ K s).trans (by kernel_rfl)
theorem i4_eq : den prog ann 10 (.code i4 :: K) s = ifV prog ann 10 96 i4t i4e K s (s.get 96) := den_if hf (by kernel_rfl) K s
theorem i4t_eq : den prog ann 10 (.code i4t :: K) s = den prog ann 10 (.code r17 :: .code .ret :: K) s := den_flat hf (l := [r17, .ret]) (by kernel_rfl) K s
theorem r17_eq : den prog ann 10 (.code r17 :: K) s = mreg prog ann 10 none [] none [] [qF 4 fun s => some (.bool true)] K s := (den_reg hf _ K s).trans (by kernel_rfl)
theorem i4e_eq : den prog ann 10 (.code i4e :: K) s = den prog ann 10 (K) s := den_flat hf (l := []) (by kernel_rfl) K s
theorem r18_eq : den prog ann 10 (.code r18 :: K) s = mreg prog ann 10 none [] none [] [qF 17 fun s => some (.int .i64 0)] K s := (den_reg hf _ K s).trans (by kernel_rfl)
theorem k2_eq (K : List Item) (t : List (Nat × AV)) (m : Mem) : den prog ann 10 (.code k2 :: K) ⟨t, 177, m⟩ = L2 (get t 5) (get t 6) (get t 8) (get t 9) (get t 10) (get t 11) (get t 12) (get t 13) (get t 14) (get t 17) m K := den_loop_enter hf (b := l2) (id := 19) (l := [5, 6, 8, 9, 10, 11, 12, 13, 14, 17]) (by kernel_rfl) (by kernel_rfl) (by kernel_rfl) K _
theorem l2_eq (K : List Item) (t : List (Nat × AV)) (m : Mem) : den prog ann 10 (.inLoop l2 :: .inBlock 2 :: K) ⟨t, 177, m⟩ = L2 (get t 5) (get t 6) (get t 8) (get t 9) (get t 10) (get t 11) (get t 12) (get t 13) (get t 14) (get t 17) m K := den_loop_again hf (id := 19) (l := [5, 6, 8, 9, 10, 11, 12, 13, 14, 17]) (by kernel_rfl) (by kernel_rfl) (.inBlock 2 :: K) _
theorem L2_eq (x5 x6 x8 x9 x10 x11 x12 x13 x14 x17 : AV) (m : Mem) (K : List Item) : L2 x5 x6 x8 x9 x10 x11 x12 x13 x14 x17 m K = den prog ann 10 (.code r19 :: .code i5 :: .code k3 :: .code r20 :: .inLoop l2 :: .inBlock 2 :: K) ⟨[(5, x5), (6, x6), (8, x8), (9, x9), (10, x10), (11, x11), (12, x12), (13, x13), (14, x14), (17, x17)], 177, m⟩ := den_flat hf (l := [r19, i5, k3, r20]) (by kernel_rfl) _ _
theorem r19_eq : den prog ann 10 (.code r19 :: K) s = mreg prog ann 10 (some [5, 6, 8, 9, 10, 11, 12, 13, 14, 17]) [] none [] [qC 97 17,qC 98 6,qA 99 lenSl 98,qB 100 (binA prog .lss 3) 97 99] K s := (den_reg hf _ K s).trans (by kernel_rfl)
theorem i5_eq : den prog ann 10 (.code i5 :: K) s = ifV prog ann 10 100 i5t i5e K s (s.get 100) := den_if hf (by kernel_rfl) K s
theorem i5t_eq : den prog ann 10 (.code i5t :: K) s = den prog ann 10 (K) s := den_flat hf (l := []) (by kernel_rfl) K s
theorem i5e_eq : den prog ann 10 (.code i5e :: K) s = den prog ann 10 (.code (.exit 2) :: K) s := den_flat hf (l := [(.exit 2)]) (by kernel_rfl) K s
theorem k3_eq : den prog ann 10 (.code k3 :: K) s = den prog ann 10 (.code r21 :: .inBlock 3 :: K) s := den_blk hf (b := blkOf k3) (l := [r21]) (by kernel_rfl) (by kernel_rfl) K s
theorem r21_eq : den prog ann 10 (.code r21 :: K) s = mreg prog ann 10 none [] none [] [qC 103 13,qC 104 103,⟨some 105, some (104, false), .v fun s => some (s.get 6)⟩,⟨some 106, some (104, false), .v fun s => some (s.get 17)⟩,⟨some 107, some (104, false), .v fun s => idxSl 1 (s.get 105) (s.get 106)⟩,⟨some 108, some (104, false), .v fun s => loadF false 1 (s.get 107)⟩,⟨some 109, some (104, false), .v fun s => some (s.get 12)⟩,⟨some 110, some (104, false), .v fun s => binA prog .eql 9 (s.get 108) (s.get 109)⟩,qF 111 fun s => pickA (s.get 104) (.bool true) (s.get 110),qC 13 111] K s := (den_reg hf _ K s).trans (by kernel_rfl)
theorem r20_eq : den prog ann 10 (.code r20 :: K) s = mreg prog ann 10 (some [5, 6, 8, 9, 10, 11, 12, 13, 14, 17]) [] none [] [qC 101 17,qF 102 fun s => binA prog .add 3 (s.get 101) (.int .i64 1),qC 17 102] K s := (den_reg hf _ K s).trans (by kernel_rfl)
theorem r11_eq : den prog ann 10 (.code r11 :: K) s = mreg prog ann 10 (some [5, 6, 8, 9, 10, 11, 12, 13, 14]) [] none [] [qC 81 14,qF 82 fun s => binA prog .add 3 (s.get 81) (.int .i64 1),qC 14 82] K s := (den_reg hf _ K s).trans (by kernel_rfl)
theorem r22_eq : den prog ann 10 (.code r22 :: K) s = mreg prog ann 10 (some [5, 8, 9, 10, 13]) [] none [] [qC 112 13,qA 113 (unA .not) 112] K s := (den_reg hf _ K s).trans (by kernel_rfl)
theorem i6_eq : den prog ann 10 (.code i6 :: K) s = ifV prog ann 10 113 i6t i6e K s (s.get 113) := den_if hf (by kernel_rfl) K s
theorem i6t_eq : den prog ann 10 (.code i6t :: K) s = den prog ann 10 (.code r23 :: .code .ret :: K) s := den_flat hf (l := [r23, .ret]) (by kernel_rfl) K s
theorem r23_eq : den prog ann 10 (.code r23 :: K) s = mreg prog ann 10 none [] none [] [qF 4 fun s => some (.bool false)] K s := (den_reg hf _ K s).trans (by kernel_rfl)
theorem i6e_eq : den prog ann 10 (.code i6e :: K) s = den prog ann 10 (K) s := den_flat hf (l := []) (by kernel_rfl) K s
theorem r24_eq : den prog ann 10 (.code r24 :: K) s = mreg prog ann 10 none [] none [] [qC 114 10,qF 115 fun s => binA prog .eql 27 (s.get 114) (.int .i64 5)] K s := (den_reg hf _ K s).trans (by kernel_rfl)
theorem i7_eq : den prog ann 10 (.code i7 :: K) s = ifV prog ann 10 115 i7t i7e K s (s.get 115) := den_if hf (by kernel_rfl) K s
theorem i7t_eq : den prog ann 10 (.code i7t :: K) s = den prog ann 10 (.code r25 :: .code .ret :: K) s := den_flat hf (l := [r25, .ret]) (by kernel_rfl) K s
theorem r25_eq : den prog ann 10 (.code r25 :: K) s = mreg prog ann 10 none [] none [] [qC 116 8,qF 117 fun s => binA prog .eql 9 (s.get 116) (.str []),qC 118 117,⟨some 119, some (118, true), .v fun s => some (s.get 9)⟩,⟨some 120, some (118, true), .v fun s => binA prog .eql 3 (s.get 119) (.int .i64 0)⟩,qF 121 fun s => pickA (s.get 118) (s.get 120) (.bool false),qC 4 121] K s := (den_reg hf _ K s).trans (by kernel_rfl)
theorem i7e_eq : den prog ann 10 (.code i7e :: K) s = den prog ann 10 (K) s := den_flat hf (l := []) (by kernel_rfl) K s
theorem r26_eq : den prog ann 10 (.code r26 :: K) s = mreg prog ann 10 none [] none [] [qF 18 fun s => some (.str [])] K s := (den_reg hf _ K s).trans (by kernel_rfl)
theorem r27_eq : den prog ann 10 (.code r27 :: K) s = mreg prog ann 10 none [] none [] [qF 19 fun s => some (.int .i64 0)] K s := (den_reg hf _ K s).trans (by kernel_rfl)
theorem k4_eq (K : List Item) (t : List (Nat × AV)) (m : Mem) : den prog ann 10 (.code k4 :: K) ⟨t, 177, m⟩ = L4 (get t 5) (get t 8) (get t 9) (get t 18) (get t 19) m K := den_loop_enter hf (b := l4) (id := 28) (l := [5, 8, 9, 18, 19]) (by kernel_rfl) (by kernel_rfl) (by kernel_rfl) K _
theorem l4_eq (K : List Item) (t : List (Nat × AV)) (m : Mem) : den prog ann 10 (.inLoop l4 :: .inBlock 4 :: K) ⟨t, 177, m⟩ = L4 (get t 5) (get t 8) (get t 9) (get t 18) (get t 19) m K := den_loop_again hf (id := 28) (l := [5, 8, 9, 18, 19]) (by kernel_rfl) (by kernel_rfl) (.inBlock 4 :: K) _
theorem L4_eq (x5 x8 x9 x18 x19 : AV) (m : Mem) (K : List Item) : L4 x5 x8 x9 x18 x19 m K = den prog ann 10 (.code r28 :: .code i8 :: .code k5 :: .code r29 :: .inLoop l4 :: .inBlock 4 :: K) ⟨[(5, x5), (8, x8), (9, x9), (18, x18), (19, x19)], 177, m⟩ := den_flat hf (l := [r28, i8, k5, r29]) (by kernel_rfl) _ _
theorem r28_eq : den prog ann 10 (.code r28 :: K) s = mreg prog ann 10 (some [5, 8, 9, 18, 19]) [] none [] [qC 122 19,qF 123 fun s => binA prog .lss 3 (s.get 122) (.int .i64 400)] K s := (den_reg hf _ K s).trans (by kernel_rfl)
theorem i8_eq : den prog ann 10 (.code i8 :: K) s = ifV prog ann 10 123 i8t i8e K s (s.get 123) := den_if hf (by kernel_rfl) K s
theorem i8t_eq : den prog ann 10 (.code i8t :: K) s = den prog ann 10 (K) s := den_flat hf (l := []) (by kernel_rfl) K s
theorem i8e_eq : den prog ann 10 (.code i8e :: K) s = den prog ann 10 (.code (.exit 4) :: K) s := den_flat hf (l := [(.exit 4)]) (by kernel_rfl) K s
theorem k5_eq : den prog ann 10 (.code k5 :: K) s = den prog ann 10 (.code r30 :: .code r31 :: .code i9 :: .code r33 :: .code r34 :: .code i10 :: .inBlock 5 :: K) s := den_blk hf (b := blkOf k5) (l := [r30, r31, i9, r33, r34, i10]) (by kernel_rfl) (by kernel_rfl) K s
theorem r30_eq : den prog ann 10 (.code r30 :: K) s = mreg prog ann 10 none [] none [] [qA 127 (loadF true 2) 5,qC 128 18,qC 129 8,qB 130 (binA prog .add 9) 128 129,⟨some 131, none, .c 0 (fun s => (.fn 37 [] [])) fun s => [(s.get 127), (s.get 130)]⟩,qC 126 131,qF 132 fun s => extA (s.get 126) 0,qF 133 fun s => extA (s.get 126) 1,qC 20 132,qC 21 133] K s := (den_reg hf _ K s).trans (by kernel_rfl)
theorem r31_eq : den prog ann 10 (.code r31 :: K) s = mreg prog ann 10 none [] none [] [qC 134 21,qF 135 fun s => binA prog .neq 27 (s.get 134) (.int .i64 0)] K s := (den_reg hf _ K s).trans (by kernel_rfl)
theorem i9_eq : den prog ann 10 (.code i9 :: K) s = ifV prog ann 10 135 i9t i9e K s (s.get 135) := den_if hf (by kernel_rfl) K s
theorem i9t_eq : den prog ann 10 (.code i9t :: K) s = den prog ann 10 (.code r32 :: .code .ret :: K) s := den_flat hf (l := [r32, .ret]) (by kernel_rfl) K s
theorem r32_eq : den prog ann 10 (.code r32 :: K) s = mreg prog ann 10 none [] none [] [qF 4 fun s => some (.bool false)] K s := (den_reg hf _ K s).trans (by kernel_rfl)
theorem i9e_eq : den prog ann 10 (.code i9e :: K) s = den prog ann 10 (K) s := den_flat hf (l := []) (by kernel_rfl) K s
theorem r33_eq : den prog ann 10 (.code r33 :: K) s = mreg prog ann 10 none [] none [] [qC 136 20,qC 18 136] K s := (den_reg hf _ K s).trans (by kernel_rfl)
theorem r34_eq : den prog ann 10 (.code r34 :: K) s = mreg prog ann 10 none [] none [] [qC 137 18,qA 138 lenStr 137,qC 139 8,qA 140 lenStr 139,qB 141 (binA prog .add 3) 138 140,qF 142 fun s => binA prog .gtr 3 (s.get 141) (.int .i64 200)] K s := (den_reg hf _ K s).trans (by kernel_rfl)
theorem i10_eq : den prog ann 10 (.code i10 :: K) s = ifV prog ann 10 142 i10t i10e K s (s.get 142) := den_if hf (by kernel_rfl) K s
theorem i10t_eq : den prog ann 10 (.code i10t :: K) s = den prog ann 10 (.code r35 :: .code .ret :: K) s := den_flat hf (l := [r35, .ret]) (by kernel_rfl) K s
theorem r35_eq : den prog ann 10 (.code r35 :: K) s = mreg prog ann 10 none [] none [] [qF 4 fun s => some (.bool true)] K s := (den_reg hf _ K s).trans (by kernel_rfl)
theorem i10e_eq : den prog ann 10 (.code i10e :: K) s = den prog ann 10 (K) s := den_flat hf (l := []) (by kernel_rfl) K s
theorem r29_eq : den prog ann 10 (.code r29 :: K) s = mreg prog ann 10 (some [5, 8, 9, 18, 19]) [] none [] [qC 124 19,qF 125 fun s => binA prog .add 3 (s.get 124) (.int .i64 1),qC 19 125] K s := (den_reg hf _ K s).trans (by kernel_rfl)
theorem r36_eq : den prog ann 10 (.code r36 :: K) s = mreg prog ann 10 (some [5, 8, 9, 18]) [] none [] [qC 143 18,qC 22 143] K s := (den_reg hf _ K s).trans (by kernel_rfl)
theorem r37_eq : den prog ann 10 (.code r37 :: K) s = mreg prog ann 10 none [] none [] [qF 23 fun s => some (.int .i64 1)] K s := (den_reg hf _ K s).trans (by kernel_rfl)
theorem k6_eq (K : List Item) (t : List (Nat × AV)) (m : Mem) : den prog ann 10 (.code k6 :: K) ⟨t, 177, m⟩ = L6 (get t 5) (get t 8) (get t 9) (get t 18) (get t 22) (get t 23) m K := den_loop_enter hf (b := l6) (id := 38) (l := [5, 8, 9, 18, 22, 23]) (by kernel_rfl) (by kernel_rfl) (by kernel_rfl) K _
theorem l6_eq (K : List Item) (t : List (Nat × AV)) (m : Mem) : den prog ann 10 (.inLoop l6 :: .inBlock 6 :: K) ⟨t, 177, m⟩ = L6 (get t 5) (get t 8) (get t 9) (get t 18) (get t 22) (get t 23) m K := den_loop_again hf (id := 38) (l := [5, 8, 9, 18, 22, 23]) (by kernel_rfl) (by kernel_rfl) (.inBlock 6 :: K) _
theorem L6_eq (x5 x8 x9 x18 x22 x23 : AV) (m : Mem) (K : List Item) : L6 x5 x8 x9 x18 x22 x23 m K = den prog ann 10 (.code r38 :: .code i11 :: .code k7 :: .code r39 :: .inLoop l6 :: .inBlock 6 :: K) ⟨[(5, x5), (8, x8), (9, x9), (18, x18), (22, x22), (23, x23)], 177, m⟩ := den_flat hf (l := [r38, i11, k7, r39]) (by kernel_rfl) _ _
theorem r38_eq : den prog ann 10 (.code r38 :: K) s = mreg prog ann 10 (some [5, 8, 9, 18, 22, 23]) [] none [] [qC 144 23,qC 145 9,qB 146 (binA prog .leq 3) 144 145] K s := (den_reg hf _ K s).trans (by kernel_rfl)
theorem i11_eq : den prog ann 10 (.code i11 :: K) s = ifV prog ann 10 146 i11t i11e K s (s.get 146) := den_if hf (by kernel_rfl) K s
theorem i11t_eq : den prog ann 10 (.code i11t :: K) s = den prog ann 10 (K) s := den_flat hf (l := []) (by kernel_rfl) K s
theorem i11e_eq : den prog ann 10 (.code i11e :: K) s = den prog ann 10 (.code (.exit 6) :: K) s := den_flat hf (l := [(.exit 6)]) (by kernel_rfl) K s
theorem k7_eq : den prog ann 10 (.code k7 :: K) s = den prog ann 10 (.code r40 :: .code r41 :: .code i12 :: .code r43 :: .code r44 :: .code i13 :: .inBlock 7 :: K) s := den_blk hf (b := blkOf k7) (l := [r40, r41, i12, r43, r44, i13]) (by kernel_rfl) (by kernel_rfl) K s
theorem r40_eq : den prog ann 10 (.code r40 :: K) s = mreg prog ann 10 none [] none [] [qA 150 (loadF true 2) 5,qC 151 18,qC 152 8,qB 153 (binA prog .add 9) 151 152,⟨some 154, none, .c 0 (fun s => (.fn 37 [] [])) fun s => [(s.get 150), (s.get 153)]⟩,qC 149 154,qF 155 fun s => extA (s.get 149) 0,qF 156 fun s => extA (s.get 149) 1,qC 24 155,qC 25 156] K s := (den_reg hf _ K s).trans (by kernel_rfl)
theorem r41_eq : den prog ann 10 (.code r41 :: K) s = mreg prog ann 10 none [] none [] [qC 157 25,qF 158 fun s => binA prog .neq 27 (s.get 157) (.int .i64 0),qC 159 158,⟨some 160, some (159, false), .v fun s => some (s.get 24)⟩,⟨some 161, some (159, false), .v fun s => some (s.get 22)⟩,⟨some 162, some (159, false), .v fun s => binA prog .eql 9 (s.get 160) (s.get 161)⟩,⟨some 163, some (159, false), .v fun s => some (s.get 23)⟩,⟨some 164, some (159, false), .v fun s => some (s.get 9)⟩,⟨some 165, some (159, false), .v fun s => binA prog .eql 3 (s.get 163) (s.get 164)⟩,⟨some 166, some (159, false), .v fun s => binA prog .neq 4 (s.get 162) (s.get 165)⟩,qF 167 fun s => pickA (s.get 159) (.bool true) (s.get 166)] K s := (den_reg hf _ K s).trans (by kernel_rfl)
theorem i12_eq : den prog ann 10 (.code i12 :: K) s = ifV prog ann 10 167 i12t i12e K s (s.get 167) := den_if hf (by kernel_rfl) K s
theorem i12t_eq : den prog ann 10 (.code i12t :: K) s = den prog ann 10 (.code r42 :: .code .ret :: K) s := den_flat hf (l := [r42, .ret]) (by kernel_rfl) K s
theorem r42_eq : den prog ann 10 (.code r42 :: K) s = mreg prog ann 10 none [] none [] [qF 4 fun s => some (.bool false)] K s := (den_reg hf _ K s).trans (by kernel_rfl)
theorem i12e_eq : den prog ann 10 (.code i12e :: K) s = den prog ann 10 (K) s := den_flat hf (l := []) (by kernel_rfl) K s
theorem r43_eq : den prog ann 10 (.code r43 :: K) s = mreg prog ann 10 none [] none [] [qC 168 24,qC 18 168] K s := (den_reg hf _ K s).trans (by kernel_rfl)
theorem r44_eq : den prog ann 10 (.code r44 :: K) s = mreg prog ann 10 none [] none [] [qC 169 18,qA 170 lenStr 169,qC 171 8,qA 172 lenStr 171,qB 173 (binA prog .add 3) 170 172,qF 174 fun s => binA prog .gtr 3 (s.get 173) (.int .i64 200)] K s := (den_reg hf _ K s).trans (by kernel_rfl)
theorem i13_eq : den prog ann 10 (.code i13 :: K) s = ifV prog ann 10 174 i13t i13e K s (s.get 174) := den_if hf (by kernel_rfl) K s
theorem i13t_eq : den prog ann 10 (.code i13t :: K) s = den prog ann 10 (.code r45 :: .code .ret :: K) s := den_flat hf (l := [r45, .ret]) (by kernel_rfl) K s
theorem r45_eq : den prog ann 10 (.code r45 :: K) s = mreg prog ann 10 none [] none [] [qF 4 fun s => some (.bool true)] K s := (den_reg hf _ K s).trans (by kernel_rfl)
theorem i13e_eq : den prog ann 10 (.code i13e :: K) s = den prog ann 10 (K) s := den_flat hf (l := []) (by kernel_rfl) K s
theorem r39_eq : den prog ann 10 (.code r39 :: K) s = mreg prog ann 10 (some [5, 8, 9, 18, 22, 23]) [] none [] [qC 147 23,qF 148 fun s => binA prog .add 3 (s.get 147) (.int .i64 1),qC 23 148] K s := (den_reg hf _ K s).trans (by kernel_rfl)
theorem r46_eq : den prog ann 10 (.code r46 :: K) s = mreg prog ann 10 (some [9]) [] none [] [qC 175 9,qF 176 fun s => binA prog .geq 3 (s.get 175) (.int .i64 2),qC 4 176] K s := (den_reg hf _ K s).trans (by kernel_rfl)
theorem ret_eq : den prog ann 10 (.code .ret :: K) s = finM true [fun s => some (s.get 4)] s := (den_ret hf K s).trans (by kernel_rfl)
theorem nil_eq (s : St) : den prog ann 10 [] s = finM true [fun s => some (s.get 4)] s := (den_nil hf s).trans (by kernel_rfl)
theorem inBlock_eq (id : Nat) (K : List Item) (s : St) : den prog ann 10 (.inBlock id :: K) s = den prog ann 10 K s := den_inBlock hf id K s
theorem exit_eq (id : Nat) (K : List Item) (s : St) : den prog ann 10 (.code (.exit id) :: K) s = exitV prog ann 10 (exitTo id K) s := den_exitV hf id K s
theorem call_eq (v0 v1 : AV) (m : Mem) (h : closedL [v0, v1] = true) : denC prog ann 10 [v0, v1] m = (den prog ann 10 [.code b] ⟨[(0, v0), (1, v1)], 177, Mem.empty⟩).bind fun r => some (r.1, m) := (denC_pure hf (b := b) (by kernel_rfl) (by kernel_rfl) (by kernel_rfl) h m).trans (by kernel_rfl)
theorem pure_eq : (ann 10).pure = true := by kernel_rfl
attribute [simp] b_eq r0_eq r1_eq r2_eq r3_eq r4_eq i0_eq i0t_eq r5_eq i0e_eq r6_eq i1_eq i1t_eq r7_eq i1e_eq r8_eq r9_eq k0_eq l0_eq r10_eq i2_eq i2t_eq i2e_eq k1_eq r12_eq r13_eq i3_eq i3t_eq r14_eq i3e_eq r15_eq r16_eq i4_eq i4t_eq r17_eq i4e_eq r18_eq k2_eq l2_eq r19_eq i5_eq i5t_eq i5e_eq k3_eq r21_eq r20_eq r11_eq r22_eq i6_eq i6t_eq r23_eq i6e_eq r24_eq i7_eq i7t_eq r25_eq i7e_eq r26_eq r27_eq k4_eq l4_eq r28_eq i8_eq i8t_eq i8e_eq k5_eq r30_eq r31_eq i9_eq i9t_eq r32_eq i9e_eq r33_eq r34_eq i10_eq i10t_eq r35_eq i10e_eq r29_eq r36_eq r37_eq k6_eq l6_eq r38_eq i11_eq i11t_eq i11e_eq k7_eq r40_eq r41_eq i12_eq i12t_eq r42_eq i12e_eq r43_eq r44_eq i13_eq i13t_eq r45_eq i13e_eq r39_eq r46_eq ret_eq nil_eq inBlock_eq exit_eq pure_eq
end
end l07_BrandPowers
end Go.Proofs.Ythnpflkpjimkfaa

/-
  THE LEAST WORD THAT ONLY ONE OF TWO BRANDS ACCEPTS: the specification's search. Conditions: none.
-/
namespace Go.Proofs.Ythnpflkpjimkfaa
open Go.AM
open Go.Proofs.Try (prog)
set_option linter.all false
set_option maxRecDepth 100000
set_option maxHeartbeats 8000000
structure Rd (m : Mem) (x6 x7 : AV) (i6 i7 i8 : Nat) (S : List PN × List (List UInt8)) : Prop where
  p : Gl m x6 i6 2 S.1.length (flP S.1)
  w : Gl m x7 i7 1 S.2.length (S.2.map .str)
  k : Mp m i8 (S.1.map encP) ((S.1.map fun _ => true).map .bool)
  d1 : i6 ≠ i7
  d2 : i6 ≠ i8
  d3 : i7 ≠ i8
end Go.Proofs.Ythnpflkpjimkfaa

/-
  BRANDS THAT ACCEPT THE SAME WORDS have the same smallest form: plain law. Conditions: none.
-/
namespace Go.Proofs.Ythnpflkpjimkfaa
open Go.AM
open Go.Proofs.Try (prog)
set_option linter.all false
set_option maxRecDepth 100000
set_option maxHeartbeats 8000000
def Xl (rows rows' : List (List Int)) (good good' : List Bool) (k s s' : Nat) : Prop := ∀ w : List Nat, (∀ a ∈ w, a < k) → bnth good (gow rows s w) = bnth good' (gow rows' s' w)
section
variable {rows rows' : List (List Int)} {good good' : List Bool} {k : Nat}
theorem Xl.step {s s' a : Nat} (h : Xl rows rows' good good' k s s') (ha : a < k) : Xl rows rows' good good' k (nx rows s a) (nx rows' s' a) := fun w hw => h (a :: w) (by
  intro b hb
  rcases List.mem_cons.1 hb with rfl | hb
  · exact ha
  · exact hw b hb)
theorem Xl.al {s s' t t' : Nat} (h : Xl rows rows' good good' k s s') (g : Xl rows rows' good good' k t t') : alB rows good k s t = alB rows' good' k s' t' := by
  rw [Bool.eq_iff_iff, alB_iff, alB_iff]
  constructor
  · intro q w hw; rw [← h w hw, ← g w hw]; exact q w hw
  · intro q w hw; rw [h w hw, g w hw]; exact q w hw
structure Al2 (X : Nat → Nat → Prop) (P P' : List Nat) : Prop where
  l : P.length = P'.length
  e : ∀ i (h : i < P.length) (h' : i < P'.length), X P[i] P'[i]
theorem Al2.app {X : Nat → Nat → Prop} {P P' : List Nat} (h : Al2 X P P') {s s' : Nat} (hs : X s s') : Al2 X (P ++ [s]) (P' ++ [s']) := by
  refine ⟨by simp [h.l], fun i h1 h2 => ?_⟩
  by_cases q : i < P.length
  · rw [List.getElem_append_left q, List.getElem_append_left (by rw [← h.l]; exact q)]
    exact h.e i q _
  · have e1 : i = P.length := by simp at h1; omega
    subst e1
    rw [List.getElem_append_right (by omega), List.getElem_append_right (by rw [← h.l]; omega)]
    simp [hs]
abbrev XX (rows rows' : List (List Int)) (good good' : List Bool) (k : Nat) := Al2 (Xl rows rows' good good' k)
theorem XX.any {P P' : List Nat} (h : XX rows rows' good good' k P P') {s s' : Nat} (hs : Xl rows rows' good good' k s s') : P.any (alB rows good k s) = P'.any (alB rows' good' k s') := by
  rw [Bool.eq_iff_iff, List.any_eq_true, List.any_eq_true]
  constructor
  · rintro ⟨x, hx, e⟩
    obtain ⟨i, hi, rfl⟩ := List.getElem_of_mem hx
    have hi' : i < P'.length := by rw [← h.l]; exact hi
    exact ⟨P'[i], List.getElem_mem hi', by rw [← hs.al (h.e i hi hi')]; exact e⟩
  · rintro ⟨x, hx, e⟩
    obtain ⟨i, hi, rfl⟩ := List.getElem_of_mem hx
    have hi' : i < P.length := by rw [h.l]; exact hi
    exact ⟨P[i], List.getElem_mem hi', by rw [hs.al (h.e i hi' hi)]; exact e⟩
theorem idx2 : ∀ (P P' : List Nat) (p p' : Nat → Bool), P.length = P'.length → (∀ i (h : i < P.length) (h' : i < P'.length), p P[i] = p' P'[i]) → P.findIdx p = P'.findIdx p'
  | [], [], _, _, _, _ => rfl
  | [], _ :: _, _, _, h, _ => by simp at h
  | _ :: _, [], _, _, h, _ => by simp at h
  | a :: P, b :: P', p, p', h, e => by
    have h0 := e 0 (by simp) (by simp)
    simp only [List.getElem_cons_zero] at h0
    rw [List.findIdx_cons, List.findIdx_cons, h0, idx2 P P' p p' (by simpa using h) (fun i h1 h2 => by
      have := e (i + 1) (by simpa using h1) (by simpa using h2)
      simpa using this)]
theorem XX.idx {P P' : List Nat} (h : XX rows rows' good good' k P P') {s s' : Nat} (hs : Xl rows rows' good good' k s s') : idxA (alB rows good k) P s = idxA (alB rows' good' k) P' s' :=
  idx2 P P' _ _ h.l fun i h1 h2 => hs.al (h.e i h1 h2)
theorem gow_goL (rows : List (List Int)) : ∀ (w : List UInt8) (s : Nat), gow rows s (w.map fun c => c.toNat - 97) = goL rows w s
  | [], s => rfl
  | c :: w, s => by rw [goL, ← gow_goL rows w]; rfl
theorem Xl.goL {s s' : Nat} (h : Xl rows rows' good good' k s s') {w : List UInt8} (hw : okW k w) : bnth good (goL rows w s) = bnth good' (Go.Proofs.Ythnpflkpjimkfaa.goL rows' w s') := by
  have := h (w.map fun c => c.toNat - 97) (fun a ha => by
    obtain ⟨c, hc, rfl⟩ := List.mem_map.1 ha
    exact (hw c hc).2)
  rw [gow_goL, gow_goL] at this
  exact this
end
end Go.Proofs.Ythnpflkpjimkfaa

/-
  BrandAccepts: the law answers true. Conditions: none.
-/
namespace Go.Proofs.Ythnpflkpjimkfaa
open Go.AM
open Go.Proofs.Try (prog)
set_option linter.all false
set_option maxRecDepth 100000
set_option maxHeartbeats 8000000
theorem IsRows.cells {v : AV} {ps : List AV} {rows : List (List Int)} (h : IsRows v ps rows) : v.cells = [v] := by rcases h.val with ⟨rfl, _⟩ | ⟨_, rfl⟩ <;> rfl
end Go.Proofs.Ythnpflkpjimkfaa

/-
  BrandMonoids: the law answers true. Conditions: none.
-/
namespace Go.Proofs.Ythnpflkpjimkfaa
open Go.AM
open Go.Proofs.Try (prog)
set_option linter.all false
set_option maxRecDepth 100000
set_option maxHeartbeats 8000000
end Go.Proofs.Ythnpflkpjimkfaa

/-
  BODIES OF FUNCTIONS OF THE PROGRAM AS SMALL OPERATIONS (written by gen.py; checked by the kernel against the program). Conditions: none.
-/
namespace Go.Proofs.Ythnpflkpjimkfaa
open Go.AM
open Go.Proofs.Try (prog)
set_option maxRecDepth 100000
set_option linter.all false
end Go.Proofs.Ythnpflkpjimkfaa

/-
  THE LEAST WORD THAT LEADS ALL STATES TO ONE: the program's search. Conditions: none.
-/
namespace Go.Proofs.Ythnpflkpjimkfaa
open Go.AM
open Go.Proofs.Try (prog)
set_option linter.all false
set_option maxRecDepth 100000
set_option maxHeartbeats 8000000
end Go.Proofs.Ythnpflkpjimkfaa

/-
  THE LEAST WORD THAT LEADS ALL STATES TO ONE: the specification's search. Conditions: none.
-/
namespace Go.Proofs.Ythnpflkpjimkfaa
open Go.AM
open Go.Proofs.Try (prog)
set_option linter.all false
set_option maxRecDepth 100000
set_option maxHeartbeats 8000000
structure Rs (m : Mem) (x6 x7 : AV) (i6 i7 i8 : Nat) (S : List Nat × List (List UInt8)) : Prop where
  p : Gl m x6 i6 1 S.1.length (S.1.map encS)
  w : Gl m x7 i7 1 S.2.length (S.2.map .str)
  k : Mp m i8 (S.1.map encS) ((S.1.map fun _ => true).map .bool)
  d1 : i6 ≠ i7
  d2 : i6 ≠ i8
  d3 : i7 ≠ i8
end Go.Proofs.Ythnpflkpjimkfaa

/-
  BrandSmallest: the law answers true. Conditions: none.
-/
namespace Go.Proofs.Ythnpflkpjimkfaa
open Go.AM
open Go.Proofs.Try (prog)
set_option linter.all false
set_option maxRecDepth 100000
set_option maxHeartbeats 8000000
end Go.Proofs.Ythnpflkpjimkfaa

/-
  BrandProduct: the law answers true. Conditions: none.
-/
namespace Go.Proofs.Ythnpflkpjimkfaa
open Go.AM
open Go.Proofs.Try (prog)
set_option linter.all false
set_option maxRecDepth 100000
set_option maxHeartbeats 8000000
theorem wordE_ok {k : Nat} {s : List UInt8} (h : s.length ≤ 200) (g : okW k s) : wordE k s = 0 := by
  unfold wordE
  rw [if_neg (by omega), if_pos ((letF_iff k s).2 g)]
end Go.Proofs.Ythnpflkpjimkfaa

/-
  BrandGroups: the law answers true. Conditions: none.
-/
namespace Go.Proofs.Ythnpflkpjimkfaa
open Go.AM
open Go.Proofs.Try (prog)
set_option linter.all false
set_option maxRecDepth 100000
set_option maxHeartbeats 8000000
noncomputable def grpO (rows : List (List Int)) (S : SM) (c i : Nat) : List UInt8 × Nat := match (List.range' i c).find? (fun i => decide (1 < perd rows S i)) with
  | some i => (wrd S i, perd rows S i)
  | none => ([], 0)
theorem grpV_O (rows : List (List Int)) (S : SM) (c i : Nat) : grpV rows S c i = .tup [.str (grpO rows S c i).1, .int .i64 ((grpO rows S c i).2 : Nat), .int .i64 (if 0 < (grpO rows S c i).2 then 0 else 5)] := by
  rw [grpV, grpO]
  cases e : (List.range' i c).find? (fun i => decide (1 < perd rows S i)) with
  | none => rfl
  | some j =>
    have := List.find?_some e
    simp at this
    simp [show 0 < perd rows S j by omega]
end Go.Proofs.Ythnpflkpjimkfaa

/-
  BrandPowers: the law answers true. Conditions: none.
-/
namespace Go.Proofs.Ythnpflkpjimkfaa
open Go.AM
open Go.Proofs.Try (prog)
set_option linter.all false
set_option maxRecDepth 100000
set_option maxHeartbeats 8000000
noncomputable def KW0 : List Item := [.code l07_BrandPowers.r22, .code l07_BrandPowers.i6, .code l07_BrandPowers.r24, .code l07_BrandPowers.i7, .code l07_BrandPowers.r26, .code l07_BrandPowers.r27, .code l07_BrandPowers.k4, .code l07_BrandPowers.r36, .code l07_BrandPowers.r37, .code l07_BrandPowers.k6, .code l07_BrandPowers.r46, .code .ret]
noncomputable def KW2 : List Item := .inBlock 1 :: .code l07_BrandPowers.r11 :: .inLoop l07_BrandPowers.l0 :: .inBlock 0 :: KW0
noncomputable def KW4 : List Item := [.code l07_BrandPowers.r36, .code l07_BrandPowers.r37, .code l07_BrandPowers.k6, .code l07_BrandPowers.r46, .code .ret]
noncomputable def KW6 : List Item := [.code l07_BrandPowers.r46, .code .ret]
theorem pp_in {iv x5 x8 x9 x10 x11 x14 : AV} {ids : List (List UInt8)} (hI : IsS iv ids) (hl : ids.length ≤ 1000) {w : List UInt8} {r : Option Res} : ∀ (c i : Nat) (a : Bool) (m : Mem), i + c = ids.length →
    (∀ m, l07_BrandPowers.L2 x5 iv x8 x9 x10 x11 (.str w) (.bool (a || decide (w ∈ ids.drop i))) x14 (.int .i64 ids.length) m KW2 = r) →
    l07_BrandPowers.L2 x5 iv x8 x9 x10 x11 (.str w) (.bool a) x14 (.int .i64 i) m KW2 = r := by
  intro c
  induction c with
  | zero =>
    intro i a m h1 hk
    have e : i = ids.length := by omega
    subst e
    have := hk m
    rw [List.drop_length] at this
    simpa using this
  | succ c ih =>
    intro i a m h1 hk
    have hi : i < ids.length := by omega
    have hwi : IntKind.wrap .i64 ((i : Int) + 1) = (i : Int) + 1 := wrap_id (by omega) (by omega)
    have hd := str_head hi
    have hix := hI.idx hi .i64
    rw [List.drop_eq_getElem_cons hi] at hk
    generalize ids[i] = y at *
    cases a with
    | true =>
      have st := fun m => ih (i + 1) true m (by omega) (fun m => by have := hk m; simpa using this)
      simp only [Int.natCast_add, Int.cast_ofNat_Int] at st
      rw [l07_BrandPowers.L2_eq]
      simp [hI.len, hi, hwi, st]
      done
    | false =>
      by_cases q : y = w
      · have st := fun m => ih (i + 1) true m (by omega) (fun m => by have := hk m; simpa [q] using this)
        simp only [Int.natCast_add, Int.cast_ofNat_Int] at st
        rw [l07_BrandPowers.L2_eq]
        simp [hI.len, hi, hix, hd, q, hwi, st, -List.head?_drop, -List.map_drop]
        done
      · have q' : ¬ w = y := fun e => q e.symm
        have st := fun m => ih (i + 1) false m (by omega) (fun m => by have := hk m; simpa [q'] using this)
        simp only [Int.natCast_add, Int.cast_ofNat_Int] at st
        rw [l07_BrandPowers.L2_eq]
        simp [hI.len, hi, hix, hd, q, hwi, st, -List.head?_drop, -List.map_drop]
        done
def pwW (rows : List (List Int)) (S : SM) (i : Nat) : Nat → List UInt8
  | 0 => []
  | t + 1 => wrd S (pw rows S i t)
theorem pp_out {nv gv iv x8 x9 x10 : AV} (o1 : nv.one = true) (o2 : gv.one = true) (c1 : nv.closed = true) (c2 : gv.closed = true) {rows : List (List Int)} {good : List Bool} {k : Nat} (v : VB rows good k) {S : SM} (W : MW rows k S) {ids : List (List UInt8)} (hI : IsS iv ids) (hl : ids.length ≤ 1000) {u : List UInt8} (ou : okW k u) (lu : u.length ≤ 8)
    (hel : ∀ s, okW k s → s.length ≤ 200 → ∀ m, denC prog ann 37 [.agg [nv, gv], .str s] m = some (.tup [.str (wrd S (numM rows S s)), .int .i64 0], m))
    (hk : ∀ m (t : Nat) w, t ≤ 401 → l07_BrandPowers.L0 (.fptr [nv, gv]) iv x8 x9 x10 (.str u) (.str w) (.bool true) (.int .i64 t) m KW0 = some (.bool true, Mem.empty))
    {T : Nat} (hT : T < 400) (hid : wrd S (pw rows S (numM rows S u) T) ∈ ids) :
    ∀ (f t : Nat) (m : Mem), t + f = T → (pwW rows S (numM rows S u) t).length ≤ 150 → l07_BrandPowers.L0 (.fptr [nv, gv]) iv x8 x9 x10 (.str u) (.str (pwW rows S (numM rows S u) t)) (.bool false) (.int .i64 t) m KW0 = some (.bool true, Mem.empty) := by
  have hi := W.lt v.n6 v.k3 ou
  have hnum : ∀ t, okW k (pwW rows S (numM rows S u) t) ∧ numM rows S (pwW rows S (numM rows S u) t ++ u) = pw rows S (numM rows S u) t := by
    intro t
    cases t with
    | zero => exact ⟨okW_nil k, rfl⟩
    | succ t =>
      have h1 := pw_lt v W hi t
      exact ⟨wrd_ok W h1, (pr_numr v W ou h1).symm⟩
  have step : ∀ (t : Nat) (m : Mem), t ≤ T → (pwW rows S (numM rows S u) t).length ≤ 150 →
      (wrd S (pw rows S (numM rows S u) t) ∉ ids → (wrd S (pw rows S (numM rows S u) t)).length ≤ 150 → ∀ m, l07_BrandPowers.L0 (.fptr [nv, gv]) iv x8 x9 x10 (.str u) (.str (wrd S (pw rows S (numM rows S u) t))) (.bool false) (.int .i64 ((t : Int) + 1)) m KW0 = some (.bool true, Mem.empty)) →
      l07_BrandPowers.L0 (.fptr [nv, gv]) iv x8 x9 x10 (.str u) (.str (pwW rows S (numM rows S u) t)) (.bool false) (.int .i64 t) m KW0 = some (.bool true, Mem.empty) := by
    intro t m htT hlen hno
    obtain ⟨q1, q2⟩ := hnum t
    have he := hel (pwW rows S (numM rows S u) t ++ u) (okW_app q1 ou) (by simp; omega)
    rw [q2] at he
    have hlu : (pwW rows S (numM rows S u) t).length + u.length ≤ 4611686018427387904 := by omega
    have ht : (t : Int) < 401 := by omega
    have hwt : IntKind.wrap .i64 ((t : Int) + 1) = (t : Int) + 1 := wrap_id (by omega) (by omega)
    have hkt := fun m w => hk m (t + 1) w (by omega)
    simp only [Int.natCast_add, Int.cast_ofNat_Int] at hkt
    generalize wrd S (pw rows S (numM rows S u) t) = nw at *
    generalize pwW rows S (numM rows S u) t = pwt at *
    rw [l07_BrandPowers.L0_eq]
    by_cases q : (150 : Int) < (nw.length : Int)
    · simp [ht, o1, o2, c1, c2, he, hlu, q]
      done
    · have st := fun m => pp_in (x5 := .fptr [nv, gv]) (x8 := x8) (x9 := x9) (x10 := x10) (x11 := .str u) (x14 := .int .i64 t) hI hl (w := nw) (r := some (.bool true, Mem.empty)) ids.length 0 false m (by omega) (fun m => by
        by_cases qi : nw ∈ ids
        · rw [l07_BrandPowers.L2_eq]
          simp [hI.len, qi, KW2, hwt, hkt]
          done
        · have hn := hno qi (by omega)
          rw [l07_BrandPowers.L2_eq]
          simp [hI.len, qi, KW2, hwt, hn]
          done)
      simp only [Int.ofNat_zero, Int.cast_ofNat_Int, KW2] at st
      simp [ht, o1, o2, c1, c2, he, hlu, q, st]
      done
  intro f
  induction f with
  | zero =>
    intro t m h1 hlen
    have e : t = T := by omega
    subst e
    exact step t m (Nat.le_refl _) hlen (fun h => absurd hid h)
  | succ f ih =>
    intro t m h1 hlen
    refine step t m (by omega) hlen (fun _ hl2 m => ?_)
    have := ih (t + 1) m (by omega) hl2
    simp only [Int.natCast_add, Int.cast_ofNat_Int] at this
    exact this
section
variable {nv gv : AV} {rows : List (List Int)} {good : List Bool} {k : Nat} {S : SM}
theorem qq_num (v : VB rows good k) (W : MW rows k S) {g : Nat} (hg : g < S.1.length) : ∀ t, okW k (pwW rows S g t) ∧ numM rows S (pwW rows S g t ++ wrd S g) = pw rows S g t
  | 0 => ⟨okW_nil k, W.self hg⟩
  | t + 1 => ⟨wrd_ok W (pw_lt v W hg t), rfl⟩
theorem qq_a (o1 : nv.one = true) (o2 : gv.one = true) (c1 : nv.closed = true) (c2 : gv.closed = true) (v : VB rows good k) (W : MW rows k S) {g : Nat} (hg : g < S.1.length)
    (hel : ∀ s, okW k s → s.length ≤ 200 → ∀ m, denC prog ann 37 [.agg [nv, gv], .str s] m = some (.tup [.str (wrd S (numM rows S s)), .int .i64 0], m)) {x9 : AV}
    (hk : (pwW rows S g 400).length + (wrd S g).length ≤ 200 → ∀ m, l07_BrandPowers.L4 (.fptr [nv, gv]) (.str (wrd S g)) x9 (.str (pwW rows S g 400)) (.int .i64 400) m KW4 = some (.bool true, Mem.empty)) :
    ∀ (f t : Nat) (m : Mem), t + f = 400 → (pwW rows S g t).length + (wrd S g).length ≤ 200 → l07_BrandPowers.L4 (.fptr [nv, gv]) (.str (wrd S g)) x9 (.str (pwW rows S g t)) (.int .i64 t) m KW4 = some (.bool true, Mem.empty) := by
  intro f
  induction f with
  | zero =>
    intro t m h1 hl
    have e : t = 400 := by omega
    subst e
    exact hk hl m
  | succ f ih =>
    intro t m h1 hl
    obtain ⟨q1, q2⟩ := qq_num v W hg t
    have he := hel (pwW rows S g t ++ wrd S g) (okW_app q1 (wrd_ok W hg)) (by simp; omega)
    rw [q2] at he
    have hll : (pwW rows S g t).length + (wrd S g).length ≤ 4611686018427387904 := by omega
    have ht : (t : Int) < 400 := by omega
    have hwt : IntKind.wrap .i64 ((t : Int) + 1) = (t : Int) + 1 := wrap_id (by omega) (by omega)
    have hlw := (W.wok hg).2.2.1
    have hln := (W.wok (pw_lt v W hg t)).2.2.1
    have st := fun m => ih (t + 1) m (by omega)
    simp only [Int.natCast_add, Int.cast_ofNat_Int, pwW] at st
    generalize wrd S (pw rows S g t) = nw at *
    generalize pwW rows S g t = pwt at *
    generalize wrd S g = w at *
    have hws : IntKind.wrap .i64 ((nw.length : Int) + (w.length : Int)) = (nw.length : Int) + (w.length : Int) := wrap_id (by omega) (by omega)
    rw [l07_BrandPowers.L4_eq]
    by_cases q : (200 : Int) < (nw.length : Int) + (w.length : Int)
    · simp [ht, o1, o2, c1, c2, he, hll, hws, q]
      done
    · have st2 := fun m => st m (by omega)
      simp [ht, o1, o2, c1, c2, he, hll, hws, q, hwt, st2]
      done
theorem qq_b (o1 : nv.one = true) (o2 : gv.one = true) (c1 : nv.closed = true) (c2 : gv.closed = true) (v : VB rows good k) (W : MW rows k S) {g : Nat} (hg : g < S.1.length) (hp1 : 1 < perd rows S g)
    (hel : ∀ s, okW k s → s.length ≤ 200 → ∀ m, denC prog ann 37 [.agg [nv, gv], .str s] m = some (.tup [.str (wrd S (numM rows S s)), .int .i64 0], m)) :
    ∀ (f q : Nat) (m : Mem), q + f = perd rows S g + 1 → 1 ≤ q → (wrd S (pw rows S g (399 + (q - 1)))).length + (wrd S g).length ≤ 200 → l07_BrandPowers.L6 (.fptr [nv, gv]) (.str (wrd S g)) (.int .i64 (perd rows S g : Nat)) (.str (wrd S (pw rows S g (399 + (q - 1))))) (.str (wrd S (pw rows S g 399))) (.int .i64 q) m KW6 = some (.bool true, Mem.empty) := by
  have hle := W.ok.le
  have hp := perd_at v W hg (M := 399) (by omega)
  have hpl : perd rows S g ≤ 400 := by
    have : perd rows S g ≤ S.1.length := rep_few (f := fun t => pw rows S g (399 + t)) (fun t => pw_lt v W hg _) (fun a b ab hb e => by
      have h3 := shf (pw_H rows S g) e (perd rows S g - b)
      have h4 := hp.mn (a + (perd rows S g - b)) (by omega) (by omega)
      rw [show 399 + b + (perd rows S g - b) = 399 + perd rows S g by omega, hp.eq] at h3
      exact h4 (by rw [show 399 + (a + (perd rows S g - b)) = 399 + a + (perd rows S g - b) by omega]; exact h3))
    omega
  intro f
  induction f with
  | zero =>
    intro q m h1 hq hl
    have e : q = perd rows S g + 1 := by omega
    subst e
    have h2 : ¬ ((perd rows S g : Nat) : Int) + 1 ≤ (perd rows S g : Nat) := by omega
    have h3 : (2 : Int) ≤ (perd rows S g : Nat) := by omega
    rw [l07_BrandPowers.L6_eq]
    simp [KW6, h2, h3, -Nat.add_sub_cancel]
    done
  | succ f ih =>
    intro q m h1 hq hl
    have hlt := pw_lt v W hg (399 + (q - 1))
    have he := hel (wrd S (pw rows S g (399 + (q - 1))) ++ wrd S g) (okW_app (wrd_ok W hlt) (wrd_ok W hg)) (by simp; omega)
    have hn : numM rows S (wrd S (pw rows S g (399 + (q - 1))) ++ wrd S g) = pw rows S g (399 + q) := by
      conv => rhs; rw [show 399 + q = 399 + (q - 1) + 1 by omega]
      rfl
    rw [hn] at he
    have hqp : q ≤ perd rows S g := by omega
    have hqp' : ((q : Nat) : Int) ≤ (perd rows S g : Nat) := by omega
    have hwq : IntKind.wrap .i64 ((q : Int) + 1) = (q : Int) + 1 := wrap_id (by omega) (by omega)
    have hsame : decide (wrd S (pw rows S g (399 + q)) = wrd S (pw rows S g 399)) = decide (((q : Nat) : Int) = (perd rows S g : Nat)) := by
      rw [decide_eq_decide]
      constructor
      · intro e
        have e2 : pw rows S g (399 + q) = pw rows S g 399 := by
          rw [← W.self (pw_lt v W hg (399 + q)), e, W.self (pw_lt v W hg 399)]
        by_cases c : q < perd rows S g
        · exact absurd e2 (hp.mn q hq c)
        · omega
      · intro e
        have : q = perd rows S g := by omega
        rw [this, hp.eq]
    have hll : (wrd S (pw rows S g (399 + (q - 1)))).length + (wrd S g).length ≤ 4611686018427387904 := by omega
    have hlw := (W.wok hg).2.2.1
    have hln := (W.wok (pw_lt v W hg (399 + q))).2.2.1
    have st := fun m => ih (q + 1) m (by omega) (by omega)
    simp only [Int.natCast_add, Int.cast_ofNat_Int, Nat.add_sub_cancel] at st
    generalize wrd S (pw rows S g (399 + q)) = nw at *
    generalize wrd S (pw rows S g 399) = was at *
    generalize wrd S (pw rows S g (399 + (q - 1))) = pwt at *
    generalize wrd S g = w at *
    generalize perd rows S g = pe at *
    have hws : IntKind.wrap .i64 ((nw.length : Int) + (w.length : Int)) = (nw.length : Int) + (w.length : Int) := wrap_id (by omega) (by omega)
    rw [l07_BrandPowers.L6_eq]
    by_cases e : nw = was
    · have e2 : ((q : Nat) : Int) = (pe : Nat) := by rw [decide_eq_true e] at hsame; exact of_decide_eq_true hsame.symm
      have e3 : q = pe := by omega
      by_cases c : (200 : Int) < (nw.length : Int) + (w.length : Int)
      · rw [e] at c hws
        simp [hqp, o1, o2, c1, c2, he, hll, e, e3, hws, c]
        done
      · have st2 := fun m => st m (by omega)
        rw [e] at c hws st2
        rw [← e3] at st2
        simp [hqp, o1, o2, c1, c2, he, hll, e, ← e3, hws, c, hwq, st2]
        done
    · have e2 : ¬ ((q : Nat) : Int) = (pe : Nat) := by rw [decide_eq_false e] at hsame; exact of_decide_eq_false hsame.symm
      have e3 : ¬ q = pe := by omega
      by_cases c : (200 : Int) < (nw.length : Int) + (w.length : Int)
      · simp [hqp, o1, o2, c1, c2, he, hll, e, e2, e3, hws, c]
        done
      · have st2 := fun m => st m (by omega)
        simp [hqp, o1, o2, c1, c2, he, hll, e, e2, e3, hws, c, hwq, st2]
        done
end
theorem pow_runs {d : Nat} (a0 a1 : AV) (h0 : DatV prog (d + 4) 37 a0) (h1 : DatV prog (d + 4) 35 a1) : ∃ m', denC prog ann 10 [a0, a1] Mem.empty = some (.bool true, m') := by
  obtain ⟨s0, s1, q, bv, l, rfl, b0, b1, b2, hb, hlb, _⟩ := datV37 h0
  obtain ⟨l1, hb1, hlb1, _⟩ := datV35 h1
  obtain ⟨rows, good, k, nv, gv, ps, hn, hg, v, hp⟩ := plan_spec b0 b1 b2 hb hlb
  have n6 := v.n6
  have k1 := v.k1
  have k3 := v.k3
  have hgl := v.gl
  have hr : ∀ i, i < rows.length → (cth rows i).length ≤ 1000 := fun i hi => by rw [v.rl i hi]; omega
  have vt := v.to
  have vm := VB_M v
  have hu := fun m => word35_spec hb1 hlb1 hn hg v (most := 8) (by omega) m
  have ou := wdL_ok k1 k3 (l1.take 8)
  have lu : (wdL k (l1.take 8)).length ≤ 8 := by simp [wdL]; omega
  generalize wdL k (l1.take 8) = u at *
  have m1 := fun m => idm_spec hn hg (by omega) (by omega) hr m
  have g1 := fun m => groups_spec hn hg (by omega) (by omega) hr m
  rw [vt, if_pos rfl, v.k0] at m1 g1
  refine ⟨Mem.empty, ?_⟩
  rw [l07_BrandPowers.call_eq _ _ _ (by simp [hb.closed, hb1.closed])]
  simp only [Int.cast_ofNat_Int] at hu
  cases e : madeB rows good k with
  | none =>
    rw [e] at m1 g1
    simp [hb.one, hb.closed, hb1.one, hb1.closed, hp, hn.one, hg.one, hn.closed, hg.closed, hn.cells, hg.cells, hu, m1, g1, lives_spec]
    done
  | some S =>
    rw [e] at m1 g1
    simp only [] at m1 g1
    have W := MW_of v e
    have L := least_of vm e
    have wl := W.ok.le
    have wle := W.ok.len
    have hpos := W.pos
    have hel : ∀ s, okW k s → s.length ≤ 200 → ∀ m, denC prog ann 37 [.agg [nv, gv], .str s] m = some (.tup [.str (wrd S (numM (rowsM rows good k) S s)), .int .i64 0], m) := fun s os ls m => by
      have := element_spec hn hg (by omega) (by omega) hr (s := s) (by omega) m
      rw [vt, if_pos rfl, v.k0, wordE_ok ls os, if_pos rfl, e] at this
      exact this
    have nu := W.lt vm.n6 vm.k3 ou
    have hI := strsV_is (idmL (rowsM rows good k) S S.1.length 0)
    have idl : (idmL (rowsM rows good k) S S.1.length 0).length ≤ 1000 := by
      have := List.length_filter_le (fun i => numM (rowsM rows good k) S (wrd S i ++ wrd S i) == i) (List.range' 0 S.1.length)
      simp only [List.length_range'] at this
      rw [idmL, List.length_map]; omega
    have hmem : ∀ j, j < S.1.length → pr (rowsM rows good k) S j j = j → wrd S j ∈ idmL (rowsM rows good k) S S.1.length 0 := fun j hj he => by
      rw [idmL]
      refine List.mem_map.2 ⟨j, List.mem_filter.2 ⟨by rw [List.mem_range'_1]; omega, ?_⟩, rfl⟩
      have : numM (rowsM rows good k) S (wrd S j ++ wrd S j) = j := he
      simp [this]
    have w0 : wrd S 0 = [] := by
      obtain ⟨p, q, _, e2⟩ := W.pre
      rw [wrd, e2]; rfl
    have n0 : numM (rowsM rows good k) S [] = 0 := by
      obtain ⟨p, q, e1, _⟩ := W.pre
      rw [numM, e1]; simp
    have hhead : ∃ r, idmL (rowsM rows good k) S S.1.length 0 = [] :: r := by
      obtain ⟨c, hc⟩ : ∃ c, S.1.length = c + 1 := ⟨S.1.length - 1, by omega⟩
      rw [hc, idmL, List.range'_succ, List.filter_cons, w0, List.append_nil, n0]
      refine ⟨((List.range' 1 c).filter fun i => numM (rowsM rows good k) S (wrd S i ++ wrd S i) == i).map (wrd S), ?_⟩
      simp [w0]
    obtain ⟨T, hT1, hT2⟩ := pw_idem vm W nu
    have hTid := hmem _ (pw_lt vm W nu T) hT2
    generalize idmL (rowsM rows good k) S S.1.length 0 = ids at *
    have hI0 := hI.idx (i := 0) (by obtain ⟨r, hr⟩ := hhead; rw [hr]; simp) .i64
    have hd0 : ((ids.map AV.str).drop 0).head? = some (.str []) := by obtain ⟨r, hr⟩ := hhead; rw [hr]; rfl
    have hlen0 : ¬ (ids.length : Int) = 0 := by obtain ⟨r, hr⟩ := hhead; rw [hr]; simp; omega
    have hlen0' : ¬ ids = [] := by obtain ⟨r, hr⟩ := hhead; rw [hr]; simp
    have hIl := hI.len
    have hIo := hI.one
    have hIc := hI.closed
    generalize strsV ids = iv at *
    simp only [Int.ofNat_zero, Int.cast_ofNat_Int, List.drop_zero] at hI0 hd0
    rw [grpV_O] at g1
    have key : ∀ m, l07_BrandPowers.L0 (.fptr [nv, gv]) iv (.str (grpO (rowsM rows good k) S S.1.length 0).1) (.int .i64 ((grpO (rowsM rows good k) S S.1.length 0).2 : Nat)) (.int .i64 (if 0 < (grpO (rowsM rows good k) S S.1.length 0).2 then 0 else 5)) (.str u) (.str []) (.bool false) (.int .i64 (0 : Nat)) m KW0 = some (.bool true, Mem.empty) := by
      intro m
      refine pp_out hn.one hg.one hn.closed hg.closed vm W hI idl ou lu hel (fun m t w ht => ?_) (T := T) (by omega) hTid T 0 m (by omega) (by simp [pwW])
      rw [grpO]
      cases ef : (List.range' 0 S.1.length).find? (fun i => decide (1 < perd (rowsM rows good k) S i)) with
      | none =>
        simp only []
        rw [l07_BrandPowers.L0_eq]
        by_cases c : (t : Int) < 401
        · simp [c, KW0]
          done
        · simp [c, KW0]
          done
      | some g =>
        simp only []
        have hgm := List.mem_of_find?_eq_some ef
        have hgl' : g < S.1.length := by rw [List.mem_range'_1] at hgm; omega
        have hgp : 1 < perd (rowsM rows good k) S g := by simpa using List.find?_some ef
        have hgf : ∀ j, j < g → ¬ 1 < perd (rowsM rows good k) S j := by
          intro j hj hpj
          obtain ⟨_, i, hi, ei, hbef⟩ := List.find?_eq_some_iff_getElem.1 ef
          have : i = g := by simpa using ei
          subst this
          have := hbef j hj
          simp [hpj] at this
        have hsh := grp_short vm W L hgl' hgf hgp
        have hb6 := fun m h => qq_b hn.one hg.one hn.closed hg.closed vm W hgl' hgp hel (perd (rowsM rows good k) S g) 1 m (by omega) (by omega) h
        simp only [Nat.sub_self, Nat.add_zero, KW6, Int.natCast_one] at hb6
        have ha := fun m => qq_a hn.one hg.one hn.closed hg.closed vm W hgl' hel (x9 := .int .i64 (perd (rowsM rows good k) S g : Nat)) (fun hl m => by
          have hb7 := fun m => hb6 m hl
          rw [l07_BrandPowers.L4_eq]
          simp only [pwW] at hb7 ⊢
          simp [KW4, hb7]
          done) 400 0 m (by omega) (by simp only [pwW, List.length_nil]; omega)
        simp only [pwW, Int.ofNat_zero, Int.cast_ofNat_Int, KW4] at ha
        have hpp : 0 < perd (rowsM rows good k) S g := by omega
        rw [l07_BrandPowers.L0_eq]
        by_cases c : (t : Int) < 401
        · simp [c, KW0, hpp, ha]
          done
        · simp [c, KW0, hpp, ha]
          done
    simp only [Int.ofNat_zero, Int.cast_ofNat_Int, KW0] at key
    generalize grpO (rowsM rows good k) S S.1.length 0 = gp at *
    obtain ⟨gw, gn⟩ := gp
    simp only [] at g1 key
    by_cases qg : 0 < gn
    · rw [if_pos qg] at g1 key
      simp [hb.one, hb.closed, hb1.one, hb1.closed, hp, hn.one, hg.one, hn.closed, hg.closed, hn.cells, hg.cells, hu, m1, g1, hIl, hIo, hIc, hI0, hd0, hlen0, hlen0', lives_spec, key, -List.head?_map]
      done
    · rw [if_neg qg] at g1 key
      simp [hb.one, hb.closed, hb1.one, hb1.closed, hp, hn.one, hg.one, hn.closed, hg.closed, hn.cells, hg.cells, hu, m1, g1, hIl, hIo, hIc, hI0, hd0, hlen0, hlen0', lives_spec, key, -List.head?_map]
      done
end Go.Proofs.Ythnpflkpjimkfaa
