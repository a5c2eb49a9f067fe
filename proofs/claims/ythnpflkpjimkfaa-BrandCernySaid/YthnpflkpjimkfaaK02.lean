/-
  PLANS: the brand that is made. Conditions: none.
-/
import Derived.Test.YthnpflkpjimkfaaK01
import Derived.Test.YthnpflkpjimkfaaK00
import Derived.Test.YthnpflkpjimkfaaKAmH
set_option linter.all false
namespace Go.Proofs.Ythnpflkpjimkfaa
open Go.AM
open Go.Proofs.Try (prog)
set_option linter.all false
set_option maxRecDepth 100000
set_option maxHeartbeats 8000000
theorem IsBy.closed {v : AV} {l : List Nat} (h : IsBy v l) : v.closed = true := by rcases h with ⟨rfl, _⟩ | ⟨_, rfl⟩ <;> rfl
theorem IsBy.one {v : AV} {l : List Nat} (h : IsBy v l) : v.one = true := by rcases h with ⟨rfl, _⟩ | ⟨_, rfl⟩ <;> rfl
theorem IsBy.len {v : AV} {l : List Nat} (h : IsBy v l) : lenSl v = some (.int .i64 l.length) := by rcases h with ⟨rfl, rfl⟩ | ⟨_, rfl⟩ <;> rfl
theorem IsBy.idx {v : AV} {l : List Nat} (h : IsBy v l) {i : Nat} (hi : i < l.length) (k : IntKind) : idxSl 1 v (.int k (i : Int)) = some (.fptr ((bytN l).drop i)) := by
  rcases h with ⟨rfl, rfl⟩ | ⟨_, rfl⟩
  · simp at hi
  · simp [hi]
theorem byt_head {l : List Nat} {i : Nat} (h : i < l.length) : ((bytN l).drop i).head? = some (.int .u8 (l.getD i 0 : Nat)) := by
  rw [List.head?_drop]
  simp [bytN, h, List.getD_eq_getElem?_getD]
def entPl (l : List Nat) (n k q s a : Nat) : Nat := let w := if s * k + a < l.length then l.getD (s * k + a) 0 % n else 0; if 128 ≤ q then max w s else w
theorem entP_lt {l : List Nat} {n k q s a : Nat} (hs : s < n) : entPl l n k q s a < n := by
  unfold entPl
  have h1 : (if s * k + a < l.length then l.getD (s * k + a) 0 % n else 0) < n := by
    split
    · exact Nat.mod_lt _ (by omega)
    · omega
  simp only []
  split
  · omega
  · exact h1
def rowP (l : List Nat) (n k q s c : Nat) : List Int := (List.range c).map fun a => ((entPl l n k q s a : Nat) : Int)
def rowsP (l : List Nat) (n k q c : Nat) : List (List Int) := (List.range c).map fun s => rowP l n k q s k
def goodP (q c : Nat) : List Bool := (List.range c).map fun s => q.testBit s
noncomputable def KP0 : List Item := [.code l07_Plan_made.r18, .code .ret]
noncomputable def KP2 : List Item := .code l07_Plan_made.r17 :: .inBlock 1 :: .code l07_Plan_made.r5 :: .inLoop l07_Plan_made.l0 :: .inBlock 0 :: KP0
theorem pl_in {a0 a1 : Nat} {nv : AV} {l : List Nat} (hb : IsBy nv l) (hlb : ∀ x ∈ l, x < 256) {q n k s : Nat} (hq : q < 256) (hs : s < n) (n6 : n ≤ 6) (k3 : k ≤ 3) {x2 x5 : AV} {R : Nat} {r : Option Res} :
    ∀ (c a : Nat) (h : Nat → Option AObj) (nx0 : Nat), a + c = k → h R = some (.cells (ints (rowP l n k q s a))) → R < nx0 →
    (∀ h' nx', h' R = some (.cells (ints (rowP l n k q s k))) → nx0 ≤ nx' → (∀ y, y ≠ R → h' y = h y) →
      l07_Plan_made.L2 (.fptr [.int .u8 (a0 : Nat), .int .u8 (a1 : Nat), nv, .int .u8 (q : Nat)]) x2 (.int .i64 n) (.int .i64 k) x5 (.int .i64 s) (.sl R 1 0 k k) (.int .i64 k) ⟨h', nx'⟩ KP2 = r) →
    l07_Plan_made.L2 (.fptr [.int .u8 (a0 : Nat), .int .u8 (a1 : Nat), nv, .int .u8 (q : Nat)]) x2 (.int .i64 n) (.int .i64 k) x5 (.int .i64 s) (.sl R 1 0 a a) (.int .i64 a) ⟨h, nx0⟩ KP2 = r := by
  intro c
  induction c with
  | zero =>
    intro a h nx0 h1 h0 hR hk
    have e : a = k := by omega
    subst e
    exact hk h nx0 h0 (Nat.le_refl _) (fun _ _ => rfl)
  | succ c ih =>
    intro a h nx0 h1 h0 hR hk
    have ha : a < k := by omega
    have hwa : IntKind.wrap .i64 ((a : Int) + 1) = (a : Int) + 1 := wrap_id (by omega) (by omega)
    have hsk : s * k ≤ 18 := by
      have := Nat.mul_le_mul (show s ≤ 6 by omega) k3
      omega
    have hw1 : IntKind.wrap .i64 ((s : Int) * k) = ((s * k : Nat) : Int) := by rw [← Int.natCast_mul]; exact wrap_id (by omega) (by omega)
    have hw2 : IntKind.wrap .i64 (((s * k : Nat) : Int) + a) = ((s * k + a : Nat) : Int) := by rw [← Int.natCast_add]; exact wrap_id (by omega) (by omega)
    have hrl : (rowP l n k q s a).length = a := by simp [rowP]
    have hrl1 : (rowP l n k q s (a + 1)).length = a + 1 := by simp [rowP]
    have hrow : ints (rowP l n k q s a) ++ [.int .i64 ((entPl l n k q s a : Nat) : Int)] = ints (rowP l n k q s (a + 1)) := by simp [rowP, List.range_succ, ints]
    have hent := entP_lt (l := l) (k := k) (q := q) (a := a) hs
    have st := ih (a + 1) (upd h R (some (.cells (ints (rowP l n k q s (a + 1)))))) nx0 (by omega) (by simp) hR (fun h' nx' f1 f2 f3 => hk h' nx' f1 f2 (fun y hy => by rw [f3 y hy, updNe hy]))
    simp only [Int.natCast_add, Int.cast_ofNat_Int] at st
    have hemax : ∀ w : Nat, max (w : Int) (s : Int) = ((max w s : Nat) : Int) := fun w => by omega
    have hn0 : ¬ n = 0 := by omega
    by_cases c1 : s * k + a < l.length
    · have hb256 : l.getD (s * k + a) 0 < 256 := by
        have : l.getD (s * k + a) 0 ∈ l := by rw [List.getD_eq_getElem?_getD, List.getElem?_eq_getElem c1]; exact List.getElem_mem c1
        exact hlb _ this
      have hcv := wrapN (x := l.getD (s * k + a) 0) (by omega)
      have hmod : ((l.getD (s * k + a) 0 : Nat) : Int).tmod (n : Int) = ((l.getD (s * k + a) 0 % n : Nat) : Int) := by
        rw [Int.tmod_eq_emod_of_nonneg (by omega)]; simp
      have hhd := byt_head c1
      have hix := hb.idx c1 .i64
      have hlt : ((s * k + a : Nat) : Int) < (l.length : Int) := by omega
      by_cases c2 : 128 ≤ q
      · have he : entPl l n k q s a = max (l.getD (s * k + a) 0 % n) s := by simp only [entPl, if_pos c1, if_pos c2]
        rw [he] at hrow
        have c2' : (128 : Int) ≤ (q : Int) := by omega
        generalize l.getD (s * k + a) 0 = z at *
        generalize s * k + a = at' at *
        generalize s * k = sk at *
        rw [l07_Plan_made.L2_eq]
        simp [ha, hw1, hw2, hb.len, c1, hix, hhd, hcv, hn0, hmod, c2', hemax, h0, hrl, hrow, hrl1, hwa, st, show a ≤ 4611686018427387903 by omega, show (a + 1) * 8 ≤ 70368744177664 by omega, -Int.natCast_add, -Int.natCast_mul, -Int.natCast_emod]
        done
      · have he : entPl l n k q s a = l.getD (s * k + a) 0 % n := by simp only [entPl, if_pos c1, if_neg c2]
        rw [he] at hrow
        have c2' : ¬ (128 : Int) ≤ (q : Int) := by omega
        generalize l.getD (s * k + a) 0 = z at *
        generalize s * k + a = at' at *
        generalize s * k = sk at *
        rw [l07_Plan_made.L2_eq]
        simp [ha, hw1, hw2, hb.len, c1, hix, hhd, hcv, hn0, hmod, c2', h0, hrl, hrow, hrl1, hwa, st, show a ≤ 4611686018427387903 by omega, show (a + 1) * 8 ≤ 70368744177664 by omega, -Int.natCast_add, -Int.natCast_mul, -Int.natCast_emod]
        done
    · have hge : ¬ ((s * k + a : Nat) : Int) < (l.length : Int) := by omega
      by_cases c2 : 128 ≤ q
      · have he : entPl l n k q s a = s := by simp only [entPl, if_neg c1, if_pos c2]; omega
        rw [he] at hrow
        have c2' : (128 : Int) ≤ (q : Int) := by omega
        have hm0 : max (0 : Int) (s : Int) = (s : Int) := by omega
        generalize s * k + a = at' at *
        generalize s * k = sk at *
        rw [l07_Plan_made.L2_eq]
        simp [ha, hw1, hw2, hb.len, c1, c2', hm0, h0, hrl, hrow, hrl1, hwa, st, show a ≤ 4611686018427387903 by omega, show (a + 1) * 8 ≤ 70368744177664 by omega, -Int.natCast_add, -Int.natCast_mul]
        done
      · have he : entPl l n k q s a = 0 := by simp only [entPl, if_neg c1, if_neg c2]
        rw [he] at hrow
        have c2' : ¬ (128 : Int) ≤ (q : Int) := by omega
        simp only [Int.ofNat_zero, Int.cast_ofNat_Int] at hrow
        generalize s * k + a = at' at *
        generalize s * k = sk at *
        rw [l07_Plan_made.L2_eq]
        simp [ha, hw1, hw2, hb.len, c1, c2', h0, hrl, hrow, hrl1, hwa, st, show a ≤ 4611686018427387903 by omega, show (a + 1) * 8 ≤ 70368744177664 by omega, -Int.natCast_add, -Int.natCast_mul]
        done
theorem frz_62_66 (s : St) : frz1 s 3062066 = bif ap (objId (s.get 62)) (objId (s.get 66)) then some s else none := by rw [← ap_eq]; rfl
theorem frz_64 (s : St) : frz1 s 2000064 = bif nsl (s.get 64) then some s else none := rfl
theorem bit8 {q s : Nat} (hq : q < 256) (hs : s < 6) : binA prog .shr 5 (.int .u8 (q : Nat)) (.int .i64 (s : Nat)) = some (.int .u8 ((q / 2 ^ s : Nat) : Int)) := by
  have h0 : ¬ ((s : Int) < 0) := by omega
  have h1 : min (s : Int).toNat (IntKind.bits .u8) = s := by
    show min (s : Int).toNat 8 = s
    omega
  rw [binA_shr, h1]
  have e : (q : Int).fdiv (2 ^ s) = ((q / 2 ^ s : Nat) : Int) := by
    rw [Int.fdiv_eq_ediv_of_nonneg _ (Int.pow_nonneg (by omega))]
    simp
  simp [h0, e]
theorem and8 {x : Nat} (hx : x < 256) : binA prog .and 5 (.int .u8 (x : Nat)) (.int .u8 1) = some (.int .u8 (if x % 2 = 1 then 1 else 0)) := by
  have key : ∀ x : Fin 256, IntKind.wrap .u8 ((BitVec.ofInt (IntKind.bits .u8) ((x.val : Nat) : Int) &&& BitVec.ofInt (IntKind.bits .u8) 1).toNat : Int) = if x.val % 2 = 1 then 1 else 0 := by decide
  rw [binA_and]
  have := key ⟨x, hx⟩
  simp only [] at this
  rw [this]
def pslP (l : List Nat) (n k q c : Nat) : List AV := (List.range c).map fun s => .fsl false k (ints (rowP l n k q s k))
structure Ol (h : Nat → Option AObj) (o z0 : Nat) (a g : AV) (A G : List AV) (lo hi : Nat) : Prop where
  o : h o = some (.cells [a, g])
  z : h z0 = some (.cells [.nils, .nils])
  na : Nl h a A lo hi
  ng : Nl h g G lo hi
  dj : ∀ y, objId a = some y → objId g ≠ some y
theorem pl_out {a0 a1 : Nat} {nv : AV} {l : List Nat} (hb : IsBy nv l) (hlb : ∀ x ∈ l, x < 256) {q n k : Nat} (hq : q < 256) (n1 : 1 ≤ n) (n6 : n ≤ 6) (k1 : 1 ≤ k) (k3 : k ≤ 3) {o lo : Nat} (ho : o < lo) (ho0 : 0 < o) :
    ∀ (c s : Nat) (h : Nat → Option AObj) (nx0 : Nat) (a g : AV), s + c = n → lo ≤ nx0 → Ol h o 0 a g (pslP l n k q s) (bls (goodP q s)) lo nx0 →
    l07_Plan_made.L0 (.fptr [.int .u8 (a0 : Nat), .int .u8 (a1 : Nat), nv, .int .u8 (q : Nat)]) (.ptr 0 0 2) (.int .i64 n) (.int .i64 k) (.ptr o 0 2) (.int .i64 s) ⟨h, nx0⟩ KP0 = some (.agg [.fsl false n (pslP l n k q n), .fsl false n (bls (goodP q n))], Mem.empty) := by
  intro c
  induction c with
  | zero =>
    intro s h nx0 a g h1 hlo O
    have e : s = n := by omega
    subst e
    have na : Nl (upd h 0 (some (AObj.cells [a, g]))) a (pslP l s k q s) lo nx0 := O.na.fr (fun y y1 _ _ => updNe (by omega)) (Nat.le_refl _)
    have ng : Nl (upd h 0 (some (AObj.cells [a, g]))) g (bls (goodP q s)) lo nx0 := O.ng.fr (fun y y1 _ _ => updNe (by omega)) (Nat.le_refl _)
    have hne1 : pslP l s k q s ≠ [] := by intro e; have := congrArg List.length e; simp [pslP] at this; omega
    have hne2 : bls (goodP q s) ≠ [] := by intro e; have := congrArg List.length e; simp [goodP] at this; omega
    have da := na.deep 4 (fun x hx => by
      simp only [pslP, List.mem_map] at hx
      obtain ⟨q, _, rfl⟩ := hx
      rfl) (na.nn hne1)
    have dg := ng.deep 4 (fun x hx => by
      simp only [bls, List.mem_map] at hx
      obtain ⟨q, _, rfl⟩ := hx
      rfl) (ng.nn hne2)
    have l1 : (pslP l s k q s).length = s := by simp [pslP]
    have l2 : (bls (goodP q s)).length = s := by simp [goodP]
    rw [l1] at da
    rw [l2] at dg
    rw [l07_Plan_made.L0_eq]
    simp [O.o, O.z, O.na.one, O.ng.one, KP0]
    simp [da, dg]
    done
  | succ c ih =>
    intro s h nx0 a g h1 hlo O
    have hs : s < n := by omega
    have eR : pslP l n k q s ++ [.fsl false k (ints (rowP l n k q s k))] = pslP l n k q (s + 1) := by simp [pslP, List.range_succ]
    have eG : bls (goodP q s) ++ [.bool (q.testBit s)] = bls (goodP q (s + 1)) := by simp [bls, goodP, List.range_succ]
    have oa := fun y e => (O.na.oid (y := y) e)
    have og := fun y e => (O.ng.oid (y := y) e)
    have st := pl_in (a0 := a0) (a1 := a1) hb hlb (q := q) (n := n) (k := k) (s := s) hq hs n6 k3 (x2 := .ptr 0 0 2) (x5 := .ptr o 0 2) (R := nx0) (r := some (.agg [.fsl false n (pslP l n k q n), .fsl false n (bls (goodP q n))], Mem.empty)) k 0 (upd h nx0 (some (.cells []))) (nx0 + 1) (by omega) (by simp [rowP]) (by omega) (fun h' nx' w1 hnx' hfr0 => by
      have hfr : ∀ y, y ≠ nx0 → h' y = h y := fun y hy => by rw [hfr0 y hy, updNe hy]
      have rl : (rowP l n k q s k).length = k := by simp [rowP]
      have na1 : Nl (upd h' nx0 none) a (pslP l n k q s) lo nx0 := O.na.fr (fun y y1 y2 _ => by rw [updNe (by omega), hfr y (by omega)]) (Nat.le_refl _)
      have lR : (pslP l n k q s).length ≤ 6 := by simp [pslP]; omega
      have lG : (bls (goodP q s)).length ≤ 6 := by simp [goodP]; omega
      obtain ⟨v1, h2, n2, g1, g2, g3, g4, g5, g6, g7⟩ := na1.app (nx := nx' + 4) (by' := 24) (by omega) (by omega) (by simp; omega) (.fsl false k (ints (rowP l n k q s k)))
      have hv1 : ∀ y, objId v1 = some y → lo ≤ y ∧ (y < nx0 ∨ y = nx' + 4) := fun y e => by
        rcases g5 y e with q | q
        · have := oa y q; omega
        · omega
      have ng1 : Nl h2 g (bls (goodP q s)) lo nx0 := O.ng.fr (fun y y1 y2 ye => by
        rw [g6 y (fun e => by
          rcases g5 y e with q | q
          · exact O.dj y q ye
          · omega), updNe (by omega), hfr y (by omega)]) (Nat.le_refl _)
      obtain ⟨v2, h3, n3, u1, u2, u3, u4, u5, u6, u7⟩ := ng1.app (nx := nx' + 14) (by' := 1) (by omega) (by omega) (by simp only [room_dec, Bool.and_eq_true, decide_eq_true_eq]; omega) (.bool (q.testBit s))
      have hv2 : ∀ y, objId v2 = some y → lo ≤ y ∧ (objId g = some y ∨ y = nx' + 14) := fun y e => by
        rcases u5 y e with q | q
        · have := og y q; exact ⟨this.1, .inl q⟩
        · exact ⟨by omega, .inr q⟩
      have low : ∀ y, y < lo → h3 y = h y := fun y hy => by
        rw [u6 y (fun e => by have := hv2 y e; omega), g6 y (fun e => by have := hv1 y e; omega), updNe (by omega), hfr y (by omega)]
      have lo2 : ∀ y, y < lo → h2 y = h y := fun y hy => by
        rw [g6 y (fun e => by have := hv1 y e; omega), updNe (by omega), hfr y (by omega)]
      have ho' : h' o = some (.cells [a, g]) := by rw [hfr o (by omega)]; exact O.o
      have ho2 : h2 o = some (.cells [a, g]) := by rw [lo2 o ho]; exact O.o
      have ho3 : h3 o = some (.cells [a, g]) := by rw [low o ho]; exact O.o
      have a1' := ap_lt (z := o) (fun y e => (oa y e).1) ho
      have hwk : IntKind.wrap .i64 ((s : Int) + 1) = (s : Int) + 1 := wrap_id (by omega) (by omega)
      have fin4 : ∀ y, y < lo → y ≠ o → (upd h3 o (some (.cells [v1, v2]))) y = h y := fun y y1 y2 => by rw [updNe y2, low y y1]
      have st3 := ih (s + 1) (upd h3 o (some (.cells [v1, v2]))) (nx' + 19) v1 v2 (by omega) (by omega)
        ⟨by simp, by rw [fin4 0 (by omega) (by omega)]; exact O.z,
          by
            rw [← eR]
            exact g2.fr (fun y y1 y2 ye => by
              rw [updNe (by omega), u6 y (fun e => by
                rcases (hv2 y e).2 with q | q
                · rcases g5 y ye with w | w
                  · exact O.dj y w q
                  · have := og y q; omega
                · have := (hv1 y ye).2; omega)]) (by omega),
          by
            rw [← eG]
            exact u2.fr (fun y y1 y2 ye => by rw [updNe (by omega)]) (by omega),
          fun y e1 e2 => by
            rcases (hv2 y e2).2 with q | q
            · rcases g5 y e1 with w | w
              · exact O.dj y w q
              · have := og y q; omega
            · have := (hv1 y e1).2; omega⟩
      simp only [Int.natCast_add, Int.cast_ofNat_Int] at st3
      have hoR : (o == nx0) = false := beq_eq_false_iff_ne.2 (by omega)
      have rtk : (ints (rowP l n k q s k)).take k = ints (rowP l n k q s k) := List.take_of_length_le (by simp [rl])
      have b8 := bit8 (q := q) (s := s) hq (by omega)
      have hq2 : q / 2 ^ s < 256 := Nat.lt_of_le_of_lt (Nat.div_le_self _ _) hq
      have n8 := and8 hq2
      have htb : q.testBit s = decide (q / 2 ^ s % 2 = 1) := by rw [Nat.testBit_eq_decide_div_mod_eq]
      generalize q / 2 ^ s = qs at *
      have he8 : binA prog .eql 5 (.int .u8 (if qs % 2 = 1 then 1 else 0)) (.int .u8 1) = some (.bool (q.testBit s)) := by
        rw [htb]
        by_cases w : qs % 2 = 1 <;> simp [w]
      rw [l07_Plan_made.L2_eq]
      simp [KP2, w1, rl, rtk, hoR, ho', ho2, ho3, g1, O.na.one, O.ng.one, b8, n8, he8, u1, (show v1.one = true from g2.one), (show v2.one = true from u2.one), frz_62_66, frz_64, nsl, a1', hwk, st3, frzL, -binA_shr, -binA_and]
      done)
    simp only [Int.ofNat_zero, Int.cast_ofNat_Int, KP2] at st
    rw [l07_Plan_made.L0_eq]
    simp [hs]
    exact st
end Go.Proofs.Ythnpflkpjimkfaa

/-
  PLANS: the brand is valid. Conditions: none.
-/
namespace Go.Proofs.Ythnpflkpjimkfaa
open Go.AM
open Go.Proofs.Try (prog)
set_option linter.all false
set_option maxRecDepth 100000
set_option maxHeartbeats 8000000
theorem VB.to {rows : List (List Int)} {good : List Bool} {k : Nat} (v : VB rows good k) : validB rows good = true := by
  have h0 := v.rl 0 v.n1
  unfold validB
  simp only [Bool.and_eq_true, decide_eq_true_eq, List.all_eq_true]
  refine ⟨⟨v.n1, v.n6⟩, v.gl, ⟨by rw [h0]; exact v.k1, by rw [h0]; exact v.k3⟩, fun r hr => ?_⟩
  obtain ⟨i, hi, rfl⟩ := List.getElem_of_mem hr
  have e : cth rows i = rows[i] := by simp [cth, hi, List.getD_eq_getElem?_getD]
  have hl := v.rl i hi
  rw [e] at hl
  unfold rowOk
  simp only [Bool.and_eq_true, decide_eq_true_eq, List.all_eq_true]
  refine ⟨by rw [hl, h0], fun x hx => ?_⟩
  obtain ⟨j, hj, rfl⟩ := List.getElem_of_mem hx
  have := v.rg i j hi (by omega)
  rw [e] at this
  rw [nth_get hj]
  exact this
theorem VB.k0 {rows : List (List Int)} {good : List Bool} {k : Nat} (v : VB rows good k) : (cth rows 0).length = k := v.rl 0 v.n1
theorem planVB {l : List Nat} {n k q : Nat} (n1 : 1 ≤ n) (n6 : n ≤ 6) (k1 : 1 ≤ k) (k3 : k ≤ 3) : VB (rowsP l n k q n) (goodP q n) k := by
  have row : ∀ i, i < n → cth (rowsP l n k q n) i = rowP l n k q i k := fun i hi => by simp [cth, rowsP, hi, List.getD_eq_getElem?_getD]
  refine ⟨by simp [rowsP]; omega, by simp [rowsP]; omega, by simp [rowsP, goodP], k1, k3, fun i hi => ?_, fun i j hi hj => ?_⟩
  · rw [row i (by simpa [rowsP] using hi)]; simp [rowP]
  · have hi' : i < n := by simpa [rowsP] using hi
    rw [row i hi']
    have e : nth (rowP l n k q i k) j = ((entPl l n k q i j : Nat) : Int) := by simp [nth, rowP, hj, List.getD_eq_getElem?_getD]
    have := entP_lt (l := l) (k := k) (q := q) (a := j) hi'
    rw [e]
    simp only [rowsP, List.length_map, List.length_range]
    omega
theorem planR {l : List Nat} {n k q : Nat} : IsRows (.fsl false n (pslP l n k q n)) (pslP l n k q n) (rowsP l n k q n) := by
  refine ⟨by simp [pslP, rowsP], fun i hi => ?_, .inr ⟨false, by simp [rowsP]⟩⟩
  have hi' : i < n := by simpa [rowsP] using hi
  have e1 : pth (pslP l n k q n) i = .fsl false k (ints (rowP l n k q i k)) := by simp [pth, pslP, hi', List.getD_eq_getElem?_getD]
  have e2 : cth (rowsP l n k q n) i = rowP l n k q i k := by simp [cth, rowsP, hi', List.getD_eq_getElem?_getD]
  rw [e1, e2]
  exact .inr ⟨false, by simp [rowP]⟩
theorem planG {q n : Nat} : IsB (.fsl false n (bls (goodP q n))) (goodP q n) := .inr ⟨false, by simp [goodP]⟩
theorem plan_spec {a0 a1 q : Nat} {nv : AV} {l : List Nat} (h0 : a0 < 256) (h1 : a1 < 256) (hq : q < 256) (hb : IsBy nv l) (hlb : ∀ x ∈ l, x < 256) :
    ∃ rows good k nv' gv ps, IsRows nv' ps rows ∧ IsB gv good ∧ VB rows good k ∧ ∀ m, denC prog ann 22 [.agg [.int .u8 (a0 : Nat), .int .u8 (a1 : Nat), nv, .int .u8 (q : Nat)]] m = some (.agg [nv', gv], m) := by
  have hn : 1 ≤ a0 % 6 + 1 ∧ a0 % 6 + 1 ≤ 6 := by omega
  have hk : 1 ≤ a1 % 3 + 1 ∧ a1 % 3 + 1 ≤ 3 := by omega
  refine ⟨rowsP l (a0 % 6 + 1) (a1 % 3 + 1) q (a0 % 6 + 1), goodP q (a0 % 6 + 1), a1 % 3 + 1, _, _, pslP l (a0 % 6 + 1) (a1 % 3 + 1) q (a0 % 6 + 1), planR, planG, planVB hn.1 hn.2 hk.1 hk.2, fun m => ?_⟩
  have c0 := wrapN (x := a0) (by omega)
  have c1 := wrapN (x := a1) (by omega)
  have m0 : ((a0 : Nat) : Int).tmod 6 = ((a0 % 6 : Nat) : Int) := by rw [Int.tmod_eq_emod_of_nonneg (by omega)]; simp
  have m1 : ((a1 : Nat) : Int).tmod 3 = ((a1 % 3 : Nat) : Int) := by rw [Int.tmod_eq_emod_of_nonneg (by omega)]; simp
  have w0 : IntKind.wrap .i64 (((a0 % 6 : Nat) : Int) + 1) = ((a0 % 6 + 1 : Nat) : Int) := by
    rw [wrap_id (by omega) (by omega)]; omega
  have w1 : IntKind.wrap .i64 (((a1 % 3 : Nat) : Int) + 1) = ((a1 % 3 + 1 : Nat) : Int) := by
    rw [wrap_id (by omega) (by omega)]; omega
  generalize a0 % 6 = n0 at *
  generalize a1 % 3 = k0 at *
  have lp := pl_out (a0 := a0) (a1 := a1) hb hlb (q := q) (n := n0 + 1) (k := k0 + 1) hq hn.1 hn.2 hk.1 hk.2 (o := 13) (lo := 14) (by omega) (by omega) (n0 + 1) 0 (upd (upd Mem.empty.h 0 (some (.cells [.nils, .nils]))) 13 (some (.cells [.nils, .nils]))) 14 .nils .nils (by omega) (by omega) ⟨by simp, by simp, .nil, .nil, by simp [objId]⟩
  simp only [Int.ofNat_zero, Int.cast_ofNat_Int, KP0] at lp
  rw [l07_Plan_made.call_eq _ _ (by simp [hb.closed])]
  simp [hb.one, hb.closed, c0, c1, m0, m1, w0, w1, -Int.natCast_add, -Int.natCast_emod]
  rw [lp]
  rfl
end Go.Proofs.Ythnpflkpjimkfaa

/-
  BrandAccepts: the law answers true. Conditions: none.
-/
namespace Go.Proofs.Ythnpflkpjimkfaa
open Go.AM
open Go.Proofs.Try (prog)
set_option linter.all false
set_option maxRecDepth 100000
set_option maxHeartbeats 8000000
theorem IsRows.cells {v : AV} {ps : List AV} {rows : List (List Int)} (h : IsRows v ps rows) : v.cells = [v] := by rcases h.val with ⟨rfl, _⟩ | ⟨_, rfl⟩ <;> rfl
end Go.Proofs.Ythnpflkpjimkfaa

/-
  THE LEAST WORD THAT ONLY ONE OF TWO BRANDS ACCEPTS: the specification's search. Conditions: none.
-/
namespace Go.Proofs.Ythnpflkpjimkfaa
open Go.AM
open Go.Proofs.Try (prog)
set_option linter.all false
set_option maxRecDepth 100000
set_option maxHeartbeats 8000000
structure Rd (m : Mem) (x6 x7 : AV) (i6 i7 i8 : Nat) (S : List PN × List (List UInt8)) : Prop where
  p : Gl m x6 i6 2 S.1.length (flP S.1)
  w : Gl m x7 i7 1 S.2.length (S.2.map .str)
  k : Mp m i8 (S.1.map encP) ((S.1.map fun _ => true).map .bool)
  d1 : i6 ≠ i7
  d2 : i6 ≠ i8
  d3 : i7 ≠ i8
end Go.Proofs.Ythnpflkpjimkfaa

/-
  BRANDS THAT ACCEPT THE SAME WORDS have the same smallest form: plain law. Conditions: none.
-/
namespace Go.Proofs.Ythnpflkpjimkfaa
open Go.AM
open Go.Proofs.Try (prog)
set_option linter.all false
set_option maxRecDepth 100000
set_option maxHeartbeats 8000000
def Xl (rows rows' : List (List Int)) (good good' : List Bool) (k s s' : Nat) : Prop := ∀ w : List Nat, (∀ a ∈ w, a < k) → bnth good (gow rows s w) = bnth good' (gow rows' s' w)
section
variable {rows rows' : List (List Int)} {good good' : List Bool} {k : Nat}
theorem Xl.step {s s' a : Nat} (h : Xl rows rows' good good' k s s') (ha : a < k) : Xl rows rows' good good' k (nx rows s a) (nx rows' s' a) := fun w hw => h (a :: w) (by
  intro b hb
  rcases List.mem_cons.1 hb with rfl | hb
  · exact ha
  · exact hw b hb)
theorem Xl.al {s s' t t' : Nat} (h : Xl rows rows' good good' k s s') (g : Xl rows rows' good good' k t t') : alB rows good k s t = alB rows' good' k s' t' := by
  rw [Bool.eq_iff_iff, alB_iff, alB_iff]
  constructor
  · intro q w hw; rw [← h w hw, ← g w hw]; exact q w hw
  · intro q w hw; rw [h w hw, g w hw]; exact q w hw
structure Al2 (X : Nat → Nat → Prop) (P P' : List Nat) : Prop where
  l : P.length = P'.length
  e : ∀ i (h : i < P.length) (h' : i < P'.length), X P[i] P'[i]
theorem Al2.app {X : Nat → Nat → Prop} {P P' : List Nat} (h : Al2 X P P') {s s' : Nat} (hs : X s s') : Al2 X (P ++ [s]) (P' ++ [s']) := by
  refine ⟨by simp [h.l], fun i h1 h2 => ?_⟩
  by_cases q : i < P.length
  · rw [List.getElem_append_left q, List.getElem_append_left (by rw [← h.l]; exact q)]
    exact h.e i q _
  · have e1 : i = P.length := by simp at h1; omega
    subst e1
    rw [List.getElem_append_right (by omega), List.getElem_append_right (by rw [← h.l]; omega)]
    simp [hs]
abbrev XX (rows rows' : List (List Int)) (good good' : List Bool) (k : Nat) := Al2 (Xl rows rows' good good' k)
theorem XX.any {P P' : List Nat} (h : XX rows rows' good good' k P P') {s s' : Nat} (hs : Xl rows rows' good good' k s s') : P.any (alB rows good k s) = P'.any (alB rows' good' k s') := by
  rw [Bool.eq_iff_iff, List.any_eq_true, List.any_eq_true]
  constructor
  · rintro ⟨x, hx, e⟩
    obtain ⟨i, hi, rfl⟩ := List.getElem_of_mem hx
    have hi' : i < P'.length := by rw [← h.l]; exact hi
    exact ⟨P'[i], List.getElem_mem hi', by rw [← hs.al (h.e i hi hi')]; exact e⟩
  · rintro ⟨x, hx, e⟩
    obtain ⟨i, hi, rfl⟩ := List.getElem_of_mem hx
    have hi' : i < P.length := by rw [h.l]; exact hi
    exact ⟨P[i], List.getElem_mem hi', by rw [hs.al (h.e i hi' hi)]; exact e⟩
theorem idx2 : ∀ (P P' : List Nat) (p p' : Nat → Bool), P.length = P'.length → (∀ i (h : i < P.length) (h' : i < P'.length), p P[i] = p' P'[i]) → P.findIdx p = P'.findIdx p'
  | [], [], _, _, _, _ => rfl
  | [], _ :: _, _, _, h, _ => by simp at h
  | _ :: _, [], _, _, h, _ => by simp at h
  | a :: P, b :: P', p, p', h, e => by
    have h0 := e 0 (by simp) (by simp)
    simp only [List.getElem_cons_zero] at h0
    rw [List.findIdx_cons, List.findIdx_cons, h0, idx2 P P' p p' (by simpa using h) (fun i h1 h2 => by
      have := e (i + 1) (by simpa using h1) (by simpa using h2)
      simpa using this)]
theorem XX.idx {P P' : List Nat} (h : XX rows rows' good good' k P P') {s s' : Nat} (hs : Xl rows rows' good good' k s s') : idxA (alB rows good k) P s = idxA (alB rows' good' k) P' s' :=
  idx2 P P' _ _ h.l fun i h1 h2 => hs.al (h.e i h1 h2)
theorem gow_goL (rows : List (List Int)) : ∀ (w : List UInt8) (s : Nat), gow rows s (w.map fun c => c.toNat - 97) = goL rows w s
  | [], s => rfl
  | c :: w, s => by rw [goL, ← gow_goL rows w]; rfl
theorem Xl.goL {s s' : Nat} (h : Xl rows rows' good good' k s s') {w : List UInt8} (hw : okW k w) : bnth good (goL rows w s) = bnth good' (Go.Proofs.Ythnpflkpjimkfaa.goL rows' w s') := by
  have := h (w.map fun c => c.toNat - 97) (fun a ha => by
    obtain ⟨c, hc, rfl⟩ := List.mem_map.1 ha
    exact (hw c hc).2)
  rw [gow_goL, gow_goL] at this
  exact this
end
end Go.Proofs.Ythnpflkpjimkfaa

/-
  BODIES OF FUNCTIONS OF THE PROGRAM AS SMALL OPERATIONS (written by gen.py; checked by the kernel against the program). Conditions: none.
-/
namespace Go.Proofs.Ythnpflkpjimkfaa
open Go.AM
open Go.Proofs.Try (prog)
set_option maxRecDepth 100000
set_option linter.all false
namespace brand_Reset
noncomputable section
variable (K : List Item) (s : St)
def b : Code := (Try.f23.body).getD .skip
theorem hf : prog.funcs[23]? = some Try.f23 := by kernel_rfl
def r0 := findReg b 0
def r1 := findReg b 1
def i0 := findCond b 0
def i0t := thenOf i0
def i0e := elseOf i0
def r2 := findReg b 2
def r3 := findReg b 3
def r4 := findReg b 4
def r5 := findReg b 5
def k0 := findBlk b 0
def l0 := loopOf k0
def L0 (x1 x5 x6 : AV) (m : Mem) (K : List Item) : Option Res := den prog ann 23 (.code l0 :: .inLoop l0 :: .inBlock 0 :: K) ⟨[(1, x1), (5, x5), (6, x6)], 93, m⟩
def r6 := findReg b 6
def i1 := findCond b 1
def i1t := thenOf i1
def i1e := elseOf i1
def k1 := findBlk b 1
def r8 := findReg b 8
def r9 := findReg b 9
def i2 := findCond b 2
def i2t := thenOf i2
def i2e := elseOf i2
def r10 := findReg b 10
def r11 := findReg b 11
def k2 := findBlk b 2
def l2 := loopOf k2
def L2 (x1 x5 x6 x7 x47 x48 : AV) (m : Mem) (K : List Item) : Option Res := den prog ann 23 (.code l2 :: .inLoop l2 :: .inBlock 2 :: K) ⟨[(1, x1), (5, x5), (6, x6), (7, x7), (47, x47), (48, x48)], 93, m⟩
def r12 := findReg b 12
def i3 := findCond b 3
def i3t := thenOf i3
def i3e := elseOf i3
def k3 := findBlk b 3
def r13 := findReg b 13
def r14 := findReg b 14
def r15 := findReg b 15
def k4 := findBlk b 4
def l4 := loopOf k4
def L4 (x1 x5 x6 x7 x8 x9 x47 x48 x52 x53 x54 : AV) (m : Mem) (K : List Item) : Option Res := den prog ann 23 (.code l4 :: .inLoop l4 :: .inBlock 4 :: K) ⟨[(1, x1), (5, x5), (6, x6), (7, x7), (8, x8), (9, x9), (47, x47), (48, x48), (52, x52), (53, x53), (54, x54)], 93, m⟩
def r16 := findReg b 16
def i4 := findCond b 4
def i4t := thenOf i4
def i4e := elseOf i4
def k5 := findBlk b 5
def r17 := findReg b 17
def r18 := findReg b 18
def i5 := findCond b 5
def i5t := thenOf i5
def i5e := elseOf i5
def r19 := findReg b 19
def r20 := findReg b 20
def r21 := findReg b 21
def r22 := findReg b 22
def i6 := findCond b 6
def i6t := thenOf i6
def i6e := elseOf i6
def r23 := findReg b 23
def r24 := findReg b 24
def r25 := findReg b 25
def r7 := findReg b 7
def r26 := findReg b 26
theorem b_eq : den prog ann 23 (.code b :: K) s = den prog ann 23 (.code r0 :: .code r1 :: .code i0 :: .code r3 :: .code r4 :: .code r5 :: .code k0 :: .code r26 :: .code .ret :: K) s := den_flat hf (l := [r0, r1, i0, r3, r4, r5, k0, r26, .ret]) (by kernel_rfl) K s
theorem r0_eq : den prog ann 23 (.code r0 :: K) s = mreg prog ann 23 none [] none [] [qA 1 frozenPtr 0,qF 2 fun s => some (.str []),qF 3 fun s => some (.int .i64 0)] K s := (den_reg hf _ K s).trans (by kernel_rfl)
theorem r1_eq : den prog ann 23 (.code r1 :: K) s = mreg prog ann 23 none [] none [] [qA 14 (loadF true 2) 1,⟨some 15, none, .c 0 (fun s => (.fn 55 [] [])) fun s => [(s.get 14)]⟩,qA 16 (unA .not) 15] K s := (den_reg hf _ K s).trans (by kernel_rfl)
theorem i0_eq : den prog ann 23 (.code i0 :: K) s = ifV prog ann 23 16 i0t i0e K s (s.get 16) := den_if hf (by kernel_rfl) K s
theorem i0t_eq : den prog ann 23 (.code i0t :: K) s = den prog ann 23 (.code r2 :: .code .ret :: K) s := den_flat hf (l := [r2, .ret]) (by kernel_rfl) K s
theorem r2_eq : den prog ann 23 (.code r2 :: K) s = mreg prog ann 23 none [] none [] [qF 2 fun s => some (.str []),qF 3 fun s => some (.int .i64 1)] K s := (den_reg hf _ K s).trans (by kernel_rfl)
theorem i0e_eq : den prog ann 23 (.code i0e :: K) s = den prog ann 23 (K) s := den_flat hf (l := []) (by kernel_rfl) K s
theorem r3_eq : den prog ann 23 (.code r3 :: K) s = mreg prog ann 23 none [] none [] [qA 17 (fieldA 0) 1,qA 18 (loadF false 1) 17,qA 19 lenSl 18,qA 20 (binA prog .shl 3 (.int .i64 1)) 19,qF 21 fun s => binA prog .sub 3 (s.get 20) (.int .i64 1),qC 4 21] K s := (den_reg hf _ K s).trans (by kernel_rfl)
theorem r4_eq : den prog ann 23 (.code r4 :: K) s = mreg prog ann 23 none [] none [] [⟨some 22, none, .w false none fun s => some (.map s.m.nx, s.m.new (.map 0 [] []))⟩,qC 23 4,⟨none, none, .w false none fun s => updM prog s.m 3 (s.get 22) (s.get 23) (.str [])⟩,qC 24 22,qC 5 24] K s := (den_reg hf _ K s).trans (by kernel_rfl)
theorem r5_eq : den prog ann 23 (.code r5 :: K) s = mreg prog ann 23 none [] none [] [qC 25 4,⟨some 26, none, .w false none fun s => bslM s.m 1 (bslA 1 1 [.int .i64 0] [(0, (s.get 25))])⟩,qC 6 26] K s := (den_reg hf _ K s).trans (by kernel_rfl)
theorem k0_eq (K : List Item) (t : List (Nat × AV)) (m : Mem) : den prog ann 23 (.code k0 :: K) ⟨t, 93, m⟩ = L0 (get t 1) (get t 5) (get t 6) m K := den_loop_enter hf (b := l0) (id := 6) (l := [1, 5, 6]) (by kernel_rfl) (by kernel_rfl) (by kernel_rfl) K _
theorem l0_eq (K : List Item) (t : List (Nat × AV)) (m : Mem) : den prog ann 23 (.inLoop l0 :: .inBlock 0 :: K) ⟨t, 93, m⟩ = L0 (get t 1) (get t 5) (get t 6) m K := den_loop_again hf (id := 6) (l := [1, 5, 6]) (by kernel_rfl) (by kernel_rfl) (.inBlock 0 :: K) _
theorem L0_eq (x1 x5 x6 : AV) (m : Mem) (K : List Item) : L0 x1 x5 x6 m K = den prog ann 23 (.code r6 :: .code i1 :: .code k1 :: .code r7 :: .inLoop l0 :: .inBlock 0 :: K) ⟨[(1, x1), (5, x5), (6, x6)], 93, m⟩ := den_flat hf (l := [r6, i1, k1, r7]) (by kernel_rfl) _ _
theorem r6_eq : den prog ann 23 (.code r6 :: K) s = mreg prog ann 23 (some [1, 5, 6]) [] none [] [qC 27 6,qA 28 lenSl 27,qF 29 fun s => binA prog .gtr 3 (s.get 28) (.int .i64 0)] K s := (den_reg hf _ K s).trans (by kernel_rfl)
theorem i1_eq : den prog ann 23 (.code i1 :: K) s = ifV prog ann 23 29 i1t i1e K s (s.get 29) := den_if hf (by kernel_rfl) K s
theorem i1t_eq : den prog ann 23 (.code i1t :: K) s = den prog ann 23 (K) s := den_flat hf (l := []) (by kernel_rfl) K s
theorem i1e_eq : den prog ann 23 (.code i1e :: K) s = den prog ann 23 (.code (.exit 0) :: K) s := den_flat hf (l := [(.exit 0)]) (by kernel_rfl) K s
theorem k1_eq : den prog ann 23 (.code k1 :: K) s = den prog ann 23 (.code r8 :: .code r9 :: .code i2 :: .code r11 :: .code k2 :: .inBlock 1 :: K) s := den_blk hf (b := blkOf k1) (l := [r8, r9, i2, r11, k2]) (by kernel_rfl) (by kernel_rfl) K s
theorem r8_eq : den prog ann 23 (.code r8 :: K) s = mreg prog ann 23 none [] none [] [qC 32 6,qF 33 fun s => idxSl 1 (s.get 32) (.int .i64 0),qF 34 fun s => loadA false 1 s.m (s.get 33),qC 7 34] K s := (den_reg hf _ K s).trans (by kernel_rfl)
theorem r9_eq : den prog ann 23 (.code r9 :: K) s = mreg prog ann 23 none [] none [] [qC 35 7,qC 36 7,qF 37 fun s => binA prog .sub 3 (s.get 36) (.int .i64 1),qB 38 (binA prog .and 3) 35 37,qF 39 fun s => binA prog .eql 3 (s.get 38) (.int .i64 0)] K s := (den_reg hf _ K s).trans (by kernel_rfl)
theorem i2_eq : den prog ann 23 (.code i2 :: K) s = ifV prog ann 23 39 i2t i2e K s (s.get 39) := den_if hf (by kernel_rfl) K s
theorem i2t_eq : den prog ann 23 (.code i2t :: K) s = den prog ann 23 (.code r10 :: .code .ret :: K) s := den_flat hf (l := [r10, .ret]) (by kernel_rfl) K s
theorem r10_eq : den prog ann 23 (.code r10 :: K) s = mreg prog ann 23 none [] none [] [qC 40 5,qC 41 7,qF 42 fun s => lookP prog s.m 3 (.str []) (s.get 40) (s.get 41) false,qC 2 42,qF 3 fun s => some (.int .i64 0)] K s := (den_reg hf _ K s).trans (by kernel_rfl)
theorem i2e_eq : den prog ann 23 (.code i2e :: K) s = den prog ann 23 (K) s := den_flat hf (l := []) (by kernel_rfl) K s
theorem r11_eq : den prog ann 23 (.code r11 :: K) s = mreg prog ann 23 none [] none [] [qA 43 (fieldA 0) 1,qA 44 (loadF false 1) 43,qF 45 fun s => idxSl 1 (s.get 44) (.int .i64 0),qA 46 (loadF false 1) 45,qA 47 lenSl 46,qF 48 fun s => some (.int .i64 0)] K s := (den_reg hf _ K s).trans (by kernel_rfl)
theorem k2_eq (K : List Item) (t : List (Nat × AV)) (m : Mem) : den prog ann 23 (.code k2 :: K) ⟨t, 93, m⟩ = L2 (get t 1) (get t 5) (get t 6) (get t 7) (get t 47) (get t 48) m K := den_loop_enter hf (b := l2) (id := 12) (l := [1, 5, 6, 7, 47, 48]) (by kernel_rfl) (by kernel_rfl) (by kernel_rfl) K _
theorem l2_eq (K : List Item) (t : List (Nat × AV)) (m : Mem) : den prog ann 23 (.inLoop l2 :: .inBlock 2 :: K) ⟨t, 93, m⟩ = L2 (get t 1) (get t 5) (get t 6) (get t 7) (get t 47) (get t 48) m K := den_loop_again hf (id := 12) (l := [1, 5, 6, 7, 47, 48]) (by kernel_rfl) (by kernel_rfl) (.inBlock 2 :: K) _
theorem L2_eq (x1 x5 x6 x7 x47 x48 : AV) (m : Mem) (K : List Item) : L2 x1 x5 x6 x7 x47 x48 m K = den prog ann 23 (.code r12 :: .code i3 :: .code k3 :: .code r25 :: .inLoop l2 :: .inBlock 2 :: K) ⟨[(1, x1), (5, x5), (6, x6), (7, x7), (47, x47), (48, x48)], 93, m⟩ := den_flat hf (l := [r12, i3, k3, r25]) (by kernel_rfl) _ _
theorem r12_eq : den prog ann 23 (.code r12 :: K) s = mreg prog ann 23 (some [1, 5, 6, 7, 47, 48]) [] none [] [qB 49 (binA prog .lss 3) 48 47] K s := (den_reg hf _ K s).trans (by kernel_rfl)
theorem i3_eq : den prog ann 23 (.code i3 :: K) s = ifV prog ann 23 49 i3t i3e K s (s.get 49) := den_if hf (by kernel_rfl) K s
theorem i3t_eq : den prog ann 23 (.code i3t :: K) s = den prog ann 23 (K) s := den_flat hf (l := []) (by kernel_rfl) K s
theorem i3e_eq : den prog ann 23 (.code i3e :: K) s = den prog ann 23 (.code (.exit 2) :: K) s := den_flat hf (l := [(.exit 2)]) (by kernel_rfl) K s
theorem k3_eq : den prog ann 23 (.code k3 :: K) s = den prog ann 23 (.code r13 :: .code r14 :: .code r15 :: .code k4 :: .code r21 :: .code r22 :: .code i6 :: .inBlock 3 :: K) s := den_blk hf (b := blkOf k3) (l := [r13, r14, r15, k4, r21, r22, i6]) (by kernel_rfl) (by kernel_rfl) K s
theorem r13_eq : den prog ann 23 (.code r13 :: K) s = mreg prog ann 23 none [] none [] [qC 50 48,qC 8 50] K s := (den_reg hf _ K s).trans (by kernel_rfl)
theorem r14_eq : den prog ann 23 (.code r14 :: K) s = mreg prog ann 23 none [] none [] [qF 9 fun s => some (.int .i64 0)] K s := (den_reg hf _ K s).trans (by kernel_rfl)
theorem r15_eq : den prog ann 23 (.code r15 :: K) s = mreg prog ann 23 none [] none [] [qA 51 (fieldA 0) 1,qA 52 (loadF false 1) 51,qA 53 lenSl 52,qF 54 fun s => some (.int .i64 0)] K s := (den_reg hf _ K s).trans (by kernel_rfl)
theorem k4_eq (K : List Item) (t : List (Nat × AV)) (m : Mem) : den prog ann 23 (.code k4 :: K) ⟨t, 93, m⟩ = L4 (get t 1) (get t 5) (get t 6) (get t 7) (get t 8) (get t 9) (get t 47) (get t 48) (get t 52) (get t 53) (get t 54) m K := den_loop_enter hf (b := l4) (id := 16) (l := [1, 5, 6, 7, 8, 9, 47, 48, 52, 53, 54]) (by kernel_rfl) (by kernel_rfl) (by kernel_rfl) K _
theorem l4_eq (K : List Item) (t : List (Nat × AV)) (m : Mem) : den prog ann 23 (.inLoop l4 :: .inBlock 4 :: K) ⟨t, 93, m⟩ = L4 (get t 1) (get t 5) (get t 6) (get t 7) (get t 8) (get t 9) (get t 47) (get t 48) (get t 52) (get t 53) (get t 54) m K := den_loop_again hf (id := 16) (l := [1, 5, 6, 7, 8, 9, 47, 48, 52, 53, 54]) (by kernel_rfl) (by kernel_rfl) (.inBlock 4 :: K) _
theorem L4_eq (x1 x5 x6 x7 x8 x9 x47 x48 x52 x53 x54 : AV) (m : Mem) (K : List Item) : L4 x1 x5 x6 x7 x8 x9 x47 x48 x52 x53 x54 m K = den prog ann 23 (.code r16 :: .code i4 :: .code k5 :: .code r20 :: .inLoop l4 :: .inBlock 4 :: K) ⟨[(1, x1), (5, x5), (6, x6), (7, x7), (8, x8), (9, x9), (47, x47), (48, x48), (52, x52), (53, x53), (54, x54)], 93, m⟩ := den_flat hf (l := [r16, i4, k5, r20]) (by kernel_rfl) _ _
theorem r16_eq : den prog ann 23 (.code r16 :: K) s = mreg prog ann 23 (some [1, 5, 6, 7, 8, 9, 47, 48, 52, 53, 54]) [] none [] [qB 55 (binA prog .lss 3) 54 53] K s := (den_reg hf _ K s).trans (by kernel_rfl)
theorem i4_eq : den prog ann 23 (.code i4 :: K) s = ifV prog ann 23 55 i4t i4e K s (s.get 55) := den_if hf (by kernel_rfl) K s
theorem i4t_eq : den prog ann 23 (.code i4t :: K) s = den prog ann 23 (K) s := den_flat hf (l := []) (by kernel_rfl) K s
theorem i4e_eq : den prog ann 23 (.code i4e :: K) s = den prog ann 23 (.code (.exit 4) :: K) s := den_flat hf (l := [(.exit 4)]) (by kernel_rfl) K s
theorem k5_eq : den prog ann 23 (.code k5 :: K) s = den prog ann 23 (.code r17 :: .code r18 :: .code i5 :: .inBlock 5 :: K) s := den_blk hf (b := blkOf k5) (l := [r17, r18, i5]) (by kernel_rfl) (by kernel_rfl) K s
theorem r17_eq : den prog ann 23 (.code r17 :: K) s = mreg prog ann 23 none [] none [] [qC 56 54,qB 57 (idxSl 1) 52 54,qA 58 (loadF false 1) 57,qC 10 56,qC 11 58] K s := (den_reg hf _ K s).trans (by kernel_rfl)
theorem r18_eq : den prog ann 23 (.code r18 :: K) s = mreg prog ann 23 none [] none [] [qC 59 7,qC 60 10,qB 61 (binA prog .shr 3) 59 60,qF 62 fun s => binA prog .and 3 (s.get 61) (.int .i64 1),qF 63 fun s => binA prog .eql 3 (s.get 62) (.int .i64 1)] K s := (den_reg hf _ K s).trans (by kernel_rfl)
theorem i5_eq : den prog ann 23 (.code i5 :: K) s = ifV prog ann 23 63 i5t i5e K s (s.get 63) := den_if hf (by kernel_rfl) K s
theorem i5t_eq : den prog ann 23 (.code i5t :: K) s = den prog ann 23 (.code r19 :: K) s := den_flat hf (l := [r19]) (by kernel_rfl) K s
theorem r19_eq : den prog ann 23 (.code r19 :: K) s = mreg prog ann 23 none [] none [] [qC 64 9,qC 65 11,qC 66 8,qB 67 (idxSl 1) 65 66,qA 68 (loadF false 1) 67,qA 69 (binA prog .shl 3 (.int .i64 1)) 68,qB 70 (binA prog .or 3) 64 69,qC 9 70] K s := (den_reg hf _ K s).trans (by kernel_rfl)
theorem i5e_eq : den prog ann 23 (.code i5e :: K) s = den prog ann 23 (K) s := den_flat hf (l := []) (by kernel_rfl) K s
theorem r20_eq : den prog ann 23 (.code r20 :: K) s = mreg prog ann 23 (some [1, 5, 6, 7, 8, 9, 47, 48, 52, 53, 54]) [] none [] [qF 71 fun s => binA prog .add 3 (s.get 54) (.int .i64 1),qC 54 71] K s := (den_reg hf _ K s).trans (by kernel_rfl)
theorem r21_eq : den prog ann 23 (.code r21 :: K) s = mreg prog ann 23 (some [1, 5, 6, 7, 8, 9, 47, 48]) [] none [] [qC 73 5,qC 74 9,qF 75 fun s => lookP prog s.m 3 (.str []) (s.get 73) (s.get 74) true,qC 72 75,qF 76 fun s => extA (s.get 72) 0,qF 77 fun s => extA (s.get 72) 1,qC 12 76,qC 13 77] K s := (den_reg hf _ K s).trans (by kernel_rfl)
theorem r22_eq : den prog ann 23 (.code r22 :: K) s = mreg prog ann 23 none [] none [] [qC 78 13,qA 79 (unA .not) 78] K s := (den_reg hf _ K s).trans (by kernel_rfl)
theorem i6_eq : den prog ann 23 (.code i6 :: K) s = ifV prog ann 23 79 i6t i6e K s (s.get 79) := den_if hf (by kernel_rfl) K s
theorem i6t_eq : den prog ann 23 (.code i6t :: K) s = den prog ann 23 (.code r23 :: .code r24 :: K) s := den_flat hf (l := [r23, r24]) (by kernel_rfl) K s
theorem r23_draw : drawOk (fun g => (ann g).pure) (modeOf (ann 23) (idOf r23)) (frzOf (ann 23) (idOf r23)) (opsOf r23) = true := drawOk_of (an := [0, 0, 0, 0, 12, 0, 32, 124, 255]) (by kernel_rfl) (by kernel_rfl)
theorem r23_eq : den prog ann 23 (.code r23 :: K) s = mreg prog ann 23 none [] (some 9) [] [qC 80 5,qC 81 9,qC 82 5,qC 83 7,qF 84 fun s => lookP prog s.m 3 (.str []) (s.get 82) (s.get 83) false,qC 85 8,⟨some 86, none, .c 0 (fun s => (.fn 59 [] [])) fun s => [(s.get 85)]⟩,qB 87 (binA prog .add 9) 84 86,⟨none, none, .w false (some 8) fun s => updM prog s.m 3 (s.get 80) (s.get 81) (s.get 87)⟩] K s := (den_regD hf r23_draw K s).trans (by kernel_rfl)
theorem r24_eq : den prog ann 23 (.code r24 :: K) s = mreg prog ann 23 none [] none [] [qC 88 6,qC 89 9,qF 90 fun s => bslF 1 (bslA 1 1 [.int .i64 0] [(0, (s.get 89))]),⟨some 91, none, .w false none fun s => appendA 1 8 s.m (s.get 88) (s.get 90)⟩,qC 6 91] K s := (den_reg hf _ K s).trans (by kernel_rfl)
theorem i6e_eq : den prog ann 23 (.code i6e :: K) s = den prog ann 23 (K) s := den_flat hf (l := []) (by kernel_rfl) K s
theorem r25_eq : den prog ann 23 (.code r25 :: K) s = mreg prog ann 23 (some [1, 5, 6, 7, 47, 48]) [] none [] [qF 92 fun s => binA prog .add 3 (s.get 48) (.int .i64 1),qC 48 92] K s := (den_reg hf _ K s).trans (by kernel_rfl)
theorem r7_eq : den prog ann 23 (.code r7 :: K) s = mreg prog ann 23 (some [1, 5, 6]) [] none [] [qC 30 6,qF 31 fun s => sliceSl 1 (s.get 30) (some (.int .i64 1)) none,qC 6 31] K s := (den_reg hf _ K s).trans (by kernel_rfl)
theorem r26_eq : den prog ann 23 (.code r26 :: K) s = mreg prog ann 23 (some []) [] none [] [qF 2 fun s => some (.str []),qF 3 fun s => some (.int .i64 5)] K s := (den_reg hf _ K s).trans (by kernel_rfl)
theorem ret_eq : den prog ann 23 (.code .ret :: K) s = finM true [fun s => some (s.get 2), fun s => some (s.get 3)] s := (den_ret hf K s).trans (by kernel_rfl)
theorem nil_eq (s : St) : den prog ann 23 [] s = finM true [fun s => some (s.get 2), fun s => some (s.get 3)] s := (den_nil hf s).trans (by kernel_rfl)
theorem inBlock_eq (id : Nat) (K : List Item) (s : St) : den prog ann 23 (.inBlock id :: K) s = den prog ann 23 K s := den_inBlock hf id K s
theorem exit_eq (id : Nat) (K : List Item) (s : St) : den prog ann 23 (.code (.exit id) :: K) s = exitV prog ann 23 (exitTo id K) s := den_exitV hf id K s
theorem call_eq (v0 : AV) (m : Mem) (h : closedL [v0] = true) : denC prog ann 23 [v0] m = (den prog ann 23 [.code b] ⟨[(0, v0)], 93, Mem.empty⟩).bind fun r => some (r.1, m) := (denC_pure hf (b := b) (by kernel_rfl) (by kernel_rfl) (by kernel_rfl) h m).trans (by kernel_rfl)
theorem pure_eq : (ann 23).pure = true := by kernel_rfl
attribute [simp] b_eq r0_eq r1_eq i0_eq i0t_eq r2_eq i0e_eq r3_eq r4_eq r5_eq k0_eq l0_eq r6_eq i1_eq i1t_eq i1e_eq k1_eq r8_eq r9_eq i2_eq i2t_eq r10_eq i2e_eq r11_eq k2_eq l2_eq r12_eq i3_eq i3t_eq i3e_eq k3_eq r13_eq r14_eq r15_eq k4_eq l4_eq r16_eq i4_eq i4t_eq i4e_eq k5_eq r17_eq r18_eq i5_eq i5t_eq r19_eq i5e_eq r20_eq r21_eq r22_eq i6_eq i6t_eq r23_eq r24_eq i6e_eq r25_eq r7_eq r26_eq ret_eq nil_eq inBlock_eq exit_eq pure_eq
end
end brand_Reset
end Go.Proofs.Ythnpflkpjimkfaa

/-
  THE LEAST WORD THAT LEADS ALL STATES TO ONE: the program's search. Conditions: none.
-/
namespace Go.Proofs.Ythnpflkpjimkfaa
open Go.AM
open Go.Proofs.Try (prog)
set_option linter.all false
set_option maxRecDepth 100000
set_option maxHeartbeats 8000000
theorem rst_bits {nv gv : AV} {ps : List AV} {rows : List (List Int)} {good : List Bool} {k : Nat} (hn : IsRows nv ps rows) (v : VB rows good k) {x a : Nat} (hx : x < 64) (ha : a < k) {x1 x5 x6 x47 x48 : AV} {K : List Item} {m : Mem} : ∀ (j s y : Nat), s + j = rows.length → y < 64 →
    brand_Reset.L4 x1 x5 x6 (.int .i64 x) (.int .i64 a) (.int .i64 y) x47 x48 nv (.int .i64 rows.length) (.int .i64 s) m K = brand_Reset.L4 x1 x5 x6 (.int .i64 x) (.int .i64 a) (.int .i64 (stepB rows x a j s y)) x47 x48 nv (.int .i64 rows.length) (.int .i64 rows.length) m K := by
  intro j
  induction j with
  | zero =>
    intro s y h1 hy
    have : s = rows.length := by omega
    subst this
    rfl
  | succ j ih =>
    intro s y h1 hy
    have hs : s < rows.length := by omega
    have n6 := v.n6
    obtain ⟨c1, c2⟩ := nx_lt v hs ha
    have b := v.rl s hs
    have iw := hn.row s hs
    have d1 := iw.idx (i := a) (by omega) .i64
    have e1 := ints_head (l := cth rows s) (i := a) (by omega)
    rw [c2] at e1
    have hws : IntKind.wrap .i64 ((s : Int) + 1) = (s : Int) + 1 := wrap_id (by omega) (by omega)
    have f1 := shr_b hx (s := s) (by omega)
    have f2 := one_b (s := s) hx
    have f3 := shl_b (n := nx rows s a) (by omega)
    have hp := pwB_lt (t := nx rows s a) (by omega)
    have f4 := or_b (x := y) (y := pwB (nx rows s a)) (by omega) (by omega)
    rw [stepB]
    by_cases c : shB x s % 2 = 1
    · have st := ih (s + 1) (y ||| pwB (nx rows s a)) (by omega) (Nat.or_lt_two_pow (n := 6) hy hp)
      simp only [Int.natCast_add, Int.cast_ofNat_Int] at st
      rw [if_pos c] at f2
      rw [if_pos c, ← st, brand_Reset.L4_eq]
      simp [hs, hn.idx hs, hn.head hs, d1, e1, f1, f2, f3, f4, hws, -binA_shl, -binA_shr, -binA_and, -binA_or]
      done
    · have st := ih (s + 1) y (by omega) hy
      simp only [Int.natCast_add, Int.cast_ofNat_Int] at st
      rw [if_neg c] at f2
      rw [if_neg c, ← st, brand_Reset.L4_eq]
      simp [hs, hn.idx hs, hn.head hs, d1, e1, f1, f2, hws, -binA_shl, -binA_shr, -binA_and, -binA_or]
      done
noncomputable def KS : List Item := [.code brand_Reset.r26, .code .ret]
noncomputable def KSI : List Item := .inBlock 1 :: .code brand_Reset.r7 :: .inLoop brand_Reset.l0 :: .inBlock 0 :: KS
theorem rst_in {nv gv : AV} {ps : List AV} {rows : List (List Int)} {good : List Bool} {k : Nat} (hn : IsRows nv ps rows) (v : VB rows good k) {iw i x : Nat} {w : List UInt8} (hx : x < 64) {r : Res} :
    ∀ (j a iq : Nat) (m : Mem) (q : AV) (S : List Nat × List (List UInt8)), a + j = k → Mp m iw (S.1.map encS) (S.2.map .str) → Gl m q iq 1 (S.1.length - i) ((S.1.drop i).map encS) → iw ≠ iq → S.1[i]? = some x → S.2[i]? = some w → BOk (· < 64) List.length S →
    (∀ m' q' iq', Mp m' iw ((bIn (nxS rows) extL x w j a S).1.map encS) ((bIn (nxS rows) extL x w j a S).2.map .str) → Gl m' q' iq' 1 ((bIn (nxS rows) extL x w j a S).1.length - i) (((bIn (nxS rows) extL x w j a S).1.drop i).map encS) → iw ≠ iq' →
      brand_Reset.L0 (.fptr [nv, gv]) (.map iw) (tlV q' 1) m' KS = some r) →
    brand_Reset.L2 (.fptr [nv, gv]) (.map iw) q (.int .i64 x) (.int .i64 k) (.int .i64 a) m KSI = some r := by
  intro j
  induction j with
  | zero =>
    intro a iq m q S h1 hm hq hne hS1 hS2 hS hk
    have e : a = k := by omega
    subst e
    have hi := (List.getElem?_eq_some_iff.1 hS1).1
    have hk := hk m q iq hm hq hne
    rw [brand_Reset.L2_eq]
    simp [KSI, hq.cut (by omega), hk]
    done
  | succ j ih =>
    intro a iq m q S h1 hm hq hne hS1 hS2 hS hk
    have ha : a < k := by omega
    have hi := (List.getElem?_eq_some_iff.1 hS1).1
    have n6 := v.n6
    have hwi : IntKind.wrap .i64 ((a : Int) + 1) = (a : Int) + 1 := wrap_id (by omega) (by have := v.k3; omega)
    have ha3 : a < 3 := by have := v.k3; omega
    have hlt := fun m => letter_spec ha3 m
    have hiq : iq < m.nx := hq.lt
    have hiw : iw < m.nx := hm.2
    have few := sets_few hS.nd hS.all
    have K := keysS (· < 64)
    have hy : nxS rows x a < 64 := stepB_lt v ha rows.length 0 0 (by omega) (by omega)
    have sb := fun (x1 x5 x6 x47 x48 : AV) (m : Mem) (K : List Item) => rst_bits (gv := gv) hn v hx ha (x1 := x1) (x5 := x5) (x6 := x6) (x47 := x47) (x48 := x48) (m := m) (K := K) rows.length 0 0 (by omega) (by omega)
    simp only [Int.ofNat_zero, Int.cast_ofNat_Int] at sb
    have sb' : stepB rows x a rows.length 0 0 = nxS rows x a := rfl
    simp only [sb'] at sb
    have l1 := fun z b => hm.look K hS.all hS.len hy z b
    have l2 := fun z b => hm.look K hS.all hS.len (c := x) hx z b
    rw [lkP_at hS.nd hS1 hS2] at l2
    simp only [encS] at l1 l2
    rw [bIn] at hk
    by_cases hc : nxS rows x a ∈ S.1
    · rw [if_pos hc] at hk
      obtain ⟨i', hi'⟩ := List.getElem?_of_mem hc
      have hi2 : i' < S.2.length := by rw [← hS.len]; exact (List.getElem?_eq_some_iff.1 hi').1
      have q1 := lkP_at hS.nd hi' (List.getElem?_eq_getElem hi2)
      rw [q1] at l1
      have st := ih (a + 1) iq m q S (by omega) hm hq hne hS1 hS2 hS hk
      simp only [Int.natCast_add, Int.cast_ofNat_Int] at st
      rw [brand_Reset.L2_eq]
      simp [ha, hn.len, sb]
      rw [brand_Reset.L4_eq]
      simp [l1, hwi, st]
      done
    · rw [if_neg hc] at hk
      have q1 := lkP_none (vs := S.2) hc
      rw [q1] at l1
      have hwl : w.length ≤ 64 := by
        have h1 := hS.wl w (List.mem_of_getElem? hS2)
        have h2 := hS.len
        omega
      have hll : w.length + (ltr a).length ≤ 4611686018427387904 := by simp [ltr]; omega
      have l2' := fun n => (hm.fr (m' := ⟨m.h, n⟩) rfl)
      have hm2 : Mp ⟨m.h, m.nx + 9⟩ iw (S.1.map encS) (S.2.map .str) := hm.fr rfl (by show iw < m.nx + 9; omega)
      have hm3 : Mp ⟨m.h, m.nx + 8⟩ iw (S.1.map encS) (S.2.map .str) := hm.fr rfl (by show iw < m.nx + 8; omega)
      have l2 := fun z b => hm2.look K hS.all hS.len (c := x) hx z b
      rw [lkP_at hS.nd hS1 hS2] at l2
      simp only [encS] at l2
      obtain ⟨m2, p1, p2, p3, p4⟩ := hm3.put K hS.all hS.len hy hc (extL w a)
      simp only [encS, extL] at p1
      have hq2 : Gl ⟨m2.h, m.nx + 9⟩ q iq 1 (S.1.length - i) ((S.1.drop i).map encS) := hq.fr (by show m2.h iq = m.h iq; rw [p4 iq (fun e => hne e.symm)]) (by show iq < m.nx + 9; omega)
      obtain ⟨q', m3, iq', g1, g2, g3, g4, g5⟩ := hq2.app (by' := 8) (ys := [encS (nxS rows x a)]) rfl (by simp; omega)
      have hm4 : Mp m3 iw ((S.1 ++ [nxS rows x a]).map encS) ((S.2 ++ [extL w a]).map .str) := p2.fr (by
        have := g5 iw (by show iw < m.nx + 9; omega) hne
        exact this) (by
        have h1 : m.nx + 9 ≤ m3.nx := g3
        omega)
      have st := ih (a + 1) iq' m3 q' (S.1 ++ [nxS rows x a], S.2 ++ [extL w a]) (by omega) hm4 (by
        have e : (S.1 ++ [nxS rows x a]).length - i = S.1.length - i + 1 := by simp; omega
        show Gl m3 q' iq' 1 ((S.1 ++ [nxS rows x a]).length - i) (((S.1 ++ [nxS rows x a]).drop i).map encS)
        rw [e, List.drop_append_of_le_length (by omega), List.map_append]
        exact g2) (by
        rcases g4 with e | e
        · rw [e]; exact hne
        · rw [e]; show iw ≠ m.nx + 9; omega) (by rw [List.getElem?_append_left (by omega)]; exact hS1) (by rw [List.getElem?_append_left (by rw [← hS.len]; omega)]; exact hS2) (bok_add hS hy hc (by
        have := hS.wl w (List.mem_of_getElem? hS2)
        simp [extL, ltr]; omega)) hk
      simp only [Int.natCast_add, Int.cast_ofNat_Int] at st
      simp only [encS] at g1
      rw [brand_Reset.L2_eq]
      simp [ha, hn.len, sb]
      rw [brand_Reset.L4_eq]
      simp [l1, hwi, l2, hlt, hll, p1, hq.one, g1, g2.one, st]
      done
theorem rst_out {nv gv : AV} {ps : List AV} {rows : List (List Int)} {good : List Bool} {k : Nat} (hn : IsRows nv ps rows) (v : VB rows good k) {iw : Nat} :
    ∀ (f i iq : Nat) (m : Mem) (q : AV) (S : List Nat × List (List UInt8)), Mp m iw (S.1.map encS) (S.2.map .str) → Gl m q iq 1 (S.1.length - i) ((S.1.drop i).map encS) → iw ≠ iq → BOk (· < 64) List.length S → i ≤ S.1.length → 64 < f + i →
    brand_Reset.L0 (.fptr [nv, gv]) (.map iw) q m KS = some (resP (bfs (nxS rows) extL stS k f i S), Mem.empty) := by
  intro f
  induction f with
  | zero =>
    intro i iq m q S hm hq hne hS hi hf
    have few := sets_few hS.nd hS.all
    omega
  | succ f ih =>
    intro i iq m q S hm hq hne hS hi hf
    by_cases c : i < S.1.length
    · have hx := List.getElem?_eq_getElem c
      have c2 : i < S.2.length := by rw [← hS.len]; exact c
      have hw := List.getElem?_eq_getElem c2
      generalize S.1[i] = x at hx
      generalize S.2[i] = w at hw
      have hx6 : x < 64 := hS.all x (List.mem_of_getElem? hx)
      have sok : 0 < S.1.length - i := by omega
      rw [bfs, hx, hw]
      simp only []
      have ld := hq.load1 (i := 0) (by omega)
      have e0 : ((S.1.drop i).map encS)[0]? = some (encS x) := by simp [hx]
      rw [e0] at ld
      have hi0 := hq.idx0 (by omega) .i64
      have few := sets_few hS.nd hS.all
      have l1 := fun z b => hm.look (keysS (· < 64)) hS.all hS.len (c := x) hx6 z b
      rw [lkP_at hS.nd hx hw] at l1
      have f1 := low_b hx6
      simp only [encS] at l1 ld
      by_cases hst : stS x = true
      · rw [if_pos hst]
        have hst' : lowB x = 0 := by simpa [stS] using hst
        rw [hst'] at f1
        simp only [Int.ofNat_zero, Int.cast_ofNat_Int] at f1
        rw [brand_Reset.L0_eq]
        simp [hq.len, sok, hi0, ld, f1, l1, resP, -binA_and]
        done
      · rw [if_neg hst]
        have hst' : ¬ lowB x = 0 := by simpa [stS] using hst
        have r0 := v.rl 0 v.n1
        have i0 := hn.idx (i := 0) v.n1 .i64
        have j0 := hn.head (i := 0) v.n1
        have iw0 := hn.row 0 v.n1
        have st := rst_in (gv := gv) hn v (iw := iw) (i := i) (x := x) (w := w) hx6 k 0 iq m q S (by omega) hm hq hne hx hw hS (fun m' q' iq' h1 h2 h3 => by
          obtain ⟨p', q'', e1, e2⟩ := bIn_pre (nxS rows) extL x w k 0 S
          have hS' := bIn_ok (nxS rows) extL (ok := (· < 64)) (ln := List.length) (k := k) (fun y a hy ha => stepB_lt v ha rows.length 0 0 (by omega) (by omega)) (fun w a => by simp [extL, ltr]) x w hx6 k 0 S (by omega) hS (hS.wl w (List.mem_of_getElem? hw))
          have hlen : i < (bIn (nxS rows) extL x w k 0 S).1.length := by rw [e1]; simp; omega
          have ht := h2.tail (by omega)
          exact ih (i + 1) iq' m' _ _ h1 (by
            have e : (bIn (nxS rows) extL x w k 0 S).1.length - (i + 1) = (bIn (nxS rows) extL x w k 0 S).1.length - i - 1 := by omega
            rw [e, ← List.drop_drop, List.map_drop]; exact ht) h3 hS' (by omega) (by omega))
        simp only [Int.ofNat_zero, Int.cast_ofNat_Int] at st i0
        rw [List.drop_zero] at i0 j0
        rw [brand_Reset.L0_eq]
        simp [hq.len, sok, hi0, ld, f1, hst', i0, j0, iw0.len, r0, -binA_and, show ¬ (lowB x : Int) = 0 by omega]
        exact st
    · have c0 : S.1.length - i = 0 := by omega
      have hx : S.1[i]? = none := List.getElem?_eq_none (by omega)
      have hl := hq.len
      rw [c0] at hl
      rw [bfs, hx, brand_Reset.L0_eq]
      simp [hl, resP, KS]
      done
theorem all_b {rows : List (List Int)} {good : List Bool} {k : Nat} (v : VB rows good k) : IntKind.wrap .i64 ((pwB rows.length : Int) - 1) = ((pwB rows.length - 1 : Nat) : Int) ∧ pwB rows.length - 1 < 64 := by
  have n6 := v.n6
  have h : pwB rows.length ≤ 64 := Nat.pow_le_pow_right (i := rows.length) (j := 6) (by omega) n6
  have h0 : 0 < pwB rows.length := Nat.pow_pos (by omega)
  exact ⟨by rw [wrap_id (by omega) (by omega)]; omega, by omega⟩
theorem reset_spec {nv gv : AV} {ps : List AV} {rows : List (List Int)} {good : List Bool} (hn : IsRows nv ps rows) (hg : IsB gv good) (hl : rows.length ≤ 1000) (hgl : good.length ≤ 1000) (hr : ∀ i, i < rows.length → (cth rows i).length ≤ 1000) (m : Mem) :
    denC prog ann 23 [.agg [nv, gv]] m = some (if validB rows good = true then resP (rstW rows (cth rows 0).length) else .tup [.str [], .int .i64 1], m) := by
  have h1 := fun m => valid_spec hn hg hl hgl hr m
  rw [brand_Reset.call_eq _ _ (by simp [hn.closed, hg.closed])]
  cases c0 : validB rows good with
  | false =>
    rw [c0] at h1
    simp [hn.one, hg.one, hn.closed, hg.closed, h1]
    done
  | true =>
    rw [c0] at h1
    have v := VB.of c0
    obtain ⟨f0, f1⟩ := all_b v
    have f2 := shl_b v.n6
    have hm0 : Mp ⟨upd Mem.empty.h 0 (some (AObj.map 0 [] [])), 1⟩ 0 (([] : List Nat).map encS) (([] : List (List UInt8)).map .str) := ⟨⟨0, by simp⟩, by show 0 < 1; omega⟩
    obtain ⟨m1, p1, p2, p3, p4⟩ := hm0.put (keysS (· < 64)) (by simp) rfl f1 (by simp) []
    simp only [encS] at p1
    have p3 : m1.nx = 1 := p3
    have st := rst_out (gv := gv) hn v (iw := 0) 65 0 1 ⟨upd m1.h 1 (some (AObj.cells [.int .i64 ((pwB rows.length - 1 : Nat) : Int)])), 2⟩ (.sl 1 1 0 1 1) ([pwB rows.length - 1], [[]]) (p2.fr (show upd m1.h 1 (some (AObj.cells [.int .i64 ((pwB rows.length - 1 : Nat) : Int)])) 0 = m1.h 0 from updNe (by omega)) (by show 0 < 2; omega)) ⟨⟨[], rfl, by simp [encS]⟩, rfl, by show 1 < 2; omega⟩ (by omega) ⟨by simp, by simpa using f1, rfl, by simp⟩ (by simp) (by omega)
    simp [hn.one, hg.one, hn.closed, hg.closed, h1, hn.len, f2, f0, p1, p3, -binA_shl]
    simp only [KS] at st
    rw [st]
    rfl
end Go.Proofs.Ythnpflkpjimkfaa

/-
  A SEARCH IN BREADTH FINDS A LEAST WORD; SETS OF STATES AND WORDS: plain law. Conditions: none.
-/
namespace Go.Proofs.Ythnpflkpjimkfaa
open Go.AM
open Go.Proofs.Try (prog)
set_option linter.all false
set_option maxRecDepth 100000
set_option maxHeartbeats 8000000
section
variable {α β : Type} [DecidableEq α] {nxt : α → Nat → α} {ext : β → Nat → β} {stop : α → Bool} {k : Nat} {ln : β → Nat} {Q : α → β → Prop}
structure BMin (nxt : α → Nat → α) (stop : α → Bool) (k : Nat) (ln : β → Nat) (Q : α → β → Prop) (i : Nat) (s : List α × List β) : Prop where
  l : s.1.length = s.2.length
  srt : ∀ (a b : Nat) (x y : β), a ≤ b → s.2[a]? = some x → s.2[b]? = some y → ln x ≤ ln y
  nx : ∀ (j : Nat) (x : α) (w : β), j < i → s.1[j]? = some x → s.2[j]? = some w → ∀ a, a < k → ∃ (m : Nat) (w' : β), s.1[m]? = some (nxt x a) ∧ s.2[m]? = some w' ∧ ln w' ≤ ln w + 1
  bnd : ∀ (j : Nat) (w w' : β), s.2[j]? = some w → s.2[i]? = some w' → ln w ≤ ln w' + 1
  nst : ∀ (j : Nat) (x : α), j < i → s.1[j]? = some x → stop x = false
  prov : ∀ (j : Nat) (x : α) (w : β), s.1[j]? = some x → s.2[j]? = some w → Q x w
theorem get_app {γ : Type} {l : List γ} {y z : γ} {j : Nat} (h : (l ++ [y])[j]? = some z) : l[j]? = some z ∨ (j = l.length ∧ z = y) := by
  by_cases c : j < l.length
  · rw [List.getElem?_append_left c] at h; exact Or.inl h
  · rw [List.getElem?_append_right (by omega)] at h
    have hj : j - l.length = 0 := by
      have := (List.getElem?_eq_some_iff.1 h).1
      simp at this; omega
    rw [hj] at h
    simp at h
    exact Or.inr ⟨by omega, h.symm⟩
theorem get_app_l {γ : Type} {l : List γ} {y z : γ} {j : Nat} (h : l[j]? = some z) : (l ++ [y])[j]? = some z := by
  rw [List.getElem?_append_left (List.getElem?_eq_some_iff.1 h).1]; exact h
theorem bmin_in (hex : ∀ w a, ln (ext w a) = ln w + 1) (hQ : ∀ x w a, Q x w → a < k → Q (nxt x a) (ext w a)) {x : α} {w : β} (hs : stop x = false) {i : Nat} : ∀ (j a : Nat) (s : List α × List β), a + j = k → BMin nxt stop k ln Q i s → s.1[i]? = some x → s.2[i]? = some w →
    (∀ b, b < a → ∃ (m : Nat) (w' : β), s.1[m]? = some (nxt x b) ∧ s.2[m]? = some w' ∧ ln w' ≤ ln w + 1) → BMin nxt stop k ln Q (i + 1) (bIn nxt ext x w j a s) ∧ (bIn nxt ext x w j a s).1[0]? = s.1[0]? ∧ (bIn nxt ext x w j a s).2[0]? = s.2[0]?
  | 0, a, s, ha, h, hx, hw, hd => by
    rw [show bIn nxt ext x w 0 a s = s from rfl]
    refine ⟨⟨h.l, h.srt, ?_, ?_, ?_, h.prov⟩, rfl, rfl⟩
    · intro j x' w' hj h1 h2 b hb
      by_cases c : j = i
      · subst c
        rw [hx] at h1; rw [hw] at h2
        cases h1; cases h2
        exact hd b (by omega)
      · exact h.nx j x' w' (by omega) h1 h2 b hb
    · intro j w1 w2 h1 h2
      have := h.bnd j w1 w h1 hw
      have := h.srt i (i + 1) w w2 (by omega) hw h2
      omega
    · intro j y hj h1
      by_cases c : j = i
      · subst c; rw [hx] at h1; cases h1; exact hs
      · exact h.nst j y (by omega) h1
  | j + 1, a, s, ha, h, hx, hw, hd => by
    rw [bIn]
    split
    · rename_i hm
      refine bmin_in hex hQ hs j (a + 1) s (by omega) h hx hw ?_
      intro b hb
      by_cases c : b = a
      · subst c
        obtain ⟨m, hm'⟩ := List.mem_iff_getElem?.1 hm
        have hml : m < s.2.length := by have := (List.getElem?_eq_some_iff.1 hm').1; have := h.l; omega
        exact ⟨m, s.2[m], hm', List.getElem?_eq_getElem hml, h.bnd m _ w (List.getElem?_eq_getElem hml) hw⟩
      · exact hd b (by omega)
    · have hle : ∀ j y, s.2[j]? = some y → ln y ≤ ln (ext w a) := fun j y hy => by
        rw [hex]; exact h.bnd j y w hy hw
      have hne : s.1.length ≠ 0 := by have := (List.getElem?_eq_some_iff.1 hx).1; omega
      have key := bmin_in hex hQ hs j (a + 1) (s.1 ++ [nxt x a], s.2 ++ [ext w a]) (by omega) (i := i) (w := w) ⟨by simp [h.l], ?_, ?_, ?_, ?_, ?_⟩ (get_app_l hx) (get_app_l hw) ?_
      · refine ⟨key.1, key.2.1.trans ?_, key.2.2.trans ?_⟩
        · exact List.getElem?_append_left (by omega)
        · exact List.getElem?_append_left (by have := h.l; omega)
      · intro p q y z hpq h1 h2
        rcases get_app h1 with h1 | ⟨h1, rfl⟩
        · rcases get_app h2 with h2 | ⟨h2, rfl⟩
          · exact h.srt p q y z hpq h1 h2
          · exact hle p y h1
        · rcases get_app h2 with h2 | ⟨h2, rfl⟩
          · have := (List.getElem?_eq_some_iff.1 h2).1; omega
          · exact Nat.le_refl _
      · intro p y z hp h1 h2 b hb
        have hil := (List.getElem?_eq_some_iff.1 hx).1
        rcases get_app h1 with h1 | ⟨h1, _⟩
        · rcases get_app h2 with h2 | ⟨h2, _⟩
          · obtain ⟨m, w', g1, g2, g3⟩ := h.nx p y z hp h1 h2 b hb
            exact ⟨m, w', get_app_l g1, get_app_l g2, g3⟩
          · have := h.l; omega
        · omega
      · intro p y z h1 h2
        have hil := (List.getElem?_eq_some_iff.1 hw).1
        rcases get_app h2 with h2 | ⟨h2, _⟩
        · rcases get_app h1 with h1 | ⟨h1, rfl⟩
          · exact h.bnd p y z h1 h2
          · rw [hw] at h2; cases h2; rw [hex]; exact Nat.le_refl _
        · omega
      · intro p y hp h1
        have hil := (List.getElem?_eq_some_iff.1 hx).1
        rcases get_app h1 with h1 | ⟨h1, _⟩
        · exact h.nst p y hp h1
        · omega
      · intro p y z h1 h2
        rcases get_app h1 with h1 | ⟨h1, rfl⟩
        · rcases get_app h2 with h2 | ⟨h2, _⟩
          · exact h.prov p y z h1 h2
          · have := (List.getElem?_eq_some_iff.1 h1).1; have := h.l; omega
        · rcases get_app h2 with h2 | ⟨h2, rfl⟩
          · have := (List.getElem?_eq_some_iff.1 h2).1; have := h.l; omega
          · exact hQ x w a (h.prov i x w hx hw) (by omega)
      · intro b hb
        by_cases c : b = a
        · subst c
          exact ⟨s.1.length, ext w b, by simp, by simp [h.l], by rw [hex]; exact Nat.le_refl _⟩
        · obtain ⟨m, w', g1, g2, g3⟩ := hd b (by omega)
          exact ⟨m, w', get_app_l g1, get_app_l g2, g3⟩
theorem bmin_bfs (hex : ∀ w a, ln (ext w a) = ln w + 1) (hQ : ∀ x w a, Q x w → a < k → Q (nxt x a) (ext w a)) : ∀ (f i : Nat) (s : List α × List β) (w : β), BMin nxt stop k ln Q i s → bfs nxt ext stop k f i s = some w →
    ∃ (S : List α × List β) (j : Nat) (x : α), BMin nxt stop k ln Q j S ∧ S.1[j]? = some x ∧ S.2[j]? = some w ∧ stop x = true ∧ S.1[0]? = s.1[0]? ∧ S.2[0]? = s.2[0]?
  | 0, i, s, w, _, h => by simp [bfs] at h
  | f + 1, i, s, w, hm, h => by
    rw [bfs] at h
    split at h
    · rename_i x w0 e1 e2
      by_cases c : stop x = true
      · rw [if_pos c] at h
        cases h
        exact ⟨s, i, x, hm, e1, e2, c, rfl, rfl⟩
      · rw [if_neg c] at h
        have c : stop x = false := by simpa using c
        obtain ⟨k1, k2, k3⟩ := bmin_in hex hQ c k 0 s (by omega) hm e1 e2 (fun b hb => by omega)
        obtain ⟨S, j, y, g1, g2, g3, g4, g5, g6⟩ := bmin_bfs hex hQ f (i + 1) _ w k1 h
        exact ⟨S, j, y, g1, g2, g3, g4, g5.trans k2, g6.trans k3⟩
    · cases h
theorem bfs_least (hex : ∀ w a, ln (ext w a) = ln w + 1) (hQ : ∀ x w a, Q x w → a < k → Q (nxt x a) (ext w a)) {f : Nat} {x0 : α} {w0 w : β} (h0 : ln w0 = 0) (q0 : Q x0 w0) (h : bfs nxt ext stop k f 0 ([x0], [w0]) = some w) :
    (∃ x, Q x w ∧ stop x = true) ∧ ∀ u : List Nat, (∀ a ∈ u, a < k) → stop (u.foldl nxt x0) = true → ln w ≤ u.length := by
  have hm : BMin nxt stop k ln Q 0 ([x0], [w0]) := by
    refine ⟨rfl, ?_, fun j x w hj => by omega, ?_, fun j x hj => by omega, ?_⟩
    · intro a b x y hab h1 h2
      have ha := (List.getElem?_eq_some_iff.1 h1).1
      have hb := (List.getElem?_eq_some_iff.1 h2).1
      simp at ha hb
      subst ha; subst hb
      rw [h1] at h2; cases h2; exact Nat.le_refl _
    · intro j w1 w2 h1 h2
      have ha := (List.getElem?_eq_some_iff.1 h1).1
      simp at ha
      subst ha
      rw [h1] at h2; cases h2; omega
    · intro j x w1 h1 h2
      have ha := (List.getElem?_eq_some_iff.1 h1).1
      simp at ha
      subst ha
      simp at h1 h2
      subst h1; subst h2
      exact q0
  obtain ⟨S, j, x, g1, g2, g3, g4, g5, g6⟩ := bmin_bfs hex hQ f 0 _ w hm h
  refine ⟨⟨x, g1.prov j x w g2 g3, g4⟩, ?_⟩
  intro u hu hst
  apply Classical.byContradiction
  intro hlt
  have hlt : u.length < ln w := by omega
  have key : ∀ t, t ≤ u.length → ∃ (m : Nat) (w' : β), S.1[m]? = some ((u.take t).foldl nxt x0) ∧ S.2[m]? = some w' ∧ ln w' ≤ t := by
    intro t
    induction t with
    | zero => intro _; exact ⟨0, w0, by rw [g5]; rfl, by rw [g6]; rfl, by omega⟩
    | succ t ih =>
      intro ht
      obtain ⟨m, w', h1, h2, h3⟩ := ih (by omega)
      have hmj : m < j := by
        apply Classical.byContradiction
        intro c
        have := g1.srt j m w w' (by omega) g3 h2
        omega
      obtain ⟨m', w'', k1, k2, k3⟩ := g1.nx m _ w' hmj h1 h2 u[t] (hu _ (List.getElem_mem _))
      refine ⟨m', w'', ?_, k2, by omega⟩
      rw [List.take_add_one, List.getElem?_eq_getElem (show t < u.length by omega), List.foldl_append]
      exact k1
  obtain ⟨m, w', h1, h2, h3⟩ := key u.length (Nat.le_refl _)
  rw [List.take_length] at h1
  have hmj : m < j := by
    apply Classical.byContradiction
    intro c
    have := g1.srt j m w w' (by omega) g3 h2
    omega
  have := g1.nst m _ hmj h1
  rw [hst] at this
  cases this
end
theorem shB_bit (x s : Nat) : shB x s % 2 = 1 ↔ x.testBit s = true := by
  rw [Nat.testBit_eq_decide_div_mod_eq, decide_eq_true_eq]; rfl
theorem stepB_bit (rows : List (List Int)) (x a t : Nat) : ∀ (j s y : Nat), (stepB rows x a j s y).testBit t = true ↔ y.testBit t = true ∨ ∃ s', s ≤ s' ∧ s' < s + j ∧ x.testBit s' = true ∧ nx rows s' a = t
  | 0, s, y => by
    rw [stepB]
    constructor
    · exact Or.inl
    · rintro (h | ⟨s', h1, h2, _⟩)
      · exact h
      · omega
  | j + 1, s, y => by
    rw [stepB, stepB_bit rows x a t j]
    have hy : (if shB x s % 2 = 1 then y ||| pwB (nx rows s a) else y).testBit t = true ↔ y.testBit t = true ∨ (x.testBit s = true ∧ nx rows s a = t) := by
      by_cases c : shB x s % 2 = 1
      · rw [if_pos c, Nat.testBit_or, Bool.or_eq_true, pwB, Nat.testBit_two_pow, decide_eq_true_eq]
        have := (shB_bit x s).1 c
        simp [this]
      · rw [if_neg c]
        have : ¬ x.testBit s = true := fun h => c ((shB_bit x s).2 h)
        simp [this]
    rw [hy]
    constructor
    · rintro ((h | ⟨h1, h2⟩) | ⟨s', h1, h2, h3, h4⟩)
      · exact Or.inl h
      · exact Or.inr ⟨s, by omega, by omega, h1, h2⟩
      · exact Or.inr ⟨s', by omega, by omega, h3, h4⟩
    · rintro (h | ⟨s', h1, h2, h3, h4⟩)
      · exact Or.inl (Or.inl h)
      · by_cases c : s' = s
        · subst c; exact Or.inl (Or.inr ⟨h3, h4⟩)
        · exact Or.inr ⟨s', by omega, by omega, h3, h4⟩
theorem nxS_bit (rows : List (List Int)) (x a t : Nat) : (nxS rows x a).testBit t = true ↔ ∃ s, s < rows.length ∧ x.testBit s = true ∧ nx rows s a = t := by
  rw [nxS, stepB_bit]
  simp
theorem low_dec : (List.range 64).all (fun x => decide (lowB x = 0) == (List.range 6).all fun s => (List.range 6).all fun t => decide (x.testBit s = true → x.testBit t = true → s = t)) = true := by decide +kernel
theorem low_iff {x : Nat} (hx : x < 64) : lowB x = 0 ↔ ∀ s, s < 6 → ∀ t, t < 6 → x.testBit s = true → x.testBit t = true → s = t := by
  have h := List.all_eq_true.1 low_dec x (List.mem_range.2 hx)
  rw [beq_iff_eq, Bool.eq_iff_iff, decide_eq_true_eq] at h
  rw [h]
  simp only [List.all_eq_true, List.mem_range, decide_eq_true_eq]
theorem low_one (x : Nat) (hx : x < 64) (h : lowB x = 0) : ∀ s, s < 6 → ∀ t, t < 6 → x.testBit s = true → x.testBit t = true → s = t := (low_iff hx).1 h
theorem one_low (x : Nat) (hx : x < 64) (h : ∀ s, s < 6 → ∀ t, t < 6 → x.testBit s = true → x.testBit t = true → s = t) : lowB x = 0 := (low_iff hx).2 h
theorem lt64 {x : Nat} (h : ∀ t, x.testBit t = true → t < 6) : x < 64 := by
  apply Nat.lt_pow_two_of_testBit (n := 6)
  intro i hi
  cases c : x.testBit i with
  | false => rfl
  | true => have := h i c; omega
end Go.Proofs.Ythnpflkpjimkfaa

/-
  WORDS THAT LEAD ALL STATES TO ONE: pairs, sizes, layers: plain law. Conditions: none.
-/
set_option linter.all false
namespace Cz
def run (w : List (Nat → Nat)) (s : Nat) : Nat := w.foldl (fun s f => f s) s
theorem run_app (w v : List (Nat → Nat)) (s : Nat) : run (w ++ v) s = run v (run w s) := by simp [run, List.foldl_append]
theorem run_cons (f : Nat → Nat) (w : List (Nat → Nat)) (s : Nat) : run (f :: w) s = run w (f s) := rfl
def Wd (L : (Nat → Nat) → Prop) (w : List (Nat → Nat)) : Prop := ∀ f ∈ w, L f
def Mg (L : (Nat → Nat) → Prop) (j s t : Nat) : Prop := ∃ w, Wd L w ∧ w.length ≤ j ∧ run w s = run w t
def Syn (N : Nat) (L : (Nat → Nat) → Prop) : Prop := ∃ w, Wd L w ∧ ∀ s, s < N → ∀ t, t < N → run w s = run w t
def SynB (N : Nat) (L : (Nat → Nat) → Prop) (B : Nat) : Prop := ∃ w, Wd L w ∧ w.length ≤ B ∧ ∀ s, s < N → ∀ t, t < N → run w s = run w t
def In (N : Nat) (L : (Nat → Nat) → Prop) : Prop := ∀ f, L f → ∀ s, s < N → f s < N
theorem Mg.mono {L : (Nat → Nat) → Prop} {i j s t : Nat} (h : Mg L i s t) (hij : i ≤ j) : Mg L j s t := by
  obtain ⟨w, h1, h2, h3⟩ := h
  exact ⟨w, h1, by omega, h3⟩
theorem Mg.sub {L L' : (Nat → Nat) → Prop} (hL : ∀ f, L f → L' f) {i s t : Nat} (h : Mg L i s t) : Mg L' i s t := by
  obtain ⟨w, h1, h2, h3⟩ := h
  exact ⟨w, fun f hf => hL f (h1 f hf), h2, h3⟩
theorem Mg.symm {L : (Nat → Nat) → Prop} {i s t : Nat} (h : Mg L i s t) : Mg L i t s := by
  obtain ⟨w, h1, h2, h3⟩ := h
  exact ⟨w, h1, h2, h3.symm⟩
theorem Mg.step {L : (Nat → Nat) → Prop} {f : Nat → Nat} (hf : L f) {i s t : Nat} (h : Mg L i (f s) (f t)) : Mg L (i + 1) s t := by
  obtain ⟨w, h1, h2, h3⟩ := h
  refine ⟨f :: w, ?_, by simpa using h2, h3⟩
  intro g hg
  rcases List.mem_cons.1 hg with e | e
  · rw [e]; exact hf
  · exact h1 g e
theorem run_lt {N : Nat} {L : (Nat → Nat) → Prop} (hN : In N L) : ∀ (w : List (Nat → Nat)), Wd L w → ∀ s, s < N → run w s < N
  | [], _, s, hs => hs
  | f :: w, h, s, hs => run_lt hN w (fun g hg => h g (List.mem_cons_of_mem _ hg)) _ (hN f (h f (List.mem_cons_self ..)) s hs)
theorem nds : ∀ {α : Type} [DecidableEq α] {d m : List α}, d.Nodup → (∀ x ∈ d, x ∈ m) → d.length ≤ m.length
  | α, _, [], m, _, _ => by simp
  | α, _, x :: d, m, hd, h => by
    rw [List.nodup_cons] at hd
    have hx := h x (List.mem_cons_self ..)
    have : ∀ y ∈ d, y ∈ m.erase x := fun y hy => by
      have hne : y ≠ x := fun e => hd.1 (e ▸ hy)
      exact (List.mem_erase_of_ne hne).2 (h y (List.mem_cons_of_mem _ hy))
    have := nds hd.2 this
    rw [List.length_erase_of_mem hx] at this
    have := List.length_pos_of_mem hx
    simp only [List.length_cons]
    omega
def sumE (e : Nat → Nat) : Nat → Nat
  | 0 => 0
  | k + 1 => sumE e k + (if 1 ≤ k then e (k + 1) else 0)
def Cl (N : Nat) (L : (Nat → Nat) → Prop) (k e : Nat) : Prop := ∀ c : List Nat, c.Sublist (List.range N) → c.length = k → ∃ s, s ∈ c ∧ ∃ t, t ∈ c ∧ s ≠ t ∧ Mg L e s t
theorem red {N : Nat} {L : (Nat → Nat) → Prop} (hN : In N L) {e : Nat → Nat} {r : Nat} (he : ∀ k, 2 ≤ k → k ≤ r → Cl N L k (e k)) : ∀ k, k ≤ r → ∀ m : List Nat, m.length ≤ k → (∀ x ∈ m, x < N) → ∃ w, Wd L w ∧ w.length ≤ sumE e k ∧ ∀ x ∈ m, ∀ y ∈ m, run w x = run w y := by
  intro k
  induction k with
  | zero =>
    intro _ m hm _
    have : m = [] := List.eq_nil_of_length_eq_zero (by omega)
    subst this
    exact ⟨[], by intro f hf; simp at hf, by simp, by intro x hx; simp at hx⟩
  | succ k ih =>
    intro hk m hm hlt
    let d := (List.range N).filter (fun x => decide (x ∈ m))
    have hd : ∀ x, x ∈ d ↔ x ∈ m := by
      intro x
      simp only [d, List.mem_filter, List.mem_range, decide_eq_true_eq]
      exact ⟨fun h => h.2, fun h => ⟨hlt x h, h⟩⟩
    have hs : d.Sublist (List.range N) := List.filter_sublist
    have hnd : d.Nodup := hs.nodup List.nodup_range
    have hl : d.length ≤ m.length := nds hnd fun x hx => (hd x).1 hx
    by_cases c : d.length ≤ k
    · obtain ⟨w, h1, h2, h3⟩ := ih (by omega) d c (fun x hx => hlt x ((hd x).1 hx))
      exact ⟨w, h1, by rw [sumE]; omega, fun x hx y hy => h3 x ((hd x).2 hx) y ((hd y).2 hy)⟩
    · have hlen : d.length = k + 1 := by omega
      by_cases c0 : 1 ≤ k
      · obtain ⟨s, hsd, t, htd, hne, w1, g1, g2, g3⟩ := he (k + 1) (by omega) hk d hs hlen
        have ht' : t ∈ d.erase s := (List.mem_erase_of_ne (fun e => hne e.symm)).2 htd
        have hlm : ((d.erase s).map (run w1)).length ≤ k := by rw [List.length_map, List.length_erase_of_mem hsd]; omega
        obtain ⟨w2, k1, k2, k3⟩ := ih (by omega) ((d.erase s).map (run w1)) hlm (by
          intro x hx
          obtain ⟨y, hy, rfl⟩ := List.mem_map.1 hx
          exact run_lt hN w1 g1 y (hlt y ((hd y).1 (List.mem_of_mem_erase hy))))
        have key : ∀ x ∈ m, run w1 x ∈ (d.erase s).map (run w1) := by
          intro x hx
          by_cases q : x = s
          · rw [q, g3]; exact List.mem_map_of_mem ht'
          · exact List.mem_map_of_mem ((List.mem_erase_of_ne q).2 ((hd x).2 hx))
        refine ⟨w1 ++ w2, ?_, ?_, ?_⟩
        · intro f hf
          rcases List.mem_append.1 hf with h | h
          · exact g1 f h
          · exact k1 f h
        · rw [sumE, if_pos c0, List.length_append]; omega
        · intro x hx y hy
          rw [run_app, run_app]
          exact k3 _ (key x hx) _ (key y hy)
      · have k0 : k = 0 := by omega
        subst k0
        refine ⟨[], by intro f hf; simp at hf, by simp, ?_⟩
        intro x hx y hy
        have hx := (hd x).2 hx
        have hy := (hd y).2 hy
        match d, hlen, hx, hy with
        | [z], _, hx, hy =>
          rw [List.mem_singleton] at hx hy
          rw [hx, hy]
theorem fin {N LIM r : Nat} {L : (Nat → Nat) → Prop} (hN : In N L) {e : Nat → Nat} (he : ∀ k, 2 ≤ k → k ≤ r → Cl N L k (e k)) {a : Nat → Nat} (ha : L a) {m : List Nat} (hm : m.length ≤ r) (hlt : ∀ x ∈ m, x < N) (hi : ∀ s, s < N → a s ∈ m) (hs : 1 + sumE e r ≤ LIM) : SynB N L LIM := by
  obtain ⟨w, h1, h2, h3⟩ := red hN he r (Nat.le_refl _) m hm hlt
  refine ⟨a :: w, ?_, by simp only [List.length_cons]; omega, ?_⟩
  · intro f hf
    rcases List.mem_cons.1 hf with h | h
    · rw [h]; exact ha
    · exact h1 f h
  · intro s hs t ht
    exact h3 _ (hi s hs) _ (hi t ht)
noncomputable def mp {α β : Type} (f : α → β) (l : List α) : List β := l.rec [] (fun x _ ih => f x :: ih)
noncomputable def cat {α : Type} (l m : List α) : List α := l.rec m (fun x _ ih => x :: ih)
noncomputable def pr {α : Type} (l : List α) : List (α × α) := l.rec [] (fun x xs ih => cat (mp (fun y => (x, y)) xs) ih)
theorem mp_eq {α β : Type} (f : α → β) : ∀ l : List α, mp f l = l.map f
  | [] => rfl
  | x :: l => congrArg (f x :: ·) (mp_eq f l)
theorem cat_eq {α : Type} : ∀ (l m : List α), cat l m = l ++ m
  | [], m => rfl
  | x :: l, m => congrArg (x :: ·) (cat_eq l m)
theorem pr_cons {α : Type} (x : α) (xs : List α) : pr (x :: xs) = xs.map (fun y => (x, y)) ++ pr xs := by
  show cat (mp _ xs) (pr xs) = _
  rw [cat_eq, mp_eq]
theorem pr_nil {α : Type} : pr ([] : List α) = [] := rfl
theorem pr_map {α β : Type} (f : α → β) : ∀ l : List α, pr (l.map f) = (pr l).map fun p => (f p.1, f p.2)
  | [] => rfl
  | x :: l => by
    rw [List.map_cons, pr_cons, pr_cons, List.map_append, pr_map f l]
    simp [Function.comp_def]
theorem pr_sub {α : Type} {l m : List α} (h : l.Sublist m) : (pr l).Sublist (pr m) := by
  induction h with
  | slnil => exact List.Sublist.refl _
  | cons a h ih => rw [pr_cons]; exact ih.trans (List.sublist_append_right ..)
  | cons_cons a h ih =>
    rw [pr_cons, pr_cons]
    exact List.Sublist.append (h.map _) ih
theorem pr_mem {α : Type} : ∀ {l : List α} {x y : α}, (x, y) ∈ pr l → x ∈ l ∧ y ∈ l
  | [], x, y, h => by simp [pr_nil] at h
  | z :: l, x, y, h => by
    rw [pr_cons, List.mem_append, List.mem_map] at h
    rcases h with ⟨u, hu, e⟩ | h
    · cases e; exact ⟨List.mem_cons_self .., List.mem_cons_of_mem _ hu⟩
    · have := pr_mem h
      exact ⟨List.mem_cons_of_mem _ this.1, List.mem_cons_of_mem _ this.2⟩
theorem pr_len {α : Type} : ∀ l : List α, (pr l).length = l.length * (l.length - 1) / 2
  | [] => by simp [pr_nil]
  | x :: l => by
    rw [pr_cons, List.length_append, List.length_map, pr_len l, List.length_cons]
    simp only [Nat.add_sub_cancel]
    generalize l.length = n
    cases n with
    | zero => rfl
    | succ n =>
      have e : (n + 1 + 1) * (n + 1) = (n + 1) * n + 2 * (n + 1) := by rw [Nat.mul_comm (n + 1) n, ← Nat.add_mul]
      simp only [Nat.add_sub_cancel]
      rw [e, Nat.add_mul_div_left _ _ (by omega)]
      omega
theorem pr_lt {c : List Nat} (h : c.Pairwise (· < ·)) {x y : Nat} : (x, y) ∈ pr c → x < y := by
  induction h with
  | nil => intro h; simp [pr_nil] at h
  | @cons z l h1 h2 ih =>
    intro h
    rw [pr_cons, List.mem_append, List.mem_map] at h
    rcases h with ⟨v, hu, e⟩ | h
    · cases e; exact h1 _ hu
    · exact ih h
theorem pr_nodup {c : List Nat} (h : c.Pairwise (· < ·)) : (pr c).Nodup := by
  induction h with
  | nil => simp [pr_nil]
  | @cons a l h1 h2 ih =>
    rw [pr_cons, List.nodup_append]
    refine ⟨?_, ih, ?_⟩
    · have : l.Nodup := h2.imp fun h => Nat.ne_of_lt h
      rw [List.Nodup, List.pairwise_map]
      exact this.imp fun h e => h (Prod.mk.inj e).2
    · intro p hp q hq e
      subst e
      obtain ⟨u, hu, rfl⟩ := List.mem_map.1 hp
      have := h1 a (pr_mem hq).1
      omega
theorem range_pw (N : Nat) : (List.range N).Pairwise (· < ·) := List.pairwise_lt_range
theorem pr_range {N s t : Nat} : (s, t) ∈ pr (List.range N) ↔ s < t ∧ t < N := by
  constructor
  · intro h
    have h1 := pr_mem h
    exact ⟨pr_lt (range_pw N) h, List.mem_range.1 h1.2⟩
  · intro ⟨h1, h2⟩
    have : [s, t].Sublist (List.range N) := by
      have hs : [s, t] = (List.range N).filter (fun x => x = s ∨ x = t) ∨ True := Or.inr trivial
      have e1 : List.range N = List.range s ++ (List.range (N - s)).map (s + ·) := by
        rw [← List.range_add, Nat.add_sub_cancel' (by omega)]
      have e2 : List.range (N - s) = 0 :: (List.range (N - s - 1)).map (· + 1) := by
        obtain ⟨q, hq⟩ : ∃ q, N - s = q + 1 := ⟨N - s - 1, by omega⟩
        rw [hq, List.range_succ_eq_map]; rfl
      rw [e1, e2, List.map_cons]
      refine List.Sublist.trans ?_ (List.sublist_append_right ..)
      refine List.Sublist.cons_cons _ ?_
      rw [List.singleton_sublist]
      simp only [List.mem_map, List.mem_range]
      exact ⟨t - s, ⟨t - s - 1, by omega, by omega⟩, by omega⟩
    have := pr_sub this
    have hm : (s, t) ∈ pr [s, t] := by simp [pr_cons, pr_nil]
    exact this.subset hm
theorem depth {N : Nat} {L : (Nat → Nat) → Prop} (hN : In N L) {i : Nat} : ∀ (w : List (Nat → Nat)) (s t : Nat), Wd L w → run w s = run w t → s < N → t < N → ¬ Mg L i s t → ∃ s' t', s' < N ∧ t' < N ∧ Mg L (i + 1) s' t' ∧ ¬ Mg L i s' t'
  | [], s, t, _, h, hs, ht, hn => absurd ⟨[], by intro f hf; simp at hf, by simp, h⟩ hn
  | f :: w, s, t, hw, h, hs, ht, hn => by
    have hf := hw f (List.mem_cons_self ..)
    by_cases c : Mg L i (f s) (f t)
    · exact ⟨s, t, hs, ht, c.step hf, hn⟩
    · exact depth hN w (f s) (f t) (fun g hg => hw g (List.mem_cons_of_mem _ hg)) h (hN f hf s hs) (hN f hf t ht) c
theorem depth' {N : Nat} {L : (Nat → Nat) → Prop} (hN : In N L) (hS : Syn N L) {i s t : Nat} (hs : s < N) (ht : t < N) (h : ¬ Mg L i s t) : ∃ p : Nat × Nat, p.1 < p.2 ∧ p.2 < N ∧ Mg L (i + 1) p.1 p.2 ∧ ¬ Mg L i p.1 p.2 := by
  obtain ⟨w, h1, h2⟩ := hS
  obtain ⟨s', t', g1, g2, g3, g4⟩ := depth hN w s t h1 (h2 s hs t ht) hs ht h
  rcases Nat.lt_trichotomy s' t' with q | q | q
  · exact ⟨(s', t'), q, g2, g3, g4⟩
  · subst q; exact absurd ⟨[], by intro f hf; simp at hf, by simp, rfl⟩ g4
  · exact ⟨(t', s'), q, g1, g3.symm, fun h => g4 h.symm⟩
theorem depths {N : Nat} {L : (Nat → Nat) → Prop} (hN : In N L) (hS : Syn N L) (j : Nat) : ∀ n s t, s < N → t < N → ¬ Mg L (j + n) s t → ∃ P : List (Nat × Nat), P.length = n ∧ P.Nodup ∧ ∀ p ∈ P, p.1 < p.2 ∧ p.2 < N ∧ Mg L (j + n) p.1 p.2 ∧ ¬ Mg L j p.1 p.2
  | 0, s, t, hs, ht, h => ⟨[], rfl, List.nodup_nil, by intro p hp; simp at hp⟩
  | n + 1, s, t, hs, ht, h => by
    have h' : ¬ Mg L (j + n) s t := fun q => h (q.mono (by omega))
    obtain ⟨P, h1, h2, h3⟩ := depths hN hS j n s t hs ht h'
    obtain ⟨p, g1, g2, g3, g4⟩ := depth' hN hS hs ht h'
    refine ⟨p :: P, by simp [h1], ?_, ?_⟩
    · rw [List.nodup_cons]
      exact ⟨fun hp => g4 (h3 p hp).2.2.1, h2⟩
    · intro q hq
      rcases List.mem_cons.1 hq with e | e
      · subst e
        exact ⟨g1, g2, g3, fun h => g4 (h.mono (by omega))⟩
      · obtain ⟨k1, k2, k3, k4⟩ := h3 q e
        exact ⟨k1, k2, k3.mono (by omega), k4⟩
theorem layer {N : Nat} {L : (Nat → Nat) → Prop} (hN : In N L) (hS : Syn N L) {j u : Nat} {kn : Nat × Nat → Bool} (hk : ∀ p ∈ pr (List.range N), kn p = true → Mg L j p.1 p.2) (hu : ((pr (List.range N)).filter fun p => !kn p).length ≤ u) {k : Nat} (k2 : 2 ≤ k) : Cl N L k (j + (u + 1 - k * (k - 1) / 2)) := by
  intro c hc hl
  apply Classical.byContradiction
  intro hno
  have hno : ∀ s ∈ c, ∀ t ∈ c, s ≠ t → ¬ Mg L (j + (u + 1 - k * (k - 1) / 2)) s t := fun s hs t ht hne h => hno ⟨s, hs, t, ht, hne, h⟩
  have hpw : c.Pairwise (· < ·) := (range_pw N).sublist hc
  have hlt : ∀ x ∈ c, x < N := fun x hx => List.mem_range.1 (hc.subset hx)
  obtain ⟨p, hp⟩ : ∃ p, p ∈ pr c := by
    match c, hl with
    | x :: y :: c, _ => exact ⟨(x, y), by rw [pr_cons]; simp⟩
    | [x], h => simp at h; omega
    | [], h => simp at h; omega
  have hpm := pr_mem hp
  have hplt := pr_lt hpw hp
  obtain ⟨P, h1, h2, h3⟩ := depths hN hS j _ p.1 p.2 (hlt _ hpm.1) (hlt _ hpm.2) (hno p.1 hpm.1 p.2 hpm.2 (by omega))
  have hprn := pr_nodup hpw
  have hbig : (P ++ pr c).Nodup := by
    rw [List.nodup_append]
    refine ⟨h2, hprn, ?_⟩
    intro x hx y hy e
    subst e
    have g := pr_mem hy
    exact hno x.1 g.1 x.2 g.2 (by have := pr_lt hpw hy; omega) (h3 x hx).2.2.1
  have hsub : ∀ x ∈ P ++ pr c, x ∈ (pr (List.range N)).filter fun p => !kn p := by
    intro x hx
    have hnm : x ∈ pr (List.range N) ∧ ¬ Mg L j x.1 x.2 := by
      rcases List.mem_append.1 hx with h | h
      · obtain ⟨g1, g2, g3, g4⟩ := h3 x h
        exact ⟨pr_range.2 ⟨g1, g2⟩, g4⟩
      · have g := pr_mem h
        exact ⟨(pr_sub hc).subset h, fun q => hno x.1 g.1 x.2 g.2 (by have := pr_lt hpw h; omega) (q.mono (by omega))⟩
    rw [List.mem_filter]
    refine ⟨hnm.1, ?_⟩
    cases e : kn x with
    | false => rfl
    | true => exact absurd (hk x hnm.1 e) hnm.2
  have := nds hbig hsub
  rw [List.length_append, h1, pr_len, hl] at this
  omega
theorem Cl.of3 {N : Nat} {L : (Nat → Nat) → Prop} {e k : Nat} (h : Cl N L 3 e) (hk : 3 ≤ k) : Cl N L k e := by
  intro c hc hl
  obtain ⟨s, hs, t, ht, g⟩ := h (c.take 3) ((List.take_sublist ..).trans hc) (by rw [List.length_take]; omega)
  exact ⟨s, List.mem_of_mem_take hs, t, List.mem_of_mem_take ht, g⟩
end Cz

/-
  A SEARCH OF ALL TRIPLES OF MAPS BY BITS. Conditions: none.
-/
set_option linter.all false
set_option maxRecDepth 1000000
namespace Cz
noncomputable def nth (l : List Nat) : Nat → Nat := l.rec (fun _ => 0) (fun x _ ih k => k.rec x (fun k _ => ih k))
noncomputable def nthL (l : List (List Nat)) : Nat → List Nat := l.rec (fun _ => []) (fun x _ ih k => k.rec x (fun k _ => ih k))
noncomputable def ifb {α : Type} (b : Bool) (x y : α) : α := b.rec y x
noncomputable def tk {α : Type} (n : Nat) : List α → List α := n.rec (fun _ => []) (fun _ ih l => l.rec [] (fun x l' _ => x :: ih l'))
noncomputable def dropN {α : Type} (n : Nat) : List α → List α := n.rec (fun l => l) (fun _ ih l => l.rec [] (fun _ l' _ => ih l'))
noncomputable def tl {α : Type} (l : List α) : List α := l.rec [] (fun _ l' _ => l')
noncomputable def rev {α : Type} (l : List α) : List α → List α := l.rec (fun m => m) (fun x _ ih m => ih (x :: m))
noncomputable def len {α : Type} (l : List α) : Nat := l.rec 0 (fun _ _ ih => Nat.add ih 1)
noncomputable def ones (w : Nat) : Nat := Nat.sub (Nat.pow 2 w) 1
noncomputable def rpn (n w x : Nat) : Nat := n.rec 0 (fun _ ih => Nat.lor (Nat.shiftLeft ih w) x)
noncomputable def sel (R p u : Nat) : Nat := ifb (Nat.beq (Nat.mod u 2) 1) (Nat.land R p) (Nat.xor R (Nat.land R p))
noncomputable def dm (R : Nat) (ps : List Nat) : Nat → Nat := ps.rec (fun _ => R) (fun p _ ih u => Nat.land (sel R p u) (ih (Nat.div u 2)))
noncomputable def tabP (N R : Nat) (pl : List (List Nat)) : List (List Nat) := mp (fun ps => mp (dm R ps) (List.range N)) pl
noncomputable def tabR (n w : Nat) (T : List (List Nat)) : List (List Nat) := mp (mp (rpn n w)) T
noncomputable def tabC (N R : Nat) (f : List Nat) : List (List Nat) := mp (fun v => mp (fun u => ifb (Nat.beq u v) R 0) (List.range N)) f
noncomputable def blk (w o u : Nat) (ds : List Nat) : Nat := ds.rec 0 (fun d _ ih => Nat.lor (Nat.shiftLeft ih w) (ifb (Nat.beq d u) o 0))
noncomputable def tabB (N w : Nat) (bs : List (List Nat)) : List (List Nat) := mp (fun s => (fun ds => mp (fun u => blk w (ones w) u ds) (List.range N)) (mp (fun b => nth b s) bs)) (List.range N)
noncomputable def dg (j : Nat) (ps : List Nat) : Nat := ps.rec 0 (fun p _ ih => Nat.add (Nat.mod (Nat.shiftRight p j) 2) (Nat.mul 2 ih))
noncomputable def ltr (pl : List (List Nat)) (j : Nat) : List Nat := mp (dg j) pl
noncomputable def zp (l : List Nat) : List Nat → List (Nat × Nat) := l.rec (fun _ => []) (fun x _ ih m => m.rec [] (fun y m' _ => (x, y) :: ih m'))
noncomputable def dot (V : List Nat) : List Nat → Nat := V.rec (fun _ => 0) (fun v _ ih M => M.rec 0 (fun m M' _ => Nat.lor (Nat.land v m) (ih M')))
noncomputable def rowOf (P : List Nat × List Nat) : List Nat := dot P.1 P.2 :: mp (fun Q => Nat.lor (Nat.land Q.1.1 Q.2.2) (Nat.land Q.1.2 Q.2.1)) (pr (zp P.1 P.2))
noncomputable def rowsOf (T : List (List Nat)) : List (List Nat) := mp rowOf (pr T)
noncomputable def zo (l : List Nat) : List Nat → List Nat := l.rec (fun _ => []) (fun x _ ih m => m.rec [] (fun y m' _ => Nat.lor x y :: ih m'))
noncomputable def zoo (l : List (List Nat)) : List (List Nat) → List (List Nat) := l.rec (fun _ => []) (fun x _ ih m => m.rec [] (fun y m' _ => zo x y :: ih m'))
noncomputable def round (R : Nat) (fl V : List Nat) : List (List Nat) → List Nat := V.rec (fun _ => []) (fun v _ ih Ms => Ms.rec [] (fun M Ms' _ => ifb (Nat.beq v R) v (dot fl M) :: ih Ms'))
noncomputable def leq (V : List Nat) : List Nat → Bool := V.rec (fun W => W.rec true (fun _ _ _ => false)) (fun v _ ih W => W.rec false (fun w W' _ => ifb (Nat.beq v w) (ih W') false))
noncomputable def runs (R : Nat) (Ms : List (List Nat)) (f : Nat) : List Nat → List (List Nat) → List (List Nat) := f.rec (fun _ H => []) (fun _ ih V H => (fun W => ifb (leq W V) (V :: H) (ih W (V :: H))) (round R (R :: V) V Ms))
noncomputable def allA (R : Nat) (V : List Nat) : Nat := V.rec R (fun v _ ih => Nat.land v ih)
noncomputable def dropL {α : Type} (l : List α) : List Nat → List Nat := l.rec (fun V => V) (fun _ _ ih V => ih (tl V))
noncomputable def go (n : Nat) : List Nat → List Nat → Nat → List Nat → List Nat := n.rec (fun _ _ _ res => res) (fun _ ih ws V acc res => ws.rec res (fun w ws' _ => res.rec [] (fun r rs _ => ih ws' (dropL ws' V) acc (Nat.land r (Nat.lor acc w) :: ih (zo ws' V) (dropL ws' V) (Nat.lor acc w) rs))))
noncomputable def rep {α : Type} (n : Nat) (x : α) : List α := n.rec [] (fun _ ih => x :: ih)
noncomputable def covs (N R r : Nat) (V : List Nat) : List Nat := tl (go N (rep N 0) V 0 (rep r R))
noncomputable def conv (ts : List Nat) (F : List Nat) : List Nat := ts.rec (rep 40 0) (fun t _ ih => 0 :: zo (mp (Nat.land t) F) ih)
noncomputable def ext (n : Nat) : Nat → List Nat → List Nat := n.rec (fun _ _ => []) (fun _ ih last As => As.rec (last :: ih last []) (fun a As' _ => a :: ih a As'))
noncomputable def lev (LIM : Nat) (CL : List (List Nat)) (n : Nat) : Nat → List Nat → List Nat := n.rec (fun _ F => F) (fun _ ih k F => ih (Nat.succ k) (conv (mp (fun c => nth c k) (tk (Nat.div LIM (Nat.succ k)) CL)) F))
noncomputable def okm (LIM r : Nat) (CL : List (List Nat)) : Nat := nth (lev LIM CL (Nat.sub r 2) 1 (ext (Nat.succ LIM) 0 (0 :: mp (fun c => nth c 0) CL))) LIM
noncomputable def img1 (f : List Nat) (S : Nat) : Nat := f.rec (fun _ => 0) (fun v _ ih S => Nat.lor (ifb (Nat.beq (Nat.mod S 2) 1) (Nat.shiftLeft 1 v) 0) (ih (Nat.div S 2))) S
noncomputable def one1 (S : Nat) : Bool := (([1, 2, 4, 8, 16, 32] : List Nat).rec false (fun x _ ih => ifb (Nat.beq S x) true ih) : Bool)
noncomputable def frc (n : Nat) (k : Nat → Bool) : Bool := n.rec (k 0) (fun m _ => k (Nat.succ m))
noncomputable def bt (v T : Nat) : Bool := Nat.beq (Nat.mod (Nat.shiftRight v T) 2) 1
noncomputable def ex1 (S : Nat) (fs : List (List Nat)) (cont : Nat → List Nat → Bool) : Nat → List Nat → Bool := fs.rec cont (fun f _ ih vis acc => frc (img1 f S) fun T => ifb (bt vis T) (ih vis acc) (frc (Nat.lor vis (Nat.shiftLeft 1 T)) fun v => ih v (T :: acc)))
noncomputable def exs (fs : List (List Nat)) (l : List Nat) (cont : Nat → List Nat → Bool) : Nat → List Nat → Bool := l.rec cont (fun S _ ih => ex1 S fs ih)
noncomputable def anyOne (l : List Nat) : Bool := l.rec false (fun S _ ih => ifb (one1 S) true ih)
noncomputable def bfs (fs : List (List Nat)) (k : Nat) : Nat → List Nat → Bool := k.rec (fun _ l => anyOne l) (fun _ ih vis l => ifb (anyOne l) true (exs fs l ih vis []))
noncomputable def one (N LIM : Nat) (fs : List (List Nat)) : Bool := bfs fs LIM 0 [ones N]
noncomputable def hb (k : Nat) : Nat → Nat → Nat := k.rec (fun _ acc => acc) (fun k ih m acc => ifb (Nat.ble (Nat.pow 2 (Nat.pow 2 k)) m) (ih (Nat.shiftRight m (Nat.pow 2 k)) (Nat.add acc (Nat.pow 2 k))) (ih m acc))
noncomputable def bitsAll (p : Nat → Bool) (f : Nat) : Nat → Bool := f.rec (fun m => Nat.beq m 0) (fun _ ih m => ifb (Nat.beq m 0) true ((fun j => ifb (p j) (ih (Nat.xor m (Nat.shiftLeft 1 j))) false) (hb 20 m 0)))
noncomputable def bitsT (k : Nat) : Nat → Nat → List Nat → List Nat := k.rec (fun lo m acc => ifb (Nat.beq m 0) acc (lo :: acc)) (fun k ih lo m acc => ifb (Nat.beq m 0) acc (ih lo (Nat.land m (ones (Nat.pow 2 k))) (ih (Nat.add lo (Nat.pow 2 k)) (Nat.shiftRight m (Nat.pow 2 k)) acc)))
noncomputable def clr (l : List Nat) : Nat → Nat := l.rec (fun m => m) (fun j _ ih m => ih (Nat.land m (Nat.xor m (Nat.shiftLeft 1 j))))
noncomputable def chk (N LIM r n w : Nat) (pl : List (List Nat)) (a : List Nat) (Rn : Nat) (Mca : List (List Nat)) (bs : List (List Nat)) : Bool :=
  (fun H => H.rec false (fun V _ _ =>
    (fun A => (fun bad => bitsAll (fun i => one N LIM [a, nthL bs (Nat.div i w), ltr pl (Nat.mod i w)]) 5000 bad) (Nat.xor A (Nat.land A (okm (Nat.sub LIM 1) r (mp (covs N Rn r) (tl (rev H []))))))) (allA Rn V)))
   (runs Rn (zoo Mca (rowsOf (tabB N w bs))) 40 (mp (fun _ => 0) (pr (List.range N))) [])
noncomputable def mca (N n w : Nat) (pl : List (List Nat)) (a : List Nat) : List (List Nat) :=
  zoo (rowsOf (tabR n w (tabP N (ones w) pl))) (rowsOf (tabC N (ones (Nat.mul n w)) a))
noncomputable def zc (R : Nat) (t : Nat) (V : List Nat) : List Nat := V.rec (rep t R) (fun v _ z => zo (mp (Nat.land v) z) (0 :: z))
noncomputable def tri (u k : Nat) : Nat := Nat.sub (Nat.add u 1) (Nat.div (Nat.mul k (Nat.sub k 1)) 2)
noncomputable def sm (j u rk : Nat) : Nat := rk.rec 1 (fun k ih => ifb (Nat.ble 1 k) (Nat.add ih (Nat.add j (tri u (Nat.succ k)))) ih)
noncomputable def lay (LIM rk j T : Nat) (z : List Nat) : Nat → Nat := z.rec (fun _ => 0) (fun x _ ih u => Nat.lor (ifb (Nat.ble (sm j u rk) LIM) x (ifb (Nat.ble (Nat.add 1 (Nat.add (Nat.mul (Nat.sub rk 1) j) u)) LIM) (Nat.land x T) 0)) (ih (Nat.succ u)))
noncomputable def lays (N R LIM rk : Nat) (Hs : List (List Nat)) : Nat → Nat := Hs.rec (fun _ => 0) (fun V _ ih j => Nat.lor (lay LIM rk j (nth (covs N R 3 V) 1) (zc R 16 V) 0) (ih (Nat.succ j)))
noncomputable def mem (u : Nat) (l : List Nat) : Bool := l.rec false (fun x _ ih => ifb (Nat.beq x u) true ih)
noncomputable def rkf (N : Nat) (a : List Nat) : Nat := (List.range N).rec 0 (fun u _ ih => ifb (mem u a) (Nat.add ih 1) ih)
noncomputable def hist (N R : Nat) (M : List (List Nat)) : List (List Nat) := tl (rev (runs R M 40 (mp (fun _ => 0) (pr (List.range N))) []) [])
noncomputable def left (N LIM r : Nat) (pl : List (List Nat)) (a : List Nat) : Nat :=
  (fun R => (fun M => Nat.xor R (Nat.land R (lays N R LIM (rkf N a) (hist N R M) 1))) (zoo (rowsOf (tabP N R pl)) (rowsOf (tabC N R a)))) (ones r)
noncomputable def bat (N LIM r n w : Nat) (pl : List (List Nat)) (a : List Nat) (Rn : Nat) (Mca : List (List Nat)) (f : Nat) : List (List Nat) → Bool := f.rec (fun l => l.rec true (fun _ _ _ => false)) (fun _ ih l => l.rec true (fun b _ _ => ifb (chk N LIM r n w pl a Rn Mca (cat (tk n l) (rep (Nat.sub n (len (tk n l))) b))) (ih (dropN n l)) false))
noncomputable def gat (l : List Nat) (p : Nat) : Nat := l.rec 0 (fun j _ ih => Nat.lor (Nat.shiftLeft ih 1) (Nat.mod (Nat.shiftRight p j) 2))
noncomputable def gath (l : List Nat) (pl : List (List Nat)) : List (List Nat) := mp (mp (gat l)) pl
noncomputable def cls2 (N LIM n lo w : Nat) (pl g : List (List Nat)) (a l : List Nat) : Bool := bat N LIM (rkf N a) n w g a (ones (Nat.mul n w)) (mca N n w g a) 2000 (mp (ltr pl) (dropN lo l))
noncomputable def cls1 (N LIM n lo hi : Nat) (pl : List (List Nat)) (a : List Nat) (m : Nat) (l : List Nat) : Bool :=
  ifb (Nat.beq (clr l m) 0) (cls2 N LIM n lo (len (tk hi l)) pl (gath (tk hi l) pl) a (tk hi l)) false
noncomputable def lst (N LIM r : Nat) (pl : List (List Nat)) (a : List Nat) : List Nat := bitsT 16 0 (left N LIM r pl a) []
noncomputable def cls3 (N LIM r n lo hi : Nat) (pl : List (List Nat)) (a : List Nat) : Bool := cls1 N LIM n lo hi pl a (left N LIM r pl a) (lst N LIM r pl a)
noncomputable def cls (N LIM r n lo hi : Nat) (pl : List (List Nat)) : Bool := cls3 N LIM r n lo hi pl (ltr pl (Nat.sub r 1))
end Cz
