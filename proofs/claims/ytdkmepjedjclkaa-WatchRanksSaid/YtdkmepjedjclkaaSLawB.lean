/-
  THE PLAIN LAW (2): the program's consistent cuts are the reference's. Conditions: none.
-/
import Derived.Test.YtdkmepjedjclkaaSLawA
namespace Go.Proofs.Ytdkmepjedjclkaa
open Go.AM
open Go.Proofs.Try (prog)
set_option linter.all false
set_option maxRecDepth 10000

section
variable {D : List Int} {N : List Note} {K : List (List (List Int))}

/-- No clock of the cut's last deeds goes beyond the cut. -/
def In (K : List (List (List Int))) (c : List Int) (n h : Nat) : Prop := ∀ g, h ≤ g → g < n → 0 < nth c g → ∀ q, kn K g ((nth c g).toNat - 1) q ≤ nth c q

theorem forthR_len' (F : ∀ h, Four (kth K h)) {c : List Int} {n : Nat} (hi : ∀ h, h < n → nth c h ≤ (kth K h).length) : ∀ (k h : Nat) (out : List Int), h + k ≤ n → out.length = 4 → (forthR K c k h out).length = 4
  | 0, _, _, _, ho => ho
  | k + 1, h, out, hk, ho => by
    refine forthR_len' F hi k (h + 1) _ (by omega) ?_
    split
    · rename_i h2
      have := hi h (by omega)
      exact zmax_len ho (F h _ (cth_mem (by omega)))
    · exact ho
theorem forthR_ge (F : ∀ h, Four (kth K h)) {c : List Int} {n : Nat} (hi : ∀ h, h < n → nth c h ≤ (kth K h).length) : ∀ (k h : Nat) (out : List Int), h + k ≤ n → out.length = 4 → ∀ q, nth out q ≤ nth (forthR K c k h out) q
  | 0, _, _, _, ho, _ => Int.le_refl _
  | k + 1, h, out, hk, ho, q => by
    simp only [forthR]
    by_cases h2 : 0 < nth c h
    · have h3 := hi h (by omega)
      have h4 : (clk K h ((nth c h).toNat - 1)).length = 4 := F h _ (cth_mem (by omega))
      rw [if_pos h2]
      have h5 := forthR_ge F hi k (h + 1) (zmax out (clk K h ((nth c h).toNat - 1))) (by omega) (zmax_len ho h4) q
      rw [nth_zmax (by omega)] at h5
      omega
    · rw [if_neg h2]; exact forthR_ge F hi k (h + 1) _ (by omega) ho q

theorem forthR_iff (F : ∀ h, Four (kth K h)) {c : List Int} {n : Nat} (hc : c.length = 4) (hi : ∀ h, h < n → nth c h ≤ (kth K h).length) : ∀ (k h : Nat), h + k = n → (forthR K c k h c = c ↔ In K c n h)
  | 0, h, hk => ⟨fun _ g h1 h2 => by omega, fun _ => rfl⟩
  | k + 1, h, hk => by
    simp only [forthR]
    have ih := forthR_iff F hc hi k (h + 1) (by omega)
    by_cases h2 : 0 < nth c h
    · have h3 := hi h (by omega)
      have h4 : (clk K h ((nth c h).toNat - 1)).length = 4 := F h _ (cth_mem (by omega))
      rw [if_pos h2]
      have hz := fun q => nth_zmax (a := c) (b := clk K h ((nth c h).toNat - 1)) (by omega) q
      have hzl : (zmax c (clk K h ((nth c h).toNat - 1))).length = 4 := zmax_len hc h4
      constructor
      · intro e
        have ge := forthR_ge F hi k (h + 1) _ (by omega) hzl
        rw [e] at ge
        have ez : zmax c (clk K h ((nth c h).toNat - 1)) = c := ext_nth (by omega) fun q => by have := ge q; have := hz q; omega
        rw [ez] at e
        intro g g1 g2 g3 q
        rcases Nat.lt_or_ge h g with h5 | h5
        · exact ih.1 e g h5 g2 g3 q
        · have : g = h := by omega
          subst this
          have := hz q; rw [ez] at this
          show nth (clk K g _) q ≤ _
          omega
      · intro a
        have ez : zmax c (clk K h ((nth c h).toNat - 1)) = c := ext_nth (by omega) fun q => by
          have := a h (Nat.le_refl _) (by omega) h2 q
          rw [hz]
          show max (nth c q) (kn K h _ q) = _
          omega
        rw [ez]
        exact ih.2 fun g g1 g2 => a g (by omega) g2
    · rw [if_neg h2, ih]
      constructor
      · intro a g g1 g2 g3
        rcases Nat.lt_or_ge h g with h5 | h5
        · exact a g h5 g2 g3
        · have : g = h := by omega
          subst this; exact absurd g3 h2
      · intro a g g1 g2; exact a g (by omega) g2

theorem nth_take {l : List Int} {n i : Nat} (h : i < n) : nth (l.take n) i = nth l i := by simp [nth, List.getD, List.getElem?_take, h]

theorem conR_iff {c : List Int} : conR N c = true ↔ ∀ x ∈ N, x.r ≤ nth c x.t.toNat → x.s ≤ nth c x.f.toNat := by
  simp only [conR, List.all_eq_true, noteOk]
  constructor
  · intro h x hx hr
    have := h x hx
    simp [hr] at this; exact this
  · intro h x hx
    by_cases q : x.r ≤ nth c x.t.toNat
    · have := h x hx q
      simp [q]; omega
    · simp [q]

theorem in_iff (k : Clocks D N K) {c : List Int} (hc : IsCut D.length (pad D) c) : forthL K D.length c = c ↔ conR N (c.take D.length) = true := by
  have hD : ∀ h, nth c h ≤ nth D h := fun h => by have := hc.hi h; rw [nth_pad] at this; exact this
  have hi : ∀ h, h < D.length → nth c h ≤ (kth K h).length := fun h hh => by rw [k.I.rows h hh]; exact hD h
  rw [forthL, forthR_iff k.F hc.len hi _ 0 (by omega), conR_iff]
  constructor
  · intro a x hx hr
    obtain ⟨f0, f1, t0, t1, ne, s0, s1, r0, r1⟩ := k.P.notes x hx
    rw [nth_take (by omega)] at hr ⊢
    have h1 := a x.t.toNat (by omega) (by omega) (by omega) x.f.toNat
    have h2 := k.mono (h := x.t.toNat) (by omega) x.f.toNat ((nth c x.t.toNat).toNat - x.r.toNat) (x.r.toNat - 1) (by have := hD x.t.toNat; omega)
    rw [show x.r.toNat - 1 + ((nth c x.t.toNat).toNat - x.r.toNat) = (nth c x.t.toNat).toNat - 1 by omega] at h2
    have h3 := k.note hx x.f.toNat
    have h4 := k.I.unit x.f.toNat (x.s.toNat - 1) (k.in (by omega) (by omega))
    have h4' : ((x.s.toNat - 1 : Nat) : Int) + 1 ≤ kn K x.f.toNat (x.s.toNat - 1) x.f.toNat := h4
    omega
  · intro a g _ hg hpos q
    let V : Nat → Nat → Nat → Int := fun h i q => if (i : Int) < nth c h then nth c q else nth D q
    have hV : ∀ h i q, V h i q = if (i : Int) < nth c h then nth c q else nth D q := fun _ _ _ => rfl
    have S : Super D N V := by
      refine ⟨fun h i h1 => ?_, fun h i g => ?_, fun h i g h1 => ?_, fun x hx g => ?_⟩
      · rw [hV]; split <;> omega
      · rw [hV]; split
        · exact hc.lo g
        · exact k.P.L.lo g
      · rw [hV, hV]
        have := hD g
        split <;> split <;> omega
      · obtain ⟨f0, f1, t0, t1, ne, s0, s1, r0, r1⟩ := k.P.notes x hx
        have h1 := a x hx
        rw [nth_take (by omega), nth_take (by omega)] at h1
        rw [hV, hV]
        have := hD g
        split <;> split <;> omega
    have h1 := k.I.low V S g ((nth c g).toNat - 1) (k.in hg (by have := hD g; omega)) q
    rw [hV, if_pos (by omega)] at h1
    exact h1

/-! ### All cuts -/
theorem enumR_take {D4 : List Int} : ∀ (k h : Nat) (c : List Int), ∀ x ∈ enumR D4 k h c, x.take h = c.take h ∧ x.length = c.length
  | 0, h, c, x, hx => by simp [enumR] at hx; subst hx; exact ⟨rfl, rfl⟩
  | k + 1, h, c, x, hx => by
    simp only [enumR, List.mem_flatMap, List.mem_range] at hx
    obtain ⟨i, hi, hx⟩ := hx
    obtain ⟨a, b⟩ := enumR_take k (h + 1) _ x hx
    refine ⟨?_, by simpa using b⟩
    have := congrArg (List.take h) a
    rw [List.take_take, List.take_take, Nat.min_eq_left (by omega)] at this
    rw [this, List.take_set_of_le (Nat.le_refl h)]

theorem enumR_tuples {D4 : List Int} : ∀ (E : List Int) (h : Nat) (c : List Int), h + E.length ≤ c.length → (∀ i, i < E.length → nth D4 (h + i) = nth E i) →
    (enumR D4 E.length h c).map (fun x => (x.drop h).take E.length) = tuplesL E
  | [], h, c, _, _ => by simp [enumR, tuplesL]
  | d :: E, h, c, hl, hE => by
    have h0 := hE 0 (by simp)
    simp only [Nat.add_zero, nth_cons0] at h0
    simp only [List.length_cons, enumR, tuplesL, List.map_flatMap, h0]
    congr 1
    funext i
    have ih := enumR_tuples E (h + 1) (c.set h (i : Int)) (by simp at hl ⊢; omega) (fun j hj => by have := hE (j + 1) (by simpa using hj); rw [nth_cons1] at this; rw [← this]; congr 1; omega)
    rw [← ih, List.map_map]
    refine List.map_congr_left fun x hx => ?_
    obtain ⟨a, b⟩ := enumR_take _ _ _ x hx
    have hx : h < x.length := by rw [b]; simp at hl ⊢; omega
    have e : x[h] = (i : Int) := by
      have := congrArg (fun l : List Int => l[h]?) a
      simp only [List.getElem?_take, Nat.lt_succ_self, if_true] at this
      rw [List.getElem?_eq_getElem hx] at this
      simp at hl
      rw [List.getElem?_set_self (by omega)] at this
      simpa using this
    simp only [Function.comp]
    rw [List.drop_eq_getElem_cons hx, List.take_succ_cons, e]

theorem allL_eq (k : Clocks D N K) : (allL (pad D) K D.length).map (fun c => c.take D.length) = cutsL D N := by
  have h4 := k.P.L.n4
  have e := enumR_tuples (D4 := pad D) D 0 [0, 0, 0, 0] (by simp; omega) (fun i _ => by rw [Nat.zero_add, nth_pad])
  simp only [List.drop_zero] at e
  rw [cutsL, ← e, allL, List.filter_map]
  congr 1
  refine List.filter_congr fun c hc => ?_
  have hz : IsCut D.length (pad D) [0, 0, 0, 0] := ⟨rfl, fun h => by have : nth [0, 0, 0, 0] h = 0 := nth_zero' 4 h; omega, fun h => by have : nth [0, 0, 0, 0] h = 0 := nth_zero' 4 h; have := k.P.L.lo h; rw [nth_pad]; omega⟩
  have hcut := enumR_cut (D := pad D) (fun h => by rw [nth_pad]; exact k.P.L.lo h) _ _ _ hz c hc
  have := in_iff k hcut
  simp only [Function.comp]
  cases hq : conR N (c.take D.length) with
  | true => simp [this.2 hq]
  | false => simp; intro h; rw [this.1 h] at hq; cases hq
end
end Go.Proofs.Ytdkmepjedjclkaa
