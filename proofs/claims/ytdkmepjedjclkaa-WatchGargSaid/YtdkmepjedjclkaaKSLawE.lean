/-
  THE PLAIN LAW (5): the reference's clocks settle deed by deed, and are the program's. Conditions: none.
-/
import Derived.Test.YtdkmepjedjclkaaKMove
set_option linter.all false
namespace Go.Proofs.Ytdkmepjedjclkaa
open Go.AM
open Go.Proofs.Try (prog)
set_option linter.all false
set_option maxRecDepth 10000

section
variable {D : List Int} {N : List Note} {K : List (List (List Int))}
/-- What is known of the reference's clocks while they grow. -/
structure RInv (D : List Int) (N : List Note) (C : List (List (List Int))) : Prop where
  len : C.length = D.length
  rows : ∀ h, h < D.length → ((kth C h).length : Int) = nth D h
  wid : ∀ h, ∀ c ∈ kth C h, c.length = D.length
  low : ∀ V, Super D N V → ∀ h i, i < (kth C h).length → ∀ g, kn C h i g ≤ V h i g
  unit : ∀ (h i : Nat), i < (kth C h).length → (i : Int) + 1 ≤ kn C h i h
  pos : ∀ h i, i < (kth C h).length → ∀ g, 0 ≤ kn C h i g

def Ge (C C' : List (List (List Int))) : Prop := ∀ h i q, kn C h i q ≤ kn C' h i q
theorem Ge.refl (C : List (List (List Int))) : Ge C C := fun _ _ _ => Int.le_refl _
theorem Ge.trans {A B C : List (List (List Int))} (h : Ge A B) (k : Ge B C) : Ge A C := fun a b c => Int.le_trans (h a b c) (k a b c)

theorem kn_grow {C : List (List (List Int))} {h i n : Nat} {c : List Int} (hh : h < C.length) (hi : i < (kth C h).length) (hw : (cth (kth C h) i).length = n) (hc : c.length = n) (g j q : Nat) : kn (growK C h i c) g j q = if g = h ∧ j = i then max (kn C h i q) (nth c q) else kn C g j q := by
  show nth (cth (kth (growK C h i c) g) j) q = _
  rw [growK, kth_set hh]
  by_cases e : g = h
  · subst e
    simp only [if_true, true_and]
    by_cases e2 : j = i
    · subst e2
      rw [if_pos rfl, ← nth_zmax (by omega)]
      congr 1
      simp [cth, List.getD, List.getElem?_set, hi]
    · rw [if_neg e2]
      have : ¬ i = j := fun x => e2 x.symm
      show nth _ _ = nth _ _
      congr 1
      simp [cth, List.getD, List.getElem?_set, this]
  · simp [e]

theorem RInv.grow {C : List (List (List Int))} (I : RInv D N C) {h i : Nat} (hh : h < D.length) (hi : i < (kth C h).length) {c : List Int} (hc : c.length = D.length) (hl : ∀ V, Super D N V → ∀ g, nth c g ≤ V h i g) : RInv D N (growK C h i c) ∧ Ge C (growK C h i c) ∧ ∀ q, nth c q ≤ kn (growK C h i c) h i q := by
  have hhC : h < C.length := by rw [I.len]; exact hh
  have hw := I.wid h _ (cth_mem hi)
  have e := kn_grow (n := D.length) hhC hi hw hc
  have hk := fun g => kth_set (K := C) (h := h) (g := g) (r := (kth C h).set i (zmax (cth (kth C h) i) c)) hhC
  have hkl : ∀ g, (kth (growK C h i c) g).length = (kth C g).length := by
    intro g; rw [growK, hk]; split
    · rename_i e; subst e; simp
    · rfl
  refine ⟨⟨by simp [growK, I.len], fun g hg => by rw [hkl]; exact I.rows g hg, fun g d hd => ?_, fun V hV g j hj q => ?_, fun g j hj => ?_, fun g j hj q => ?_⟩, fun g j q => ?_, fun q => ?_⟩
  · rw [growK, hk] at hd
    split at hd
    · rcases List.mem_or_eq_of_mem_set hd with h1 | h1
      · exact I.wid h d h1
      · rw [h1]; simp [zmax, hw, hc]
    · exact I.wid g d hd
  · rw [hkl] at hj
    rw [e]; split
    · rename_i e2; obtain ⟨rfl, rfl⟩ := e2
      have := I.low V hV g j hj q; have := hl V hV q; omega
    · exact I.low V hV g j hj q
  · rw [hkl] at hj
    rw [e]; split
    · rename_i e2; obtain ⟨rfl, rfl⟩ := e2
      have := I.unit g j hj; omega
    · exact I.unit g j hj
  · rw [hkl] at hj
    rw [e]; split
    · rename_i e2; obtain ⟨rfl, rfl⟩ := e2
      have := I.pos g j hj q; omega
    · exact I.pos g j hj q
  · rw [e]; split
    · rename_i e2; obtain ⟨rfl, rfl⟩ := e2; omega
    · exact Int.le_refl _
  · rw [e, if_pos ⟨rfl, rfl⟩]; omega

/-- A round: all has grown, and holds what came before it at the round's begin. -/
structure Round (D : List Int) (N : List Note) (C C' : List (List (List Int))) : Prop where
  inv : RInv D N C'
  ge : Ge C C'
  own : ∀ (h i : Nat), h < D.length → (i : Int) + 1 < nth D h → ∀ q, kn C h i q ≤ kn C' h (i + 1) q
  note : ∀ x ∈ N, ∀ q, kn C x.f.toNat (x.s.toNat - 1) q ≤ kn C' x.t.toNat (x.r.toNat - 1) q

def Settled (K C : List (List (List Int))) (x : List Int) : Prop := ∀ (h i : Nat), (i : Int) < nth x h → ∀ q, kn K h i q ≤ kn C h i q

end
end Go.Proofs.Ytdkmepjedjclkaa
