/-
  MAPS KEYED BY CUTS. Conditions: none.
-/
import Derived.Test.YtdkmepjedjclkaaKSFlgC
set_option linter.all false
namespace Go.Proofs.Ytdkmepjedjclkaa
open Go.AM
open Go.Proofs.Try (prog)
set_option linter.all false
set_option maxRecDepth 100000

theorem keyEq99 {a b : List Int} (ha : a.length = 4) (hb : b.length = 4) : keyEq prog 99 (.agg (ints a)) (.agg (ints b)) = some (decide (a = b)) := by
  have h := eqCs_ints 4 a b ha hb
  simp only [List.replicate] at h
  simp [keyEq, flat99, ha, hb, h]
theorem keyT99 {a : List Int} (ha : a.length = 4) : keyT prog 99 (.agg (ints a)) = true := by simp [keyT, flat99, ha]

/-- Entries: cuts and values. -/
abbrev Ents := List (List Int × AV)
def keysL (L : Ents) : List AV := L.map fun e => .agg (ints e.1)
def valsL (L : Ents) : List AV := L.map (·.2)
def lkL : Ents → List Int → Option AV
  | [], _ => none
  | e :: L, c => if e.1 = c then some e.2 else lkL L c
def setL : Ents → List Int → AV → Ents
  | [], c, v => [(c, v)]
  | e :: L, c, v => if e.1 = c then (c, v) :: L else e :: setL L c v
def Keys4 (L : Ents) : Prop := ∀ e ∈ L, e.1.length = 4

theorem findK99 : ∀ {L : Ents} {c : List Int}, Keys4 L → c.length = 4 → findK prog 99 (.agg (ints c)) (keysL L) (valsL L) = some (lkL L c)
  | [], c, _, _ => rfl
  | e :: L, c, h, hc => by
    have ih := findK99 (L := L) (c := c) (fun x hx => h x (by simp [hx])) hc
    have he : e.1.length = 4 := h e (by simp)
    simp only [keysL, valsL, List.map_cons, findK, keyEq99 hc he, Option.bind_some]
    simp only [keysL, valsL] at ih
    by_cases q : e.1 = c
    · simp [q, lkL]
    · have q' : ¬ c = e.1 := fun x => q x.symm
      simp [q, q', lkL, ih]
theorem setK99 : ∀ {L : Ents} {c : List Int} {v : AV}, Keys4 L → c.length = 4 → setK prog 99 (.agg (ints c)) v (keysL L) (valsL L) = some (keysL (setL L c v), valsL (setL L c v))
  | [], c, v, _, _ => rfl
  | e :: L, c, v, h, hc => by
    have ih := setK99 (L := L) (c := c) (v := v) (fun x hx => h x (by simp [hx])) hc
    have he : e.1.length = 4 := h e (by simp)
    simp only [keysL, valsL, List.map_cons, setK, keyEq99 hc he, Option.bind_some]
    simp only [keysL, valsL] at ih
    by_cases q : e.1 = c
    · simp [q, setL]
    · have q' : ¬ c = e.1 := fun x => q x.symm
      simp [q, q', setL, ih]
theorem setL_keys4 : ∀ {L : Ents} {c : List Int} {v : AV}, Keys4 L → c.length = 4 → Keys4 (setL L c v)
  | [], c, v, _, hc => fun e he => by simp [setL] at he; rw [he]; exact hc
  | x :: L, c, v, h, hc => fun e he => by
    rw [setL] at he
    split at he
    · rcases List.mem_cons.1 he with rfl | he
      · exact hc
      · exact h e (by simp [he])
    · rcases List.mem_cons.1 he with rfl | he
      · exact h e (by simp)
      · exact setL_keys4 (fun y hy => h y (by simp [hy])) hc e he
theorem lk_set : ∀ (L : Ents) (c : List Int) (v : AV) (d : List Int), lkL (setL L c v) d = if c = d then some v else lkL L d
  | [], c, v, d => by simp [setL, lkL]
  | e :: L, c, v, d => by
    rw [setL]
    by_cases q : e.1 = c
    · rw [if_pos q, lkL, lkL]
      by_cases q2 : c = d
      · rw [if_pos q2, if_pos q2]
      · rw [if_neg q2, if_neg q2, if_neg (by rw [q]; exact q2)]
    · rw [if_neg q, lkL, lkL, lk_set L c v d]
      by_cases q2 : e.1 = d
      · rw [if_pos q2, if_pos q2, if_neg (fun x => q (q2.trans x.symm))]
      · rw [if_neg q2, if_neg q2]
theorem keysL_deep (L : Ents) (h : Nat → Option AObj) (d : Nat) : mapO (deep h (d + 2)) (keysL L) = some (keysL L) := by
  refine mapO_fix fun a ha => ?_
  simp only [keysL, List.mem_map] at ha
  obtain ⟨e, _, rfl⟩ := ha
  simp
/-- A map as a value. -/
def mapV (L : Ents) : AV := .fmap (keysL L) (valsL L)
theorem look99 {L : Ents} {c : List Int} (h : Keys4 L) (hc : c.length = 4) (m : Mem) (z : AV) (ok : Bool) : lookP prog m 99 z (mapV L) (.agg (ints c)) ok = some (match lkL L c with
    | some v => bif ok then .tup [v, .bool true] else v
    | none => bif ok then .tup [z, .bool false] else z) := by
  simp only [lookP, keyT99 hc, cond_true, lookA, mapV, findK99 h hc, Option.bind_some]
  cases lkL L c <;> rfl
theorem upd99 {L : Ents} {c : List Int} {m : Mem} {id g : Nat} {v : AV} (hm : m.h id = some (.map g (keysL L) (valsL L))) (h : Keys4 L) (hc : c.length = 4) : updM prog m 99 (.map id) (.agg (ints c)) v = some (.tup [], m.set id (some (.map (g + 1) (keysL (setL L c v)) (valsL (setL L c v))))) := by
  simp only [updM, updP, keyT99 hc, cond_true, hm, setK99 h hc, Option.bind_some, Option.map_some]
end Go.Proofs.Ytdkmepjedjclkaa
