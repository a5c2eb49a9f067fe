/-
  ELEMENTS AND IDEMPOTENTS: the specification's; lists of strings that are the same. Conditions: none.
-/
import Derived.Test.YthnpflkpjimkfaaK02
import Derived.Test.YthnpflkpjimkfaaKAmH
import Derived.Test.YthnpflkpjimkfaaK01
import Derived.Test.YthnpflkpjimkfaaK00
set_option linter.all false
namespace Go.Proofs.Ythnpflkpjimkfaa
open Go.AM
open Go.Proofs.Try (prog)
set_option linter.all false
set_option maxRecDepth 100000
set_option maxHeartbeats 8000000
def IsS (v : AV) (l : List (List UInt8)) : Prop := (v = .nils ∧ l = []) ∨ ∃ ex, v = .fsl ex l.length (l.map .str)
theorem IsS.len {v : AV} {l : List (List UInt8)} (h : IsS v l) : lenSl v = some (.int .i64 l.length) := by rcases h with ⟨rfl, rfl⟩ | ⟨_, rfl⟩ <;> rfl
theorem IsS.closed {v : AV} {l : List (List UInt8)} (h : IsS v l) : v.closed = true := by rcases h with ⟨rfl, rfl⟩ | ⟨_, rfl⟩ <;> rfl
theorem IsS.one {v : AV} {l : List (List UInt8)} (h : IsS v l) : v.one = true := by rcases h with ⟨rfl, rfl⟩ | ⟨_, rfl⟩ <;> rfl
theorem IsS.idx {v : AV} {l : List (List UInt8)} (h : IsS v l) {i : Nat} (hi : i < l.length) (k : IntKind) : idxSl 1 v (.int k (i : Int)) = some (.fptr ((l.map .str).drop i)) := by
  rcases h with ⟨rfl, rfl⟩ | ⟨_, rfl⟩
  · simp at hi
  · simp [hi]
theorem strsV_is (l : List (List UInt8)) : IsS (strsV l) l := by
  unfold strsV
  split
  · rename_i e; exact .inl ⟨rfl, e⟩
  · exact .inr ⟨_, rfl⟩
theorem str_head {l : List (List UInt8)} {i : Nat} (hi : i < l.length) : ((l.map AV.str).drop i).head? = some (.str l[i]) := by
  rw [List.head?_drop]; simp [hi]
end Go.Proofs.Ythnpflkpjimkfaa

/-
  BODIES OF FUNCTIONS OF THE PROGRAM AS SMALL OPERATIONS (written by gen.py; checked by the kernel against the program). Conditions: none.
-/
namespace Go.Proofs.Ythnpflkpjimkfaa
open Go.AM
open Go.Proofs.Try (prog)
set_option maxRecDepth 100000
set_option linter.all false
end Go.Proofs.Ythnpflkpjimkfaa

/-
  ALL PRODUCTS: the specification's table. Conditions: none.
-/
namespace Go.Proofs.Ythnpflkpjimkfaa
open Go.AM
open Go.Proofs.Try (prog)
set_option linter.all false
set_option maxRecDepth 100000
set_option maxHeartbeats 8000000
def pr (rows : List (List Int)) (S : SM) (i j : Nat) : Nat := numM rows S (wrd S i ++ wrd S j)
end Go.Proofs.Ythnpflkpjimkfaa

/-
  BELOW: the elements that are reached by writing letters before or after. The law. Conditions: none.
-/
namespace Go.Proofs.Ythnpflkpjimkfaa
open Go.AM
open Go.Proofs.Try (prog)
set_option linter.all false
set_option maxRecDepth 100000
set_option maxHeartbeats 4000000
inductive Rch (stp : Nat → List Nat) (i : Nat) : Nat → Prop
  | refl : Rch stp i i
  | step {j k : Nat} : Rch stp i j → k ∈ stp j → Rch stp i k
abbrev VP := List Bool × List Nat
def cf (row : List Bool) : Nat := row.countP fun b => !b
structure VI (n : Nat) (stp : Nat → List Nat) (i : Nat) (P : VP) : Prop where
  l : P.1.length = n
  m : bnth P.1 i = true
  r : ∀ j, j < n → bnth P.1 j = true → Rch stp i j
  t : ∀ j ∈ P.2, j < n ∧ bnth P.1 j = true
  c : ∀ j, j < n → bnth P.1 j = true → j ∈ P.2 ∨ ∀ k ∈ stp j, bnth P.1 k = true
section
variable {n : Nat} {stp : Nat → List Nat} {i : Nat}
end
section
variable {rows : List (List Int)} {k : Nat} {S : SM}
def stpM (rows : List (List Int)) (S : SM) (k : Nat) (lf rt : Bool) (i : Nat) : List Nat := (List.range k).flatMap fun a => (if lf = true then [numM rows S (ltr a ++ wrd S i)] else []) ++ (if rt = true then [numM rows S (wrd S i ++ ltr a)] else [])
def Blw (rows : List (List Int)) (S : SM) (k : Nat) (lf rt : Bool) (i j : Nat) : Prop := ∃ u v, okW k u ∧ okW k v ∧ (lf = false → u = []) ∧ (rt = false → v = []) ∧ numM rows S (u ++ wrd S i ++ v) = j
theorem mv6_congr {u u' w w' : List UInt8} (h1 : ∀ s, s < rows.length → goL rows u s = goL rows u' s) (hlt : ∀ s, s < rows.length → goL rows u' s < rows.length) (h2 : ∀ s, s < rows.length → goL rows w s = goL rows w' s) : ∀ s, s < rows.length → goL rows (u ++ w) s = goL rows (u' ++ w') s := fun s hs => by
  have ga : ∀ (u w : List UInt8) (s : Nat), goL rows (u ++ w) s = goL rows w (goL rows u s) := by
    intro u
    induction u with
    | nil => intro w s; rfl
    | cons c u ih => intro w s; rw [List.cons_append, goL, goL, ih]
  rw [ga, ga, h1 s hs, h2 _ (hlt s hs)]
theorem mv6_ext {u u' : List UInt8} (h : ∀ s, s < rows.length → goL rows u s = goL rows u' s) : mv6 rows u = mv6 rows u' := by
  rw [mv6, mv6, mvF, mvF]
  refine List.map_congr_left fun s hs => ?_
  by_cases q : s < rows.length
  · rw [if_pos q, if_pos q, h s q]
  · rw [if_neg q, if_neg q]
theorem mv6_at {u u' : List UInt8} (n6 : rows.length ≤ 6) (h : mv6 rows u = mv6 rows u') : ∀ s, s < rows.length → goL rows u s = goL rows u' s := fun s hs => by
  have e1 : (mv6 rows u).getD s 0 = goL rows u s := mvF_at (by omega) hs
  have e2 : (mv6 rows u').getD s 0 = goL rows u' s := mvF_at (by omega) hs
  rw [← e1, ← e2, h]
variable {good : List Bool}
theorem goL_lt7 (v : VB rows good k) {w : List UInt8} (hw : okW k w) {s : Nat} (hs : s < rows.length) : goL rows w s < rows.length := by
  have := goL_lt v w w.length 0 s (by omega) hs ((letF_iff k w).2 hw)
  rw [goF_goL rows w w.length 0 s (by omega)] at this
  simpa using this
theorem num_congr (v : VB rows good k) {u w w' x : List UInt8} (hu : okW k u) (hw : okW k w) (hw' : okW k w') (h : mv6 rows w = mv6 rows w') : numM rows S (u ++ w ++ x) = numM rows S (u ++ w' ++ x) := by
  have h1 := mv6_at v.n6 h
  have : mv6 rows (u ++ w ++ x) = mv6 rows (u ++ w' ++ x) := mv6_ext (mv6_congr (mv6_congr (fun _ _ => rfl) (fun s hs => goL_lt7 v hu hs) h1) (fun s hs => goL_lt7 v (okW_app hu hw') hs) (fun _ _ => rfl))
  rw [numM, numM, this]
theorem wrd_num (v : VB rows good k) (W : MW rows k S) {w : List UInt8} (hw : okW k w) : mv6 rows (wrd S (numM rows S w)) = mv6 rows w := by
  have h1 := W.at v.n6 v.k3 hw
  obtain ⟨_, _, _, h2⟩ := W.wok (W.lt v.n6 v.k3 hw)
  rw [h1] at h2
  exact (Option.some.inj h2).symm
theorem okW_ltr {a : Nat} (ha : a < k) (k3 : k ≤ 3) : okW k (ltr a) := by
  have := okW_ext (okW_nil k) ha k3
  simpa [extL] using this
theorem blw_of_rch (v : VB rows good k) (W : MW rows k S) {lf rt : Bool} {i j : Nat} (hi : i < S.1.length) (r : Rch (stpM rows S k lf rt) i j) : Blw rows S k lf rt i j := by
  obtain ⟨_, wi, _, _⟩ := W.wok hi
  induction r with
  | refl => exact ⟨[], [], okW_nil k, okW_nil k, fun _ => rfl, fun _ => rfl, by simpa using W.self hi⟩
  | step r1 hk ih =>
    rename_i j k'
    obtain ⟨u, x, hu, hx, h1, h2, e⟩ := ih
    have hok := okW_app (okW_app hu wi) hx
    have hj : mv6 rows (wrd S j) = mv6 rows (u ++ wrd S i ++ x) := by rw [← e]; exact wrd_num v W hok
    have hjl : j < S.1.length := by rw [← e]; exact W.lt v.n6 v.k3 hok
    obtain ⟨_, wj, _, _⟩ := W.wok hjl
    simp only [stpM, List.mem_flatMap, List.mem_range] at hk
    obtain ⟨a, ha, hk⟩ := hk
    have ho := okW_ltr ha v.k3
    rcases List.mem_append.1 hk with hk | hk
    · split at hk
      · rename_i hl
        simp at hk
        refine ⟨ltr a ++ u, x, okW_app ho hu, hx, fun q => (by rw [hl] at q; cases q), h2, ?_⟩
        have := num_congr (S := S) (x := []) v ho wj hok hj
        simp only [List.append_nil] at this
        rw [hk, this]; simp only [List.append_assoc]
      · simp at hk
    · split at hk
      · rename_i hl
        simp at hk
        refine ⟨u, x ++ ltr a, hu, okW_app hx ho, h1, fun q => (by rw [hl] at q; cases q), ?_⟩
        have := num_congr (S := S) (u := []) (x := ltr a) v (okW_nil k) wj hok hj
        simp only [List.nil_append] at this
        rw [hk, this]; simp only [List.append_assoc]
      · simp at hk
theorem rch_of_blw (v : VB rows good k) (W : MW rows k S) {lf rt : Bool} {i j : Nat} (hi : i < S.1.length) (b : Blw rows S k lf rt i j) : Rch (stpM rows S k lf rt) i j := by
  obtain ⟨_, wi, _, _⟩ := W.wok hi
  have left : ∀ (u : List UInt8), okW k u → (lf = false → u = []) → Rch (stpM rows S k lf rt) i (numM rows S (u ++ wrd S i)) := by
    intro u
    induction u with
    | nil => intro _ _; rw [List.nil_append, W.self hi]; exact .refl
    | cons c u ih =>
      intro hu hl
      have hlt : lf = true := by cases lf with
        | true => rfl
        | false => exact absurd (hl rfl) (by simp)
      have hu' : okW k u := fun b hb => hu b (by simp [hb])
      have hc := hu c (by simp)
      have r := ih hu' (fun q => by rw [hlt] at q; cases q)
      refine r.step ?_
      have hok := okW_app hu' wi
      have hjl := W.lt v.n6 v.k3 hok
      obtain ⟨_, wj, _, _⟩ := W.wok hjl
      simp only [stpM, List.mem_flatMap, List.mem_range]
      refine ⟨c.toNat - 97, hc.2, List.mem_append_left _ ?_⟩
      rw [if_pos hlt, ← chr_ltr hc.1]
      have := num_congr (S := S) (u := [c]) (x := []) v (fun b hb => hu b (by simp at hb; simp [hb])) wj hok (wrd_num v W hok)
      simp only [List.append_nil] at this
      rw [this]; simp
  obtain ⟨u, x, hu, hx, h1, h2, e⟩ := b
  have right : ∀ (x y : List UInt8), okW k x → okW k y → (rt = false → x = []) → Rch (stpM rows S k lf rt) i (numM rows S (u ++ wrd S i ++ y)) → Rch (stpM rows S k lf rt) i (numM rows S (u ++ wrd S i ++ y ++ x)) := by
    intro x
    induction x with
    | nil => intro y _ _ _ r; rw [List.append_nil]; exact r
    | cons c x ih =>
      intro y hx hy hl r
      have hrt : rt = true := by cases rt with
        | true => rfl
        | false => exact absurd (hl rfl) (by simp)
      have hc := hx c (by simp)
      have hx' : okW k x := fun b hb => hx b (by simp [hb])
      have hc1 : okW k [c] := fun b hb => hx b (by simp at hb; simp [hb])
      have e1 : u ++ wrd S i ++ y ++ c :: x = u ++ wrd S i ++ (y ++ [c]) ++ x := by simp
      rw [e1]
      refine ih (y ++ [c]) hx' (okW_app hy hc1) (fun q => by rw [hrt] at q; cases q) (r.step ?_)
      have hok := okW_app (okW_app hu wi) hy
      have hjl := W.lt v.n6 v.k3 hok
      obtain ⟨_, wj, _, _⟩ := W.wok hjl
      simp only [stpM, List.mem_flatMap, List.mem_range]
      refine ⟨c.toNat - 97, hc.2, List.mem_append_right _ ?_⟩
      rw [if_pos hrt, ← chr_ltr hc.1]
      have := num_congr (S := S) (u := []) (x := [c]) v (okW_nil k) wj hok (wrd_num v W hok)
      simp only [List.nil_append] at this
      rw [this]; simp
  have := right x [] hx (okW_nil k) h2 (by rw [List.append_nil]; exact left u hu h1)
  rw [List.append_nil, e] at this
  exact this
end
end Go.Proofs.Ythnpflkpjimkfaa

/-
  BODIES OF FUNCTIONS OF THE PROGRAM AS SMALL OPERATIONS (written by gen.py; checked by the kernel against the program). Conditions: none.
-/
namespace Go.Proofs.Ythnpflkpjimkfaa
open Go.AM
open Go.Proofs.Try (prog)
set_option maxRecDepth 100000
set_option linter.all false
end Go.Proofs.Ythnpflkpjimkfaa

/-
  BELOW: the program's steps, a table of lists. Conditions: none.
-/
namespace Go.Proofs.Ythnpflkpjimkfaa
open Go.AM
open Go.Proofs.Try (prog)
set_option linter.all false
set_option maxRecDepth 100000
set_option maxHeartbeats 8000000
def vat (vs : List AV) (i : Nat) : AV := vs.getD i .nils
def lat (L : List (List Nat)) (i : Nat) : List Nat := L.getD i []
theorem vat_set {vs : List AV} {i j : Nat} {x : AV} (h : i < vs.length) : vat (vs.set i x) j = if i = j then x else vat vs j := by
  simp only [vat, List.getD_eq_getElem?_getD, List.getElem?_set]
  by_cases e : i = j
  · subst e; simp [h]
  · simp [e]
theorem lat_set {vs : List (List Nat)} {i j : Nat} {x : List Nat} (h : i < vs.length) : lat (vs.set i x) j = if i = j then x else lat vs j := by
  simp only [lat, List.getD_eq_getElem?_getD, List.getElem?_set]
  by_cases e : i = j
  · subst e; simp [h]
  · simp [e]
structure Tb (h : Nat → Option AObj) (T : Nat) (vs : List AV) (L : List (List Nat)) (lo hi : Nat) : Prop where
  o : h T = some (.cells vs)
  l : vs.length = L.length
  e : ∀ i, i < L.length → Nl h (vat vs i) ((lat L i).map natV) lo hi
  dj : ∀ i j, i < L.length → j < L.length → i ≠ j → ∀ y, objId (vat vs i) = some y → objId (vat vs j) ≠ some y
  t : T < lo
section
variable {h : Nat → Option AObj} {T : Nat} {vs : List AV} {L : List (List Nat)} {lo hi : Nat}
theorem Tb.ld (B : Tb h T vs L lo hi) {i : Nat} (hi : i < L.length) (nx : Nat) : loadA false 1 ⟨h, nx⟩ (.ptr T i L.length) = some (vat vs i) := by
  have hv : i < vs.length := by rw [B.l]; exact hi
  rw [loadA_ptr]
  show loadO false 1 i L.length (h T) = _
  rw [B.o, loadO_cells]
  simp [B.l, vat, hv, hi, List.getD_eq_getElem?_getD]
theorem Tb.fr {h' : Nat → Option AObj} {hi' : Nat} (B : Tb h T vs L lo hi) (e : ∀ y, y < hi → h' y = h y) (l : hi ≤ hi') (hl : lo ≤ hi) : Tb h' T vs L lo hi' :=
  ⟨by rw [e T (by have := B.t; omega), B.o], B.l, fun i hi => (B.e i hi).fr (fun y y1 y2 _ => e y y2) l, B.dj, B.t⟩
theorem Tb.push (B : Tb h T vs L lo hi) {nx : Nat} (hh : hi ≤ nx) (hl : lo ≤ hi) {i : Nat} (hiL : i < L.length) (hr : (lat L i).length ≤ 1000) (x : Nat) :
    ∃ v' h' nx', appT 1 8 ⟨h, nx⟩ (vat vs i) (some (1, [natV x])) = some (v', ⟨h', nx'⟩) ∧ (∀ n2, stA false 1 ⟨h', n2⟩ (.ptr T i L.length) v' = some (.tup [], ⟨upd h' T (some (.cells (vs.set i v'))), n2⟩)) ∧ Tb (upd h' T (some (.cells (vs.set i v')))) T (vs.set i v') (L.set i (lat L i ++ [x])) lo (nx + 1) ∧ (∀ y, y < lo → y ≠ T → (upd h' T (some (.cells (vs.set i v')))) y = h y) := by
  have hv : i < vs.length := by rw [B.l]; exact hiL
  have hT := B.t
  obtain ⟨v', h', nx', g1, g2, g3, g4, g5, g6, g7⟩ := (B.e i hiL).app (nx := nx) (by' := 8) hh (by omega) (by simp; omega) (natV x)
  have hid : ∀ y, objId v' = some y → lo ≤ y := fun y e => by
    rcases g5 y e with q | q
    · exact ((B.e i hiL).oid q).1
    · omega
  have hT' : h' T = some (.cells vs) := by rw [g6 T (fun e => by have := hid T e; omega), B.o]
  refine ⟨v', h', nx', g1, fun n2 => ?_, ⟨by simp, by simp [B.l], fun j hj => ?_, fun j j' hj hj' hne y => ?_, hT⟩, fun y y1 y2 => by rw [updNe y2, g6 y (fun e => by have := hid y e; omega)]⟩
  · rw [stA_ptr]
    show stO false 1 ⟨h', n2⟩ T i L.length v' (h' T) = _
    rw [hT', stO_cells0]
    simp [B.l, hiL, (show v'.one = true from g2.one), Mem.set]
  · have hj : j < L.length := by simpa using hj
    rw [vat_set hv, lat_set hiL]
    by_cases q : i = j
    · rw [if_pos q, if_pos q, List.map_append]
      exact g2.fr (fun y y1 y2 _ => updNe (by omega)) g4
    · rw [if_neg q, if_neg q]
      exact (B.e j hj).fr (fun y y1 y2 ye => by
        rw [updNe (by omega), g6 y (fun e => by
          rcases g5 y e with w | w
          · exact B.dj i j hiL hj q y w ye
          · omega)]) (by omega)
  · have hj : j < L.length := by simpa using hj
    have hj' : j' < L.length := by simpa using hj'
    rw [vat_set hv, vat_set hv]
    by_cases q : i = j
    · rw [if_pos q, if_neg (by omega)]
      intro e e'
      rcases g5 y e with w | w
      · exact B.dj i j' hiL hj' (by omega) y w e'
      · have := (B.e j' hj').oid e'; omega
    · rw [if_neg q]
      by_cases q' : i = j'
      · rw [if_pos q']
        intro e e'
        rcases g5 y e' with w | w
        · exact B.dj i j hiL hj q y w e
        · have := (B.e j hj).oid e; omega
      · rw [if_neg q']; exact B.dj j j' hj hj' hne y
end
end Go.Proofs.Ythnpflkpjimkfaa

/-
  BELOW: the program's searches, and what it returns. Conditions: none.
-/
namespace Go.Proofs.Ythnpflkpjimkfaa
open Go.AM
open Go.Proofs.Try (prog)
set_option linter.all false
set_option maxRecDepth 100000
set_option maxHeartbeats 8000000
structure Bs (h : Nat → Option AObj) (nx : Nat) (T d : Nat) (vs : List AV) (L : List (List Nat)) (lo hiT : Nat) (ids : List Nat) (Dp : MB) (n e : Nat) (q : AV) (iq : Nat) (P : VP) : Prop where
  tb : Tb h T vs L lo hiT
  bt : Bt h d ids (Dp ++ [P.1]) n e
  q : Gl ⟨h, nx⟩ q iq 1 P.2.length (P.2.map natV)
  lt : lo ≤ hiT ∧ hiT ≤ d ∧ (∀ y ∈ ids, hiT ≤ y ∧ y < nx) ∧ hiT ≤ iq ∧ iq ≠ d ∧ iq ∉ ids ∧ d < nx
  s : cf P.1 + P.2.length ≤ 500
end Go.Proofs.Ythnpflkpjimkfaa

/-
  BELOW: what the program returns. Conditions: none.
-/
namespace Go.Proofs.Ythnpflkpjimkfaa
open Go.AM
open Go.Proofs.Try (prog)
set_option linter.all false
set_option maxRecDepth 100000
set_option maxHeartbeats 8000000
end Go.Proofs.Ythnpflkpjimkfaa

/-
  CLASSES: what the program returns. Conditions: none.
-/
namespace Go.Proofs.Ythnpflkpjimkfaa
open Go.AM
open Go.Proofs.Try (prog)
set_option linter.all false
set_option maxRecDepth 100000
set_option maxHeartbeats 8000000
structure Eqv (E : Nat → Nat → Bool) (n : Nat) : Prop where
  rf : ∀ i, i < n → E i i = true
  sy : ∀ i j, i < n → j < n → E i j = true → E j i = true
  tr : ∀ i j k, i < n → j < n → k < n → E i j = true → E j k = true → E i k = true
def clV (S : SM) (c : List Nat) : List AV := c.map fun j => .str (wrd S j)
end Go.Proofs.Ythnpflkpjimkfaa

/-
  CLASSES: all of them. Conditions: none.
-/
namespace Go.Proofs.Ythnpflkpjimkfaa
open Go.AM
open Go.Proofs.Try (prog)
set_option linter.all false
set_option maxRecDepth 100000
set_option maxHeartbeats 8000000
end Go.Proofs.Ythnpflkpjimkfaa

/-
  CLASSES: Left, Right, Classes; lists of lists that are the same. Conditions: none.
-/
namespace Go.Proofs.Ythnpflkpjimkfaa
open Go.AM
open Go.Proofs.Try (prog)
set_option linter.all false
set_option maxRecDepth 100000
set_option maxHeartbeats 8000000
theorem Rch.trans {stp : Nat → List Nat} {i j k : Nat} (h : Rch stp i j) (g : Rch stp j k) : Rch stp i k := by
  induction g with
  | refl => exact h
  | step _ hk ih => exact ih.step hk
section
variable {rows : List (List Int)} {good : List Bool} {k : Nat} {S : SM}
theorem Blw.rf (W : MW rows k S) {lf rt : Bool} {i : Nat} (hi : i < S.1.length) : Blw rows S k lf rt i i := ⟨[], [], okW_nil k, okW_nil k, fun _ => rfl, fun _ => rfl, by simpa using W.self hi⟩
theorem Blw.tr (v : VB rows good k) (W : MW rows k S) {lf rt : Bool} {i j l : Nat} (hi : i < S.1.length) (hj : j < S.1.length) (h : Blw rows S k lf rt i j) (g : Blw rows S k lf rt j l) : Blw rows S k lf rt i l :=
  blw_of_rch v W hi ((rch_of_blw v W hi h).trans (rch_of_blw v W hj g))
end
def IsSS (v : AV) (l : List (List (List UInt8))) : Prop := (v = .nils ∧ l = []) ∨ ∃ ex cs, v = .fsl ex l.length cs ∧ cs.length = l.length ∧ ∀ i (hi : i < l.length), ∃ x, cs[i]? = some x ∧ IsS x l[i]
theorem IsSS.len {v : AV} {l : List (List (List UInt8))} (h : IsSS v l) : lenSl v = some (.int .i64 l.length) := by rcases h with ⟨rfl, rfl⟩ | ⟨_, _, rfl, _⟩ <;> rfl
theorem IsSS.closed {v : AV} {l : List (List (List UInt8))} (h : IsSS v l) : v.closed = true := by rcases h with ⟨rfl, rfl⟩ | ⟨_, _, rfl, _⟩ <;> rfl
theorem IsSS.one {v : AV} {l : List (List (List UInt8))} (h : IsSS v l) : v.one = true := by rcases h with ⟨rfl, rfl⟩ | ⟨_, _, rfl, _⟩ <;> rfl
theorem IsSS.at {v : AV} {l : List (List (List UInt8))} (h : IsSS v l) {i : Nat} (hi : i < l.length) : ∃ cs x, idxSl 1 v (.int .i64 (i : Int)) = some (.fptr cs) ∧ cs.head? = some x ∧ IsS x l[i] := by
  rcases h with ⟨rfl, rfl⟩ | ⟨_, cs, rfl, h1, h2⟩
  · simp at hi
  · obtain ⟨x, hx, hs⟩ := h2 i hi
    exact ⟨cs.drop i, x, by simp [hi], by rw [List.head?_drop]; exact hx, hs⟩
end Go.Proofs.Ythnpflkpjimkfaa

/-
  BELOW: the specification's. Conditions: none.
-/
namespace Go.Proofs.Ythnpflkpjimkfaa
open Go.AM
open Go.Proofs.Try (prog)
set_option linter.all false
set_option maxRecDepth 100000
set_option maxHeartbeats 8000000
theorem pr_lt {rows : List (List Int)} {good : List Bool} {k : Nat} (v : VB rows good k) {S : SM} (W : MW rows k S) {i j : Nat} (hi : i < S.1.length) (hj : j < S.1.length) : pr rows S i j < S.1.length := by
  obtain ⟨_, w1, _, _⟩ := W.wok hi
  obtain ⟨_, w2, _, _⟩ := W.wok hj
  exact W.lt v.n6 v.k3 (okW_app w1 w2)
end Go.Proofs.Ythnpflkpjimkfaa

/-
  BELOW: what the specification's marks mean. Conditions: none.
-/
namespace Go.Proofs.Ythnpflkpjimkfaa
open Go.AM
open Go.Proofs.Try (prog)
set_option linter.all false
set_option maxRecDepth 100000
set_option maxHeartbeats 8000000
section
variable {rows : List (List Int)} {good : List Bool} {k : Nat} {S : SM}
theorem num_l (v : VB rows good k) {w w' x : List UInt8} (hw : okW k w) (hw' : okW k w') (h : mv6 rows w = mv6 rows w') : numM rows S (w ++ x) = numM rows S (w' ++ x) := by
  have := num_congr (S := S) v (u := []) (x := x) (okW_nil k) hw hw' h
  simpa using this
theorem num_r (v : VB rows good k) {u w w' : List UInt8} (hu : okW k u) (hw : okW k w) (hw' : okW k w') (h : mv6 rows w = mv6 rows w') : numM rows S (u ++ w) = numM rows S (u ++ w') := by
  have := num_congr (S := S) v (u := u) (x := []) hu hw hw' h
  simpa using this
theorem wrd_ok (W : MW rows k S) {i : Nat} (hi : i < S.1.length) : okW k (wrd S i) := (W.wok hi).2.1
theorem pr_numl (v : VB rows good k) (W : MW rows k S) {u : List UInt8} {j : Nat} (hu : okW k u) (hj : j < S.1.length) : pr rows S (numM rows S u) j = numM rows S (u ++ wrd S j) := by
  have n6 := v.n6
  have k3 := v.k3
  have o1 := wrd_ok W (W.lt n6 k3 hu)
  rw [pr, num_l v o1 hu (wrd_num v W hu)]
theorem pr_numr (v : VB rows good k) (W : MW rows k S) {u : List UInt8} {j : Nat} (hu : okW k u) (hj : j < S.1.length) : pr rows S j (numM rows S u) = numM rows S (wrd S j ++ u) := by
  have n6 := v.n6
  have k3 := v.k3
  have o1 := wrd_ok W (W.lt n6 k3 hu)
  rw [pr, num_r v (wrd_ok W hj) o1 hu (wrd_num v W hu)]
theorem pr_assoc (v : VB rows good k) (W : MW rows k S) {a b c : Nat} (ha : a < S.1.length) (hb : b < S.1.length) (hc : c < S.1.length) : pr rows S (pr rows S a b) c = pr rows S a (pr rows S b c) := by
  have oa := wrd_ok W ha
  have ob := wrd_ok W hb
  have oc := wrd_ok W hc
  show pr rows S (numM rows S (wrd S a ++ wrd S b)) c = pr rows S a (numM rows S (wrd S b ++ wrd S c))
  rw [pr_numl v W (okW_app oa ob) hc, pr_numr v W (okW_app ob oc) ha, List.append_assoc]
end
end Go.Proofs.Ythnpflkpjimkfaa

/-
  CLASSES: the specification's, as numbers. Conditions: none.
-/
namespace Go.Proofs.Ythnpflkpjimkfaa
open Go.AM
open Go.Proofs.Try (prog)
set_option linter.all false
set_option maxRecDepth 100000
set_option maxHeartbeats 8000000
def natL (c : List Nat) : List AV := c.map natV
@[simp] theorem natL_len (c : List Nat) : (natL c).length = c.length := by simp [natL]
end Go.Proofs.Ythnpflkpjimkfaa

/-
  CLASSES BY THEIR WORDS: the specification's. Conditions: none.
-/
namespace Go.Proofs.Ythnpflkpjimkfaa
open Go.AM
open Go.Proofs.Try (prog)
set_option linter.all false
set_option maxRecDepth 100000
set_option maxHeartbeats 8000000
theorem natL_head {c : List Nat} {i : Nat} (h : i < c.length) : ((natL c).drop i).head? = some (.int .i64 (c[i] : Nat)) := by
  rw [List.head?_drop]; simp [natL, natV, h]
@[simp] theorem clV_len (S : SM) (c : List Nat) : (clV S c).length = c.length := by simp [clV]
end Go.Proofs.Ythnpflkpjimkfaa

/-
  POWERS THAT COME AGAIN: plain law. Conditions: none.
-/
namespace Go.Proofs.Ythnpflkpjimkfaa
set_option linter.all false
set_option maxRecDepth 100000
theorem nd_len : ∀ (N : Nat) (l : List Nat), l.Nodup → (∀ x ∈ l, x < N) → l.length ≤ N
  | 0, l, _, h => by
    cases l with
    | nil => simp
    | cons a l => have := h a (by simp); omega
  | N + 1, l, d, h => by
    have h1 := nd_len N (l.erase N) (d.erase N) (fun x hx => by
      have := (List.Nodup.mem_erase_iff d).1 hx
      have := h x this.2
      omega)
    have : l.length ≤ (l.erase N).length + 1 := by
      rw [List.length_erase]; split <;> omega
    omega
structure IsPer (f : Nat → Nat) (N p : Nat) : Prop where
  ps : 1 ≤ p
  eq : f (N + p) = f N
  mn : ∀ q, 1 ≤ q → q < p → f (N + q) ≠ f N
theorem IsPer.uniq {f : Nat → Nat} {N p q : Nat} (h : IsPer f N p) (g : IsPer f N q) : p = q := by
  rcases Nat.lt_trichotomy p q with c | c | c
  · exact absurd h.eq (g.mn p h.ps c)
  · exact c
  · exact absurd g.eq (h.mn q g.ps c)
section
variable {f : Nat → Nat} (H : ∀ a b, f a = f b → f (a + 1) = f (b + 1))
include H
theorem shf {a b : Nat} (h : f a = f b) : ∀ k, f (a + k) = f (b + k)
  | 0 => h
  | k + 1 => H _ _ (shf h k)
theorem per_add {c at' : Nat} (hat : at' < c) (hc : f c = f at') {t : Nat} (ht : at' ≤ t) : f (t + (c - at')) = f t := by
  have := shf H hc (t - at')
  rw [show t + (c - at') = c + (t - at') by omega, this, show at' + (t - at') = t by omega]
theorem per_res {c at' : Nat} (hat : at' < c) (hc : f c = f at') : ∀ (m t : Nat), at' ≤ t → t < m → ∃ r, at' ≤ r ∧ r < c ∧ ∀ s, f (t + s) = f (r + s)
  | 0, t, _, h => by omega
  | m + 1, t, h1, h2 => by
    by_cases q : t < c
    · exact ⟨t, h1, q, fun _ => rfl⟩
    · obtain ⟨r, r1, r2, r3⟩ := per_res hat hc m (t - (c - at')) (by omega) (by omega)
      refine ⟨r, r1, r2, fun s => ?_⟩
      rw [← r3 s, ← per_add H hat hc (t := t - (c - at') + s) (by omega)]
      congr 1; omega
theorem per_first {N c at' : Nat} (hat : at' < c) (hc : f c = f at') (hd : ∀ a b, a < b → b < c → f a ≠ f b) (hN : at' ≤ N) : IsPer f N (c - at') := by
  obtain ⟨r, r1, r2, r3⟩ := per_res H hat hc (N + 1) N hN (by omega)
  refine ⟨by omega, per_add H hat hc hN, fun q q1 q2 e => ?_⟩
  have e0 := r3 0
  rw [r3 q, show f N = f (N + 0) from rfl, e0, Nat.add_zero] at e
  by_cases w : r + q < c
  · exact hd r (r + q) (by omega) w e.symm
  · have := per_add H hat hc (t := r + q - (c - at')) (by omega)
    rw [show r + q - (c - at') + (c - at') = r + q by omega, e] at this
    exact hd _ r (by omega) r2 this.symm
end
theorem rep_few {f : Nat → Nat} {N c : Nat} (hb : ∀ t, f t < N) (hd : ∀ a b, a < b → b < c → f a ≠ f b) : c ≤ N := by
  have := nd_len N ((List.range c).map f) (by
    rw [List.Nodup, List.pairwise_map]
    refine List.Pairwise.imp_of_mem ?_ (List.pairwise_lt_range (n := c))
    intro a b ha hb' hab
    exact hd a b hab (by simpa using hb')) (fun x hx => by
    obtain ⟨t, _, rfl⟩ := List.mem_map.1 hx
    exact hb t)
  simpa using this
end Go.Proofs.Ythnpflkpjimkfaa

/-
  BODIES OF FUNCTIONS OF THE PROGRAM AS SMALL OPERATIONS (written by gen.py; checked by the kernel against the program). Conditions: none.
-/
namespace Go.Proofs.Ythnpflkpjimkfaa
open Go.AM
open Go.Proofs.Try (prog)
set_option maxRecDepth 100000
set_option linter.all false
namespace brand_Groups
noncomputable section
variable (K : List Item) (s : St)
def b : Code := (Try.f44.body).getD .skip
theorem hf : prog.funcs[44]? = some Try.f44 := by kernel_rfl
def r0 := findReg b 0
def r1 := findReg b 1
def r2 := findReg b 2
def i0 := findCond b 0
def i0t := thenOf i0
def i0e := elseOf i0
def r3 := findReg b 3
def r4 := findReg b 4
def k0 := findBlk b 0
def l0 := loopOf k0
def L0 (x5 x24 x25 x26 : AV) (m : Mem) (K : List Item) : Option Res := den prog ann 44 (.code l0 :: .inLoop l0 :: .inBlock 0 :: K) ⟨[(5, x5), (24, x24), (25, x25), (26, x26)], 67, m⟩
def r5 := findReg b 5
def i1 := findCond b 1
def i1t := thenOf i1
def i1e := elseOf i1
def k1 := findBlk b 1
def r6 := findReg b 6
def r7 := findReg b 7
def k2 := findBlk b 2
def l2 := loopOf k2
def L2 (x5 x8 x9 x24 x25 x26 : AV) (m : Mem) (K : List Item) : Option Res := den prog ann 44 (.code l2 :: .inLoop l2 :: .inBlock 2 :: K) ⟨[(5, x5), (8, x8), (9, x9), (24, x24), (25, x25), (26, x26)], 67, m⟩
def k3 := findBlk b 3
def r8 := findReg b 8
def r9 := findReg b 9
def r10 := findReg b 10
def i2 := findCond b 2
def i2t := thenOf i2
def i2e := elseOf i2
def r11 := findReg b 11
def r12 := findReg b 12
def r13 := findReg b 13
def i3 := findCond b 3
def i3t := thenOf i3
def i3e := elseOf i3
def r14 := findReg b 14
def r15 := findReg b 15
def r16 := findReg b 16
theorem b_eq : den prog ann 44 (.code b :: K) s = den prog ann 44 (.code r0 :: .code r1 :: .code r2 :: .code i0 :: .code r4 :: .code k0 :: .code r16 :: .code .ret :: K) s := den_flat hf (l := [r0, r1, r2, i0, r4, k0, r16, .ret]) (by kernel_rfl) K s
theorem r0_eq : den prog ann 44 (.code r0 :: K) s = mreg prog ann 44 none [] none [] [qA 1 frozenPtr 0,qF 2 fun s => some (.str []),qF 3 fun s => some (.int .i64 0),qF 4 fun s => some (.int .i64 0)] K s := (den_reg hf _ K s).trans (by kernel_rfl)
theorem r1_eq : den prog ann 44 (.code r1 :: K) s = mreg prog ann 44 none [] none [] [qA 14 (loadF true 2) 1,⟨some 15, none, .c 0 (fun s => (.fn 70 [] [])) fun s => [(s.get 14)]⟩,qC 13 15,qF 16 fun s => extA (s.get 13) 0,qF 17 fun s => extA (s.get 13) 1,qC 5 16,qC 6 17] K s := (den_reg hf _ K s).trans (by kernel_rfl)
theorem r2_eq : den prog ann 44 (.code r2 :: K) s = mreg prog ann 44 none [] none [] [qC 18 6,qF 19 fun s => binA prog .neq 27 (s.get 18) (.int .i64 0)] K s := (den_reg hf _ K s).trans (by kernel_rfl)
theorem i0_eq : den prog ann 44 (.code i0 :: K) s = ifV prog ann 44 19 i0t i0e K s (s.get 19) := den_if hf (by kernel_rfl) K s
theorem i0t_eq : den prog ann 44 (.code i0t :: K) s = den prog ann 44 (.code r3 :: .code .ret :: K) s := den_flat hf (l := [r3, .ret]) (by kernel_rfl) K s
theorem r3_eq : den prog ann 44 (.code r3 :: K) s = mreg prog ann 44 none [] none [] [qC 20 6,qF 2 fun s => some (.str []),qF 3 fun s => some (.int .i64 0),qC 4 20] K s := (den_reg hf _ K s).trans (by kernel_rfl)
theorem i0e_eq : den prog ann 44 (.code i0e :: K) s = den prog ann 44 (K) s := den_flat hf (l := []) (by kernel_rfl) K s
theorem r4_eq : den prog ann 44 (.code r4 :: K) s = mreg prog ann 44 none [] none [] [qC 21 5,qA 22 nilA 21,qA 23 (fieldA 2) 22,qA 24 (loadF false 1) 23,qA 25 lenSl 24,qF 26 fun s => some (.int .i64 0)] K s := (den_reg hf _ K s).trans (by kernel_rfl)
theorem k0_eq (K : List Item) (t : List (Nat × AV)) (m : Mem) : den prog ann 44 (.code k0 :: K) ⟨t, 67, m⟩ = L0 (get t 5) (get t 24) (get t 25) (get t 26) m K := den_loop_enter hf (b := l0) (id := 5) (l := [5, 24, 25, 26]) (by kernel_rfl) (by kernel_rfl) (by kernel_rfl) K _
theorem l0_eq (K : List Item) (t : List (Nat × AV)) (m : Mem) : den prog ann 44 (.inLoop l0 :: .inBlock 0 :: K) ⟨t, 67, m⟩ = L0 (get t 5) (get t 24) (get t 25) (get t 26) m K := den_loop_again hf (id := 5) (l := [5, 24, 25, 26]) (by kernel_rfl) (by kernel_rfl) (.inBlock 0 :: K) _
theorem L0_eq (x5 x24 x25 x26 : AV) (m : Mem) (K : List Item) : L0 x5 x24 x25 x26 m K = den prog ann 44 (.code r5 :: .code i1 :: .code k1 :: .code r15 :: .inLoop l0 :: .inBlock 0 :: K) ⟨[(5, x5), (24, x24), (25, x25), (26, x26)], 67, m⟩ := den_flat hf (l := [r5, i1, k1, r15]) (by kernel_rfl) _ _
theorem r5_eq : den prog ann 44 (.code r5 :: K) s = mreg prog ann 44 (some [5, 24, 25, 26]) [] none [] [qB 27 (binA prog .lss 3) 26 25] K s := (den_reg hf _ K s).trans (by kernel_rfl)
theorem i1_eq : den prog ann 44 (.code i1 :: K) s = ifV prog ann 44 27 i1t i1e K s (s.get 27) := den_if hf (by kernel_rfl) K s
theorem i1t_eq : den prog ann 44 (.code i1t :: K) s = den prog ann 44 (K) s := den_flat hf (l := []) (by kernel_rfl) K s
theorem i1e_eq : den prog ann 44 (.code i1e :: K) s = den prog ann 44 (.code (.exit 0) :: K) s := den_flat hf (l := [(.exit 0)]) (by kernel_rfl) K s
theorem k1_eq : den prog ann 44 (.code k1 :: K) s = den prog ann 44 (.code r6 :: .code r7 :: .code k2 :: .inBlock 1 :: K) s := den_blk hf (b := blkOf k1) (l := [r6, r7, k2]) (by kernel_rfl) (by kernel_rfl) K s
theorem r6_eq : den prog ann 44 (.code r6 :: K) s = mreg prog ann 44 none [] none [] [qC 28 26,qB 29 (idxSl 1) 24 26,qA 30 (loadF false 1) 29,qC 7 28,qC 8 30] K s := (den_reg hf _ K s).trans (by kernel_rfl)
theorem r7_eq : den prog ann 44 (.code r7 :: K) s = mreg prog ann 44 none [] none [] [qC 31 7,⟨some 32, none, .w false none fun s => bslM s.m 1 (bslA 1 1 [.int .i64 0] [(0, (s.get 31))])⟩,qC 9 32] K s := (den_reg hf _ K s).trans (by kernel_rfl)
theorem k2_eq (K : List Item) (t : List (Nat × AV)) (m : Mem) : den prog ann 44 (.code k2 :: K) ⟨t, 67, m⟩ = L2 (get t 5) (get t 8) (get t 9) (get t 24) (get t 25) (get t 26) m K := den_loop_enter hf (b := l2) (id := 8) (l := [5, 8, 9, 24, 25, 26]) (by kernel_rfl) (by kernel_rfl) (by kernel_rfl) K _
theorem l2_eq (K : List Item) (t : List (Nat × AV)) (m : Mem) : den prog ann 44 (.inLoop l2 :: .inBlock 2 :: K) ⟨t, 67, m⟩ = L2 (get t 5) (get t 8) (get t 9) (get t 24) (get t 25) (get t 26) m K := den_loop_again hf (id := 8) (l := [5, 8, 9, 24, 25, 26]) (by kernel_rfl) (by kernel_rfl) (.inBlock 2 :: K) _
theorem L2_eq (x5 x8 x9 x24 x25 x26 : AV) (m : Mem) (K : List Item) : L2 x5 x8 x9 x24 x25 x26 m K = den prog ann 44 (.code k3 :: .inLoop l2 :: .inBlock 2 :: K) ⟨[(5, x5), (8, x8), (9, x9), (24, x24), (25, x25), (26, x26)], 67, m⟩ := den_flat hf (l := [k3]) (by kernel_rfl) _ _
theorem k3_eq : den prog ann 44 (.code k3 :: K) s = den prog ann 44 (.code r8 :: .code r9 :: .code r10 :: .code i2 :: .code r12 :: .code r13 :: .code i3 :: .code (.exit 2) :: .inBlock 3 :: K) s := den_blk hf (b := blkOf k3) (l := [r8, r9, r10, i2, r12, r13, i3, (.exit 2)]) (by kernel_rfl) (by kernel_rfl) K s
theorem r8_draw : drawOk (fun g => (ann g).pure) (modeOf (ann 44) (idOf r8)) (frzOf (ann 44) (idOf r8)) (opsOf r8) = true := drawOk_of (an := [0, 0, 2, 6, 14, 0, 0, 64, 192, 480, 992, 2046, 4094, 0, 16382, 32767, 65535]) (by kernel_rfl) (by kernel_rfl)
theorem r8_eq : den prog ann 44 (.code r8 :: K) s = mreg prog ann 44 (some [5, 8, 9, 24, 25, 26]) [] (some 17) [] [qC 33 5,qC 34 5,qA 35 nilA 34,qA 36 (fieldA 2) 35,qA 37 (loadF false 1) 36,qC 38 9,qC 39 9,qA 40 lenSl 39,qF 41 fun s => binA prog .sub 3 (s.get 40) (.int .i64 1),qB 42 (idxSl 1) 38 41,qF 43 fun s => loadA false 1 s.m (s.get 42),qB 44 (idxSl 1) 37 43,qA 45 (loadF false 1) 44,qC 46 8,qB 47 (binA prog .add 9) 45 46,⟨some 48, none, .c 0 (fun s => (.fn 71 [] [])) fun s => [(s.get 33), (s.get 47)]⟩,qC 10 48] K s := (den_regD hf r8_draw K s).trans (by kernel_rfl)
theorem r9_eq : den prog ann 44 (.code r9 :: K) s = mreg prog ann 44 none [] none [] [qC 49 9,qC 50 10,⟨some 51, none, .c 0 (fun s => (.fn 75 [] [])) fun s => [(s.get 49), (s.get 50)]⟩,qC 11 51] K s := (den_reg hf _ K s).trans (by kernel_rfl)
theorem r10_eq : den prog ann 44 (.code r10 :: K) s = mreg prog ann 44 none [] none [] [qC 52 11,qF 53 fun s => binA prog .lss 3 (s.get 52) (.int .i64 0)] K s := (den_reg hf _ K s).trans (by kernel_rfl)
theorem i2_eq : den prog ann 44 (.code i2 :: K) s = ifV prog ann 44 53 i2t i2e K s (s.get 53) := den_if hf (by kernel_rfl) K s
theorem i2t_eq : den prog ann 44 (.code i2t :: K) s = den prog ann 44 (.code r11 :: .code (.exit 3) :: K) s := den_flat hf (l := [r11, (.exit 3)]) (by kernel_rfl) K s
theorem r11_eq : den prog ann 44 (.code r11 :: K) s = mreg prog ann 44 none [] none [] [qC 54 9,qC 55 10,qF 56 fun s => bslF 1 (bslA 1 1 [.int .i64 0] [(0, (s.get 55))]),⟨some 57, none, .w false none fun s => appendA 1 8 s.m (s.get 54) (s.get 56)⟩,qC 9 57] K s := (den_reg hf _ K s).trans (by kernel_rfl)
theorem i2e_eq : den prog ann 44 (.code i2e :: K) s = den prog ann 44 (K) s := den_flat hf (l := []) (by kernel_rfl) K s
theorem r12_eq : den prog ann 44 (.code r12 :: K) s = mreg prog ann 44 none [] none [] [qC 58 9,qA 59 lenSl 58,qC 60 11,qB 61 (binA prog .sub 3) 59 60,qC 12 61] K s := (den_reg hf _ K s).trans (by kernel_rfl)
theorem r13_eq : den prog ann 44 (.code r13 :: K) s = mreg prog ann 44 none [] none [] [qC 62 12,qF 63 fun s => binA prog .gtr 3 (s.get 62) (.int .i64 1)] K s := (den_reg hf _ K s).trans (by kernel_rfl)
theorem i3_eq : den prog ann 44 (.code i3 :: K) s = ifV prog ann 44 63 i3t i3e K s (s.get 63) := den_if hf (by kernel_rfl) K s
theorem i3t_eq : den prog ann 44 (.code i3t :: K) s = den prog ann 44 (.code r14 :: .code .ret :: K) s := den_flat hf (l := [r14, .ret]) (by kernel_rfl) K s
theorem r14_eq : den prog ann 44 (.code r14 :: K) s = mreg prog ann 44 none [] none [] [qC 64 8,qC 65 12,qC 2 64,qC 3 65,qF 4 fun s => some (.int .i64 0)] K s := (den_reg hf _ K s).trans (by kernel_rfl)
theorem i3e_eq : den prog ann 44 (.code i3e :: K) s = den prog ann 44 (K) s := den_flat hf (l := []) (by kernel_rfl) K s
theorem r15_eq : den prog ann 44 (.code r15 :: K) s = mreg prog ann 44 (some [5, 24, 25, 26]) [] none [] [qF 66 fun s => binA prog .add 3 (s.get 26) (.int .i64 1),qC 26 66] K s := (den_reg hf _ K s).trans (by kernel_rfl)
theorem r16_eq : den prog ann 44 (.code r16 :: K) s = mreg prog ann 44 (some []) [] none [] [qF 2 fun s => some (.str []),qF 3 fun s => some (.int .i64 0),qF 4 fun s => some (.int .i64 5)] K s := (den_reg hf _ K s).trans (by kernel_rfl)
theorem ret_eq : den prog ann 44 (.code .ret :: K) s = finM true [fun s => some (s.get 2), fun s => some (s.get 3), fun s => some (s.get 4)] s := (den_ret hf K s).trans (by kernel_rfl)
theorem nil_eq (s : St) : den prog ann 44 [] s = finM true [fun s => some (s.get 2), fun s => some (s.get 3), fun s => some (s.get 4)] s := (den_nil hf s).trans (by kernel_rfl)
theorem inBlock_eq (id : Nat) (K : List Item) (s : St) : den prog ann 44 (.inBlock id :: K) s = den prog ann 44 K s := den_inBlock hf id K s
theorem exit_eq (id : Nat) (K : List Item) (s : St) : den prog ann 44 (.code (.exit id) :: K) s = exitV prog ann 44 (exitTo id K) s := den_exitV hf id K s
theorem call_eq (v0 : AV) (m : Mem) (h : closedL [v0] = true) : denC prog ann 44 [v0] m = (den prog ann 44 [.code b] ⟨[(0, v0)], 67, Mem.empty⟩).bind fun r => some (r.1, m) := (denC_pure hf (b := b) (by kernel_rfl) (by kernel_rfl) (by kernel_rfl) h m).trans (by kernel_rfl)
theorem pure_eq : (ann 44).pure = true := by kernel_rfl
attribute [simp] b_eq r0_eq r1_eq r2_eq i0_eq i0t_eq r3_eq i0e_eq r4_eq k0_eq l0_eq r5_eq i1_eq i1t_eq i1e_eq k1_eq r6_eq r7_eq k2_eq l2_eq k3_eq r8_eq r9_eq r10_eq i2_eq i2t_eq r11_eq i2e_eq r12_eq r13_eq i3_eq i3t_eq r14_eq i3e_eq r15_eq r16_eq ret_eq nil_eq inBlock_eq exit_eq pure_eq
end
end brand_Groups
namespace slices_Index_int
noncomputable section
variable (K : List Item) (s : St)
def b : Code := (Try.f75.body).getD .skip
theorem hf : prog.funcs[75]? = some Try.f75 := by kernel_rfl
def r0 := findReg b 0
def r1 := findReg b 1
def k0 := findBlk b 0
def l0 := loopOf k0
def L0 (x0 x1 x7 x8 : AV) (m : Mem) (K : List Item) : Option Res := den prog ann 75 (.code l0 :: .inLoop l0 :: .inBlock 0 :: K) ⟨[(0, x0), (1, x1), (7, x7), (8, x8)], 19, m⟩
def r2 := findReg b 2
def i0 := findCond b 0
def i0t := thenOf i0
def i0e := elseOf i0
def k1 := findBlk b 1
def r3 := findReg b 3
def r4 := findReg b 4
def i1 := findCond b 1
def i1t := thenOf i1
def i1e := elseOf i1
def r5 := findReg b 5
def r6 := findReg b 6
def r7 := findReg b 7
theorem b_eq : den prog ann 75 (.code b :: K) s = den prog ann 75 (.code r0 :: .code r1 :: .code k0 :: .code r7 :: .code .ret :: K) s := den_flat hf (l := [r0, r1, k0, r7, .ret]) (by kernel_rfl) K s
theorem r0_eq : den prog ann 75 (.code r0 :: K) s = mreg prog ann 75 none [] none [] [qF 4 fun s => some (.int .i64 0)] K s := (den_reg hf _ K s).trans (by kernel_rfl)
theorem r1_eq : den prog ann 75 (.code r1 :: K) s = mreg prog ann 75 none [] none [] [qC 6 0,qA 7 lenSl 6,qF 8 fun s => some (.int .i64 0)] K s := (den_reg hf _ K s).trans (by kernel_rfl)
theorem k0_eq (K : List Item) (t : List (Nat × AV)) (m : Mem) : den prog ann 75 (.code k0 :: K) ⟨t, 19, m⟩ = L0 (get t 0) (get t 1) (get t 7) (get t 8) m K := den_loop_enter hf (b := l0) (id := 2) (l := [0, 1, 7, 8]) (by kernel_rfl) (by kernel_rfl) (by kernel_rfl) K _
theorem l0_eq (K : List Item) (t : List (Nat × AV)) (m : Mem) : den prog ann 75 (.inLoop l0 :: .inBlock 0 :: K) ⟨t, 19, m⟩ = L0 (get t 0) (get t 1) (get t 7) (get t 8) m K := den_loop_again hf (id := 2) (l := [0, 1, 7, 8]) (by kernel_rfl) (by kernel_rfl) (.inBlock 0 :: K) _
theorem L0_eq (x0 x1 x7 x8 : AV) (m : Mem) (K : List Item) : L0 x0 x1 x7 x8 m K = den prog ann 75 (.code r2 :: .code i0 :: .code k1 :: .code r6 :: .inLoop l0 :: .inBlock 0 :: K) ⟨[(0, x0), (1, x1), (7, x7), (8, x8)], 19, m⟩ := den_flat hf (l := [r2, i0, k1, r6]) (by kernel_rfl) _ _
theorem r2_eq : den prog ann 75 (.code r2 :: K) s = mreg prog ann 75 (some [0, 1, 7, 8]) [] none [] [qB 9 (binA prog .lss 3) 8 7] K s := (den_reg hf _ K s).trans (by kernel_rfl)
theorem i0_eq : den prog ann 75 (.code i0 :: K) s = ifV prog ann 75 9 i0t i0e K s (s.get 9) := den_if hf (by kernel_rfl) K s
theorem i0t_eq : den prog ann 75 (.code i0t :: K) s = den prog ann 75 (K) s := den_flat hf (l := []) (by kernel_rfl) K s
theorem i0e_eq : den prog ann 75 (.code i0e :: K) s = den prog ann 75 (.code (.exit 0) :: K) s := den_flat hf (l := [(.exit 0)]) (by kernel_rfl) K s
theorem k1_eq : den prog ann 75 (.code k1 :: K) s = den prog ann 75 (.code r3 :: .code r4 :: .code i1 :: .inBlock 1 :: K) s := den_blk hf (b := blkOf k1) (l := [r3, r4, i1]) (by kernel_rfl) (by kernel_rfl) K s
theorem r3_eq : den prog ann 75 (.code r3 :: K) s = mreg prog ann 75 none [] none [] [qC 10 8,qC 5 10] K s := (den_reg hf _ K s).trans (by kernel_rfl)
theorem r4_eq : den prog ann 75 (.code r4 :: K) s = mreg prog ann 75 none [] none [] [qC 11 1,qC 12 0,qC 13 5,qB 14 (idxSl 1) 12 13,qA 15 (loadF false 1) 14,qB 16 (binA prog .eql 3) 11 15] K s := (den_reg hf _ K s).trans (by kernel_rfl)
theorem i1_eq : den prog ann 75 (.code i1 :: K) s = ifV prog ann 75 16 i1t i1e K s (s.get 16) := den_if hf (by kernel_rfl) K s
theorem i1t_eq : den prog ann 75 (.code i1t :: K) s = den prog ann 75 (.code r5 :: .code .ret :: K) s := den_flat hf (l := [r5, .ret]) (by kernel_rfl) K s
theorem r5_eq : den prog ann 75 (.code r5 :: K) s = mreg prog ann 75 none [] none [] [qC 17 5,qC 4 17] K s := (den_reg hf _ K s).trans (by kernel_rfl)
theorem i1e_eq : den prog ann 75 (.code i1e :: K) s = den prog ann 75 (K) s := den_flat hf (l := []) (by kernel_rfl) K s
theorem r6_eq : den prog ann 75 (.code r6 :: K) s = mreg prog ann 75 (some [0, 1, 7, 8]) [] none [] [qF 18 fun s => binA prog .add 3 (s.get 8) (.int .i64 1),qC 8 18] K s := (den_reg hf _ K s).trans (by kernel_rfl)
theorem r7_eq : den prog ann 75 (.code r7 :: K) s = mreg prog ann 75 (some []) [] none [] [qF 4 fun s => some (.int .i64 (-1))] K s := (den_reg hf _ K s).trans (by kernel_rfl)
theorem ret_eq : den prog ann 75 (.code .ret :: K) s = finM true [fun s => some (s.get 4)] s := (den_ret hf K s).trans (by kernel_rfl)
theorem nil_eq (s : St) : den prog ann 75 [] s = finM true [fun s => some (s.get 4)] s := (den_nil hf s).trans (by kernel_rfl)
theorem inBlock_eq (id : Nat) (K : List Item) (s : St) : den prog ann 75 (.inBlock id :: K) s = den prog ann 75 K s := den_inBlock hf id K s
theorem exit_eq (id : Nat) (K : List Item) (s : St) : den prog ann 75 (.code (.exit id) :: K) s = exitV prog ann 75 (exitTo id K) s := den_exitV hf id K s
theorem call_eq (v0 v1 : AV) (m : Mem) (h : closedL [v0, v1] = true) : denC prog ann 75 [v0, v1] m = (den prog ann 75 [.code b] ⟨[(0, v0), (1, v1)], 19, Mem.empty⟩).bind fun r => some (r.1, m) := (denC_pure hf (b := b) (by kernel_rfl) (by kernel_rfl) (by kernel_rfl) h m).trans (by kernel_rfl)
theorem pure_eq : (ann 75).pure = true := by kernel_rfl
attribute [simp] b_eq r0_eq r1_eq k0_eq l0_eq r2_eq i0_eq i0t_eq i0e_eq k1_eq r3_eq r4_eq i1_eq i1t_eq r5_eq i1e_eq r6_eq r7_eq ret_eq nil_eq inBlock_eq exit_eq pure_eq
end
end slices_Index_int
end Go.Proofs.Ythnpflkpjimkfaa

/-
  GROUPS: what the program returns. Conditions: none.
-/
namespace Go.Proofs.Ythnpflkpjimkfaa
open Go.AM
open Go.Proofs.Try (prog)
set_option linter.all false
set_option maxRecDepth 100000
set_option maxHeartbeats 8000000
def idxN (l : List Nat) (x : Nat) : Int := if x ∈ l then ((l.idxOf x : Nat) : Int) else -1
theorem index_loop {ex : Bool} {l : List Nat} {x : Nat} (hl : l.length ≤ 1000) : ∀ (c j : Nat) (m : Mem), j + c = l.length → (∀ i, i < j → l[i]? ≠ some x) →
    slices_Index_int.L0 (.fsl ex l.length (natL l)) (.int .i64 (x : Nat)) (.int .i64 l.length) (.int .i64 j) m [.code slices_Index_int.r7, .code .ret] = some (.int .i64 (idxN l x), Mem.empty) := by
  intro c
  induction c with
  | zero =>
    intro j m h1 h0
    have e : j = l.length := by omega
    subst e
    have : x ∉ l := by
      intro hs
      obtain ⟨i, hi⟩ := List.getElem?_of_mem hs
      exact h0 i (List.getElem?_eq_some_iff.1 hi).1 hi
    rw [idxN, if_neg this, slices_Index_int.L0_eq]
    simp
    done
  | succ c ih =>
    intro j m h1 h0
    have hj : j < l.length := by omega
    have hwj : IntKind.wrap .i64 ((j : Int) + 1) = (j : Int) + 1 := wrap_id (by omega) (by omega)
    have hx := List.getElem?_eq_getElem hj
    have hd := natL_head hj
    generalize l[j] = y at hx hd
    by_cases q : y = x
    · subst q
      have hm := List.mem_of_getElem? hx
      have hi : l.idxOf y = j := by
        have h2 : l.idxOf y < l.length := List.idxOf_lt_length_iff.2 hm
        have h3 : l[l.idxOf y]? = some y := by rw [List.getElem?_eq_getElem h2]; simp
        rcases Nat.lt_trichotomy (l.idxOf y) j with c | c | c
        · exact absurd h3 (h0 _ c)
        · exact c
        · exfalso
          have e := (List.getElem?_eq_some_iff.1 hx).2
          have := List.not_of_lt_findIdx (xs := l) (p := (· == y)) (i := j) (by simpa [List.idxOf] using c)
          simp [e] at this
      rw [idxN, if_pos hm, hi, slices_Index_int.L0_eq]
      simp [hj, hd, -List.head?_drop]
      done
    · have st := fun m => ih (j + 1) m (by omega) (fun i hi => by
        by_cases e : i = j
        · subst e; rw [hx]; intro e; exact q (Option.some.inj e)
        · exact h0 i (by omega))
      simp only [Int.natCast_add, Int.cast_ofNat_Int] at st
      have q' : ¬ ((x : Nat) : Int) = (y : Nat) := by omega
      rw [slices_Index_int.L0_eq]
      simp [hj, hd, q', hwj, st, -List.head?_drop]
      done
theorem index_spec {ex : Bool} {l : List Nat} {x : Nat} (hl : l.length ≤ 1000) (m : Mem) :
    denC prog ann 75 [.fsl ex l.length (natL l), .int .i64 (x : Nat)] m = some (.int .i64 (idxN l x), m) := by
  have lp := fun m => index_loop (ex := ex) (x := x) hl l.length 0 m (by omega) (by omega)
  simp only [Int.ofNat_zero, Int.cast_ofNat_Int] at lp
  rw [slices_Index_int.call_eq _ _ _ (by simp)]
  simp [lp]
  done
def pw (rows : List (List Int)) (S : SM) (i : Nat) : Nat → Nat
  | 0 => i
  | t + 1 => pr rows S (pw rows S i t) i
theorem pw_lt {rows : List (List Int)} {good : List Bool} {k : Nat} (v : VB rows good k) {S : SM} (W : MW rows k S) {i : Nat} (hi : i < S.1.length) : ∀ t, pw rows S i t < S.1.length
  | 0 => hi
  | t + 1 => pr_lt v W (pw_lt v W hi t) hi
theorem pw_H (rows : List (List Int)) (S : SM) (i : Nat) : ∀ a b, pw rows S i a = pw rows S i b → pw rows S i (a + 1) = pw rows S i (b + 1) := fun a b h => by rw [pw, pw, h]
open Classical in
noncomputable def perd (rows : List (List Int)) (S : SM) (i : Nat) : Nat := if h : ∃ p, IsPer (pw rows S i) S.1.length p then Classical.choose h else 1
theorem perd_eq {rows : List (List Int)} {S : SM} {i p : Nat} (h : IsPer (pw rows S i) S.1.length p) : perd rows S i = p := by
  have e : ∃ p, IsPer (pw rows S i) S.1.length p := ⟨p, h⟩
  rw [perd, dif_pos e]
  exact (Classical.choose_spec e).uniq h
def pwL (rows : List (List Int)) (S : SM) (i c : Nat) : List Nat := (List.range c).map (pw rows S i)
noncomputable def KG0 : List Item := [.code brand_Groups.r16, .code .ret]
noncomputable def KG2 : List Item := .inBlock 1 :: .code brand_Groups.r15 :: .inLoop brand_Groups.l0 :: .inBlock 0 :: KG0
theorem gr_in {nv gv : AV} {ps : List AV} {rows : List (List Int)} {good : List Bool} {k : Nat} (hn : IsRows nv ps rows) (hg : IsB gv good) (v : VB rows good k) {S : SM} (W : MW rows k S) {i : Nat} (hi : i < S.1.length) {R : Nat} {r : Option Res}
    (h1' : 1 < perd rows S i → r = some (.tup [.str (wrd S i), .int .i64 (perd rows S i : Nat), .int .i64 0], Mem.empty))
    (h2' : perd rows S i = 1 → ∀ h' nx', brand_Groups.L0 (monV nv gv S) (wdsV S) (.int .i64 S.2.length) (.int .i64 ((i : Int) + 1)) ⟨h', nx'⟩ KG0 = r) :
    ∀ (f c : Nat) (h : Nat → Option AObj) (nx0 : Nat), S.1.length < f + c → 1 ≤ c → c ≤ S.1.length → R < nx0 → (∀ a b, a < b → b < c → pw rows S i a ≠ pw rows S i b) → h R = some (.cells (natL (pwL rows S i c))) →
    brand_Groups.L2 (monV nv gv S) (.str (wrd S i)) (.sl R 1 0 c c) (wdsV S) (.int .i64 S.2.length) (.int .i64 i) ⟨h, nx0⟩ KG2 = r := by
  have hle := W.ok.le
  have hlen := W.ok.len
  intro f
  induction f with
  | zero => intro c h nx0 e1 e2 e3; omega
  | succ f ih =>
    intro c h nx0 e1 e2 e3 hR hd h0
    have hiw : IntKind.wrap .i64 ((i : Int) + 1) = (i : Int) + 1 := wrap_id (by omega) (by omega)
    have pl : (pwL rows S i c).length = c := by simp [pwL]
    have hcw : IntKind.wrap .i64 ((c : Int) - 1) = ((c - 1 : Nat) : Int) := by rw [wrap_id (by omega) (by omega)]; omega
    have hc1 : c - 1 < c := by omega
    have hlp : (natL (pwL rows S i c))[c - 1]? = some (.int .i64 (pw rows S i (c - 1) : Nat)) := by
      simp [natL, natV, pwL, hc1]
    have hlq := (List.getElem?_eq_some_iff.1 hlp).2
    have hlt := pw_lt v W hi (c - 1)
    obtain ⟨w1, w2, w3, w4⟩ := W.wok hlt
    obtain ⟨u1, u2, u3, u4⟩ := W.wok hi
    have hdw : ((S.2.map AV.str).drop (pw rows S i (c - 1))).head? = some (.str (wrd S (pw rows S i (c - 1)))) := by rw [List.head?_drop, List.getElem?_map, w1]; rfl
    have hlt2 : pw rows S i (c - 1) < S.2.length := by omega
    have hnm := fun m => number_spec hn hg v W (w := wrd S (pw rows S i (c - 1)) ++ wrd S i) (okW_app w2 u2) (by simp; omega) m
    have hnx : numM rows S (wrd S (pw rows S i (c - 1)) ++ wrd S i) = pw rows S i c := by
      conv => rhs; rw [show c = (c - 1) + 1 by omega, pw, pr]
    rw [hnx] at hnm
    have hll : (wrd S (pw rows S i (c - 1))).length + (wrd S i).length ≤ 4611686018427387904 := by omega
    have hix := fun m => index_spec (ex := false) (l := pwL rows S i c) (x := pw rows S i c) (by omega) m
    rw [pl] at hix
    have tk : (natL (pwL rows S i c)).take c = natL (pwL rows S i c) := List.take_of_length_le (by simp [pl])
    have hmp : ∀ d, mapO (AM.deep h (d + 1)) (natL (pwL rows S i c)) = some (natL (pwL rows S i c)) := fun d => mapO_same _ (fun x hx => by
      simp only [natL, List.mem_map] at hx
      obtain ⟨b, _, rfl⟩ := hx
      rfl)
    have hnl : (natL (pwL rows S i c)).length = c := by simp [pl]
    have hmc : (monV nv gv S).closed = true := rfl
    by_cases q : pw rows S i c ∈ pwL rows S i c
    · -- it was there before
      have hid : idxN (pwL rows S i c) (pw rows S i c) = (((pwL rows S i c).idxOf (pw rows S i c) : Nat) : Int) := by rw [idxN, if_pos q]
      have hil := List.idxOf_lt_length_iff.2 q
      rw [pl] at hil
      have hat : pw rows S i c = pw rows S i ((pwL rows S i c).idxOf (pw rows S i c)) := by
        have h3 : (pwL rows S i c)[(pwL rows S i c).idxOf (pw rows S i c)]? = some (pw rows S i c) := by rw [List.getElem?_eq_getElem (by omega)]; simp
        generalize (pwL rows S i c).idxOf (pw rows S i c) = at' at *
        simp [pwL, hil] at h3
        exact h3.symm
      rw [hid] at hix
      generalize (pwL rows S i c).idxOf (pw rows S i c) = at' at *
      have hp := per_first (pw_H rows S i) (N := S.1.length) hil hat hd (by omega)
      have hpe := perd_eq hp
      have hsub : IntKind.wrap .i64 ((c : Int) - (at' : Int)) = ((c - at' : Nat) : Int) := by rw [wrap_id (by omega) (by omega)]; omega
      have hneg : ¬ ((at' : Nat) : Int) < 0 := by omega
      rw [brand_Groups.L2_eq]
      simp only [wdsV, monV] at h2' hnm hmc ⊢
      by_cases g : 1 < c - at'
      · have g' : (1 : Int) < ((c - at' : Nat) : Int) := by omega
        rw [hpe] at h1'
        rw [h1' g]
        simp [e2, hc1, AV.flat, AV.flat1, h0, hlq, hnl, hcw, hlt2, hdw, hll, hmc, hnm, tk, hmp, hix, hneg, hsub, g', -List.head?_drop, -List.map_drop]
        done
      · have g' : ¬ (1 : Int) < ((c - at' : Nat) : Int) := by omega
        have h2 := h2' (by omega)
        simp [e2, hc1, AV.flat, AV.flat1, h0, hlq, hnl, hcw, hlt2, hdw, hll, hmc, hnm, tk, hmp, hix, hneg, hsub, g', KG2, hiw, h2, -List.head?_drop, -List.map_drop]
        done
    · have hid : idxN (pwL rows S i c) (pw rows S i c) = -1 := by rw [idxN, if_neg q]
      rw [hid] at hix
      have hd' : ∀ a b, a < b → b < c + 1 → pw rows S i a ≠ pw rows S i b := fun a b ab hb => by
        by_cases e : b = c
        · subst e
          intro e
          exact q (e ▸ List.mem_map.2 ⟨a, by simpa using ab, rfl⟩)
        · exact hd a b ab (by omega)
      have hcN := rep_few (pw_lt v W hi) hd'
      have he : natL (pwL rows S i c) ++ [.int .i64 (pw rows S i c : Nat)] = natL (pwL rows S i (c + 1)) := by simp [natL, natV, pwL, List.range_succ]
      have hnl1 : (natL (pwL rows S i (c + 1))).length = c + 1 := by simp [pwL]
      have st := ih (c + 1) (upd h R (some (.cells (natL (pwL rows S i (c + 1)))))) (nx0 + 17) (by omega) (by omega) hcN (by omega) hd' (by simp)
      rw [brand_Groups.L2_eq]
      simp only [wdsV, monV] at st hnm hmc ⊢
      simp [e2, hc1, AV.flat, AV.flat1, h0, hlq, hnl, hcw, hlt2, hdw, hll, hmc, hnm, tk, hmp, hix, he, hnl1, show c ≤ 4611686018427387903 by omega, show (c + 1) * 8 ≤ 70368744177664 by omega, st, -List.head?_drop, -List.map_drop]
      done
noncomputable def grpV (rows : List (List Int)) (S : SM) (c i : Nat) : AV := match (List.range' i c).find? (fun i => decide (1 < perd rows S i)) with
  | some i => .tup [.str (wrd S i), .int .i64 (perd rows S i : Nat), .int .i64 0]
  | none => .tup [.str [], .int .i64 0, .int .i64 5]
theorem grpV_succ (rows : List (List Int)) (S : SM) (c i : Nat) : grpV rows S (c + 1) i = if 1 < perd rows S i then .tup [.str (wrd S i), .int .i64 (perd rows S i : Nat), .int .i64 0] else grpV rows S c (i + 1) := by
  rw [grpV, List.range'_succ, List.find?_cons]
  by_cases q : 1 < perd rows S i
  · simp [q]
  · simp [q, grpV]
theorem per_ex (f : Nat → Nat) (N : Nat) (H : ∀ a b, f a = f b → f (a + 1) = f (b + 1)) (hb : ∀ t, f t < N) : ∃ p, IsPer f N p := by
  have key : ∀ (j c : Nat), N < j + c → c ≤ N → (∀ a b, a < b → b < c → f a ≠ f b) → ∃ p, IsPer f N p := by
    intro j
    induction j with
    | zero => intro c h1 h2; omega
    | succ j ih =>
      intro c h1 h2 hd
      by_cases q : ∃ a, a < c ∧ f c = f a
      · obtain ⟨a, ha, e⟩ := q
        exact ⟨_, per_first H ha e hd (by omega)⟩
      · have hd' : ∀ a b, a < b → b < c + 1 → f a ≠ f b := fun a b ab hb e => by
          by_cases g : b = c
          · subst g; exact q ⟨a, ab, e.symm⟩
          · exact hd a b ab (by omega) e
        exact ih (c + 1) (by omega) (rep_few hb hd') hd'
  exact key (N + 1) 0 (by omega) (by omega) (by omega)
theorem perd_is {rows : List (List Int)} {good : List Bool} {k : Nat} (v : VB rows good k) {S : SM} (W : MW rows k S) {i : Nat} (hi : i < S.1.length) : IsPer (pw rows S i) S.1.length (perd rows S i) := by
  obtain ⟨p, hp⟩ := per_ex (pw rows S i) S.1.length (pw_H rows S i) (pw_lt v W hi)
  rw [perd_eq hp]; exact hp
theorem gr_out {nv gv : AV} {ps : List AV} {rows : List (List Int)} {good : List Bool} {k : Nat} (hn : IsRows nv ps rows) (hg : IsB gv good) (v : VB rows good k) {S : SM} (W : MW rows k S) :
    ∀ (c i : Nat) (h : Nat → Option AObj) (nx0 : Nat), i + c = S.1.length →
    brand_Groups.L0 (monV nv gv S) (wdsV S) (.int .i64 S.2.length) (.int .i64 i) ⟨h, nx0⟩ KG0 = some (grpV rows S c i, Mem.empty) := by
  intro c
  have hle := W.ok.le
  have hlen := W.ok.len
  induction c with
  | zero =>
    intro i h nx0 h1
    have e : i = S.2.length := by omega
    subst e
    rw [brand_Groups.L0_eq]
    simp [KG0, grpV]
    done
  | succ c ih =>
    intro i h nx0 h1
    have hi : i < S.1.length := by omega
    have hi2 : i < S.2.length := by omega
    obtain ⟨u1, u2, u3, u4⟩ := W.wok hi
    have hdw : ((S.2.map AV.str).drop i).head? = some (.str (wrd S i)) := by rw [List.head?_drop, List.getElem?_map, u1]; rfl
    have hp := perd_is v W hi
    have h1p := hp.ps
    have st := gr_in hn hg v W hi (R := nx0) (r := some (grpV rows S (c + 1) i, Mem.empty)) (fun q => by rw [grpV_succ, if_pos q]) (fun q h' nx' => by
      have := ih (i + 1) h' nx' (by omega)
      rw [grpV_succ, if_neg (by omega)]
      simpa using this) (S.1.length) 1 (upd h nx0 (some (.cells [.int .i64 i]))) (nx0 + 1) (by omega) (by omega) (by omega) (by omega) (by omega) (by simp [natL, natV, pwL, pw])
    simp only [KG2] at st
    rw [brand_Groups.L0_eq]
    simp only [wdsV, monV] at st ⊢
    simp [hi2, hdw, -List.head?_drop, -List.map_drop]
    exact st
theorem groups_spec {nv gv : AV} {ps : List AV} {rows : List (List Int)} {good : List Bool} (hn : IsRows nv ps rows) (hg : IsB gv good) (hl : rows.length ≤ 1000) (hgl : good.length ≤ 1000) (hr : ∀ i, i < rows.length → (cth rows i).length ≤ 1000) (m : Mem) :
    denC prog ann 44 [.agg [nv, gv]] m = some (if validB rows good = true then (match madeB rows good (cth rows 0).length with | some S => grpV (rowsM rows good (cth rows 0).length) S S.1.length 0 | none => .tup [.str [], .int .i64 0, .int .i64 7]) else .tup [.str [], .int .i64 0, .int .i64 1], m) := by
  have h1 := fun m => made_spec hn hg hl hgl hr m
  rw [brand_Groups.call_eq _ _ (by simp [hn.closed, hg.closed])]
  cases c0 : validB rows good with
  | false =>
    rw [c0] at h1
    simp [hn.one, hg.one, hn.closed, hg.closed, h1]
    done
  | true =>
    rw [c0, if_pos rfl] at h1
    have v := VB.of c0
    cases e : madeB rows good (cth rows 0).length with
    | none =>
      rw [e] at h1
      simp only [mdR] at h1
      simp [hn.one, hg.one, hn.closed, hg.closed, h1]
      done
    | some S =>
      have W := MW_of v e
      have vm := VB_M v
      rw [e] at h1
      simp only [mdR] at h1
      have lp := fun h nx0 => gr_out (isRows_M rows good (cth rows 0).length) (isB_M rows good (cth rows 0).length) vm W S.1.length 0 h nx0 (by omega)
      simp only [Int.ofNat_zero, Int.cast_ofNat_Int, KG0] at lp
      simp only [monV, wdsV] at h1 lp
      simp [hn.one, hg.one, hn.closed, hg.closed, h1, lp]
      done
end Go.Proofs.Ythnpflkpjimkfaa

/-
  PERIODS: the specification's; SIMPLE: what the program returns. Conditions: none.
-/
namespace Go.Proofs.Ythnpflkpjimkfaa
open Go.AM
open Go.Proofs.Try (prog)
set_option linter.all false
set_option maxRecDepth 100000
set_option maxHeartbeats 8000000
end Go.Proofs.Ythnpflkpjimkfaa

/-
  THE WORDS OF A MONOID ARE THE LEAST ONES: plain law. Conditions: none.
-/
namespace Go.Proofs.Ythnpflkpjimkfaa
open Go.AM
open Go.Proofs.Try (prog)
set_option linter.all false
set_option maxRecDepth 100000
set_option maxHeartbeats 8000000
def rk (w : List UInt8) : Nat := w.foldl (fun n c => n * 256 + (c.toNat + 1)) 0
theorem rk_snoc (w : List UInt8) (c : UInt8) : rk (w ++ [c]) = rk w * 256 + (c.toNat + 1) := by simp [rk]
theorem rk_nil : rk [] = 0 := rfl
theorem rk_ltr (w : List UInt8) {a : Nat} (ha : a < 3) : rk (w ++ ltr a) = rk w * 256 + (98 + a) := by
  rw [ltr, rk_snoc, ofNat6 (by omega)]; omega
theorem snoc_of {α : Type} : ∀ (l : List α), l ≠ [] → ∃ p x, l = p ++ [x]
  | [], h => absurd rfl h
  | [a], _ => ⟨[], a, rfl⟩
  | a :: b :: l, _ => by
    obtain ⟨p, x, e⟩ := snoc_of (b :: l) (by simp)
    exact ⟨a :: p, x, by rw [e]; rfl⟩
theorem rk_len : ∀ (n : Nat) (u w : List UInt8), u.length = n → u.length < w.length → rk u < rk w
  | 0, u, w, hu, h => by
    have : u = [] := List.length_eq_zero_iff.1 hu
    subst this
    obtain ⟨p, x, rfl⟩ := snoc_of w (by intro e; subst e; simp at h)
    rw [rk_snoc, rk_nil]; omega
  | n + 1, u, w, hu, h => by
    obtain ⟨p, x, rfl⟩ := snoc_of u (by intro e; subst e; simp at hu)
    obtain ⟨q, y, rfl⟩ := snoc_of w (by intro e; subst e; simp at h)
    simp at hu h
    have := rk_len n p q hu h
    have hx := x.toNat_lt
    rw [rk_snoc, rk_snoc]
    omega
section
variable {rows : List (List Int)} {k : Nat}
def OrI (rows : List (List Int)) (S : SM) (j b : Nat) : Prop := ∃ m, S.1[m]? = some (nxM rows (S.1.getD j []) b) ∧ rk (S.2.getD m []) ≤ rk (S.2.getD j []) * 256 + (98 + b)
theorem OrI.app {S : SM} {j b : Nat} (h : OrI rows S j b) (hl : S.1.length = S.2.length) (hj : j < S.1.length) (p : List (List Nat)) (q : List (List UInt8)) : OrI rows (S.1 ++ p, S.2 ++ q) j b := by
  obtain ⟨m, h1, h2⟩ := h
  have hm := (List.getElem?_eq_some_iff.1 h1).1
  have g1 : ∀ i, i < S.1.length → (S.1 ++ p).getD i [] = S.1.getD i [] := fun i hi => by simp [List.getD_eq_getElem?_getD, List.getElem?_append_left hi]
  have g2 : ∀ i, i < S.1.length → (S.2 ++ q).getD i [] = S.2.getD i [] := fun i hi => by
    have : i < S.2.length := by omega
    simp [List.getD_eq_getElem?_getD, List.getElem?_append_left this]
  refine ⟨m, ?_, ?_⟩
  · simp only []
    rw [g1 j hj, List.getElem?_append_left hm]; exact h1
  · simp only []
    rw [g2 m hm, g2 j hj]; exact h2
structure Srt (S : SM) (b : Nat) : Prop where
  l : S.1.length = S.2.length
  s : S.2.Pairwise fun u w => rk u < rk w
  b : ∀ y ∈ S.2, rk y < b
theorem in_ord {x : List Nat} {w : List UInt8} {i : Nat} : ∀ (c a : Nat) (S S' : SM), bInM rows x w c a S = some S' → S.1[i]? = some x → S.2[i]? = some w → a + c ≤ 3 → Srt S (rk w * 256 + (98 + a)) → (∀ b, b < a → OrI rows S i b) →
    Srt S' (rk w * 256 + (98 + (a + c))) ∧ (∀ b, b < a + c → OrI rows S' i b) ∧ ∃ p q, S' = (S.1 ++ p, S.2 ++ q)
  | 0, a, S, S', h, _, _, _, g, o => by
    simp only [bInM, Option.some.injEq] at h
    subst h
    exact ⟨g, fun b hb => o b (by omega), [], [], by simp⟩
  | c + 1, a, S, S', h, h1, h2, ha, g, o => by
    have hi := (List.getElem?_eq_some_iff.1 h1).1
    have gx : S.1.getD i [] = x := by simp [List.getD_eq_getElem?_getD, h1]
    have gw : S.2.getD i [] = w := by simp [List.getD_eq_getElem?_getD, h2]
    rw [bInM] at h
    by_cases q : nxM rows x a ∈ S.1
    · rw [if_pos q] at h
      obtain ⟨m, hm⟩ := List.getElem?_of_mem q
      have hml := (List.getElem?_eq_some_iff.1 hm).1
      have hm2 : m < S.2.length := by have := g.l; omega
      have hmem : S.2.getD m [] ∈ S.2 := by simp [List.getD_eq_getElem?_getD, hm2]
      have r := in_ord c (a + 1) S S' h h1 h2 (by omega) ⟨g.l, g.s, fun y hy => by have := g.b y hy; omega⟩ (fun b hb => by
        by_cases e : b = a
        · subst e
          exact ⟨m, by rw [gx]; exact hm, by rw [gw]; have := g.b _ hmem; omega⟩
        · exact o b (by omega))
      rw [show a + 1 + c = a + (c + 1) by omega] at r
      exact r
    · rw [if_neg q] at h
      by_cases q2 : S.1.length = 400
      · rw [if_pos q2] at h; cases h
      · rw [if_neg q2] at h
        have er : rk (extL w a) = rk w * 256 + (98 + a) := rk_ltr w (by omega)
        have hS : Srt (S.1 ++ [nxM rows x a], S.2 ++ [extL w a]) (rk w * 256 + (98 + (a + 1))) := by
          refine ⟨by simp [g.l], ?_, fun y hy => ?_⟩
          · rw [List.pairwise_append]
            refine ⟨g.s, by simp, fun u hu y hy => ?_⟩
            simp at hy
            subst hy
            rw [er]; exact g.b u hu
          · rcases List.mem_append.1 hy with hy | hy
            · have := g.b y hy; omega
            · simp at hy; rw [hy, er]; omega
        obtain ⟨r1, r2, p, qq, r3⟩ := in_ord (i := i) c (a + 1) _ S' h (by rw [List.getElem?_append_left hi]; exact h1) (by rw [List.getElem?_append_left (by have := g.l; omega)]; exact h2) (by omega) hS (fun b hb => by
          by_cases e : b = a
          · subst e
            refine ⟨S.1.length, ?_, ?_⟩
            · simp only []
              rw [show (S.1 ++ [nxM rows x b]).getD i [] = x by simp [List.getD_eq_getElem?_getD, List.getElem?_append_left hi, h1]]
              simp
            · simp only []
              rw [show (S.2 ++ [extL w b]).getD i [] = w by
                have : i < S.2.length := by have := g.l; omega
                simp [List.getD_eq_getElem?_getD, List.getElem?_append_left this, h2]]
              rw [g.l]
              simp [List.getD_eq_getElem?_getD, er]
          · exact (o b (by omega)).app g.l hi _ _)
        refine ⟨by rw [show a + (c + 1) = a + 1 + c by omega]; exact r1, fun b hb => r2 b (by omega), [nxM rows x a] ++ p, [extL w a] ++ qq, ?_⟩
        rw [r3]; simp
theorem out_ord (k3 : k ≤ 3) : ∀ (f i : Nat) (S S' : SM), bfsM rows k f i S = some S' → 400 < f + i → S.1.length ≤ 400 → (∀ S'' : SM, (∃ f i, bfsM rows k f i S'' = some S') → S''.1.length ≤ 400) → (∃ b, Srt S b) → (∀ w, S.2[i]? = some w → Srt S (rk w * 256 + 98)) → (∀ j, j < i → j < S.1.length ∧ ∀ b, b < k → OrI rows S j b) →
    (∃ b, Srt S' b) ∧ ∀ j, j < S'.1.length → ∀ b, b < k → OrI rows S' j b
  | 0, i, S, S', h, hf, hl, hl2, hs, hb, ho => by
    have := ho 400 (by omega)
    omega
  | f + 1, i, S, S', h, hf, hl, hl2, hs, hb, ho => by
    obtain ⟨b0, hs0⟩ := hs
    rw [bfsM] at h
    by_cases c : i < S.1.length
    · have hx := List.getElem?_eq_getElem c
      have c2 : i < S.2.length := by have := hs0.l; omega
      have hw := List.getElem?_eq_getElem c2
      generalize S.1[i] = x at hx
      generalize S.2[i] = w at hw
      rw [hx, hw] at h
      simp only [Option.bind_eq_some_iff] at h
      obtain ⟨T, hT, h⟩ := h
      obtain ⟨r1, r2, p, q, r3⟩ := in_ord (rows := rows) (i := i) k 0 S T hT hx hw (by omega) (hb w hw) (fun b hb => by omega)
      have hTl := hl2 T ⟨f, i + 1, h⟩
      subst r3
      refine out_ord k3 f (i + 1) _ S' h (by omega) hTl hl2 ⟨_, r1⟩ (fun w2 hw2 => ?_) (fun j hj => ?_)
      · refine ⟨r1.l, r1.s, fun y hy => ?_⟩
        have h1 := r1.b y hy
        have hlt : rk w < rk w2 := by
          have hi1 := (List.getElem?_eq_some_iff.1 hw2).1
          have e1 : (S.2 ++ q)[i]? = some w := by rw [List.getElem?_append_left c2]; exact hw
          have hi0 := (List.getElem?_eq_some_iff.1 e1).1
          have := List.pairwise_iff_getElem.1 r1.s i (i + 1) hi0 hi1 (by omega)
          rw [(List.getElem?_eq_some_iff.1 e1).2, (List.getElem?_eq_some_iff.1 hw2).2] at this
          exact this
        omega
      · by_cases e : j = i
        · subst e
          exact ⟨by simp; omega, fun b hb => r2 b (by omega)⟩
        · obtain ⟨o1, o2⟩ := ho j (by omega)
          exact ⟨by simp; omega, fun b hb => (o2 b hb).app hs0.l o1 _ _⟩
    · have hx : S.1[i]? = none := List.getElem?_eq_none (by omega)
      rw [hx] at h
      simp only [Option.some.injEq] at h
      subst h
      exact ⟨⟨b0, hs0⟩, fun j hj => (ho j (by omega)).2⟩
end
theorem bfsM_le {rows : List (List Int)} {k : Nat} : ∀ (f i : Nat) (S S' : SM), bfsM rows k f i S = some S' → S.1.length ≤ S'.1.length
  | 0, i, S, S', h => by simp only [bfsM, Option.some.injEq] at h; rw [h]; exact Nat.le_refl _
  | f + 1, i, S, S', h => by
    rw [bfsM] at h
    split at h
    · simp only [Option.bind_eq_some_iff] at h
      obtain ⟨T, hT, h⟩ := h
      have h1 := bfsM_le f (i + 1) T S' h
      have key : ∀ (c a : Nat) (x : List Nat) (w : List UInt8) (S T : SM), bInM rows x w c a S = some T → S.1.length ≤ T.1.length := by
        intro c
        induction c with
        | zero => intro a x w S T h; simp only [bInM, Option.some.injEq] at h; rw [h]; exact Nat.le_refl _
        | succ c ih =>
          intro a x w S T h
          rw [bInM] at h
          split at h
          · exact ih _ _ _ _ _ h
          · split at h
            · cases h
            · have := ih _ _ _ _ _ h
              simp at this; omega
      have h2 := key _ _ _ _ _ _ hT
      omega
    · simp only [Option.some.injEq] at h; rw [h]; exact Nat.le_refl _
section
variable {rows : List (List Int)} {good : List Bool} {k : Nat} {S : SM}
structure Least (rows : List (List Int)) (k : Nat) (S : SM) : Prop where
  inc : ∀ i j, i < j → j < S.1.length → rk (wrd S i) < rk (wrd S j)
  le : ∀ w, okW k w → rk (wrd S (numM rows S w)) ≤ rk w
theorem least_of (v : VB rows good k) (h : madeS rows k = some S) : Least rows k S := by
  have n6 := v.n6
  have k3 := v.k3
  obtain ⟨m1, m2, m3⟩ := madeS_ok n6 k3 h
  have W : MW rows k S := ⟨m1, m2, m3⟩
  obtain ⟨⟨b, o1⟩, o2⟩ := out_ord (rows := rows) (k := k) k3 401 0 ([mv6 rows []], [[]]) S h (by omega) (by simp) (fun T ⟨f, i, hT⟩ => by have := bfsM_le f i T S hT; have := m1.le; omega) ⟨1, ⟨rfl, by simp, by simp [rk_nil]⟩⟩ (fun w hw => by
    have : w = [] := by simpa using hw.symm
    subst this
    exact ⟨rfl, by simp, by simp [rk_nil]⟩) (by omega)
  refine ⟨fun i j hij hj => ?_, ?_⟩
  · have hj2 : j < S.2.length := by have := m1.len; omega
    have := List.pairwise_iff_getElem.1 o1.s i j (by omega) hj2 hij
    simpa [wrd, List.getD_eq_getElem?_getD, hj2, show i < S.2.length by omega] using this
  · have key : ∀ (n : Nat) (w : List UInt8), w.length = n → okW k w → rk (wrd S (numM rows S w)) ≤ rk w := by
      intro n
      induction n with
      | zero =>
        intro w hn hw
        have e : w = [] := List.length_eq_zero_iff.1 hn
        subst e
        obtain ⟨p, q, e1, e2⟩ := m2
        have : numM rows S [] = 0 := by rw [numM, e1]; simp
        rw [this, wrd, e2]
        simp
      | succ n ih =>
        intro w hn hw
        obtain ⟨p, c, rfl⟩ := snoc_of w (by intro e; subst e; simp at hn)
        have hp : okW k p := fun b hb => hw b (by simp [hb])
        have hc := hw c (by simp)
        have ec : [c] = ltr (c.toNat - 97) := chr_ltr hc.1
        generalize c.toNat - 97 = a at *
        have hlp := W.lt n6 k3 hp
        have ih2 := ih p (by simpa using hn) hp
        obtain ⟨m, h1, h2⟩ := o2 _ hlp a hc.2
        obtain ⟨_, u2, _, u4⟩ := W.wok hlp
        have g1 : S.1.getD (numM rows S p) [] = mv6 rows p := by
          have := W.at n6 k3 hp
          simp [List.getD_eq_getElem?_getD, this]
        rw [g1] at h1
        have e3 := mv6_ltr rows n6 p (a := a) (by omega)
        rw [← e3, extL, ← ec] at h1
        have hm := (List.getElem?_eq_some_iff.1 h1).1
        have en : numM rows S (p ++ [c]) = m := by
          rw [numM, ← (List.getElem?_eq_some_iff.1 h1).2]
          exact m1.nd.idxOf_getElem _ hm
        rw [en, ec, rk_ltr p (by omega)]
        have h2' : rk (wrd S m) ≤ rk (wrd S (numM rows S p)) * 256 + (98 + a) := h2
        omega
    exact fun w hw => key w.length w rfl hw
end
end Go.Proofs.Ythnpflkpjimkfaa

/-
  POWERS: idempotent ones; how long the first word with a period is: plain law. Conditions: none.
-/
namespace Go.Proofs.Ythnpflkpjimkfaa
open Go.AM
open Go.Proofs.Try (prog)
set_option linter.all false
set_option maxRecDepth 100000
set_option maxHeartbeats 8000000
theorem first_rep (f : Nat → Nat) (N : Nat) (hb : ∀ t, f t < N) : ∃ c a, a < c ∧ c ≤ N ∧ f c = f a ∧ ∀ x y, x < y → y < c → f x ≠ f y := by
  have key : ∀ (j c : Nat), N < j + c → c ≤ N → (∀ x y, x < y → y < c → f x ≠ f y) → ∃ c a, a < c ∧ c ≤ N ∧ f c = f a ∧ ∀ x y, x < y → y < c → f x ≠ f y := by
    intro j
    induction j with
    | zero => intro c h1 h2; omega
    | succ j ih =>
      intro c h1 h2 hd
      by_cases q : ∃ a, a < c ∧ f c = f a
      · obtain ⟨a, ha, e⟩ := q
        exact ⟨c, a, ha, h2, e, hd⟩
      · have hd' : ∀ x y, x < y → y < c + 1 → f x ≠ f y := fun x y xy hy e => by
          by_cases g : y = c
          · subst g; exact q ⟨x, xy, e.symm⟩
          · exact hd x y xy (by omega) e
        exact ih (c + 1) (by omega) (rep_few hb hd') hd'
  exact key (N + 1) 0 (by omega) (by omega) (by omega)
section
variable {rows : List (List Int)} {good : List Bool} {k : Nat} {S : SM}
theorem pw_add (v : VB rows good k) (W : MW rows k S) {i : Nat} (hi : i < S.1.length) (s : Nat) : ∀ t, pr rows S (pw rows S i s) (pw rows S i t) = pw rows S i (s + t + 1)
  | 0 => rfl
  | t + 1 => by
    rw [show pw rows S i (t + 1) = pr rows S (pw rows S i t) i from rfl, ← pr_assoc v W (pw_lt v W hi s) (pw_lt v W hi t) hi, pw_add v W hi s t]
    rfl
theorem pw_idem (v : VB rows good k) (W : MW rows k S) {i : Nat} (hi : i < S.1.length) : ∃ t, t < S.1.length ∧ pr rows S (pw rows S i t) (pw rows S i t) = pw rows S i t := by
  obtain ⟨c, a, ha, hc, e, hd⟩ := first_rep (pw rows S i) S.1.length (pw_lt v W hi)
  have hp : 0 < c - a := by omega
  have hm : a < (c - a) * (a / (c - a) + 1) ∧ (c - a) * (a / (c - a) + 1) ≤ c := by
    have h1 := Nat.div_add_mod a (c - a)
    have h2 := Nat.mod_lt a hp
    rw [Nat.mul_add, Nat.mul_one]
    generalize (c - a) * (a / (c - a)) = z at *
    omega
  generalize hq : a / (c - a) + 1 = q at *
  refine ⟨(c - a) * q - 1, by omega, ?_⟩
  rw [pw_add v W hi]
  have key : ∀ (q t : Nat), a ≤ t → pw rows S i (t + (c - a) * q) = pw rows S i t := by
    intro q
    induction q with
    | zero => intro t _; rfl
    | succ q ih =>
      intro t ht
      rw [Nat.mul_succ, ← Nat.add_assoc, per_add (pw_H rows S i) ha e (by omega), ih t ht]
  have := key q ((c - a) * q - 1) (by omega)
  rw [show (c - a) * q - 1 + ((c - a) * q - 1) + 1 = (c - a) * q - 1 + (c - a) * q by omega]
  exact this
theorem perd_at (v : VB rows good k) (W : MW rows k S) {i : Nat} (hi : i < S.1.length) {M : Nat} (hM : S.1.length ≤ M + 1) : IsPer (pw rows S i) M (perd rows S i) := by
  obtain ⟨c, a, ha, hc, e, hd⟩ := first_rep (pw rows S i) S.1.length (pw_lt v W hi)
  have h1 := per_first (pw_H rows S i) (N := S.1.length) ha e hd (by omega)
  rw [perd_eq h1]
  exact per_first (pw_H rows S i) ha e hd (by omega)
def gi (rows : List (List Int)) (u : List UInt8) : Nat → Nat → Nat
  | 0, s => s
  | t + 1, s => goL rows u (gi rows u t s)
theorem gi_add (u : List UInt8) (s : Nat) (a : Nat) : ∀ b, gi rows u (a + b) s = gi rows u b (gi rows u a s)
  | 0 => rfl
  | b + 1 => by rw [← Nat.add_assoc, gi, gi, gi_add u s a b]
theorem gi_lt (v : VB rows good k) {u : List UInt8} (hu : okW k u) {s : Nat} (hs : s < rows.length) : ∀ t, gi rows u t s < rows.length
  | 0 => hs
  | t + 1 => goL_lt6 v hu (gi_lt v hu hs t)
theorem gi_mul (u : List UInt8) {s j : Nat} (h : gi rows u j s = s) : ∀ m, gi rows u (j * m) s = s
  | 0 => rfl
  | m + 1 => by rw [Nat.mul_succ, gi_add, gi_mul u h m, h]
theorem pw_gi (v : VB rows good k) (W : MW rows k S) {u : List UInt8} (hu : okW k u) {s : Nat} (hs : s < rows.length) : ∀ t, goL rows (wrd S (pw rows S (numM rows S u) t)) s = gi rows u (t + 1) s
  | 0 => mv6_at v.n6 (wrd_num v W hu) s hs
  | t + 1 => by
    have hi := W.lt v.n6 v.k3 hu
    have o1 := wrd_ok W (pw_lt v W hi t)
    have o2 := wrd_ok W hi
    have e := mv6_at v.n6 (wrd_num v W (okW_app o1 o2)) s hs
    rw [show pw rows S (numM rows S u) (t + 1) = numM rows S (wrd S (pw rows S (numM rows S u) t) ++ wrd S (numM rows S u)) from rfl, e, goL_app, pw_gi v W hu hs t, gi]
    exact mv6_at v.n6 (wrd_num v W hu) _ (gi_lt v hu hs (t + 1))
theorem num_eq (v : VB rows good k) (W : MW rows k S) {i j : Nat} (hi : i < S.1.length) (hj : j < S.1.length) (h : ∀ s, s < rows.length → goL rows (wrd S i) s = goL rows (wrd S j) s) : i = j := by
  have e := mv6_ext h
  obtain ⟨_, _, _, a4⟩ := W.wok hi
  obtain ⟨_, _, _, b4⟩ := W.wok hj
  rw [← W.self hi, ← W.self hj, numM, numM, e]
structure Cyc (rows : List (List Int)) (u : List UInt8) (s j : Nat) : Prop where
  lt : s < rows.length
  ne : goL rows u s ≠ s
  ps : 1 ≤ j
  bk : gi rows u j s = s
theorem cyc_per (v : VB rows good k) (W : MW rows k S) {u : List UInt8} (hu : okW k u) {s j : Nat} (h : Cyc rows u s j) : 1 < perd rows S (numM rows S u) := by
  have hi := W.lt v.n6 v.k3 hu
  have hp := perd_is v W hi
  have h1 := hp.ps
  by_cases q : 1 < perd rows S (numM rows S u)
  · exact q
  · exfalso
    have e1 : perd rows S (numM rows S u) = 1 := by omega
    have he := hp.eq
    rw [e1] at he
    have hc : ∀ m, pw rows S (numM rows S u) (S.1.length + m) = pw rows S (numM rows S u) S.1.length := by
      intro m
      induction m with
      | zero => rfl
      | succ m ih =>
        have := shf (pw_H rows S (numM rows S u)) he m
        rw [show S.1.length + (m + 1) = S.1.length + 1 + m by omega, this, ih]
    have hg : ∀ m, gi rows u (S.1.length + m + 1) s = gi rows u (S.1.length + 1) s := fun m => by
      rw [← pw_gi v W hu h.lt, hc m, pw_gi v W hu h.lt]
    have hj := gi_mul u h.bk (S.1.length + 1)
    have hge : S.1.length + 1 ≤ j * (S.1.length + 1) := Nat.le_mul_of_pos_left _ h.ps
    have a1 := hg (j * (S.1.length + 1) - (S.1.length + 1))
    rw [show S.1.length + (j * (S.1.length + 1) - (S.1.length + 1)) + 1 = j * (S.1.length + 1) by omega, hj] at a1
    have a2 := hg (j * (S.1.length + 1) - (S.1.length + 1) + 1)
    rw [show S.1.length + (j * (S.1.length + 1) - (S.1.length + 1) + 1) + 1 = j * (S.1.length + 1) + 1 by omega, gi, hj, ← a1] at a2
    exact h.ne a2
theorem per_cyc (v : VB rows good k) (W : MW rows k S) {i : Nat} (hi : i < S.1.length) (h : 1 < perd rows S i) : ∃ s j, Cyc rows (wrd S i) s j := by
  have hu := wrd_ok W hi
  have hp := perd_is v W hi
  have hn : numM rows S (wrd S i) = i := W.self hi
  have hne := hp.mn 1 (by omega) h
  have hx : ¬ ∀ s, s < rows.length → goL rows (wrd S (pw rows S i (S.1.length + 1))) s = goL rows (wrd S (pw rows S i S.1.length)) s := fun e => hne (num_eq v W (pw_lt v W hi _) (pw_lt v W hi _) e)
  have hx' : ∃ t, t < rows.length ∧ goL rows (wrd S (pw rows S i (S.1.length + 1))) t ≠ goL rows (wrd S (pw rows S i S.1.length)) t := by
    refine Classical.byContradiction fun q => hx fun s hs => Classical.byContradiction fun e => q ⟨s, hs, e⟩
  obtain ⟨t, ht, e⟩ := hx'
  have g : ∀ m, goL rows (wrd S (pw rows S i m)) t = gi rows (wrd S i) (m + 1) t := fun m => by
    have := pw_gi v W hu ht m
    rw [hn] at this
    exact this
  rw [g, g] at e
  refine ⟨gi rows (wrd S i) (S.1.length + 1) t, perd rows S i, gi_lt v hu ht _, e, by omega, ?_⟩
  rw [← gi_add, show S.1.length + 1 + perd rows S i = S.1.length + perd rows S i + 1 by omega, ← g, hp.eq, g]
end
def arr : Nat → List Nat → List (List Nat)
  | 0, _ => [[]]
  | p + 1, av => av.flatMap fun x => (arr p (av.erase x)).map (x :: ·)
theorem arr_mem : ∀ (p : Nat) (av l : List Nat), l.length = p → l.Nodup → (∀ x ∈ l, x ∈ av) → l ∈ arr p av
  | 0, av, l, h, _, _ => by
    have : l = [] := List.length_eq_zero_iff.1 h
    subst this; simp [arr]
  | p + 1, av, [], h, _, _ => by simp at h
  | p + 1, av, x :: l, h, d, m => by
    rw [arr, List.mem_flatMap]
    refine ⟨x, m x (by simp), List.mem_map.2 ⟨l, arr_mem p _ l (by simpa using h) (List.nodup_cons.1 d).2 fun y hy => ?_, rfl⟩⟩
    have hne : y ≠ x := fun e => by subst e; exact (List.nodup_cons.1 d).1 hy
    exact (List.mem_erase_of_ne hne).2 (m y (by simp [hy]))
def canT (p : Nat) : List (List Nat) := (List.range 6).flatMap fun h => (arr (p - 1) (List.range' (h + 1) (5 - h))).map (h :: ·)
theorem canT_len : ∀ p, p ≤ 6 → (canT p).length ≤ 144 := by
  intro p hp
  have : p = 0 ∨ p = 1 ∨ p = 2 ∨ p = 3 ∨ p = 4 ∨ p = 5 ∨ p = 6 := by omega
  rcases this with rfl | rfl | rfl | rfl | rfl | rfl | rfl <;> decide +kernel
theorem canT_mem {p x : Nat} {l : List Nat} (h1 : (x :: l).length = p) (h2 : (x :: l).Nodup) (h3 : ∀ y ∈ x :: l, y < 6) (h4 : ∀ y ∈ l, x < y) : x :: l ∈ canT p := by
  have hx := h3 x (by simp)
  rw [canT, List.mem_flatMap]
  refine ⟨x, by simpa using hx, List.mem_map.2 ⟨l, arr_mem _ _ l (by simp at h1; omega) (List.nodup_cons.1 h2).2 fun y hy => ?_, rfl⟩⟩
  have := h4 y hy
  have := h3 y (by simp [hy])
  rw [List.mem_range'_1]; omega
theorem nodup_le {α : Type} [DecidableEq α] : ∀ (l L : List α), l.Nodup → (∀ x ∈ l, x ∈ L) → l.length ≤ L.length
  | [], L, _, _ => by simp
  | x :: l, L, d, m => by
    have h := nodup_le l (L.erase x) (List.nodup_cons.1 d).2 fun y hy => by
      have hne : y ≠ x := fun e => by subst e; exact (List.nodup_cons.1 d).1 hy
      exact (List.mem_erase_of_ne hne).2 (m y (by simp [hy]))
    have hx := m x (by simp)
    rw [List.length_erase_of_mem hx] at h
    have := List.length_pos_of_mem hx
    simp; omega
theorem argmin (b : Nat → Nat) : ∀ p, 0 < p → ∃ i, i < p ∧ ∀ j, j < p → b i ≤ b j
  | 1, _ => ⟨0, by omega, fun j hj => by have : j = 0 := by omega
                                         subst this; exact Nat.le_refl _⟩
  | p + 2, _ => by
    obtain ⟨i, hi, h⟩ := argmin b (p + 1) (by omega)
    by_cases q : b i ≤ b (p + 1)
    · exact ⟨i, by omega, fun j hj => by
        by_cases e : j = p + 1
        · subst e; exact q
        · exact h j (by omega)⟩
    · exact ⟨p + 1, by omega, fun j hj => by
        by_cases e : j = p + 1
        · subst e; exact Nat.le_refl _
        · have := h j (by omega); omega⟩
theorem rings {b : Nat → Nat → Nat} {L p : Nat} (p1 : 1 ≤ p) (p6 : p ≤ 6) (hlt : ∀ l i, b l i < 6) (hper : ∀ l i, b l (i + p) = b l i) (hinj : ∀ l, l < L → ∀ i j, i < p → j < p → b l i = b l j → i = j) (hno : ∀ l l' r, l < l' → l' < L → ¬ ∀ i, b l' i = b l (i + r)) : L ≤ 144 := by
  have hmod : ∀ l i m, b l (i + p * m) = b l i := by
    intro l i m
    induction m with
    | zero => rfl
    | succ m ih => rw [Nat.mul_succ, ← Nat.add_assoc, hper, ih]
  have hred : ∀ l i, b l i = b l (i % p) := fun l i => by
    have := hmod l (i % p) (i / p)
    rw [Nat.mod_add_div] at this
    exact this
  have hinj2 : ∀ l, l < L → ∀ a i j, i < p → j < p → b l (a + i) = b l (a + j) → i = j := by
    intro l hl a i j hi hj e
    rw [hred l (a + i), hred l (a + j)] at e
    have := hinj l hl _ _ (Nat.mod_lt _ (by omega)) (Nat.mod_lt _ (by omega)) e
    have h1 := Nat.div_add_mod (a + i) p
    have h2 := Nat.div_add_mod (a + j) p
    rw [this] at h1
    have h3 : p * ((a + i) / p) + j = p * ((a + j) / p) + i := by omega
    by_cases q : (a + i) / p = (a + j) / p
    · rw [q] at h3; omega
    · exfalso
      rcases Nat.lt_or_gt_of_ne q with c | c
      · have : p * ((a + i) / p) + p ≤ p * ((a + j) / p) := by rw [← Nat.mul_succ]; exact Nat.mul_le_mul_left _ c
        omega
      · have : p * ((a + j) / p) + p ≤ p * ((a + i) / p) := by rw [← Nat.mul_succ]; exact Nat.mul_le_mul_left _ c
        omega
  have hex : ∀ l, ∃ i, i < p ∧ ∀ j, j < p → b l i ≤ b l j := fun l => argmin (b l) p (by omega)
  have hR := fun l => Classical.choose_spec (hex l)
  generalize hI : (fun l => Classical.choose (hex l)) = I at *
  have hR : ∀ l, I l < p ∧ ∀ j, j < p → b l (I l) ≤ b l j := fun l => by rw [← hI]; exact hR l
  have hmem : ∀ l, l < L → ((List.range p).map fun i => b l (I l + i)) ∈ canT p := by
    intro l hl
    obtain ⟨q, rfl⟩ : ∃ q, p = q + 1 := ⟨p - 1, by omega⟩
    have hnd : ((List.range (q + 1)).map fun i => b l (I l + i)).Nodup := by
      rw [List.Nodup, List.pairwise_map]
      refine List.Pairwise.imp_of_mem ?_ (List.pairwise_lt_range (n := q + 1))
      intro x y hx hy hxy e
      have := hinj2 l hl (I l) x y (by simpa using hx) (by simpa using hy) e
      omega
    have hlen : ((List.range (q + 1)).map fun i => b l (I l + i)).length = q + 1 := by simp
    have hall : ∀ y ∈ (List.range (q + 1)).map fun i => b l (I l + i), y < 6 := fun y hy => by
      obtain ⟨i, _, rfl⟩ := List.mem_map.1 hy
      exact hlt _ _
    have hcons : ((List.range (q + 1)).map fun i => b l (I l + i)) = b l (I l + 0) :: (List.range' 1 q).map fun i => b l (I l + i) := by
      rw [List.range_eq_range', List.range'_succ, List.map_cons]
    rw [hcons] at hnd hlen hall ⊢
    refine canT_mem hlen hnd hall fun y hy => ?_
    obtain ⟨i, hi, rfl⟩ := List.mem_map.1 hy
    have hne : b l (I l + 0) ≠ b l (I l + i) := fun e => (List.nodup_cons.1 hnd).1 (e ▸ hy)
    have hle : b l (I l + 0) ≤ b l (I l + i) := by
      rw [hred l (I l + i)]
      exact (hR l).2 _ (Nat.mod_lt _ (by omega))
    omega
  have hN := nodup_le ((List.range L).map fun l => (List.range p).map fun i => b l (I l + i)) (canT p) (by
    rw [List.Nodup, List.pairwise_map]
    refine List.Pairwise.imp_of_mem ?_ (List.pairwise_lt_range (n := L))
    intro l l' hl hl' hll e
    have hl' : l' < L := by simpa using hl'
    have he : ∀ i, i < p → b l (I l + i) = b l' (I l' + i) := fun i hi => by
      have h1 : ((List.range p).map fun i => b l (I l + i))[i]? = some (b l (I l + i)) := by simp [hi]
      have h2 : ((List.range p).map fun i => b l' (I l' + i))[i]? = some (b l' (I l' + i)) := by simp [hi]
      rw [e, h2] at h1
      exact (Option.some.inj h1).symm
    have he2 : ∀ i, b l (I l + i) = b l' (I l' + i) := fun i => by
      have h1 := hmod l (I l + i % p) (i / p)
      have h2 := hmod l' (I l' + i % p) (i / p)
      rw [Nat.add_assoc, Nat.mod_add_div] at h1 h2
      rw [h1, h2]
      exact he _ (Nat.mod_lt _ (by omega))
    have hi' := (hR l').1
    refine hno l l' (I l + p - I l') hll hl' fun i => ?_
    have h3 := he2 (i + p - I l')
    rw [show I l' + (i + p - I l') = i + p by omega, hper] at h3
    rw [← h3]
    congr 1; omega) (fun x hx => by
    obtain ⟨l, hl, rfl⟩ := List.mem_map.1 hx
    exact hmem l (by simpa using hl))
  have := canT_len p p6
  simp at hN
  omega
end Go.Proofs.Ythnpflkpjimkfaa

/-
  BODIES OF FUNCTIONS OF THE PROGRAM AS SMALL OPERATIONS (written by gen.py; checked by the kernel against the program). Conditions: none.
-/
namespace Go.Proofs.Ythnpflkpjimkfaa
open Go.AM
open Go.Proofs.Try (prog)
set_option maxRecDepth 100000
set_option linter.all false
namespace l07_Plan_made
noncomputable section
variable (K : List Item) (s : St)
def b : Code := (Try.f22.body).getD .skip
theorem hf : prog.funcs[22]? = some Try.f22 := by kernel_rfl
def r0 := findReg b 0
def r1 := findReg b 1
def r2 := findReg b 2
def r3 := findReg b 3
def k0 := findBlk b 0
def l0 := loopOf k0
def L0 (x1 x2 x3 x4 x5 x6 : AV) (m : Mem) (K : List Item) : Option Res := den prog ann 22 (.code l0 :: .inLoop l0 :: .inBlock 0 :: K) ⟨[(1, x1), (2, x2), (3, x3), (4, x4), (5, x5), (6, x6)], 79, m⟩
def r4 := findReg b 4
def i0 := findCond b 0
def i0t := thenOf i0
def i0e := elseOf i0
def k1 := findBlk b 1
def r6 := findReg b 6
def r7 := findReg b 7
def k2 := findBlk b 2
def l2 := loopOf k2
def L2 (x1 x2 x3 x4 x5 x6 x7 x8 : AV) (m : Mem) (K : List Item) : Option Res := den prog ann 22 (.code l2 :: .inLoop l2 :: .inBlock 2 :: K) ⟨[(1, x1), (2, x2), (3, x3), (4, x4), (5, x5), (6, x6), (7, x7), (8, x8)], 79, m⟩
def r8 := findReg b 8
def i1 := findCond b 1
def i1t := thenOf i1
def i1e := elseOf i1
def k3 := findBlk b 3
def r10 := findReg b 10
def r11 := findReg b 11
def r12 := findReg b 12
def i2 := findCond b 2
def i2t := thenOf i2
def i2e := elseOf i2
def r13 := findReg b 13
def r14 := findReg b 14
def i3 := findCond b 3
def i3t := thenOf i3
def i3e := elseOf i3
def r15 := findReg b 15
def r16 := findReg b 16
def r9 := findReg b 9
def r17 := findReg b 17
def r5 := findReg b 5
def r18 := findReg b 18
theorem b_eq : den prog ann 22 (.code b :: K) s = den prog ann 22 (.code r0 :: .code r1 :: .code r2 :: .code r3 :: .code k0 :: .code r18 :: .code .ret :: K) s := den_flat hf (l := [r0, r1, r2, r3, k0, r18, .ret]) (by kernel_rfl) K s
theorem r0_eq : den prog ann 22 (.code r0 :: K) s = mreg prog ann 22 none [] none [] [qA 1 frozenPtr 0,⟨some 2, none, .w false none fun s => newPtr s.m [.nils, .nils]⟩] K s := (den_reg hf _ K s).trans (by kernel_rfl)
theorem r1_draw : drawOk (fun g => (ann g).pure) (modeOf (ann 22) (idOf r1)) (frzOf (ann 22) (idOf r1)) (opsOf r1) = true := drawOk_of (an := [0, 1, 3, 7, 15, 0, 32, 96, 224, 480, 31, 2047]) (by kernel_rfl) (by kernel_rfl)
theorem r1_eq : den prog ann 22 (.code r1 :: K) s = mreg prog ann 22 none [] (some 12) [] [qA 11 (fieldA 0) 1,qA 12 (loadF false 1) 11,qA 13 (convInt .i64) 12,qF 14 fun s => binA prog .rem 3 (s.get 13) (.int .i64 6),qF 15 fun s => binA prog .add 3 (s.get 14) (.int .i64 1),qA 16 (fieldA 1) 1,qA 17 (loadF false 1) 16,qA 18 (convInt .i64) 17,qF 19 fun s => binA prog .rem 3 (s.get 18) (.int .i64 3),qF 20 fun s => binA prog .add 3 (s.get 19) (.int .i64 1),qC 3 15,qC 4 20] K s := (den_regD hf r1_draw K s).trans (by kernel_rfl)
theorem r2_eq : den prog ann 22 (.code r2 :: K) s = mreg prog ann 22 none [] none [] [qF 21 fun s => bldA (plc [(0, 1), (1, 1)]) [.nils, .nils] [],⟨some 5, none, .w false none fun s => newPtr s.m [.nils, .nils]⟩,⟨none, none, .w false none fun s => stA true 2 s.m (s.get 5) (s.get 21)⟩] K s := (den_reg hf _ K s).trans (by kernel_rfl)
theorem r3_eq : den prog ann 22 (.code r3 :: K) s = mreg prog ann 22 none [] none [] [qF 6 fun s => some (.int .i64 0)] K s := (den_reg hf _ K s).trans (by kernel_rfl)
theorem k0_eq (K : List Item) (t : List (Nat × AV)) (m : Mem) : den prog ann 22 (.code k0 :: K) ⟨t, 79, m⟩ = L0 (get t 1) (get t 2) (get t 3) (get t 4) (get t 5) (get t 6) m K := den_loop_enter hf (b := l0) (id := 4) (l := [1, 2, 3, 4, 5, 6]) (by kernel_rfl) (by kernel_rfl) (by kernel_rfl) K _
theorem l0_eq (K : List Item) (t : List (Nat × AV)) (m : Mem) : den prog ann 22 (.inLoop l0 :: .inBlock 0 :: K) ⟨t, 79, m⟩ = L0 (get t 1) (get t 2) (get t 3) (get t 4) (get t 5) (get t 6) m K := den_loop_again hf (id := 4) (l := [1, 2, 3, 4, 5, 6]) (by kernel_rfl) (by kernel_rfl) (.inBlock 0 :: K) _
theorem L0_eq (x1 x2 x3 x4 x5 x6 : AV) (m : Mem) (K : List Item) : L0 x1 x2 x3 x4 x5 x6 m K = den prog ann 22 (.code r4 :: .code i0 :: .code k1 :: .code r5 :: .inLoop l0 :: .inBlock 0 :: K) ⟨[(1, x1), (2, x2), (3, x3), (4, x4), (5, x5), (6, x6)], 79, m⟩ := den_flat hf (l := [r4, i0, k1, r5]) (by kernel_rfl) _ _
theorem r4_eq : den prog ann 22 (.code r4 :: K) s = mreg prog ann 22 (some [1, 2, 3, 4, 5, 6]) [] none [] [qC 22 6,qC 23 3,qB 24 (binA prog .lss 3) 22 23] K s := (den_reg hf _ K s).trans (by kernel_rfl)
theorem i0_eq : den prog ann 22 (.code i0 :: K) s = ifV prog ann 22 24 i0t i0e K s (s.get 24) := den_if hf (by kernel_rfl) K s
theorem i0t_eq : den prog ann 22 (.code i0t :: K) s = den prog ann 22 (K) s := den_flat hf (l := []) (by kernel_rfl) K s
theorem i0e_eq : den prog ann 22 (.code i0e :: K) s = den prog ann 22 (.code (.exit 0) :: K) s := den_flat hf (l := [(.exit 0)]) (by kernel_rfl) K s
theorem k1_eq : den prog ann 22 (.code k1 :: K) s = den prog ann 22 (.code r6 :: .code r7 :: .code k2 :: .code r17 :: .inBlock 1 :: K) s := den_blk hf (b := blkOf k1) (l := [r6, r7, k2, r17]) (by kernel_rfl) (by kernel_rfl) K s
theorem r6_eq : den prog ann 22 (.code r6 :: K) s = mreg prog ann 22 none [] none [] [⟨some 27, none, .w false none fun s => bslM s.m 0 (bslA 1 0 [.int .i64 0] [])⟩,qC 7 27] K s := (den_reg hf _ K s).trans (by kernel_rfl)
theorem r7_eq : den prog ann 22 (.code r7 :: K) s = mreg prog ann 22 none [] none [] [qF 8 fun s => some (.int .i64 0)] K s := (den_reg hf _ K s).trans (by kernel_rfl)
theorem k2_eq (K : List Item) (t : List (Nat × AV)) (m : Mem) : den prog ann 22 (.code k2 :: K) ⟨t, 79, m⟩ = L2 (get t 1) (get t 2) (get t 3) (get t 4) (get t 5) (get t 6) (get t 7) (get t 8) m K := den_loop_enter hf (b := l2) (id := 8) (l := [1, 2, 3, 4, 5, 6, 7, 8]) (by kernel_rfl) (by kernel_rfl) (by kernel_rfl) K _
theorem l2_eq (K : List Item) (t : List (Nat × AV)) (m : Mem) : den prog ann 22 (.inLoop l2 :: .inBlock 2 :: K) ⟨t, 79, m⟩ = L2 (get t 1) (get t 2) (get t 3) (get t 4) (get t 5) (get t 6) (get t 7) (get t 8) m K := den_loop_again hf (id := 8) (l := [1, 2, 3, 4, 5, 6, 7, 8]) (by kernel_rfl) (by kernel_rfl) (.inBlock 2 :: K) _
theorem L2_eq (x1 x2 x3 x4 x5 x6 x7 x8 : AV) (m : Mem) (K : List Item) : L2 x1 x2 x3 x4 x5 x6 x7 x8 m K = den prog ann 22 (.code r8 :: .code i1 :: .code k3 :: .code r9 :: .inLoop l2 :: .inBlock 2 :: K) ⟨[(1, x1), (2, x2), (3, x3), (4, x4), (5, x5), (6, x6), (7, x7), (8, x8)], 79, m⟩ := den_flat hf (l := [r8, i1, k3, r9]) (by kernel_rfl) _ _
theorem r8_eq : den prog ann 22 (.code r8 :: K) s = mreg prog ann 22 (some [1, 2, 3, 4, 5, 6, 7, 8]) [] none [] [qC 28 8,qC 29 4,qB 30 (binA prog .lss 3) 28 29] K s := (den_reg hf _ K s).trans (by kernel_rfl)
theorem i1_eq : den prog ann 22 (.code i1 :: K) s = ifV prog ann 22 30 i1t i1e K s (s.get 30) := den_if hf (by kernel_rfl) K s
theorem i1t_eq : den prog ann 22 (.code i1t :: K) s = den prog ann 22 (K) s := den_flat hf (l := []) (by kernel_rfl) K s
theorem i1e_eq : den prog ann 22 (.code i1e :: K) s = den prog ann 22 (.code (.exit 2) :: K) s := den_flat hf (l := [(.exit 2)]) (by kernel_rfl) K s
theorem k3_eq : den prog ann 22 (.code k3 :: K) s = den prog ann 22 (.code r10 :: .code r11 :: .code r12 :: .code i2 :: .code r14 :: .code i3 :: .code r16 :: .inBlock 3 :: K) s := den_blk hf (b := blkOf k3) (l := [r10, r11, r12, i2, r14, i3, r16]) (by kernel_rfl) (by kernel_rfl) K s
theorem r10_eq : den prog ann 22 (.code r10 :: K) s = mreg prog ann 22 none [] none [] [qF 9 fun s => some (.int .i64 0)] K s := (den_reg hf _ K s).trans (by kernel_rfl)
theorem r11_eq : den prog ann 22 (.code r11 :: K) s = mreg prog ann 22 none [] none [] [qC 33 6,qC 34 4,qB 35 (binA prog .mul 3) 33 34,qC 36 8,qB 37 (binA prog .add 3) 35 36,qC 10 37] K s := (den_reg hf _ K s).trans (by kernel_rfl)
theorem r12_eq : den prog ann 22 (.code r12 :: K) s = mreg prog ann 22 none [] none [] [qC 38 10,qA 39 (fieldA 2) 1,qA 40 (loadF false 1) 39,qA 41 lenSl 40,qB 42 (binA prog .lss 3) 38 41] K s := (den_reg hf _ K s).trans (by kernel_rfl)
theorem i2_eq : den prog ann 22 (.code i2 :: K) s = ifV prog ann 22 42 i2t i2e K s (s.get 42) := den_if hf (by kernel_rfl) K s
theorem i2t_eq : den prog ann 22 (.code i2t :: K) s = den prog ann 22 (.code r13 :: K) s := den_flat hf (l := [r13]) (by kernel_rfl) K s
theorem r13_eq : den prog ann 22 (.code r13 :: K) s = mreg prog ann 22 none [] none [] [qA 43 (fieldA 2) 1,qA 44 (loadF false 1) 43,qC 45 10,qB 46 (idxSl 1) 44 45,qA 47 (loadF false 1) 46,qA 48 (convInt .i64) 47,qC 49 3,qB 50 (binA prog .rem 3) 48 49,qC 9 50] K s := (den_reg hf _ K s).trans (by kernel_rfl)
theorem i2e_eq : den prog ann 22 (.code i2e :: K) s = den prog ann 22 (K) s := den_flat hf (l := []) (by kernel_rfl) K s
theorem r14_eq : den prog ann 22 (.code r14 :: K) s = mreg prog ann 22 none [] none [] [qA 51 (fieldA 3) 1,qA 52 (loadF false 1) 51,qF 53 fun s => binA prog .geq 5 (s.get 52) (.int .u8 128)] K s := (den_reg hf _ K s).trans (by kernel_rfl)
theorem i3_eq : den prog ann 22 (.code i3 :: K) s = ifV prog ann 22 53 i3t i3e K s (s.get 53) := den_if hf (by kernel_rfl) K s
theorem i3t_eq : den prog ann 22 (.code i3t :: K) s = den prog ann 22 (.code r15 :: K) s := den_flat hf (l := [r15]) (by kernel_rfl) K s
theorem r15_eq : den prog ann 22 (.code r15 :: K) s = mreg prog ann 22 none [] none [] [qC 54 9,qC 55 6,qF 56 fun s => foldA max2A (s.get 54) [(s.get 55)],qC 9 56] K s := (den_reg hf _ K s).trans (by kernel_rfl)
theorem i3e_eq : den prog ann 22 (.code i3e :: K) s = den prog ann 22 (K) s := den_flat hf (l := []) (by kernel_rfl) K s
theorem r16_eq : den prog ann 22 (.code r16 :: K) s = mreg prog ann 22 (some [1, 2, 3, 4, 5, 6, 7, 8, 9]) [] none [] [qC 57 7,qC 58 9,qF 59 fun s => bslF 1 (bslA 1 1 [.int .i64 0] [(0, (s.get 58))]),⟨some 60, none, .w false none fun s => appendA 1 8 s.m (s.get 57) (s.get 59)⟩,qC 7 60] K s := (den_reg hf _ K s).trans (by kernel_rfl)
theorem r9_eq : den prog ann 22 (.code r9 :: K) s = mreg prog ann 22 (some [1, 2, 3, 4, 5, 6, 7, 8]) [] none [] [qC 31 8,qF 32 fun s => binA prog .add 3 (s.get 31) (.int .i64 1),qC 8 32] K s := (den_reg hf _ K s).trans (by kernel_rfl)
theorem r17_draw : drawOk (fun g => (ann g).pure) (modeOf (ann 22) (idOf r17)) (frzOf (ann 22) (idOf r17)) (opsOf r17) = true := drawOk_of (an := [0, 1, 0, 4, 15, 0, 32, 0, 128, 0, 896, 1920, 3968, 8064, 16383, 127, 65535, 131071, 262143]) (by kernel_rfl) (by kernel_rfl)
theorem r17_eq : den prog ann 22 (.code r17 :: K) s = mreg prog ann 22 (some [1, 2, 3, 4, 5, 6, 7]) [7] (some 19) [3062066, 2000064] [qA 61 (fieldA 0) 5,qF 62 fun s => loadA false 1 s.m (s.get 61),qC 63 7,qF 64 fun s => bslF 1 (bslA 1 1 [.nils] [(0, (s.get 63))]),⟨some 65, none, .w false (some 4) fun s => appendA 1 24 s.m (s.get 62) (s.get 64)⟩,qA 66 (fieldA 1) 5,qF 67 fun s => loadA false 1 s.m (s.get 66),qA 68 (fieldA 3) 1,qA 69 (loadF false 1) 68,qC 70 6,qB 71 (binA prog .shr 5) 69 70,qF 72 fun s => binA prog .and 5 (s.get 71) (.int .u8 1),qF 73 fun s => binA prog .eql 5 (s.get 72) (.int .u8 1),qF 74 fun s => bslF 1 (bslA 1 1 [.bool false] [(0, (s.get 73))]),⟨some 75, none, .w false (some 14) fun s => appendA 1 1 s.m (s.get 67) (s.get 74)⟩,qA 76 (fieldA 0) 5,⟨none, none, .w false (some 16) fun s => stA false 1 s.m (s.get 76) (s.get 65)⟩,qA 77 (fieldA 1) 5,⟨none, none, .w false (some 18) fun s => stA false 1 s.m (s.get 77) (s.get 75)⟩] K s := (den_regD hf r17_draw K s).trans (by kernel_rfl)
theorem r5_eq : den prog ann 22 (.code r5 :: K) s = mreg prog ann 22 (some [1, 2, 3, 4, 5, 6]) [] none [] [qC 25 6,qF 26 fun s => binA prog .add 3 (s.get 25) (.int .i64 1),qC 6 26] K s := (den_reg hf _ K s).trans (by kernel_rfl)
theorem r18_eq : den prog ann 22 (.code r18 :: K) s = mreg prog ann 22 (some [2, 5]) [] none [] [qF 78 fun s => loadA true 2 s.m (s.get 5),⟨none, none, .w false none fun s => stA true 2 s.m (s.get 2) (s.get 78)⟩] K s := (den_reg hf _ K s).trans (by kernel_rfl)
theorem ret_eq : den prog ann 22 (.code .ret :: K) s = finM true [fun s => loadA true 2 s.m (s.get 2)] s := (den_ret hf K s).trans (by kernel_rfl)
theorem nil_eq (s : St) : den prog ann 22 [] s = finM true [fun s => loadA true 2 s.m (s.get 2)] s := (den_nil hf s).trans (by kernel_rfl)
theorem inBlock_eq (id : Nat) (K : List Item) (s : St) : den prog ann 22 (.inBlock id :: K) s = den prog ann 22 K s := den_inBlock hf id K s
theorem exit_eq (id : Nat) (K : List Item) (s : St) : den prog ann 22 (.code (.exit id) :: K) s = exitV prog ann 22 (exitTo id K) s := den_exitV hf id K s
theorem call_eq (v0 : AV) (m : Mem) (h : closedL [v0] = true) : denC prog ann 22 [v0] m = (den prog ann 22 [.code b] ⟨[(0, v0)], 79, Mem.empty⟩).bind fun r => some (r.1, m) := (denC_pure hf (b := b) (by kernel_rfl) (by kernel_rfl) (by kernel_rfl) h m).trans (by kernel_rfl)
theorem pure_eq : (ann 22).pure = true := by kernel_rfl
attribute [simp] b_eq r0_eq r1_eq r2_eq r3_eq k0_eq l0_eq r4_eq i0_eq i0t_eq i0e_eq k1_eq r6_eq r7_eq k2_eq l2_eq r8_eq i1_eq i1t_eq i1e_eq k3_eq r10_eq r11_eq r12_eq i2_eq i2t_eq r13_eq i2e_eq r14_eq i3_eq i3t_eq r15_eq i3e_eq r16_eq r9_eq r17_eq r5_eq r18_eq ret_eq nil_eq inBlock_eq exit_eq pure_eq
end
end l07_Plan_made
end Go.Proofs.Ythnpflkpjimkfaa

/-
  PLANS: numbers from which the laws make brands. Conditions: none.
-/
namespace Go.Proofs.Ythnpflkpjimkfaa
open Go.AM
open Go.Proofs.Try (prog)
set_option linter.all false
set_option maxRecDepth 100000
set_option maxHeartbeats 8000000
theorem u5 : prog.underlying 5 = some (.int .u8) := by kernel_rfl
theorem u35 : prog.underlying 35 = some (.slice 5) := by kernel_rfl
theorem u37 : prog.underlying 37 = some (.struct #[⟨ "States", 5, 0, false, "", "", 0⟩, ⟨ "Signs", 5, 1, false, "", "", 1⟩, ⟨ "Next", 35, 2, false, "", "", 8⟩, ⟨ "Good", 5, 3, false, "", "", 32⟩]) := by kernel_rfl
def bytN (l : List Nat) : List AV := l.map fun x => .int .u8 (x : Nat)
def IsBy (v : AV) (l : List Nat) : Prop := (v = .nils ∧ l = []) ∨ ∃ ex, v = .fsl ex l.length (bytN l)
theorem dat5 {d : Nat} {cs : List AV} (h : Dat prog (d + 1) 5 cs) : ∃ n : Nat, cs = [.int .u8 (n : Nat)] ∧ n < 256 := by
  simp only [Dat, u5] at h
  obtain ⟨n, e, hw⟩ := h
  simp only [Lit.wf, Bool.and_eq_true, decide_eq_true_eq] at hw
  have e1 : IntKind.min .u8 = 0 := by decide
  have e2 : IntKind.max .u8 = 255 := by decide
  rw [e1, e2] at hw
  refine ⟨n.toNat, ?_, by omega⟩
  rw [e]
  have : ((n.toNat : Nat) : Int) = n := by omega
  rw [this]
theorem dat35 {d : Nat} {cs : List AV} (h : Dat prog (d + 2) 35 cs) : ∃ v l, cs = [v] ∧ IsBy v l ∧ (∀ x ∈ l, x < 256) ∧ (l.length : Int) ≤ 9223372036854775807 := by
  rw [Dat] at h
  simp only [u35] at h
  rcases h with rfl | ⟨parts, rfl, hl, hp⟩
  · exact ⟨.nils, [], rfl, .inl ⟨rfl, rfl⟩, by simp, by simp⟩
  · have key : ∀ (parts : List (List AV)), (∀ p ∈ parts, ∃ n : Nat, p = [.int .u8 (n : Nat)] ∧ n < 256) → ∃ l : List Nat, l.length = parts.length ∧ parts.flatten = bytN l ∧ ∀ x ∈ l, x < 256 := by
      intro parts
      induction parts with
      | nil => intro _; exact ⟨[], rfl, rfl, by simp⟩
      | cons p ps ih =>
        intro h
        obtain ⟨n, rfl, hn⟩ := h p (by simp)
        obtain ⟨l, h1, h2, h3⟩ := ih (fun q hq => h q (by simp [hq]))
        exact ⟨n :: l, by simp [h1], by simp [h2, bytN], by intro x hx; rcases List.mem_cons.1 hx with rfl | hx; exact hn; exact h3 x hx⟩
    obtain ⟨l, h1, h2, h3⟩ := key parts (fun p hq => dat5 (hp p hq).2)
    refine ⟨_, l, rfl, .inr ⟨false, by rw [h1, h2]⟩, h3, ?_⟩
    have := mlen
    omega
theorem datV37 {d : Nat} {a : AV} (h : DatV prog (d + 4) 37 a) : ∃ s g : Nat, ∃ q : Nat, ∃ nv l, a = .agg [.int .u8 (s : Nat), .int .u8 (g : Nat), nv, .int .u8 (q : Nat)] ∧ s < 256 ∧ g < 256 ∧ q < 256 ∧ IsBy nv l ∧ (∀ x ∈ l, x < 256) ∧ (l.length : Int) ≤ 9223372036854775807 := by
  simp only [DatV, u37] at h
  obtain ⟨cs, rfl, h⟩ := h
  rw [Dat] at h
  simp only [u37] at h
  obtain ⟨parts, rfl, hl, hp⟩ := h
  match parts, hl with
  | [a, b, c, e], _ =>
    obtain ⟨n0, rfl, h0⟩ := dat5 (hp 0 _ _ rfl rfl).2
    obtain ⟨n1, rfl, h1⟩ := dat5 (hp 1 _ _ rfl rfl).2
    obtain ⟨v, l, rfl, h2, h3, h4⟩ := dat35 (d := d + 1) (hp 2 _ _ rfl rfl).2
    obtain ⟨n3, rfl, h5⟩ := dat5 (hp 3 _ _ rfl rfl).2
    exact ⟨n0, n1, n3, v, l, rfl, h0, h1, h5, h2, h3, h4⟩
theorem datV35 {d : Nat} {a : AV} (h : DatV prog (d + 2) 35 a) : ∃ l, IsBy a l ∧ (∀ x ∈ l, x < 256) ∧ (l.length : Int) ≤ 9223372036854775807 := by
  simp only [DatV, u35] at h
  obtain ⟨v, l, e, hn⟩ := dat35 h
  simp at e; subst e
  exact ⟨l, hn⟩
end Go.Proofs.Ythnpflkpjimkfaa
