/-
  WHAT COMES FIRST; THE LEAST PAIR. Conditions: none.
-/
import Derived.Test.YthnpflkpjimkfaaK06
import Derived.Test.YthnpflkpjimkfaaKAmH
import Derived.Test.YthnpflkpjimkfaaK01
import Derived.Test.YthnpflkpjimkfaaK02
import Derived.Test.YthnpflkpjimkfaaK00
import Derived.Test.YthnpflkpjimkfaaK03
import Derived.Test.YthnpflkpjimkfaaK04
set_option linter.all false
namespace Go.Proofs.Ythnpflkpjimkfaa
open Go.AM
open Go.Proofs.Try (prog)
set_option linter.all false
set_option maxRecDepth 100000
set_option maxHeartbeats 8000000
abbrev WFn := List UInt8 → Option (List UInt8)
abbrev GT := WFn × WFn × WL
section
variable {α : Type} (κ : α → List UInt8) (sd : α → Bool)
def fcS (G : GT) (q : α × List UInt8) : GT :=
  if sd q.1 = true then (if G.1 (κ q.1) = none then (putF G.1 (κ q.1) q.2, G.2.1, G.2.2 ++ [κ q.1]) else G)
  else (if G.2.1 (κ q.1) = none then (G.1, putF G.2.1 (κ q.1) q.2, G.2.2 ++ [κ q.1]) else G)
def G0 : GT := (fun _ => none, fun _ => none, [])
def fcA (L : List (α × List UInt8)) : GT := L.foldl (fcS κ sd) G0
def fnd (b : Bool) (L : List (α × List UInt8)) (p : List UInt8) : Option (List UInt8) := (L.find? fun q => decide (sd q.1 = b) && decide (κ q.1 = p)).map (·.2)
variable {κ sd}
theorem fc_good : ∀ (L : List (α × List UInt8)) (G : GT) (p : List UInt8), (L.foldl (fcS κ sd) G).1 p = (G.1 p).or (fnd κ sd true L p)
  | [], G, p => by simp [fnd]
  | q :: L, G, p => by
    rw [List.foldl_cons, fc_good L]
    unfold fnd
    rw [List.find?_cons]
    unfold fcS
    by_cases h : sd q.1 = true
    · rw [if_pos h]
      by_cases e : κ q.1 = p
      · subst e
        by_cases g : G.1 (κ q.1) = none
        · rw [if_pos g]
          simp [putF, g, h]
        · rw [if_neg g]
          obtain ⟨w, hw⟩ := Option.ne_none_iff_exists'.1 g
          simp [hw]
      · have e' : ¬ p = κ q.1 := fun x => e x.symm
        split
        · simp [putF, e, e']
        · simp [e]
    · rw [if_neg h]
      split <;> simp [h]
theorem fc_bad : ∀ (L : List (α × List UInt8)) (G : GT) (p : List UInt8), (L.foldl (fcS κ sd) G).2.1 p = (G.2.1 p).or (fnd κ sd false L p)
  | [], G, p => by simp [fnd]
  | q :: L, G, p => by
    rw [List.foldl_cons, fc_bad L]
    unfold fnd
    rw [List.find?_cons]
    unfold fcS
    by_cases h : sd q.1 = true
    · rw [if_pos h]
      split <;> simp [h]
    · rw [if_neg h]
      by_cases e : κ q.1 = p
      · subst e
        by_cases g : G.2.1 (κ q.1) = none
        · rw [if_pos g]
          simp [putF, g, h]
        · rw [if_neg g]
          obtain ⟨w, hw⟩ := Option.ne_none_iff_exists'.1 g
          simp [hw]
      · have e' : ¬ p = κ q.1 := fun x => e x.symm
        split
        · simp [putF, e, e']
        · simp [e]
theorem fc_names : ∀ (L : List (α × List UInt8)) (G : GT), (∀ p, G.1 p ≠ none ∨ G.2.1 p ≠ none → p ∈ G.2.2) → ∀ p, p ∈ (L.foldl (fcS κ sd) G).2.2 ↔ p ∈ G.2.2 ∨ ∃ q ∈ L, κ q.1 = p
  | [], G, _, p => by simp
  | q :: L, G, h, p => by
    rw [List.foldl_cons]
    have key : (∀ p, (fcS κ sd G q).1 p ≠ none ∨ (fcS κ sd G q).2.1 p ≠ none → p ∈ (fcS κ sd G q).2.2) ∧ ∀ p, p ∈ (fcS κ sd G q).2.2 ↔ p ∈ G.2.2 ∨ κ q.1 = p := by
      unfold fcS
      split
      · split
        · refine ⟨fun p hp => ?_, fun p => by simp [eq_comm]⟩
          simp only [List.mem_append, List.mem_singleton]
          by_cases e : p = κ q.1
          · exact .inr e
          · simp only [putF, if_neg e] at hp
            exact .inl (h p hp)
        · rename_i g
          refine ⟨h, fun p => ⟨.inl, ?_⟩⟩
          rintro (g2 | rfl)
          · exact g2
          · exact h _ (.inl g)
      · split
        · refine ⟨fun p hp => ?_, fun p => by simp [eq_comm]⟩
          simp only [List.mem_append, List.mem_singleton]
          by_cases e : p = κ q.1
          · exact .inr e
          · simp only [putF, if_neg e] at hp
            exact .inl (h p hp)
        · rename_i g
          refine ⟨h, fun p => ⟨.inl, ?_⟩⟩
          rintro (g2 | rfl)
          · exact g2
          · exact h _ (.inr g)
    rw [fc_names L _ key.1, key.2]
    simp only [List.mem_cons, exists_eq_or_imp]
    rw [or_assoc]
end
abbrev WW := List UInt8 × List UInt8
def mxl (p : WW) : Nat := max p.1.length p.2.length
def btr (p q : WW) : Bool := decide (mxl p < mxl q) || (decide (mxl p = mxl q) && (lessW p.1 q.1 || (decide (p.1 = q.1) && lessW p.2 q.2)))
theorem btr_iff (p q : WW) : btr p q = true ↔ mxl p < mxl q ∨ (mxl p = mxl q ∧ (rk p.1 < rk q.1 ∨ (rk p.1 = rk q.1 ∧ rk p.2 < rk q.2))) := by
  unfold btr
  simp only [Bool.or_eq_true, Bool.and_eq_true, decide_eq_true_eq, lessW_iff]
  constructor
  · rintro (h | ⟨h1, h2 | ⟨h2, h3⟩⟩)
    · exact .inl h
    · exact .inr ⟨h1, .inl h2⟩
    · exact .inr ⟨h1, .inr ⟨by rw [h2], h3⟩⟩
  · rintro (h | ⟨h1, h2 | ⟨h2, h3⟩⟩)
    · exact .inl h
    · exact .inr ⟨h1, .inl h2⟩
    · exact .inr ⟨h1, .inr ⟨rk_inj h2, h3⟩⟩
def selS (o : Option WW) (p : WW) : Option WW := match o with
  | none => some p
  | some q => if btr p q = true then some p else some q
def sel (l : List WW) : Option WW := l.foldl selS none
theorem sel_some : ∀ (l : List WW) (q : WW), ∃ p, l.foldl selS (some q) = some p ∧ (p = q ∨ p ∈ l) ∧ btr q p = false ∧ ∀ r ∈ l, btr r p = false
  | [], q => ⟨q, rfl, .inl rfl, by
      cases h : btr q q with
      | false => rfl
      | true => rw [btr_iff] at h; omega, by simp⟩
  | x :: l, q => by
    rw [List.foldl_cons]
    unfold selS
    simp only []
    by_cases h : btr x q = true
    · rw [if_pos h]
      obtain ⟨p, h1, h2, h3, h4⟩ := sel_some l x
      refine ⟨p, h1, .inr ?_, ?_, fun r hr => ?_⟩
      · rcases h2 with rfl | h2 <;> simp_all
      · cases g : btr q p with
        | false => rfl
        | true =>
          have : btr x p = true := by rw [btr_iff] at *; omega
          rw [this] at h3; cases h3
      · rcases List.mem_cons.1 hr with rfl | hr
        · exact h3
        · exact h4 r hr
    · rw [if_neg h]
      obtain ⟨p, h1, h2, h3, h4⟩ := sel_some l q
      refine ⟨p, h1, ?_, h3, fun r hr => ?_⟩
      · rcases h2 with rfl | h2
        · exact .inl rfl
        · exact .inr (by simp [h2])
      · rcases List.mem_cons.1 hr with rfl | hr
        · cases g : btr r p with
          | false => rfl
          | true =>
            have h5 : ¬ btr q p = true := by rw [h3]; simp
            rw [btr_iff] at g h5 h
            omega
        · exact h4 r hr
theorem sel_cons (x : WW) (l : List WW) : ∃ p, sel (x :: l) = some p ∧ p ∈ x :: l ∧ ∀ r ∈ x :: l, btr r p = false := by
  obtain ⟨p, h1, h2, h3, h4⟩ := sel_some l x
  refine ⟨p, h1, ?_, fun r hr => ?_⟩
  · rcases h2 with rfl | h2
    · simp
    · simp [h2]
  · rcases List.mem_cons.1 hr with rfl | hr
    · exact h3
    · exact h4 r hr
theorem sel_mem {l : List WW} {p : WW} (h : sel l = some p) : p ∈ l := by
  match l, h with
  | [], h => cases h
  | x :: l, h =>
    obtain ⟨q, h1, h2, _⟩ := sel_cons x l
    rw [h1] at h; cases h; exact h2
theorem sel_none {l : List WW} (h : sel l = none) : l = [] := by
  match l, h with
  | [], h => rfl
  | x :: l, h =>
    obtain ⟨q, h1, _, _⟩ := sel_cons x l
    rw [h1] at h; cases h
def cdP (Fg Fb : WFn) (p : List UInt8) : Option WW := match Fg p, Fb p with
  | some u, some v => some (u, v)
  | _, _ => none
theorem cdP_some {Fg Fb : WFn} {p : List UInt8} {x : WW} : cdP Fg Fb p = some x ↔ Fg p = some x.1 ∧ Fb p = some x.2 := by
  unfold cdP
  split
  · rename_i u v h1 h2
    rw [h1, h2]
    constructor
    · intro h; cases h; exact ⟨rfl, rfl⟩
    · rintro ⟨h, g⟩; cases h; cases g; rfl
  · rename_i h
    constructor
    · intro g; cases g
    · rintro ⟨h1, h2⟩; exact absurd h2 (h _ _ h1)
def cand (Fg Fb : WFn) (l : WL) : List WW := l.filterMap (cdP Fg Fb)
theorem cand_mem {Fg Fb : WFn} {l : WL} {x : WW} : x ∈ cand Fg Fb l ↔ ∃ p ∈ l, Fg p = some x.1 ∧ Fb p = some x.2 := by
  unfold cand
  rw [List.mem_filterMap]
  simp only [cdP_some]
end Go.Proofs.Ythnpflkpjimkfaa

/-
  BODIES OF FUNCTIONS OF THE PROGRAM AS SMALL OPERATIONS (written by gen.py; checked by the kernel against the program). Conditions: none.
-/
namespace Go.Proofs.Ythnpflkpjimkfaa
open Go.AM
open Go.Proofs.Try (prog)
set_option maxRecDepth 100000
set_option linter.all false
end Go.Proofs.Ythnpflkpjimkfaa

/-
  THE LEAST WORD THAT LEADS ALL STATES TO ONE: the program's search. Conditions: none.
-/
namespace Go.Proofs.Ythnpflkpjimkfaa
open Go.AM
open Go.Proofs.Try (prog)
set_option linter.all false
set_option maxRecDepth 100000
set_option maxHeartbeats 8000000
end Go.Proofs.Ythnpflkpjimkfaa

/-
  THE LEAST WORD THAT ONLY ONE OF TWO BRANDS ACCEPTS: the specification's search. Conditions: none.
-/
namespace Go.Proofs.Ythnpflkpjimkfaa
open Go.AM
open Go.Proofs.Try (prog)
set_option linter.all false
set_option maxRecDepth 100000
set_option maxHeartbeats 8000000
structure Rd (m : Mem) (x6 x7 : AV) (i6 i7 i8 : Nat) (S : List PN × List (List UInt8)) : Prop where
  p : Gl m x6 i6 2 S.1.length (flP S.1)
  w : Gl m x7 i7 1 S.2.length (S.2.map .str)
  k : Mp m i8 (S.1.map encP) ((S.1.map fun _ => true).map .bool)
  d1 : i6 ≠ i7
  d2 : i6 ≠ i8
  d3 : i7 ≠ i8
end Go.Proofs.Ythnpflkpjimkfaa

/-
  THE LEAST WORD THAT LEADS ALL STATES TO ONE: the specification's search. Conditions: none.
-/
namespace Go.Proofs.Ythnpflkpjimkfaa
open Go.AM
open Go.Proofs.Try (prog)
set_option linter.all false
set_option maxRecDepth 100000
set_option maxHeartbeats 8000000
structure Rs (m : Mem) (x6 x7 : AV) (i6 i7 i8 : Nat) (S : List Nat × List (List UInt8)) : Prop where
  p : Gl m x6 i6 1 S.1.length (S.1.map encS)
  w : Gl m x7 i7 1 S.2.length (S.2.map .str)
  k : Mp m i8 (S.1.map encS) ((S.1.map fun _ => true).map .bool)
  d1 : i6 ≠ i7
  d2 : i6 ≠ i8
  d3 : i7 ≠ i8
end Go.Proofs.Ythnpflkpjimkfaa

/-
  BrandAccepts: the law answers true. Conditions: none.
-/
namespace Go.Proofs.Ythnpflkpjimkfaa
open Go.AM
open Go.Proofs.Try (prog)
set_option linter.all false
set_option maxRecDepth 100000
set_option maxHeartbeats 8000000
theorem IsRows.cells {v : AV} {ps : List AV} {rows : List (List Int)} (h : IsRows v ps rows) : v.cells = [v] := by rcases h.val with ⟨rfl, _⟩ | ⟨_, rfl⟩ <;> rfl
end Go.Proofs.Ythnpflkpjimkfaa

/-
  BrandSmallest: the law answers true. Conditions: none.
-/
namespace Go.Proofs.Ythnpflkpjimkfaa
open Go.AM
open Go.Proofs.Try (prog)
set_option linter.all false
set_option maxRecDepth 100000
set_option maxHeartbeats 8000000
end Go.Proofs.Ythnpflkpjimkfaa

/-
  THE PROGRAM'S SEARCH FOR TWO WORDS WITH THE SAME PARTS. Conditions: none.
-/
namespace Go.Proofs.Ythnpflkpjimkfaa
open Go.AM
open Go.Proofs.Try (prog)
set_option linter.all false
set_option maxRecDepth 100000
set_option maxHeartbeats 8000000
def nxN (rows : List (List Int)) (K : Nat) (x : PT) (a : Nat) : PT := (nx rows x.1 a, addP K x.2 (ltr a))
def flN : List PT → List AV
  | [] => []
  | x :: l => cN x ++ flN l
@[simp] theorem cN_len (x : PT) : (cN x).length = 2 := rfl
@[simp] theorem flN_len : ∀ l : List PT, (flN l).length = l.length * 2
  | [] => rfl
  | x :: l => by rw [flN, List.length_append, flN_len l, cN_len, List.length_cons]; omega
theorem flN_app : ∀ l r : List PT, flN (l ++ r) = flN l ++ flN r
  | [], r => rfl
  | x :: l, r => by rw [List.cons_append, flN, flN_app l r, flN, List.append_assoc]
theorem flN_drop : ∀ (i : Nat) (l : List PT), (flN l).drop (i * 2) = flN (l.drop i)
  | 0, l => by simp
  | i + 1, [] => by simp [flN]
  | i + 1, x :: l => by
    rw [flN, Nat.succ_mul, Nat.add_comm, ← List.drop_drop]
    simp [cN, flN_drop i l]
theorem flN_at {l : List PT} {i : Nat} {x : PT} (h : l[i]? = some x) : ((flN l).drop (i * 2)).take 2 = cN x := by
  rw [flN_drop]
  have hi := (List.getElem?_eq_some_iff.1 h).1
  have e := (List.getElem?_eq_some_iff.1 h).2
  rw [List.drop_eq_getElem_cons hi, e]
  rfl
theorem flN_drop1 (l : List PT) (i : Nat) : (flN (l.drop i)).drop 2 = flN (l.drop (i + 1)) := by
  have := flN_drop 1 (l.drop i)
  simpa using this
abbrev ST := List PT × WL
structure Ps (h : Nat → Option AObj) (nx : Nat) (iw is ig ib : Nat) (nv : AV) (q : AV) (iq i : Nat) (S : ST) (vs : List AV) (G : GT) : Prop where
  w : Mp ⟨h, nx⟩ iw (S.1.map encN) (S.2.map .str)
  s : Mp ⟨h, nx⟩ is (S.1.map encN) (vs.map id)
  v : vs.length = S.1.length ∧ ∀ (j : Nat) x, S.1[j]? = some x → ∃ ex, vs[j]? = some (sF ex x.2)
  g : Mf AV.str (fun _ => True) AV.str h ig G.1
  b : Mf AV.str (fun _ => True) AV.str h ib G.2.1
  n : Nl h nv (G.2.2.map .str) (ib + 1) nx
  q : Gl ⟨h, nx⟩ q iq 2 (S.1.length - i) (flN (S.1.drop i))
  o1 : iw < is
  o2 : is < ig
  o3 : ig < ib
  o4 : ib < iq
  d : objId nv ≠ some iq
noncomputable def KSo : List Item := [.code brand_Short.r32, .code brand_Short.r33, .code brand_Short.k4, .code brand_Short.r46, .code brand_Short.i11, .code brand_Short.r48, .code .ret]
noncomputable def KSi : List Item := .inBlock 1 :: .code brand_Short.r11 :: .inLoop brand_Short.l0 :: .inBlock 0 :: KSo
section
variable {t : TypeId} {α β : Type} [DecidableEq α] {enc : α → AV} {ok : α → Prop} {ev : β → AV}
theorem Mp.putU (hk : Keys t enc ok) {h : Nat → Option AObj} {nx id : Nat} {ks : List α} {vs : List β} (M : Mp ⟨h, nx⟩ id (ks.map enc) (vs.map ev)) (ha : ∀ a ∈ ks, ok a) (hl : ks.length = vs.length) {c : α} (hc : ok c) (hm : c ∉ ks) (v : β) :
    ∃ o, (∀ h1 nx, h1 id = h id → updM prog ⟨h1, nx⟩ t (.map id) (enc c) (ev v) = some (.tup [], ⟨upd h1 id o, nx⟩)) ∧ ∀ h' nx', h' id = o → id < nx' → Mp ⟨h', nx'⟩ id ((ks ++ [c]).map enc) ((vs ++ [v]).map ev) := by
  obtain ⟨⟨g, hg⟩, hlt⟩ := M
  refine ⟨some (.map (g + 1) ((ks ++ [c]).map enc) ((vs ++ [v]).map ev)), fun h1 nx e => ?_, fun h' nx' e l => ⟨⟨g + 1, e⟩, l⟩⟩
  have hg' : h1 id = some (.map g (ks.map enc) (vs.map ev)) := by rw [e]; exact hg
  simp only [updM, updP, hk.key c hc, cond_true, hg', setK_of hk ha hc (vs := vs.map ev) (by simpa using hl) hm, Option.bind_some, Option.map_some]
  simp [Mem.set]
theorem Mp.ent (hk : Keys t enc ok) {h : Nat → Option AObj} {nx id : Nat} {ks : List α} {vs : List β} (M : Mp ⟨h, nx⟩ id (ks.map enc) (vs.map ev)) (ha : ∀ a ∈ ks, ok a) (hl : ks.length = vs.length) {c : α} (hc : ok c) (hm : c ∉ ks) (z v : β) :
    ∃ o1 st o2, (∀ h1 nx, h1 id = h id → AM.entP prog ⟨h1, nx⟩ t (ev z) (.map id) (enc c) = some (.tup [ev z, st], ⟨upd h1 id o1, nx⟩)) ∧ (∀ h1 nx, h1 id = o1 → entS ⟨h1, nx⟩ (.map id) st (ev v) = some (.tup [], ⟨upd h1 id o2, nx⟩)) ∧
      ∀ h' nx', h' id = o2 → id < nx' → Mp ⟨h', nx'⟩ id ((ks ++ [c]).map enc) ((vs ++ [v]).map ev) := by
  obtain ⟨⟨g, hg⟩, hlt⟩ := M
  refine ⟨some (.map (g + 1) ((ks ++ [c]).map enc) ((vs ++ [z]).map ev)), .int .i64 (ks.length : Nat), some (.map (g + 1 + 1) ((ks ++ [c]).map enc) ((vs ++ [v]).map ev)), fun h1 nx e => ?_, fun h1 nx e => ?_, fun h' nx' e l => ⟨⟨g + 1 + 1, e⟩, l⟩⟩
  · have hg' : h1 id = some (.map g (ks.map enc) (vs.map ev)) := by rw [e]; exact hg
    simp only [AM.entP, hk.key c hc, cond_true, hg', findI_gen hk 0 ha hc, if_neg hm, Option.bind_some, List.length_map]
    simp [Mem.set]
  · have hs : ((vs ++ [z]).map ev).set ks.length (ev v) = (vs ++ [v]).map ev := by
      rw [hl]; simp
    have h7 : ((vs.length : Nat) : Int) < (vs.length : Nat) + 1 := by omega
    simp [entS, entryStA, e, inR, Mem.set, hl, h7]
theorem Mp.mlen {m : Mem} {id : Nat} {ks : List α} {vs : List AV} (M : Mp m id (ks.map enc) vs) : mapLenA m (.map id) = some (.int .i64 (ks.length : Nat)) := by
  obtain ⟨⟨g, hg⟩, hlt⟩ := M
  simp [mapLenA, mapLen, hg]
end
theorem Ps.fr {h h' : Nat → Option AObj} {nx nx' iw is ig ib iq i : Nat} {nv q : AV} {S : ST} {vs : List AV} {G : GT} (P : Ps h nx iw is ig ib nv q iq i S vs G) (e : ∀ y, y < nx → h' y = h y) (l : nx ≤ nx') : Ps h' nx' iw is ig ib nv q iq i S vs G := by
  have := P.q.lt
  have h1 : iq < nx := this
  have o1 := P.o1
  have o2 := P.o2
  have o3 := P.o3
  have o4 := P.o4
  exact ⟨P.w.frame (e iw (by omega)) l, P.s.frame (e is (by omega)) l, P.v, P.g.fr (e ig (by omega)), P.b.fr (e ib (by omega)), P.n.fr (fun y h1 h2 _ => e y h2) l, P.q.frame (e iq h1) l, o1, o2, o3, o4, P.d⟩
theorem Ps.add {h h' : Nat → Option AObj} {nx nx' iw is ig ib iq iq' i : Nat} {nv q q' : AV} {S : ST} {vs : List AV} {G : GT} (P : Ps h nx iw is ig ib nv q iq i S vs G) (l : nx ≤ nx') {y : PT} {w : List UInt8} {u : AV} (hu : ∃ ex, u = sF ex y.2) (hi : i ≤ S.1.length)
    (hw : Mp ⟨h', nx'⟩ iw ((S.1 ++ [y]).map encN) ((S.2 ++ [w]).map .str)) (hs : Mp ⟨h', nx'⟩ is ((S.1 ++ [y]).map encN) ((vs ++ [u]).map id))
    (hq : Gl ⟨h', nx'⟩ q' iq' 2 (S.1.length - i + 1) (flN (S.1.drop i) ++ cN y)) (hq' : iq' = iq ∨ nx ≤ iq') (e : ∀ z, z < nx → z ≠ iw → z ≠ is → z ≠ iq → h' z = h z) : Ps h' nx' iw is ig ib nv q' iq' i (S.1 ++ [y], S.2 ++ [w]) (vs ++ [u]) G := by
  have hlt : iq < nx := P.q.lt
  have o1 := P.o1
  have o2 := P.o2
  have o3 := P.o3
  have o4 := P.o4
  refine ⟨hw, hs, ⟨by simp [P.v.1], fun j x hj => ?_⟩, P.g.fr (e ig (by omega) (by omega) (by omega) (by omega)), P.b.fr (e ib (by omega) (by omega) (by omega) (by omega)), P.n.fr (fun z h1 h2 h3 => e z h2 (by omega) (by omega) (fun c => P.d (by rw [h3, c]))) l, ?_, o1, o2, o3, ?_, ?_⟩
  · have vl := P.v.1
    by_cases c : j < S.1.length
    · rw [List.getElem?_append_left c] at hj
      obtain ⟨ex, he⟩ := P.v.2 j x hj
      exact ⟨ex, by rw [List.getElem?_append_left (by omega)]; exact he⟩
    · have hj' := (List.getElem?_eq_some_iff.1 hj).1
      simp at hj'
      have ej : j = S.1.length := by omega
      subst ej
      simp at hj
      subst hj
      obtain ⟨ex, rfl⟩ := hu
      exact ⟨ex, by rw [← vl]; simp⟩
  · show Gl _ q' iq' 2 ((S.1 ++ [y]).length - i) (flN ((S.1 ++ [y]).drop i))
    rw [List.drop_append_of_le_length hi, flN_app, List.length_append]
    rw [show S.1.length + [y].length - i = S.1.length - i + 1 by simp; omega]
    simpa [flN] using hq
  · rcases hq' with c | c <;> omega
  · intro c
    rcases hq' with c2 | c2
    · rw [c2] at c; exact P.d c
    · have := P.n.oid c; omega
def fulV : AV := .tup [.str [], .str [], .int .i64 7]
theorem sho_in {nv gv : AV} {ps : List AV} {rows : List (List Int)} {good : List Bool} {k : Nat} (hn : IsRows nv ps rows) (v : VB rows good k) {K : Nat} (K3 : K ≤ 3) {iw is ig ib i : Nat} {x : PT} {w : List UInt8} (hx : OkP rows.length k K x) {r : Res} {nmV : AV} {G : GT} :
    ∀ (j a iq : Nat) (m : Mem) (q : AV) (S : ST) (vs : List AV), a + j = k → Ps m.h m.nx iw is ig ib nmV q iq i S vs G → S.1[i]? = some x → S.2[i]? = some w → BOk (OkP rows.length k K) List.length S → S.1.length ≤ 5000 →
    (∀ S', bInF (nxN rows K) extL x w j a S = some S' → ∀ m' q' iq' vs', Ps m'.h m'.nx iw is ig ib nmV q' iq' i S' vs' G → brand_Short.L0 (.int .i64 K) (.fptr [nv, gv]) (.fn 57 [] []) (.map iw) (.map is) (.map ig) (.map ib) nmV (tlV q' 2) m' KSo = some r) →
    (bInF (nxN rows K) extL x w j a S = none → r = (fulV, Mem.empty)) →
    brand_Short.L2 (.int .i64 K) (.fptr [nv, gv]) (.fn 57 [] []) (.map iw) (.map is) (.map ig) (.map ib) nmV q (.fptr (cN x)) (.int .i64 k) (.int .i64 a) m KSi = some r := by
  intro j
  induction j with
  | zero =>
    intro a iq m q S vs h1 P hS1 hS2 hS h5 hk hf
    have e : a = k := by omega
    subst e
    have hi := (List.getElem?_eq_some_iff.1 hS1).1
    have hk := hk S rfl m q iq vs P
    rw [brand_Short.L2_eq]
    simp [KSi, P.q.cut (by omega), hk]
    done
  | succ j ih =>
    intro a iq m q S vs h1 P hS1 hS2 hS h5 hk hf
    have ha : a < k := by omega
    have hi := (List.getElem?_eq_some_iff.1 hS1).1
    obtain ⟨x1, x2⟩ := x
    have hx1 : x1 < rows.length := hx.lt
    have px := hx.p
    simp only at px
    have k3 := v.k3
    have b := v.rl x1 hx1
    obtain ⟨c1, c2⟩ := nx_lt v hx1 ha
    have iw1 := hn.row x1 hx1
    have hwi : IntKind.wrap .i64 ((a : Int) + 1) = (a : Int) + 1 := wrap_id (by omega) (by have := v.k3; omega)
    have ha3 : a < 3 := by have := v.k3; omega
    have d1 := iw1.idx (i := a) (by omega) .i64
    have e1 := ints_head (l := cth rows x1) (i := a) (by omega)
    rw [c2] at e1
    have hlt := fun m => letter_spec ha3 m
    have KN := keysN rows.length k K
    obtain ⟨vl, vv⟩ := P.v
    obtain ⟨ex, hv⟩ := vv i _ hS1
    simp only at hv
    have hps := fun m => parts_spec (ex := ex) (x := ltr a) (K := K) (by have := px.le k3 K3; omega) px.pos (px.wl K3) (by simp [ltr]) m
    have py := addP_pset px ha k3 (k := k)
    have hnm := fun m => name_spec (ex := false) (l := addP K x2 (ltr a)) (by have := py.le k3 K3; omega) (py.wl K3) m
    have is_lt : is < m.nx := P.s.2
    have ls := fun y (hy : m.nx ≤ y) => (P.s.frame (m' := ⟨m.h, y⟩) rfl hy).look KN hS.all (by omega) (c := (x1, x2)) hx .nils false
    rw [lkP_at hS.nd hS1 hv] at ls
    simp only [encN, cN, nxN, id] at ls
    have ls := ls (m.nx + 8) (by omega)
    have yok : OkP rows.length k K (nxN rows K (x1, x2) a) := ⟨c1, py, addP_srt K x2 (ltr a)⟩
    have P1 := P.fr (h' := upd m.h (m.nx + 8 + 13) none) (nx' := m.nx + 8 + 15) (fun y hy => updNe (by omega)) (by omega)
    have lw := P1.w.look KN hS.all hS.len yok (.str []) true
    simp only [encN, cN, nxN] at lw
    rw [bInF] at hk hf
    by_cases hc : nxN rows K (x1, x2) a ∈ S.1
    · rw [if_pos hc] at hk hf
      obtain ⟨i', hi'⟩ := List.getElem?_of_mem hc
      have hi2 : i' < S.2.length := by rw [← hS.len]; exact (List.getElem?_eq_some_iff.1 hi').1
      have q1 := lkP_at hS.nd hi' (List.getElem?_eq_getElem hi2)
      simp only [nxN] at q1
      rw [q1] at lw
      have st := ih (a + 1) iq ⟨upd m.h (m.nx + 8 + 13) none, m.nx + 8 + 15⟩ q S vs (by omega) P1 hS1 hS2 hS h5 hk hf
      simp only [Int.natCast_add, Int.cast_ofNat_Int, cN, KSi] at st
      rw [brand_Short.L2_eq]
      simp [cN, ha, hn.idx hx1, hn.head hx1, d1, e1, hlt, hps, hnm, hwi, ls, lw, (sF_is ex x2).closed, (sF_is false (addP K x2 (ltr a))).closed, KSi, st]
      done
    rw [if_neg hc] at hk hf
    have q1 := lkP_none (vs := S.2) hc
    simp only [nxN] at q1
    rw [q1] at lw
    have hlen := hS.len
    have lx := (P1.w.frame (m' := ⟨upd m.h (m.nx + 8 + 13) none, m.nx + 8 + 15 + 15⟩) rfl (by show m.nx + 8 + 15 ≤ m.nx + 8 + 15 + 15; omega)).look KN hS.all hS.len (c := (x1, x2)) hx (.str []) false
    rw [lkP_at hS.nd hS1 hS2] at lx
    simp only [encN, cN] at lx
    have hwl : w.length ≤ 5001 := by
      have h1 := hS.wl w (List.mem_of_getElem? hS2)
      omega
    have hll : w.length + (ltr a).length ≤ 4611686018427387904 := by simp [ltr]; omega
    have o1' := P.o1
    have o2' := P.o2
    have o3' := P.o3
    have o4' := P.o4
    have hiq : iq < m.nx := P.q.lt
    obtain ⟨b1, st, b2, E1, E2, E3⟩ := P1.w.ent KN hS.all hS.len yok hc [] (extL w a)
    obtain ⟨b3, F1, F2⟩ := P1.s.putU KN hS.all (by omega) yok hc (sF false (nxN rows K (x1, x2) a).2)
    have E1 := fun y => E1 (upd m.h (m.nx + 8 + 13) none) y rfl
    have E2 := fun y => E2 (upd (upd m.h (m.nx + 8 + 13) none) iw b1) y (by simp)
    have F1 := fun y => F1 (upd (upd m.h (m.nx + 8 + 13) none) iw b2) y (updNe (by omega))
    have hq2 : Gl ⟨upd (upd (upd m.h (m.nx + 8 + 13) none) iw b2) is b3, m.nx + 8 + 15 + 15⟩ q iq 2 (S.1.length - i) (flN (S.1.drop i)) := P1.q.frame (by
      show upd (upd (upd m.h (m.nx + 8 + 13) none) iw b2) is b3 iq = _
      rw [updNe (by omega), updNe (by omega)]) (by show m.nx + 8 + 15 ≤ m.nx + 8 + 15 + 15; omega)
    obtain ⟨q', m3, iq', g1, g2, g3, g4, g5⟩ := hq2.app (by' := 24) (ys := cN (nxN rows K (x1, x2) a)) rfl (by simp; omega)
    simp only at g3 g4 g5
    have w3 : Mp m3 iw ((S.1 ++ [nxN rows K (x1, x2) a]).map encN) ((S.2 ++ [extL w a]).map .str) := E3 m3.h m3.nx (by
      rw [g5 iw (by omega) (by omega), updNe (by omega)]; simp) (by omega)
    have s3 : Mp m3 is ((S.1 ++ [nxN rows K (x1, x2) a]).map encN) ((vs ++ [sF false (nxN rows K (x1, x2) a).2]).map id) := F2 m3.h m3.nx (by
      rw [g5 is (by omega) (by omega)]; simp) (by omega)
    have ml := w3.mlen
    have PA := P1.add (h' := m3.h) (nx' := m3.nx) (by omega) ⟨false, rfl⟩ (by omega) w3 s3 g2 (by omega) (fun z z1 z2 z3 z4 => by
      rw [g5 z (by omega) z4, updNe z3, updNe z2])
    simp only [encN, cN, nxN, extL, id] at E1 E2 F1 g1
    by_cases q5 : 5000 ≤ S.1.length
    · rw [if_pos q5] at hf
      have hf := hf rfl
      subst hf
      rw [brand_Short.L2_eq]
      simp [cN, lw, ha, hn.idx hx1, hn.head hx1, d1, e1, hlt, hps, hnm, hwi, ls, (sF_is ex x2).closed, (sF_is false (addP K x2 (ltr a))).closed, KSi, lx, hll, E1, E2, F1, P.q.one, g1, g2.one, ml, show (5000 : Int) < (S.1.length : Int) + 1 by omega, fulV]
      done
    · rw [if_neg q5] at hk hf
      have st := ih (a + 1) iq' m3 q' _ _ (by omega) PA (by simp only []; rw [List.getElem?_append_left (by omega)]; exact hS1) (by simp only []; rw [List.getElem?_append_left (by omega)]; exact hS2) (bok_add hS yok hc (by
        have := hS.wl w (List.mem_of_getElem? hS2)
        simp [extL, ltr]; omega)) (by simp; omega) hk hf
      simp only [Int.natCast_add, Int.cast_ofNat_Int, cN, KSi] at st
      rw [brand_Short.L2_eq]
      simp [cN, lw, ha, hn.idx hx1, hn.head hx1, d1, e1, hlt, hps, hnm, hwi, ls, (sF_is ex x2).closed, (sF_is false (addP K x2 (ltr a))).closed, KSi, lx, hll, E1, E2, F1, P.q.one, g1, g2.one, ml, show ¬ (5000 : Int) < (S.1.length : Int) + 1 by omega, st]
      done
noncomputable def KS4 : List Item := [.code brand_Short.r46, .code brand_Short.i11, .code brand_Short.r48, .code .ret]
abbrev kN (x : PT) : List UInt8 := nameL x.2
abbrev sdG (good : List Bool) (x : PT) : Bool := bnth good x.1
theorem Ps.good {h h' : Nat → Option AObj} {nx nx' iw is ig ib iq i : Nat} {nv q nv' : AV} {S : ST} {vs : List AV} {G G' : GT} (P : Ps h nx iw is ig ib nv q iq i S vs G) (l : nx ≤ nx') (e : ∀ y, y < nx → y ≠ ig → y ≠ ib → objId nv ≠ some y → h' y = h y)
    (g : Mf AV.str (fun _ => True) AV.str h' ig G'.1) (b : Mf AV.str (fun _ => True) AV.str h' ib G'.2.1) (n : Nl h' nv' (G'.2.2.map .str) (ib + 1) nx') (d : objId nv' ≠ some iq) : Ps h' nx' iw is ig ib nv' q iq i S vs G' := by
  have h1 : iq < nx := P.q.lt
  have o1 := P.o1
  have o2 := P.o2
  have o3 := P.o3
  have o4 := P.o4
  have nn : ∀ y, y ≤ ib → objId nv ≠ some y := fun y hy c => by have := P.n.oid c; omega
  exact ⟨P.w.frame (e iw (by omega) (by omega) (by omega) (nn _ (by omega))) l, P.s.frame (e is (by omega) (by omega) (by omega) (nn _ (by omega))) l, P.v, g, b, n, P.q.frame (e iq h1 (by omega) (by omega) P.d) l, o1, o2, o3, o4, d⟩
theorem sho_out {nv gv : AV} {ps : List AV} {rows : List (List Int)} {good : List Bool} {k : Nat} (hn : IsRows nv ps rows) (hg : IsB gv good) (v : VB rows good k) {K : Nat} (K3 : K ≤ 3) {iw is ig ib : Nat} {r : Res} :
    ∀ (f i iq : Nat) (m : Mem) (q nmV : AV) (S : ST) (vs : List AV) (G : GT), Ps m.h m.nx iw is ig ib nmV q iq i S vs G → BOk (OkP rows.length k K) List.length S → S.1.length ≤ 5000 → i ≤ S.1.length → 5000 < f + i → G.2.2.length ≤ i →
    (∀ S', bfsF (nxN rows K) extL k f i S = some S' → ∀ m' q' iq' vs' nmV', Ps m'.h m'.nx iw is ig ib nmV' q' iq' S'.1.length S' vs' (((S'.1.zip S'.2).drop i).foldl (fcS kN (sdG good)) G) → brand_Short.L4 (.map ig) (.map ib) .nils nmV' (.int .i64 (((S'.1.zip S'.2).drop i).foldl (fcS kN (sdG good)) G).2.2.length) (.int .i64 0) m' KS4 = some r) →
    (bfsF (nxN rows K) extL k f i S = none → r = (fulV, Mem.empty)) →
    brand_Short.L0 (.int .i64 K) (.fptr [nv, gv]) (.fn 57 [] []) (.map iw) (.map is) (.map ig) (.map ib) nmV q m KSo = some r := by
  intro f
  induction f with
  | zero => intro i iq m q nmV S vs G P hS h5 hi hf; omega
  | succ f ih =>
    intro i iq m q nmV S vs G P hS h5 hi hfu hG hk hf
    by_cases c : i < S.1.length
    · have hx := List.getElem?_eq_getElem c
      have hlen := hS.len
      have c2 : i < S.2.length := by omega
      have hw := List.getElem?_eq_getElem c2
      generalize S.1[i] = x at hx
      generalize S.2[i] = w at hw
      have ok := hS.all x (List.mem_of_getElem? hx)
      obtain ⟨x1, x2⟩ := x
      have hx1 : x1 < rows.length := ok.lt
      have gl := v.gl
      have b1 := bls_head (bs := good) (i := x1) (by omega)
      have hq0 := P.q.idx (i := 0) (by omega) .i64
      have hld := P.q.load (i := 0) (by omega)
      have fl := flN_at (l := S.1.drop i) (i := 0) (x := (x1, x2)) (by rw [List.getElem?_drop]; exact hx)
      rw [fl] at hld
      have i0 := hn.idx (i := 0) v.n1 .i64
      have j0 := hn.head (i := 0) v.n1
      have iw0 := hn.row 0 v.n1
      have r0 := v.rl 0 v.n1
      simp only [Int.ofNat_zero, Int.cast_ofNat_Int, List.drop_zero] at i0 j0 hq0
      rw [bfsF, hx, hw] at hk hf
      simp only [Option.bind_eq_some_iff] at hk
      have hf : (bInF (nxN rows K) extL (x1, x2) w k 0 S).bind (bfsF (nxN rows K) extL k f (i + 1)) = none → r = (fulV, Mem.empty) := hf
      have ql := P.q.len
      have q0 : 0 < S.1.length - i := by omega
      have hG2 : (fcS kN (sdG good) G ((x1, x2), w)).2.2.length ≤ i + 1 := by
        unfold fcS
        split <;> split <;> first | omega | (simp; omega)
      have fin : ∀ (m2 : Mem) (nm2 : AV), Ps m2.h m2.nx iw is ig ib nm2 q iq i S vs (fcS kN (sdG good) G ((x1, x2), w)) → brand_Short.L2 (.int .i64 K) (.fptr [nv, gv]) (.fn 57 [] []) (.map iw) (.map is) (.map ig) (.map ib) nm2 q (.fptr (cN (x1, x2))) (.int .i64 k) (.int .i64 0) m2 KSi = some r := by
        intro m2 nm2 P2
        have st := sho_in (gv := gv) hn v K3 (r := r) ok k 0 iq m2 q S vs (by omega) P2 hx hw hS h5 (fun S' hS' m' q' iq' vs' P' => by
          obtain ⟨p', q'', e1, e2⟩ := bInF_pre hS'
          have hb := bInF_bIn hS'
          have hS2 : BOk (OkP rows.length k K) List.length S' := by
            rw [hb]
            exact bIn_ok (nxN rows K) extL (k := k) (fun y a hy ha => ⟨(nx_lt v hy.lt ha).1, addP_pset hy.p ha v.k3, addP_srt K y.2 (ltr a)⟩) (fun w a => by simp [extL, ltr]) (x1, x2) w ok k 0 S (by omega) hS (hS.wl w (List.mem_of_getElem? hw))
          have hle := bInF_le hS' h5
          have hlen' : S.1.length ≤ S'.1.length := by rw [e1]; simp
          have hlen2 := hS2.len
          have hxi : S'.1[i]? = some (x1, x2) := by rw [e1, List.getElem?_append_left c]; exact hx
          have hwi : S'.2[i]? = some w := by rw [e2, List.getElem?_append_left c2]; exact hw
          have Pt : Ps m'.h m'.nx iw is ig ib nm2 (tlV q' 2) iq' (i + 1) S' vs' (fcS kN (sdG good) G ((x1, x2), w)) := by
            have := P'.q.tail (by omega)
            rw [flN_drop1] at this
            exact ⟨P'.w, P'.s, P'.v, P'.g, P'.b, P'.n, this, P'.o1, P'.o2, P'.o3, P'.o4, P'.d⟩
          refine ih (i + 1) iq' m' (tlV q' 2) nm2 S' vs' _ Pt hS2 hle (by omega) (by omega) hG2 (fun S'' hS'' m'' q3 iq3 vs3 nm3 P3 => ?_) (fun hnone => hf (by rw [hS']; exact hnone))
          have hz : (S''.1.zip S''.2).drop i = ((x1, x2), w) :: (S''.1.zip S''.2).drop (i + 1) := by
            obtain ⟨p3, q4, e3, e4⟩ := bfsF_pre hS''
            have z1 : S''.1[i]? = some (x1, x2) := by rw [e3, List.getElem?_append_left (by omega)]; exact hxi
            have z2 : S''.2[i]? = some w := by rw [e4, List.getElem?_append_left (by omega)]; exact hwi
            have z3 : (S''.1.zip S''.2)[i]? = some ((x1, x2), w) := by rw [List.getElem?_zip_eq_some]; exact ⟨z1, z2⟩
            have zl := (List.getElem?_eq_some_iff.1 z3).1
            rw [List.drop_eq_getElem_cons zl, (List.getElem?_eq_some_iff.1 z3).2]
          have hk := hk S'' ⟨S', hS', hS''⟩ m'' q3 iq3 vs3 nm3
          rw [hz] at hk
          exact hk P3) (fun hnone => hf (by rw [hnone]; rfl))
        simpa using st
      simp only [KSi, cN] at fin
      have P1 := P.fr (h' := upd m.h m.nx none) (nx' := m.nx + 1) (fun y hy => updNe (by omega)) (by omega)
      have KN := keysN rows.length k K
      have lx := (P1.w.frame (m' := ⟨upd m.h m.nx none, m.nx + 1 + 7⟩) rfl (by show m.nx + 1 ≤ m.nx + 1 + 7; omega)).look KN hS.all hS.len (c := (x1, x2)) ok (.str []) false
      rw [lkP_at hS.nd hx hw] at lx
      simp only [encN, cN] at lx
      have o1' := P.o1
      have o2' := P.o2
      have o3' := P.o3
      have o4' := P.o4
      have hiq : iq < m.nx := P.q.lt
      by_cases hsd : bnth good x1 = true
      · have lg := P1.g.look (keysW _) (c := nameL x2) trivial (.str []) true (m.nx + 1)
        have hfc : fcS kN (sdG good) G ((x1, x2), w) = if G.1 (nameL x2) = none then (putF G.1 (nameL x2) w, G.2.1, G.2.2 ++ [nameL x2]) else G := by
          unfold fcS; rw [if_pos hsd]
        rw [hfc] at fin
        by_cases hno : G.1 (nameL x2) = none
        · rw [if_pos hno] at fin
          rw [hno] at lg
          simp only [lkZ, cond_true] at lg
          obtain ⟨o, U1, U2⟩ := P1.g.put (keysW _) (c := nameL x2) trivial w
          have n2 : Nl (upd (upd m.h m.nx none) ig o) nmV (G.2.2.map .str) (ib + 1) (m.nx + 1 + 7) := P1.n.fr (fun y h1 h2 _ => updNe (by omega)) (by omega)
          obtain ⟨nm', h', nx', t1, t2, t3, t4, t5, t6, t7⟩ := n2.app (nx := m.nx + 1 + 7) (by' := 16) (Nat.le_refl _) (by omega) (by simp; omega) (.str (nameL x2))
          have hg' : h' ig = o := by
            rw [t6 ig (fun e => by
              rcases t5 ig e with e | e
              · have := n2.oid e; omega
              · omega)]; simp
          have hb' : h' ib = upd m.h m.nx none ib := by
            rw [t6 ib (fun e => by
              rcases t5 ib e with e | e
              · have := n2.oid e; omega
              · omega), updNe (by omega)]
          have PG : Ps h' nx' iw is ig ib nm' q iq i S vs _ := P1.good (by omega) (fun y y1 y2 y3 y4 => by
            rw [t6 y (fun e => by
              rcases t5 y e with e | e
              · exact y4 e
              · omega), updNe y2]) (G' := (putF G.1 (nameL x2) w, G.2.1, G.2.2 ++ [nameL x2])) (U2 h' hg') (P1.b.fr hb') (by simpa using t2) (fun e => by
            rcases t5 iq e with e | e
            · exact P.d e
            · omega)
          have st := fin ⟨h', nx'⟩ nm' PG
          rw [brand_Short.L0_eq]
          simp [ql, q0, hq0, hld, cN, hg.idx (i := x1) (by omega), b1, hsd, lg, lx, U1, P.n.one, t1, t2.one, i0, j0, iw0.len, r0, st]
          done
        · rw [if_neg hno] at fin
          obtain ⟨u, hu⟩ := Option.ne_none_iff_exists'.1 hno
          rw [hu] at lg
          simp only [lkZ, cond_true] at lg
          have st := fin ⟨upd m.h m.nx none, m.nx + 1⟩ nmV P1
          rw [brand_Short.L0_eq]
          simp [ql, q0, hq0, hld, cN, hg.idx (i := x1) (by omega), b1, hsd, lg, i0, j0, iw0.len, r0, st]
          done
      · have lg := P1.b.look (keysW _) (c := nameL x2) trivial (.str []) true (m.nx + 1)
        have hfc : fcS kN (sdG good) G ((x1, x2), w) = if G.2.1 (nameL x2) = none then (G.1, putF G.2.1 (nameL x2) w, G.2.2 ++ [nameL x2]) else G := by
          unfold fcS; rw [if_neg hsd]
        rw [hfc] at fin
        by_cases hno : G.2.1 (nameL x2) = none
        · rw [if_pos hno] at fin
          rw [hno] at lg
          simp only [lkZ, cond_true] at lg
          obtain ⟨o, U1, U2⟩ := P1.b.put (keysW _) (c := nameL x2) trivial w
          have n2 : Nl (upd (upd m.h m.nx none) ib o) nmV (G.2.2.map .str) (ib + 1) (m.nx + 1 + 7) := P1.n.fr (fun y h1 h2 _ => updNe (by omega)) (by omega)
          obtain ⟨nm', h', nx', t1, t2, t3, t4, t5, t6, t7⟩ := n2.app (nx := m.nx + 1 + 7) (by' := 16) (Nat.le_refl _) (by omega) (by simp; omega) (.str (nameL x2))
          have hb' : h' ib = o := by
            rw [t6 ib (fun e => by
              rcases t5 ib e with e | e
              · have := n2.oid e; omega
              · omega)]; simp
          have hg' : h' ig = upd m.h m.nx none ig := by
            rw [t6 ig (fun e => by
              rcases t5 ig e with e | e
              · have := n2.oid e; omega
              · omega), updNe (by omega)]
          have PG : Ps h' nx' iw is ig ib nm' q iq i S vs _ := P1.good (by omega) (fun y y1 y2 y3 y4 => by
            rw [t6 y (fun e => by
              rcases t5 y e with e | e
              · exact y4 e
              · omega), updNe y3]) (G' := (G.1, putF G.2.1 (nameL x2) w, G.2.2 ++ [nameL x2])) (P1.g.fr hg') (U2 h' hb') (by simpa using t2) (fun e => by
            rcases t5 iq e with e | e
            · exact P.d e
            · omega)
          have st := fin ⟨h', nx'⟩ nm' PG
          rw [brand_Short.L0_eq]
          simp [ql, q0, hq0, hld, cN, hg.idx (i := x1) (by omega), b1, hsd, lg, lx, U1, P.n.one, t1, t2.one, i0, j0, iw0.len, r0, st]
          done
        · rw [if_neg hno] at fin
          obtain ⟨u, hu⟩ := Option.ne_none_iff_exists'.1 hno
          rw [hu] at lg
          simp only [lkZ, cond_true] at lg
          have st := fin ⟨upd m.h m.nx none, m.nx + 1⟩ nmV P1
          rw [brand_Short.L0_eq]
          simp [ql, q0, hq0, hld, cN, hg.idx (i := x1) (by omega), b1, hsd, lg, i0, j0, iw0.len, r0, st]
          done
    · have e : i = S.1.length := by omega
      subst e
      have hx : S.1[S.1.length]? = none := List.getElem?_eq_none (by omega)
      rw [bfsF, hx] at hk
      have hz : (S.1.zip S.2).drop S.1.length = [] := List.drop_eq_nil_of_le (by simp [List.length_zip]; omega)
      have hk := hk S rfl m q iq vs nmV (by rw [hz]; exact P)
      rw [hz] at hk
      have nl := P.n.len
      simp only [List.length_map] at nl
      simp only [List.foldl_nil, KS4] at hk
      have ql := P.q.len
      rw [Nat.sub_self] at ql
      rw [brand_Short.L0_eq]
      simp [ql, KSo, nl, hk]
      done
end Go.Proofs.Ythnpflkpjimkfaa

/-
  THE PROGRAM'S CHOICE AMONG PAIRS OF WORDS; WHAT SHORT RETURNS. Conditions: none.
-/
namespace Go.Proofs.Ythnpflkpjimkfaa
open Go.AM
open Go.Proofs.Try (prog)
set_option linter.all false
set_option maxRecDepth 100000
set_option maxHeartbeats 8000000
def selV : Option WW → AV
  | none => .tup [.str [], .str [], .int .i64 5]
  | some p => .tup [.str p.1, .str p.2, .int .i64 0]
def BV (h : Nat → Option AObj) (nx : Nat) (bv : AV) : Option WW → Prop
  | none => bv = .nils
  | some p => ∃ B, bv = .sl B 1 0 2 2 ∧ h B = some (.cells [.str p.1, .str p.2]) ∧ B < nx
theorem BV.fr {h h' : Nat → Option AObj} {nx nx' : Nat} {bv : AV} {o : Option WW} (b : BV h nx bv o) (e : ∀ y, y < nx → h' y = h y) (l : nx ≤ nx') : BV h' nx' bv o := by
  match o, b with
  | none, b => exact b
  | some p, ⟨B, h1, h2, h3⟩ => exact ⟨B, h1, by rw [e B h3, h2], by omega⟩
def okWW (o : Option WW) : Prop := ∀ p, o = some p → p.1.length ≤ 1000000 ∧ p.2.length ≤ 1000000
theorem sel_loop {ig ib : Nat} {Fg Fb : WFn} {names : WL} {nmV : AV} (hN : names.length ≤ 100000) (hg : ∀ p w, Fg p = some w → w.length ≤ 1000000) (hb : ∀ p w, Fb p = some w → w.length ≤ 1000000) : ∀ (c j : Nat) (m : Mem) (bv : AV) (o : Option WW), j + c = names.length →
    Mf AV.str (fun _ => True) AV.str m.h ig Fg → Mf AV.str (fun _ => True) AV.str m.h ib Fb → Nl m.h nmV (names.map .str) 0 m.nx → ig < m.nx → ib < m.nx → BV m.h m.nx bv o → okWW o →
    brand_Short.L4 (.map ig) (.map ib) bv nmV (.int .i64 names.length) (.int .i64 j) m KS4 = some (selV ((cand Fg Fb (names.drop j)).foldl selS o), Mem.empty) := by
  intro c
  induction c with
  | zero =>
    intro j m bv o h1 Mg Mb N l1 l2 B ho
    have e : j = names.length := by omega
    subst e
    rw [List.drop_length, brand_Short.L4_eq]
    match o, B with
    | none, B =>
      subst B
      simp [KS4, cand, selV]
      done
    | some p, ⟨b, b1, b2, b3⟩ =>
      subst b1
      simp [KS4, cand, selV, b2]
      done
  | succ c ih =>
    intro j m bv o h1 Mg Mb N l1 l2 B ho
    have hj : j < names.length := by omega
    have hwj : IntKind.wrap .i64 ((j : Int) + 1) = (j : Int) + 1 := wrap_id (by omega) (by omega)
    obtain ⟨R, n1, n2, n3, n4⟩ := N.sl (N.nn (by
      intro e
      have : names = [] := by simpa using e
      subst this; simp at hj))
    simp only [List.length_map] at n1
    have hd : (names.map AV.str)[j]? = some (.str names[j]) := by simp [hj]
    rw [show names.drop j = names[j] :: names.drop (j + 1) from List.drop_eq_getElem_cons hj]
    obtain ⟨p, hp⟩ : ∃ p, names[j] = p := ⟨_, rfl⟩
    rw [hp]
    have lg := Mg.look (keysW _) (c := p) trivial (.str []) true m.nx
    have lb := Mb.look (keysW _) (c := p) trivial (.str []) true m.nx
    subst n1
    have sk : ∀ m', (∀ y, y < m.nx → m'.h y = m.h y) → m.nx ≤ m'.nx → ∀ bv' o', BV m'.h m'.nx bv' o' → okWW o' → brand_Short.L4 (.map ig) (.map ib) bv' (.sl R 1 0 names.length names.length) (.int .i64 names.length) (.int .i64 ((j : Int) + 1)) m' KS4 = some (selV ((cand Fg Fb (names.drop (j + 1))).foldl selS o'), Mem.empty) := by
      intro m' e l bv' o' B' ho'
      have := ih (j + 1) m' bv' o' (by omega) (Mg.fr (e ig l1)) (Mb.fr (e ib l2)) (N.fr (fun y _ h2 _ => e y h2) l) (by omega) (by omega) B' ho'
      simpa using this
    simp only [KS4] at sk
    have skip : cdP Fg Fb p = none → brand_Short.L4 (.map ig) (.map ib) bv (.sl R 1 0 names.length names.length) (.int .i64 names.length) (.int .i64 ((j : Int) + 1)) m [.code brand_Short.r46, .code brand_Short.i11, .code brand_Short.r48, .code .ret] = some (selV ((cand Fg Fb (p :: names.drop (j + 1))).foldl selS o), Mem.empty) := by
      intro hc
      rw [show cand Fg Fb (p :: names.drop (j + 1)) = cand Fg Fb (names.drop (j + 1)) by rw [cand, List.filterMap_cons, hc]; rfl]
      exact sk m (fun _ _ => rfl) (Nat.le_refl _) bv o B ho
    have bvo : bv.one = true := by
      match o, B with
      | none, B => subst B; rfl
      | some p, ⟨b, b1, b2, b3⟩ => subst b1; rfl
    cases eg : Fg p with
    | none =>
      have skip := skip (by unfold cdP; rw [eg])
      rw [eg] at lg
      simp only [lkZ, cond_true] at lg
      cases eb : Fb p with
      | none =>
        rw [eb] at lb
        simp only [lkZ, cond_true] at lb
        rw [brand_Short.L4_eq]
        simp [KS4, hj, n2, hp, lg, lb, hwj, skip]
        done
      | some v =>
        rw [eb] at lb
        simp only [lkZ, cond_true] at lb
        rw [brand_Short.L4_eq]
        simp [KS4, hj, n2, hp, lg, lb, hwj, skip]
        done
    | some u =>
      rw [eg] at lg
      simp only [lkZ, cond_true] at lg
      cases eb : Fb p with
      | none =>
        have skip := skip (by unfold cdP; rw [eg, eb])
        rw [eb] at lb
        simp only [lkZ, cond_true] at lb
        rw [brand_Short.L4_eq]
        simp [KS4, hj, n2, hp, lg, lb, hwj, skip]
        done
      | some v =>
        rw [eb] at lb
        simp only [lkZ, cond_true] at lb
        have hc : cdP Fg Fb p = some (u, v) := by unfold cdP; rw [eg, eb]
        rw [show cand Fg Fb (p :: names.drop (j + 1)) = (u, v) :: cand Fg Fb (names.drop (j + 1)) by rw [cand, List.filterMap_cons, hc]; rfl, List.foldl_cons]
        have hu := hg _ _ eg
        have hv := hb _ _ eb
        match o, B with
        | none, B =>
          subst B
          have st := sk ⟨upd m.h m.nx (some (.cells [.str u, .str v])), m.nx + 1⟩ (fun y hy => updNe (by omega)) (by show m.nx ≤ m.nx + 1; omega) (.sl m.nx 1 0 2 2) (some (u, v)) ⟨m.nx, rfl, by simp, by show m.nx < m.nx + 1; omega⟩ (fun q hq => by cases hq; exact ⟨hu, hv⟩)
          rw [brand_Short.L4_eq]
          simp [KS4, hj, n2, hp, lg, lb, hwj, selS, st]
          done
        | some q, ⟨b, b1, b2, b3⟩ =>
          subst b1
          obtain ⟨q1, q2⟩ := q
          obtain ⟨hq1, hq2⟩ := ho _ rfl
          have lo1 := fun m => long_spec (ex := false) (u := u) (w := v) m
          have lo2 := fun m => long_spec (ex := false) (u := q1) (w := q2) m
          obtain ⟨z1, y1, y2⟩ := compare_spec u q1 hu hq1 Mem.empty
          obtain ⟨z2, y3, y4⟩ := compare_spec v q2 hv hq2 Mem.empty
          have hb2 : upd m.h m.nx (some (.cells [.str u, .str v])) b = some (.cells [.str q1, .str q2]) := by rw [updNe (by omega)]; exact b2
          have hbn : (b == m.nx) = false := beq_eq_false_iff_ne.2 (by omega)
          have new := fun (d : Nat) => sk ⟨upd m.h m.nx (some (.cells [.str u, .str v])), m.nx + 1 + d⟩ (fun y hy => updNe (by omega)) (by show m.nx ≤ m.nx + 1 + d; omega) (.sl m.nx 1 0 2 2) (some (u, v)) ⟨m.nx, rfl, by simp, by show m.nx < m.nx + 1 + d; omega⟩ (fun q hq => by cases hq; exact ⟨hu, hv⟩)
          have old := sk ⟨upd m.h m.nx (some (.cells [.str u, .str v])), m.nx + 1 + 37⟩ (fun y hy => updNe (by omega)) (by show m.nx ≤ m.nx + 1 + 37; omega) (.sl b 1 0 2 2) (some (q1, q2)) ⟨b, rfl, hb2, by show b < m.nx + 1 + 37; omega⟩ ho
          have new0 := new 0
          have new37 := new 37
          have hsel : selS (some (q1, q2)) (u, v) = if btr (u, v) (q1, q2) = true then some (u, v) else some (q1, q2) := rfl
          rw [hsel]
          unfold btr mxl
          simp only []
          by_cases c1 : max u.length v.length < max q1.length q2.length
          · simp only [c1, decide_true, Bool.true_or, if_true]
            rw [brand_Short.L4_eq]
            simp [KS4, hj, n2, hp, lg, lb, hwj, b2, hb2, hbn, lo1, lo2, c1, AV.flat, AV.flat1, new0]
            done
          · have c1' : decide (max u.length v.length < max q1.length q2.length) = false := decide_eq_false c1
            simp only [c1', Bool.false_or]
            by_cases c2 : max u.length v.length = max q1.length q2.length
            · simp only [c2, decide_true, Bool.true_and]
              have c1 : ¬ max q1.length q2.length < max q1.length q2.length := by omega
              by_cases c3 : lessW u q1 = true
              · rw [c3] at y2
                have y2 : z1 < 0 := by simpa using y2
                simp only [c3, Bool.true_or, if_true]
                rw [brand_Short.L4_eq]
                simp [KS4, hj, n2, hp, lg, lb, hwj, b2, hb2, hbn, lo1, lo2, c2, y1, y2, AV.flat, AV.flat1, new37]
                done
              · have c3 : lessW u q1 = false := by simpa using c3
                rw [c3] at y2
                have y2 : ¬ z1 < 0 := by simpa using y2
                by_cases c4 : u = q1
                · subst c4
                  by_cases c5 : lessW v q2 = true
                  · rw [c5] at y4
                    have y4 : z2 < 0 := by simpa using y4
                    simp only [c3, c5, decide_true, Bool.and_self, Bool.or_true, if_true]
                    rw [brand_Short.L4_eq]
                    simp [KS4, hj, n2, hp, lg, lb, hwj, b2, hb2, hbn, lo1, lo2, c2, y1, y2, y3, y4, AV.flat, AV.flat1, new37]
                    done
                  · have c5 : lessW v q2 = false := by simpa using c5
                    rw [c5] at y4
                    have y4 : ¬ z2 < 0 := by simpa using y4
                    simp only [c3, c5, Bool.and_false, Bool.or_false, Bool.false_eq_true, if_false]
                    rw [brand_Short.L4_eq]
                    simp [KS4, hj, n2, hp, lg, lb, hwj, b2, hb2, hbn, lo1, lo2, c2, y1, y2, y3, y4, AV.flat, AV.flat1, old]
                    done
                · simp only [c3, c4, decide_false, Bool.false_and, Bool.or_false, Bool.false_eq_true, if_false]
                  rw [brand_Short.L4_eq]
                  simp [KS4, hj, n2, hp, lg, lb, hwj, b2, hb2, hbn, lo1, lo2, c2, c4, y1, y2, AV.flat, AV.flat1, old]
                  done
            · simp only [c2, decide_false, Bool.false_and, Bool.false_eq_true, if_false]
              have c2' : ¬ ((max u.length v.length : Nat) : Int) = (max q1.length q2.length : Nat) := by omega
              rw [brand_Short.L4_eq]
              simp [KS4, hj, n2, hp, lg, lb, hwj, b2, hb2, hbn, lo1, lo2, c1, c2', AV.flat, AV.flat1, old]
              done
end Go.Proofs.Ythnpflkpjimkfaa

/-
  WHAT SHORT RETURNS. Conditions: none.
-/
namespace Go.Proofs.Ythnpflkpjimkfaa
open Go.AM
open Go.Proofs.Try (prog)
set_option linter.all false
set_option maxRecDepth 100000
set_option maxHeartbeats 8000000
def sho0 : ST := ([(0, [[]])], [[]])
def shoB (rows : List (List Int)) (k K : Nat) : Option ST := bfsF (nxN rows K) extL k 5002 0 sho0
def shoG (good : List Bool) (S : ST) : GT := fcA kN (sdG good) (S.1.zip S.2)
def shoV (good : List Bool) : Option ST → AV
  | none => fulV
  | some S => selV (sel (cand (shoG good S).1 (shoG good S).2.1 (shoG good S).2.2))
theorem fcS_len {α : Type} {κ : α → List UInt8} {sd : α → Bool} : ∀ (L : List (α × List UInt8)) (G : GT), (L.foldl (fcS κ sd) G).2.2.length ≤ G.2.2.length + L.length
  | [], G => by simp
  | q :: L, G => by
    rw [List.foldl_cons]
    have := fcS_len (κ := κ) (sd := sd) L (fcS κ sd G q)
    have h : (fcS κ sd G q).2.2.length ≤ G.2.2.length + 1 := by
      unfold fcS
      split <;> split <;> first | omega | (simp; done)
    simp; omega
theorem fnd_mem {α : Type} {κ : α → List UInt8} {sd : α → Bool} {b : Bool} {L : List (α × List UInt8)} {p w : List UInt8} (h : fnd κ sd b L p = some w) : ∃ x, (x, w) ∈ L ∧ sd x = b ∧ κ x = p := by
  unfold fnd at h
  rw [Option.map_eq_some_iff] at h
  obtain ⟨q, h1, rfl⟩ := h
  have h2 := List.find?_some h1
  simp only [Bool.and_eq_true, decide_eq_true_eq] at h2
  exact ⟨q.1, List.mem_of_find?_eq_some h1, h2.1, h2.2⟩
theorem shoG_good {good : List Bool} {S : ST} (p : List UInt8) : (shoG good S).1 p = fnd kN (sdG good) true (S.1.zip S.2) p := by
  rw [shoG, fcA, fc_good]; rfl
theorem shoG_bad {good : List Bool} {S : ST} (p : List UInt8) : (shoG good S).2.1 p = fnd kN (sdG good) false (S.1.zip S.2) p := by
  rw [shoG, fcA, fc_bad]; rfl
theorem bfsF_le {α β : Type} [DecidableEq α] {nxt : α → Nat → α} {ext : β → Nat → β} {k : Nat} : ∀ {f i : Nat} {s S : List α × List β}, bfsF nxt ext k f i s = some S → s.1.length ≤ 5000 → S.1.length ≤ 5000
  | 0, _, _, _, h, _ => by cases h
  | f + 1, i, s, S, h, g => by
    rw [bfsF] at h
    split at h
    · rw [Option.bind_eq_some_iff] at h
      obtain ⟨s', h3, h4⟩ := h
      exact bfsF_le h4 (bInF_le h3 g)
    · cases h; exact g
theorem bfsF_bok {α β : Type} [DecidableEq α] {nxt : α → Nat → α} {ext : β → Nat → β} {ok : α → Prop} {ln : β → Nat} {k : Nat} (hnx : ∀ x a, ok x → a < k → ok (nxt x a)) (hex : ∀ w a, ln (ext w a) ≤ ln w + 1) : ∀ {f i : Nat} {s S : List α × List β}, bfsF nxt ext k f i s = some S → BOk ok ln s → BOk ok ln S
  | 0, _, _, _, h, _ => by cases h
  | f + 1, i, s, S, h, g => by
    rw [bfsF] at h
    split at h
    · rename_i x w h1 h2
      rw [Option.bind_eq_some_iff] at h
      obtain ⟨s', h3, h4⟩ := h
      rw [bInF_bIn h3] at h4
      exact bfsF_bok hnx hex h4 (bIn_ok nxt ext hnx hex x w (g.all x (List.mem_of_getElem? h1)) k 0 s (by omega) g (g.wl w (List.mem_of_getElem? h2)))
    · cases h; exact g
theorem pset0 (k K : Nat) : PSet k K [[]] := ⟨by simp, fun w hw => by simp at hw; subst hw; exact ⟨okW_nil k, by simp⟩, by simp⟩
theorem okP0 {n k K : Nat} (h : 0 < n) : OkP n k K (0, [[]]) := ⟨h, pset0 k K, by simp⟩
theorem bok0 {ok : PT → Prop} (h : ok (0, [[]])) : BOk ok List.length sho0 := ⟨by simp [sho0], fun x hx => by simp [sho0] at hx; subst hx; exact h, rfl, fun w hw => by simp [sho0] at hw; subst hw; simp⟩
theorem nxN_ok {rows : List (List Int)} {good : List Bool} {k : Nat} (v : VB rows good k) (K : Nat) (x : PT) (a : Nat) (h : OkP rows.length k K x) (ha : a < k) : OkP rows.length k K (nxN rows K x a) := ⟨(nx_lt v h.lt ha).1, addP_pset h.p ha v.k3, addP_srt K x.2 (ltr a)⟩
theorem shoB_ok {rows : List (List Int)} {good : List Bool} {k K : Nat} (v : VB rows good k) {S : ST} (h : shoB rows k K = some S) : BOk (OkP rows.length k K) List.length S ∧ S.1.length ≤ 5000 :=
  ⟨bfsF_bok (fun x a hx ha => nxN_ok v K x a hx ha) (fun w a => by simp [extL, ltr]) h (bok0 (okP0 v.n1)), bfsF_le h (by simp [sho0])⟩
theorem upd93 {h : Nat → Option AObj} {nx id : Nat} {v : AV} (e : h id = some (.map 0 [] [])) : updM prog ⟨h, nx⟩ 93 (.map id) (.agg [.int .i64 0, .str (nameL [[]])]) v = some (.tup [], ⟨upd h id (some (.map 1 [.agg [.int .i64 0, .str (nameL [[]])]] [v])), nx⟩) := by
  have k := (keysN 1 0 0).key (0, [[]]) (okP0 (by omega))
  simp only [encN, cN, Int.ofNat_zero, Int.cast_ofNat_Int] at k
  simp only [updM, updP, k, cond_true, e, setK, Option.bind_some, Option.map_some]
  rfl
theorem frz_51_54 (s : St) : frz1 s 3051054 = bif apart2 s 51 54 then some s else none := rfl
theorem short_ok {nv gv : AV} {ps : List AV} {rows : List (List Int)} {good : List Bool} (hn : IsRows nv ps rows) (hg : IsB gv good) (hl : rows.length ≤ 1000) (hgl : good.length ≤ 1000) (hr : ∀ i, i < rows.length → (cth rows i).length ≤ 1000) (c0 : validB rows good = true) {K : Nat} (K3 : K ≤ 3) (m : Mem) :
    denC prog ann 18 [.agg [nv, gv], .int .i64 K] m = some (shoV (goodM rows good (cth rows 0).length) (shoB (rowsM rows good (cth rows 0).length) (cth rows 0).length K), m) := by
  have h1 := fun m => valid_spec hn hg hl hgl hr m
  rw [c0] at h1
  have v := VB.of c0
  have h2 := fun m => smallest_spec hn hg v m
  rw [repL_eq v, resV_eq] at h2
  have vm := VB_M v
  have hm := isRows_M rows good (cth rows 0).length
  have hb := isB_M rows good (cth rows 0).length
  have nm0 := fun m => name_spec (ex := false) (l := [[]]) (by simp) (by simp) m
  simp only [sF, List.length_singleton, List.map_cons, List.map_nil] at nm0
  generalize hR : rowsM rows good (cth rows 0).length = R at *
  generalize hG : goodM rows good (cth rows 0).length = gd at *
  generalize nvM rows good (cth rows 0).length = nvm at *
  generalize gvM rows good (cth rows 0).length = gvm at *
  generalize psM rows good (cth rows 0).length = psm at *
  generalize (cth rows 0).length = k at *
  have ok0 := okP0 (n := R.length) (k := k) (K := K) vm.n1
  have P0 : ∀ h : Nat → Option AObj, h 3 = some (.map 1 [.agg [.int .i64 0, .str (nameL [[]])]] [.str []]) → h 7 = some (.map 1 [.agg [.int .i64 0, .str (nameL [[]])]] [.fsl true 1 [.str []]]) → h 14 = some (.map 0 [] []) → h 15 = some (.map 0 [] []) → h 16 = some (.cells [.int .i64 0, .str (nameL [[]])]) →
      Ps h 17 3 7 14 15 .nils (.sl 16 2 0 1 2) 16 0 sho0 [.fsl true 1 [.str []]] G0 := by
    intro h e1 e2 e3 e4 e5
    refine ⟨⟨⟨1, e1⟩, by show 3 < 17; omega⟩, ⟨⟨1, e2⟩, by show 7 < 17; omega⟩, ⟨rfl, fun j x hj => ?_⟩, Mf.new e3, Mf.new e4, .nil, ⟨⟨[], rfl, e5⟩, rfl, by show 16 < 17; omega⟩, by omega, by omega, by omega, by omega, by simp [objId]⟩
    have : j = 0 := by have := (List.getElem?_eq_some_iff.1 hj).1; simp [sho0] at this; omega
    subst this
    simp [sho0] at hj
    subst hj
    exact ⟨true, rfl⟩
  have run : ∀ h : Nat → Option AObj, h 3 = some (.map 1 [.agg [.int .i64 0, .str (nameL [[]])]] [.str []]) → h 7 = some (.map 1 [.agg [.int .i64 0, .str (nameL [[]])]] [.fsl true 1 [.str []]]) → h 14 = some (.map 0 [] []) → h 15 = some (.map 0 [] []) → h 16 = some (.cells [.int .i64 0, .str (nameL [[]])]) →
      brand_Short.L0 (.int .i64 K) (.fptr [nvm, gvm]) (.fn 57 [] []) (.map 3) (.map 7) (.map 14) (.map 15) .nils (.sl 16 2 0 1 2) ⟨h, 17⟩ KSo = some (shoV gd (shoB R k K), Mem.empty) := by
    intro h e1 e2 e3 e4 e5
    have := sho_out (r := (shoV gd (shoB R k K), Mem.empty)) hm hb vm K3 5002 0 16 ⟨h, 17⟩ (.sl 16 2 0 1 2) .nils sho0 _ G0 (P0 h e1 e2 e3 e4 e5) (bok0 ok0) (by simp [sho0]) (by simp) (by omega) (by simp [G0]) (fun S hS m' q' iq' vs' nmV' P => by
      have hS : shoB R k K = some S := hS
      obtain ⟨B1, B2⟩ := shoB_ok vm hS
      rw [hS]
      have e : ((S.1.zip S.2).drop 0).foldl (fcS kN (sdG gd)) G0 = shoG gd S := rfl
      rw [e] at P ⊢
      have hN := fcS_len (κ := kN) (sd := sdG gd) (S.1.zip S.2) G0
      have hN : (shoG gd S).2.2.length ≤ 5000 := by
        have e2 : ((S.1.zip S.2).foldl (fcS kN (sdG gd)) G0) = shoG gd S := rfl
        rw [e2] at hN
        simp [G0, List.length_zip] at hN
        omega
      have wl : ∀ w ∈ S.2, w.length ≤ 1000000 := fun w hw => by have := B1.wl w hw; have := B1.len; omega
      have o1 := P.o1
      have o2 := P.o2
      have o3 := P.o3
      have o4 := P.o4
      have hq : iq' < m'.nx := P.q.lt
      have st := sel_loop (names := (shoG gd S).2.2) (nmV := nmV') (Fg := (shoG gd S).1) (Fb := (shoG gd S).2.1) (by omega) (fun p w hw => by
        rw [shoG_good] at hw
        obtain ⟨x, h1, _⟩ := fnd_mem hw
        exact wl w (List.of_mem_zip h1).2) (fun p w hw => by
        rw [shoG_bad] at hw
        obtain ⟨x, h1, _⟩ := fnd_mem hw
        exact wl w (List.of_mem_zip h1).2) (shoG gd S).2.2.length 0 m' .nils none (by omega) P.g P.b (by
          rcases P.n with ⟨n1, n2⟩ | ⟨R', n1, n2, n3, n4⟩
          · exact .inl ⟨n1, n2⟩
          · exact .inr ⟨R', n1, n2, by omega, n4⟩) (by omega) (by omega) rfl (fun p hp => by cases hp)
      exact st) (fun hnone => by
      have hnone : shoB R k K = none := hnone
      rw [hnone]; rfl)
    exact this
  simp only [KSo] at run
  rw [brand_Short.call_eq _ _ _ (by simp [hn.closed, hg.closed])]
  simp [hn.one, hg.one, hn.closed, hg.closed, hm.one, hb.one, hm.closed, hb.closed, h1, h2, nm0, AV.flat, AV.flat1, upd93, frz_51_54, apart2, objId, frzL, show ¬ (3 : Int) < K by omega]
  rw [run _ (by simp) (by simp) (by simp) (by simp) (by simp)]
  rfl
end Go.Proofs.Ythnpflkpjimkfaa

/-
  THE SPECIFICATION'S SEARCH FOR TWO WORDS WITH THE SAME PARTS. Conditions: none.
-/
namespace Go.Proofs.Ythnpflkpjimkfaa
open Go.AM
open Go.Proofs.Try (prog)
set_option linter.all false
set_option maxRecDepth 100000
set_option maxHeartbeats 8000000
def nxJ (rows : List (List Int)) (K : Nat) (x : PT) (a : Nat) : PT := (nx rows x.1 a, addR K x.2 (ltr a))
def flJ : List PT → List AV
  | [] => []
  | x :: l => cJ x ++ flJ l
@[simp] theorem cJ_len (x : PT) : (cJ x).length = 2 := rfl
@[simp] theorem flJ_len : ∀ l : List PT, (flJ l).length = l.length * 2
  | [] => rfl
  | x :: l => by rw [flJ, List.length_append, flJ_len l, cJ_len, List.length_cons]; omega
structure Pr (h : Nat → Option AObj) (nx : Nat) (x9 x10 x11 : AV) (i9 i10 i11 i12 : Nat) (S : ST) (vs : List AV) : Prop where
  p : Gl ⟨h, nx⟩ x9 i9 2 S.1.length (flJ S.1)
  w : Gl ⟨h, nx⟩ x10 i10 1 S.2.length (S.2.map .str)
  s : Gl ⟨h, nx⟩ x11 i11 1 S.1.length vs
  v : ∀ (j : Nat) x, S.1[j]? = some x → ∃ ex, vs[j]? = some (sF ex x.2)
  k : Mp ⟨h, nx⟩ i12 (S.1.map encJ) ((S.1.map fun _ => true).map .bool)
  d1 : i9 ≠ i10
  d2 : i9 ≠ i11
  d3 : i9 ≠ i12
  d4 : i10 ≠ i11
  d5 : i10 ≠ i12
  d6 : i11 ≠ i12
theorem Pr.fr {h h' : Nat → Option AObj} {nx nx' i9 i10 i11 i12 : Nat} {x9 x10 x11 : AV} {S : ST} {vs : List AV} (P : Pr h nx x9 x10 x11 i9 i10 i11 i12 S vs) (e : ∀ y, y < nx → h' y = h y) (l : nx ≤ nx') : Pr h' nx' x9 x10 x11 i9 i10 i11 i12 S vs :=
  ⟨P.p.frame (e _ P.p.lt) l, P.w.frame (e _ P.w.lt) l, P.s.frame (e _ P.s.lt) l, P.v, P.k.frame (e _ P.k.2) l, P.d1, P.d2, P.d3, P.d4, P.d5, P.d6⟩
theorem nxJ_ok {rows : List (List Int)} {good : List Bool} {k : Nat} (v : VB rows good k) (K : Nat) (x : PT) (a : Nat) (h : OkR rows.length k K x) (ha : a < k) : OkR rows.length k K (nxJ rows K x a) := ⟨(nx_lt v h.lt ha).1, addR_pset h.p h.s ha v.k3, addR_srt x.2 h.s⟩
end Go.Proofs.Ythnpflkpjimkfaa

/-
  THE SPECIFICATION'S SHORT: its search, its least words, its choice. Conditions: none.
-/
namespace Go.Proofs.Ythnpflkpjimkfaa
open Go.AM
open Go.Proofs.Try (prog)
set_option linter.all false
set_option maxRecDepth 100000
set_option maxHeartbeats 8000000
structure P4 (h : Nat → Option AObj) (nx : Nat) (x9 x10 : AV) (i9 i10 ig ib : Nat) (S : ST) (G : WFn × WFn) : Prop where
  p : Gl ⟨h, nx⟩ x9 i9 2 S.1.length (flJ S.1)
  w : Gl ⟨h, nx⟩ x10 i10 1 S.2.length (S.2.map .str)
  g : Mf AV.str (fun _ => True) AV.str h ig G.1
  b : Mf AV.str (fun _ => True) AV.str h ib G.2
  d1 : i9 ≠ ig
  d2 : i9 ≠ ib
  d3 : i10 ≠ ig
  d4 : i10 ≠ ib
  d5 : ig ≠ ib
  l1 : ig < nx
  l2 : ib < nx
theorem P4.nx {h : Nat → Option AObj} {nx nx' : Nat} {x9 x10 : AV} {i9 i10 ig ib : Nat} {S : ST} {G : WFn × WFn} (P : P4 h nx x9 x10 i9 i10 ig ib S G) (l : nx ≤ nx') : P4 h nx' x9 x10 i9 i10 ig ib S G :=
  ⟨P.p.frame rfl l, P.w.frame rfl l, P.g, P.b, P.d1, P.d2, P.d3, P.d4, P.d5, Nat.lt_of_lt_of_le P.l1 l, Nat.lt_of_lt_of_le P.l2 l⟩
end Go.Proofs.Ythnpflkpjimkfaa

/-
  THE SPECIFICATION'S SHORT: its choice, and what it returns. Conditions: none.
-/
namespace Go.Proofs.Ythnpflkpjimkfaa
open Go.AM
open Go.Proofs.Try (prog)
set_option linter.all false
set_option maxRecDepth 100000
set_option maxHeartbeats 8000000
end Go.Proofs.Ythnpflkpjimkfaa

/-
  PROGRAM AND SPECIFICATION SEARCH SIDE BY SIDE: plain law of Short. Conditions: none.
-/
namespace Go.Proofs.Ythnpflkpjimkfaa
open Go.AM
open Go.Proofs.Try (prog)
set_option linter.all false
set_option maxRecDepth 100000
set_option maxHeartbeats 8000000
def RelN (x y : PT) : Prop := x.1 = y.1 ∧ ∀ w, w ∈ x.2 ↔ w ∈ y.2
theorem RelN.eq {n k K : Nat} (x y u v : PT) (hx : OkP n k K x) (hu : OkP n k K u) (hy : OkR n k K y) (hv : OkR n k K v) (h : RelN x y) (g : RelN u v) : x = u ↔ y = v := by
  constructor
  · intro e
    subst e
    have : y.2 = v.2 := sortR_uniq hy.s hv.s fun w => by rw [← h.2, ← g.2]
    exact Prod.ext (by rw [← h.1, ← g.1]) this
  · intro e
    subst e
    have : x.2 = u.2 := sortP_uniq hx.s hu.s hx.p.nd hu.p.nd fun w => by rw [h.2, g.2]
    exact Prod.ext (by rw [h.1, g.1]) this
theorem RelN.step {rows : List (List Int)} {good : List Bool} {k K : Nat} (v : VB rows good k) (x y : PT) (a : Nat) (hx : OkP rows.length k K x) (hy : OkR rows.length k K y) (h : RelN x y) (ha : a < k) :
    RelN (nxN rows K x a) (nxJ rows K y a) ∧ OkP rows.length k K (nxN rows K x a) ∧ OkR rows.length k K (nxJ rows K y a) := by
  refine ⟨⟨by simp [nxN, nxJ, h.1], fun w => ?_⟩, nxN_ok v K x a hx ha, nxJ_ok v K y a hy ha⟩
  have h1 := addP_adds K x.2 (ltr a) w
  have h2 := addR_adds hy.p (ltr a) w
  show w ∈ addP K x.2 (ltr a) ↔ w ∈ addR K y.2 (ltr a)
  rw [h1, h2, h.2]
  constructor
  · rintro (g | ⟨p, g1, g2⟩)
    · exact .inl g
    · exact .inr ⟨p, (h.2 p).1 g1, g2⟩
  · rintro (g | ⟨p, g1, g2⟩)
    · exact .inl g
    · exact .inr ⟨p, (h.2 p).2 g1, g2⟩
section
variable {rows : List (List Int)} {good : List Bool} {k K : Nat} {S S' : ST}
theorem zip_at {α β : Type} {l : List α} {r : List β} {i : Nat} {q : α × β} (h : (l.zip r)[i]? = some q) : l[i]? = some q.1 ∧ r[i]? = some q.2 := by
  rw [List.getElem?_zip_eq_some] at h; exact h
end
def pV : Option (Option WW) → AV
  | none => fulV
  | some o => selV o
def shoR (good : List Bool) : Option ST → Option (Option WW)
  | none => none
  | some S => some (sel (cand (shoG good S).1 (shoG good S).2.1 (shoG good S).2.2))
theorem shoV_R (good : List Bool) (o : Option ST) : shoV good o = pV (shoR good o) := by cases o <;> rfl
end Go.Proofs.Ythnpflkpjimkfaa

/-
  BRANDS THAT ACCEPT THE SAME WORDS have the same smallest form: plain law. Conditions: none.
-/
namespace Go.Proofs.Ythnpflkpjimkfaa
open Go.AM
open Go.Proofs.Try (prog)
set_option linter.all false
set_option maxRecDepth 100000
set_option maxHeartbeats 8000000
def Xl (rows rows' : List (List Int)) (good good' : List Bool) (k s s' : Nat) : Prop := ∀ w : List Nat, (∀ a ∈ w, a < k) → bnth good (gow rows s w) = bnth good' (gow rows' s' w)
section
variable {rows rows' : List (List Int)} {good good' : List Bool} {k : Nat}
theorem Xl.step {s s' a : Nat} (h : Xl rows rows' good good' k s s') (ha : a < k) : Xl rows rows' good good' k (nx rows s a) (nx rows' s' a) := fun w hw => h (a :: w) (by
  intro b hb
  rcases List.mem_cons.1 hb with rfl | hb
  · exact ha
  · exact hw b hb)
theorem Xl.al {s s' t t' : Nat} (h : Xl rows rows' good good' k s s') (g : Xl rows rows' good good' k t t') : alB rows good k s t = alB rows' good' k s' t' := by
  rw [Bool.eq_iff_iff, alB_iff, alB_iff]
  constructor
  · intro q w hw; rw [← h w hw, ← g w hw]; exact q w hw
  · intro q w hw; rw [h w hw, g w hw]; exact q w hw
structure Al2 (X : Nat → Nat → Prop) (P P' : List Nat) : Prop where
  l : P.length = P'.length
  e : ∀ i (h : i < P.length) (h' : i < P'.length), X P[i] P'[i]
theorem Al2.app {X : Nat → Nat → Prop} {P P' : List Nat} (h : Al2 X P P') {s s' : Nat} (hs : X s s') : Al2 X (P ++ [s]) (P' ++ [s']) := by
  refine ⟨by simp [h.l], fun i h1 h2 => ?_⟩
  by_cases q : i < P.length
  · rw [List.getElem_append_left q, List.getElem_append_left (by rw [← h.l]; exact q)]
    exact h.e i q _
  · have e1 : i = P.length := by simp at h1; omega
    subst e1
    rw [List.getElem_append_right (by omega), List.getElem_append_right (by rw [← h.l]; omega)]
    simp [hs]
abbrev XX (rows rows' : List (List Int)) (good good' : List Bool) (k : Nat) := Al2 (Xl rows rows' good good' k)
theorem XX.any {P P' : List Nat} (h : XX rows rows' good good' k P P') {s s' : Nat} (hs : Xl rows rows' good good' k s s') : P.any (alB rows good k s) = P'.any (alB rows' good' k s') := by
  rw [Bool.eq_iff_iff, List.any_eq_true, List.any_eq_true]
  constructor
  · rintro ⟨x, hx, e⟩
    obtain ⟨i, hi, rfl⟩ := List.getElem_of_mem hx
    have hi' : i < P'.length := by rw [← h.l]; exact hi
    exact ⟨P'[i], List.getElem_mem hi', by rw [← hs.al (h.e i hi hi')]; exact e⟩
  · rintro ⟨x, hx, e⟩
    obtain ⟨i, hi, rfl⟩ := List.getElem_of_mem hx
    have hi' : i < P.length := by rw [h.l]; exact hi
    exact ⟨P[i], List.getElem_mem hi', by rw [hs.al (h.e i hi' hi)]; exact e⟩
theorem idx2 : ∀ (P P' : List Nat) (p p' : Nat → Bool), P.length = P'.length → (∀ i (h : i < P.length) (h' : i < P'.length), p P[i] = p' P'[i]) → P.findIdx p = P'.findIdx p'
  | [], [], _, _, _, _ => rfl
  | [], _ :: _, _, _, h, _ => by simp at h
  | _ :: _, [], _, _, h, _ => by simp at h
  | a :: P, b :: P', p, p', h, e => by
    have h0 := e 0 (by simp) (by simp)
    simp only [List.getElem_cons_zero] at h0
    rw [List.findIdx_cons, List.findIdx_cons, h0, idx2 P P' p p' (by simpa using h) (fun i h1 h2 => by
      have := e (i + 1) (by simpa using h1) (by simpa using h2)
      simpa using this)]
theorem XX.idx {P P' : List Nat} (h : XX rows rows' good good' k P P') {s s' : Nat} (hs : Xl rows rows' good good' k s s') : idxA (alB rows good k) P s = idxA (alB rows' good' k) P' s' :=
  idx2 P P' _ _ h.l fun i h1 h2 => hs.al (h.e i h1 h2)
theorem repL_fuel (v : VB rows good k) (f : Nat) (hf : rows.length < f) : bldN (alB rows good k) (nx rows) k f 0 [0] = repL rows good k := by
  have n1 := v.n1
  have := bfs_ded (ext := extL) (ln := List.length) (lik_alB v) (fun w a => by simp [extL, ltr]) (rows.length + 1) 0 ([0], [([] : List UInt8)]) ⟨by simp, by intro x hx; simp at hx; omega, rfl, by simp⟩ (by simp) (by omega) (by simp) f (by omega)
  exact this
theorem nx_M {i a : Nat} (hi : i < (repL rows good k).length) (ha : a < k) : nx (rowsM rows good k) i a = idxA (alB rows good k) (repL rows good k) (nx rows (repL rows good k)[i] a) := by
  have row : cth (rowsM rows good k) i = (List.range k).map fun a => ((idxA (alB rows good k) (repL rows good k) (nx rows (repL rows good k)[i] a) : Nat) : Int) := by simp [cth, rowsM, hi, List.getD_eq_getElem?_getD]
  rw [nx, row]
  simp [nth, ha, List.getD_eq_getElem?_getD]
theorem small_X (v : VB rows good k) {i : Nat} (hi : i < (repL rows good k).length) : Xl rows (rowsM rows good k) good (goodM rows good k) k (repL rows good k)[i] i := by
  intro w
  induction w generalizing i with
  | nil => intro _; simp [gow, bnth, goodM, hi, List.getD_eq_getElem?_getD]
  | cons a w ih =>
    intro hw
    have ha : a < k := hw a (by simp)
    obtain ⟨R1, R2⟩ := rch_ok v
    have hm : (repL rows good k)[i] ∈ (rchS rows k).1 := ded_mem (List.getElem_mem hi)
    have hany : (repL rows good k).any (alB rows good k (nx rows (repL rows good k)[i] a)) = true := ded_any (lik_alB v) (rchS rows k).1 R1.all _ (R2 _ hm a ha)
    have hj : idxA (alB rows good k) (repL rows good k) (nx rows (repL rows good k)[i] a) < (repL rows good k).length := idxA_lt hany
    have hal : alB rows good k (nx rows (repL rows good k)[i] a) ((repL rows good k)[idxA (alB rows good k) (repL rows good k) (nx rows (repL rows good k)[i] a)]'hj) = true := List.findIdx_getElem (w := hj)
    have hw' : ∀ b ∈ w, b < k := fun b hb => hw b (by simp [hb])
    have h1 := alB_iff.1 hal w hw'
    have h2 := ih hj hw'
    show bnth good (gow rows (nx rows (repL rows good k)[i] a) w) = bnth (goodM rows good k) (gow (rowsM rows good k) (nx (rowsM rows good k) i a) w)
    rw [nx_M hi ha, h1, h2]
theorem repL_0 (v : VB rows good k) : ∃ h : 0 < (repL rows good k).length, (repL rows good k)[0] = 0 := by
  have h := (repL_few v).2.1
  refine ⟨h, ?_⟩
  have n1 := v.n1
  have e := repL_fuel v (rows.length + 1) (by omega)
  have key : ∀ (f i : Nat) (P : List Nat), ∃ l, bldN (alB rows good k) (nx rows) k f i P = P ++ l := by
    intro f
    induction f with
    | zero => intro i P; exact ⟨[], by simp [bldN]⟩
    | succ f ih =>
      intro i P
      rw [bldN]
      split
      · rename_i q _
        obtain ⟨l, e1⟩ := addsN_pre (al := alB rows good k) (nxt := nx rows) q k 0 P
        obtain ⟨l2, e2⟩ := ih (i + 1) (addsN (alB rows good k) (nx rows) q k 0 P)
        exact ⟨l ++ l2, by rw [e2, e1, List.append_assoc]⟩
      · exact ⟨[], by simp⟩
  obtain ⟨l, e2⟩ := key (rows.length + 1) 0 [0]
  rw [e] at e2
  simp only [e2]
  rfl
theorem small_lang (v : VB rows good k) : Xl rows (rowsM rows good k) good (goodM rows good k) k 0 0 := by
  obtain ⟨h, e⟩ := repL_0 v
  have := small_X v h
  rw [e] at this
  exact this
theorem bIn_all {α β : Type} [DecidableEq α] {nxt : α → Nat → α} {ext : β → Nat → β} {I : α → Prop} {k : Nat} (hI : ∀ x a, I x → a < k → I (nxt x a)) {x : α} (hx : I x) (w : β) : ∀ (j a : Nat) (s : List α × List β), a + j ≤ k → (∀ y ∈ s.1, I y) → ∀ y ∈ (bIn nxt ext x w j a s).1, I y
  | 0, _, s, _, h => h
  | j + 1, a, s, ha, h => by
    rw [bIn]
    split
    · exact bIn_all hI hx w j (a + 1) s (by omega) h
    · refine bIn_all hI hx w j (a + 1) _ (by omega) fun y hy => ?_
      rcases List.mem_append.1 hy with hy | hy
      · exact h y hy
      · simp at hy; rw [hy]; exact hI x a hx (by omega)
theorem gow_goL (rows : List (List Int)) : ∀ (w : List UInt8) (s : Nat), gow rows s (w.map fun c => c.toNat - 97) = goL rows w s
  | [], s => rfl
  | c :: w, s => by rw [goL, ← gow_goL rows w]; rfl
theorem Xl.goL {s s' : Nat} (h : Xl rows rows' good good' k s s') {w : List UInt8} (hw : okW k w) : bnth good (goL rows w s) = bnth good' (Go.Proofs.Ythnpflkpjimkfaa.goL rows' w s') := by
  have := h (w.map fun c => c.toNat - 97) (fun a ha => by
    obtain ⟨c, hc, rfl⟩ := List.mem_map.1 ha
    exact (hw c hc).2)
  rw [gow_goL, gow_goL] at this
  exact this
end
end Go.Proofs.Ythnpflkpjimkfaa

/-
  GREEN: the classes' numbers. Conditions: none.
-/
namespace Go.Proofs.Ythnpflkpjimkfaa
open Go.AM
open Go.Proofs.Try (prog)
set_option linter.all false
set_option maxRecDepth 100000
set_option maxHeartbeats 8000000
section
variable {E : Nat → Nat → Bool} {n : Nat}
theorem cls_at {i : Nat} (h : i < (clsL E n).length) : ∃ r, r < n ∧ frstB E r = true ∧ ((List.range n).filter (frstB E))[i]? = some r ∧ (clsL E n)[i] = (List.range n).filter (E r) := by
  simp only [clsL, clsR, List.length_map] at h
  have hm := List.getElem_mem h
  have := List.mem_filter.1 hm
  refine ⟨((List.range n).filter (frstB E))[i], by simpa using this.1, this.2, List.getElem?_eq_getElem h, by simp [clsL, clsR]⟩
theorem cls_has (eq : Eqv E n) {j : Nat} (hj : j < n) : ∃ i, ∃ h : i < (clsL E n).length, j ∈ (clsL E n)[i] := by
  have hex : ∀ m, m < n → E m j = true → ∃ r, r < n ∧ E r j = true ∧ ∀ q, q < r → E q j = false := by
    intro m
    induction m using Nat.strongRecOn with
    | ind m ih =>
      intro hm he
      by_cases q : ∃ x, x < m ∧ E x j = true
      · obtain ⟨x, hx, e⟩ := q
        exact ih x hx (by omega) e
      · exact ⟨m, hm, he, fun x hx => by
          cases c : E x j with
          | false => rfl
          | true => exact absurd ⟨x, hx, c⟩ q⟩
  obtain ⟨r, r1, r2, r3⟩ := hex j hj (eq.rf j hj)
  have hf : frstB E r = true := by
    rw [frstB]
    have : ((List.range r).any fun j => E j r) = false := by
      rw [Bool.eq_false_iff]
      intro h
      obtain ⟨x, hx, e⟩ := List.any_eq_true.1 h
      have hx : x < r := by simpa using hx
      have := eq.tr x r j (by omega) r1 hj e r2
      rw [r3 x hx] at this; cases this
    rw [this]; rfl
  have hm : r ∈ (List.range n).filter (frstB E) := List.mem_filter.2 ⟨by simpa using r1, hf⟩
  obtain ⟨i, hi, e⟩ := List.getElem_of_mem hm
  refine ⟨i, by simp only [clsL, clsR, List.length_map]; exact hi, ?_⟩
  simp only [clsL, clsR, List.getElem_map, e]
  exact List.mem_filter.2 ⟨by simpa using hj, r2⟩
end
section
variable {rows : List (List Int)} {good : List Bool} {k : Nat} {S : SM}
theorem fm_pr (v : VB rows good k) (W : MW rows k S) : FM (pr rows S) S.1.length := by
  have w0 : wrd S 0 = [] := by
    obtain ⟨p, q, _, e2⟩ := W.pre
    rw [wrd, e2]; rfl
  exact ⟨fun a b ha hb => pr_lt v W ha hb, fun a b c ha hb hc => pr_assoc v W ha hb hc, W.pos, fun a ha => ⟨by rw [pr, w0, List.nil_append]; exact W.self ha, by rw [pr, w0, List.append_nil]; exact W.self ha⟩⟩
theorem eqB_j (v : VB rows good k) (W : MW rows k S) {i j : Nat} (hi : i < S.1.length) (hj : j < S.1.length) : eqB rows S k true true i j = true ↔ eJ (pr rows S) S.1.length i j := by
  simp only [eqB, Bool.and_eq_true, decide_eq_true_eq]
  rw [blw_b v W hi, blw_b v W hj]; rfl
end
end Go.Proofs.Ythnpflkpjimkfaa

/-
  SIMON: words with the same parts; what a brand's monoid makes of them. Plain law. Conditions: none.
-/
namespace Go.Proofs.Ythnpflkpjimkfaa
open Go.AM
open Go.Proofs.Try (prog)
set_option linter.all false
set_option maxRecDepth 100000
set_option maxHeartbeats 8000000
def pP (K : Nat) (w : List UInt8) : WL := w.foldl (fun l c => addP K l [c]) [[]]
def IsPt (K : Nat) (w : List UInt8) (l : WL) : Prop := ∀ q, q ∈ l ↔ q.Sublist w ∧ q.length ≤ K
theorem isPt_step {K : Nat} {p : List UInt8} {l o : WL} {c : UInt8} (h : IsPt K p l) (A : Adds K l [c] o) : IsPt K (p ++ [c]) o := by
  intro q
  rw [A]
  constructor
  · rintro (g | ⟨p', h1, h2, rfl⟩)
    · exact ⟨((h q).1 g).1.trans (List.sublist_append_left _ _), ((h q).1 g).2⟩
    · exact ⟨((h p').1 h1).1.append (List.Sublist.refl _), by simp; omega⟩
  · rintro ⟨hs, hl⟩
    obtain ⟨l1, l2, rfl, h1, h2⟩ := List.sublist_append_iff.1 hs
    rcases List.sublist_cons_iff.1 h2 with g | ⟨r, rfl, g⟩
    · have : l2 = [] := List.sublist_nil.1 g
      subst this
      rw [List.append_nil] at hl ⊢
      exact .inl ((h l1).2 ⟨h1, hl⟩)
    · have : r = [] := List.sublist_nil.1 g
      subst this
      simp only [List.length_append, List.length_singleton] at hl
      exact .inr ⟨l1, (h l1).2 ⟨h1, by omega⟩, by omega, rfl⟩
theorem isPt_nil (K : Nat) : IsPt K [] [[]] := fun q => by
  rw [List.mem_singleton, List.sublist_nil]
  constructor
  · rintro rfl; exact ⟨rfl, by simp⟩
  · rintro ⟨h, _⟩; exact h
theorem pP_gen (K : Nat) : ∀ (w p : List UInt8) (l : WL), IsPt K p l → IsPt K (p ++ w) (w.foldl (fun l c => addP K l [c]) l)
  | [], p, l, h => by simpa using h
  | c :: w, p, l, h => by
    have := pP_gen K w (p ++ [c]) _ (isPt_step h (addP_adds K l [c]))
    rw [List.append_assoc] at this
    exact this
theorem pP_is (K : Nat) (w : List UInt8) : IsPt K w (pP K w) := pP_gen K w [] [[]] (isPt_nil K)
theorem pP_snoc (K : Nat) (w : List UInt8) (c : UInt8) : pP K (w ++ [c]) = addP K (pP K w) [c] := by rw [pP, List.foldl_append]; rfl
theorem pP_ns (K : Nat) : ∀ (w : List UInt8) (l : WL), l.Nodup → l.Pairwise (· ≤ ·) → (w.foldl (fun l c => addP K l [c]) l).Nodup ∧ (w.foldl (fun l c => addP K l [c]) l).Pairwise (· ≤ ·)
  | [], l, h, g => ⟨h, g⟩
  | c :: w, l, h, g => pP_ns K w _ (addP_nd h [c]) (addP_srt K l [c])
def SPt (K : Nat) (u w : List UInt8) : Prop := ∀ q : List UInt8, q.length ≤ K → (q.Sublist u ↔ q.Sublist w)
theorem pP_eq {K : Nat} {u w : List UInt8} (h : SPt K u w) : pP K u = pP K w := by
  obtain ⟨a1, a2⟩ := pP_ns K u [[]] (by simp) (by simp)
  obtain ⟨b1, b2⟩ := pP_ns K w [[]] (by simp) (by simp)
  refine sortP_uniq a2 b2 a1 b1 fun q => ?_
  have e1 := pP_is K u q
  have e2 := pP_is K w q
  show q ∈ pP K u ↔ q ∈ pP K w
  rw [e1, e2]
  constructor
  · rintro ⟨g1, g2⟩; exact ⟨(h q g2).1 g1, g2⟩
  · rintro ⟨g1, g2⟩; exact ⟨(h q g2).2 g1, g2⟩
def rpt (W : List UInt8) : Nat → List UInt8
  | 0 => []
  | n + 1 => rpt W n ++ W
theorem rpt_mem {W : List UInt8} : ∀ {n : Nat} {c : UInt8}, c ∈ rpt W n → c ∈ W
  | 0, c, h => by simp [rpt] at h
  | n + 1, c, h => by
    rcases List.mem_append.1 h with h | h
    · exact rpt_mem h
    · exact h
theorem rpt_front (W : List UInt8) : ∀ n, rpt W (n + 1) = W ++ rpt W n
  | 0 => by simp [rpt]
  | n + 1 => by
    show rpt W (n + 1) ++ W = W ++ (rpt W n ++ W)
    rw [rpt_front W n, List.append_assoc]
theorem sub_rpt {W : List UInt8} : ∀ (q : List UInt8) (n : Nat), q.length ≤ n → (∀ c ∈ q, c ∈ W) → q.Sublist (rpt W n)
  | [], n, _, _ => List.nil_sublist _
  | c :: q, 0, h, _ => by simp at h
  | c :: q, n + 1, h, g => by
    rw [rpt_front]
    have := (List.singleton_sublist.2 (g c (by simp))).append (sub_rpt q n (by simpa using h) fun d hd => g d (by simp [hd]))
    exact this
theorem spt_r {K n : Nat} (P W U Q : List UInt8) (hU : ∀ c ∈ U, c ∈ W) (hn : K ≤ n) : SPt K (P ++ rpt W n ++ U ++ Q) (P ++ rpt W n ++ Q) := by
  intro q hq
  constructor
  · intro h
    obtain ⟨q1, q2, rfl, h1, h2⟩ := List.sublist_append_iff.1 h
    obtain ⟨q3, q4, rfl, h3, h4⟩ := List.sublist_append_iff.1 h1
    obtain ⟨q5, q6, rfl, h5, h6⟩ := List.sublist_append_iff.1 h3
    have : (q6 ++ q4).Sublist (rpt W n) := sub_rpt _ n (by simp at hq ⊢; omega) fun c hc => by
      rcases List.mem_append.1 hc with hc | hc
      · exact rpt_mem (h6.subset hc)
      · exact hU c (h4.subset hc)
    rw [List.append_assoc q5]
    exact (h5.append this).append h2
  · intro h
    refine h.trans ?_
    exact (List.sublist_append_left _ _).append (List.Sublist.refl _)
theorem spt_l {K n : Nat} (P W U Q : List UInt8) (hU : ∀ c ∈ U, c ∈ W) (hn : K ≤ n) : SPt K (P ++ (U ++ rpt W n) ++ Q) (P ++ rpt W n ++ Q) := by
  intro q hq
  constructor
  · intro h
    obtain ⟨q1, q2, rfl, h1, h2⟩ := List.sublist_append_iff.1 h
    obtain ⟨q3, q4, rfl, h3, h4⟩ := List.sublist_append_iff.1 h1
    obtain ⟨q5, q6, rfl, h5, h6⟩ := List.sublist_append_iff.1 h4
    have : (q5 ++ q6).Sublist (rpt W n) := sub_rpt _ n (by simp at hq ⊢; omega) fun c hc => by
      rcases List.mem_append.1 hc with hc | hc
      · exact hU c (h5.subset hc)
      · exact rpt_mem (h6.subset hc)
    exact (h3.append this).append h2
  · intro h
    refine h.trans ?_
    exact ((List.Sublist.refl _).append (List.sublist_append_right _ _)).append (List.Sublist.refl _)
section
variable {rows : List (List Int)} {good : List Bool} {k K : Nat}
def Prv (rows : List (List Int)) (k K : Nat) (x : PT) (w : List UInt8) : Prop := okW k w ∧ x.1 = goL rows w 0 ∧ x.2 = pP K w
theorem prv_step (k3 : k ≤ 3) {x : PT} {w : List UInt8} {a : Nat} (h : Prv rows k K x w) (ha : a < k) : Prv rows k K (nxN rows K x a) (extL w a) := by
  obtain ⟨h1, h2, h3⟩ := h
  refine ⟨okW_ext h1 ha k3, ?_, ?_⟩
  · rw [extL, goL_ltr rows w (by omega), ← h2]; rfl
  · rw [extL, ltr, pP_snoc, ← h3]; rfl
theorem sho_prv (v : VB rows good k) {S : ST} (h : shoB rows k K = some S) : FOk (OkP rows.length k K) (Prv rows k K) S :=
  bfsF_ok (fun x a hx ha => nxN_ok v K x a hx ha) (fun x w a _ hq ha => prv_step v.k3 hq ha) h ⟨by simp [sho0], rfl, fun i x w h1 h2 => by
    have : i = 0 := by have := (List.getElem?_eq_some_iff.1 h1).1; simp [sho0] at this; omega
    subst this
    simp [sho0] at h1 h2
    subst h1 h2
    exact ⟨okP0 v.n1, okW_nil k, rfl, rfl⟩⟩
theorem sho_all (v : VB rows good k) {S : ST} (h : shoB rows k K = some S) : ∀ (n : Nat) (w : List UInt8), w.length = n → okW k w → (goL rows w 0, pP K w) ∈ S.1
  | 0, w, hn, _ => by
    have : w = [] := List.length_eq_zero_iff.1 hn
    subst this
    obtain ⟨p, q, e, _⟩ := bfsF_pre h
    rw [e]; exact List.mem_append_left _ (by simp [sho0, pP, goL])
  | n + 1, w, hn, hw => by
    obtain ⟨p, c, rfl⟩ := snoc_of w (by intro e; subst e; simp at hn)
    have hp : okW k p := fun d hd => hw d (by simp [hd])
    have hc := hw c (by simp)
    have ih := sho_all v h n p (by simpa using hn) hp
    have := bfsF_has h rfl (by simp) _ ih (c.toNat - 97) hc.2
    have e1 := goL_ltr rows p (a := c.toNat - 97) (by have := v.k3; omega) 0
    have e2 : [c] = ltr (c.toNat - 97) := chr_ltr hc.1
    rw [e2, e1, show ltr (c.toNat - 97) = [c] from e2.symm, pP_snoc]
    rw [nxN, ← e2] at this
    exact this
theorem fnd_has {α : Type} {κ : α → List UInt8} {sd : α → Bool} {b : Bool} {L : List (α × List UInt8)} {q : α × List UInt8} (h : q ∈ L) (hs : sd q.1 = b) : fnd κ sd b L (κ q.1) ≠ none := by
  unfold fnd
  intro e
  rw [Option.map_eq_none_iff, List.find?_eq_none] at e
  exact e q h (by simp [hs])
theorem sho_none (v : VB rows good k) {S : ST} (h : shoB rows k K = some S) (hn : sel (cand (shoG good S).1 (shoG good S).2.1 (shoG good S).2.2) = none) {u w : List UInt8} (hu : okW k u) (hw : okW k w) (hp : SPt K u w) (g : bnth good (goL rows u 0) = true) : bnth good (goL rows w 0) = true := by
  cases c : bnth good (goL rows w 0) with
  | true => rfl
  | false =>
    exfalso
    have hl := (shoB_ok v h).1.len
    have mem : ∀ x : PT, x ∈ S.1 → ∃ z, (x, z) ∈ S.1.zip S.2 := fun x hx => by
      obtain ⟨i, hi⟩ := List.getElem?_of_mem hx
      have h1 := (List.getElem?_eq_some_iff.1 hi).1
      exact ⟨S.2[i], List.mem_of_getElem? (show (S.1.zip S.2)[i]? = some (x, S.2[i]) by rw [List.getElem?_zip_eq_some]; exact ⟨hi, List.getElem?_eq_getElem (by omega)⟩)⟩
    obtain ⟨z1, m1⟩ := mem _ (sho_all v h _ u rfl hu)
    obtain ⟨z2, m2⟩ := mem _ (sho_all v h _ w rfl hw)
    have f1 := fnd_has (κ := kN) (sd := sdG good) (b := true) m1 g
    have f2 := fnd_has (κ := kN) (sd := sdG good) (b := false) m2 c
    simp only [kN] at f1 f2
    rw [← pP_eq hp] at f2
    obtain ⟨p1, e1⟩ := Option.ne_none_iff_exists'.1 f1
    obtain ⟨p2, e2⟩ := Option.ne_none_iff_exists'.1 f2
    have hm := sel_none hn
    have : (p1, p2) ∈ cand (shoG good S).1 (shoG good S).2.1 (shoG good S).2.2 := by
      rw [cand_mem]
      refine ⟨nameL (pP K u), ?_, by rw [shoG_good]; exact e1, by rw [shoG_bad]; exact e2⟩
      have hnm := fc_names (κ := kN) (sd := sdG good) (S.1.zip S.2) G0 (by rintro p (h | h) <;> exact absurd rfl h) (nameL (pP K u))
      exact hnm.2 (.inr ⟨_, m1, rfl⟩)
    rw [hm] at this
    simp at this
theorem sho_some (v : VB rows good k) {S : ST} (h : shoB rows k K = some S) {p : WW} (hn : sel (cand (shoG good S).1 (shoG good S).2.1 (shoG good S).2.2) = some p) :
    okW k p.1 ∧ okW k p.2 ∧ p.1.length ≤ 1000000 ∧ p.2.length ≤ 1000000 ∧ bnth good (goL rows p.1 0) = true ∧ bnth good (goL rows p.2 0) = false ∧ pP K p.1 = pP K p.2 := by
  have hm := sel_mem hn
  rw [cand_mem] at hm
  obtain ⟨n, _, h1, h2⟩ := hm
  rw [shoG_good] at h1
  rw [shoG_bad] at h2
  obtain ⟨x, x1, x2, x3⟩ := fnd_mem h1
  obtain ⟨y, y1, y2, y3⟩ := fnd_mem h2
  obtain ⟨i, hi⟩ := List.getElem?_of_mem x1
  obtain ⟨j, hj⟩ := List.getElem?_of_mem y1
  obtain ⟨a1, a2⟩ := zip_at hi
  obtain ⟨b1, b2⟩ := zip_at hj
  have F := sho_prv v h
  obtain ⟨o1, q1, q2, q3⟩ := F.all i _ _ a1 a2
  obtain ⟨o2, r1, r2, r3⟩ := F.all j _ _ b1 b2
  obtain ⟨B, B5⟩ := shoB_ok v h
  have l1 := B.wl _ (List.mem_of_getElem? a2)
  have l2 := B.wl _ (List.mem_of_getElem? b2)
  have hl := B.len
  simp only at l1 l2
  refine ⟨q1, r1, by omega, by omega, ?_, ?_, ?_⟩
  · rw [← q2]; exact x2
  · rw [← r2]; exact y2
  · rw [← q3, ← r3]
    exact nameP_inj o1 o2 (x3.trans y3.symm)
end
end Go.Proofs.Ythnpflkpjimkfaa

/-
  SIMON: if words with the same parts are accepted alike, all classes of the monoid are single, and so no element has a period. Plain law. Conditions: none.
-/
namespace Go.Proofs.Ythnpflkpjimkfaa
open Go.AM
open Go.Proofs.Try (prog)
set_option linter.all false
set_option maxRecDepth 100000
set_option maxHeartbeats 8000000
section
variable {rows : List (List Int)} {good : List Bool} {k : Nat}
theorem alk_of (k3 : k ≤ 3) {s t : Nat} (h : ∀ w, okW k w → bnth good (goL rows w s) = bnth good (goL rows w t)) : alk rows good k s t := by
  intro w hw
  have hn : ∀ a, a ∈ w → (UInt8.ofNat (97 + a)).toNat = 97 + a := fun a ha => ofNat6 (by have := hw a ha; omega)
  have e : (w.map fun a => UInt8.ofNat (97 + a)).map (fun c => c.toNat - 97) = w := by
    rw [List.map_map]
    refine (List.map_congr_left (g := id) fun a ha => ?_).trans (List.map_id w)
    show (UInt8.ofNat (97 + a)).toNat - 97 = a
    rw [hn a ha]; omega
  have := h (w.map fun a => UInt8.ofNat (97 + a)) fun c hc => by
    obtain ⟨a, ha, rfl⟩ := List.mem_map.1 hc
    rw [hn a ha]
    have := hw a ha
    omega
  rw [← gow_goL, ← gow_goL, e] at this
  exact this
theorem Xl.gos {rows' : List (List Int)} {good' : List Bool} : ∀ {w : List UInt8} {s s' : Nat}, okW k w → Xl rows rows' good good' k s s' → Xl rows rows' good good' k (Go.Proofs.Ythnpflkpjimkfaa.goL rows w s) (Go.Proofs.Ythnpflkpjimkfaa.goL rows' w s')
  | [], _, _, _, h => h
  | c :: w, s, s', hw, h => by
    rw [Go.Proofs.Ythnpflkpjimkfaa.goL, Go.Proofs.Ythnpflkpjimkfaa.goL]
    exact Xl.gos (fun d hd => hw d (by simp [hd])) (h.step (hw c (by simp)).2)
theorem bfsA_all {β : Type} {nxt : Nat → Nat → Nat} {ext : β → Nat → β} {I : Nat → Prop} (hI : ∀ x a, I x → a < k → I (nxt x a)) : ∀ (f i : Nat) (s : List Nat × List β), (∀ y ∈ s.1, I y) → ∀ y ∈ (bfsA nxt ext k f i s).1, I y
  | 0, _, s, h => h
  | f + 1, i, s, h => by
    rw [bfsA]
    split
    · rename_i x w h1 h2
      exact bfsA_all hI f (i + 1) _ (bIn_all hI (h x (List.mem_of_getElem? h1)) w k 0 s (by omega) h)
    · exact h
theorem rch_word (k3 : k ≤ 3) : ∀ s ∈ (rchS rows k).1, ∃ w, okW k w ∧ goL rows w 0 = s :=
  bfsA_all (I := fun s => ∃ w, okW k w ∧ goL rows w 0 = s) (fun x a ⟨w, h1, h2⟩ ha => ⟨w ++ ltr a, okW_ext h1 ha k3, by rw [goL_ltr rows w (by omega), h2]⟩) _ 0 _ (fun y hy => by
    simp at hy; subst hy; exact ⟨[], okW_nil k, rfl⟩)
theorem rep_unlike {i j : Nat} (hi : i < (repL rows good k).length) (hj : j < (repL rows good k).length) (h : alk rows good k (repL rows good k)[i] (repL rows good k)[j]) : i = j := by
  have pw : (repL rows good k).Pairwise (fun t u => alB rows good k u t = false) := ded_pw _ [] List.Pairwise.nil
  rcases Nat.lt_trichotomy i j with c | c | c
  · have := List.pairwise_iff_getElem.1 pw i j hi hj c
    rw [alB_iff.2 (alk_symm h)] at this; cases this
  · exact c
  · have := List.pairwise_iff_getElem.1 pw j i hj hi c
    rw [alB_iff.2 h] at this; cases this
theorem rowsM_lenR : (rowsM rows good k).length = (repL rows good k).length := by simp [rowsM]
theorem rep_reach (v : VB rows good k) {i : Nat} (hi : i < (repL rows good k).length) : ∃ w, okW k w ∧ goL (rowsM rows good k) w 0 = i := by
  obtain ⟨w, h1, h2⟩ := rch_word v.k3 _ (ded_mem (al := alB rows good k) (List.getElem_mem hi))
  have h2 : goL rows w 0 = (repL rows good k)[i] := h2
  refine ⟨w, h1, ?_⟩
  have vm := VB_M v
  have X1 := (small_lang v).gos h1
  rw [h2] at X1
  have hj : goL (rowsM rows good k) w 0 < (repL rows good k).length := by
    have := goL_lt6 vm h1 (s := 0) vm.n1
    rwa [rowsM_lenR] at this
  have X2 := small_X v hj
  exact (rep_unlike hi hj fun u hu => (X1 u hu).trans (X2 u hu).symm).symm
theorem dist_M (v : VB rows good k) {s t : Nat} (hs : s < (repL rows good k).length) (ht : t < (repL rows good k).length) (h : ∀ w, okW k w → bnth (goodM rows good k) (goL (rowsM rows good k) w s) = bnth (goodM rows good k) (goL (rowsM rows good k) w t)) : s = t :=
  rep_unlike hs ht fun w hw => ((small_X v hs w hw).trans (alk_of v.k3 h w hw)).trans (small_X v ht w hw).symm
variable {S : SM}
theorem num_ctx (v : VB rows good k) {u w : List UInt8} (hu : okW k u) (hw : okW k w) (h : ∀ P Q, okW k P → okW k Q → bnth (goodM rows good k) (goL (rowsM rows good k) (P ++ u ++ Q) 0) = bnth (goodM rows good k) (goL (rowsM rows good k) (P ++ w ++ Q) 0)) :
    numM (rowsM rows good k) S u = numM (rowsM rows good k) S w := by
  have vm := VB_M v
  have : mv6 (rowsM rows good k) u = mv6 (rowsM rows good k) w := mv6_ext fun s hs => by
    have hs' : s < (repL rows good k).length := by rwa [rowsM_lenR] at hs
    have l1 := goL_lt6 vm hu hs
    have l2 := goL_lt6 vm hw hs
    rw [rowsM_lenR] at l1 l2
    refine dist_M v l1 l2 fun Q hQ => ?_
    obtain ⟨P, hP, e⟩ := rep_reach v hs'
    have := h P Q hP hQ
    rw [goL_app, goL_app, e, goL_app, goL_app, e] at this
    exact this
  rw [numM, numM, this]
def Smn (rows : List (List Int)) (good : List Bool) (k K : Nat) : Prop := ∀ u w, okW k u → okW k w → SPt K u w → bnth good (goL rows u 0) = bnth good (goL rows w 0)
theorem SPt.symm {K : Nat} {u w : List UInt8} (h : SPt K u w) : SPt K w u := fun q hq => (h q hq).symm
theorem smn_of (v : VB rows good k) {K : Nat} {T : ST} (h : shoB rows k K = some T) (hn : sel (cand (shoG good T).1 (shoG good T).2.1 (shoG good T).2.2) = none) : Smn rows good k K := by
  intro u w hu hw hp
  cases c : bnth good (goL rows u 0) with
  | true => exact (sho_none v h hn hu hw hp c).symm
  | false =>
    cases d : bnth good (goL rows w 0) with
    | false => rfl
    | true => rw [sho_none v h hn hw hu hp.symm d] at c; cases c
theorem num_spt (v : VB rows good k) {K : Nat} (hS : Smn (rowsM rows good k) (goodM rows good k) k K) {u w : List UInt8} (hu : okW k u) (hw : okW k w) (h : ∀ P Q, SPt K (P ++ u ++ Q) (P ++ w ++ Q)) : numM (rowsM rows good k) S u = numM (rowsM rows good k) S w :=
  num_ctx v hu hw fun P Q hP hQ => hS _ _ (okW_app (okW_app hP hu) hQ) (okW_app (okW_app hP hw) hQ) (h P Q)
theorem okW_rpt {W : List UInt8} (h : okW k W) : ∀ n, okW k (rpt W n)
  | 0 => okW_nil k
  | n + 1 => okW_app (okW_rpt h n) h
theorem simon_r (v : VB rows good k) (W : MW (rowsM rows good k) k S) {K : Nat} (hS : Smn (rowsM rows good k) (goodM rows good k) k K) {x c : Nat} (hx : x < S.1.length) (hc : c < S.1.length) (h : eR (pr (rowsM rows good k) S) S.1.length x c) : x = c := by
  have vm := VB_M v
  have F := fm_pr vm W
  obtain ⟨⟨u, hu, e1⟩, ⟨w, hw, e2⟩⟩ := h
  have ox := wrd_ok W hx
  have ou := wrd_ok W hu
  have ow := wrd_ok W hw
  have nx' := W.self hx
  have nu := W.self hu
  have nw := W.self hw
  have ouw := okW_app ou ow
  have n1 : numM (rowsM rows good k) S (wrd S u ++ wrd S w) = pr (rowsM rows good k) S u w := rfl
  have st : ∀ n, numM (rowsM rows good k) S (wrd S x ++ rpt (wrd S u ++ wrd S w) n) = x := by
    intro n
    induction n with
    | zero => rw [rpt, List.append_nil, nx']
    | succ n ih =>
      rw [rpt, ← List.append_assoc, ← pr_nums vm W (okW_app ox (okW_rpt ouw n)) ouw, ih, n1, ← F.asc x u w hx hu hw, e1, e2]
  have sc : numM (rowsM rows good k) S (wrd S x ++ rpt (wrd S u ++ wrd S w) K ++ wrd S u) = c := by
    rw [← pr_nums vm W (okW_app ox (okW_rpt ouw K)) ou, st, nu, e1]
  rw [← st K, ← sc]
  refine (num_spt v hS (okW_app (okW_app ox (okW_rpt ouw K)) ou) (okW_app ox (okW_rpt ouw K)) fun P Q => ?_).symm
  have := spt_r (K := K) (n := K) (P ++ wrd S x) (wrd S u ++ wrd S w) (wrd S u) Q (fun d hd => by simp [hd]) (Nat.le_refl _)
  simpa only [List.append_assoc] using this
theorem simon_l (v : VB rows good k) (W : MW (rowsM rows good k) k S) {K : Nat} (hS : Smn (rowsM rows good k) (goodM rows good k) k K) {c y : Nat} (hc : c < S.1.length) (hy : y < S.1.length) (h : eL (pr (rowsM rows good k) S) S.1.length c y) : c = y := by
  have vm := VB_M v
  have F := fm_pr vm W
  obtain ⟨⟨u, hu, e1⟩, ⟨w, hw, e2⟩⟩ := h
  have oc := wrd_ok W hc
  have ou := wrd_ok W hu
  have ow := wrd_ok W hw
  have nc := W.self hc
  have nu := W.self hu
  have owu := okW_app ow ou
  have n1 : numM (rowsM rows good k) S (wrd S w ++ wrd S u) = pr (rowsM rows good k) S w u := rfl
  have st : ∀ n, numM (rowsM rows good k) S (rpt (wrd S w ++ wrd S u) n ++ wrd S c) = c := by
    intro n
    induction n with
    | zero => rw [rpt, List.nil_append, nc]
    | succ n ih =>
      rw [rpt_front, List.append_assoc, ← pr_nums vm W owu (okW_app (okW_rpt owu n) oc), ih, n1, F.asc w u c hw hu hc, e1, e2]
  have sc : numM (rowsM rows good k) S (wrd S u ++ (rpt (wrd S w ++ wrd S u) K ++ wrd S c)) = y := by
    rw [← pr_nums vm W ou (okW_app (okW_rpt owu K) oc), st, nu, e1]
  rw [← st K, ← sc]
  refine (num_spt v hS (okW_app ou (okW_app (okW_rpt owu K) oc)) (okW_app (okW_rpt owu K) oc) fun P Q => ?_).symm
  have := spt_l (K := K) (n := K) P (wrd S w ++ wrd S u) (wrd S u) (wrd S c ++ Q) (fun d hd => by simp [hd]) (Nat.le_refl _)
  simpa only [List.append_assoc] using this
theorem simon_j (v : VB rows good k) (W : MW (rowsM rows good k) k S) {K : Nat} (hS : Smn (rowsM rows good k) (goodM rows good k) k K) {x y : Nat} (hx : x < S.1.length) (hy : y < S.1.length) (h : eJ (pr (rowsM rows good k) S) S.1.length x y) : x = y := by
  have vm := VB_M v
  obtain ⟨c, hc, h1, h2⟩ := d_is_j (fm_pr vm W) hx h
  rw [simon_r v W hS hx hc h1, simon_l v W hS hc hy h2]
end
section
variable {rows : List (List Int)} {good : List Bool} {k : Nat} {S : SM}
theorem single_per (v : VB rows good k) (W : MW rows k S) (hJ : ∀ x y, x < S.1.length → y < S.1.length → eJ (pr rows S) S.1.length x y → x = y) {i : Nat} (hi : i < S.1.length) : ¬ 1 < perd rows S i := by
  intro h
  have F := fm_pr v W
  have hp := perd_is v W hi
  have l1 := pw_lt v W hi S.1.length
  have l2 := pw_lt v W hi (S.1.length + 1)
  refine hp.mn 1 (by omega) h (hJ _ _ l1 l2 (eR.j F l1 l2 ⟨⟨i, hi, rfl⟩, ⟨pw rows S i (perd rows S i - 2), pw_lt v W hi _, ?_⟩⟩)).symm
  rw [pw_add v W hi, show S.1.length + 1 + (perd rows S i - 2) + 1 = S.1.length + perd rows S i by omega, hp.eq]
theorem grp_none (v : VB rows good k) (W : MW rows k S) (hJ : ∀ x y, x < S.1.length → y < S.1.length → eJ (pr rows S) S.1.length x y → x = y) : grpV rows S S.1.length 0 = .tup [.str [], .int .i64 0, .int .i64 5] := by
  have : (List.range' 0 S.1.length).find? (fun i => decide (1 < perd rows S i)) = none := by
    rw [List.find?_eq_none]
    intro i hi
    have := List.mem_range'_1.1 hi
    simpa using single_per v W hJ (by omega)
  rw [grpV, this]
theorem cls_two {E : Nat → Nat → Bool} {n : Nat} (eq : Eqv E n) : (∃ c ∈ clsL E n, 1 < c.length) ↔ ∃ i j, i < n ∧ j < n ∧ i ≠ j ∧ E i j = true := by
  constructor
  · rintro ⟨c, hc, hl⟩
    obtain ⟨a, ha, rfl⟩ := List.getElem_of_mem hc
    obtain ⟨r, r1, r2, r3, r4⟩ := cls_at ha
    have nd : ((clsL E n)[a]).Nodup := by rw [r4]; exact List.Pairwise.filter _ List.nodup_range
    have m0 := List.getElem_mem (show 0 < ((clsL E n)[a]).length by omega)
    have m1 := List.getElem_mem (show 1 < ((clsL E n)[a]).length by omega)
    have ne : ((clsL E n)[a])[0] ≠ ((clsL E n)[a])[1] := fun e => by
      have := List.pairwise_iff_getElem.1 nd 0 1 (by omega) (by omega) (by omega)
      exact this e
    generalize ((clsL E n)[a])[0] = p at *
    generalize ((clsL E n)[a])[1] = q at *
    rw [r4] at m0 m1
    have a0 := List.mem_filter.1 m0
    have a1 := List.mem_filter.1 m1
    have p0 : p < n := by simpa using a0.1
    have q0 : q < n := by simpa using a1.1
    exact ⟨p, q, p0, q0, ne, eq.tr p r q p0 r1 q0 (eq.sy r p r1 p0 a0.2) a1.2⟩
  · rintro ⟨i, j, hi, hj, ne, e⟩
    obtain ⟨a, ha, hm⟩ := cls_has eq hj
    obtain ⟨r, r1, r2, r3, r4⟩ := cls_at ha
    have hm' := hm
    rw [r4] at hm'
    have e2 := (List.mem_filter.1 hm').2
    have hmi : i ∈ (clsL E n)[a] := by
      rw [r4, List.mem_filter]
      exact ⟨by simpa using hi, eq.tr r j i r1 hj hi e2 (eq.sy i j hi hj e)⟩
    refine ⟨(clsL E n)[a], List.getElem_mem ha, ?_⟩
    have := nodup_sub (l := [i, j]) (L := (clsL E n)[a]) (by simp [ne]) (fun x hx => by
      simp at hx
      rcases hx with rfl | rfl
      · exact hmi
      · exact hm)
    have h2 : 2 ≤ ((clsL E n)[a]).length := by simpa using this
    omega
theorem smp_iff (l : List (List Nat)) : (smp S l).2.2 = true ↔ ∃ c ∈ l, 1 < c.length := by
  unfold smp
  cases h : l.find? (fun c => decide (1 < c.length)) with
  | none =>
    rw [List.find?_eq_none] at h
    simp only [Bool.false_eq_true, false_iff]
    rintro ⟨c, h1, h2⟩
    exact h c h1 (by simpa using h2)
  | some c =>
    simp only [true_iff]
    exact ⟨c, List.mem_of_find?_eq_some h, by simpa using List.find?_some h⟩
theorem simple_iff (v : VB rows good k) (W : MW rows k S) : (smp S (clsM rows S k true true)).2.2 = true ↔ ∃ i j, i < S.1.length ∧ j < S.1.length ∧ i ≠ j ∧ eJ (pr rows S) S.1.length i j := by
  rw [smp_iff, clsM, cls_two (eqB_eqv v W true true)]
  constructor
  · rintro ⟨i, j, h1, h2, h3, h4⟩; exact ⟨i, j, h1, h2, h3, (eqB_j v W h1 h2).1 h4⟩
  · rintro ⟨i, j, h1, h2, h3, h4⟩; exact ⟨i, j, h1, h2, h3, (eqB_j v W h1 h2).2 h4⟩
end
end Go.Proofs.Ythnpflkpjimkfaa

/-
  The specification's Parts. Conditions: none.
-/
namespace Go.Proofs.Ythnpflkpjimkfaa
open Go.AM
open Go.Proofs.Try (prog)
set_option linter.all false
set_option maxRecDepth 100000
set_option maxHeartbeats 8000000
def pR (K : Nat) (w : List UInt8) : WL := w.foldl (fun l c => addR K l [c]) [[]]
structure RSet (k K : Nat) (w : List UInt8) (l : WL) : Prop where
  p : PSet k K l
  s : l.Pairwise (fun u w => rk u < rk w)
  i : IsPt K w l
theorem pR_ok {k K : Nat} (k3 : k ≤ 3) : ∀ (w p : List UInt8) (l : WL), okW k w → RSet k K p l → RSet k K (p ++ w) (w.foldl (fun l c => addR K l [c]) l)
  | [], p, l, _, h => by simpa using h
  | c :: w, p, l, hw, h => by
    have hc := hw c (by simp)
    have e := chr_ltr hc.1
    have h1 : RSet k K (p ++ [c]) (addR K l [c]) := by
      refine ⟨?_, addR_srt l h.s, isPt_step h.i (addR_adds h.p [c])⟩
      rw [e]; exact addR_pset h.p h.s hc.2 k3
    have := pR_ok k3 w (p ++ [c]) _ (fun d hd => hw d (by simp [hd])) h1
    rw [List.append_assoc] at this
    exact this
theorem rset0 (k K : Nat) : RSet k K [] [[]] := ⟨pset0 k K, by simp, isPt_nil K⟩
theorem pR_is {k K : Nat} (k3 : k ≤ 3) {w : List UInt8} (hw : okW k w) : RSet k K w (pR K w) := pR_ok k3 w [] [[]] hw (rset0 k K)
theorem pR_succ {K : Nat} {w : List UInt8} {i : Nat} (hi : i < w.length) : pR K (w.take (i + 1)) = addR K (pR K (w.take i)) [w[i]] := by
  rw [List.take_add_one, List.getElem?_eq_getElem hi, pR, List.foldl_append]
  rfl
theorem pR_same {k K : Nat} (k3 : k ≤ 3) {u w : List UInt8} (hu : okW k u) (hw : okW k w) (h : pP K u = pP K w) : pR K u = pR K w := by
  have a := pR_is (K := K) k3 hu
  have b := pR_is (K := K) k3 hw
  refine sortR_uniq a.s b.s fun q => ?_
  have a1 := a.i q
  have b1 := b.i q
  have a2 := pP_is K u q
  have b2 := pP_is K w q
  rw [a1, b1, ← a2, ← b2, h]
theorem slice1 {w : List UInt8} {i : Nat} (hi : i < w.length) : sliceStr (.str w) (some (.int .i64 i)) (some (.int .i64 ((i : Int) + 1))) = some (.str [w[i]]) := by
  have h1 : (i : Int) ≤ (i : Int) + 1 := by omega
  have h2 : (i : Int) + 1 ≤ (w.length : Int) := by omega
  have e : (w.drop i).take 1 = [w[i]] := by rw [List.drop_eq_getElem_cons hi]; rfl
  have h3 : ((i : Int) + 1).toNat = i + 1 := by omega
  have h4 : (i : Int) + 1 ≤ ((w.length : Nat) : Int) := h2
  have d1 : decide ((i : Int) ≤ (i : Int) + 1) = true := decide_eq_true h1
  have d2 : decide ((i : Int) + 1 ≤ (w.length : Int)) = true := decide_eq_true h2
  simp [sliceStr, bnds, bnd, h3]
  rw [d1, d2]
  simp [e]
  done
theorem pts_loop {k K : Nat} (k3 : k ≤ 3) (K3 : K ≤ 3) {w : List UInt8} (hw : okW k w) (hl : w.length ≤ 1000000) : ∀ (c i : Nat) (ez : Bool) (m : Mem), i + c = w.length →
    r07_Parts.L0 (.str w) (.int .i64 (K : Nat)) (sF ez (pR K (w.take i))) (.int .i64 i) m [.code r07_Parts.r6, .code .ret] = some (.str (joinL (pR K w)), Mem.empty) := by
  intro c
  induction c with
  | zero =>
    intro i ez m h1
    have e : i = w.length := by omega
    subst e
    rw [List.take_length]
    have R := pR_is (K := K) k3 hw
    have hj := fun m => join_spec (ex := ez) (l := pR K w) (by have := R.p.le k3 K3; omega) (R.p.wl K3) m
    rw [r07_Parts.L0_eq]
    simp [hj, (sF_is ez (pR K w)).closed]
    done
  | succ c ih =>
    intro i ez m h1
    have hi : i < w.length := by omega
    have hwi : IntKind.wrap .i64 ((i : Int) + 1) = (i : Int) + 1 := wrap_id (by omega) (by omega)
    have R := pR_is (K := K) k3 (w := w.take i) (fun d hd => hw d (List.mem_of_mem_take hd))
    have hs := slice1 hi
    have sc := pR_succ (K := K) hi
    obtain ⟨ey, hm⟩ := more_spec (ex := ez) (l := pR K (w.take i)) (x := [w[i]]) (K := K) (by have := R.p.le k3 K3; omega) R.p.pos (R.p.wl K3) (by simp)
    have st := fun m => ih (i + 1) ey m (by omega)
    rw [sc] at st
    simp only [Int.natCast_add, Int.cast_ofNat_Int] at st
    have hz : ∀ m, frzV (sF ez (pR K (w.take i))) m = some (sF ez (pR K (w.take i)), m) := fun m => by simp [frzV, sF]
    rw [r07_Parts.L0_eq]
    simp [hi, hwi, hs, hm, hz, callR, (sF_is ez (pR K (w.take i))).closed, st]
    done
theorem pts_spec {k K : Nat} (k3 : k ≤ 3) (K3 : K ≤ 3) {w : List UInt8} (hw : okW k w) (hl : w.length ≤ 1000000) (m : Mem) : denC prog ann 54 [.str w, .int .i64 (K : Nat)] m = some (.str (joinL (pR K w)), m) := by
  have lp := fun m => pts_loop k3 K3 hw hl w.length 0 true m (by omega)
  simp only [List.take_zero, Int.ofNat_zero, Int.cast_ofNat_Int] at lp
  have e : sF true (pR K []) = .fsl true 1 [.str []] := rfl
  rw [e] at lp
  rw [r07_Parts.call_eq _ _ _ (by simp)]
  simp [lp]
  done
end Go.Proofs.Ythnpflkpjimkfaa

/-
  BrandMonoids: the law answers true. Conditions: none.
-/
namespace Go.Proofs.Ythnpflkpjimkfaa
open Go.AM
open Go.Proofs.Try (prog)
set_option linter.all false
set_option maxRecDepth 100000
set_option maxHeartbeats 8000000
end Go.Proofs.Ythnpflkpjimkfaa

/-
  BrandProduct: the law answers true. Conditions: none.
-/
namespace Go.Proofs.Ythnpflkpjimkfaa
open Go.AM
open Go.Proofs.Try (prog)
set_option linter.all false
set_option maxRecDepth 100000
set_option maxHeartbeats 8000000
end Go.Proofs.Ythnpflkpjimkfaa

/-
  BrandGroups: the law answers true. Conditions: none.
-/
namespace Go.Proofs.Ythnpflkpjimkfaa
open Go.AM
open Go.Proofs.Try (prog)
set_option linter.all false
set_option maxRecDepth 100000
set_option maxHeartbeats 8000000
end Go.Proofs.Ythnpflkpjimkfaa
