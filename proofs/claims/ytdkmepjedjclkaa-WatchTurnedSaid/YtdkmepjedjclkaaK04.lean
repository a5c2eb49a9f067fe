/-
  Definitely (1): the cuts with one deed more. Conditions: none.
-/
import Derived.Test.YtdkmepjedjclkaaK03
import Derived.Test.YtdkmepjedjclkaaKAmH
import Derived.Test.YtdkmepjedjclkaaK00
set_option linter.all false
namespace Go.Proofs.Ytdkmepjedjclkaa
open Go.AM
open Go.Proofs.Try (prog)
set_option linter.all false
set_option maxRecDepth 100000
set_option maxHeartbeats 4000000
def bump (c : List Int) (h : Nat) : List Int := c.set h (nth c h + 1)
theorem bump_len (c : List Int) (h : Nat) : (bump c h).length = c.length := by simp [bump]
theorem nth_bump {c : List Int} {h : Nat} (hh : h < c.length) (g : Nat) : nth (bump c h) g = if g = h then nth c h + 1 else nth c g := by
  rw [bump, nth_set]
  by_cases e : h = g
  · subst e; simp [hh]
  · have e' : ¬ g = h := fun x => e x.symm
    simp [e, e']
def stepOk (D4 : List Int) (K : List (List (List Int))) (n : Nat) (c : List Int) (h : Nat) : Bool := decide (nth c h + 1 ≤ nth D4 h) && decide (forthL K n (bump c h) = bump c h)
def nextR (D4 : List Int) (K : List (List (List Int))) (n : Nat) (c : List Int) : Nat → List (List Int)
  | 0 => []
  | k + 1 => (if stepOk D4 K n c k = true then [bump c k] else []) ++ nextR D4 K n c k
def nextV (acc : List (List Int)) : AV := if acc = [] then .nils else .fsl false acc.length (flatC ints acc)
theorem nextV_is (acc : List (List Int)) : IsSl ints (nextV acc) acc := by
  by_cases e : acc = []
  · exact .inl ⟨by rw [nextV, if_pos e], e⟩
  · exact .inr ⟨false, by rw [nextV, if_neg e]⟩
theorem next_loop {V : List AV} {n : Nat} {D4 : List Int} {K : List (List (List Int))} (hV : V.length = 4) (s : IsStory (.fptr (.int .i64 n :: (ints D4 ++ V))) n D4 K) {c : List Int} (hc : IsCut n D4 c) : ∀ (k : Nat) (acc : List (List Int)) (oid : Nat) (m : Mem), k ≤ n → Four acc → acc.length + k ≤ n → OutX m oid acc →
    watch_story_next.L0 (.fptr (.int .i64 n :: (ints D4 ++ V))) (.fptr (ints c)) (outX oid acc) (.int .i64 ((k : Int) - 1)) m [.code watch_story_next.r9, .code .ret] = some (nextV (acc ++ nextR D4 K n c k), Mem.empty) := by
  have hn4 := s.n4
  have hD4 := s.D4
  have hc4 := hc.len
  intro k
  induction k with
  | zero =>
    intro acc oid m h1 h2 h3 h4
    by_cases e : acc = []
    · subst e
      rw [watch_story_next.L0_eq]
      simp [outX, nextR, nextV]
      done
    · obtain ⟨a, b⟩ := h4 e
      have hl := flatC_len (f := ints) (k := 4) (l := acc) (fun x hx => by simp [h2 x hx])
      have htk : (flatC ints acc).take (acc.length * 4) = flatC ints acc := List.take_of_length_le (by omega)
      have hdp : ∀ d, mapO (deep m.h (d + 1)) (flatC ints acc) = some (flatC ints acc) := fun d => flatC_deep _ _ (fun a => by simp) _
      rw [watch_story_next.L0_eq]
      simp [outX, e, nextR, nextV, a, hl, htk, hdp]
      done
  | succ k ih =>
    intro acc oid m h1 h2 h3 h4
    have hk4 : k < 4 := by omega
    have e0 : ((k + 1 : Nat) : Int) - 1 = (k : Int) := by omega
    have hw : IntKind.wrap .i64 ((k : Int) - 1) = (k : Int) - 1 := wrap_id (by omega) (by omega)
    have hlo := hc.lo k
    have hhi := hc.hi k
    have hd6 := s.D6 k
    have hw2 : IntKind.wrap .i64 (nth c k + 1) = nth c k + 1 := wrap_id (by omega) (by omega)
    have hld : (ints D4 ++ V)[k]? = some (.int .i64 (nth D4 k)) := by rw [List.getElem?_append_left (by simp; omega), ints_nth (by omega)]
    have htc : (ints c).take 4 = ints c := List.take_of_length_le (by simp [hc4])
    have hd0 : (ints c).drop 4 = [] := List.drop_of_length_le (by simp [hc4])
    simp at htc hd0
    have hbl : (bump c k).length = 4 := by rw [bump_len, hc4]
    have hset : c.set k (nth c k + 1) = bump c k := rfl
    have htb : (ints (bump c k)).take 4 = ints (bump c k) := List.take_of_length_le (by simp [hbl])
    simp at htb
    have hgb : nth (bump c k) k = nth c k + 1 := by rw [nth_bump (by omega), if_pos rfl]
    have hgk : (ints (bump c k))[k]? = some (.int .i64 (nth c k + 1)) := by rw [ints_nth (by omega), hgb]
    have hga : (ints c)[k]? = some (.int .i64 (nth c k)) := ints_nth (by omega)
    have hnew : ∀ nx, m.nx ≤ nx → OutX ⟨upd m.h m.nx (some (.cells (ints (bump c k)))), nx + 1⟩ oid acc := fun nx hnx hn => by
      obtain ⟨a, b⟩ := h4 hn
      exact ⟨by simp [show (oid == m.nx) = false from beq_eq_false_iff_ne.2 (by omega), a], by show oid < nx + 1; omega⟩
    rw [e0, watch_story_next.L0_eq, nextR]
    by_cases q : nth c k + 1 ≤ nth D4 k
    · have hcut : IsCut n D4 (bump c k) := ⟨hbl, fun g => by rw [nth_bump (by omega)]; split; omega; exact hc.lo g, fun g => by
        rw [nth_bump (by omega)]; split
        · rename_i e; rw [e]; exact q
        · exact hc.hi g⟩
      have hcon := consistent_spec s hcut
      by_cases q2 : forthL K n (bump c k) = bump c k
      · rw [if_pos (by simp [stepOk, q, q2])]
        rw [decide_eq_true q2] at hcon
        have hacl := flatC_len (f := ints) (k := 4) (l := acc) (fun a ha => by simp [h2 a ha])
        have h2' : Four (acc ++ [bump c k]) := fun x hx => by
          rcases List.mem_append.1 hx with h | h
          · exact h2 x h
          · simp at h; rw [h]; exact hbl
        by_cases hn : acc = []
        · subst hn
          have hst := ih [bump c k] (m.nx + 1 + 15) ⟨upd (upd m.h m.nx (some (.cells (ints (bump c k))))) (m.nx + 1 + 15) (some (.cells (ints (bump c k)))), m.nx + 1 + 15 + 1⟩ (by omega) h2' (by simp; omega) (fun _ => ⟨by simp [flatC_one], by show m.nx + 1 + 15 < m.nx + 1 + 15 + 1; omega⟩)
          have e3 : outX (m.nx + 1 + 15) [bump c k] = .sl (m.nx + 1 + 15) 4 0 1 4 := by simp [outX]
          rw [e3] at hst
          rw [List.nil_append, ← hst]
          simp [hc4, htc, hd0, hk4, hga, hw2, hset, hgk, hgb, htb, hbl, hld, q, hcon, hw, outX]
          done
        · obtain ⟨a, b⟩ := h4 hn
          have e1 : (oid == m.nx) = false := beq_eq_false_iff_ne.2 (by omega)
          have e2 : (m.nx == oid) = false := beq_eq_false_iff_ne.2 (by omega)
          have hst := ih (acc ++ [bump c k]) oid ⟨upd (upd m.h m.nx (some (.cells (ints (bump c k))))) oid (some (.cells (flatC ints acc ++ ints (bump c k)))), m.nx + 1 + 15⟩ (by omega) h2' (by simp; omega) (fun _ => ⟨by simp [flatC_append, flatC_one], by show oid < m.nx + 1 + 15; omega⟩)
          have e3 : outX oid (acc ++ [bump c k]) = .sl oid 4 0 (acc.length + 1) (acc.length * 4 + 4) := by simp [outX, Nat.add_mul]
          have e4 : outX oid acc = .sl oid 4 0 acc.length (acc.length * 4) := by simp [outX, hn]
          rw [e3] at hst
          rw [← List.append_assoc, ← hst, e4]
          simp [hc4, htc, hd0, hk4, hga, hw2, hset, hgk, hgb, htb, hbl, hld, q, hcon, hw, e1, e2, a, hacl, show acc.length + 1 ≤ 4611686018427387904 by omega, show acc.length ≤ 4611686018427387903 by omega, show (acc.length + 1) * 32 ≤ 70368744177664 by omega]
          done
      · rw [if_neg (by simp [stepOk, q2])]
        rw [decide_eq_false q2] at hcon
        have hst := ih acc oid ⟨upd m.h m.nx (some (.cells (ints (bump c k)))), m.nx + 1 + 15⟩ (by omega) h2 (by omega) (hnew (m.nx + 15) (by omega))
        rw [List.nil_append, ← hst]
        simp [hc4, htc, hd0, hk4, hga, hw2, hset, hgk, hgb, htb, hbl, hld, q, hcon, hw]
        done
    · rw [if_neg (by simp [stepOk, q])]
      have hst := ih acc oid ⟨upd m.h m.nx (some (.cells (ints (bump c k)))), m.nx + 1 + 15⟩ (by omega) h2 (by omega) (hnew (m.nx + 15) (by omega))
      rw [List.nil_append, ← hst]
      simp [hc4, htc, hd0, hk4, hga, hw2, hset, hgk, hgb, htb, hbl, hld, q, hw]
      done
theorem next_spec {sv : AV} {n : Nat} {D4 : List Int} {K : List (List (List Int))} (s : IsStory sv n D4 K) {c : List Int} (hc : IsCut n D4 c) (m : Mem) : denC prog ann 73 [sv, .agg (ints c)] m = some (nextV (nextR D4 K n c n), m) := by
  have hn4 := s.n4
  obtain ⟨V, e, hV, hS⟩ := s.V
  subst e
  have hw : IntKind.wrap .i64 ((n : Int) - 1) = (n : Int) - 1 := wrap_id (by omega) (by omega)
  have lp := next_loop hV s hc n [] 0 Mem.empty (Nat.le_refl _) (fun c hc => by cases hc) (by simp) (fun h => absurd rfl h)
  rw [show outX 0 [] = .nils by simp [outX], List.nil_append] at lp
  rw [watch_story_next.call_eq _ _ _ (by simp)]
  simp [hw, lp]
end Go.Proofs.Ytdkmepjedjclkaa

/-
  Definitely (2): courses that avoid a set, as a plain law. Conditions: none.
-/
namespace Go.Proofs.Ytdkmepjedjclkaa
open Go.AM
open Go.Proofs.Try (prog)
set_option linter.all false
set_option maxRecDepth 100000
inductive Can (D : List Int) (N : List Note) (S : List (List Int)) : List Int → Prop where
  | last (h : D ∈ cutsL D N) (h2 : D ∉ S) : Can D N S D
  | step {c : List Int} {h : Nat} (hc : c ∈ cutsL D N) (h2 : c ∉ S) (hh : h < D.length) (r : Can D N S (bump c h)) : Can D N S c
inductive Path (D : List Int) (N : List Note) (S : List (List Int)) : List Int → List (List Int) → Prop where
  | last : Path D N S D [D]
  | step {c : List Int} {h : Nat} {l : List (List Int)} (hc : c ≠ D) (hh : h < D.length) (r : Can D N S (bump c h)) (ng : ∀ g, h < g → g < D.length → ¬ Can D N S (bump c g)) (p : Path D N S (bump c h) l) : Path D N S c (c :: l)
section
variable {D : List Int} {N : List Note} {S : List (List Int)}
theorem Can.mem {c : List Int} (h : Can D N S c) : c ∈ cutsL D N := by cases h <;> assumption
theorem Can.out {c : List Int} (h : Can D N S c) : c ∉ S := by cases h <;> assumption
theorem Can.on {c : List Int} (h : Can D N S c) (hc : c ≠ D) : ∃ h, h < D.length ∧ Can D N S (bump c h) := by
  cases h with
  | last _ _ => exact absurd rfl hc
  | @step _ h _ _ hh r => exact ⟨h, hh, r⟩
theorem Path.uniq {c : List Int} {l l' : List (List Int)} (p : Path D N S c l) (q : Path D N S c l') : l = l' := by
  induction p generalizing l' with
  | last => cases q with
    | last => rfl
    | step hc => exact absurd rfl hc
  | @step c h l hc hh r ng p ih =>
    cases q with
    | last => exact absurd rfl hc
    | @step _ h' l' _ hh' r' ng' p' =>
      rcases Nat.lt_trichotomy h h' with e | e | e
      · exact absurd r' (ng h' e hh')
      · subst e; rw [ih p']
      · exact absurd r (ng' h e hh)
theorem Path.ne {c : List Int} {l : List (List Int)} (p : Path D N S c l) : l ≠ [] := by cases p <;> simp
theorem Path.row {c : List Int} {l : List (List Int)} (p : Path D N S c l) (hc : c.length = D.length) : ∀ x ∈ l, x.length = D.length := by
  induction p with
  | last => intro x hx; simp at hx; rw [hx]
  | step _ _ _ _ _ ih =>
    intro x hx
    rcases List.mem_cons.1 hx with rfl | hx
    · exact hc
    · exact ih (by rw [bump_len]; exact hc) x hx
theorem sum_bump {c : List Int} {h : Nat} (hh : h < c.length) : (bump c h).sum = c.sum + 1 := by
  have := sum_set c h (nth c h + 1) hh
  rw [bump]; omega
theorem Can.sum {c : List Int} (h : Can D N S c) (L : Lims D N) : c.sum ≤ D.sum := by
  induction h with
  | last => exact Int.le_refl _
  | @step c h hc _ hh _ ih =>
    have := sum_bump (c := c) (h := h) (by rw [((mem_cuts L).1 hc).1.len]; exact hh)
    omega
theorem bump_take {c : List Int} {n h : Nat} (hh : h < n) (hl : n ≤ c.length) : (bump c h).take n = bump (c.take n) h := by
  refine ext_nth (by simp [bump]) fun g => ?_
  rw [nth_bump (by simp; omega), nth_take hh]
  rcases Nat.lt_or_ge g n with hg | hg
  · rw [nth_take hg, nth_bump (by omega), nth_take hg]
  · have : ¬ g = h := by omega
    rw [take_out hg, if_neg this, take_out hg]
theorem cut_of_is {c : List Int} (h4 : D.length ≤ 4) (hc : IsCut D.length (pad D) c) : CutL D (c.take D.length) := by
  have hl := hc.len
  refine ⟨by simp; omega, fun h => ?_, fun h => ?_⟩
  · rcases Nat.lt_or_ge h D.length with hh | hh
    · rw [nth_take hh]; exact hc.lo h
    · rw [take_out hh]; exact Int.le_refl _
  · rcases Nat.lt_or_ge h D.length with hh | hh
    · rw [nth_take hh]; have := hc.hi h; rw [nth_pad] at this; exact this
    · rw [take_out hh, nth_out hh]; exact Int.le_refl _
theorem bump_is {c : List Int} (hc : IsCut D.length (pad D) c) {h : Nat} (hh : h < 4) (q : nth c h + 1 ≤ nth (pad D) h) : IsCut D.length (pad D) (bump c h) := by
  have hl := hc.len
  refine ⟨by rw [bump_len, hl], fun g => ?_, fun g => ?_⟩
  · rw [nth_bump (by omega)]; split
    · have := hc.lo h; omega
    · exact hc.lo g
  · rw [nth_bump (by omega)]; split
    · rename_i e; rw [e]; exact q
    · exact hc.hi g
theorem stepOk_iff {K : List (List (List Int))} (k : Clocks D N K) {c : List Int} (hc : IsCut D.length (pad D) c) {h : Nat} (hh : h < D.length) : stepOk (pad D) K D.length c h = true ↔ bump (c.take D.length) h ∈ cutsL D N := by
  have h4 := k.P.L.n4
  have hl := hc.len
  simp only [stepOk, Bool.and_eq_true, decide_eq_true_eq]
  constructor
  · rintro ⟨q1, q2⟩
    have hb := bump_is hc (by omega) q1
    rw [← bump_take hh (by omega)]
    exact (mem_cuts k.P.L).2 ⟨cut_of_is h4 hb, (in_iff k hb).1 q2⟩
  · intro hm
    obtain ⟨a, b⟩ := (mem_cuts k.P.L).1 hm
    have q1 : nth c h + 1 ≤ nth (pad D) h := by
      have := a.hi h
      rw [nth_bump (by simp; omega), if_pos rfl, nth_take hh] at this
      rw [nth_pad]; exact this
    have hb := bump_is hc (by omega) q1
    refine ⟨q1, (in_iff k hb).2 ?_⟩
    rw [bump_take hh (by omega)]; exact b
end
end Go.Proofs.Ytdkmepjedjclkaa

/-
  Definitely (3): the search for a course. Conditions: none.
-/
namespace Go.Proofs.Ytdkmepjedjclkaa
open Go.AM
open Go.Proofs.Try (prog)
set_option linter.all false
set_option maxRecDepth 100000
set_option maxHeartbeats 4000000
def crsV (E : Ents) (id cid : Nat) (sv : AV) : AV := .fn 77 [] [.fptr [mapV E], .sptr [.map id], .fptr [sv], .ptr cid 0 1]
structure CInv (D : List Int) (N : List Note) (S : List (List Int)) (m : Mem) (E : Ents) (id cid : Nat) (sv : AV) : Prop where
  mp : ∃ g L, m.h id = some (.map g (keysL L) (valsL L)) ∧ Keys4 L ∧ TrueE L ∧ ∀ c, IsCut D.length (pad D) c → inE L c = true → ¬ Can D N S (c.take D.length)
  fn : m.h cid = some (.cells [crsV E id cid sv])
  ne : id ≠ cid
  l1 : id < m.nx
  l2 : cid < m.nx
theorem CInv.more {D : List Int} {N : List Note} {S : List (List Int)} {m : Mem} {E : Ents} {id cid : Nat} {sv : AV} (c : CInv D N S m E id cid sv) {m' : Mem} (h : ∀ i, i < m.nx → m'.h i = m.h i) (hn : m.nx ≤ m'.nx) : CInv D N S m' E id cid sv := by
  obtain ⟨g, L, a, b⟩ := c.mp
  exact ⟨⟨g, L, by rw [h _ c.l1]; exact a, b⟩, by rw [h _ c.l2]; exact c.fn, c.ne, Nat.lt_of_lt_of_le c.l1 hn, Nat.lt_of_lt_of_le c.l2 hn⟩
section
variable {sv : AV} {D : List Int} {N : List Note} {S : List (List Int)} {K : List (List (List Int))} {E : Ents} {id cid : Nat}
end
end Go.Proofs.Ytdkmepjedjclkaa

/-
  Definitely (4): WHAT IT HANDS BACK. Conditions: none.
-/
namespace Go.Proofs.Ytdkmepjedjclkaa
open Go.AM
open Go.Proofs.Try (prog)
set_option linter.all false
set_option maxRecDepth 100000
set_option maxHeartbeats 4000000
section
variable {sv : AV} {D : List Int} {N : List Note} {S : List (List Int)} {K : List (List (List Int))} {E : Ents} {id cid : Nat}
end
inductive DefRes (D : List Int) (N : List Note) (L : List (List Int)) : AV → Int → Prop where
  | bad (h : ¬ ValidS D N) : DefRes D N L .nils 1
  | long (v : ValidS D N) (h : 2500 < L.length) : DefRes D N L .nils 3
  | form (v : ValidS D N) (h : L.length ≤ 2500) (h2 : L.all (cutB D) = false) : DefRes D N L .nils 2
  | none (v : ValidS D N) (h : L.length ≤ 2500) (h2 : L.all (cutB D) = true) (e : ¬ Can D N L (List.replicate D.length 0)) : DefRes D N L .nils 5
  | ok {ex : Bool} {l : List (List Int)} (v : ValidS D N) (h : L.length ≤ 2500) (h2 : L.all (cutB D) = true) (e : Can D N L (List.replicate D.length 0)) (p : Path D N L (List.replicate D.length 0) l) : DefRes D N L (.fsl ex l.length (flatC rowC l)) 0
end Go.Proofs.Ytdkmepjedjclkaa

/-
  THE REFERENCE's SMALL FUNCTIONS ON CUTS: has, name, more, SameLists. Conditions: none.
-/
namespace Go.Proofs.Ytdkmepjedjclkaa
open Go.AM
open Go.Proofs.Try (prog)
set_option linter.all false
set_option maxRecDepth 100000
set_option maxHeartbeats 4000000
def u8w (v : Int) : Int := IntKind.wrap .u8 v
def nameS (l : List Int) : List UInt8 := l.map fun v => UInt8.ofNat (u8w v).toNat
theorem u8w_id {v : Int} (h0 : 0 ≤ v) (h1 : v ≤ 255) : u8w v = v := by
  simp only [u8w, IntKind.wrap, IntKind.min, IntKind.max, IntKind.signed, IntKind.bits]
  simp
  omega
theorem nameS_inj : ∀ {a b : List Int}, a.length = b.length → (∀ i, 0 ≤ nth a i ∧ nth a i ≤ 255) → (∀ i, 0 ≤ nth b i ∧ nth b i ≤ 255) → nameS a = nameS b → a = b
  | [], [], _, _, _, _ => rfl
  | x :: a, y :: b, hl, ha, hb, h => by
    simp only [nameS, List.map_cons, List.cons.injEq] at h
    obtain ⟨h1, h2⟩ := h
    have hx : 0 ≤ x ∧ x ≤ 255 := ha 0
    have hy : 0 ≤ y ∧ y ≤ 255 := hb 0
    rw [u8w_id hx.1 hx.2, u8w_id hy.1 hy.2] at h1
    have e := congrArg UInt8.toNat h1
    simp only [UInt8.toNat_ofNat'] at e
    have : x = y := by omega
    rw [this, nameS_inj (a := a) (b := b) (by simpa using hl) (fun i => ha (i + 1)) (fun i => hb (i + 1)) h2]
  | [], _ :: _, hl, _, _, _ => by simp at hl
  | _ :: _, [], hl, _, _, _ => by simp at hl
end Go.Proofs.Ytdkmepjedjclkaa

/-
  BODIES OF FUNCTIONS OF THE PROGRAM AS SMALL OPERATIONS (written by gen.py; checked by the kernel against the program). Conditions: none.
-/
namespace Go.Proofs.Ytdkmepjedjclkaa
open Go.AM
open Go.Proofs.Try (prog)
set_option maxRecDepth 100000
set_option linter.all false
end Go.Proofs.Ytdkmepjedjclkaa

/-
  WatchLattice RETURNS TRUE. Conditions: none.
-/
namespace Go.Proofs.Ytdkmepjedjclkaa
open Go.AM
open Go.Proofs.Try (prog)
set_option linter.all false
set_option maxRecDepth 100000
set_option maxHeartbeats 4000000
end Go.Proofs.Ytdkmepjedjclkaa

/-
  THE PLAIN LAW (6): the cuts stand in order; a consistent cut is the join of clocks. Conditions: none.
-/
namespace Go.Proofs.Ytdkmepjedjclkaa
open Go.AM
open Go.Proofs.Try (prog)
set_option linter.all false
set_option maxRecDepth 10000
theorem lexLt_irr : ∀ a : List Int, lexLt a a = false
  | [] => rfl
  | a :: x => by simp [lexLt, lexLt_irr x]
theorem tuples_sorted : ∀ D : List Int, (tuplesL D).Pairwise (fun a b => lexLt a b = true)
  | [] => by simp [tuplesL]
  | d :: D => by
    simp only [tuplesL]
    rw [List.pairwise_flatMap]
    refine ⟨fun i _ => ?_, ?_⟩
    · rw [List.pairwise_map]
      exact (tuples_sorted D).imp fun h => by simpa [lexLt] using h
    · refine List.pairwise_lt_range.imp fun {i j} hij a ha b hb => ?_
      simp only [List.mem_map] at ha hb
      obtain ⟨a', _, rfl⟩ := ha
      obtain ⟨b', _, rfl⟩ := hb
      have h1 : ¬ (i : Int) = j := by omega
      simp only [lexLt, h1, if_false, decide_eq_true_eq]
      omega
theorem cuts_sorted (D : List Int) (N : List Note) : (cutsL D N).Pairwise (fun a b => lexLt a b = true) := (tuples_sorted D).filter _
section
variable {D : List Int} {N : List Note} {K : List (List (List Int))}
end
end Go.Proofs.Ytdkmepjedjclkaa

/-
  THE PLAIN LAW (7): the cuts at which all hands say yes are closed under meet and join; the least of them comes first. Conditions: none.
-/
namespace Go.Proofs.Ytdkmepjedjclkaa
open Go.AM
open Go.Proofs.Try (prog)
set_option linter.all false
set_option maxRecDepth 100000
section
variable {D : List Int} {N : List Note} {F : List (List Bool)}
end
end Go.Proofs.Ytdkmepjedjclkaa

/-
  THE REFERENCE's Definitely (1): from which cuts the end is reached. Conditions: none.
-/
namespace Go.Proofs.Ytdkmepjedjclkaa
open Go.AM
open Go.Proofs.Try (prog)
set_option linter.all false
set_option maxRecDepth 100000
set_option maxHeartbeats 4000000
abbrev EntS := List (List UInt8 × AV)
def lkS : EntS → List UInt8 → Option AV
  | [], _ => none
  | e :: L, c => if e.1 = c then some e.2 else lkS L c
def setS : EntS → List UInt8 → AV → EntS
  | [], c, v => [(c, v)]
  | e :: L, c, v => if e.1 = c then (c, v) :: L else e :: setS L c v
theorem lk_setS : ∀ (L : EntS) (c : List UInt8) (v : AV) (d : List UInt8), lkS (setS L c v) d = if c = d then some v else lkS L d
  | [], c, v, d => by simp [setS, lkS]
  | e :: L, c, v, d => by
    rw [setS]
    by_cases q : e.1 = c
    · rw [if_pos q, lkS, lkS]
      by_cases q2 : c = d
      · rw [if_pos q2, if_pos q2]
      · rw [if_neg q2, if_neg q2, if_neg (by rw [q]; exact q2)]
    · rw [if_neg q, lkS, lkS, lk_setS L c v d]
      by_cases q2 : e.1 = d
      · rw [if_pos q2, if_pos q2, if_neg (fun x => q (q2.trans x.symm))]
      · rw [if_neg q2, if_neg q2]
def orZ (z : AV) : Option AV → AV
  | some v => v
  | none => z
open Classical in
noncomputable def canB (D : List Int) (N : List Note) (S : List (List Int)) (x : List Int) : Bool := decide (Can D N S x)
section
variable {D : List Int} {N : List Note} {S : List (List Int)}
theorem canB_no {x : List Int} (h : ¬ Can D N S x) : canB D N S x = false := by simp [canB, h]
theorem lex_bump : ∀ {x : List Int} {g : Nat}, g < x.length → lexLt x (bump x g) = true
  | a :: x, 0, _ => by
    have h1 : ¬ a = a + 1 := by omega
    have h2 : a < a + 1 := by omega
    simp [bump, nth, lexLt, h1, h2]
  | a :: x, g + 1, h => by
    have ih := lex_bump (x := x) (g := g) (by simpa using h)
    have e : bump (a :: x) (g + 1) = a :: bump x g := rfl
    rw [e]; simpa [lexLt] using ih
theorem bump_later {i : Nat} (hi : i < (cutsL D N).length) {g : Nat} (hg : g < D.length) (hb : bump (cutsL D N)[i] g ∈ cutsL D N) : bump (cutsL D N)[i] g ∈ (cutsL D N).drop (i + 1) := by
  have hs := cuts_sorted D N
  have hrow := cutsL_row (List.getElem_mem hi)
  have hlt := lex_bump (x := (cutsL D N)[i]) (g := g) (by omega)
  obtain ⟨j, hj, hjb⟩ := List.getElem_of_mem hb
  have hij : i < j := by
    rcases Nat.lt_trichotomy i j with q | q | q
    · exact q
    · subst q; rw [← hjb, lexLt_irr] at hlt; cases hlt
    · have := List.pairwise_iff_getElem.1 hs j i hj hi q
      rw [hjb] at this
      have hh := lexLt_same (cutsL D N)[i] (bump (cutsL D N)[i] g)
      exact absurd this (by
        have key : ∀ a b : List Int, lexLt a b = true → lexLt b a = false := by
          intro a
          induction a with
          | nil => intro b h; cases b <;> simp [lexLt] at h ⊢
          | cons x a ih =>
            intro b h
            cases b with
            | nil => simp [lexLt] at h
            | cons y b =>
              simp only [lexLt] at h ⊢
              by_cases e : x = y
              · subst e; simp at h ⊢; exact ih b h
              · have e' : ¬ y = x := fun z => e z.symm
                simp [e, e'] at h ⊢; omega
        rw [key _ _ hlt]; simp)
  rw [← hjb, List.mem_drop_iff_getElem]
  exact ⟨j - (i + 1), by omega, by congr 1; omega⟩
structure Named (D x : List Int) : Prop where
  len : x.length = D.length
  b : ∀ g, 0 ≤ nth x g ∧ nth x g ≤ 255
theorem cut_named (L : Lims D N) {x : List Int} (h : x ∈ cutsL D N) : Named D x := by
  obtain ⟨c, _⟩ := (mem_cuts L).1 h
  exact ⟨c.len, fun g => ⟨c.lo g, by have := c.hi g; have := L.hi g; omega⟩⟩
theorem bump_named (L : Lims D N) {x : List Int} (h : x ∈ cutsL D N) {g : Nat} (hg : g < D.length) : Named D (bump x g) := by
  obtain ⟨c, _⟩ := (mem_cuts L).1 h
  have cl := c.len
  refine ⟨by rw [bump_len, cl], fun q => ?_⟩
  have a := c.lo q
  have b := c.hi q
  have d := L.hi q
  rw [nth_bump (by omega)]
  split
  · rename_i e; subst e; omega
  · omega
def CanMap (D : List Int) (N : List Note) (S : List (List Int)) (L : EntS) (i : Nat) : Prop :=
  ∀ x, Named D x → ∀ z, orZ z (lkS L (nameS x)) = open Classical in if x ∈ (cutsL D N).drop i ∧ x ∉ S then .bool (canB D N S x) else z
theorem CanMap.bump {L : EntS} {i : Nat} (hL : CanMap D N S L (i + 1)) (Lm : Lims D N) (hi : i < (cutsL D N).length) {g : Nat} (hg : g < D.length) : orZ (.bool false) (lkS L (nameS (bump (cutsL D N)[i] g))) = .bool (canB D N S (bump (cutsL D N)[i] g)) := by
  rw [hL _ (bump_named Lm (List.getElem_mem hi) hg)]
  split
  · rfl
  · rename_i h
    rw [canB_no]
    intro hc
    exact h ⟨bump_later hi hg hc.mem, hc.out⟩
theorem CanMap.skip {L : EntS} {i : Nat} (hL : CanMap D N S L (i + 1)) (hi : i < (cutsL D N).length) (hS : (cutsL D N)[i] ∈ S) : CanMap D N S L i := by
  intro x hx z
  rw [hL x hx, List.drop_eq_getElem_cons hi]
  by_cases q : x ∈ (cutsL D N).drop (i + 1) ∧ x ∉ S
  · rw [if_pos q, if_pos ⟨List.mem_cons_of_mem _ q.1, q.2⟩]
  · rw [if_neg q, if_neg]
    rintro ⟨h1, h2⟩
    rcases List.mem_cons.1 h1 with e | e
    · rw [e] at h2; exact h2 hS
    · exact q ⟨e, h2⟩
theorem CanMap.add {L : EntS} {i : Nat} (hL : CanMap D N S L (i + 1)) (Lm : Lims D N) (hi : i < (cutsL D N).length) (hS : (cutsL D N)[i] ∉ S) : CanMap D N S (setS L (nameS (cutsL D N)[i]) (.bool (canB D N S (cutsL D N)[i]))) i := by
  intro x hx z
  have hn := cut_named Lm (List.getElem_mem hi)
  rw [lk_setS, List.drop_eq_getElem_cons hi]
  by_cases e : (cutsL D N)[i] = x
  · rw [if_pos (by rw [e]), if_pos ⟨by rw [e]; simp, by rw [← e]; exact hS⟩, e]; rfl
  · rw [if_neg (fun h => e (nameS_inj (by rw [hn.len, hx.len]) hn.b hx.b h)), hL x hx]
    by_cases q : x ∈ (cutsL D N).drop (i + 1) ∧ x ∉ S
    · rw [if_pos q, if_pos ⟨List.mem_cons_of_mem _ q.1, q.2⟩]
    · rw [if_neg q, if_neg]
      rintro ⟨h1, h2⟩
      rcases List.mem_cons.1 h1 with e2 | e2
      · exact e e2.symm
      · exact q ⟨e2, h2⟩
end
end Go.Proofs.Ytdkmepjedjclkaa

/-
  THE REFERENCE's Definitely (2): its loops. Conditions: none.
-/
namespace Go.Proofs.Ytdkmepjedjclkaa
open Go.AM
open Go.Proofs.Try (prog)
set_option linter.all false
set_option maxRecDepth 100000
set_option maxHeartbeats 4000000
section
variable {D : List Int} {N : List Note} {S : List (List Int)} {vD vN vS : AV} {cs : List AV}
end
end Go.Proofs.Ytdkmepjedjclkaa

/-
  FLAGS: THE REFERENCE's Yes; flags as an argument. Conditions: none.
-/
namespace Go.Proofs.Ytdkmepjedjclkaa
open Go.AM
open Go.Proofs.Try (prog)
set_option linter.all false
set_option maxRecDepth 100000
set_option maxHeartbeats 4000000
end Go.Proofs.Ytdkmepjedjclkaa

/-
  BODIES OF FUNCTIONS OF THE PROGRAM AS SMALL OPERATIONS (written by gen.py; checked by the kernel against the program). Conditions: none.
-/
namespace Go.Proofs.Ytdkmepjedjclkaa
open Go.AM
open Go.Proofs.Try (prog)
set_option maxRecDepth 100000
set_option linter.all false
end Go.Proofs.Ytdkmepjedjclkaa

/-
  WatchFlags RETURNS TRUE. Conditions: none.
-/
namespace Go.Proofs.Ytdkmepjedjclkaa
open Go.AM
open Go.Proofs.Try (prog)
set_option linter.all false
set_option maxRecDepth 100000
set_option maxHeartbeats 4000000
end Go.Proofs.Ytdkmepjedjclkaa

/-
  THE REFERENCE's Definitely (3): WHAT IT HANDS BACK; its Possibly; sets as arguments. Conditions: none.
-/
namespace Go.Proofs.Ytdkmepjedjclkaa
open Go.AM
open Go.Proofs.Try (prog)
set_option linter.all false
set_option maxRecDepth 100000
set_option maxHeartbeats 4000000
section
variable {D : List Int} {N : List Note} {S : List (List Int)} {vD vN vS : AV} {cs : List AV}
theorem CanMap.at {L : EntS} (hL : CanMap D N S L 0) {x : List Int} (hx : Named D x) : orZ (.bool false) (lkS L (nameS x)) = .bool (canB D N S x) := by
  rw [hL x hx]
  split
  · rfl
  · rename_i h
    rw [canB_no]
    intro hc
    exact h ⟨by simpa using hc.mem, hc.out⟩
inductive DefR (D : List Int) (N : List Note) (S : List (List Int)) : AV → Prop where
  | no (h : ¬ Can D N S (List.replicate D.length 0)) : DefR D N S .nils
  | yes {l : List (List Int)} (h : Can D N S (List.replicate D.length 0)) (p : Path D N S (List.replicate D.length 0) l) : DefR D N S (.fsl false l.length (flatC rowC l))
end
end Go.Proofs.Ytdkmepjedjclkaa

/-
  THE REFERENCE's Possibly; sets as arguments. Conditions: none.
-/
namespace Go.Proofs.Ytdkmepjedjclkaa
open Go.AM
open Go.Proofs.Try (prog)
set_option linter.all false
set_option maxRecDepth 100000
set_option maxHeartbeats 4000000
section
variable {D : List Int} {N : List Note} {S : List (List Int)} {vD vN vS : AV} {cs : List AV}
end
end Go.Proofs.Ytdkmepjedjclkaa

/-
  WatchGarg RETURNS TRUE. Conditions: none.
-/
namespace Go.Proofs.Ytdkmepjedjclkaa
open Go.AM
open Go.Proofs.Try (prog)
set_option linter.all false
set_option maxRecDepth 100000
set_option maxHeartbeats 4000000
end Go.Proofs.Ytdkmepjedjclkaa

/-
  BODIES OF FUNCTIONS OF THE PROGRAM AS SMALL OPERATIONS (written by gen.py; checked by the kernel against the program). Conditions: none.
-/
namespace Go.Proofs.Ytdkmepjedjclkaa
open Go.AM
open Go.Proofs.Try (prog)
set_option maxRecDepth 100000
set_option linter.all false
end Go.Proofs.Ytdkmepjedjclkaa

/-
  WatchSets RETURNS TRUE. Conditions: none.
-/
namespace Go.Proofs.Ytdkmepjedjclkaa
open Go.AM
open Go.Proofs.Try (prog)
set_option linter.all false
set_option maxRecDepth 100000
set_option maxHeartbeats 4000000
end Go.Proofs.Ytdkmepjedjclkaa

/-
  BODIES OF FUNCTIONS OF THE PROGRAM AS SMALL OPERATIONS (written by gen.py; checked by the kernel against the program). Conditions: none.
-/
namespace Go.Proofs.Ytdkmepjedjclkaa
open Go.AM
open Go.Proofs.Try (prog)
set_option maxRecDepth 100000
set_option linter.all false
end Go.Proofs.Ytdkmepjedjclkaa

/-
  COURSES: THE LAW's TEST OF ONE; that there is one. Conditions: none.
-/
namespace Go.Proofs.Ytdkmepjedjclkaa
open Go.AM
open Go.Proofs.Try (prog)
set_option linter.all false
set_option maxRecDepth 100000
set_option maxHeartbeats 4000000
section
variable {D : List Int} {N : List Note} {S : List (List Int)}
structure Way (D : List Int) (N : List Note) (S : List (List Int)) (c : List Int) (l : List (List Int)) : Prop where
  first : gth l 0 = c
  pos : 0 < l.length
  all : ∀ i, i < l.length → Can D N S (gth l i)
  step : ∀ i, i + 1 < l.length → ∃ h, h < D.length ∧ gth l (i + 1) = bump (gth l i) h
  last : gth l (l.length - 1) = D
theorem reach_cut (P : Pre D N) {x : List Int} (r : Reach D N x) : x ∈ cutsL D N := by
  induction r with
  | zero => exact zeros_cut P.L P
  | @step done h r s ih =>
    obtain ⟨c, q⟩ := (mem_cuts P.L).1 ih
    obtain ⟨s1, s2, s3⟩ := s
    have cl := c.len
    have e : done.set h (nth done h + 1) = bump done h := rfl
    rw [e]
    refine (mem_cuts P.L).2 ⟨⟨by rw [bump_len, cl], fun g => ?_, fun g => ?_⟩, ?_⟩
    · rw [nth_bump (by omega)]; have := c.lo g; have := c.lo h; split <;> omega
    · rw [nth_bump (by omega)]; split
      · rename_i e; rw [e]; omega
      · exact c.hi g
    · rw [conR_iff] at q ⊢
      intro y hy hr
      obtain ⟨f0, f1, t0, t1, ne, s0, s1', r0, r1⟩ := P.notes y hy
      have key : y.s ≤ nth done y.f.toNat := by
        by_cases q1 : y.r ≤ nth done y.t.toNat
        · exact q y hy q1
        · rw [nth_bump (by omega)] at hr
          split at hr
          · rename_i e1
            simp only [readyL, List.all_eq_true] at s3
            have h3 := s3 y hy
            have e2 : y.t = (h : Int) := by omega
            have e3 : y.r = nth done h + 1 := by rw [e1] at q1; omega
            simp [readyOk, e2, e3] at h3
            exact h3
          · omega
      rw [nth_bump (by omega)]
      split
      · rename_i e1; rw [← e1]; omega
      · exact key
variable {vD vN v : AV} {cs : List AV} {l : List (List Int)}
end
end Go.Proofs.Ytdkmepjedjclkaa

/-
  COURSES AS WORDS: each letter is the hand whose deed is done; how many words lead to a cut. Conditions: none.
-/
namespace Go.Proofs.Ytdkmepjedjclkaa
open Go.AM
open Go.Proofs.Try (prog)
set_option linter.all false
set_option maxRecDepth 100000
set_option maxHeartbeats 1000000
def drop1 (c : List Int) (h : Nat) : List Int := c.set h (nth c h - 1)
theorem drop1_len (c : List Int) (h : Nat) : (drop1 c h).length = c.length := by simp [drop1]
theorem nth_drop1 {c : List Int} {h : Nat} (hh : h < c.length) (g : Nat) : nth (drop1 c h) g = if g = h then nth c h - 1 else nth c g := by
  rw [drop1, nth_set]
  by_cases e : h = g
  · subst e; simp [hh]
  · have e' : ¬ g = h := fun x => e x.symm
    simp [e, e']
theorem drop_bump {c : List Int} {h : Nat} (hh : h < c.length) : drop1 (bump c h) h = c := by
  refine ext_nth (by rw [drop1_len, bump_len]) fun g => ?_
  rw [nth_drop1 (by rw [bump_len]; exact hh), nth_bump hh, nth_bump hh]
  by_cases e : g = h
  · subst e; simp
  · simp [e]
theorem bump_drop {c : List Int} {h : Nat} (hh : h < c.length) : bump (drop1 c h) h = c := by
  refine ext_nth (by rw [bump_len, drop1_len]) fun g => ?_
  rw [nth_bump (by rw [drop1_len]; exact hh), nth_drop1 hh, nth_drop1 hh]
  by_cases e : g = h
  · subst e; simp
  · simp [e]
def cntW (n : Nat) : List Nat → List Int
  | [] => List.replicate n 0
  | h :: w => bump (cntW n w) h
theorem cntW_len (n : Nat) : ∀ w, (cntW n w).length = n
  | [] => by simp [cntW]
  | h :: w => by rw [cntW, bump_len, cntW_len n w]
theorem cntW_lo (n : Nat) : ∀ w g, 0 ≤ nth (cntW n w) g
  | [], g => by rw [cntW, nth_zero']; exact Int.le_refl _
  | h :: w, g => by
    rw [cntW]
    by_cases hh : h < (cntW n w).length
    · rw [nth_bump hh]
      have := cntW_lo n w h
      have := cntW_lo n w g
      split <;> omega
    · rw [bump, List.set_eq_of_length_le (by omega)]
      exact cntW_lo n w g
section
variable {D : List Int} {N : List Note}
def goodW (D : List Int) (N : List Note) : List Nat → Prop
  | [] => True
  | h :: w => h < D.length ∧ cntW D.length (h :: w) ∈ cutsL D N ∧ goodW D N w
def wordsN (D : List Int) (N : List Note) : Nat → List Int → List (List Nat)
  | 0, c => if c = List.replicate D.length 0 then [[]] else []
  | k + 1, c => if c ∈ cutsL D N then (List.range D.length).flatMap fun h => if 0 < nth c h then (wordsN D N k (drop1 c h)).map (List.cons h) else [] else []
def waysN (D : List Int) (N : List Note) (k : Nat) (c : List Int) : Nat := (wordsN D N k c).length
theorem cuts_row (L : Lims D N) {c : List Int} (h : c ∈ cutsL D N) : c.length = D.length := ((mem_cuts L).1 h).1.len
theorem mem_words (L : Lims D N) : ∀ (k : Nat) (c : List Int) (w : List Nat), w ∈ wordsN D N k c ↔ w.length = k ∧ goodW D N w ∧ cntW D.length w = c
  | 0, c, w => by
    rw [wordsN]
    constructor
    · intro h
      split at h
      · rename_i e
        simp at h
        subst h
        exact ⟨rfl, trivial, e.symm⟩
      · cases h
    · rintro ⟨h1, _, h3⟩
      have : w = [] := by simpa using h1
      subst this
      rw [if_pos (show c = List.replicate D.length 0 from h3.symm)]
      simp
  | k + 1, c, w => by
    rw [wordsN]
    constructor
    · intro h
      split at h
      · rename_i hc
        rw [List.mem_flatMap] at h
        obtain ⟨h0, h1, h2⟩ := h
        rw [List.mem_range] at h1
        split at h2
        · rw [List.mem_map] at h2
          obtain ⟨w', h3, rfl⟩ := h2
          obtain ⟨a1, a2, a3⟩ := (mem_words L k _ _).1 h3
          have hl := cuts_row L hc
          have e : cntW D.length (h0 :: w') = c := by rw [cntW, a3, bump_drop (by omega)]
          exact ⟨by simp [a1], ⟨h1, by rw [e]; exact hc, a2⟩, e⟩
        · cases h2
      · cases h
    · rintro ⟨h1, h2, h3⟩
      cases w with
      | nil => simp at h1
      | cons h0 w' =>
        obtain ⟨b1, b2, b3⟩ := h2
        rw [h3] at b2
        rw [if_pos b2, List.mem_flatMap]
        have hl := cntW_len D.length w'
        have e : drop1 c h0 = cntW D.length w' := by rw [← h3, cntW, drop_bump (by omega)]
        refine ⟨h0, by simpa using b1, ?_⟩
        rw [if_pos (by
          have := cntW_lo D.length w' h0
          rw [← h3, cntW, nth_bump (by omega), if_pos rfl]; omega), List.mem_map]
        exact ⟨w', (mem_words L k _ _).2 ⟨by simpa using h1, b3, e.symm⟩, rfl⟩
theorem nodup_words : ∀ (k : Nat) (c : List Int), (wordsN D N k c).Nodup
  | 0, c => by rw [wordsN]; split <;> simp
  | k + 1, c => by
    rw [wordsN]
    split
    · unfold List.Nodup
      rw [List.pairwise_flatMap]
      constructor
      · intro h _
        split
        · have := nodup_words k (drop1 c h)
          unfold List.Nodup at this
          rw [List.pairwise_map]
          exact this.imp fun h e => h (by simpa using e)
        · exact List.Pairwise.nil
      · refine List.nodup_range.imp ?_
        intro a b hab x hx y hy e
        subst e
        split at hx
        · split at hy
          · rw [List.mem_map] at hx hy
            obtain ⟨_, _, rfl⟩ := hx
            obtain ⟨_, _, h⟩ := hy
            simp at h
            exact hab h.1.symm
          · cases hy
        · cases hx
    · simp
theorem ways_zero (c : List Int) : waysN D N 0 c = if c = List.replicate D.length 0 then 1 else 0 := by
  rw [waysN, wordsN]; split <;> rfl
theorem ways_succ (k : Nat) (c : List Int) : waysN D N (k + 1) c = if c ∈ cutsL D N then (((List.range D.length).filter fun h => decide (0 < nth c h)).map fun h => waysN D N k (drop1 c h)).sum else 0 := by
  rw [waysN, wordsN]
  split
  · rw [List.length_flatMap]
    induction List.range D.length with
    | nil => rfl
    | cons h l ih =>
      rw [List.map_cons, List.sum_cons, ih, List.filter_cons]
      by_cases q : 0 < nth c h
      · simp [q, waysN]
      · simp [q]
  · rfl
theorem sumN_le {α : Type} {f : α → Nat} {b : Nat} : ∀ (l : List α), (∀ x ∈ l, f x ≤ b) → (l.map f).sum ≤ l.length * b
  | [], _ => by simp
  | x :: l, h => by
    have := sumN_le l fun y hy => h y (by simp [hy])
    have := h x (by simp)
    rw [List.map_cons, List.sum_cons, List.length_cons, Nat.succ_mul]
    omega
theorem ways_le (h4 : D.length ≤ 4) : ∀ (k : Nat) (c : List Int), waysN D N k c ≤ 4 ^ k
  | 0, c => by rw [ways_zero]; split <;> simp
  | k + 1, c => by
    rw [ways_succ]
    split
    · refine Nat.le_trans (sumN_le _ fun h _ => ways_le h4 k _) ?_
      have : ((List.range D.length).filter fun h => decide (0 < nth c h)).length ≤ 4 := Nat.le_trans (List.length_filter_le _ _) (by simpa using h4)
      rw [Nat.pow_succ, Nat.mul_comm (4 ^ k)]
      exact Nat.mul_le_mul_right _ this
    · exact Nat.zero_le _
theorem cnt_cut (P : Pre D N) {w : List Nat} (g : goodW D N w) : cntW D.length w ∈ cutsL D N := by
  cases w with
  | nil => exact zeros_cut P.L P
  | cons h w => exact g.2.1
theorem reach_word (P : Pre D N) : ∀ (w : List Nat), goodW D N w → Reach D N (cntW D.length w)
  | [], _ => Reach.zero
  | h :: w, g => by
    have ih := reach_word P w g.2.2
    have hl := cntW_len D.length w
    refine Reach.step ih ⟨g.1, ?_, ?_⟩
    · have := ((mem_cuts P.L).1 g.2.1).1.hi h
      rw [cntW, nth_bump (by have := g.1; omega), if_pos rfl] at this
      omega
    · simp only [readyL, List.all_eq_true]
      intro y hy
      obtain ⟨f0, f1, t0, t1, ne, s0, s1', r0, r1⟩ := P.notes y hy
      have hc := conR_iff.1 ((mem_cuts P.L).1 g.2.1).2 y hy
      have hh := g.1
      rw [cntW, nth_bump (by omega), nth_bump (by omega)] at hc
      simp only [readyOk, Bool.not_eq_true', Bool.and_eq_false_iff, decide_eq_false_iff_not]
      by_cases e : y.t = (h : Int)
      · by_cases e2 : y.r = nth (cntW D.length w) h + 1
        · right; right
          have e3 : y.t.toNat = h := by omega
          rw [if_pos e3, if_neg (by omega)] at hc
          have := hc (by omega)
          omega
        · right; left; exact e2
      · left; exact e
theorem word_reach (P : Pre D N) {x : List Int} (r : Reach D N x) : ∃ w, goodW D N w ∧ cntW D.length w = x := by
  induction r with
  | zero => exact ⟨[], trivial, rfl⟩
  | @step done h r s ih =>
    obtain ⟨w, g, e⟩ := ih
    have e2 : done.set h (nth done h + 1) = bump done h := rfl
    have hm := reach_cut P (Reach.step r s)
    rw [e2] at hm ⊢
    exact ⟨h :: w, ⟨s.1, by rw [cntW, e]; exact hm, g⟩, by rw [cntW, e]⟩
theorem cntW_sum (n : Nat) : ∀ (w : List Nat), (∀ h ∈ w, h < n) → (cntW n w).sum = w.length
  | [], _ => by
    have : ∀ n : Nat, (List.replicate n (0 : Int)).sum = 0 := fun n => by induction n <;> simp_all [List.replicate_succ]
    simp [cntW, this]
  | h :: w, hw => by
    rw [cntW, sum_bump (by rw [cntW_len]; exact hw h (by simp)), cntW_sum n w fun g hg => hw g (by simp [hg])]
    simp
theorem good_lt : ∀ (w : List Nat), goodW D N w → ∀ h ∈ w, h < D.length
  | [], _, _, h => by cases h
  | a :: w, g, h, hh => by
    rcases List.mem_cons.1 hh with rfl | hh
    · exact g.1
    · exact good_lt w g.2.2 h hh
theorem ways_pos (P : Pre D N) (r : Reach D N D) : 0 < waysN D N D.sum.toNat D := by
  obtain ⟨w, g, e⟩ := word_reach P r
  have hs := cntW_sum D.length w (good_lt w g)
  rw [e] at hs
  have : w ∈ wordsN D N D.sum.toNat D := (mem_words P.L _ _ _).2 ⟨by omega, g, e⟩
  exact List.length_pos_of_mem this
theorem nodup_len {α : Type} [DecidableEq α] : ∀ {l l' : List α}, l.Nodup → (∀ x ∈ l, x ∈ l') → l.length ≤ l'.length
  | [], l', _, _ => Nat.zero_le _
  | x :: l, l', hn, h => by
    have hn' := List.nodup_cons.1 hn
    have hx : x ∈ l' := h x (by simp)
    have ih := nodup_len (l := l) (l' := l'.erase x) hn'.2 fun y hy => by
      have hne : y ≠ x := fun e => hn'.1 (e ▸ hy)
      exact (List.mem_erase_of_ne hne).2 (h y (by simp [hy]))
    rw [List.length_erase_of_mem hx] at ih
    have := List.length_pos_of_mem hx
    simp
    omega
def compL (D c : List Int) : List Int := List.zipWith (fun a b => a - b) D c
theorem compL_len {D c : List Int} (h : c.length = D.length) : (compL D c).length = D.length := by simp [compL, h]
theorem nth_comp {D c : List Int} (h : c.length = D.length) (g : Nat) : nth (compL D c) g = nth D g - nth c g := by
  rcases Nat.lt_or_ge g D.length with hg | hg
  · simp [compL, nth, List.getD, List.getElem?_zipWith, hg, show g < c.length by omega]
  · rw [nth_out (by rw [compL_len h]; exact hg), nth_out hg, nth_out (by omega)]; rfl
theorem comp_comp {D c : List Int} (h : c.length = D.length) : compL D (compL D c) = c := by
  refine ext_nth (by rw [compL_len (compL_len h), h]) fun g => ?_
  rw [nth_comp (compL_len h), nth_comp h]; omega
def TurnsTo (D : List Int) (N N' : List Note) : Prop := ∀ c, c ∈ cutsL D N → compL D c ∈ cutsL D N'
variable {N' : List Note}
theorem turn_word (P : Pre D N) (ht : TurnsTo D N N') : ∀ (v u : List Nat), goodW D N v → goodW D N' u → cntW D.length u = compL D (cntW D.length v) → goodW D N' (v.reverse ++ u) ∧ cntW D.length (v.reverse ++ u) = D
  | [], u, _, g, e => by
    refine ⟨g, ?_⟩
    show cntW D.length u = D
    rw [e]
    refine ext_nth (compL_len (cntW_len _ _)) fun g => ?_
    rw [nth_comp (cntW_len _ _), cntW, nth_zero']; omega
  | h :: v, u, gv, gu, e => by
    have hl := cntW_len D.length v
    have hh := gv.1
    have key : cntW D.length (h :: u) = compL D (cntW D.length v) := by
      rw [cntW, e, cntW]
      refine ext_nth (by rw [bump_len, compL_len (by rw [bump_len, hl]), compL_len hl]) fun g => ?_
      rw [nth_bump (by rw [compL_len (by rw [bump_len, hl])]; exact hh), nth_comp (by rw [bump_len, hl]), nth_comp (by rw [bump_len, hl]), nth_comp hl, nth_bump (by omega), nth_bump (by omega)]
      by_cases q : g = h
      · subst q; simp; omega
      · simp [q]
    have := turn_word P ht v (h :: u) gv.2.2 ⟨hh, by rw [key]; exact ht _ (cnt_cut P gv.2.2), gu⟩ key
    simpa using this
theorem turn_le (P : Pre D N) (L' : Lims D N') (ht : TurnsTo D N N') (k : Nat) : waysN D N k D ≤ waysN D N' k D := by
  have hn : ((wordsN D N k D).map List.reverse).Nodup := by
    unfold List.Nodup
    rw [List.pairwise_map]
    exact (nodup_words k D).imp fun h e => h (by simpa using congrArg List.reverse e)
  have := nodup_len (l' := wordsN D N' k D) hn fun x hx => by
    rw [List.mem_map] at hx
    obtain ⟨w, hw, rfl⟩ := hx
    obtain ⟨a1, a2, a3⟩ := (mem_words P.L _ _ _).1 hw
    obtain ⟨b1, b2⟩ := turn_word P ht w [] a2 trivial (by
      rw [a3]
      refine ext_nth (by rw [compL_len rfl, cntW_len]) fun g => ?_
      rw [cntW, nth_zero', nth_comp rfl]; omega)
    rw [List.append_nil] at b1 b2
    exact (mem_words L' _ _ _).2 ⟨by simpa using a1, b1, b2⟩
  simpa [waysN] using this
theorem turn_cuts (L : Lims D N) (ht : TurnsTo D N N') : (cutsL D N).length ≤ (cutsL D N').length := by
  have hn : ((cutsL D N).map (compL D)).Nodup := by
    unfold List.Nodup
    rw [List.pairwise_map]
    have hs : (cutsL D N).Pairwise (fun a b => a ≠ b) := (cuts_sorted D N).imp fun {a b} h e => by
      subst e
      have : ∀ a : List Int, lexLt a a = false := fun a => by induction a <;> simp_all [lexLt]
      rw [this] at h; cases h
    refine List.Pairwise.imp_of_mem ?_ hs
    intro a b ha hb hne e
    refine hne ?_
    rw [← comp_comp (cuts_row L ha), ← comp_comp (cuts_row L hb), e]
  have := nodup_len (l' := cutsL D N') hn fun x hx => by
    rw [List.mem_map] at hx
    obtain ⟨c, hc, rfl⟩ := hx
    exact ht c hc
  simpa using this
def turnNote (D : List Int) (x : Note) : Note := ⟨x.t, nth D x.t.toNat + 1 - x.r, x.f, nth D x.f.toNat + 1 - x.s⟩
def turnL (D : List Int) (N : List Note) : List Note := (N.map (turnNote D)).reverse
theorem turn_in {x : Note} (h : NoteIn D x) : NoteIn D (turnNote D x) := by
  obtain ⟨f0, f1, t0, t1, ne, s0, s1', r0, r1⟩ := h
  exact ⟨t0, t1, f0, f1, fun e => ne e.symm, by simp only [turnNote]; omega, by simp only [turnNote]; omega, by simp only [turnNote]; omega, by simp only [turnNote]; omega⟩
theorem turn_pre (P : Pre D N) : Pre D (turnL D N) := by
  have hn : ∀ x ∈ turnL D N, NoteIn D x := by
    intro x hx
    simp only [turnL, List.mem_reverse, List.mem_map] at hx
    obtain ⟨y, hy, rfl⟩ := hx
    exact turn_in (P.notes y hy)
  exact ⟨⟨P.L.n1, P.L.n4, P.L.lo, P.L.hi, by simpa [turnL] using P.L.N24, fun x hx => by
    obtain ⟨f0, f1, t0, t1, _⟩ := hn x hx
    exact ⟨f0, f1, t0, t1⟩⟩, hn⟩
theorem turns (P : Pre D N) : TurnsTo D N (turnL D N) ∧ TurnsTo D (turnL D N) N := by
  have box : ∀ {c : List Int}, CutL D c → CutL D (compL D c) := fun {c} h => ⟨compL_len h.len, fun g => by rw [nth_comp h.len]; have := h.hi g; omega, fun g => by rw [nth_comp h.len]; have := h.lo g; omega⟩
  constructor
  · intro c hc
    obtain ⟨a, q⟩ := (mem_cuts P.L).1 hc
    refine (mem_cuts (turn_pre P).L).2 ⟨box a, conR_iff.2 fun x hx hr => ?_⟩
    simp only [turnL, List.mem_reverse, List.mem_map] at hx
    obtain ⟨y, hy, rfl⟩ := hx
    have h1 := conR_iff.1 q y hy
    simp only [turnNote, nth_comp a.len] at hr ⊢
    have : ¬ y.r ≤ nth c y.t.toNat := fun h => by have := h1 h; omega
    omega
  · intro c hc
    obtain ⟨a, q⟩ := (mem_cuts (turn_pre P).L).1 hc
    refine (mem_cuts P.L).2 ⟨box a, conR_iff.2 fun y hy hr => ?_⟩
    have h1 := conR_iff.1 q (turnNote D y) (by simp only [turnL, List.mem_reverse, List.mem_map]; exact ⟨y, hy, rfl⟩)
    simp only [turnNote] at h1
    rw [nth_comp a.len] at hr ⊢
    have : ¬ nth D y.f.toNat + 1 - y.s ≤ nth c y.f.toNat := fun h => by have := h1 h; omega
    omega
theorem turn_reach (P : Pre D N) (r : Reach D N D) : Reach D (turnL D N) D := by
  obtain ⟨w, g, e⟩ := word_reach P r
  obtain ⟨b1, b2⟩ := turn_word P (turns P).1 w [] g trivial (by
    rw [e]
    refine ext_nth (by rw [compL_len rfl, cntW_len]) fun g => ?_
    rw [cntW, nth_zero', nth_comp rfl]; omega)
  have := reach_word (turn_pre P) _ b1
  rwa [b2] at this
theorem turn_same (P : Pre D N) : (cutsL D (turnL D N)).length = (cutsL D N).length ∧ ∀ k, waysN D (turnL D N) k D = waysN D N k D :=
  ⟨Nat.le_antisymm (turn_cuts (turn_pre P).L (turns P).2) (turn_cuts P.L (turns P).1), fun k => Nat.le_antisymm (turn_le (turn_pre P) P.L (turns P).2 k) (turn_le P (turn_pre P).L (turns P).1 k)⟩
end
def prodL : List Int → Nat
  | [] => 1
  | d :: D => (d.toNat + 1) * prodL D
theorem tuples_prod : ∀ D : List Int, (tuplesL D).length = prodL D
  | [] => rfl
  | d :: D => by
    rw [tuplesL, List.length_flatMap, prodL, ← tuples_prod D]
    simp only [List.length_map]
    induction d.toNat + 1 with
    | zero => simp
    | succ n ih => rw [List.range_succ, List.map_append, List.sum_append, ih, Nat.succ_mul]; simp
theorem cuts_free (D : List Int) : cutsL D [] = tuplesL D := by
  rw [cutsL, List.filter_eq_self]
  intro c _
  rfl
theorem cuts_prod (D : List Int) (N : List Note) : (cutsL D N).length ≤ prodL D := by
  rw [← tuples_prod]; exact List.length_filter_le _ _
end Go.Proofs.Ytdkmepjedjclkaa

/-
  COURSES LEVEL BY LEVEL: what is added up in whatever order. Conditions: none.
-/
namespace Go.Proofs.Ytdkmepjedjclkaa
open Go.AM
open Go.Proofs.Try (prog)
set_option linter.all false
set_option maxRecDepth 100000
set_option maxHeartbeats 1000000
theorem wrap_add (a b : Int) : IntKind.wrap .i64 (IntKind.wrap .i64 a + IntKind.wrap .i64 b) = IntKind.wrap .i64 (a + b) := by
  simp only [IntKind.wrap, IntKind.signed, IntKind.bits]
  simp
  omega
theorem wrap_z : IntKind.wrap .i64 0 = 0 := by decide
section
variable {α : Type} [DecidableEq α]
theorem filt_split (f : α → Nat) {a : α} {A : List α} (ha : a ∉ A) : ∀ {L : List α}, L.Nodup → ((L.filter fun c => decide (c ∈ a :: A)).map f).sum = (if a ∈ L then f a else 0) + ((L.filter fun c => decide (c ∈ A)).map f).sum
  | [], _ => by simp
  | c :: L, hn => by
    have hn' := List.nodup_cons.1 hn
    have ih := filt_split f ha hn'.2
    by_cases e : c = a
    · subst e
      rw [if_neg hn'.1] at ih
      simp only [List.filter_cons, List.mem_cons, true_or, decide_true, if_true, ha, decide_false, Bool.false_eq_true, if_false, List.map_cons, List.sum_cons]
      simp only [List.mem_cons] at ih
      rw [ih]; omega
    · have e' : ¬ a = c := fun x => e x.symm
      by_cases q : c ∈ A
      · simp only [List.filter_cons, List.mem_cons, e, q, or_true, decide_true, if_true, List.map_cons, List.sum_cons, e', false_or]
        simp only [List.mem_cons] at ih
        rw [ih]; omega
      · simp only [List.filter_cons, List.mem_cons, e, q, or_false, decide_false, Bool.false_eq_true, if_false, e', false_or]
        simpa only [List.mem_cons] using ih
theorem sum_swap (f : α → Nat) : ∀ {A L : List α}, A.Nodup → L.Nodup → (∀ a ∈ A, a ∉ L → f a = 0) → ((L.filter fun c => decide (c ∈ A)).map f).sum = (A.map f).sum
  | [], L, _, _, _ => by rw [List.filter_eq_nil_iff.2 (by simp)]
  | a :: A, L, hA, hL, h => by
    have hA' := List.nodup_cons.1 hA
    rw [filt_split f hA'.1 hL, sum_swap f hA'.2 hL fun x hx => h x (by simp [hx]), List.map_cons, List.sum_cons]
    by_cases q : a ∈ L
    · rw [if_pos q]
    · rw [if_neg q, h a (by simp) q]
theorem sum_swapP (f : α → Nat) {A L : List α} (p : α → Bool) (hA : A.Nodup) (hL : L.Nodup) (hp : ∀ c ∈ L, p c = true ↔ c ∈ A) (h : ∀ a ∈ A, a ∉ L → f a = 0) : ((L.filter p).map f).sum = (A.map f).sum := by
  rw [← sum_swap f hA hL h]
  congr 2
  refine List.filter_congr fun c hc => ?_
  rw [Bool.eq_iff_iff, hp c hc, decide_eq_true_eq]
end
section
variable {D : List Int} {N : List Note} {K : List (List (List Int))}
abbrev nx4 (D : List Int) (K : List (List (List Int))) (c : List Int) : List (List Int) := nextR (pad D) K D.length c D.length
abbrev W4 (D : List Int) (N : List Note) (k : Nat) (c : List Int) : Nat := waysN D N k (c.take D.length)
theorem mem_nextR {D4 : List Int} {n : Nat} {c d : List Int} : ∀ {k : Nat}, d ∈ nextR D4 K n c k ↔ ∃ h, h < k ∧ stepOk D4 K n c h = true ∧ d = bump c h
  | 0 => by simp [nextR]
  | k + 1 => by
    rw [nextR, List.mem_append, mem_nextR (k := k)]
    constructor
    · rintro (h | ⟨h, h1, h2, h3⟩)
      · split at h
        · rename_i q
          simp at h
          exact ⟨k, Nat.lt_succ_self k, q, h⟩
        · cases h
      · exact ⟨h, by omega, h2, h3⟩
    · rintro ⟨h, h1, h2, h3⟩
      by_cases e : h = k
      · subst e; left; rw [if_pos h2, h3]; simp
      · right; exact ⟨h, by omega, h2, h3⟩
theorem bump_inj {c : List Int} {g h : Nat} (hg : g < c.length) (hh : h < c.length) (e : bump c g = bump c h) : g = h := by
  have := congrArg (fun x => nth x g) e
  simp only [nth_bump hg, nth_bump hh, if_true] at this
  by_cases q : g = h
  · exact q
  · rw [if_neg q] at this; omega
theorem nextR_nodup {D4 : List Int} {n : Nat} {c : List Int} : ∀ {k : Nat}, k ≤ c.length → (nextR D4 K n c k).Nodup
  | 0, _ => by simp [nextR]
  | k + 1, hk => by
    have ih := nextR_nodup (D4 := D4) (n := n) (c := c) (k := k) (by omega)
    rw [nextR]
    split
    · rw [List.singleton_append, List.nodup_cons]
      refine ⟨fun h => ?_, ih⟩
      obtain ⟨h0, h1, _, h3⟩ := mem_nextR.1 h
      have := bump_inj (by omega) (by omega) h3
      omega
    · simpa using ih
theorem isCut_inj {c d : List Int} (hc : IsCut D.length (pad D) c) (hd : IsCut D.length (pad D) d) (e : c.take D.length = d.take D.length) : c = d := by
  refine ext_nth (by rw [hc.len, hd.len]) fun g => ?_
  rcases Nat.lt_or_ge g D.length with hg | hg
  · rw [← nth_take hg, e, nth_take hg]
  · have a1 := hc.lo g; have a2 := hc.hi g; have b1 := hd.lo g; have b2 := hd.hi g
    rw [nth_pad, nth_out hg] at a2 b2
    omega
theorem drop_take {c : List Int} {n h : Nat} (hh : h < n) (hl : n ≤ c.length) : (drop1 c h).take n = drop1 (c.take n) h := by
  refine ext_nth (by simp [drop1]) fun g => ?_
  rw [nth_drop1 (by simp; omega), nth_take hh]
  rcases Nat.lt_or_ge g n with hg | hg
  · rw [nth_take hg, nth_drop1 (by omega), nth_take hg]
  · have : ¬ g = h := by omega
    rw [take_out hg, if_neg this, take_out hg]
def sumZ (D : List Int) (N : List Note) (K : List (List (List Int))) (k : Nat) (Z : List (List Int)) (d : List Int) : Nat := ((Z.filter fun c => decide (d ∈ nx4 D K c)).map fun c => W4 D N k c).sum
theorem sumZ_nil (k : Nat) (d : List Int) : sumZ D N K k [] d = 0 := rfl
theorem sumZ_cons (k : Nat) (c : List Int) (Z : List (List Int)) (d : List Int) : sumZ D N K k (c :: Z) d = sumZ D N K k Z d + (if d ∈ nx4 D K c then W4 D N k c else 0) := by
  unfold sumZ
  rw [List.filter_cons]
  by_cases q : d ∈ nx4 D K c
  · simp [q, Nat.add_comm]
  · simp [q]
theorem sumZ_level (kk : Clocks D N K) (k : Nat) {Z : List (List Int)} (hZ : Z.Nodup) (hI : ∀ c ∈ Z, IsCut D.length (pad D) c) (hm : ∀ c, IsCut D.length (pad D) c → (c ∈ Z ↔ 0 < W4 D N k c)) {d : List Int} (hd : IsCut D.length (pad D) d) :
    sumZ D N K k Z d = W4 D N (k + 1) d := by
  have h4 := kk.P.L.n4
  have hl := hd.len
  unfold sumZ W4
  rw [ways_succ]
  by_cases q : d.take D.length ∈ cutsL D N
  · rw [if_pos q]
    have e1 : ∀ c ∈ Z, decide (d ∈ nx4 D K c) = true ↔ c ∈ ((List.range D.length).filter fun h => decide (0 < nth (d.take D.length) h)).map (drop1 d) := by
      intro c hc
      have hcc := hI c hc
      have hcl := hcc.len
      rw [decide_eq_true_eq, mem_nextR]
      simp only [List.mem_map, List.mem_filter, List.mem_range, decide_eq_true_eq]
      constructor
      · rintro ⟨h, h1, h2, rfl⟩
        refine ⟨h, ⟨h1, ?_⟩, drop_bump (by omega)⟩
        rw [nth_take h1, nth_bump (by omega), if_pos rfl]
        have := hcc.lo h
        omega
      · rintro ⟨h, ⟨h1, h2⟩, rfl⟩
        refine ⟨h, h1, (stepOk_iff kk hcc h1).2 ?_, (bump_drop (by omega)).symm⟩
        rw [← bump_take h1 (by omega), bump_drop (by omega)]
        exact q
    rw [sum_swapP (fun c => waysN D N k (c.take D.length)) _ (by
      unfold List.Nodup
      rw [List.pairwise_map]
      refine List.Pairwise.imp_of_mem (fun {a b} ha hb hne e => ?_) (List.Nodup.sublist List.filter_sublist List.nodup_range)
      simp only [List.mem_filter, List.mem_range] at ha hb
      have := congrArg (fun x => nth x a) e
      simp only [nth_drop1 (c := d) (h := a) (by omega), nth_drop1 (c := d) (h := b) (by omega), if_true] at this
      rw [if_neg hne] at this
      omega) hZ e1 (fun a ha hn => ?_), List.map_map]
    · congr 1
      refine List.map_congr_left fun h hh => ?_
      simp only [List.mem_filter, List.mem_range] at hh
      show waysN D N k ((drop1 d h).take D.length) = _
      rw [drop_take hh.1 (by omega)]
    · simp only [List.mem_map, List.mem_filter, List.mem_range, decide_eq_true_eq] at ha
      obtain ⟨h, ⟨h1, h2⟩, rfl⟩ := ha
      rw [nth_take h1] at h2
      have hc : IsCut D.length (pad D) (drop1 d h) := by
        refine ⟨by rw [drop1_len, hl], fun g => ?_, fun g => ?_⟩
        · rw [nth_drop1 (by omega)]; have := hd.lo g; split <;> omega
        · rw [nth_drop1 (by omega)]; have := hd.hi g; split
          · rename_i e; subst e; omega
          · exact this
      exact Nat.eq_zero_of_not_pos (fun x => hn ((hm _ hc).2 x))
  · rw [if_neg q]
    have : (Z.filter fun c => decide (d ∈ nx4 D K c)) = [] := by
      rw [List.filter_eq_nil_iff]
      intro c hc hx
      have hcc := hI c hc
      have hcl := hcc.len
      rw [decide_eq_true_eq, mem_nextR] at hx
      obtain ⟨h, h1, h2, rfl⟩ := hx
      refine q ?_
      rw [bump_take h1 (by omega)]
      exact (stepOk_iff kk hcc h1).1 h2
    rw [this]; rfl
def gI (W : Ents) (d : List Int) : Int := match lkL W d with
  | some (.int _ x) => x
  | _ => 0
def IntE (W : Ents) : Prop := ∀ d v, lkL W d = some v → ∃ x, v = .int .i64 x
theorem lk_int {W : Ents} (h : IntE W) (d : List Int) : (match lkL W d with
    | some v => v
    | none => AV.int .i64 0) = .int .i64 (gI W d) := by
  unfold gI
  cases e : lkL W d with
  | none => rfl
  | some v => obtain ⟨x, rfl⟩ := h d v e; rfl
theorem int_set {W : Ents} (h : IntE W) (c : List Int) (x : Int) : IntE (setL W c (.int .i64 x)) := by
  intro d v hv
  rw [lk_set] at hv
  split at hv
  · cases hv; exact ⟨x, rfl⟩
  · exact h d v hv
theorem gI_set (W : Ents) (c : List Int) (x : Int) (d : List Int) : gI (setL W c (.int .i64 x)) d = if c = d then x else gI W d := by
  unfold gI
  rw [lk_set]
  by_cases q : c = d
  · rw [if_pos q, if_pos q]
  · rw [if_neg q, if_neg q]
theorem lk_mem : ∀ {L : Ents} {c : List Int}, c ∈ L.map (·.1) ↔ lkL L c ≠ none
  | [], c => by simp [lkL]
  | e :: L, c => by
    rw [List.map_cons, List.mem_cons, lk_mem (L := L), lkL]
    by_cases q : e.1 = c
    · rw [if_pos q]; simp [q]
    · have q' : ¬ c = e.1 := fun x => q x.symm
      rw [if_neg q]; simp [q']
theorem set_keys : ∀ {L : Ents} {c : List Int} {v : AV}, (L.map (·.1)).Nodup → ((setL L c v).map (·.1)).Nodup ∧ ∀ d, d ∈ (setL L c v).map (·.1) ↔ d = c ∨ d ∈ L.map (·.1)
  | [], c, v, _ => by simp [setL]
  | e :: L, c, v, h => by
    have h' : e.1 ∉ L.map (·.1) ∧ (L.map (·.1)).Nodup := List.nodup_cons.1 h
    obtain ⟨i1, i2⟩ := set_keys (c := c) (v := v) h'.2
    rw [setL]
    by_cases q : e.1 = c
    · rw [if_pos q]
      refine ⟨by rw [List.map_cons, ← q]; exact h, fun d => ?_⟩
      simp only [List.map_cons, List.mem_cons, q]
      constructor
      · exact fun x => .inr x
      · rintro (x | x)
        · exact .inl x
        · exact x
    · rw [if_neg q, List.map_cons, List.nodup_cons]
      refine ⟨⟨fun x => ?_, i1⟩, fun d => ?_⟩
      · rcases (i2 _).1 x with x | x
        · exact q x
        · exact h'.1 x
      · rw [List.mem_cons, i2, List.map_cons, List.mem_cons]
        constructor
        · rintro (x | x | x)
          · exact .inr (.inl x)
          · exact .inl x
          · exact .inr (.inr x)
        · rintro (x | x | x)
          · exact .inr (.inl x)
          · exact .inl x
          · exact .inr (.inr x)
open Classical
abbrev dsum (D : List Int) (c : List Int) : Int := (c.take D.length).sum
theorem ways_sum (L : Lims D N) {k : Nat} {c : List Int} (h : 0 < waysN D N k c) : c.sum = k := by
  obtain ⟨w, hw⟩ := List.exists_mem_of_length_pos h
  obtain ⟨a1, a2, a3⟩ := (mem_words L _ _ _).1 hw
  rw [← a3, cntW_sum _ _ (good_lt w a2), a1]
theorem nx_is (kk : Clocks D N K) {c d : List Int} (hc : IsCut D.length (pad D) c) (h : d ∈ nx4 D K c) : IsCut D.length (pad D) d ∧ dsum D d = dsum D c + 1 ∧ d.take D.length ∈ cutsL D N := by
  have h4 := kk.P.L.n4
  have hl := hc.len
  obtain ⟨h, h1, h2, rfl⟩ := mem_nextR.1 h
  have h3 := (stepOk_iff kk hc h1).1 h2
  simp only [stepOk, Bool.and_eq_true, decide_eq_true_eq] at h2
  refine ⟨bump_is hc (by omega) h2.1, ?_, ?_⟩
  · rw [dsum, bump_take h1 (by omega), sum_bump (by simp; omega)]
  · rw [bump_take h1 (by omega)]; exact h3
structure RoundI (D : List Int) (N : List Note) (K : List (List (List Int))) (k : Nat) (Z : List (List Int)) (c : List Int) (A : List (List Int)) (W Lt : Ents) : Prop where
  w4 : Keys4 W
  wi : IntE W
  l4 : Keys4 Lt
  old : ∀ d, IsCut D.length (pad D) d → dsum D d = k → gI W d = IntKind.wrap .i64 (W4 D N k d)
  new : ∀ d, IsCut D.length (pad D) d → dsum D d = k + 1 → gI W d = IntKind.wrap .i64 ((sumZ D N K k Z d + (if d ∈ A then W4 D N k c else 0) : Nat) : Int)
  far : ∀ d, IsCut D.length (pad D) d → (k : Int) + 1 < dsum D d → gI W d = 0
  lt : ∀ d, lkL Lt d = if (∃ c ∈ Z, d ∈ nx4 D K c) ∨ d ∈ A then some (.bool true) else none
  nd : (Lt.map (·.1)).Nodup
structure LevelI (D : List Int) (N : List Note) (K : List (List (List Int))) (k : Nat) (W Lv : Ents) : Prop where
  w4 : Keys4 W
  wi : IntE W
  l4 : Keys4 Lv
  old : ∀ d, IsCut D.length (pad D) d → dsum D d = k → gI W d = IntKind.wrap .i64 (W4 D N k d)
  far : ∀ d, IsCut D.length (pad D) d → (k : Int) < dsum D d → gI W d = 0
  lv : ∀ d, lkL Lv d = if IsCut D.length (pad D) d ∧ 0 < W4 D N k d then some (.bool true) else none
  nd : (Lv.map (·.1)).Nodup
variable {k : Nat} {Z A A' : List (List Int)} {c : List Int} {W Lt Lv : Ents}
theorem RoundI.step (r : RoundI D N K k Z c A W Lt) (hc : IsCut D.length (pad D) c) (hs : dsum D c = k) {d0 : List Int} (hd : IsCut D.length (pad D) d0) (hds : dsum D d0 = k + 1) (hn : d0 ∉ A) (hA : ∀ d, d ∈ A' ↔ d = d0 ∨ d ∈ A) :
    RoundI D N K k Z c A' (setL W d0 (.int .i64 (IntKind.wrap .i64 (gI W d0 + gI W c)))) (setL Lt d0 (.bool true)) := by
  refine ⟨setL_keys4 r.w4 hd.len, int_set r.wi _ _, setL_keys4 r.l4 hd.len, fun d h1 h2 => ?_, fun d h1 h2 => ?_, fun d h1 h2 => ?_, fun d => ?_, (set_keys r.nd).1⟩
  · rw [gI_set, if_neg (by rintro rfl; omega)]; exact r.old d h1 h2
  · rw [gI_set]
    by_cases e : d0 = d
    · subst e
      rw [if_pos rfl, r.new _ h1 h2, r.old c hc hs, wrap_add, if_neg hn, if_pos ((hA _).2 (.inl rfl))]
      simp
    · rw [if_neg e, r.new d h1 h2]
      have : d ∈ A' ↔ d ∈ A := by rw [hA]; exact ⟨fun h => h.resolve_left (fun x => e x.symm), .inr⟩
      simp only [this]
  · rw [gI_set, if_neg (by rintro rfl; omega)]; exact r.far d h1 h2
  · rw [lk_set]
    by_cases e : d0 = d
    · subst e
      rw [if_pos rfl, if_pos (.inr ((hA _).2 (.inl rfl)))]
    · rw [if_neg e, r.lt d]
      have : d ∈ A' ↔ d ∈ A := by rw [hA]; exact ⟨fun h => h.resolve_left (fun x => e x.symm), .inr⟩
      simp only [this]
theorem RoundI.done (r : RoundI D N K k Z c (nx4 D K c) W Lt) (c' : List Int) : RoundI D N K k (c :: Z) c' [] W Lt := by
  refine ⟨r.w4, r.wi, r.l4, r.old, fun d h1 h2 => ?_, r.far, fun d => ?_, r.nd⟩
  · rw [r.new d h1 h2, sumZ_cons]; simp
  · rw [r.lt d]
    have : ((∃ x ∈ c :: Z, d ∈ nx4 D K x) ∨ d ∈ []) ↔ ((∃ c ∈ Z, d ∈ nx4 D K c) ∨ d ∈ nx4 D K c) := by
      simp only [List.mem_cons, List.not_mem_nil, or_false]
      constructor
      · rintro ⟨x, rfl | hx, h⟩
        · exact .inr h
        · exact .inl ⟨x, hx, h⟩
      · rintro (⟨x, hx, h⟩ | h)
        · exact ⟨x, .inr hx, h⟩
        · exact ⟨c, .inl rfl, h⟩
    simp only [this]
theorem LevelI.start (l : LevelI D N K k W Lv) (c : List Int) : RoundI D N K k [] c [] W [] :=
  ⟨l.w4, l.wi, (fun _ h => by cases h), l.old, fun d h1 h2 => by rw [l.far d h1 (by omega)]; simp [sumZ_nil, wrap_z], fun d h1 h2 => l.far d h1 (by omega), fun d => by simp [lkL], List.nodup_nil⟩
theorem LevelI.mem (l : LevelI D N K k W Lv) (c : List Int) : c ∈ Lv.map (·.1) ↔ IsCut D.length (pad D) c ∧ 0 < W4 D N k c := by
  rw [lk_mem, l.lv]
  split <;> simp_all
theorem sum_pos {α : Type} {f : α → Nat} : ∀ {l : List α}, (∀ x ∈ l, 0 < f x) → (0 < (l.map f).sum ↔ ∃ x, x ∈ l)
  | [], _ => by simp
  | x :: l, h => by
    have := h x (by simp)
    rw [List.map_cons, List.sum_cons]
    exact ⟨fun _ => ⟨x, by simp⟩, fun _ => by omega⟩
theorem LevelI.next (kk : Clocks D N K) (l : LevelI D N K k W Lv) {W' : Ents} {Z : List (List Int)} {c : List Int} (hZ : Z.Nodup) (hm : ∀ x, x ∈ Z ↔ x ∈ Lv.map (·.1)) (r : RoundI D N K k Z c [] W' Lt) : LevelI D N K (k + 1) W' Lt := by
  have hI : ∀ c ∈ Z, IsCut D.length (pad D) c := fun c hc => ((l.mem c).1 ((hm c).1 hc)).1
  have hsum : ∀ {d}, IsCut D.length (pad D) d → sumZ D N K k Z d = W4 D N (k + 1) d := fun {d} hd => sumZ_level kk k hZ hI (fun c hc => by rw [hm, l.mem]; exact ⟨fun h => h.2, fun h => ⟨hc, h⟩⟩) hd
  refine ⟨r.w4, r.wi, r.l4, fun d h1 h2 => ?_, fun d h1 h2 => r.far d h1 (by simpa using h2), fun d => ?_, r.nd⟩
  · rw [r.new d h1 (by simpa using h2), hsum h1]; simp
  · rw [r.lt d]
    have : ((∃ c ∈ Z, d ∈ nx4 D K c) ∨ d ∈ []) ↔ (IsCut D.length (pad D) d ∧ 0 < W4 D N (k + 1) d) := by
      simp only [List.not_mem_nil, or_false]
      constructor
      · rintro ⟨x, hx, h⟩
        have hd := (nx_is kk (hI x hx) h).1
        refine ⟨hd, ?_⟩
        rw [← hsum hd, sumZ, sum_pos (fun y hy => ((l.mem y).1 ((hm y).1 (List.mem_filter.1 hy).1)).2)]
        exact ⟨x, List.mem_filter.2 ⟨hx, by simpa using h⟩⟩
      · rintro ⟨hd, h⟩
        rw [← hsum hd, sumZ, sum_pos (fun y hy => ((l.mem y).1 ((hm y).1 (List.mem_filter.1 hy).1)).2)] at h
        obtain ⟨x, hx⟩ := h
        rw [List.mem_filter] at hx
        exact ⟨x, hx.1, by simpa using hx.2⟩
    simp only [this]
theorem isCut_zero (P : Pre D N) : IsCut D.length (pad D) [0, 0, 0, 0] := by
  have hz : ∀ h, nth [0, 0, 0, 0] h = 0 := fun h => by
    match h with
    | 0 | 1 | 2 | 3 => rfl
    | _ + 4 => rfl
  exact ⟨rfl, fun h => by rw [hz]; exact Int.le_refl _, fun h => by rw [hz, nth_pad]; exact P.L.lo h⟩
theorem isCut_pad (P : Pre D N) : IsCut D.length (pad D) (pad D) := ⟨pad_len P.L.n4, fun h => by rw [nth_pad]; exact P.L.lo h, fun h => Int.le_refl _⟩
theorem pad_takeD (D : List Int) : (pad D).take D.length = D := by simp [pad]
theorem LevelI.zero (P : Pre D N) : LevelI D N K 0 [([0, 0, 0, 0], .int .i64 1)] [([0, 0, 0, 0], .bool true)] := by
  have hz : ([0, 0, 0, 0] : List Int).take D.length = List.replicate D.length 0 := by
    have h4 := P.L.n4
    match h : D.length, h4 with
    | 0, _ | 1, _ | 2, _ | 3, _ | 4, _ => rfl
  have hw : ∀ d, IsCut D.length (pad D) d → (W4 D N 0 d = if d = [0, 0, 0, 0] then 1 else 0) := by
    intro d hd
    rw [W4, ways_zero]
    by_cases e : d = [0, 0, 0, 0]
    · subst e; rw [if_pos hz, if_pos rfl]
    · rw [if_neg e, if_neg]
      intro h
      exact e (isCut_inj hd (isCut_zero P) (h.trans hz.symm))
  refine ⟨fun e he => by simp at he; subst he; rfl, fun d v h => ?_, fun e he => by simp at he; subst he; rfl, fun d h1 h2 => ?_, fun d h1 h2 => ?_, fun d => ?_, by simp⟩
  · simp only [lkL] at h
    split at h
    · cases h; exact ⟨1, rfl⟩
    · cases h
  · rw [hw d h1]
    simp only [gI, lkL]
    by_cases e : d = [0, 0, 0, 0]
    · subst e; rfl
    · have e' : ¬ [0, 0, 0, 0] = d := fun x => e x.symm
      rw [if_neg e, if_neg e']; simp [wrap_z]
  · simp only [gI, lkL]
    rw [if_neg]
    rintro rfl
    rw [dsum, hz] at h2
    have : ∀ n : Nat, (List.replicate n (0 : Int)).sum = 0 := fun n => by induction n <;> simp_all [List.replicate_succ]
    rw [this] at h2
    omega
  · simp only [lkL]
    by_cases e : [0, 0, 0, 0] = d
    · subst e
      rw [if_pos rfl, if_pos ⟨isCut_zero P, by rw [hw _ (isCut_zero P)]; simp⟩]
    · rw [if_neg e, if_neg]
      rintro ⟨h1, h2⟩
      rw [hw d h1, if_neg (fun x => e x.symm)] at h2
      omega
theorem LevelI.stop (P : Pre D N) (r : Reach D N D) (l : LevelI D N K k W Lv) : lkL Lv (pad D) = if (k : Int) = D.sum then some (.bool true) else none := by
  rw [l.lv, W4, pad_takeD]
  by_cases e : (k : Int) = D.sum
  · rw [if_pos e, if_pos ⟨isCut_pad P, by
      have := ways_pos P r
      rwa [← e, Int.toNat_natCast] at this⟩]
  · rw [if_neg e, if_neg]
    rintro ⟨_, h⟩
    exact e (ways_sum P.L h).symm
end
end Go.Proofs.Ytdkmepjedjclkaa

/-
  MAPS KEYED BY CUTS: 'm[k] += v'. Conditions: none.
-/
namespace Go.Proofs.Ytdkmepjedjclkaa
open Go.AM
open Go.Proofs.Try (prog)
set_option linter.all false
set_option maxRecDepth 100000
def ixL : Ents → List Int → Option Nat
  | [], _ => none
  | e :: L, c => if e.1 = c then some 0 else (ixL L c).map (· + 1)
theorem findI99 : ∀ {L : Ents} {c : List Int} (i : Nat), Keys4 L → c.length = 4 → findI prog 99 (.agg (ints c)) (keysL L) i = some ((ixL L c).map (i + ·))
  | [], c, i, _, _ => rfl
  | e :: L, c, i, h, hc => by
    have ih := findI99 (L := L) (c := c) (i + 1) (fun x hx => h x (by simp [hx])) hc
    have he : e.1.length = 4 := h e (by simp)
    simp only [keysL, List.map_cons, findI, keyEq99 hc he, Option.bind_some]
    simp only [keysL] at ih
    by_cases q : e.1 = c
    · simp [q, ixL]
    · have q' : ¬ c = e.1 := fun x => q x.symm
      simp only [q', decide_false, cond_false, ih, ixL, if_neg q]
      cases ixL L c with
      | none => rfl
      | some j => simp; omega
theorem ix_some : ∀ {L : Ents} {c : List Int} {i : Nat}, ixL L c = some i → i < L.length ∧ (∃ w, lkL L c = some w ∧ (valsL L)[i]? = some w) ∧ (keysL L).set i (.agg (ints c)) = keysL L ∧ ∀ v, keysL (setL L c v) = keysL L ∧ valsL (setL L c v) = (valsL L).set i v
  | [], c, i, h => by cases h
  | e :: L, c, i, h => by
    rw [ixL] at h
    by_cases q : e.1 = c
    · rw [if_pos q] at h
      cases h
      subst q
      refine ⟨by simp, ⟨e.2, by simp [lkL], by simp [valsL]⟩, by simp [keysL], fun v => ?_⟩
      rw [setL, if_pos rfl]
      exact ⟨rfl, rfl⟩
    · rw [if_neg q, Option.map_eq_some_iff] at h
      obtain ⟨j, hj, rfl⟩ := h
      obtain ⟨h1, ⟨w, h2, h3⟩, h4, h5⟩ := ix_some hj
      refine ⟨by simpa using h1, ⟨w, by rw [lkL, if_neg q]; exact h2, by simpa [valsL] using h3⟩, ?_, fun v => ?_⟩
      · simp only [keysL] at h4; simp [keysL, h4]
      · obtain ⟨h6, h7⟩ := h5 v
        rw [setL, if_neg q]
        simp only [keysL, valsL] at h6 h7
        simp [keysL, valsL, h6, h7]
theorem ix_none : ∀ {L : Ents} {c : List Int}, ixL L c = none → lkL L c = none ∧ ∀ v, setL L c v = L ++ [(c, v)]
  | [], c, _ => ⟨rfl, fun v => rfl⟩
  | e :: L, c, h => by
    rw [ixL] at h
    by_cases q : e.1 = c
    · rw [if_pos q] at h; cases h
    · rw [if_neg q, Option.map_eq_none_iff] at h
      obtain ⟨h1, h2⟩ := ix_none h
      exact ⟨by rw [lkL, if_neg q]; exact h1, fun v => by rw [setL, if_neg q, h2 v]; rfl⟩
theorem ent99 {W : Ents} {c : List Int} (h : Keys4 W) (hi : IntE W) (hc : c.length = 4) (g : Nat) : ∃ (g' : Nat) (ks vs : List AV) (st : Int), ∀ {hp : Nat → Option AObj} {id : Nat}, hp id = some (.map g (keysL W) (valsL W)) → ∀ x : Nat,
    entP prog ⟨hp, x⟩ 99 (.int .i64 0) (.map id) (.agg (ints c)) = some (.tup [.int .i64 (gI W c), .int .i64 st], ⟨upd hp id (some (.map g' ks vs)), x⟩) ∧
    ∀ (hq : Nat → Option AObj), hq id = some (.map g' ks vs) → ∀ (y : Nat) (v : AV), entS ⟨hq, y⟩ (.map id) (.int .i64 st) v = some (.tup [], ⟨upd hq id (some (.map (g' + 1) (keysL (setL W c v)) (valsL (setL W c v)))), y⟩) := by
  cases e : ixL W c with
  | none =>
    obtain ⟨h1, h2⟩ := ix_none e
    refine ⟨g + 1, keysL W ++ [.agg (ints c)], valsL W ++ [.int .i64 0], (keysL W).length, fun {hp id} hm x => ⟨?_, fun hq hm2 y v => ?_⟩⟩
    · have hg : gI W c = 0 := by simp [gI, h1]
      simp only [entP, keyT99 hc, cond_true, hm, findI99 0 h hc, e, Option.map_none, Option.bind_some, hg, Mem.set]
    · have hl : (keysL W).length = (valsL W).length := by simp [keysL, valsL]
      have hin : inR ((keysL W).length : Int) (valsL W ++ [AV.int .i64 0]).length = true := by simp [inR, hl]; omega
      have hset : (valsL W ++ [AV.int .i64 0]).set (valsL W).length v = valsL W ++ [v] := by simp
      simp only [entS, entryStA, hm2, hin, cond_true, Option.map_some, Mem.set, Int.toNat_natCast]
      rw [hl, hset, h2 v]
      simp [keysL, valsL]
  | some i =>
    obtain ⟨h1, ⟨w, h2, h3⟩, h4, h5⟩ := ix_some e
    obtain ⟨z, rfl⟩ := hi c w h2
    refine ⟨g + 1, keysL W, valsL W, i, fun {hp id} hm x => ⟨?_, fun hq hm2 y v => ?_⟩⟩
    · have hg : gI W c = z := by simp [gI, h2]
      simp only [entP, keyT99 hc, cond_true, hm, findI99 0 h hc, e, Option.map_some, Option.bind_some, hg, Mem.set, Nat.zero_add, h3, h4]
    · obtain ⟨h6, h7⟩ := h5 v
      have hin : inR (i : Int) (valsL W).length = true := by simp [inR, valsL]; omega
      simp only [entS, entryStA, hm2, hin, cond_true, Option.map_some, Mem.set, Int.toNat_natCast, h6, h7]
theorem lookI99 {W : Ents} {c : List Int} (h : Keys4 W) (hi : IntE W) (hc : c.length = 4) {m : Mem} {id g : Nat} (hm : m.h id = some (.map g (keysL W) (valsL W))) : lookP prog m 99 (.int .i64 0) (.map id) (.agg (ints c)) false = some (.int .i64 (gI W c)) := by
  rw [lookM99 hm h hc]
  have := lk_int hi c
  cases e : lkL W c with
  | none => rw [e] at this; simpa using this
  | some v => rw [e] at this; simpa using this
end Go.Proofs.Ytdkmepjedjclkaa

/-
  BODIES OF FUNCTIONS OF THE PROGRAM AS SMALL OPERATIONS (written by gen.py; checked by the kernel against the program). Conditions: none.
-/
namespace Go.Proofs.Ytdkmepjedjclkaa
open Go.AM
open Go.Proofs.Try (prog)
set_option maxRecDepth 100000
set_option linter.all false
namespace watch_Courses
noncomputable section
variable (K : List Item) (s : St)
def b : Code := (Try.f36.body).getD .skip
theorem hf : prog.funcs[36]? = some Try.f36 := by kernel_rfl
def r0 := findReg b 0
def r1 := findReg b 1
def r2 := findReg b 2
def i0 := findCond b 0
def i0t := thenOf i0
def i0e := elseOf i0
def r3 := findReg b 3
def r4 := findReg b 4
def r5 := findReg b 5
def k0 := findBlk b 0
def l0 := loopOf k0
def L0 (x4 x6 x7 : AV) (m : Mem) (K : List Item) : Option Res := den prog ann 36 (.code l0 :: .inLoop l0 :: .inBlock 0 :: K) ⟨[(4, x4), (6, x6), (7, x7)], 66, m⟩
def r6 := findReg b 6
def i1 := findCond b 1
def i1t := thenOf i1
def i1e := elseOf i1
def k1 := findBlk b 1
def r7 := findReg b 7
def r8 := findReg b 8
def k2 := findBlk b 2
def l2 := loopOf k2
def L2 (x4 x6 x8 x34 : AV) (m : Mem) (K : List Item) : Option Res := den prog ann 36 (.code l2 :: .inLoop l2 :: .inBlock 2 :: K) ⟨[(4, x4), (6, x6), (8, x8), (34, x34)], 66, m⟩
def r9 := findReg b 9
def i2 := findCond b 2
def i2t := thenOf i2
def i2e := elseOf i2
def k3 := findBlk b 3
def r10 := findReg b 10
def r11 := findReg b 11
def k4 := findBlk b 4
def l4 := loopOf k4
def L4 (x4 x6 x8 x9 x34 x41 x42 x43 : AV) (m : Mem) (K : List Item) : Option Res := den prog ann 36 (.code l4 :: .inLoop l4 :: .inBlock 4 :: K) ⟨[(4, x4), (6, x6), (8, x8), (9, x9), (34, x34), (41, x41), (42, x42), (43, x43)], 66, m⟩
def r12 := findReg b 12
def i3 := findCond b 3
def i3t := thenOf i3
def i3e := elseOf i3
def k5 := findBlk b 5
def r13 := findReg b 13
def r14 := findReg b 14
def r15 := findReg b 15
def r16 := findReg b 16
def r17 := findReg b 17
def r18 := findReg b 18
theorem b_eq : den prog ann 36 (.code b :: K) s = den prog ann 36 (.code r0 :: .code r1 :: .code r2 :: .code i0 :: .code r4 :: .code r5 :: .code k0 :: .code r18 :: .code .ret :: K) s := den_flat hf (l := [r0, r1, r2, i0, r4, r5, k0, r18, .ret]) (by kernel_rfl) K s
theorem r0_eq : den prog ann 36 (.code r0 :: K) s = mreg prog ann 36 none [] none [] [qA 1 frozenPtr 0,qF 2 fun s => some (.int .i64 0),qF 3 fun s => some (.int .i64 0)] K s := (den_reg hf _ K s).trans (by kernel_rfl)
theorem r1_eq : den prog ann 36 (.code r1 :: K) s = mreg prog ann 36 none [] none [] [qA 13 (loadF true 2) 1,⟨some 14, none, .c 0 (fun s => (.fn 61 [] [])) fun s => [(s.get 13)]⟩,qC 12 14,qF 15 fun s => extA (s.get 12) 0,qF 16 fun s => extA (s.get 12) 1,qC 4 15,qC 5 16] K s := (den_reg hf _ K s).trans (by kernel_rfl)
theorem r2_eq : den prog ann 36 (.code r2 :: K) s = mreg prog ann 36 none [] none [] [qC 17 5,qA 18 (unA .not) 17] K s := (den_reg hf _ K s).trans (by kernel_rfl)
theorem i0_eq : den prog ann 36 (.code i0 :: K) s = ifV prog ann 36 18 i0t i0e K s (s.get 18) := den_if hf (by kernel_rfl) K s
theorem i0t_eq : den prog ann 36 (.code i0t :: K) s = den prog ann 36 (.code r3 :: .code .ret :: K) s := den_flat hf (l := [r3, .ret]) (by kernel_rfl) K s
theorem r3_eq : den prog ann 36 (.code r3 :: K) s = mreg prog ann 36 none [] none [] [qF 2 fun s => some (.int .i64 0),qF 3 fun s => some (.int .i64 1)] K s := (den_reg hf _ K s).trans (by kernel_rfl)
theorem i0e_eq : den prog ann 36 (.code i0e :: K) s = den prog ann 36 (K) s := den_flat hf (l := []) (by kernel_rfl) K s
theorem r4_eq : den prog ann 36 (.code r4 :: K) s = mreg prog ann 36 none [] none [] [⟨some 19, none, .w false none fun s => some (.map s.m.nx, s.m.new (.map 0 [] []))⟩,qF 20 fun s => bldA (plcA 1) [.int .i64 0, .int .i64 0, .int .i64 0, .int .i64 0] [],⟨none, none, .w false none fun s => updM prog s.m 99 (s.get 19) (s.get 20) (.int .i64 1)⟩,qC 21 19,qC 6 21] K s := (den_reg hf _ K s).trans (by kernel_rfl)
theorem r5_eq : den prog ann 36 (.code r5 :: K) s = mreg prog ann 36 none [] none [] [⟨some 22, none, .w false none fun s => some (.map s.m.nx, s.m.new (.map 0 [] []))⟩,qF 23 fun s => bldA (plcA 1) [.int .i64 0, .int .i64 0, .int .i64 0, .int .i64 0] [],⟨none, none, .w false none fun s => updM prog s.m 99 (s.get 22) (s.get 23) (.bool true)⟩,qC 24 22,qC 7 24] K s := (den_reg hf _ K s).trans (by kernel_rfl)
theorem k0_eq (K : List Item) (t : List (Nat × AV)) (m : Mem) : den prog ann 36 (.code k0 :: K) ⟨t, 66, m⟩ = L0 (get t 4) (get t 6) (get t 7) m K := den_loop_enter hf (b := l0) (id := 6) (l := [4, 6, 7]) (by kernel_rfl) (by kernel_rfl) (by kernel_rfl) K _
theorem l0_eq (K : List Item) (t : List (Nat × AV)) (m : Mem) : den prog ann 36 (.inLoop l0 :: .inBlock 0 :: K) ⟨t, 66, m⟩ = L0 (get t 4) (get t 6) (get t 7) m K := den_loop_again hf (id := 6) (l := [4, 6, 7]) (by kernel_rfl) (by kernel_rfl) (.inBlock 0 :: K) _
theorem L0_eq (x4 x6 x7 : AV) (m : Mem) (K : List Item) : L0 x4 x6 x7 m K = den prog ann 36 (.code r6 :: .code i1 :: .code k1 :: .inLoop l0 :: .inBlock 0 :: K) ⟨[(4, x4), (6, x6), (7, x7)], 66, m⟩ := den_flat hf (l := [r6, i1, k1]) (by kernel_rfl) _ _
theorem r6_eq : den prog ann 36 (.code r6 :: K) s = mreg prog ann 36 (some [4, 6, 7]) [] none [] [qC 25 7,qC 26 4,qA 27 nilA 26,qA 28 (fieldA 1) 27,qA 29 (loadF true 4) 28,qF 30 fun s => lookP prog s.m 99 (.bool false) (s.get 25) (s.get 29) false,qA 31 (unA .not) 30] K s := (den_reg hf _ K s).trans (by kernel_rfl)
theorem i1_eq : den prog ann 36 (.code i1 :: K) s = ifV prog ann 36 31 i1t i1e K s (s.get 31) := den_if hf (by kernel_rfl) K s
theorem i1t_eq : den prog ann 36 (.code i1t :: K) s = den prog ann 36 (K) s := den_flat hf (l := []) (by kernel_rfl) K s
theorem i1e_eq : den prog ann 36 (.code i1e :: K) s = den prog ann 36 (.code (.exit 0) :: K) s := den_flat hf (l := [(.exit 0)]) (by kernel_rfl) K s
theorem k1_eq : den prog ann 36 (.code k1 :: K) s = den prog ann 36 (.code r7 :: .code r8 :: .code k2 :: .code r17 :: .inBlock 1 :: K) s := den_blk hf (b := blkOf k1) (l := [r7, r8, k2, r17]) (by kernel_rfl) (by kernel_rfl) K s
theorem r7_eq : den prog ann 36 (.code r7 :: K) s = mreg prog ann 36 none [] none [] [⟨some 32, none, .w false none fun s => some (.map s.m.nx, s.m.new (.map 0 [] []))⟩,qC 8 32] K s := (den_reg hf _ K s).trans (by kernel_rfl)
theorem r8_eq : den prog ann 36 (.code r8 :: K) s = mreg prog ann 36 none [800007] none [] [qC 33 7,⟨some 34, none, .r fun s => (s.get 33)⟩] K s := (den_reg hf _ K s).trans (by kernel_rfl)
theorem k2_eq (K : List Item) (t : List (Nat × AV)) (m : Mem) : den prog ann 36 (.code k2 :: K) ⟨t, 66, m⟩ = L2 (get t 4) (get t 6) (get t 8) (get t 34) m K := den_loop_enter hf (b := l2) (id := 9) (l := [4, 6, 8, 34]) (by kernel_rfl) (by kernel_rfl) (by kernel_rfl) K _
theorem l2_eq (K : List Item) (t : List (Nat × AV)) (m : Mem) : den prog ann 36 (.inLoop l2 :: .inBlock 2 :: K) ⟨t, 66, m⟩ = L2 (get t 4) (get t 6) (get t 8) (get t 34) m K := den_loop_again hf (id := 9) (l := [4, 6, 8, 34]) (by kernel_rfl) (by kernel_rfl) (.inBlock 2 :: K) _
theorem L2_eq (x4 x6 x8 x34 : AV) (m : Mem) (K : List Item) : L2 x4 x6 x8 x34 m K = den prog ann 36 (.code r9 :: .code i2 :: .code k3 :: .inLoop l2 :: .inBlock 2 :: K) ⟨[(4, x4), (6, x6), (8, x8), (34, x34)], 66, m⟩ := den_flat hf (l := [r9, i2, k3]) (by kernel_rfl) _ _
theorem r9_eq : den prog ann 36 (.code r9 :: K) s = mreg prog ann 36 (some [4, 6, 8, 34]) [] none [] [⟨some 35, none, .n fun s => (s.get 34)⟩,qF 36 fun s => extA (s.get 35) 0] K s := (den_reg hf _ K s).trans (by kernel_rfl)
theorem i2_eq : den prog ann 36 (.code i2 :: K) s = ifV prog ann 36 36 i2t i2e K s (s.get 36) := den_if hf (by kernel_rfl) K s
theorem i2t_eq : den prog ann 36 (.code i2t :: K) s = den prog ann 36 (K) s := den_flat hf (l := []) (by kernel_rfl) K s
theorem i2e_eq : den prog ann 36 (.code i2e :: K) s = den prog ann 36 (.code (.exit 2) :: K) s := den_flat hf (l := [(.exit 2)]) (by kernel_rfl) K s
theorem k3_eq : den prog ann 36 (.code k3 :: K) s = den prog ann 36 (.code r10 :: .code r11 :: .code k4 :: .inBlock 3 :: K) s := den_blk hf (b := blkOf k3) (l := [r10, r11, k4]) (by kernel_rfl) (by kernel_rfl) K s
theorem r10_eq : den prog ann 36 (.code r10 :: K) s = mreg prog ann 36 none [] none [9] [qF 37 fun s => curA s.m (s.get 34),qF 38 fun s => extA (s.get 37) 0,⟨some 9, none, .w false none fun s => newPtr s.m [.int .i64 0, .int .i64 0, .int .i64 0, .int .i64 0]⟩,⟨none, none, .w false none fun s => stA true 4 s.m (s.get 9) (s.get 38)⟩] K s := (den_reg hf _ K s).trans (by kernel_rfl)
theorem r11_eq : den prog ann 36 (.code r11 :: K) s = mreg prog ann 36 none [] none [] [qC 39 4,qA 40 (loadF true 4) 9,⟨some 41, none, .c 0 (fun s => (.fn 73 [] [])) fun s => [(s.get 39), (s.get 40)]⟩,qA 42 lenSl 41,qF 43 fun s => some (.int .i64 0)] K s := (den_reg hf _ K s).trans (by kernel_rfl)
theorem k4_eq (K : List Item) (t : List (Nat × AV)) (m : Mem) : den prog ann 36 (.code k4 :: K) ⟨t, 66, m⟩ = L4 (get t 4) (get t 6) (get t 8) (get t 9) (get t 34) (get t 41) (get t 42) (get t 43) m K := den_loop_enter hf (b := l4) (id := 12) (l := [4, 6, 8, 9, 34, 41, 42, 43]) (by kernel_rfl) (by kernel_rfl) (by kernel_rfl) K _
theorem l4_eq (K : List Item) (t : List (Nat × AV)) (m : Mem) : den prog ann 36 (.inLoop l4 :: .inBlock 4 :: K) ⟨t, 66, m⟩ = L4 (get t 4) (get t 6) (get t 8) (get t 9) (get t 34) (get t 41) (get t 42) (get t 43) m K := den_loop_again hf (id := 12) (l := [4, 6, 8, 9, 34, 41, 42, 43]) (by kernel_rfl) (by kernel_rfl) (.inBlock 4 :: K) _
theorem L4_eq (x4 x6 x8 x9 x34 x41 x42 x43 : AV) (m : Mem) (K : List Item) : L4 x4 x6 x8 x9 x34 x41 x42 x43 m K = den prog ann 36 (.code r12 :: .code i3 :: .code k5 :: .code r16 :: .inLoop l4 :: .inBlock 4 :: K) ⟨[(4, x4), (6, x6), (8, x8), (9, x9), (34, x34), (41, x41), (42, x42), (43, x43)], 66, m⟩ := den_flat hf (l := [r12, i3, k5, r16]) (by kernel_rfl) _ _
theorem r12_eq : den prog ann 36 (.code r12 :: K) s = mreg prog ann 36 (some [4, 6, 8, 9, 34, 41, 42, 43]) [] none [] [qB 44 (binA prog .lss 3) 43 42] K s := (den_reg hf _ K s).trans (by kernel_rfl)
theorem i3_eq : den prog ann 36 (.code i3 :: K) s = ifV prog ann 36 44 i3t i3e K s (s.get 44) := den_if hf (by kernel_rfl) K s
theorem i3t_eq : den prog ann 36 (.code i3t :: K) s = den prog ann 36 (K) s := den_flat hf (l := []) (by kernel_rfl) K s
theorem i3e_eq : den prog ann 36 (.code i3e :: K) s = den prog ann 36 (.code (.exit 4) :: K) s := den_flat hf (l := [(.exit 4)]) (by kernel_rfl) K s
theorem k5_eq : den prog ann 36 (.code k5 :: K) s = den prog ann 36 (.code r13 :: .code r14 :: .code r15 :: .inBlock 5 :: K) s := den_blk hf (b := blkOf k5) (l := [r13, r14, r15]) (by kernel_rfl) (by kernel_rfl) K s
theorem r13_eq : den prog ann 36 (.code r13 :: K) s = mreg prog ann 36 none [] none [11] [qB 45 (idxSl 4) 41 43,qA 46 (loadF true 4) 45,⟨some 11, none, .w false none fun s => newPtr s.m [.int .i64 0, .int .i64 0, .int .i64 0, .int .i64 0]⟩,⟨none, none, .w false none fun s => stA true 4 s.m (s.get 11) (s.get 46)⟩] K s := (den_reg hf _ K s).trans (by kernel_rfl)
theorem r14_draw : drawOk (fun g => (ann g).pure) (modeOf (ann 36) (idOf r14)) (frzOf (ann 36) (idOf r14)) (opsOf r14) = true := drawOk_of (an := [0, 0, 3, 0, 0, 24, 63, 59, 187, 511]) (by kernel_rfl) (by kernel_rfl)
theorem r14_eq : den prog ann 36 (.code r14 :: K) s = mreg prog ann 36 none [] (some 10) [] [qC 47 6,qA 48 (loadF true 4) 11,qF 49 fun s => lookP prog s.m 99 (.int .i64 0) (s.get 47) (s.get 48) false,qC 50 6,qA 51 (loadF true 4) 9,qF 52 fun s => lookP prog s.m 99 (.int .i64 0) (s.get 50) (s.get 51) false,qB 53 (binA prog .add 3) 49 52,⟨some 54, none, .w false (some 7) fun s => entP prog s.m 99 (.int .i64 0) (s.get 47) (s.get 48)⟩,qF 55 fun s => extA (s.get 54) 1,⟨none, none, .w false (some 9) fun s => entS s.m (s.get 47) (s.get 55) (s.get 53)⟩] K s := (den_regD hf r14_draw K s).trans (by kernel_rfl)
theorem r15_eq : den prog ann 36 (.code r15 :: K) s = mreg prog ann 36 none [] none [] [qC 56 8,qA 57 (loadF true 4) 11,⟨none, none, .w false none fun s => updM prog s.m 99 (s.get 56) (s.get 57) (.bool true)⟩] K s := (den_reg hf _ K s).trans (by kernel_rfl)
theorem r16_eq : den prog ann 36 (.code r16 :: K) s = mreg prog ann 36 (some [4, 6, 8, 9, 34, 41, 42, 43]) [] none [] [qF 58 fun s => binA prog .add 3 (s.get 43) (.int .i64 1),qC 43 58] K s := (den_reg hf _ K s).trans (by kernel_rfl)
theorem r17_eq : den prog ann 36 (.code r17 :: K) s = mreg prog ann 36 (some [4, 6, 8]) [] none [] [qC 59 8,qC 7 59] K s := (den_reg hf _ K s).trans (by kernel_rfl)
theorem r18_eq : den prog ann 36 (.code r18 :: K) s = mreg prog ann 36 (some [4, 6]) [] none [] [qC 60 6,qC 61 4,qA 62 nilA 61,qA 63 (fieldA 1) 62,qA 64 (loadF true 4) 63,qF 65 fun s => lookP prog s.m 99 (.int .i64 0) (s.get 60) (s.get 64) false,qC 2 65,qF 3 fun s => some (.int .i64 0)] K s := (den_reg hf _ K s).trans (by kernel_rfl)
theorem ret_eq : den prog ann 36 (.code .ret :: K) s = finM true [fun s => some (s.get 2), fun s => some (s.get 3)] s := (den_ret hf K s).trans (by kernel_rfl)
theorem nil_eq (s : St) : den prog ann 36 [] s = finM true [fun s => some (s.get 2), fun s => some (s.get 3)] s := (den_nil hf s).trans (by kernel_rfl)
theorem inBlock_eq (id : Nat) (K : List Item) (s : St) : den prog ann 36 (.inBlock id :: K) s = den prog ann 36 K s := den_inBlock hf id K s
theorem exit_eq (id : Nat) (K : List Item) (s : St) : den prog ann 36 (.code (.exit id) :: K) s = exitV prog ann 36 (exitTo id K) s := den_exitV hf id K s
theorem call_eq (v0 : AV) (m : Mem) (h : closedL [v0] = true) : denC prog ann 36 [v0] m = (den prog ann 36 [.code b] ⟨[(0, v0)], 66, Mem.empty⟩).bind fun r => some (r.1, m) := (denC_pure hf (b := b) (by kernel_rfl) (by kernel_rfl) (by kernel_rfl) h m).trans (by kernel_rfl)
theorem pure_eq : (ann 36).pure = true := by kernel_rfl
attribute [simp] b_eq r0_eq r1_eq r2_eq i0_eq i0t_eq r3_eq i0e_eq r4_eq r5_eq k0_eq l0_eq r6_eq i1_eq i1t_eq i1e_eq k1_eq r7_eq r8_eq k2_eq l2_eq r9_eq i2_eq i2t_eq i2e_eq k3_eq r10_eq r11_eq k4_eq l4_eq r12_eq i3_eq i3t_eq i3e_eq k5_eq r13_eq r14_eq r15_eq r16_eq r17_eq r18_eq ret_eq nil_eq inBlock_eq exit_eq pure_eq
end
end watch_Courses
end Go.Proofs.Ytdkmepjedjclkaa

/-
  Courses (the program's): its loops. Conditions: none.
-/
namespace Go.Proofs.Ytdkmepjedjclkaa
open Go.AM
open Go.Proofs.Try (prog)
set_option linter.all false
set_option maxRecDepth 100000
set_option maxHeartbeats 4000000
theorem frz1_map (t : List (Nat × AV)) (n : Nat) (m : Mem) : frz1 ⟨t, n, m⟩ 800007 = (frzM (AM.get t 7) m).bind fun r => St.put ⟨t, n, r.2⟩ (some 7) r.1 := rfl
section
variable {sv : AV} {D : List Int} {N : List Note} {K : List (List (List Int))}
theorem nx4_len (c : List Int) : (nx4 D K c).length ≤ D.length := by
  have key : ∀ (j : Nat), (nextR (pad D) K D.length c j).length ≤ j := by
    intro j
    induction j with
    | zero => simp [nextR]
    | succ j ih => rw [nextR, List.length_append]; split <;> simp <;> omega
  exact key _
theorem nx4_four (kk : Clocks D N K) {c : List Int} (hc : IsCut D.length (pad D) c) : Four (nx4 D K c) := fun d hd => (nx_is kk hc hd).1.len
theorem cou_inner (kk : Clocks D N K) (s : IsStory sv D.length (pad D) K) {k : Nat} {Z : List (List Int)} {c : List Int} (hc : IsCut D.length (pad D) c) (hcs : dsum D c = k) {wid lid tid : Nat} (h1 : wid ≠ lid) (h2 : wid ≠ tid) (h3 : lid ≠ tid) {O : Option AObj} (Kc : List Item) :
    ∀ (r j : Nat) (m : Mem) (W Lt : Ents) (g g' : Nat), j + r = (nx4 D K c).length → RoundI D N K k Z c ((nx4 D K c).take j) W Lt → m.h wid = some (.map g (keysL W) (valsL W)) → m.h lid = some (.map g' (keysL Lt) (valsL Lt)) → m.h tid = O → wid < m.nx → lid < m.nx → tid < m.nx →
    ∃ (m' : Mem) (W' Lt' : Ents) (q q' : Nat), RoundI D N K k Z c (nx4 D K c) W' Lt' ∧ m'.h wid = some (.map q (keysL W') (valsL W')) ∧ m'.h lid = some (.map q' (keysL Lt') (valsL Lt')) ∧ m'.h tid = O ∧ wid < m'.nx ∧ lid < m'.nx ∧ tid < m'.nx ∧
      watch_Courses.L4 sv (.map wid) (.map lid) (.fptr (ints c)) (.iter tid) (nextV (nx4 D K c)) (.int .i64 (nx4 D K c).length) (.int .i64 j) m (.inBlock 3 :: .inLoop watch_Courses.l2 :: .inBlock 2 :: Kc) = watch_Courses.L2 sv (.map wid) (.map lid) (.iter tid) m' Kc := by
  have hn4 := s.n4
  have hc4 := hc.len
  have htc : (ints c).take 4 = ints c := List.take_of_length_le (by simp [hc4])
  simp at htc
  have hNl := nx4_len (D := D) (K := K) c
  have hA := nx4_four kk hc
  have hav := nextV_is (nx4 D K c)
  have hnd : (nx4 D K c).Nodup := nextR_nodup (by omega)
  have hnx := fun d (hd : d ∈ nx4 D K c) => nx_is kk hc hd
  generalize nx4 D K c = NL at *
  have b1 : (lid == wid) = false := beq_eq_false_iff_ne.2 (fun e => h1 e.symm)
  have b2 : (tid == wid) = false := beq_eq_false_iff_ne.2 (fun e => h2 e.symm)
  have b3 : (tid == lid) = false := beq_eq_false_iff_ne.2 (fun e => h3 e.symm)
  have b4 : (wid == lid) = false := beq_eq_false_iff_ne.2 h1
  intro r
  induction r with
  | zero =>
    intro j m W Lt g g' hj ri mw ml mt w1 w2 w3
    have e : j = NL.length := by omega
    rw [e, List.take_length] at ri
    refine ⟨m, W, Lt, g, g', ri, mw, ml, mt, w1, w2, w3, ?_⟩
    rw [watch_Courses.L4_eq]
    simp [e]
    done
  | succ r ih =>
    intro j m W Lt g g' hj ri mw ml mt w1 w2 w3
    have hjl : j < NL.length := by omega
    have hget : NL[j]? = some (cth NL j) := cth_eq hjl
    obtain ⟨_, hge⟩ := List.getElem?_eq_some_iff.1 hget
    have hdm : cth NL j ∈ NL := List.mem_of_getElem? hget
    have hd := hnx _ hdm
    have hidx := hav.idx hA.cells hjl .i64
    have hld := load_cut hA hjl
    have hnotin : cth NL j ∉ NL.take j := by
      intro hx
      obtain ⟨i, hi, hie⟩ := List.getElem_of_mem hx
      rw [List.length_take] at hi
      rw [List.getElem_take] at hie
      exact List.pairwise_iff_getElem.1 hnd i j (by omega) hjl (by omega) (by rw [hie, hge])
    have hA' : ∀ d, d ∈ NL.take (j + 1) ↔ d = cth NL j ∨ d ∈ NL.take j := by
      intro d
      rw [List.take_add_one, hget]
      simp only [Option.toList_some, List.mem_append, List.mem_singleton]
      exact Or.comm
    have rs := ri.step hc hcs hd.1 (by rw [hd.2.1, hcs]) hnotin hA'
    generalize cth NL j = d at *
    have hd4 := hd.1.len
    have htd : (ints d).take 4 = ints d := List.take_of_length_le (by simp [hd4])
    simp at htd
    obtain ⟨g2, ks, vs, st, hent⟩ := ent99 ri.w4 ri.wi hd4 g
    have hwr : IntKind.wrap .i64 ((j : Int) + 1) = (j : Int) + 1 := wrap_id (by omega) (by omega)
    have n1 : (wid == m.nx) = false := beq_eq_false_iff_ne.2 (by omega)
    have n2 : (lid == m.nx) = false := beq_eq_false_iff_ne.2 (by omega)
    have n3 : (tid == m.nx) = false := beq_eq_false_iff_ne.2 (by omega)
    have look1 := fun (h : Nat → Option AObj) (hh : h wid = some (.map g (keysL W) (valsL W))) (x : Nat) => lookI99 (m := ⟨h, x⟩) ri.w4 ri.wi hd4 hh
    have look2 := fun (h : Nat → Option AObj) (hh : h wid = some (.map g (keysL W) (valsL W))) (x : Nat) => lookI99 (m := ⟨h, x⟩) ri.w4 ri.wi hc4 hh
    have hupd := fun (h : Nat → Option AObj) (hh : h lid = some (.map g' (keysL Lt) (valsL Lt))) (x : Nat) => upd99 (v := .bool true) (m := ⟨h, x⟩) hh ri.l4 hd4
    obtain ⟨m', W', Lt', q, q', a1, a2, a3, a4, a5, a6, a7, a8⟩ := ih (j + 1) ⟨upd (upd (upd m.h m.nx none) wid (some (.map (g2 + 1) (keysL (setL W d (.int .i64 (IntKind.wrap .i64 (gI W d + gI W c))))) (valsL (setL W d (.int .i64 (IntKind.wrap .i64 (gI W d + gI W c)))))))) lid (some (.map (g' + 1) (keysL (setL Lt d (.bool true))) (valsL (setL Lt d (.bool true))))), m.nx + 1 + 10⟩ _ _ (g2 + 1) (g' + 1) (by omega) rs (by simp [b4]) (by simp) (by simp [b2, b3, n3, mt]) (by show wid < m.nx + 1 + 10; omega) (by show lid < m.nx + 1 + 10; omega) (by show tid < m.nx + 1 + 10; omega)
    refine ⟨m', W', Lt', q, q', a1, a2, a3, a4, a5, a6, a7, ?_⟩
    simp only [Int.natCast_add, Int.cast_ofNat_Int] at a8
    obtain ⟨e1, e2⟩ := hent (hp := upd m.h m.nx none) (id := wid) (by simp [n1, mw]) (m.nx + 1 + 7)
    have e3 := e2 (upd (upd m.h m.nx none) wid (some (.map g2 ks vs))) (by simp) (m.nx + 1 + 9)
    have l1 := look1 (upd m.h m.nx none) (by simp [n1, mw])
    have l2 := look2 (upd m.h m.nx none) (by simp [n1, mw])
    have u1 := hupd (upd (upd m.h m.nx none) wid (some (.map (g2 + 1) (keysL (setL W d (.int .i64 (IntKind.wrap .i64 (gI W d + gI W c))))) (valsL (setL W d (.int .i64 (IntKind.wrap .i64 (gI W d + gI W c)))))))) (by simp [b1, n2, ml])
    rw [← a8, watch_Courses.L4_eq]
    simp [hjl, hidx, hld, hd4, htd, hc4, htc, l1, l2, e1, e3, u1, hwr, Mem.set]
    done
theorem RoundI.re {k : Nat} {Z : List (List Int)} {c c' : List Int} {W Lt : Ents} (r : RoundI D N K k Z c [] W Lt) : RoundI D N K k Z c' [] W Lt :=
  ⟨r.w4, r.wi, r.l4, r.old, fun d h1 h2 => by have := r.new d h1 h2; simpa using this, r.far, r.lt, r.nd⟩
theorem keysL_erase (R : Ents) (i : Nat) : (keysL R).eraseIdx i = keysL (R.eraseIdx i) := (erase_map _ R i).symm
theorem valsL_erase (R : Ents) (i : Nat) : (valsL R).eraseIdx i = valsL (R.eraseIdx i) := (erase_map _ R i).symm
theorem mem_erase {R : Ents} (hn : (R.map (·.1)).Nodup) {i : Nat} {e : List Int × AV} (h : R[i]? = some e) : ((R.eraseIdx i).map (·.1)).Nodup ∧ ∀ x, x ∈ R.map (·.1) ↔ x = e.1 ∨ x ∈ (R.eraseIdx i).map (·.1) ∧ True := by
  induction R generalizing i with
  | nil => simp at h
  | cons a R ih =>
    have hn' : a.1 ∉ R.map (·.1) ∧ (R.map (·.1)).Nodup := List.nodup_cons.1 hn
    cases i with
    | zero =>
      simp at h
      subst h
      exact ⟨hn'.2, fun x => by simp⟩
    | succ i =>
      have h' : R[i]? = some e := by simpa using h
      obtain ⟨i1, i2⟩ := ih hn'.2 h'
      refine ⟨?_, fun x => ?_⟩
      · rw [List.eraseIdx_cons_succ, List.map_cons, List.nodup_cons]
        exact ⟨fun x => hn'.1 ((i2 _).2 (.inr ⟨x, trivial⟩)), i1⟩
      · rw [List.eraseIdx_cons_succ, List.map_cons, List.map_cons, List.mem_cons, List.mem_cons, i2]
        constructor
        · rintro (x | x | ⟨x, _⟩)
          · exact .inr ⟨.inl x, trivial⟩
          · exact .inl x
          · exact .inr ⟨.inr x, trivial⟩
        · rintro (x | ⟨x | x, _⟩)
          · exact .inr (.inl x)
          · exact .inl x
          · exact .inr (.inr ⟨x, trivial⟩)
theorem not_erase {R : Ents} (hn : (R.map (·.1)).Nodup) {i : Nat} {e : List Int × AV} (h : R[i]? = some e) : e.1 ∉ (R.eraseIdx i).map (·.1) := by
  induction R generalizing i with
  | nil => simp at h
  | cons a R ih =>
    have hn' : a.1 ∉ R.map (·.1) ∧ (R.map (·.1)).Nodup := List.nodup_cons.1 hn
    cases i with
    | zero => simp at h; subst h; exact hn'.1
    | succ i =>
      have h' : R[i]? = some e := by simpa using h
      rw [List.eraseIdx_cons_succ, List.map_cons, List.mem_cons]
      rintro (x | x)
      · have : e.1 ∈ R.map (·.1) := List.mem_map.2 ⟨e, List.mem_of_getElem? h', rfl⟩
        rw [x] at this; exact hn'.1 this
      · exact ih hn'.2 h' x
theorem cou_range (kk : Clocks D N K) (s : IsStory sv D.length (pad D) K) {k : Nat} {W0 Lv : Ents} (lev : LevelI D N K k W0 Lv) {wid lid tid : Nat} (h1 : wid ≠ lid) (h2 : wid ≠ tid) (h3 : lid ≠ tid) (K0 : List Item) {res : Res}
    (post : ∀ (m' : Mem) (W' Lt' : Ents) (g g' : Nat), LevelI D N K (k + 1) W' Lt' → m'.h wid = some (.map g (keysL W') (valsL W')) → m'.h lid = some (.map g' (keysL Lt') (valsL Lt')) → wid < m'.nx → lid < m'.nx → watch_Courses.L0 sv (.map wid) (.map lid) m' K0 = some res) :
    ∀ (n : Nat) (R : Ents) (Z : List (List Int)) (m : Mem) (W Lt : Ents) (g g' : Nat) (cur : List AV), R.length = n → RoundI D N K k Z [] [] W Lt → Z.Nodup → (R.map (·.1)).Nodup → (∀ x ∈ Z, x ∉ R.map (·.1)) → (∀ x, x ∈ Lv.map (·.1) ↔ x ∈ Z ∨ x ∈ R.map (·.1)) →
    m.h wid = some (.map g (keysL W) (valsL W)) → m.h lid = some (.map g' (keysL Lt) (valsL Lt)) → m.h tid = some (.iter cur (keysL R) (valsL R)) → wid < m.nx → lid < m.nx → tid < m.nx →
    watch_Courses.L2 sv (.map wid) (.map lid) (.iter tid) m (.code watch_Courses.r17 :: .inBlock 1 :: .inLoop watch_Courses.l0 :: .inBlock 0 :: K0) = some res := by
  have hfz := s.frz
  have hscl := s.closed
  have b2 : (tid == wid) = false := beq_eq_false_iff_ne.2 (fun e => h2 e.symm)
  have b3 : (tid == lid) = false := beq_eq_false_iff_ne.2 (fun e => h3 e.symm)
  have c2 : (wid == tid) = false := beq_eq_false_iff_ne.2 h2
  have c3 : (lid == tid) = false := beq_eq_false_iff_ne.2 h3
  intro n
  induction n with
  | zero =>
    intro R Z m W Lt g g' cur hR ri hZ hRn hdis hcov mw ml mt w1 w2 w3
    have : R = [] := by simpa using hR
    subst this
    have l' := lev.next kk hZ (fun x => by rw [hcov]; simp) ri
    have := post m W Lt g g' l' mw ml w1 w2
    rw [watch_Courses.L2_eq, ← this]
    simp [nextM_nil (s := ⟨[(4, sv), (6, .map wid), (8, .map lid), (34, .iter tid)], 66, m⟩) mt]
    done
  | succ n ih =>
    intro R Z m W Lt g g' cur hR ri hZ hRn hdis hcov mw ml mt w1 w2 w3
    have hne : keysL R ≠ [] := by
      intro e
      have := congrArg List.length e
      simp [keysL, hR] at this
    rw [watch_Courses.L2_eq]
    simp only [watch_Courses.r9_eq]
    simp
    refine nextM_cons (s := ⟨[(4, sv), (6, .map wid), (8, .map lid), (34, .iter tid)], 66, m⟩) mt hne (by simp [keysL, valsL]) fun i a v ha hv => ?_
    obtain ⟨e, he⟩ : ∃ e, R[i]? = some e := by
      have hi := (List.getElem?_eq_some_iff.1 ha).1
      exact ⟨_, List.getElem?_eq_getElem (by simpa [keysL] using hi)⟩
    have ha' : a = .agg (ints e.1) := by
      simp only [keysL, List.getElem?_map, he, Option.map_some] at ha
      exact (Option.some.inj ha).symm
    subst ha'
    rw [keysL_erase, valsL_erase]
    have hmem : e.1 ∈ R.map (·.1) := List.mem_map.2 ⟨e, List.mem_of_getElem? he, rfl⟩
    obtain ⟨hc, hpos⟩ := (lev.mem e.1).1 ((hcov _).2 (.inr hmem))
    have hcs : dsum D e.1 = k := ways_sum kk.P.L hpos
    obtain ⟨q1, q2⟩ := mem_erase hRn he
    have q3 := not_erase hRn he
    have hnx := fun m => next_spec s hc m
    have hZe : e.1 ∉ Z := fun x => hdis _ x hmem
    have hlen : (R.eraseIdx i).length = n := by
      have := List.length_eraseIdx_of_lt (List.getElem?_eq_some_iff.1 he).1
      omega
    have hn1 : (wid == m.nx) = false := beq_eq_false_iff_ne.2 (by omega)
    have hn2 : (lid == m.nx) = false := beq_eq_false_iff_ne.2 (by omega)
    have hn3 : (tid == m.nx) = false := beq_eq_false_iff_ne.2 (by omega)
    generalize R.eraseIdx i = R' at *
    generalize e.1 = c at *
    have hc4 := hc.len
    have htc : (ints c).take 4 = ints c := List.take_of_length_le (by simp [hc4])
    simp at htc
    obtain ⟨m', W', Lt', p, p', a1, a2, a3, a4, a5, a6, a7, a8⟩ := cou_inner kk s (Z := Z) hc hcs h1 h2 h3 (O := some (.iter [.agg (ints c), v] (keysL R') (valsL R'))) (.code watch_Courses.r17 :: .inBlock 1 :: .inLoop watch_Courses.l0 :: .inBlock 0 :: K0) (nx4 D K c).length 0 ⟨upd (upd m.h tid (some (.iter [.agg (ints c), v] (keysL R') (valsL R')))) m.nx none, m.nx + 1⟩ W Lt g g' (by omega) (by rw [List.take_zero]; exact ri.re) (by simp [hn1, c2, mw]) (by simp [hn2, c3, ml]) (by simp [hn3]) (by show wid < m.nx + 1; omega) (by show lid < m.nx + 1; omega) (by show tid < m.nx + 1; omega)
    have fin := ih R' (c :: Z) m' W' Lt' p p' [.agg (ints c), v] hlen ((a1.done []).re) (List.nodup_cons.2 ⟨hZe, hZ⟩) q1 (fun x hx => by
        rcases List.mem_cons.1 hx with rfl | hx
        · exact q3
        · exact fun y => hdis x hx ((q2 x).2 (.inr ⟨y, trivial⟩))) (fun x => by
        rw [hcov, q2, List.mem_cons]
        constructor
        · rintro (y | y | ⟨y, _⟩)
          · exact .inl (.inr y)
          · exact .inl (.inl y)
          · exact .inr y
        · rintro ((y | y) | y)
          · exact .inr (.inl y)
          · exact .inl y
          · exact .inr (.inr ⟨y, trivial⟩)) a2 a3 a4 a5 a6 a7
    rw [← fin, ← a8]
    have hl := (nextV_is (nx4 D K c)).len
    simp [Mem.set, curA, hn3, hc4, htc, hscl, hnx, hl]
    done
theorem lk_nodup : ∀ {L : Ents} {e : List Int × AV}, (L.map (·.1)).Nodup → e ∈ L → lkL L e.1 = some e.2
  | a :: L, e, hn, he => by
    have hn' : a.1 ∉ L.map (·.1) ∧ (L.map (·.1)).Nodup := List.nodup_cons.1 hn
    rw [lkL]
    rcases List.mem_cons.1 he with rfl | he
    · rw [if_pos rfl]
    · rw [if_neg (fun x => hn'.1 (by rw [x]; exact List.mem_map.2 ⟨e, he, rfl⟩))]
      exact lk_nodup hn'.2 he
theorem LevelI.closed {k : Nat} {W Lv : Ents} (l : LevelI D N K k W Lv) : closedL (valsL Lv) = true := by
  have key : ∀ L : Ents, (∀ e ∈ L, e.2 = .bool true) → closedL (valsL L) = true := by
    intro L
    induction L with
    | nil => intro _; rfl
    | cons e L ih =>
      intro h
      have := ih fun x hx => h x (by simp [hx])
      simp only [valsL] at this
      simp [valsL, h e (by simp), this]
  refine key Lv fun e he => ?_
  have := lk_nodup l.nd he
  rw [l.lv] at this
  split at this
  · exact (Option.some.inj this).symm
  · cases this
theorem cou_levels (kk : Clocks D N K) (s : IsStory sv D.length (pad D) K) (rc : Reach D N D) : ∀ (n k : Nat) (m : Mem) (W Lv : Ents) (g g' wid lid : Nat), n + k = D.sum.toNat → LevelI D N K k W Lv → m.h wid = some (.map g (keysL W) (valsL W)) → m.h lid = some (.map g' (keysL Lv) (valsL Lv)) → wid ≠ lid → wid < m.nx → lid < m.nx →
    watch_Courses.L0 sv (.map wid) (.map lid) m [.code watch_Courses.r18, .code .ret] = some (.tup [.int .i64 (IntKind.wrap .i64 (waysN D N D.sum.toNat D)), .int .i64 0], Mem.empty) := by
  have hfz := s.frz
  have hscl := s.closed
  have hpc := isCut_pad kk.P
  have hp4 := hpc.len
  obtain ⟨V, e0, hV, hS⟩ := s.V
  have hld : loadF true 4 (.fptr (ints (pad D) ++ V)) = some (.agg (ints (pad D))) := by
    have hle : 4 ≤ (ints (pad D) ++ V).length := by simp [hp4]
    have ht : (ints (pad D) ++ V).take 4 = ints (pad D) := by rw [List.take_append_of_le_length (by simp [hp4]), List.take_of_length_le (by simp [hp4])]
    simp only [loadF, ht, cond_true, Nat.ble_eq_true_of_le hle]
  have hfa : fieldA 1 sv = some (.fptr (ints (pad D) ++ V)) := by rw [e0]; rfl
  have hni : nilA sv = some sv := by rw [e0]; rfl
  have hsum0 : 0 ≤ D.sum := by
    obtain ⟨w, g, e⟩ := word_reach kk.P rc
    have := cntW_sum D.length w (good_lt w g)
    rw [e] at this; omega
  intro n
  induction n with
  | zero =>
    intro k m W Lv g g' wid lid hk lev mw ml hne w1 w2
    have hks : (k : Int) = D.sum := by omega
    have hst := lev.stop kk.P rc
    rw [if_pos hks] at hst
    have l1 := lookM99 ml lev.l4 hp4 (.bool false) false
    rw [hst] at l1
    have l2 := lookI99 lev.w4 lev.wi hp4 mw
    rw [lev.old _ hpc (by rw [dsum, pad_takeD]; omega), W4, pad_takeD, show k = D.sum.toNat by omega] at l2
    simp only [cond_false] at l1
    rw [watch_Courses.L0_eq]
    simp [hni, hfa, hld, l1, l2]
    done
  | succ n ih =>
    intro k m W Lv g g' wid lid hk lev mw ml hne w1 w2
    have hks : ¬ (k : Int) = D.sum := by omega
    have hst := lev.stop kk.P rc
    rw [if_neg hks] at hst
    have l1 := lookM99 ml lev.l4 hp4 (.bool false) false
    rw [hst] at l1
    simp only [cond_false] at l1
    have n1 : (wid == m.nx) = false := beq_eq_false_iff_ne.2 (by omega)
    have n2 : (lid == m.nx) = false := beq_eq_false_iff_ne.2 (by omega)
    have n3 : (wid == m.nx + 1) = false := beq_eq_false_iff_ne.2 (by omega)
    have n4 : (wid == lid) = false := beq_eq_false_iff_ne.2 hne
    have n5 : (m.nx == lid) = false := beq_eq_false_iff_ne.2 (by omega)
    have n6 : (m.nx == m.nx + 1) = false := beq_eq_false_iff_ne.2 (by omega)
    have hcl := lev.closed
    have hck := keysL_closed Lv
    have fin := cou_range kk s lev (wid := wid) (lid := m.nx) (tid := m.nx + 1) (by omega) (by omega) (by omega) [.code watch_Courses.r18, .code .ret] (res := (.tup [.int .i64 (IntKind.wrap .i64 (waysN D N D.sum.toNat D)), .int .i64 0], Mem.empty)) (fun m' W' Lt' q q' l' a b w1 w2 => ih (k + 1) m' W' Lt' q q' wid m.nx (by omega) l' a b (by omega) w1 w2)
      Lv.length Lv [] ⟨upd (upd (upd m.h m.nx (some (.map 0 [] []))) lid none) (m.nx + 1) (some (.iter [] (keysL Lv) (valsL Lv))), m.nx + 1 + 1⟩ W [] g 0 [] rfl (lev.start []) List.nodup_nil lev.nd (fun _ h => by cases h) (fun x => by simp) (by simp [n1, n3, n4, mw]) (by simp [n5, n6, keysL, valsL]) (by simp) (by show wid < m.nx + 1 + 1; omega) (by show m.nx < m.nx + 1 + 1; omega) (by show m.nx + 1 < m.nx + 1 + 1; omega)
    rw [← fin, watch_Courses.L0_eq]
    simp [hni, hfa, hld, l1, frz1_map, frzM, n2, ml, hcl, hck, rangeA, Mem.set, Mem.new]
    done
end
structure CouRes (D : List Int) (N : List Note) (v : Int) (e : Int) : Prop where
  ok : ValidS D N → v = IntKind.wrap .i64 (waysN D N D.sum.toNat D) ∧ e = 0
  no : ¬ ValidS D N → v = 0 ∧ e = 1
theorem cou_spec {v : AV} {D : List Int} {N : List Note} (hs : IsTale v D N) (hl : D.length < 100000) (hn : N.length < 100000) :
    ∃ r e, CouRes D N r e ∧ ∀ m, denC prog ann 36 [v] m = some (.tup [.int .i64 r, .int .i64 e], m) := by
  have hs' := hs
  obtain ⟨r, hr, er⟩ := readV_spec hs hl hn
  obtain ⟨vD, vN, rfl, h1, h2⟩ := hs.ex
  have hcl : closedL [.agg [vD, vN]] = true := by simp [h1.closed, h2.closed]
  cases hr with
  | no h =>
    refine ⟨0, 1, ⟨fun v => absurd v h, fun _ => ⟨rfl, rfl⟩⟩, fun m => ?_⟩
    rw [watch_Courses.call_eq _ _ hcl]
    simp [h1.one, h2.one, h1.closed, h2.closed, er]
  | @ok sv K val kk s =>
    refine ⟨_, 0, ⟨fun _ => ⟨rfl, rfl⟩, fun h => absurd val h⟩, fun m => ?_⟩
    have fin := fun (m : Mem) (a : m.h 0 = some (.map 1 [.agg [.int .i64 0, .int .i64 0, .int .i64 0, .int .i64 0]] [.int .i64 1])) (b : m.h 1 = some (.map 1 [.agg [.int .i64 0, .int .i64 0, .int .i64 0, .int .i64 0]] [.bool true])) (c : 2 ≤ m.nx) => cou_levels kk s val.all D.sum.toNat 0 m _ _ 1 1 0 1 (by omega) (LevelI.zero kk.P) a b (by omega) (by omega) (by omega)
    have u1 := fun m => upd99 (L := []) (c := [0, 0, 0, 0]) (m := m) (id := 0) (g := 0) (v := .int .i64 1)
    have u2 := fun m => upd99 (L := []) (c := [0, 0, 0, 0]) (m := m) (id := 1) (g := 0) (v := .bool true)
    simp [keysL, valsL, setL, Keys4, Mem.set] at u1 u2
    rw [watch_Courses.call_eq _ _ hcl]
    simp [h1.one, h2.one, h1.closed, h2.closed, er, s.one, s.closed, u1, u2, fin]
    done
end Go.Proofs.Ytdkmepjedjclkaa

/-
  BODIES OF FUNCTIONS OF THE PROGRAM AS SMALL OPERATIONS (written by gen.py; checked by the kernel against the program). Conditions: none.
-/
namespace Go.Proofs.Ytdkmepjedjclkaa
open Go.AM
open Go.Proofs.Try (prog)
set_option maxRecDepth 100000
set_option linter.all false
end Go.Proofs.Ytdkmepjedjclkaa

/-
  WatchMattern RETURNS TRUE. Conditions: none.
-/
namespace Go.Proofs.Ytdkmepjedjclkaa
open Go.AM
open Go.Proofs.Try (prog)
set_option linter.all false
set_option maxRecDepth 100000
set_option maxHeartbeats 4000000
section
variable {D : List Int} {N : List Note} {K : List (List (List Int))}
variable {vD vN : AV}
end
end Go.Proofs.Ytdkmepjedjclkaa
