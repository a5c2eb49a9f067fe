/-
  BODIES OF FUNCTIONS OF THE PROGRAM AS SMALL OPERATIONS (written by gen.py; checked by the kernel against the program). Conditions: none.
-/
import Derived.Test.YtdkmepjedjclkaaKAmH
import Derived.Test.YtdkmepjedjclkaaK03
import Derived.Test.YtdkmepjedjclkaaK00
set_option linter.all false
namespace Go.Proofs.Ytdkmepjedjclkaa
open Go.AM
open Go.Proofs.Try (prog)
set_option maxRecDepth 100000
set_option linter.all false
namespace watch_story_next
noncomputable section
variable (K : List Item) (s : St)
def b : Code := (Try.f73.body).getD .skip
theorem hf : prog.funcs[73]? = some Try.f73 := by kernel_rfl
def r0 := findReg b 0
def r1 := findReg b 1
def r2 := findReg b 2
def k0 := findBlk b 0
def l0 := loopOf k0
def L0 (x0 x3 x5 x6 : AV) (m : Mem) (K : List Item) : Option Res := den prog ann 73 (.code l0 :: .inLoop l0 :: .inBlock 0 :: K) ⟨[(0, x0), (3, x3), (5, x5), (6, x6)], 43, m⟩
def r3 := findReg b 3
def i0 := findCond b 0
def i0t := thenOf i0
def i0e := elseOf i0
def k1 := findBlk b 1
def r5 := findReg b 5
def r6 := findReg b 6
def r7 := findReg b 7
def i1 := findCond b 1
def i1t := thenOf i1
def i1e := elseOf i1
def r8 := findReg b 8
def r4 := findReg b 4
def r9 := findReg b 9
theorem b_eq : den prog ann 73 (.code b :: K) s = den prog ann 73 (.code r0 :: .code r1 :: .code r2 :: .code k0 :: .code r9 :: .code .ret :: K) s := den_flat hf (l := [r0, r1, r2, k0, r9, .ret]) (by kernel_rfl) K s
theorem r0_eq : den prog ann 73 (.code r0 :: K) s = mreg prog ann 73 none [] none [] [qA 3 frozenPtr 1,qF 4 fun s => some (.nils)] K s := (den_reg hf _ K s).trans (by kernel_rfl)
theorem r1_eq : den prog ann 73 (.code r1 :: K) s = mreg prog ann 73 none [] none [] [qF 5 fun s => some (.nils)] K s := (den_reg hf _ K s).trans (by kernel_rfl)
theorem r2_eq : den prog ann 73 (.code r2 :: K) s = mreg prog ann 73 none [] none [] [qC 8 0,qA 9 nilA 8,qA 10 (fieldA 0) 9,qA 11 (loadF false 1) 10,qF 12 fun s => binA prog .sub 3 (s.get 11) (.int .i64 1),qC 6 12] K s := (den_reg hf _ K s).trans (by kernel_rfl)
theorem k0_eq (K : List Item) (t : List (Nat × AV)) (m : Mem) : den prog ann 73 (.code k0 :: K) ⟨t, 43, m⟩ = L0 (get t 0) (get t 3) (get t 5) (get t 6) m K := den_loop_enter hf (b := l0) (id := 3) (l := [0, 3, 5, 6]) (by kernel_rfl) (by kernel_rfl) (by kernel_rfl) K _
theorem l0_eq (K : List Item) (t : List (Nat × AV)) (m : Mem) : den prog ann 73 (.inLoop l0 :: .inBlock 0 :: K) ⟨t, 43, m⟩ = L0 (get t 0) (get t 3) (get t 5) (get t 6) m K := den_loop_again hf (id := 3) (l := [0, 3, 5, 6]) (by kernel_rfl) (by kernel_rfl) (.inBlock 0 :: K) _
theorem L0_eq (x0 x3 x5 x6 : AV) (m : Mem) (K : List Item) : L0 x0 x3 x5 x6 m K = den prog ann 73 (.code r3 :: .code i0 :: .code k1 :: .code r4 :: .inLoop l0 :: .inBlock 0 :: K) ⟨[(0, x0), (3, x3), (5, x5), (6, x6)], 43, m⟩ := den_flat hf (l := [r3, i0, k1, r4]) (by kernel_rfl) _ _
theorem r3_eq : den prog ann 73 (.code r3 :: K) s = mreg prog ann 73 (some [0, 3, 5, 6]) [] none [] [qC 13 6,qF 14 fun s => binA prog .geq 3 (s.get 13) (.int .i64 0)] K s := (den_reg hf _ K s).trans (by kernel_rfl)
theorem i0_eq : den prog ann 73 (.code i0 :: K) s = ifV prog ann 73 14 i0t i0e K s (s.get 14) := den_if hf (by kernel_rfl) K s
theorem i0t_eq : den prog ann 73 (.code i0t :: K) s = den prog ann 73 (K) s := den_flat hf (l := []) (by kernel_rfl) K s
theorem i0e_eq : den prog ann 73 (.code i0e :: K) s = den prog ann 73 (.code (.exit 0) :: K) s := den_flat hf (l := [(.exit 0)]) (by kernel_rfl) K s
theorem k1_eq : den prog ann 73 (.code k1 :: K) s = den prog ann 73 (.code r5 :: .code r6 :: .code r7 :: .code i1 :: .inBlock 1 :: K) s := den_blk hf (b := blkOf k1) (l := [r5, r6, r7, i1]) (by kernel_rfl) (by kernel_rfl) K s
theorem r5_eq : den prog ann 73 (.code r5 :: K) s = mreg prog ann 73 none [] none [] [qA 17 (loadF true 4) 3,⟨some 7, none, .w false none fun s => newPtr s.m [.int .i64 0, .int .i64 0, .int .i64 0, .int .i64 0]⟩,⟨none, none, .w false none fun s => stA true 4 s.m (s.get 7) (s.get 17)⟩] K s := (den_reg hf _ K s).trans (by kernel_rfl)
theorem r6_eq : den prog ann 73 (.code r6 :: K) s = mreg prog ann 73 none [] none [] [qC 18 6,qB 19 (idxArr 4 1) 7 18,qF 20 fun s => loadA false 1 s.m (s.get 19),qF 21 fun s => binA prog .add 3 (s.get 20) (.int .i64 1),qB 22 (idxArr 4 1) 7 18,⟨none, none, .w false none fun s => stA false 1 s.m (s.get 22) (s.get 21)⟩] K s := (den_reg hf _ K s).trans (by kernel_rfl)
theorem r7_draw : drawOk (fun g => (ann g).pure) (modeOf (ann 73) (idOf r7)) (frzOf (ann 73) (idOf r7)) (opsOf r7) = true := drawOk_of (an := [0, 1, 3, 0, 0, 8, 40, 120, 248, 511, 1023, 2047, 2047, 8191, 16383]) (by kernel_rfl) (by kernel_rfl)
theorem r7_eq : den prog ann 73 (.code r7 :: K) s = mreg prog ann 73 none [] (some 15) [] [qC 23 6,qB 24 (idxArr 4 1) 7 23,qF 25 fun s => loadA false 1 s.m (s.get 24),qC 26 0,qC 27 6,qA 28 nilA 26,qA 29 (fieldA 1) 28,qB 30 (idxArr 4 1) 29 27,qA 31 (loadF false 1) 30,qB 32 (binA prog .leq 3) 25 31,qC 33 32,⟨some 34, some (33, true), .v fun s => some (s.get 0)⟩,⟨some 35, some (33, true), .v fun s => loadA true 4 s.m (s.get 7)⟩,⟨some 36, some (33, true), .c 0 (fun s => (.fn 72 [] [])) fun s => [(s.get 34), (s.get 35)]⟩,qF 37 fun s => pickA (s.get 33) (s.get 36) (.bool false)] K s := (den_regD hf r7_draw K s).trans (by kernel_rfl)
theorem i1_eq : den prog ann 73 (.code i1 :: K) s = ifV prog ann 73 37 i1t i1e K s (s.get 37) := den_if hf (by kernel_rfl) K s
theorem i1t_eq : den prog ann 73 (.code i1t :: K) s = den prog ann 73 (.code r8 :: K) s := den_flat hf (l := [r8]) (by kernel_rfl) K s
theorem r8_eq : den prog ann 73 (.code r8 :: K) s = mreg prog ann 73 none [] none [] [qC 38 5,qF 39 fun s => loadA true 4 s.m (s.get 7),qF 40 fun s => bslF 1 (bslA 4 1 [.int .i64 0, .int .i64 0, .int .i64 0, .int .i64 0] [(0, (s.get 39))]),⟨some 41, none, .w false none fun s => appendA 4 32 s.m (s.get 38) (s.get 40)⟩,qC 5 41] K s := (den_reg hf _ K s).trans (by kernel_rfl)
theorem i1e_eq : den prog ann 73 (.code i1e :: K) s = den prog ann 73 (K) s := den_flat hf (l := []) (by kernel_rfl) K s
theorem r4_eq : den prog ann 73 (.code r4 :: K) s = mreg prog ann 73 (some [0, 3, 5, 6]) [] none [] [qC 15 6,qF 16 fun s => binA prog .sub 3 (s.get 15) (.int .i64 1),qC 6 16] K s := (den_reg hf _ K s).trans (by kernel_rfl)
theorem r9_eq : den prog ann 73 (.code r9 :: K) s = mreg prog ann 73 (some [5]) [] none [] [qC 42 5,qC 4 42] K s := (den_reg hf _ K s).trans (by kernel_rfl)
theorem ret_eq : den prog ann 73 (.code .ret :: K) s = finM true [fun s => some (s.get 4)] s := (den_ret hf K s).trans (by kernel_rfl)
theorem nil_eq (s : St) : den prog ann 73 [] s = finM true [fun s => some (s.get 4)] s := (den_nil hf s).trans (by kernel_rfl)
theorem inBlock_eq (id : Nat) (K : List Item) (s : St) : den prog ann 73 (.inBlock id :: K) s = den prog ann 73 K s := den_inBlock hf id K s
theorem exit_eq (id : Nat) (K : List Item) (s : St) : den prog ann 73 (.code (.exit id) :: K) s = exitV prog ann 73 (exitTo id K) s := den_exitV hf id K s
theorem call_eq (v0 v1 : AV) (m : Mem) (h : closedL [v0, v1] = true) : denC prog ann 73 [v0, v1] m = (den prog ann 73 [.code b] ⟨[(0, v0), (1, v1)], 43, Mem.empty⟩).bind fun r => some (r.1, m) := (denC_pure hf (b := b) (by kernel_rfl) (by kernel_rfl) (by kernel_rfl) h m).trans (by kernel_rfl)
theorem pure_eq : (ann 73).pure = true := by kernel_rfl
attribute [simp] b_eq r0_eq r1_eq r2_eq k0_eq l0_eq r3_eq i0_eq i0t_eq i0e_eq k1_eq r5_eq r6_eq r7_eq i1_eq i1t_eq r8_eq i1e_eq r4_eq r9_eq ret_eq nil_eq inBlock_eq exit_eq pure_eq
end
end watch_story_next
end Go.Proofs.Ytdkmepjedjclkaa

/-
  Definitely (1): the cuts with one deed more. Conditions: none.
-/
namespace Go.Proofs.Ytdkmepjedjclkaa
open Go.AM
open Go.Proofs.Try (prog)
set_option linter.all false
set_option maxRecDepth 100000
set_option maxHeartbeats 4000000
def bump (c : List Int) (h : Nat) : List Int := c.set h (nth c h + 1)
theorem bump_len (c : List Int) (h : Nat) : (bump c h).length = c.length := by simp [bump]
theorem nth_bump {c : List Int} {h : Nat} (hh : h < c.length) (g : Nat) : nth (bump c h) g = if g = h then nth c h + 1 else nth c g := by
  rw [bump, nth_set]
  by_cases e : h = g
  · subst e; simp [hh]
  · have e' : ¬ g = h := fun x => e x.symm
    simp [e, e']
def stepOk (D4 : List Int) (K : List (List (List Int))) (n : Nat) (c : List Int) (h : Nat) : Bool := decide (nth c h + 1 ≤ nth D4 h) && decide (forthL K n (bump c h) = bump c h)
def nextR (D4 : List Int) (K : List (List (List Int))) (n : Nat) (c : List Int) : Nat → List (List Int)
  | 0 => []
  | k + 1 => (if stepOk D4 K n c k = true then [bump c k] else []) ++ nextR D4 K n c k
def nextV (acc : List (List Int)) : AV := if acc = [] then .nils else .fsl false acc.length (flatC ints acc)
theorem nextV_is (acc : List (List Int)) : IsSl ints (nextV acc) acc := by
  by_cases e : acc = []
  · exact .inl ⟨by rw [nextV, if_pos e], e⟩
  · exact .inr ⟨false, by rw [nextV, if_neg e]⟩
theorem next_loop {V : List AV} {n : Nat} {D4 : List Int} {K : List (List (List Int))} (hV : V.length = 4) (s : IsStory (.fptr (.int .i64 n :: (ints D4 ++ V))) n D4 K) {c : List Int} (hc : IsCut n D4 c) : ∀ (k : Nat) (acc : List (List Int)) (oid : Nat) (m : Mem), k ≤ n → Four acc → acc.length + k ≤ n → OutX m oid acc →
    watch_story_next.L0 (.fptr (.int .i64 n :: (ints D4 ++ V))) (.fptr (ints c)) (outX oid acc) (.int .i64 ((k : Int) - 1)) m [.code watch_story_next.r9, .code .ret] = some (nextV (acc ++ nextR D4 K n c k), Mem.empty) := by
  have hn4 := s.n4
  have hD4 := s.D4
  have hc4 := hc.len
  intro k
  induction k with
  | zero =>
    intro acc oid m h1 h2 h3 h4
    by_cases e : acc = []
    · subst e
      rw [watch_story_next.L0_eq]
      simp [outX, nextR, nextV]
      done
    · obtain ⟨a, b⟩ := h4 e
      have hl := flatC_len (f := ints) (k := 4) (l := acc) (fun x hx => by simp [h2 x hx])
      have htk : (flatC ints acc).take (acc.length * 4) = flatC ints acc := List.take_of_length_le (by omega)
      have hdp : ∀ d, mapO (deep m.h (d + 1)) (flatC ints acc) = some (flatC ints acc) := fun d => flatC_deep _ _ (fun a => by simp) _
      rw [watch_story_next.L0_eq]
      simp [outX, e, nextR, nextV, a, hl, htk, hdp]
      done
  | succ k ih =>
    intro acc oid m h1 h2 h3 h4
    have hk4 : k < 4 := by omega
    have e0 : ((k + 1 : Nat) : Int) - 1 = (k : Int) := by omega
    have hw : IntKind.wrap .i64 ((k : Int) - 1) = (k : Int) - 1 := wrap_id (by omega) (by omega)
    have hlo := hc.lo k
    have hhi := hc.hi k
    have hd6 := s.D6 k
    have hw2 : IntKind.wrap .i64 (nth c k + 1) = nth c k + 1 := wrap_id (by omega) (by omega)
    have hld : (ints D4 ++ V)[k]? = some (.int .i64 (nth D4 k)) := by rw [List.getElem?_append_left (by simp; omega), ints_nth (by omega)]
    have htc : (ints c).take 4 = ints c := List.take_of_length_le (by simp [hc4])
    have hd0 : (ints c).drop 4 = [] := List.drop_of_length_le (by simp [hc4])
    simp at htc hd0
    have hbl : (bump c k).length = 4 := by rw [bump_len, hc4]
    have hset : c.set k (nth c k + 1) = bump c k := rfl
    have htb : (ints (bump c k)).take 4 = ints (bump c k) := List.take_of_length_le (by simp [hbl])
    simp at htb
    have hgb : nth (bump c k) k = nth c k + 1 := by rw [nth_bump (by omega), if_pos rfl]
    have hgk : (ints (bump c k))[k]? = some (.int .i64 (nth c k + 1)) := by rw [ints_nth (by omega), hgb]
    have hga : (ints c)[k]? = some (.int .i64 (nth c k)) := ints_nth (by omega)
    have hnew : ∀ nx, m.nx ≤ nx → OutX ⟨upd m.h m.nx (some (.cells (ints (bump c k)))), nx + 1⟩ oid acc := fun nx hnx hn => by
      obtain ⟨a, b⟩ := h4 hn
      exact ⟨by simp [show (oid == m.nx) = false from beq_eq_false_iff_ne.2 (by omega), a], by show oid < nx + 1; omega⟩
    rw [e0, watch_story_next.L0_eq, nextR]
    by_cases q : nth c k + 1 ≤ nth D4 k
    · have hcut : IsCut n D4 (bump c k) := ⟨hbl, fun g => by rw [nth_bump (by omega)]; split; omega; exact hc.lo g, fun g => by
        rw [nth_bump (by omega)]; split
        · rename_i e; rw [e]; exact q
        · exact hc.hi g⟩
      have hcon := consistent_spec s hcut
      by_cases q2 : forthL K n (bump c k) = bump c k
      · rw [if_pos (by simp [stepOk, q, q2])]
        rw [decide_eq_true q2] at hcon
        have hacl := flatC_len (f := ints) (k := 4) (l := acc) (fun a ha => by simp [h2 a ha])
        have h2' : Four (acc ++ [bump c k]) := fun x hx => by
          rcases List.mem_append.1 hx with h | h
          · exact h2 x h
          · simp at h; rw [h]; exact hbl
        by_cases hn : acc = []
        · subst hn
          have hst := ih [bump c k] (m.nx + 1 + 15) ⟨upd (upd m.h m.nx (some (.cells (ints (bump c k))))) (m.nx + 1 + 15) (some (.cells (ints (bump c k)))), m.nx + 1 + 15 + 1⟩ (by omega) h2' (by simp; omega) (fun _ => ⟨by simp [flatC_one], by show m.nx + 1 + 15 < m.nx + 1 + 15 + 1; omega⟩)
          have e3 : outX (m.nx + 1 + 15) [bump c k] = .sl (m.nx + 1 + 15) 4 0 1 4 := by simp [outX]
          rw [e3] at hst
          rw [List.nil_append, ← hst]
          simp [hc4, htc, hd0, hk4, hga, hw2, hset, hgk, hgb, htb, hbl, hld, q, hcon, hw, outX]
          done
        · obtain ⟨a, b⟩ := h4 hn
          have e1 : (oid == m.nx) = false := beq_eq_false_iff_ne.2 (by omega)
          have e2 : (m.nx == oid) = false := beq_eq_false_iff_ne.2 (by omega)
          have hst := ih (acc ++ [bump c k]) oid ⟨upd (upd m.h m.nx (some (.cells (ints (bump c k))))) oid (some (.cells (flatC ints acc ++ ints (bump c k)))), m.nx + 1 + 15⟩ (by omega) h2' (by simp; omega) (fun _ => ⟨by simp [flatC_append, flatC_one], by show oid < m.nx + 1 + 15; omega⟩)
          have e3 : outX oid (acc ++ [bump c k]) = .sl oid 4 0 (acc.length + 1) (acc.length * 4 + 4) := by simp [outX, Nat.add_mul]
          have e4 : outX oid acc = .sl oid 4 0 acc.length (acc.length * 4) := by simp [outX, hn]
          rw [e3] at hst
          rw [← List.append_assoc, ← hst, e4]
          simp [hc4, htc, hd0, hk4, hga, hw2, hset, hgk, hgb, htb, hbl, hld, q, hcon, hw, e1, e2, a, hacl, show acc.length + 1 ≤ 4611686018427387904 by omega, show acc.length ≤ 4611686018427387903 by omega, show (acc.length + 1) * 32 ≤ 70368744177664 by omega]
          done
      · rw [if_neg (by simp [stepOk, q2])]
        rw [decide_eq_false q2] at hcon
        have hst := ih acc oid ⟨upd m.h m.nx (some (.cells (ints (bump c k)))), m.nx + 1 + 15⟩ (by omega) h2 (by omega) (hnew (m.nx + 15) (by omega))
        rw [List.nil_append, ← hst]
        simp [hc4, htc, hd0, hk4, hga, hw2, hset, hgk, hgb, htb, hbl, hld, q, hcon, hw]
        done
    · rw [if_neg (by simp [stepOk, q])]
      have hst := ih acc oid ⟨upd m.h m.nx (some (.cells (ints (bump c k)))), m.nx + 1 + 15⟩ (by omega) h2 (by omega) (hnew (m.nx + 15) (by omega))
      rw [List.nil_append, ← hst]
      simp [hc4, htc, hd0, hk4, hga, hw2, hset, hgk, hgb, htb, hbl, hld, q, hw]
      done
theorem next_spec {sv : AV} {n : Nat} {D4 : List Int} {K : List (List (List Int))} (s : IsStory sv n D4 K) {c : List Int} (hc : IsCut n D4 c) (m : Mem) : denC prog ann 73 [sv, .agg (ints c)] m = some (nextV (nextR D4 K n c n), m) := by
  have hn4 := s.n4
  obtain ⟨V, e, hV, hS⟩ := s.V
  subst e
  have hw : IntKind.wrap .i64 ((n : Int) - 1) = (n : Int) - 1 := wrap_id (by omega) (by omega)
  have lp := next_loop hV s hc n [] 0 Mem.empty (Nat.le_refl _) (fun c hc => by cases hc) (by simp) (fun h => absurd rfl h)
  rw [show outX 0 [] = .nils by simp [outX], List.nil_append] at lp
  rw [watch_story_next.call_eq _ _ _ (by simp)]
  simp [hw, lp]
end Go.Proofs.Ytdkmepjedjclkaa

/-
  Definitely (2): courses that avoid a set, as a plain law. Conditions: none.
-/
namespace Go.Proofs.Ytdkmepjedjclkaa
open Go.AM
open Go.Proofs.Try (prog)
set_option linter.all false
set_option maxRecDepth 100000
inductive Can (D : List Int) (N : List Note) (S : List (List Int)) : List Int → Prop where
  | last (h : D ∈ cutsL D N) (h2 : D ∉ S) : Can D N S D
  | step {c : List Int} {h : Nat} (hc : c ∈ cutsL D N) (h2 : c ∉ S) (hh : h < D.length) (r : Can D N S (bump c h)) : Can D N S c
inductive Path (D : List Int) (N : List Note) (S : List (List Int)) : List Int → List (List Int) → Prop where
  | last : Path D N S D [D]
  | step {c : List Int} {h : Nat} {l : List (List Int)} (hc : c ≠ D) (hh : h < D.length) (r : Can D N S (bump c h)) (ng : ∀ g, h < g → g < D.length → ¬ Can D N S (bump c g)) (p : Path D N S (bump c h) l) : Path D N S c (c :: l)
section
variable {D : List Int} {N : List Note} {S : List (List Int)}
theorem Can.mem {c : List Int} (h : Can D N S c) : c ∈ cutsL D N := by cases h <;> assumption
theorem Can.out {c : List Int} (h : Can D N S c) : c ∉ S := by cases h <;> assumption
theorem Can.on {c : List Int} (h : Can D N S c) (hc : c ≠ D) : ∃ h, h < D.length ∧ Can D N S (bump c h) := by
  cases h with
  | last _ _ => exact absurd rfl hc
  | @step _ h _ _ hh r => exact ⟨h, hh, r⟩
theorem Path.uniq {c : List Int} {l l' : List (List Int)} (p : Path D N S c l) (q : Path D N S c l') : l = l' := by
  induction p generalizing l' with
  | last => cases q with
    | last => rfl
    | step hc => exact absurd rfl hc
  | @step c h l hc hh r ng p ih =>
    cases q with
    | last => exact absurd rfl hc
    | @step _ h' l' _ hh' r' ng' p' =>
      rcases Nat.lt_trichotomy h h' with e | e | e
      · exact absurd r' (ng h' e hh')
      · subst e; rw [ih p']
      · exact absurd r (ng' h e hh)
theorem Path.ne {c : List Int} {l : List (List Int)} (p : Path D N S c l) : l ≠ [] := by cases p <;> simp
theorem Path.row {c : List Int} {l : List (List Int)} (p : Path D N S c l) (hc : c.length = D.length) : ∀ x ∈ l, x.length = D.length := by
  induction p with
  | last => intro x hx; simp at hx; rw [hx]
  | step _ _ _ _ _ ih =>
    intro x hx
    rcases List.mem_cons.1 hx with rfl | hx
    · exact hc
    · exact ih (by rw [bump_len]; exact hc) x hx
theorem sum_bump {c : List Int} {h : Nat} (hh : h < c.length) : (bump c h).sum = c.sum + 1 := by
  have := sum_set c h (nth c h + 1) hh
  rw [bump]; omega
theorem Can.sum {c : List Int} (h : Can D N S c) (L : Lims D N) : c.sum ≤ D.sum := by
  induction h with
  | last => exact Int.le_refl _
  | @step c h hc _ hh _ ih =>
    have := sum_bump (c := c) (h := h) (by rw [((mem_cuts L).1 hc).1.len]; exact hh)
    omega
theorem bump_take {c : List Int} {n h : Nat} (hh : h < n) (hl : n ≤ c.length) : (bump c h).take n = bump (c.take n) h := by
  refine ext_nth (by simp [bump]) fun g => ?_
  rw [nth_bump (by simp; omega), nth_take hh]
  rcases Nat.lt_or_ge g n with hg | hg
  · rw [nth_take hg, nth_bump (by omega), nth_take hg]
  · have : ¬ g = h := by omega
    rw [take_out hg, if_neg this, take_out hg]
theorem cut_of_is {c : List Int} (h4 : D.length ≤ 4) (hc : IsCut D.length (pad D) c) : CutL D (c.take D.length) := by
  have hl := hc.len
  refine ⟨by simp; omega, fun h => ?_, fun h => ?_⟩
  · rcases Nat.lt_or_ge h D.length with hh | hh
    · rw [nth_take hh]; exact hc.lo h
    · rw [take_out hh]; exact Int.le_refl _
  · rcases Nat.lt_or_ge h D.length with hh | hh
    · rw [nth_take hh]; have := hc.hi h; rw [nth_pad] at this; exact this
    · rw [take_out hh, nth_out hh]; exact Int.le_refl _
theorem bump_is {c : List Int} (hc : IsCut D.length (pad D) c) {h : Nat} (hh : h < 4) (q : nth c h + 1 ≤ nth (pad D) h) : IsCut D.length (pad D) (bump c h) := by
  have hl := hc.len
  refine ⟨by rw [bump_len, hl], fun g => ?_, fun g => ?_⟩
  · rw [nth_bump (by omega)]; split
    · have := hc.lo h; omega
    · exact hc.lo g
  · rw [nth_bump (by omega)]; split
    · rename_i e; rw [e]; exact q
    · exact hc.hi g
theorem stepOk_iff {K : List (List (List Int))} (k : Clocks D N K) {c : List Int} (hc : IsCut D.length (pad D) c) {h : Nat} (hh : h < D.length) : stepOk (pad D) K D.length c h = true ↔ bump (c.take D.length) h ∈ cutsL D N := by
  have h4 := k.P.L.n4
  have hl := hc.len
  simp only [stepOk, Bool.and_eq_true, decide_eq_true_eq]
  constructor
  · rintro ⟨q1, q2⟩
    have hb := bump_is hc (by omega) q1
    rw [← bump_take hh (by omega)]
    exact (mem_cuts k.P.L).2 ⟨cut_of_is h4 hb, (in_iff k hb).1 q2⟩
  · intro hm
    obtain ⟨a, b⟩ := (mem_cuts k.P.L).1 hm
    have q1 : nth c h + 1 ≤ nth (pad D) h := by
      have := a.hi h
      rw [nth_bump (by simp; omega), if_pos rfl, nth_take hh] at this
      rw [nth_pad]; exact this
    have hb := bump_is hc (by omega) q1
    refine ⟨q1, (in_iff k hb).2 ?_⟩
    rw [bump_take hh (by omega)]; exact b
end
end Go.Proofs.Ytdkmepjedjclkaa

/-
  Definitely (3): the search for a course. Conditions: none.
-/
namespace Go.Proofs.Ytdkmepjedjclkaa
open Go.AM
open Go.Proofs.Try (prog)
set_option linter.all false
set_option maxRecDepth 100000
set_option maxHeartbeats 4000000
def crsV (E : Ents) (id cid : Nat) (sv : AV) : AV := .fn 77 [] [.fptr [mapV E], .sptr [.map id], .fptr [sv], .ptr cid 0 1]
structure CInv (D : List Int) (N : List Note) (S : List (List Int)) (m : Mem) (E : Ents) (id cid : Nat) (sv : AV) : Prop where
  mp : ∃ g L, m.h id = some (.map g (keysL L) (valsL L)) ∧ Keys4 L ∧ TrueE L ∧ ∀ c, IsCut D.length (pad D) c → inE L c = true → ¬ Can D N S (c.take D.length)
  fn : m.h cid = some (.cells [crsV E id cid sv])
  ne : id ≠ cid
  l1 : id < m.nx
  l2 : cid < m.nx
theorem CInv.more {D : List Int} {N : List Note} {S : List (List Int)} {m : Mem} {E : Ents} {id cid : Nat} {sv : AV} (c : CInv D N S m E id cid sv) {m' : Mem} (h : ∀ i, i < m.nx → m'.h i = m.h i) (hn : m.nx ≤ m'.nx) : CInv D N S m' E id cid sv := by
  obtain ⟨g, L, a, b⟩ := c.mp
  exact ⟨⟨g, L, by rw [h _ c.l1]; exact a, b⟩, by rw [h _ c.l2]; exact c.fn, c.ne, Nat.lt_of_lt_of_le c.l1 hn, Nat.lt_of_lt_of_le c.l2 hn⟩
section
variable {sv : AV} {D : List Int} {N : List Note} {S : List (List Int)} {K : List (List (List Int))} {E : Ents} {id cid : Nat}
end
end Go.Proofs.Ytdkmepjedjclkaa

/-
  Definitely (4): WHAT IT HANDS BACK. Conditions: none.
-/
namespace Go.Proofs.Ytdkmepjedjclkaa
open Go.AM
open Go.Proofs.Try (prog)
set_option linter.all false
set_option maxRecDepth 100000
set_option maxHeartbeats 4000000
section
variable {sv : AV} {D : List Int} {N : List Note} {S : List (List Int)} {K : List (List (List Int))} {E : Ents} {id cid : Nat}
end
inductive DefRes (D : List Int) (N : List Note) (L : List (List Int)) : AV → Int → Prop where
  | bad (h : ¬ ValidS D N) : DefRes D N L .nils 1
  | long (v : ValidS D N) (h : 2500 < L.length) : DefRes D N L .nils 3
  | form (v : ValidS D N) (h : L.length ≤ 2500) (h2 : L.all (cutB D) = false) : DefRes D N L .nils 2
  | none (v : ValidS D N) (h : L.length ≤ 2500) (h2 : L.all (cutB D) = true) (e : ¬ Can D N L (List.replicate D.length 0)) : DefRes D N L .nils 5
  | ok {ex : Bool} {l : List (List Int)} (v : ValidS D N) (h : L.length ≤ 2500) (h2 : L.all (cutB D) = true) (e : Can D N L (List.replicate D.length 0)) (p : Path D N L (List.replicate D.length 0) l) : DefRes D N L (.fsl ex l.length (flatC rowC l)) 0
end Go.Proofs.Ytdkmepjedjclkaa

/-
  THE REFERENCE's SMALL FUNCTIONS ON CUTS: has, name, more, SameLists. Conditions: none.
-/
namespace Go.Proofs.Ytdkmepjedjclkaa
open Go.AM
open Go.Proofs.Try (prog)
set_option linter.all false
set_option maxRecDepth 100000
set_option maxHeartbeats 4000000
def u8w (v : Int) : Int := IntKind.wrap .u8 v
def nameS (l : List Int) : List UInt8 := l.map fun v => UInt8.ofNat (u8w v).toNat
theorem u8w_id {v : Int} (h0 : 0 ≤ v) (h1 : v ≤ 255) : u8w v = v := by
  simp only [u8w, IntKind.wrap, IntKind.min, IntKind.max, IntKind.signed, IntKind.bits]
  simp
  omega
theorem nameS_inj : ∀ {a b : List Int}, a.length = b.length → (∀ i, 0 ≤ nth a i ∧ nth a i ≤ 255) → (∀ i, 0 ≤ nth b i ∧ nth b i ≤ 255) → nameS a = nameS b → a = b
  | [], [], _, _, _, _ => rfl
  | x :: a, y :: b, hl, ha, hb, h => by
    simp only [nameS, List.map_cons, List.cons.injEq] at h
    obtain ⟨h1, h2⟩ := h
    have hx : 0 ≤ x ∧ x ≤ 255 := ha 0
    have hy : 0 ≤ y ∧ y ≤ 255 := hb 0
    rw [u8w_id hx.1 hx.2, u8w_id hy.1 hy.2] at h1
    have e := congrArg UInt8.toNat h1
    simp only [UInt8.toNat_ofNat'] at e
    have : x = y := by omega
    rw [this, nameS_inj (a := a) (b := b) (by simpa using hl) (fun i => ha (i + 1)) (fun i => hb (i + 1)) h2]
  | [], _ :: _, hl, _, _, _ => by simp at hl
  | _ :: _, [], hl, _, _, _ => by simp at hl
end Go.Proofs.Ytdkmepjedjclkaa

/-
  BODIES OF FUNCTIONS OF THE PROGRAM AS SMALL OPERATIONS (written by gen.py; checked by the kernel against the program). Conditions: none.
-/
namespace Go.Proofs.Ytdkmepjedjclkaa
open Go.AM
open Go.Proofs.Try (prog)
set_option maxRecDepth 100000
set_option linter.all false
end Go.Proofs.Ytdkmepjedjclkaa

/-
  WatchLattice RETURNS TRUE. Conditions: none.
-/
namespace Go.Proofs.Ytdkmepjedjclkaa
open Go.AM
open Go.Proofs.Try (prog)
set_option linter.all false
set_option maxRecDepth 100000
set_option maxHeartbeats 4000000
end Go.Proofs.Ytdkmepjedjclkaa

/-
  THE PLAIN LAW (6): the cuts stand in order; a consistent cut is the join of clocks. Conditions: none.
-/
namespace Go.Proofs.Ytdkmepjedjclkaa
open Go.AM
open Go.Proofs.Try (prog)
set_option linter.all false
set_option maxRecDepth 10000
theorem lexLt_irr : ∀ a : List Int, lexLt a a = false
  | [] => rfl
  | a :: x => by simp [lexLt, lexLt_irr x]
theorem tuples_sorted : ∀ D : List Int, (tuplesL D).Pairwise (fun a b => lexLt a b = true)
  | [] => by simp [tuplesL]
  | d :: D => by
    simp only [tuplesL]
    rw [List.pairwise_flatMap]
    refine ⟨fun i _ => ?_, ?_⟩
    · rw [List.pairwise_map]
      exact (tuples_sorted D).imp fun h => by simpa [lexLt] using h
    · refine List.pairwise_lt_range.imp fun {i j} hij a ha b hb => ?_
      simp only [List.mem_map] at ha hb
      obtain ⟨a', _, rfl⟩ := ha
      obtain ⟨b', _, rfl⟩ := hb
      have h1 : ¬ (i : Int) = j := by omega
      simp only [lexLt, h1, if_false, decide_eq_true_eq]
      omega
theorem cuts_sorted (D : List Int) (N : List Note) : (cutsL D N).Pairwise (fun a b => lexLt a b = true) := (tuples_sorted D).filter _
section
variable {D : List Int} {N : List Note} {K : List (List (List Int))}
end
end Go.Proofs.Ytdkmepjedjclkaa

/-
  THE PLAIN LAW (7): the cuts at which all hands say yes are closed under meet and join; the least of them comes first. Conditions: none.
-/
namespace Go.Proofs.Ytdkmepjedjclkaa
open Go.AM
open Go.Proofs.Try (prog)
set_option linter.all false
set_option maxRecDepth 100000
section
variable {D : List Int} {N : List Note} {F : List (List Bool)}
end
end Go.Proofs.Ytdkmepjedjclkaa

/-
  THE REFERENCE's Definitely (1): from which cuts the end is reached. Conditions: none.
-/
namespace Go.Proofs.Ytdkmepjedjclkaa
open Go.AM
open Go.Proofs.Try (prog)
set_option linter.all false
set_option maxRecDepth 100000
set_option maxHeartbeats 4000000
theorem und9 : prog.underlying 9 = some .string := by kernel_rfl
theorem keyEq9 (a b : List UInt8) : keyEq prog 9 (.str a) (.str b) = some (decide (a = b)) := by
  simp [keyEq, scV, und9, eqSc, beq_dec]
theorem keyT9 (a : List UInt8) : keyT prog 9 (.str a) = true := by simp [keyT, scV, und9]
abbrev EntS := List (List UInt8 × AV)
def keysS (L : EntS) : List AV := L.map fun e => .str e.1
def valsS (L : EntS) : List AV := L.map (·.2)
def lkS : EntS → List UInt8 → Option AV
  | [], _ => none
  | e :: L, c => if e.1 = c then some e.2 else lkS L c
def setS : EntS → List UInt8 → AV → EntS
  | [], c, v => [(c, v)]
  | e :: L, c, v => if e.1 = c then (c, v) :: L else e :: setS L c v
theorem findK9 : ∀ (L : EntS) (c : List UInt8), findK prog 9 (.str c) (keysS L) (valsS L) = some (lkS L c)
  | [], c => rfl
  | e :: L, c => by
    have ih := findK9 L c
    simp only [keysS, valsS, List.map_cons, findK, keyEq9, Option.bind_some]
    simp only [keysS, valsS] at ih
    by_cases q : e.1 = c
    · simp [q, lkS]
    · have q' : ¬ c = e.1 := fun x => q x.symm
      simp [q, q', lkS, ih]
theorem setK9 : ∀ (L : EntS) (c : List UInt8) (v : AV), setK prog 9 (.str c) v (keysS L) (valsS L) = some (keysS (setS L c v), valsS (setS L c v))
  | [], c, v => rfl
  | e :: L, c, v => by
    have ih := setK9 L c v
    simp only [keysS, valsS, List.map_cons, setK, keyEq9, Option.bind_some]
    simp only [keysS, valsS] at ih
    by_cases q : e.1 = c
    · simp [q, setS]
    · have q' : ¬ c = e.1 := fun x => q x.symm
      simp [q, q', setS, ih]
theorem lk_setS : ∀ (L : EntS) (c : List UInt8) (v : AV) (d : List UInt8), lkS (setS L c v) d = if c = d then some v else lkS L d
  | [], c, v, d => by simp [setS, lkS]
  | e :: L, c, v, d => by
    rw [setS]
    by_cases q : e.1 = c
    · rw [if_pos q, lkS, lkS]
      by_cases q2 : c = d
      · rw [if_pos q2, if_pos q2]
      · rw [if_neg q2, if_neg q2, if_neg (by rw [q]; exact q2)]
    · rw [if_neg q, lkS, lkS, lk_setS L c v d]
      by_cases q2 : e.1 = d
      · rw [if_pos q2, if_pos q2, if_neg (fun x => q (q2.trans x.symm))]
      · rw [if_neg q2, if_neg q2]
def orZ (z : AV) : Option AV → AV
  | some v => v
  | none => z
theorem updS {L : EntS} {c : List UInt8} {m : Mem} {id g : Nat} {v : AV} (hm : m.h id = some (.map g (keysS L) (valsS L))) : updM prog m 9 (.map id) (.str c) v = some (.tup [], m.set id (some (.map (g + 1) (keysS (setS L c v)) (valsS (setS L c v))))) := by
  simp only [updM, updP, keyT9, cond_true, hm, setK9, Option.bind_some, Option.map_some]
open Classical in
noncomputable def canB (D : List Int) (N : List Note) (S : List (List Int)) (x : List Int) : Bool := decide (Can D N S x)
section
variable {D : List Int} {N : List Note} {S : List (List Int)}
theorem canB_no {x : List Int} (h : ¬ Can D N S x) : canB D N S x = false := by simp [canB, h]
theorem lex_bump : ∀ {x : List Int} {g : Nat}, g < x.length → lexLt x (bump x g) = true
  | a :: x, 0, _ => by
    have h1 : ¬ a = a + 1 := by omega
    have h2 : a < a + 1 := by omega
    simp [bump, nth, lexLt, h1, h2]
  | a :: x, g + 1, h => by
    have ih := lex_bump (x := x) (g := g) (by simpa using h)
    have e : bump (a :: x) (g + 1) = a :: bump x g := rfl
    rw [e]; simpa [lexLt] using ih
theorem bump_later {i : Nat} (hi : i < (cutsL D N).length) {g : Nat} (hg : g < D.length) (hb : bump (cutsL D N)[i] g ∈ cutsL D N) : bump (cutsL D N)[i] g ∈ (cutsL D N).drop (i + 1) := by
  have hs := cuts_sorted D N
  have hrow := cutsL_row (List.getElem_mem hi)
  have hlt := lex_bump (x := (cutsL D N)[i]) (g := g) (by omega)
  obtain ⟨j, hj, hjb⟩ := List.getElem_of_mem hb
  have hij : i < j := by
    rcases Nat.lt_trichotomy i j with q | q | q
    · exact q
    · subst q; rw [← hjb, lexLt_irr] at hlt; cases hlt
    · have := List.pairwise_iff_getElem.1 hs j i hj hi q
      rw [hjb] at this
      have hh := lexLt_same (cutsL D N)[i] (bump (cutsL D N)[i] g)
      exact absurd this (by
        have key : ∀ a b : List Int, lexLt a b = true → lexLt b a = false := by
          intro a
          induction a with
          | nil => intro b h; cases b <;> simp [lexLt] at h ⊢
          | cons x a ih =>
            intro b h
            cases b with
            | nil => simp [lexLt] at h
            | cons y b =>
              simp only [lexLt] at h ⊢
              by_cases e : x = y
              · subst e; simp at h ⊢; exact ih b h
              · have e' : ¬ y = x := fun z => e z.symm
                simp [e, e'] at h ⊢; omega
        rw [key _ _ hlt]; simp)
  rw [← hjb, List.mem_drop_iff_getElem]
  exact ⟨j - (i + 1), by omega, by congr 1; omega⟩
structure Named (D x : List Int) : Prop where
  len : x.length = D.length
  b : ∀ g, 0 ≤ nth x g ∧ nth x g ≤ 255
theorem cut_named (L : Lims D N) {x : List Int} (h : x ∈ cutsL D N) : Named D x := by
  obtain ⟨c, _⟩ := (mem_cuts L).1 h
  exact ⟨c.len, fun g => ⟨c.lo g, by have := c.hi g; have := L.hi g; omega⟩⟩
theorem bump_named (L : Lims D N) {x : List Int} (h : x ∈ cutsL D N) {g : Nat} (hg : g < D.length) : Named D (bump x g) := by
  obtain ⟨c, _⟩ := (mem_cuts L).1 h
  have cl := c.len
  refine ⟨by rw [bump_len, cl], fun q => ?_⟩
  have a := c.lo q
  have b := c.hi q
  have d := L.hi q
  rw [nth_bump (by omega)]
  split
  · rename_i e; subst e; omega
  · omega
def CanMap (D : List Int) (N : List Note) (S : List (List Int)) (L : EntS) (i : Nat) : Prop :=
  ∀ x, Named D x → ∀ z, orZ z (lkS L (nameS x)) = open Classical in if x ∈ (cutsL D N).drop i ∧ x ∉ S then .bool (canB D N S x) else z
theorem CanMap.bump {L : EntS} {i : Nat} (hL : CanMap D N S L (i + 1)) (Lm : Lims D N) (hi : i < (cutsL D N).length) {g : Nat} (hg : g < D.length) : orZ (.bool false) (lkS L (nameS (bump (cutsL D N)[i] g))) = .bool (canB D N S (bump (cutsL D N)[i] g)) := by
  rw [hL _ (bump_named Lm (List.getElem_mem hi) hg)]
  split
  · rfl
  · rename_i h
    rw [canB_no]
    intro hc
    exact h ⟨bump_later hi hg hc.mem, hc.out⟩
theorem CanMap.skip {L : EntS} {i : Nat} (hL : CanMap D N S L (i + 1)) (hi : i < (cutsL D N).length) (hS : (cutsL D N)[i] ∈ S) : CanMap D N S L i := by
  intro x hx z
  rw [hL x hx, List.drop_eq_getElem_cons hi]
  by_cases q : x ∈ (cutsL D N).drop (i + 1) ∧ x ∉ S
  · rw [if_pos q, if_pos ⟨List.mem_cons_of_mem _ q.1, q.2⟩]
  · rw [if_neg q, if_neg]
    rintro ⟨h1, h2⟩
    rcases List.mem_cons.1 h1 with e | e
    · rw [e] at h2; exact h2 hS
    · exact q ⟨e, h2⟩
theorem CanMap.add {L : EntS} {i : Nat} (hL : CanMap D N S L (i + 1)) (Lm : Lims D N) (hi : i < (cutsL D N).length) (hS : (cutsL D N)[i] ∉ S) : CanMap D N S (setS L (nameS (cutsL D N)[i]) (.bool (canB D N S (cutsL D N)[i]))) i := by
  intro x hx z
  have hn := cut_named Lm (List.getElem_mem hi)
  rw [lk_setS, List.drop_eq_getElem_cons hi]
  by_cases e : (cutsL D N)[i] = x
  · rw [if_pos (by rw [e]), if_pos ⟨by rw [e]; simp, by rw [← e]; exact hS⟩, e]; rfl
  · rw [if_neg (fun h => e (nameS_inj (by rw [hn.len, hx.len]) hn.b hx.b h)), hL x hx]
    by_cases q : x ∈ (cutsL D N).drop (i + 1) ∧ x ∉ S
    · rw [if_pos q, if_pos ⟨List.mem_cons_of_mem _ q.1, q.2⟩]
    · rw [if_neg q, if_neg]
      rintro ⟨h1, h2⟩
      rcases List.mem_cons.1 h1 with e2 | e2
      · exact e e2.symm
      · exact q ⟨e2, h2⟩
end
end Go.Proofs.Ytdkmepjedjclkaa

/-
  THE REFERENCE's Definitely (2): its loops. Conditions: none.
-/
namespace Go.Proofs.Ytdkmepjedjclkaa
open Go.AM
open Go.Proofs.Try (prog)
set_option linter.all false
set_option maxRecDepth 100000
set_option maxHeartbeats 4000000
section
variable {D : List Int} {N : List Note} {S : List (List Int)} {vD vN vS : AV} {cs : List AV}
end
end Go.Proofs.Ytdkmepjedjclkaa

/-
  FLAGS: THE REFERENCE's Yes; flags as an argument. Conditions: none.
-/
namespace Go.Proofs.Ytdkmepjedjclkaa
open Go.AM
open Go.Proofs.Try (prog)
set_option linter.all false
set_option maxRecDepth 100000
set_option maxHeartbeats 4000000
end Go.Proofs.Ytdkmepjedjclkaa

/-
  BODIES OF FUNCTIONS OF THE PROGRAM AS SMALL OPERATIONS (written by gen.py; checked by the kernel against the program). Conditions: none.
-/
namespace Go.Proofs.Ytdkmepjedjclkaa
open Go.AM
open Go.Proofs.Try (prog)
set_option maxRecDepth 100000
set_option linter.all false
end Go.Proofs.Ytdkmepjedjclkaa

/-
  WatchFlags RETURNS TRUE. Conditions: none.
-/
namespace Go.Proofs.Ytdkmepjedjclkaa
open Go.AM
open Go.Proofs.Try (prog)
set_option linter.all false
set_option maxRecDepth 100000
set_option maxHeartbeats 4000000
end Go.Proofs.Ytdkmepjedjclkaa

/-
  THE REFERENCE's Definitely (3): WHAT IT HANDS BACK; its Possibly; sets as arguments. Conditions: none.
-/
namespace Go.Proofs.Ytdkmepjedjclkaa
open Go.AM
open Go.Proofs.Try (prog)
set_option linter.all false
set_option maxRecDepth 100000
set_option maxHeartbeats 4000000
section
variable {D : List Int} {N : List Note} {S : List (List Int)} {vD vN vS : AV} {cs : List AV}
theorem CanMap.at {L : EntS} (hL : CanMap D N S L 0) {x : List Int} (hx : Named D x) : orZ (.bool false) (lkS L (nameS x)) = .bool (canB D N S x) := by
  rw [hL x hx]
  split
  · rfl
  · rename_i h
    rw [canB_no]
    intro hc
    exact h ⟨by simpa using hc.mem, hc.out⟩
inductive DefR (D : List Int) (N : List Note) (S : List (List Int)) : AV → Prop where
  | no (h : ¬ Can D N S (List.replicate D.length 0)) : DefR D N S .nils
  | yes {l : List (List Int)} (h : Can D N S (List.replicate D.length 0)) (p : Path D N S (List.replicate D.length 0) l) : DefR D N S (.fsl false l.length (flatC rowC l))
end
end Go.Proofs.Ytdkmepjedjclkaa

/-
  THE REFERENCE's Possibly; sets as arguments. Conditions: none.
-/
namespace Go.Proofs.Ytdkmepjedjclkaa
open Go.AM
open Go.Proofs.Try (prog)
set_option linter.all false
set_option maxRecDepth 100000
set_option maxHeartbeats 4000000
section
variable {D : List Int} {N : List Note} {S : List (List Int)} {vD vN vS : AV} {cs : List AV}
end
end Go.Proofs.Ytdkmepjedjclkaa

/-
  WatchGarg RETURNS TRUE. Conditions: none.
-/
namespace Go.Proofs.Ytdkmepjedjclkaa
open Go.AM
open Go.Proofs.Try (prog)
set_option linter.all false
set_option maxRecDepth 100000
set_option maxHeartbeats 4000000
theorem bit_ex (x : Int) (d : Nat) : ∃ (b : Bool) (y z : AV), binA prog .shr 5 (.int .u8 x) (.int .i64 (d : Int)) = some y ∧ binA prog .and 5 y (.int .u8 1) = some z ∧ binA prog .eql 5 z (.int .u8 1) = some (.bool b) := by
  have h1 : binA prog .shr 5 (.int .u8 x) (.int .i64 (d : Int)) = some (.int .u8 (x.fdiv (2 ^ min (d : Int).toNat (IntKind.bits .u8)))) := by
    rw [binA_shr, show decide ((d : Int) < 0) = false from decide_eq_false (by omega)]; rfl
  generalize x.fdiv (2 ^ min (d : Int).toNat (IntKind.bits .u8)) = y at h1
  have h2 := binA_and prog 5 .u8 y 1
  generalize IntKind.wrap .u8 (((BitVec.ofInt (IntKind.bits .u8) y &&& BitVec.ofInt (IntKind.bits .u8) 1).toNat : Nat) : Int) = z at h2
  exact ⟨_, _, _, h1, h2, binA_eql prog 5 .u8 z 1⟩
end Go.Proofs.Ytdkmepjedjclkaa

/-
  BODIES OF FUNCTIONS OF THE PROGRAM AS SMALL OPERATIONS (written by gen.py; checked by the kernel against the program). Conditions: none.
-/
namespace Go.Proofs.Ytdkmepjedjclkaa
open Go.AM
open Go.Proofs.Try (prog)
set_option maxRecDepth 100000
set_option linter.all false
end Go.Proofs.Ytdkmepjedjclkaa

/-
  WatchSets RETURNS TRUE. Conditions: none.
-/
namespace Go.Proofs.Ytdkmepjedjclkaa
open Go.AM
open Go.Proofs.Try (prog)
set_option linter.all false
set_option maxRecDepth 100000
set_option maxHeartbeats 4000000
end Go.Proofs.Ytdkmepjedjclkaa

/-
  BODIES OF FUNCTIONS OF THE PROGRAM AS SMALL OPERATIONS (written by gen.py; checked by the kernel against the program). Conditions: none.
-/
namespace Go.Proofs.Ytdkmepjedjclkaa
open Go.AM
open Go.Proofs.Try (prog)
set_option maxRecDepth 100000
set_option linter.all false
end Go.Proofs.Ytdkmepjedjclkaa

/-
  COURSES: THE LAW's TEST OF ONE; that there is one. Conditions: none.
-/
namespace Go.Proofs.Ytdkmepjedjclkaa
open Go.AM
open Go.Proofs.Try (prog)
set_option linter.all false
set_option maxRecDepth 100000
set_option maxHeartbeats 4000000
section
variable {D : List Int} {N : List Note} {S : List (List Int)}
structure Way (D : List Int) (N : List Note) (S : List (List Int)) (c : List Int) (l : List (List Int)) : Prop where
  first : gth l 0 = c
  pos : 0 < l.length
  all : ∀ i, i < l.length → Can D N S (gth l i)
  step : ∀ i, i + 1 < l.length → ∃ h, h < D.length ∧ gth l (i + 1) = bump (gth l i) h
  last : gth l (l.length - 1) = D
theorem reach_cut (P : Pre D N) {x : List Int} (r : Reach D N x) : x ∈ cutsL D N := by
  induction r with
  | zero => exact zeros_cut P.L P
  | @step done h r s ih =>
    obtain ⟨c, q⟩ := (mem_cuts P.L).1 ih
    obtain ⟨s1, s2, s3⟩ := s
    have cl := c.len
    have e : done.set h (nth done h + 1) = bump done h := rfl
    rw [e]
    refine (mem_cuts P.L).2 ⟨⟨by rw [bump_len, cl], fun g => ?_, fun g => ?_⟩, ?_⟩
    · rw [nth_bump (by omega)]; have := c.lo g; have := c.lo h; split <;> omega
    · rw [nth_bump (by omega)]; split
      · rename_i e; rw [e]; omega
      · exact c.hi g
    · rw [conR_iff] at q ⊢
      intro y hy hr
      obtain ⟨f0, f1, t0, t1, ne, s0, s1', r0, r1⟩ := P.notes y hy
      have key : y.s ≤ nth done y.f.toNat := by
        by_cases q1 : y.r ≤ nth done y.t.toNat
        · exact q y hy q1
        · rw [nth_bump (by omega)] at hr
          split at hr
          · rename_i e1
            simp only [readyL, List.all_eq_true] at s3
            have h3 := s3 y hy
            have e2 : y.t = (h : Int) := by omega
            have e3 : y.r = nth done h + 1 := by rw [e1] at q1; omega
            simp [readyOk, e2, e3] at h3
            exact h3
          · omega
      rw [nth_bump (by omega)]
      split
      · rename_i e1; rw [← e1]; omega
      · exact key
variable {vD vN v : AV} {cs : List AV} {l : List (List Int)}
end
end Go.Proofs.Ytdkmepjedjclkaa

/-
  COURSES AS WORDS: each letter is the hand whose deed is done; how many words lead to a cut. Conditions: none.
-/
namespace Go.Proofs.Ytdkmepjedjclkaa
open Go.AM
open Go.Proofs.Try (prog)
set_option linter.all false
set_option maxRecDepth 100000
set_option maxHeartbeats 1000000
def drop1 (c : List Int) (h : Nat) : List Int := c.set h (nth c h - 1)
theorem drop1_len (c : List Int) (h : Nat) : (drop1 c h).length = c.length := by simp [drop1]
theorem nth_drop1 {c : List Int} {h : Nat} (hh : h < c.length) (g : Nat) : nth (drop1 c h) g = if g = h then nth c h - 1 else nth c g := by
  rw [drop1, nth_set]
  by_cases e : h = g
  · subst e; simp [hh]
  · have e' : ¬ g = h := fun x => e x.symm
    simp [e, e']
theorem drop_bump {c : List Int} {h : Nat} (hh : h < c.length) : drop1 (bump c h) h = c := by
  refine ext_nth (by rw [drop1_len, bump_len]) fun g => ?_
  rw [nth_drop1 (by rw [bump_len]; exact hh), nth_bump hh, nth_bump hh]
  by_cases e : g = h
  · subst e; simp
  · simp [e]
theorem bump_drop {c : List Int} {h : Nat} (hh : h < c.length) : bump (drop1 c h) h = c := by
  refine ext_nth (by rw [bump_len, drop1_len]) fun g => ?_
  rw [nth_bump (by rw [drop1_len]; exact hh), nth_drop1 hh, nth_drop1 hh]
  by_cases e : g = h
  · subst e; simp
  · simp [e]
def cntW (n : Nat) : List Nat → List Int
  | [] => List.replicate n 0
  | h :: w => bump (cntW n w) h
theorem cntW_len (n : Nat) : ∀ w, (cntW n w).length = n
  | [] => by simp [cntW]
  | h :: w => by rw [cntW, bump_len, cntW_len n w]
theorem cntW_lo (n : Nat) : ∀ w g, 0 ≤ nth (cntW n w) g
  | [], g => by rw [cntW, nth_zero']; exact Int.le_refl _
  | h :: w, g => by
    rw [cntW]
    by_cases hh : h < (cntW n w).length
    · rw [nth_bump hh]
      have := cntW_lo n w h
      have := cntW_lo n w g
      split <;> omega
    · rw [bump, List.set_eq_of_length_le (by omega)]
      exact cntW_lo n w g
section
variable {D : List Int} {N : List Note}
def goodW (D : List Int) (N : List Note) : List Nat → Prop
  | [] => True
  | h :: w => h < D.length ∧ cntW D.length (h :: w) ∈ cutsL D N ∧ goodW D N w
def wordsN (D : List Int) (N : List Note) : Nat → List Int → List (List Nat)
  | 0, c => if c = List.replicate D.length 0 then [[]] else []
  | k + 1, c => if c ∈ cutsL D N then (List.range D.length).flatMap fun h => if 0 < nth c h then (wordsN D N k (drop1 c h)).map (List.cons h) else [] else []
def waysN (D : List Int) (N : List Note) (k : Nat) (c : List Int) : Nat := (wordsN D N k c).length
theorem cuts_row (L : Lims D N) {c : List Int} (h : c ∈ cutsL D N) : c.length = D.length := ((mem_cuts L).1 h).1.len
theorem mem_words (L : Lims D N) : ∀ (k : Nat) (c : List Int) (w : List Nat), w ∈ wordsN D N k c ↔ w.length = k ∧ goodW D N w ∧ cntW D.length w = c
  | 0, c, w => by
    rw [wordsN]
    constructor
    · intro h
      split at h
      · rename_i e
        simp at h
        subst h
        exact ⟨rfl, trivial, e.symm⟩
      · cases h
    · rintro ⟨h1, _, h3⟩
      have : w = [] := by simpa using h1
      subst this
      rw [if_pos (show c = List.replicate D.length 0 from h3.symm)]
      simp
  | k + 1, c, w => by
    rw [wordsN]
    constructor
    · intro h
      split at h
      · rename_i hc
        rw [List.mem_flatMap] at h
        obtain ⟨h0, h1, h2⟩ := h
        rw [List.mem_range] at h1
        split at h2
        · rw [List.mem_map] at h2
          obtain ⟨w', h3, rfl⟩ := h2
          obtain ⟨a1, a2, a3⟩ := (mem_words L k _ _).1 h3
          have hl := cuts_row L hc
          have e : cntW D.length (h0 :: w') = c := by rw [cntW, a3, bump_drop (by omega)]
          exact ⟨by simp [a1], ⟨h1, by rw [e]; exact hc, a2⟩, e⟩
        · cases h2
      · cases h
    · rintro ⟨h1, h2, h3⟩
      cases w with
      | nil => simp at h1
      | cons h0 w' =>
        obtain ⟨b1, b2, b3⟩ := h2
        rw [h3] at b2
        rw [if_pos b2, List.mem_flatMap]
        have hl := cntW_len D.length w'
        have e : drop1 c h0 = cntW D.length w' := by rw [← h3, cntW, drop_bump (by omega)]
        refine ⟨h0, by simpa using b1, ?_⟩
        rw [if_pos (by
          have := cntW_lo D.length w' h0
          rw [← h3, cntW, nth_bump (by omega), if_pos rfl]; omega), List.mem_map]
        exact ⟨w', (mem_words L k _ _).2 ⟨by simpa using h1, b3, e.symm⟩, rfl⟩
theorem nodup_words : ∀ (k : Nat) (c : List Int), (wordsN D N k c).Nodup
  | 0, c => by rw [wordsN]; split <;> simp
  | k + 1, c => by
    rw [wordsN]
    split
    · unfold List.Nodup
      rw [List.pairwise_flatMap]
      constructor
      · intro h _
        split
        · have := nodup_words k (drop1 c h)
          unfold List.Nodup at this
          rw [List.pairwise_map]
          exact this.imp fun h e => h (by simpa using e)
        · exact List.Pairwise.nil
      · refine List.nodup_range.imp ?_
        intro a b hab x hx y hy e
        subst e
        split at hx
        · split at hy
          · rw [List.mem_map] at hx hy
            obtain ⟨_, _, rfl⟩ := hx
            obtain ⟨_, _, h⟩ := hy
            simp at h
            exact hab h.1.symm
          · cases hy
        · cases hx
    · simp
theorem ways_zero (c : List Int) : waysN D N 0 c = if c = List.replicate D.length 0 then 1 else 0 := by
  rw [waysN, wordsN]; split <;> rfl
theorem ways_succ (k : Nat) (c : List Int) : waysN D N (k + 1) c = if c ∈ cutsL D N then (((List.range D.length).filter fun h => decide (0 < nth c h)).map fun h => waysN D N k (drop1 c h)).sum else 0 := by
  rw [waysN, wordsN]
  split
  · rw [List.length_flatMap]
    induction List.range D.length with
    | nil => rfl
    | cons h l ih =>
      rw [List.map_cons, List.sum_cons, ih, List.filter_cons]
      by_cases q : 0 < nth c h
      · simp [q, waysN]
      · simp [q]
  · rfl
theorem reach_word (P : Pre D N) : ∀ (w : List Nat), goodW D N w → Reach D N (cntW D.length w)
  | [], _ => Reach.zero
  | h :: w, g => by
    have ih := reach_word P w g.2.2
    have hl := cntW_len D.length w
    refine Reach.step ih ⟨g.1, ?_, ?_⟩
    · have := ((mem_cuts P.L).1 g.2.1).1.hi h
      rw [cntW, nth_bump (by have := g.1; omega), if_pos rfl] at this
      omega
    · simp only [readyL, List.all_eq_true]
      intro y hy
      obtain ⟨f0, f1, t0, t1, ne, s0, s1', r0, r1⟩ := P.notes y hy
      have hc := conR_iff.1 ((mem_cuts P.L).1 g.2.1).2 y hy
      have hh := g.1
      rw [cntW, nth_bump (by omega), nth_bump (by omega)] at hc
      simp only [readyOk, Bool.not_eq_true', Bool.and_eq_false_iff, decide_eq_false_iff_not]
      by_cases e : y.t = (h : Int)
      · by_cases e2 : y.r = nth (cntW D.length w) h + 1
        · right; right
          have e3 : y.t.toNat = h := by omega
          rw [if_pos e3, if_neg (by omega)] at hc
          have := hc (by omega)
          omega
        · right; left; exact e2
      · left; exact e
theorem word_reach (P : Pre D N) {x : List Int} (r : Reach D N x) : ∃ w, goodW D N w ∧ cntW D.length w = x := by
  induction r with
  | zero => exact ⟨[], trivial, rfl⟩
  | @step done h r s ih =>
    obtain ⟨w, g, e⟩ := ih
    have e2 : done.set h (nth done h + 1) = bump done h := rfl
    have hm := reach_cut P (Reach.step r s)
    rw [e2] at hm ⊢
    exact ⟨h :: w, ⟨s.1, by rw [cntW, e]; exact hm, g⟩, by rw [cntW, e]⟩
theorem cntW_sum (n : Nat) : ∀ (w : List Nat), (∀ h ∈ w, h < n) → (cntW n w).sum = w.length
  | [], _ => by
    have : ∀ n : Nat, (List.replicate n (0 : Int)).sum = 0 := fun n => by induction n <;> simp_all [List.replicate_succ]
    simp [cntW, this]
  | h :: w, hw => by
    rw [cntW, sum_bump (by rw [cntW_len]; exact hw h (by simp)), cntW_sum n w fun g hg => hw g (by simp [hg])]
    simp
theorem good_lt : ∀ (w : List Nat), goodW D N w → ∀ h ∈ w, h < D.length
  | [], _, _, h => by cases h
  | a :: w, g, h, hh => by
    rcases List.mem_cons.1 hh with rfl | hh
    · exact g.1
    · exact good_lt w g.2.2 h hh
theorem ways_pos (P : Pre D N) (r : Reach D N D) : 0 < waysN D N D.sum.toNat D := by
  obtain ⟨w, g, e⟩ := word_reach P r
  have hs := cntW_sum D.length w (good_lt w g)
  rw [e] at hs
  have : w ∈ wordsN D N D.sum.toNat D := (mem_words P.L _ _ _).2 ⟨by omega, g, e⟩
  exact List.length_pos_of_mem this
theorem nodup_len {α : Type} [DecidableEq α] : ∀ {l l' : List α}, l.Nodup → (∀ x ∈ l, x ∈ l') → l.length ≤ l'.length
  | [], l', _, _ => Nat.zero_le _
  | x :: l, l', hn, h => by
    have hn' := List.nodup_cons.1 hn
    have hx : x ∈ l' := h x (by simp)
    have ih := nodup_len (l := l) (l' := l'.erase x) hn'.2 fun y hy => by
      have hne : y ≠ x := fun e => hn'.1 (e ▸ hy)
      exact (List.mem_erase_of_ne hne).2 (h y (by simp [hy]))
    rw [List.length_erase_of_mem hx] at ih
    have := List.length_pos_of_mem hx
    simp
    omega
variable {N' : List Note}
end
end Go.Proofs.Ytdkmepjedjclkaa

/-
  SEAMS AS WORDS: letters side by side that commute may be exchanged; told by what is left if two letters that do not commute are kept. How many seams are equal to one. Conditions: none.
-/
namespace Go.Proofs.Ytdkmepjedjclkaa
open Go.AM
open Go.Proofs.Try (prog)
set_option linter.all false
set_option maxRecDepth 100000
set_option maxHeartbeats 1000000
def pj (a b : Nat) (w : List Nat) : List Nat := w.filter fun x => x == a || x == b
theorem pj_nil (a b : Nat) : pj a b [] = [] := rfl
theorem pj_append (a b : Nat) (u v : List Nat) : pj a b (u ++ v) = pj a b u ++ pj a b v := by simp [pj]
theorem pj_in {a b x : Nat} (h : x = a ∨ x = b) (w : List Nat) : pj a b (x :: w) = x :: pj a b w := by
  rw [pj, List.filter_cons, if_pos (by simpa using h)]; rfl
theorem pj_out {a b x : Nat} (h : ¬ (x = a ∨ x = b)) (w : List Nat) : pj a b (x :: w) = pj a b w := by
  rw [pj, List.filter_cons, if_neg (by simpa using h)]; rfl
theorem mem_pj {a b x : Nat} {w : List Nat} : x ∈ pj a b w ↔ x ∈ w ∧ (x = a ∨ x = b) := by simp [pj]
theorem pj_count {a b x : Nat} (h : x = a ∨ x = b) (w : List Nat) : (pj a b w).count x = w.count x := by
  rw [pj, List.count_filter (by simpa using h)]
theorem pj_none {a b : Nat} {w : List Nat} (h : ∀ x ∈ w, ¬ (x = a ∨ x = b)) : pj a b w = [] := by
  rw [pj, List.filter_eq_nil_iff]
  intro x hx
  simpa using h x hx
def eqv (com : Nat → Nat → Bool) (u v : List Nat) : Prop := ∀ a b, com a b = false → pj a b u = pj a b v
theorem eqv.refl (com : Nat → Nat → Bool) (u : List Nat) : eqv com u u := fun _ _ _ => rfl
theorem eqv.symm {com : Nat → Nat → Bool} {u v : List Nat} (h : eqv com u v) : eqv com v u := fun a b c => (h a b c).symm
theorem eqv.trans {com : Nat → Nat → Bool} {u v w : List Nat} (h : eqv com u v) (k : eqv com v w) : eqv com u w := fun a b c => (h a b c).trans (k a b c)
theorem eqv.append {com : Nat → Nat → Bool} {u v u' v' : List Nat} (h : eqv com u v) (k : eqv com u' v') : eqv com (u ++ u') (v ++ v') := fun a b c => by rw [pj_append, pj_append, h a b c, k a b c]
theorem eqv.cancel {com : Nat → Nat → Bool} {c : Nat} {u v : List Nat} (h : eqv com (c :: u) (c :: v)) : eqv com u v := by
  intro a b k
  have := h a b k
  by_cases q : c = a ∨ c = b
  · rw [pj_in q, pj_in q] at this
    exact (List.cons.inj this).2
  · rw [pj_out q, pj_out q] at this
    exact this
theorem eqv.count {com : Nat → Nat → Bool} (hi : ∀ a, com a a = false) {u v : List Nat} (h : eqv com u v) (x : Nat) : u.count x = v.count x := by
  rw [← pj_count (a := x) (b := x) (.inl rfl) u, h x x (hi x), pj_count (.inl rfl)]
theorem eqv.mem {com : Nat → Nat → Bool} (hi : ∀ a, com a a = false) {u v : List Nat} (h : eqv com u v) {x : Nat} : x ∈ u ↔ x ∈ v := by
  rw [← List.count_pos_iff, ← List.count_pos_iff, h.count hi]
theorem first_split {c : Nat} : ∀ {w : List Nat}, c ∈ w → ∃ p r, w = p ++ c :: r ∧ c ∉ p
  | x :: w, h => by
    by_cases e : x = c
    · subst e; exact ⟨[], w, rfl, by simp⟩
    · obtain ⟨p, r, rfl, hp⟩ := first_split (w := w) ((List.mem_cons.1 h).resolve_left fun q => e q.symm)
      refine ⟨x :: p, r, rfl, fun k => ?_⟩
      rcases List.mem_cons.1 k with q | q
      · exact e q.symm
      · exact hp q
def frontN (com : Nat → Nat → Bool) : List Nat → Nat → Option Nat
  | [], _ => none
  | x :: w, c => if x = c then some 0 else if com x c = true then (frontN com w c).map (· + 1) else none
theorem front_some {com : Nat → Nat → Bool} {c : Nat} : ∀ {w : List Nat} {i : Nat}, frontN com w c = some i → ∃ p r, w = p ++ c :: r ∧ p.length = i ∧ (∀ x ∈ p, x ≠ c ∧ com x c = true) ∧ w.eraseIdx i = p ++ r
  | [], i, h => by cases h
  | x :: w, i, h => by
    rw [frontN] at h
    split at h
    · rename_i e
      cases h
      subst e
      exact ⟨[], w, rfl, rfl, (fun y hy => by cases hy), rfl⟩
    · rename_i e
      split at h
      · rename_i q
        rw [Option.map_eq_some_iff] at h
        obtain ⟨j, hj, rfl⟩ := h
        obtain ⟨p, r, rfl, h2, h3, h4⟩ := front_some hj
        refine ⟨x :: p, r, rfl, by simp [h2], fun y hy => ?_, ?_⟩
        · rcases List.mem_cons.1 hy with rfl | hy
          · exact ⟨e, q⟩
          · exact h3 y hy
        · rw [List.eraseIdx_cons_succ, h4]; rfl
      · cases h
theorem front_at {com : Nat → Nat → Bool} {c : Nat} {r : List Nat} : ∀ {p : List Nat}, (∀ x ∈ p, x ≠ c ∧ com x c = true) → frontN com (p ++ c :: r) c = some p.length
  | [], _ => by simp [frontN]
  | x :: p, h => by
    obtain ⟨h1, h2⟩ := h x (by simp)
    rw [List.cons_append, frontN, if_neg h1, if_pos h2, front_at fun y hy => h y (by simp [hy])]
    rfl
theorem front_lt {com : Nat → Nat → Bool} {c : Nat} {w : List Nat} {i : Nat} (h : frontN com w c = some i) : i < w.length := by
  obtain ⟨p, r, rfl, rfl, _⟩ := front_some h
  simp
section
variable {com : Nat → Nat → Bool} (hs : ∀ a b, com a b = com b a) (hi : ∀ a, com a a = false)
include hs in
theorem front_pj {c : Nat} {p r : List Nat} (h : ∀ x ∈ p, x ≠ c ∧ com x c = true) : eqv com (c :: (p ++ r)) (p ++ c :: r) := by
  intro a b k
  by_cases q : c = a ∨ c = b
  · have hp : pj a b p = [] := pj_none fun x hx => by
      obtain ⟨h1, h2⟩ := h x hx
      rintro (e | e)
      · rcases q with q | q
        · exact h1 (e.trans q.symm)
        · rw [e, q, k] at h2; cases h2
      · rcases q with q | q
        · rw [e, q, hs, k] at h2; cases h2
        · exact h1 (e.trans q.symm)
    rw [pj_in q, pj_append, pj_append, hp, pj_in q]; rfl
  · rw [pj_out q, pj_append, pj_append, pj_out q]
include hs in
theorem front_eqv {c : Nat} {w : List Nat} {i : Nat} (h : frontN com w c = some i) : eqv com (c :: w.eraseIdx i) w := by
  obtain ⟨p, r, rfl, rfl, h3, h4⟩ := front_some h
  rw [h4]
  exact front_pj hs h3
include hs hi in
theorem eqv_front {c : Nat} {w' w : List Nat} (h : eqv com (c :: w') w) : ∃ i, frontN com w c = some i ∧ eqv com w' (w.eraseIdx i) := by
  have hc : c ∈ w := (h.mem hi).1 (by simp)
  obtain ⟨p, r, rfl, hp⟩ := first_split hc
  have h3 : ∀ x ∈ p, x ≠ c ∧ com x c = true := by
    intro x hx
    have hne : x ≠ c := fun e => hp (e ▸ hx)
    refine ⟨hne, ?_⟩
    cases q : com x c with
    | true => rfl
    | false =>
      have := h x c q
      rw [pj_in (.inr rfl), pj_append] at this
      have hx' : x ∈ pj x c p := mem_pj.2 ⟨hx, .inl rfl⟩
      cases hpp : pj x c p with
      | nil => rw [hpp] at hx'; cases hx'
      | cons y l =>
        rw [hpp] at this
        have e : c = y := (List.cons.inj this).1
        have hy : y ∈ pj x c p := by rw [hpp]; simp
        rw [← e] at hy
        exact absurd (mem_pj.1 hy).1 hp
  have hf := front_at (r := r) h3
  refine ⟨_, hf, ?_⟩
  exact (h.trans (front_eqv hs hf).symm).cancel
def allW : Nat → List (List Nat)
  | 0 => [[]]
  | n + 1 => (List.range 4).flatMap fun a => (allW n).map (List.cons a)
theorem mem_allW : ∀ {n : Nat} {w : List Nat}, w ∈ allW n ↔ w.length = n ∧ ∀ x ∈ w, x < 4
  | 0, w => by
    rw [allW, List.mem_singleton]
    constructor
    · rintro rfl; exact ⟨rfl, fun x hx => by cases hx⟩
    · rintro ⟨h, _⟩; simpa using h
  | n + 1, w => by
    rw [allW, List.mem_flatMap]
    constructor
    · rintro ⟨a, ha, hw⟩
      rw [List.mem_map] at hw
      obtain ⟨v, hv, rfl⟩ := hw
      obtain ⟨h1, h2⟩ := mem_allW.1 hv
      refine ⟨by simp [h1], fun x hx => ?_⟩
      rcases List.mem_cons.1 hx with rfl | hx
      · simpa using ha
      · exact h2 x hx
    · rintro ⟨h1, h2⟩
      cases w with
      | nil => simp at h1
      | cons a v =>
        refine ⟨a, by simpa using h2 a (by simp), ?_⟩
        rw [List.mem_map]
        exact ⟨v, mem_allW.2 ⟨by simpa using h1, fun x hx => h2 x (by simp [hx])⟩, rfl⟩
theorem nodup_allW : ∀ n, (allW n).Nodup
  | 0 => by simp [allW]
  | n + 1 => by
    rw [allW]
    unfold List.Nodup
    rw [List.pairwise_flatMap]
    constructor
    · intro a _
      rw [List.pairwise_map]
      exact (nodup_allW n).imp fun h e => h (by simpa using e)
    · refine List.nodup_range.imp ?_
      intro a b hab x hx y hy e
      subst e
      rw [List.mem_map] at hx hy
      obtain ⟨_, _, rfl⟩ := hx
      obtain ⟨_, _, h⟩ := hy
      simp at h
      exact hab h.1.symm
open Classical in
noncomputable def cntE (com : Nat → Nat → Bool) (w : List Nat) : Nat := ((allW w.length).filter fun u => decide (eqv com u w)).length
theorem cntE_nil : cntE com [] = 1 := by
  unfold cntE
  simp [allW, eqv]
theorem cntE_eqv {u v : List Nat} (hl : u.length = v.length) (h : eqv com u v) : cntE com u = cntE com v := by
  unfold cntE
  rw [hl]
  congr 1
  refine List.filter_congr fun x _ => ?_
  exact decide_eq_decide.2 ⟨fun k => k.trans h, fun k => k.trans h.symm⟩
include hs hi in
theorem cntE_rec {w : List Nat} (hw : w ≠ []) : cntE com w = ((List.range 4).map fun a => match frontN com w a with
    | some i => cntE com (w.eraseIdx i)
    | none => 0).sum := by
  obtain ⟨n, hn⟩ : ∃ n, w.length = n + 1 := ⟨w.length - 1, by have := List.length_pos_iff.2 hw; omega⟩
  unfold cntE
  rw [hn, allW, List.filter_flatMap, List.length_flatMap]
  congr 1
  refine List.map_congr_left fun a _ => ?_
  rw [List.filter_map, List.length_map]
  cases hf : frontN com w a with
  | none =>
    rw [List.length_eq_zero_iff, List.filter_eq_nil_iff]
    intro u _ k
    simp only [Function.comp, decide_eq_true_eq] at k
    obtain ⟨i, h1, _⟩ := eqv_front hs hi k
    rw [hf] at h1; cases h1
  | some i =>
    have hlt := front_lt hf
    have hl : (w.eraseIdx i).length = n := by rw [List.length_eraseIdx_of_lt hlt, hn]; rfl
    simp only [hl]
    congr 1
    refine List.filter_congr fun u _ => ?_
    simp only [Function.comp]
    refine decide_eq_decide.2 ⟨fun k => ?_, fun k => ?_⟩
    · obtain ⟨j, h1, h2⟩ := eqv_front hs hi k
      rw [hf] at h1
      cases h1
      exact h2
    · have := front_eqv hs hf
      intro x y q
      rw [← this x y q]
      by_cases e : a = x ∨ a = y
      · rw [pj_in e, pj_in e, k x y q]
      · rw [pj_out e, pj_out e, k x y q]
end
end Go.Proofs.Ytdkmepjedjclkaa

/-
  A SEAM AS A STORY: each stitch receives a message from the last earlier stitches with which it does not commute. Its courses are the seams that are equal to it. Conditions: none.
-/
namespace Go.Proofs.Ytdkmepjedjclkaa
open Go.AM
open Go.Proofs.Try (prog)
set_option linter.all false
set_option maxRecDepth 100000
set_option maxHeartbeats 1000000
def stepN (com : Nat → Nat → Bool) (q : List Nat) (h : Nat) : List Note :=
  (List.range 4).flatMap fun o => if o ≠ h ∧ 0 < q.count o ∧ com o h = false then [⟨o, q.count o, h, q.count h + 1⟩] else []
def notesF (com : Nat → Nat → Bool) : List Nat → List Nat → List Note
  | _, [] => []
  | q, h :: r => stepN com q h ++ notesF com (q ++ [h]) r
def notesS (com : Nat → Nat → Bool) (s : List Nat) : List Note := notesF com [] s
theorem mem_stepN {com : Nat → Nat → Bool} {q : List Nat} {h : Nat} {x : Note} : x ∈ stepN com q h ↔ ∃ o, o < 4 ∧ o ≠ h ∧ 0 < q.count o ∧ com o h = false ∧ x = ⟨o, q.count o, h, q.count h + 1⟩ := by
  rw [stepN, List.mem_flatMap]
  constructor
  · rintro ⟨o, h1, h2⟩
    split at h2
    · rename_i k
      exact ⟨o, by simpa using h1, k.1, k.2.1, k.2.2, by simpa using h2⟩
    · cases h2
  · rintro ⟨o, h1, h2, h3, h4, rfl⟩
    exact ⟨o, by simpa using h1, by rw [if_pos ⟨h2, h3, h4⟩]; simp⟩
theorem mem_notesF {com : Nat → Nat → Bool} {x : Note} : ∀ {r q : List Nat}, x ∈ notesF com q r ↔ ∃ a h b, r = a ++ h :: b ∧ x ∈ stepN com (q ++ a) h
  | [], q => by simp [notesF]
  | h :: r, q => by
    rw [notesF, List.mem_append, mem_notesF (r := r)]
    constructor
    · rintro (k | ⟨a, h', b, rfl, k⟩)
      · exact ⟨[], h, r, rfl, by simpa using k⟩
      · exact ⟨h :: a, h', b, rfl, by simpa using k⟩
    · rintro ⟨a, h', b, e, k⟩
      cases a with
      | nil =>
        simp at e
        obtain ⟨rfl, rfl⟩ := e
        exact .inl (by simpa using k)
      | cons y a =>
        simp at e
        obtain ⟨rfl, rfl⟩ := e
        exact .inr ⟨a, h', b, rfl, by simpa using k⟩
theorem mem_notesS {com : Nat → Nat → Bool} {x : Note} {s : List Nat} : x ∈ notesS com s ↔ ∃ a h b, s = a ++ h :: b ∧ x ∈ stepN com a h := by
  rw [notesS, mem_notesF]; simp
theorem notesF_append (com : Nat → Nat → Bool) : ∀ (r q : List Nat) (h : Nat), notesF com q (r ++ [h]) = notesF com q r ++ stepN com (q ++ r) h
  | [], q, h => by simp [notesF]
  | a :: r, q, h => by
    rw [List.cons_append, notesF, notesF_append com r, notesF]; simp
theorem notesS_append (com : Nat → Nat → Bool) (s : List Nat) (h : Nat) : notesS com (s ++ [h]) = notesS com s ++ stepN com s h := by
  rw [notesS, notesF_append]; rfl
theorem stepN_len (com : Nat → Nat → Bool) (q : List Nat) {h : Nat} (hh : h < 4) : (stepN com q h).length ≤ 3 := by
  rw [stepN, List.length_flatMap]
  let L : Nat → Nat := fun o => (if o ≠ h ∧ 0 < q.count o ∧ com o h = false then [(⟨o, q.count o, h, q.count h + 1⟩ : Note)] else []).length
  have la : ∀ o, L o ≤ 1 := fun o => by
    show (if o ≠ h ∧ 0 < q.count o ∧ com o h = false then [(⟨o, q.count o, h, q.count h + 1⟩ : Note)] else []).length ≤ 1
    split <;> simp
  have lb : L h = 0 := by
    show (if h ≠ h ∧ 0 < q.count h ∧ com h h = false then [(⟨h, q.count h, h, q.count h + 1⟩ : Note)] else []).length = 0
    rw [if_neg (fun x => x.1 rfl)]; rfl
  show L 0 + (L 1 + (L 2 + (L 3 + 0))) ≤ 3
  have l0 := la 0
  have l1 := la 1
  have l2 := la 2
  have l3 := la 3
  generalize L = L at *
  have : h = 0 ∨ h = 1 ∨ h = 2 ∨ h = 3 := by omega
  rcases this with rfl | rfl | rfl | rfl <;> omega
theorem notesS_len (com : Nat → Nat → Bool) : ∀ (s : List Nat), (∀ x ∈ s, x < 4) → (notesS com s).length ≤ 3 * s.length := by
  have key : ∀ (r q : List Nat), (∀ x ∈ r, x < 4) → (notesF com q r).length ≤ 3 * r.length := by
    intro r
    induction r with
    | nil => intro q _; simp [notesF]
    | cons h r ih =>
      intro q hr
      have := ih (q ++ [h]) fun x hx => hr x (by simp [hx])
      have := stepN_len com q (hr h (by simp))
      rw [notesF, List.length_append, List.length_cons]; omega
  exact fun s h => key s [] h
theorem nth_cnt {w : List Nat} (hw : ∀ x ∈ w, x < 4) (h : Nat) : nth (cntW 4 w) h = w.count h := by
  induction w with
  | nil => rw [cntW, nth_zero']; rfl
  | cons a w ih =>
    have ha := hw a (by simp)
    have ih := ih fun x hx => hw x (by simp [hx])
    rw [cntW, nth_bump (by rw [cntW_len]; exact ha), List.count_cons]
    by_cases e : h = a
    · subst e
      rw [if_pos rfl, ih]; simp
    · have e' : ¬ a = h := fun k => e k.symm
      rw [if_neg e, ih]; simp [e']
theorem cnt_perm {u v : List Nat} (hu : ∀ x ∈ u, x < 4) (hv : ∀ x ∈ v, x < 4) (h : ∀ x, u.count x = v.count x) : cntW 4 u = cntW 4 v :=
  ext_nth (by rw [cntW_len, cntW_len]) fun g => by rw [nth_cnt hu, nth_cnt hv, h]
section
variable {com : Nat → Nat → Bool} (hs : ∀ a b, com a b = com b a) (hi : ∀ a, com a a = false)
variable {s : List Nat} (h4 : ∀ x ∈ s, x < 4)
theorem con_seam {c : List Int} (h4 : ∀ x ∈ s, x < 4) : conR (notesS com s) c = true ↔ ∀ q h r, s = q ++ h :: r → ∀ o, o ≠ h → com o h = false → (q.count h : Int) + 1 ≤ nth c h → 0 < q.count o → (q.count o : Int) ≤ nth c o := by
  rw [conR_iff]
  constructor
  · intro k q h r e o h1 h2 h3 h5
    have ho : o < 4 := h4 o (by rw [e]; exact List.mem_append_left _ (List.count_pos_iff.1 h5))
    have := k _ (mem_notesS.2 ⟨q, h, r, e, mem_stepN.2 ⟨o, ho, h1, h5, h2, rfl⟩⟩)
    simp only [Int.toNat_natCast] at this
    exact this h3
  · intro k x hx hr
    obtain ⟨q, h, r, e, hx⟩ := mem_notesS.1 hx
    obtain ⟨o, ho, h1, h2, h3, rfl⟩ := mem_stepN.1 hx
    simp only [Int.toNat_natCast] at hr ⊢
    exact k q h r e o h1 h3 hr h2
theorem prefix_cases {u v w : List Nat} (h1 : u <+: w) (h2 : v <+: w) : u <+: v ∨ v <+: u := by
  rcases Nat.le_total u.length v.length with h | h
  · exact .inl (List.prefix_of_prefix_length_le h1 h2 h)
  · exact .inr (List.prefix_of_prefix_length_le h2 h1 h)
theorem prefix_count {u v : List Nat} (h : u <+: v) (x : Nat) : u.count x ≤ v.count x := by
  obtain ⟨t, rfl⟩ := h
  rw [List.count_append]; omega
theorem begin_con (h4 : ∀ x ∈ s, x < 4) {u : List Nat} (hu : ∀ x ∈ u, x < 4) (hp : ∀ a b, com a b = false → pj a b u <+: pj a b s) : conR (notesS com s) (cntW 4 u) = true := by
  rw [con_seam h4]
  intro q h r e o h1 h2 h3 _
  rw [nth_cnt hu] at h3 ⊢
  have hq : pj o h q <+: pj o h s := ⟨pj o h (h :: r), by rw [e, pj_append]⟩
  have hn : pj o h q ++ [h] <+: pj o h s := ⟨pj o h r, by rw [e, pj_append, pj_in (.inr rfl)]; simp⟩
  rcases prefix_cases (hp o h h2) hn with k | k
  · -- the beginning is short
    have hlt : (pj o h q).count h < (pj o h u).count h := by rw [pj_count (.inr rfl), pj_count (.inr rfl)]; omega
    have hl : (pj o h u).length ≤ (pj o h q).length ∨ pj o h u = pj o h q ++ [h] := by
      obtain ⟨t, ht⟩ := k
      cases t with
      | nil => right; rw [← ht]; simp
      | cons x t =>
        left
        have := congrArg List.length ht
        simp at this
        omega
    rcases hl with hl | hl
    · have := prefix_count (List.prefix_of_prefix_length_le (hp o h h2) hq hl) h
      omega
    · have := congrArg (List.count o) hl
      rw [pj_count (.inl rfl), List.count_append, pj_count (.inl rfl)] at this
      omega
  · have := prefix_count k o
    rw [List.count_append, pj_count (.inl rfl), pj_count (.inl rfl)] at this
    omega
theorem nth_occ {a : Nat} : ∀ {s : List Nat} {n : Nat}, n < s.count a → ∃ q r, s = q ++ a :: r ∧ q.count a = n
  | [], n, h => by simp at h
  | x :: s, n, h => by
    by_cases e : x = a
    · subst e
      cases n with
      | zero => exact ⟨[], s, rfl, rfl⟩
      | succ n =>
        rw [List.count_cons_self] at h
        obtain ⟨q, r, rfl, hq⟩ := nth_occ (a := x) (s := s) (n := n) (by omega)
        exact ⟨x :: q, r, rfl, by rw [List.count_cons_self, hq]⟩
    · rw [List.count_cons_of_ne e] at h
      obtain ⟨q, r, rfl, hq⟩ := nth_occ h
      exact ⟨x :: q, r, rfl, by rw [List.count_cons_of_ne e, hq]⟩
theorem con_eqv (hs : ∀ a b, com a b = com b a) (h4 : ∀ x ∈ s, x < 4) {w : List Nat} (hw : ∀ x ∈ w, x < 4) (hc : ∀ x, w.count x = s.count x) (hp : ∀ p r, w = p ++ r → conR (notesS com s) (cntW 4 p) = true) : eqv com w s := by
  intro a b k
  have key : ∀ (r p : List Nat), w = p ++ r → pj a b p <+: pj a b s := by
    have : ∀ (n : Nat) (p r : List Nat), p.length = n → w = p ++ r → pj a b p <+: pj a b s := by
      intro n
      induction n with
      | zero =>
        intro p r hl _
        have : p = [] := by simpa using hl
        subst this
        exact List.nil_prefix
      | succ n ih =>
        intro p r hl e
        obtain ⟨p', x, rfl⟩ : ∃ p' x, p = p' ++ [x] := by
          have hne : p ≠ [] := by rintro rfl; simp at hl
          exact ⟨p.dropLast, p.getLast hne, (List.dropLast_concat_getLast hne).symm⟩
        have ihp := ih p' (x :: r) (by simpa using hl) (by rw [e]; simp)
        rw [pj_append]
        by_cases q : x = a ∨ x = b
        · rw [pj_in q, pj_nil]
          obtain ⟨t, ht⟩ := ihp
          have hcp : p'.count x < s.count x := by
            rw [← hc, e, List.append_assoc, List.count_append]
            simp
          cases t with
          | nil =>
            exfalso
            rw [List.append_nil] at ht
            have := congrArg (List.count x) ht
            rw [pj_count q, pj_count q] at this
            omega
          | cons y t =>
            have hy : y ∈ pj a b s := by rw [← ht]; simp
            have hy := (mem_pj.1 hy).2
            by_cases exy : y = x
            · subst exy
              exact ⟨t, by rw [← ht]; simp⟩
            · exfalso
              obtain ⟨u, v, es, hu⟩ := nth_occ hcp
              have hyx : com y x = false := by
                rcases hy with hy | hy <;> rcases q with q | q
                · exact absurd (hy.trans q.symm) exy
                · rw [hy, q]; exact k
                · rw [hy, q, hs]; exact k
                · exact absurd (hy.trans q.symm) exy
              have hpu : pj a b u ++ [x] <+: pj a b s := ⟨pj a b v, by rw [es, pj_append, pj_in q]; simp⟩
              have hpp : pj a b p' ++ [y] <+: pj a b s := ⟨t, by rw [← ht]; simp⟩
              have hcu : u.count y ≥ p'.count y + 1 := by
                rcases prefix_cases hpu hpp with z | z
                · exfalso
                  have := prefix_count z x
                  rw [List.count_append, List.count_append, pj_count q, pj_count q, hu] at this
                  have e1 : [x].count x = 1 := by simp
                  have e2 : [y].count x = 0 := by simp [exy]
                  omega
                · have := prefix_count z y
                  rw [List.count_append, List.count_append, pj_count hy, pj_count hy] at this
                  have e1 : [y].count y = 1 := by simp
                  have e2 : [x].count y = 0 := by
                    have : ¬ x = y := fun z => exy z.symm
                    simp [this]
                  omega
              have hp4 : ∀ z ∈ p' ++ [x], z < 4 := fun z hz => hw z (by rw [e]; exact List.mem_append_left _ hz)
              have hcon := (con_seam h4).1 (hp (p' ++ [x]) r e) u x v es y exy hyx (by rw [nth_cnt hp4, hu, List.count_append]; simp) (by omega)
              rw [nth_cnt hp4, List.count_append] at hcon
              have e2 : [x].count y = 0 := by
                have : ¬ x = y := fun z => exy z.symm
                simp [this]
              omega
        · rw [pj_out q, pj_nil, List.append_nil]; exact ihp
    exact fun r p e => this p.length p r rfl e
  have hpre := key [] w (by simp)
  have hlen : (pj a b w).length = (pj a b s).length := by
    have e : ∀ v : List Nat, (pj a b v).length = if a = b then v.count a else v.count a + v.count b := by
      intro v
      induction v with
      | nil => simp [pj]
      | cons y v ih =>
        by_cases q : y = a ∨ y = b
        · rw [pj_in q, List.length_cons, ih, List.count_cons, List.count_cons]
          by_cases ab : a = b
          · subst ab
            have : y = a := q.elim id id
            subst this
            simp
          · rw [if_neg ab, if_neg ab]
            rcases q with q | q
            · subst q; simp [ab]; omega
            · subst q
              have : ¬ y = a := fun z => ab z.symm
              simp [this]; omega
        · rw [pj_out q, ih, List.count_cons_of_ne (fun z => q (.inl z)), List.count_cons_of_ne (fun z => q (.inr z))]
    rw [e, e, hc, hc]
  exact hpre.eq_of_length hlen
theorem seam_pre (hl : s.length ≤ 8) (h4 : ∀ x ∈ s, x < 4) (h6 : ∀ x, s.count x ≤ 6) : Pre (cntW 4 s) (notesS com s) := by
  have hn : ∀ x ∈ notesS com s, NoteIn (cntW 4 s) x := by
    intro x hx
    obtain ⟨q, h, r, e, hx⟩ := mem_notesS.1 hx
    obtain ⟨o, ho, h1, h2, h3, rfl⟩ := mem_stepN.1 hx
    have hh : h < 4 := h4 h (by rw [e]; simp)
    have c1 : q.count o ≤ s.count o := by rw [e, List.count_append]; omega
    have c2 : q.count h + 1 ≤ s.count h := by rw [e, List.count_append, List.count_cons_self]; omega
    refine ⟨by simp, by rw [cntW_len]; simp; omega, by simp, by rw [cntW_len]; simp; omega, by simp; omega, by simp; omega, ?_, by simp; omega, ?_⟩
    · simp only [Int.toNat_natCast]; rw [nth_cnt h4]; omega
    · simp only [Int.toNat_natCast]; rw [nth_cnt h4]; omega
  refine ⟨⟨by rw [cntW_len]; omega, by rw [cntW_len]; omega, fun i => by rw [nth_cnt h4]; omega, fun i => by rw [nth_cnt h4]; have := h6 i; omega, ?_, fun x hx => ?_⟩, hn⟩
  · have := notesS_len com s h4; omega
  · obtain ⟨f0, f1, t0, t1, _⟩ := hn x hx
    exact ⟨f0, f1, t0, t1⟩
theorem good_iff (P : Pre (cntW 4 s) (notesS com s)) : ∀ (w : List Nat), goodW (cntW 4 s) (notesS com s) w ↔ (∀ x ∈ w, x < 4) ∧ ∀ p r, w.reverse = p ++ r → cntW 4 p ∈ cutsL (cntW 4 s) (notesS com s)
  | [] => by
    constructor
    · intro _
      refine ⟨(fun x hx => by cases hx), fun p r e => ?_⟩
      have : p = [] := by
        have := congrArg List.length e
        simp at this
        exact List.length_eq_zero_iff.1 (by omega)
      subst this
      have := zeros_cut P.L P
      rw [cntW_len] at this
      exact this
    · intro _; trivial
  | h :: w => by
    have hD : (cntW 4 s).length = 4 := cntW_len _ _
    rw [goodW, good_iff P w, hD]
    have hc4 : ∀ {w : List Nat}, (∀ x ∈ w, x < 4) → cntW 4 w.reverse = cntW 4 w := fun {w} hw => cnt_perm (fun x hx => hw x (List.mem_reverse.1 hx)) hw fun x => by rw [List.count_reverse]
    constructor
    · rintro ⟨a, b, c, d⟩
      have hw : ∀ x ∈ h :: w, x < 4 := fun x hx => by
        rcases List.mem_cons.1 hx with rfl | hx
        · exact a
        · exact c x hx
      refine ⟨hw, fun p r e => ?_⟩
      rw [List.reverse_cons] at e
      rcases List.eq_nil_or_concat r with rfl | ⟨r', y, rfl⟩
      · rw [List.append_nil] at e
        rw [← e, ← List.reverse_cons, hc4 hw]; exact b
      · rw [List.concat_eq_append, ← List.append_assoc] at e
        exact d p r' (List.append_inj_left' e rfl)
    · rintro ⟨hw, k⟩
      refine ⟨hw h (by simp), ?_, fun x hx => hw x (by simp [hx]), fun p r e => k p (r ++ [h]) (by rw [List.reverse_cons, e, List.append_assoc])⟩
      have := k (h :: w).reverse [] (by simp)
      rwa [hc4 hw] at this
theorem count_le_mem {w : List Nat} (h4 : ∀ x ∈ s, x < 4) (h : ∀ x, w.count x ≤ s.count x) : ∀ x ∈ w, x < 4 := fun x hx => h4 x (List.count_pos_iff.1 (Nat.lt_of_lt_of_le (List.count_pos_iff.2 hx) (h x)))
theorem begin_cut (P : Pre (cntW 4 s) (notesS com s)) (h4 : ∀ x ∈ s, x < 4) (hi : ∀ a, com a a = false) {u : List Nat} (hp : ∀ a b, com a b = false → pj a b u <+: pj a b s) : cntW 4 u ∈ cutsL (cntW 4 s) (notesS com s) := by
  have hc : ∀ x, u.count x ≤ s.count x := fun x => by
    have := prefix_count (hp x x (hi x)) x
    rwa [pj_count (.inl rfl), pj_count (.inl rfl)] at this
  have hu := count_le_mem h4 hc
  refine (mem_cuts P.L).2 ⟨⟨by rw [cntW_len, cntW_len], fun h => cntW_lo _ _ h, fun h => ?_⟩, begin_con h4 hu hp⟩
  rw [nth_cnt hu, nth_cnt h4]; have := hc h; omega
include hs hi in
theorem seam_ways (P : Pre (cntW 4 s) (notesS com s)) (h4 : ∀ x ∈ s, x < 4) : waysN (cntW 4 s) (notesS com s) s.length (cntW 4 s) = cntE com s := by
  have hD : (cntW 4 s).length = 4 := cntW_len _ _
  have eq1 : ∀ w, w ∈ wordsN (cntW 4 s) (notesS com s) s.length (cntW 4 s) ↔ w.length = s.length ∧ (∀ x ∈ w, x < 4) ∧ eqv com w.reverse s := by
    intro w
    rw [mem_words P.L, good_iff P, hD]
    constructor
    · rintro ⟨a, ⟨b, c⟩, d⟩
      refine ⟨a, b, con_eqv hs h4 (fun x hx => b x (List.mem_reverse.1 hx)) (fun x => ?_) fun p r e => ((mem_cuts P.L).1 (c p r e)).2⟩
      rw [List.count_reverse]
      have := congrArg (fun c => nth c x) d
      simp only [nth_cnt b, nth_cnt h4] at this
      omega
    · rintro ⟨a, b, c⟩
      refine ⟨a, ⟨b, fun p r e => begin_cut P h4 hi fun x y k => ⟨pj x y r, by rw [← pj_append, ← e, c x y k]⟩⟩, cnt_perm b h4 fun x => ?_⟩
      rw [← c.count hi, List.count_reverse]
  unfold waysN cntE
  refine Nat.le_antisymm ?_ ?_
  · have hn : ((wordsN (cntW 4 s) (notesS com s) s.length (cntW 4 s)).map List.reverse).Nodup := by
      unfold List.Nodup
      rw [List.pairwise_map]
      exact (nodup_words _ _).imp fun h e => h (by simpa using congrArg List.reverse e)
    have := nodup_len hn (l' := (allW s.length).filter fun u => @decide (eqv com u s) (Classical.propDecidable _)) fun x hx => by
      rw [List.mem_map] at hx
      obtain ⟨w, hw, rfl⟩ := hx
      obtain ⟨a, b, c⟩ := (eq1 w).1 hw
      rw [List.mem_filter]
      exact ⟨mem_allW.2 ⟨by simpa using a, fun x hx => b x (List.mem_reverse.1 hx)⟩, @decide_eq_true _ (Classical.propDecidable _) c⟩
    simpa using this
  · have hn : (((allW s.length).filter fun u => @decide (eqv com u s) (Classical.propDecidable _)).map List.reverse).Nodup := by
      unfold List.Nodup
      rw [List.pairwise_map]
      exact (List.Nodup.sublist List.filter_sublist (nodup_allW _)).imp fun h e => h (by simpa using congrArg List.reverse e)
    have := nodup_len hn (l' := wordsN (cntW 4 s) (notesS com s) s.length (cntW 4 s)) fun x hx => by
      rw [List.mem_map] at hx
      obtain ⟨u, hu, rfl⟩ := hx
      rw [List.mem_filter] at hu
      obtain ⟨a, b⟩ := mem_allW.1 hu.1
      exact (eq1 _).2 ⟨by simpa using a, fun x hx => b x (List.mem_reverse.1 hx), by rw [List.reverse_reverse]; exact @of_decide_eq_true _ (Classical.propDecidable _) hu.2⟩
    simpa using this
include hs hi in
theorem seam_valid (P : Pre (cntW 4 s) (notesS com s)) (h4 : ∀ x ∈ s, x < 4) : ValidS (cntW 4 s) (notesS com s) := by
  have g : goodW (cntW 4 s) (notesS com s) s.reverse := (good_iff P _).2 ⟨fun x hx => h4 x (List.mem_reverse.1 hx), fun p r e => begin_cut P h4 hi fun x y k => ⟨pj x y r, by rw [← pj_append, ← e, List.reverse_reverse]⟩⟩
  have r := reach_word P _ g
  rw [cntW_len, cnt_perm (fun x hx => h4 x (List.mem_reverse.1 hx)) h4 fun x => List.count_reverse] at r
  exact P.valid r
end
end Go.Proofs.Ytdkmepjedjclkaa

/-
  MEET AND JOIN OF TWO BEGINNINGS OF ONE SEAM. Conditions: none.
-/
namespace Go.Proofs.Ytdkmepjedjclkaa
open Go.AM
open Go.Proofs.Try (prog)
set_option linter.all false
set_option maxRecDepth 100000
set_option maxHeartbeats 1000000
structure MeetP (com : Nat → Nat → Bool) (u v out a b : List Nat) : Prop where
  l : ∀ x y, com x y = false → pj x y out ++ pj x y a = pj x y u
  r : ∀ x y, com x y = false → pj x y out ++ pj x y b = pj x y v
  no : ∀ c, c < 4 → frontN com a c = none ∨ frontN com b c = none
section
variable {com : Nat → Nat → Bool} {s u v out a b : List Nat}
theorem pj_first {x y : Nat} (hxy : x ≠ y) {w : List Nat} (hy : y ∈ w) (hx : x ∉ w) : ∃ t, pj y x w = y :: t := by
  cases h : pj y x w with
  | nil =>
    have : y ∈ pj y x w := mem_pj.2 ⟨hy, .inl rfl⟩
    rw [h] at this; cases this
  | cons z t =>
    have hz : z ∈ pj y x w := by rw [h]; simp
    obtain ⟨h1, h2⟩ := mem_pj.1 hz
    rcases h2 with rfl | rfl
    · exact ⟨t, rfl⟩
    · exact absurd h1 hx
theorem next_same {p q : List Nat} {x y : Nat} {w : List Nat} (h1 : p ++ [x] <+: w) (h2 : p ++ [y] <+: w) : x = y := by
  have := List.prefix_of_prefix_length_le h1 h2 (by simp)
  have := this.eq_of_length (by simp)
  simpa using this
theorem meet_apart (hs : ∀ a b, com a b = com b a) (hi : ∀ a, com a a = false) (h4 : ∀ x ∈ s, x < 4) (m : MeetP com u v out a b) (hu : ∀ x y, com x y = false → pj x y u <+: pj x y s) (hv : ∀ x y, com x y = false → pj x y v <+: pj x y s) :
    ∀ (n : Nat) (q r : List Nat) (x : Nat), q.length = n → s = q ++ x :: r → q.count x = out.count x → x ∈ a → x ∈ b → False := by
  intro n
  induction n using Nat.strongRecOn with
  | ind n ih =>
    intro q r x hn hsq hq hxa hxb
    have side : ∀ (w w' a b : List Nat), (∀ x y, com x y = false → pj x y out ++ pj x y a = pj x y w) → (∀ x y, com x y = false → pj x y w <+: pj x y s) → (∀ x y, com x y = false → pj x y out ++ pj x y b = pj x y w') → (∀ x y, com x y = false → pj x y w' <+: pj x y s) → (∀ y, y ∈ a → y ∈ b → ∀ q r, q.length < n → s = q ++ y :: r → q.count y = out.count y → False) → x ∈ a → x ∈ b → ∃ i, frontN com a x = some i := by
      intro w w' a b e1 p1 e2 p2 rec hxa hxb
      obtain ⟨p, a', rfl, hp⟩ := first_split hxa
      refine ⟨p.length, front_at fun y hy => ?_⟩
      have hyx : y ≠ x := fun e => hp (e ▸ hy)
      refine ⟨hyx, ?_⟩
      cases hc : com y x with
      | true => rfl
      | false =>
        exfalso
        obtain ⟨t, ht⟩ := pj_first (fun e => hyx e.symm) hy hp
        have f1 := e1 y x hc
        have f2 := p1 y x hc
        rw [← f1, pj_append, ht] at f2
        have g1 : pj y x out ++ [y] <+: pj y x s := List.IsPrefix.trans ⟨t ++ pj y x (x :: a'), by simp⟩ f2
        have g2 : pj y x q ++ [x] <+: pj y x s := ⟨pj y x r, by rw [hsq, pj_append, pj_in (.inr rfl)]; simp⟩
        have hcy : out.count y + 1 ≤ q.count y := by
          have c0 : [x].count y = 0 := by
            have : ¬ x = y := fun z => hyx z.symm
            simp [this]
          have c1 : [y].count y = 1 := by simp
          have c2 : [x].count x = 1 := by simp
          have c3 : [y].count x = 0 := by simp [hyx]
          rcases prefix_cases g2 g1 with z | z
          · exfalso
            have := prefix_count z x
            rw [List.count_append, List.count_append, pj_count (.inr rfl), pj_count (.inr rfl)] at this
            omega
          · have := prefix_count z y
            rw [List.count_append, List.count_append, pj_count (.inl rfl), pj_count (.inl rfl)] at this
            omega
        obtain ⟨q', r', hq', hcq⟩ := nth_occ (a := y) (s := q) (n := out.count y) (by omega)
        have hyb : y ∈ b := by
          have k1 := e2 y x hc
          have k2 := p2 y x hc
          rw [← k1] at k2
          cases hb : pj y x b with
          | nil =>
            have : x ∈ pj y x b := mem_pj.2 ⟨hxb, .inr rfl⟩
            rw [hb] at this; cases this
          | cons z t2 =>
            rw [hb] at k2
            have k3 : pj y x out ++ [z] <+: pj y x s := List.IsPrefix.trans ⟨t2, by simp⟩ k2
            have hz := next_same (q := []) k3 g1
            have : z ∈ pj y x b := by rw [hb]; simp
            rw [hz] at this
            exact (mem_pj.1 this).1
        exact rec y (List.mem_append_left _ hy) hyb q' (r' ++ x :: r) (by
          have := congrArg List.length hq'
          simp at this
          omega) (by rw [hsq, hq']; simp) hcq
    obtain ⟨i, h1⟩ := side u v a b m.l hu m.r hv (fun y ya yb q r hl e c => ih _ hl q r y rfl e c ya yb) hxa hxb
    obtain ⟨j, h2⟩ := side v u b a m.r hv m.l hu (fun y yb ya q r hl e c => ih _ hl q r y rfl e c ya yb) hxb hxa
    rcases m.no x (h4 x (by rw [hsq]; simp)) with h | h
    · rw [h] at h1; cases h1
    · rw [h] at h2; cases h2
theorem meet_counts (hi : ∀ a, com a a = false) (m : MeetP com u v out a b) (x : Nat) : out.count x + a.count x = u.count x ∧ out.count x + b.count x = v.count x := by
  have h1 := congrArg (List.count x) (m.l x x (hi x))
  have h2 := congrArg (List.count x) (m.r x x (hi x))
  rw [List.count_append, pj_count (.inl rfl), pj_count (.inl rfl), pj_count (.inl rfl)] at h1 h2
  exact ⟨h1, h2⟩
section
variable (hs : ∀ a b, com a b = com b a) (hi : ∀ a, com a a = false) (h4 : ∀ x ∈ s, x < 4) (m : MeetP com u v out a b) (hu : ∀ x y, com x y = false → pj x y u <+: pj x y s) (hv : ∀ x y, com x y = false → pj x y v <+: pj x y s)
include hs hi h4 m hu hv
theorem meet_disj {x : Nat} (hxa : x ∈ a) : x ∉ b := by
  intro hxb
  have hc := (meet_counts hi m x).1
  have hp := prefix_count (hu x x (hi x)) x
  rw [pj_count (.inl rfl), pj_count (.inl rfl)] at hp
  have := List.count_pos_iff.2 hxa
  obtain ⟨q, r, e, hq⟩ := nth_occ (a := x) (s := s) (n := out.count x) (by omega)
  exact meet_apart hs hi h4 m hu hv _ q r x rfl e hq hxa hxb
theorem meet_min (x : Nat) : out.count x = min (u.count x) (v.count x) := by
  obtain ⟨h1, h2⟩ := meet_counts hi m x
  by_cases hxa : x ∈ a
  · have := List.count_eq_zero_of_not_mem (meet_disj hs hi h4 m hu hv hxa); omega
  · have := List.count_eq_zero_of_not_mem hxa; omega
theorem join_max (x : Nat) : (out ++ a ++ b).count x = max (u.count x) (v.count x) := by
  obtain ⟨h1, h2⟩ := meet_counts hi m x
  rw [List.count_append, List.count_append]
  by_cases hxa : x ∈ a
  · have := List.count_eq_zero_of_not_mem (meet_disj hs hi h4 m hu hv hxa); omega
  · have := List.count_eq_zero_of_not_mem hxa; omega
theorem rests_free {x y : Nat} (hx : x ∈ a) (hy : y ∈ b) : com x y = true := by
  cases hc : com x y with
  | true => rfl
  | false =>
    exfalso
    have k1 := hu x y hc
    have k2 := hv x y hc
    rw [← m.l x y hc] at k1
    rw [← m.r x y hc] at k2
    cases ha : pj x y a with
    | nil =>
      have : x ∈ pj x y a := mem_pj.2 ⟨hx, .inl rfl⟩
      rw [ha] at this; cases this
    | cons z t =>
      cases hb : pj x y b with
      | nil =>
        have : y ∈ pj x y b := mem_pj.2 ⟨hy, .inr rfl⟩
        rw [hb] at this; cases this
      | cons z2 t2 =>
        rw [ha] at k1
        rw [hb] at k2
        have e := next_same (q := []) (List.IsPrefix.trans ⟨t, by simp⟩ k1 : pj x y out ++ [z] <+: pj x y s) (List.IsPrefix.trans ⟨t2, by simp⟩ k2 : pj x y out ++ [z2] <+: pj x y s)
        have h1 : z ∈ pj x y a := by rw [ha]; simp
        have h2 : z2 ∈ pj x y b := by rw [hb]; simp
        rw [← e] at h2
        exact meet_disj hs hi h4 m hu hv (mem_pj.1 h1).1 (mem_pj.1 h2).1
end
end
end Go.Proofs.Ytdkmepjedjclkaa
