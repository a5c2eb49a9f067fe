/-
  BODIES OF FUNCTIONS OF THE PROGRAM AS SMALL OPERATIONS (written by gen.py; checked by the kernel against the program). Conditions: none.
-/
import Derived.Test.YtpghadmpegncgaaKAmH
import Derived.Test.YtpghadmpegncgaaK00
import Derived.Test.YtpghadmpegncgaaKAmE
set_option linter.all false
namespace Go.Proofs.Ytpghadmpegncgaa
open Go.AM
open Go.Proofs.Try (prog)
set_option maxRecDepth 100000
set_option linter.all false

namespace slices_Clone_int
/-- slices.Cloneintint -/
noncomputable def b : Code := (Try.f64.body).getD .skip
theorem hf : prog.funcs[64]? = some Try.f64 := by kernel_rfl
noncomputable def r0 : Code := findReg b 0
noncomputable def r1 : Code := findReg b 1
noncomputable def i0 : Code := findCond b 0
noncomputable def i0t : Code := thenOf i0
noncomputable def i0e : Code := elseOf i0
noncomputable def r2 : Code := findReg b 2
noncomputable def r3 : Code := findReg b 3
theorem b_eq (K : List Item) (s : St) : den prog ann 64 (.code b :: K) s = den prog ann 64 (.code r0 :: .code r1 :: .code i0 :: .code r3 :: .code .ret :: K) s := den_flat hf (l := [r0, r1, i0, r3, .ret]) (by kernel_rfl) K s
theorem r0_eq (K : List Item) (s : St) : den prog ann 64 (.code r0 :: K) s = mreg prog ann 64 none [] none [] [
    ⟨some 2, none, .v fun s => some (.nils)⟩] K s := (den_reg hf _ K s).trans (by kernel_rfl)
theorem r1_eq (K : List Item) (s : St) : den prog ann 64 (.code r1 :: K) s = mreg prog ann 64 none [] none [] [
    ⟨some 3, none, .v fun s => some (s.get 0)⟩,
    ⟨some 4, none, .v fun s => binA prog .eql 22 (s.get 3) (.nils)⟩] K s := (den_reg hf _ K s).trans (by kernel_rfl)
theorem i0_eq (K : List Item) (s : St) : den prog ann 64 (.code i0 :: K) s = ifV prog ann 64 4 i0t i0e K s (s.get 4) := den_if hf (by kernel_rfl) K s
theorem i0t_eq (K : List Item) (s : St) : den prog ann 64 (.code i0t :: K) s = den prog ann 64 (.code r2 :: .code .ret :: K) s := den_flat hf (l := [r2, .ret]) (by kernel_rfl) K s
theorem r2_eq (K : List Item) (s : St) : den prog ann 64 (.code r2 :: K) s = mreg prog ann 64 none [] none [] [
    ⟨some 2, none, .v fun s => some (.nils)⟩] K s := (den_reg hf _ K s).trans (by kernel_rfl)
theorem i0e_eq (K : List Item) (s : St) : den prog ann 64 (.code i0e :: K) s = den prog ann 64 (K) s := den_flat hf (l := []) (by kernel_rfl) K s
theorem r3_eq (K : List Item) (s : St) : den prog ann 64 (.code r3 :: K) s = mreg prog ann 64 none [] none [] [
    ⟨some 5, none, .w false none fun s => bslM s.m 0 (bslA 1 0 [.int .i64 0] [])⟩,
    ⟨some 6, none, .v fun s => some (s.get 0)⟩,
    ⟨some 7, none, .w false none fun s => appendA 1 8 s.m (s.get 5) (s.get 6)⟩,
    ⟨some 2, none, .v fun s => some (s.get 7)⟩] K s := (den_reg hf _ K s).trans (by kernel_rfl)
theorem ret_eq (K : List Item) (s : St) : den prog ann 64 (.code .ret :: K) s = finM false [fun s => some (s.get 2)] s := (den_ret hf K s).trans (by kernel_rfl)
theorem nil_eq (s : St) : den prog ann 64 [] s = finM false [fun s => some (s.get 2)] s := (den_nil hf s).trans (by kernel_rfl)
theorem inBlock_eq (id : Nat) (K : List Item) (s : St) : den prog ann 64 (.inBlock id :: K) s = den prog ann 64 K s := den_inBlock hf id K s
theorem exit_eq (id : Nat) (K : List Item) (s : St) : den prog ann 64 (.code (.exit id) :: K) s = exitV prog ann 64 (exitTo id K) s := den_exitV hf id K s
theorem call_eq (v0 : AV) (m : Mem) : denC prog ann 64 [v0] m = den prog ann 64 [.code b] ⟨[(0, v0)], 8, m⟩ := (denC_impure hf (b := b) (by kernel_rfl) (by kernel_rfl) (by kernel_rfl) m).trans (by kernel_rfl)
theorem pure_eq : (ann 64).pure = false := by kernel_rfl
attribute [simp] b_eq r0_eq r1_eq i0_eq i0t_eq r2_eq i0e_eq r3_eq ret_eq nil_eq inBlock_eq exit_eq pure_eq
end slices_Clone_int



end Go.Proofs.Ytpghadmpegncgaa

/-
  STRAPS (9): the search for the first list. Conditions: none.
-/
namespace Go.Proofs.Ytpghadmpegncgaa
open Go.AM
open Go.Proofs.Try (prog)
set_option linter.all false
set_option maxRecDepth 100000
set_option maxHeartbeats 4000000

/-! ### The greatest of a list; single lists -/
def maxL (c : List Int) : Int := (c.drop 1).foldl max (nth c 0)
def gSingle (l : List Int) : Bool := decide (maxL (counts l) ≤ 1)
/-! ### The search -/
def firstF (r : List Int → Option (List Int)) (l : List Int) : Nat → Int → Option (List Int)
  | 0, _ => none
  | n + 1, x => match r (l ++ [x]) with
    | some q => some q
    | none => firstF r l n (x + 1)
def findF (g e : List Int → Bool) (last : Int) : Nat → List Int → Option (List Int)
  | 0, l => if g l = true then (if e l = true then some l else none) else none
  | f + 1, l => if g l = true then firstF (findF g e last f) l (last - f - top l).toNat (top l + 1) else none
def ResV (r : Option (List Int)) (w : AV) : Prop := match r with
  | none => w = .nils
  | some l => ∃ ex, w = .fsl ex l.length (ints l)
/-- A function value that answers a question about straps. -/
structure Clo (gV : AV) (g : List Int → Bool) (d : Nat) : Prop where
  closed : gV.closed = true
  one : gV.one = true
  says : ∀ {w : AV} {l : List Int}, IsInts w l → StrapOk l → ∀ m, callA (fun g => (ann g).pure) (denC prog ann) 0 m gV [w] = some (.bool (g l), ⟨m.h, m.nx + d⟩)
theorem clone_spec (ex : Bool) (l : List Int) (hl : l.length ≤ 1000000) (h0 : 0 < l.length) (m : Mem) : ∃ m', m'.h m.nx = some (.cells (ints l)) ∧ m'.nx = m.nx + 1 ∧ denC prog ann 64 [.fsl ex l.length (ints l)] m = some (.sl m.nx 1 0 l.length l.length, m') := by
  refine ⟨⟨upd (upd m.h m.nx (some (.cells []))) m.nx (some (.cells (ints l))), m.nx + 1⟩, by simp, rfl, ?_⟩
  rw [slices_Clone_int.call_eq]
  have hn : (l.length == 0) = false := by simp; intro e; simp [e] at h0
  simp [Mem.set, hn, show l.length ≤ 4611686018427387904 by omega, show l.length * 8 ≤ 70368744177664 by omega]
  done
theorem find_spec {gV eV : AV} {g e : List Int → Bool} {dg de : Nat} (hg : Clo gV g dg) (he : Clo eV e de) {size : Nat} {last : Int} (hs : size ≤ 40) (h1 : 0 ≤ last ∧ last ≤ 1000) : ∀ (f : Nat) (ex : Bool) (l : List Int), StrapOk l → l.length + f = size →
    ∃ w', ResV (findF g e last f l) w' ∧ ∀ m, denC prog ann 43 [.agg [.int .i64 size, .int .i64 last, gV, eV], .fsl ex l.length (ints l)] m = some (w', m) := by
  intro f
  induction f with
  | zero =>
    intro ex l s hsz
    have hv : IsInts (.fsl ex l.length (ints l)) l := .inr ⟨ex, rfl⟩
    have hcl : closedL [.agg [.int .i64 size, .int .i64 last, gV, eV], .fsl ex l.length (ints l)] = true := by simp [hg.closed, he.closed]
    have sg := hg.says hv s
    have se := he.says hv s
    have hl : size = l.length := by omega
    subst hl
    simp only [findF]
    by_cases q : g l = true
    · rw [q] at sg
      rw [if_pos q]
      by_cases q2 : e l = true
      · rw [q2] at se
        rw [if_pos q2]
        refine ⟨_, ⟨ex, rfl⟩, fun m => ?_⟩
        rw [strap_search_find.call_eq _ _ _ hcl]
        simp [sg, se, hg.one, he.one, hg.closed, he.closed]
        done
      · rw [Bool.not_eq_true] at q2
        rw [q2] at se
        rw [q2, if_neg (by decide)]
        refine ⟨_, rfl, fun m => ?_⟩
        rw [strap_search_find.call_eq _ _ _ hcl]
        simp [sg, se, hg.one, he.one, hg.closed, he.closed]
        done
    · rw [if_neg q]
      rw [Bool.not_eq_true] at q
      rw [q] at sg
      refine ⟨_, rfl, fun m => ?_⟩
      rw [strap_search_find.call_eq _ _ _ hcl]
      simp [sg, hg.one, he.one, hg.closed, he.closed]
      done
  | succ f ih =>
    intro ex l s hsz
    have hv : IsInts (.fsl ex l.length (ints l)) l := .inr ⟨ex, rfl⟩
    have hcl : closedL [.agg [.int .i64 size, .int .i64 last, gV, eV], .fsl ex l.length (ints l)] = true := by simp [hg.closed, he.closed]
    have sg := hg.says hv s
    have hl : ¬ (l.length : Int) = (size : Int) := by omega
    have hpos := s.pos
    have hlast : l.length - 1 < l.length := by omega
    have hwl : IntKind.wrap .i64 ((l.length : Int) - 1) = ((l.length - 1 : Nat) : Int) := by rw [wrap_id (by omega) (by omega)]; omega
    have t0 := s.nonneg hlast
    have t1 := s.top
    have w1 : IntKind.wrap .i64 ((size : Int) - (l.length : Int)) = (f : Int) + 1 := by rw [wrap_id (by omega) (by omega)]; omega
    have w2 : IntKind.wrap .i64 (f : Int) = (f : Int) := wrap_id (by omega) (by omega)
    have w3 : IntKind.wrap .i64 (last - (f : Int)) = last - (f : Int) := wrap_id (by omega) (by omega)
    have w4 : IntKind.wrap .i64 (nth l (l.length - 1) + 1) = nth l (l.length - 1) + 1 := wrap_id (by omega) (by omega)
    have loop : ∀ (n : Nat) (x : Int), n = (last - f - x + 1).toNat → top l < x → x ≤ 1001 → ∃ w', ResV (firstF (findF g e last f) l n x) w' ∧ ∀ m, strap_search_find.L1 (.fsl ex l.length (ints l)) (.fptr [.int .i64 size, .int .i64 last, gV, eV]) (.int .i64 x) m [.code strap_search_find.r13, .code .ret] = some (w', Mem.empty) := by
      intro n
      induction n with
      | zero =>
        intro x hn hx hx2
        refine ⟨.nils, rfl, fun m => ?_⟩
        have hc : ¬ x ≤ last - (f : Int) := by omega
        rw [strap_search_find.L1_eq]
        simp [w1, w2, w3, hc]
        done
      | succ n ihn =>
        intro x hn hx hx2
        have hc : x ≤ last - (f : Int) := by omega
        have hw : IntKind.wrap .i64 (x + 1) = x + 1 := wrap_id (by unfold top at hx; omega) (by omega)
        have s2 : StrapOk (l ++ [x]) := s.more (by omega) hx (by omega)
        obtain ⟨w1', r1, e1⟩ := ih false (l ++ [x]) s2 (by simp; omega)
        obtain ⟨w2', r2, e2⟩ := ihn (x + 1) (by omega) (by omega) (by omega)
        have hxx : ints l ++ [AV.int .i64 x] = ints (l ++ [x]) := by simp [ints]
        have hll : (l ++ [x]).length = l.length + 1 := by simp
        have htk : (l ++ [x]).take (l.length + 1) = l ++ [x] := List.take_of_length_le (by simp)
        rw [hll] at e1
        simp only [firstF]
        cases hf : findF g e last f (l ++ [x]) with
        | some q =>
          rw [hf] at r1
          obtain ⟨ex', rfl⟩ := r1
          refine ⟨_, ⟨ex', rfl⟩, fun m => ?_⟩
          obtain ⟨m', c1, c2, c3⟩ := clone_spec ex l (by omega) hpos ⟨m.h, m.nx + 8⟩
          rw [strap_search_find.L1_eq]
          simp [w1, w2, w3, hc, c3, c1, hxx, show l.length ≤ 4611686018427387903 by omega, show (l.length + 1) * 8 ≤ 70368744177664 by omega, hg.one, he.one, hg.closed, he.closed, htk, e1]
          done
        | none =>
          rw [hf] at r1
          have r1' : w1' = .nils := r1
          subst r1'
          refine ⟨w2', r2, fun m => ?_⟩
          obtain ⟨m', c1, c2, c3⟩ := clone_spec ex l (by omega) hpos ⟨m.h, m.nx + 8⟩
          rw [strap_search_find.L1_eq]
          simp [w1, w2, w3, hc, c3, c1, hxx, show l.length ≤ 4611686018427387903 by omega, show (l.length + 1) * 8 ≤ 70368744177664 by omega, hg.one, he.one, hg.closed, he.closed, htk, e1, hw, e2]
          done
    by_cases q : g l = true
    · rw [q] at sg
      obtain ⟨w', r, ew⟩ := loop (last - f - top l).toNat (top l + 1) (by omega) (by omega) (by unfold top; omega)
      unfold top at ew
      refine ⟨w', by simp only [findF]; rw [if_pos q]; exact r, fun m => ?_⟩
      rw [strap_search_find.call_eq _ _ _ hcl]
      simp [sg, hg.one, he.one, hg.closed, he.closed, hl, hwl, hv.idx hlast, ints_head hlast, w4, ew]
      done
    · refine ⟨.nils, by simp only [findF]; rw [if_neg q]; rfl, fun m => ?_⟩
      rw [Bool.not_eq_true] at q
      rw [q] at sg
      rw [strap_search_find.call_eq _ _ _ hcl]
      simp [sg, hg.one, he.one, hg.closed, he.closed]
      done
end Go.Proofs.Ytpghadmpegncgaa

/-
  STRAPS (10): Single, and the specification's. Conditions: none.
-/
namespace Go.Proofs.Ytpghadmpegncgaa
open Go.AM
open Go.Proofs.Try (prog)
set_option linter.all false
set_option maxRecDepth 100000
set_option maxHeartbeats 4000000

def endsAt (L : Int) (l : List Int) : Bool := decide (top l = L)
theorem one_ok : StrapOk [0] := ⟨by decide, by decide, rfl, fun i hi => by simp at hi, by decide⟩
/-- Length after length. -/
def sngS (k : Nat) : Nat → Int → Option (List Int)
  | 0, _ => none
  | n + 1, L => match findF gSingle (endsAt L) L (k - 1) [0] with
    | some r => some r
    | none => sngS k n (L + 1)
/-! ### The specification's -/
def rsF (L : Int) : Nat → List Int → Option (List Int)
  | 0, l => if (tw0 l l.length 0 []).isEmpty = true then (if top l = L then some l else none) else none
  | f + 1, l => if (tw0 l l.length 0 []).isEmpty = true then firstF (rsF L f) l (L - top l).toNat (top l + 1) else none
def rsS (k : Nat) : Nat → Int → Option (List Int)
  | 0, _ => none
  | n + 1, L => match rsF L (k - 1) [0] with
    | some r => some r
    | none => rsS k n (L + 1)
end Go.Proofs.Ytpghadmpegncgaa

/-
  BODIES OF FUNCTIONS OF THE PROGRAM AS SMALL OPERATIONS (written by gen.py; checked by the kernel against the program). Conditions: none.
-/
namespace Go.Proofs.Ytpghadmpegncgaa
open Go.AM
open Go.Proofs.Try (prog)
set_option maxRecDepth 100000
set_option linter.all false

namespace strap_Full
/-- pommel/strap.Full -/
noncomputable def b : Code := (Try.f19.body).getD .skip
theorem hf : prog.funcs[19]? = some Try.f19 := by kernel_rfl
noncomputable def r0 : Code := findReg b 0
noncomputable def r1 : Code := findReg b 1
noncomputable def i0 : Code := findCond b 0
noncomputable def i0t : Code := thenOf i0
noncomputable def i0e : Code := elseOf i0
noncomputable def r2 : Code := findReg b 2
noncomputable def r3 : Code := findReg b 3
noncomputable def r4 : Code := findReg b 4
noncomputable def r5 : Code := findReg b 5
noncomputable def k0 : Code := findBlk b 0
noncomputable def l0 : Code := loopOf k0
noncomputable def L0 (x1 x4 x5 x6 : AV) (m : Mem) (K : List Item) : Option Res := den prog ann 19 (.code l0 :: .inLoop l0 :: .inBlock 0 :: K) ⟨[(1, x1), (4, x4), (5, x5), (6, x6)], 34, m⟩
noncomputable def k1 : Code := findBlk b 1
noncomputable def r7 : Code := findReg b 7
noncomputable def i1 : Code := findCond b 1
noncomputable def i1t : Code := thenOf i1
noncomputable def i1e : Code := elseOf i1
noncomputable def r8 : Code := findReg b 8
noncomputable def r9 : Code := findReg b 9
noncomputable def i2 : Code := findCond b 2
noncomputable def i2t : Code := thenOf i2
noncomputable def i2e : Code := elseOf i2
noncomputable def r10 : Code := findReg b 10
noncomputable def r6 : Code := findReg b 6
theorem b_eq (K : List Item) (s : St) : den prog ann 19 (.code b :: K) s = den prog ann 19 (.code r0 :: .code r1 :: .code i0 :: .code r3 :: .code r4 :: .code r5 :: .code k0 :: K) s := den_flat hf (l := [r0, r1, i0, r3, r4, r5, k0]) (by kernel_rfl) K s
theorem r0_eq (K : List Item) (s : St) : den prog ann 19 (.code r0 :: K) s = mreg prog ann 19 none [] none [] [
    ⟨some 1, none, .v fun s => frozenPtr (s.get 0)⟩,
    ⟨some 2, none, .v fun s => some (.nils)⟩,
    ⟨some 3, none, .v fun s => some (.int .i64 0)⟩] K s := (den_reg hf _ K s).trans (by kernel_rfl)
theorem r1_eq (K : List Item) (s : St) : den prog ann 19 (.code r1 :: K) s = mreg prog ann 19 none [] none [] [
    ⟨some 8, none, .v fun s => loadF false 1 (s.get 1)⟩,
    ⟨some 9, none, .v fun s => binA prog .lss 3 (s.get 8) (.int .i64 1)⟩,
    ⟨some 10, none, .v fun s => some (s.get 9)⟩,
    ⟨some 11, some (10, false), .v fun s => loadF false 1 (s.get 1)⟩,
    ⟨some 12, some (10, false), .v fun s => binA prog .gtr 3 (s.get 11) (.int .i64 20)⟩,
    ⟨some 13, none, .v fun s => pickA (s.get 10) (.bool true) (s.get 12)⟩] K s := (den_reg hf _ K s).trans (by kernel_rfl)
theorem i0_eq (K : List Item) (s : St) : den prog ann 19 (.code i0 :: K) s = ifV prog ann 19 13 i0t i0e K s (s.get 13) := den_if hf (by kernel_rfl) K s
theorem i0t_eq (K : List Item) (s : St) : den prog ann 19 (.code i0t :: K) s = den prog ann 19 (.code r2 :: .code .ret :: K) s := den_flat hf (l := [r2, .ret]) (by kernel_rfl) K s
theorem r2_eq (K : List Item) (s : St) : den prog ann 19 (.code r2 :: K) s = mreg prog ann 19 none [] none [] [
    ⟨some 2, none, .v fun s => some (.nils)⟩,
    ⟨some 3, none, .v fun s => some (.int .i64 1)⟩] K s := (den_reg hf _ K s).trans (by kernel_rfl)
theorem i0e_eq (K : List Item) (s : St) : den prog ann 19 (.code i0e :: K) s = den prog ann 19 (K) s := den_flat hf (l := []) (by kernel_rfl) K s
theorem r3_eq (K : List Item) (s : St) : den prog ann 19 (.code r3 :: K) s = mreg prog ann 19 none [] none [] [
    ⟨some 4, none, .v fun s => some (.fn 47 [] [])⟩] K s := (den_reg hf _ K s).trans (by kernel_rfl)
theorem r4_eq (K : List Item) (s : St) : den prog ann 19 (.code r4 :: K) s = mreg prog ann 19 none [] none [] [
    ⟨some 14, none, .v fun s => some (.fn 48 [] [(s.get 1)])⟩,
    ⟨some 5, none, .v fun s => some (s.get 14)⟩] K s := (den_reg hf _ K s).trans (by kernel_rfl)
theorem r5_eq (K : List Item) (s : St) : den prog ann 19 (.code r5 :: K) s = mreg prog ann 19 none [] none [] [
    ⟨some 6, none, .v fun s => some (.int .i64 2)⟩] K s := (den_reg hf _ K s).trans (by kernel_rfl)
theorem k0_eq (K : List Item) (t : List (Nat × AV)) (m : Mem) : den prog ann 19 (.code k0 :: K) ⟨t, 34, m⟩ = L0 (get t 1) (get t 4) (get t 5) (get t 6) m K := den_loop_enter hf (b := l0) (id := 7) (l := [1, 4, 5, 6]) (by kernel_rfl) (by kernel_rfl) (by kernel_rfl) K _
theorem l0_eq (K : List Item) (t : List (Nat × AV)) (m : Mem) : den prog ann 19 (.inLoop l0 :: .inBlock 0 :: K) ⟨t, 34, m⟩ = L0 (get t 1) (get t 4) (get t 5) (get t 6) m K := den_loop_again hf (id := 7) (l := [1, 4, 5, 6]) (by kernel_rfl) (by kernel_rfl) (.inBlock 0 :: K) _
theorem L0_eq (x1 x4 x5 x6 : AV) (m : Mem) (K : List Item) : L0 x1 x4 x5 x6 m K = den prog ann 19 (.code k1 :: .code r6 :: .inLoop l0 :: .inBlock 0 :: K) ⟨[(1, x1), (4, x4), (5, x5), (6, x6)], 34, m⟩ := den_flat hf (l := [k1, r6]) (by kernel_rfl) _ _
theorem k1_eq (K : List Item) (s : St) : den prog ann 19 (.code k1 :: K) s = den prog ann 19 (.code r7 :: .code i1 :: .code r8 :: .code r9 :: .code i2 :: .inBlock 1 :: K) s := den_blk hf (b := blkOf k1) (l := [r7, i1, r8, r9, i2]) (by kernel_rfl) (by kernel_rfl) K s
theorem r7_eq (K : List Item) (s : St) : den prog ann 19 (.code r7 :: K) s = mreg prog ann 19 (some [1, 4, 5, 6]) [] none [] [
    ⟨some 17, none, .v fun s => some (s.get 6)⟩,
    ⟨some 18, none, .v fun s => some (s.get 6)⟩,
    ⟨some 19, none, .v fun s => binA prog .sub 3 (s.get 18) (.int .i64 1)⟩,
    ⟨some 20, none, .v fun s => binA prog .mul 3 (s.get 17) (s.get 19)⟩,
    ⟨some 21, none, .v fun s => binA prog .quo 3 (s.get 20) (.int .i64 2)⟩,
    ⟨some 22, none, .v fun s => loadF false 1 (s.get 1)⟩,
    ⟨some 23, none, .v fun s => binA prog .lss 3 (s.get 21) (s.get 22)⟩] K s := (den_reg hf _ K s).trans (by kernel_rfl)
theorem i1_eq (K : List Item) (s : St) : den prog ann 19 (.code i1 :: K) s = ifV prog ann 19 23 i1t i1e K s (s.get 23) := den_if hf (by kernel_rfl) K s
theorem i1t_eq (K : List Item) (s : St) : den prog ann 19 (.code i1t :: K) s = den prog ann 19 (.code (.exit 1) :: K) s := den_flat hf (l := [(.exit 1)]) (by kernel_rfl) K s
theorem i1e_eq (K : List Item) (s : St) : den prog ann 19 (.code i1e :: K) s = den prog ann 19 (K) s := den_flat hf (l := []) (by kernel_rfl) K s
theorem r8_eq (K : List Item) (s : St) : den prog ann 19 (.code r8 :: K) s = mreg prog ann 19 none [] none [] [
    ⟨some 24, none, .v fun s => some (s.get 6)⟩,
    ⟨some 25, none, .v fun s => loadF false 1 (s.get 1)⟩,
    ⟨some 26, none, .v fun s => some (s.get 4)⟩,
    ⟨some 27, none, .v fun s => some (s.get 5)⟩,
    ⟨some 28, none, .v fun s => bldA (plc [(0, 1), (1, 1), (2, 1), (3, 1)]) [.int .i64 0, .int .i64 0, .nilf, .nilf] [(0, (s.get 24)), (1, (s.get 25)), (2, (s.get 26)), (3, (s.get 27))]⟩,
    ⟨some 29, none, .v fun s => bslF 1 (bslA 1 1 [.int .i64 0] [(0, (.int .i64 0))])⟩,
    ⟨some 30, none, .c 2 (fun s => (.fn 43 [] [])) fun s => [(s.get 28), (s.get 29)]⟩,
    ⟨some 7, none, .v fun s => some (s.get 30)⟩] K s := (den_reg hf _ K s).trans (by kernel_rfl)
theorem r9_eq (K : List Item) (s : St) : den prog ann 19 (.code r9 :: K) s = mreg prog ann 19 none [] none [] [
    ⟨some 31, none, .v fun s => some (s.get 7)⟩,
    ⟨some 32, none, .v fun s => binA prog .neq 22 (s.get 31) (.nils)⟩] K s := (den_reg hf _ K s).trans (by kernel_rfl)
theorem i2_eq (K : List Item) (s : St) : den prog ann 19 (.code i2 :: K) s = ifV prog ann 19 32 i2t i2e K s (s.get 32) := den_if hf (by kernel_rfl) K s
theorem i2t_eq (K : List Item) (s : St) : den prog ann 19 (.code i2t :: K) s = den prog ann 19 (.code r10 :: .code .ret :: K) s := den_flat hf (l := [r10, .ret]) (by kernel_rfl) K s
theorem r10_eq (K : List Item) (s : St) : den prog ann 19 (.code r10 :: K) s = mreg prog ann 19 none [] none [] [
    ⟨some 33, none, .v fun s => some (s.get 7)⟩,
    ⟨some 2, none, .v fun s => some (s.get 33)⟩,
    ⟨some 3, none, .v fun s => some (.int .i64 0)⟩] K s := (den_reg hf _ K s).trans (by kernel_rfl)
theorem i2e_eq (K : List Item) (s : St) : den prog ann 19 (.code i2e :: K) s = den prog ann 19 (K) s := den_flat hf (l := []) (by kernel_rfl) K s
theorem r6_eq (K : List Item) (s : St) : den prog ann 19 (.code r6 :: K) s = mreg prog ann 19 (some [1, 4, 5, 6]) [] none [] [
    ⟨some 15, none, .v fun s => some (s.get 6)⟩,
    ⟨some 16, none, .v fun s => binA prog .add 3 (s.get 15) (.int .i64 1)⟩,
    ⟨some 6, none, .v fun s => some (s.get 16)⟩] K s := (den_reg hf _ K s).trans (by kernel_rfl)
theorem ret_eq (K : List Item) (s : St) : den prog ann 19 (.code .ret :: K) s = finM true [fun s => some (s.get 2), fun s => some (s.get 3)] s := (den_ret hf K s).trans (by kernel_rfl)
theorem nil_eq (s : St) : den prog ann 19 [] s = finM true [fun s => some (s.get 2), fun s => some (s.get 3)] s := (den_nil hf s).trans (by kernel_rfl)
theorem inBlock_eq (id : Nat) (K : List Item) (s : St) : den prog ann 19 (.inBlock id :: K) s = den prog ann 19 K s := den_inBlock hf id K s
theorem exit_eq (id : Nat) (K : List Item) (s : St) : den prog ann 19 (.code (.exit id) :: K) s = exitV prog ann 19 (exitTo id K) s := den_exitV hf id K s
theorem call_eq (v0 : AV) (m : Mem) (h : closedL [v0] = true) : denC prog ann 19 [v0] m = (den prog ann 19 [.code b] ⟨[(0, v0)], 34, Mem.empty⟩).bind fun r => some (r.1, m) := (denC_pure hf (b := b) (by kernel_rfl) (by kernel_rfl) (by kernel_rfl) h m).trans (by kernel_rfl)
theorem pure_eq : (ann 19).pure = true := by kernel_rfl
attribute [simp] b_eq r0_eq r1_eq i0_eq i0t_eq r2_eq i0e_eq r3_eq r4_eq r5_eq k0_eq l0_eq k1_eq r7_eq i1_eq i1t_eq i1e_eq r8_eq r9_eq i2_eq i2t_eq r10_eq i2e_eq r6_eq ret_eq nil_eq inBlock_eq exit_eq pure_eq
end strap_Full

namespace strap_Full_1
/-- pommel/strap.Full$1 -/
noncomputable def b : Code := (Try.f47.body).getD .skip
theorem hf : prog.funcs[47]? = some Try.f47 := by kernel_rfl
noncomputable def r0 : Code := findReg b 0
noncomputable def r1 : Code := findReg b 1
theorem b_eq (K : List Item) (s : St) : den prog ann 47 (.code b :: K) s = den prog ann 47 (.code r0 :: .code r1 :: .code .ret :: K) s := den_flat hf (l := [r0, r1, .ret]) (by kernel_rfl) K s
theorem r0_eq (K : List Item) (s : St) : den prog ann 47 (.code r0 :: K) s = mreg prog ann 47 none [] none [] [
    ⟨some 2, none, .v fun s => some (.bool false)⟩] K s := (den_reg hf _ K s).trans (by kernel_rfl)
theorem r1_eq (K : List Item) (s : St) : den prog ann 47 (.code r1 :: K) s = mreg prog ann 47 none [] none [] [
    ⟨some 2, none, .v fun s => some (.bool true)⟩] K s := (den_reg hf _ K s).trans (by kernel_rfl)
theorem ret_eq (K : List Item) (s : St) : den prog ann 47 (.code .ret :: K) s = finM true [fun s => some (s.get 2)] s := (den_ret hf K s).trans (by kernel_rfl)
theorem nil_eq (s : St) : den prog ann 47 [] s = finM true [fun s => some (s.get 2)] s := (den_nil hf s).trans (by kernel_rfl)
theorem inBlock_eq (id : Nat) (K : List Item) (s : St) : den prog ann 47 (.inBlock id :: K) s = den prog ann 47 K s := den_inBlock hf id K s
theorem exit_eq (id : Nat) (K : List Item) (s : St) : den prog ann 47 (.code (.exit id) :: K) s = exitV prog ann 47 (exitTo id K) s := den_exitV hf id K s
theorem call_eq (v0 : AV) (m : Mem) (h : closedL [v0] = true) : denC prog ann 47 [v0] m = (den prog ann 47 [.code b] ⟨[(0, v0)], 3, Mem.empty⟩).bind fun r => some (r.1, m) := (denC_pure hf (b := b) (by kernel_rfl) (by kernel_rfl) (by kernel_rfl) h m).trans (by kernel_rfl)
theorem pure_eq : (ann 47).pure = true := by kernel_rfl
attribute [simp] b_eq r0_eq r1_eq ret_eq nil_eq inBlock_eq exit_eq pure_eq
end strap_Full_1

namespace strap_Full_2
/-- pommel/strap.Full$2 -/
noncomputable def b : Code := (Try.f48.body).getD .skip
theorem hf : prog.funcs[48]? = some Try.f48 := by kernel_rfl
noncomputable def r0 : Code := findReg b 0
noncomputable def r1 : Code := findReg b 1
theorem b_eq (K : List Item) (s : St) : den prog ann 48 (.code b :: K) s = den prog ann 48 (.code r0 :: .code r1 :: .code .ret :: K) s := den_flat hf (l := [r0, r1, .ret]) (by kernel_rfl) K s
theorem r0_eq (K : List Item) (s : St) : den prog ann 48 (.code r0 :: K) s = mreg prog ann 48 none [] none [] [
    ⟨some 3, none, .v fun s => some (.bool false)⟩] K s := (den_reg hf _ K s).trans (by kernel_rfl)
theorem r1_draw : drawOk (fun g => (ann g).pure) (modeOf (ann 48) (idOf r1)) (frzOf (ann 48) (idOf r1)) (opsOf r1) = true := drawOk_of (an := [0, 0, 2, 6, 15, 31, 0, 127, 255, 511, 1023, 2047, 4095, 8191, 16383, 32767]) (by kernel_rfl) (by kernel_rfl)
theorem r1_eq (K : List Item) (s : St) : den prog ann 48 (.code r1 :: K) s = mreg prog ann 48 none [] (some 16) [] [
    ⟨some 4, none, .v fun s => some (s.get 0)⟩,
    ⟨some 5, none, .v fun s => some (s.get 0)⟩,
    ⟨some 6, none, .v fun s => lenSl (s.get 5)⟩,
    ⟨some 7, none, .v fun s => binA prog .sub 3 (s.get 6) (.int .i64 1)⟩,
    ⟨some 8, none, .v fun s => idxSl 1 (s.get 4) (s.get 7)⟩,
    ⟨some 9, none, .v fun s => loadA false 1 s.m (s.get 8)⟩,
    ⟨some 10, none, .v fun s => loadA false 1 s.m (s.get 1)⟩,
    ⟨some 11, none, .v fun s => binA prog .eql 3 (s.get 9) (s.get 10)⟩,
    ⟨some 12, none, .v fun s => some (s.get 11)⟩,
    ⟨some 13, some (12, true), .v fun s => some (s.get 0)⟩,
    ⟨some 14, some (12, true), .c 0 (fun s => (.fn 50 [] [])) fun s => [(s.get 13)]⟩,
    ⟨some 15, some (12, true), .v fun s => sliceSl 1 (s.get 14) (some (.int .i64 1)) none⟩,
    ⟨some 16, some (12, true), .c 0 (fun s => (.fn 49 [] [])) fun s => [(s.get 15), (.int .i64 0)]⟩,
    ⟨some 17, some (12, true), .v fun s => unA .not (s.get 16)⟩,
    ⟨some 18, none, .v fun s => pickA (s.get 12) (s.get 17) (.bool false)⟩,
    ⟨some 3, none, .v fun s => some (s.get 18)⟩] K s := (den_regD hf r1_draw K s).trans (by kernel_rfl)
theorem ret_eq (K : List Item) (s : St) : den prog ann 48 (.code .ret :: K) s = finM false [fun s => some (s.get 3)] s := (den_ret hf K s).trans (by kernel_rfl)
theorem nil_eq (s : St) : den prog ann 48 [] s = finM false [fun s => some (s.get 3)] s := (den_nil hf s).trans (by kernel_rfl)
theorem inBlock_eq (id : Nat) (K : List Item) (s : St) : den prog ann 48 (.inBlock id :: K) s = den prog ann 48 K s := den_inBlock hf id K s
theorem exit_eq (id : Nat) (K : List Item) (s : St) : den prog ann 48 (.code (.exit id) :: K) s = exitV prog ann 48 (exitTo id K) s := den_exitV hf id K s
theorem call_eq (v0 v1 : AV) (m : Mem) : denC prog ann 48 [v0, v1] m = den prog ann 48 [.code b] ⟨[(0, v0), (1, v1)], 19, m⟩ := (denC_impure hf (b := b) (by kernel_rfl) (by kernel_rfl) (by kernel_rfl) m).trans (by kernel_rfl)
theorem pure_eq : (ann 48).pure = false := by kernel_rfl
attribute [simp] b_eq r0_eq r1_eq ret_eq nil_eq inBlock_eq exit_eq pure_eq
end strap_Full_2

namespace r04_Full
/-- pommel/pommelref04.Full -/
noncomputable def b : Code := (Try.f20.body).getD .skip
theorem hf : prog.funcs[20]? = some Try.f20 := by kernel_rfl
noncomputable def r0 : Code := findReg b 0
noncomputable def r1 : Code := findReg b 1
noncomputable def k0 : Code := findBlk b 0
noncomputable def l0 : Code := loopOf k0
noncomputable def L0 (x0 x3 : AV) (m : Mem) (K : List Item) : Option Res := den prog ann 20 (.code l0 :: .inLoop l0 :: .inBlock 0 :: K) ⟨[(0, x0), (3, x3)], 14, m⟩
noncomputable def k1 : Code := findBlk b 1
noncomputable def r3 : Code := findReg b 3
noncomputable def r4 : Code := findReg b 4
noncomputable def i0 : Code := findCond b 0
noncomputable def i0t : Code := thenOf i0
noncomputable def i0e : Code := elseOf i0
noncomputable def r5 : Code := findReg b 5
noncomputable def r2 : Code := findReg b 2
theorem b_eq (K : List Item) (s : St) : den prog ann 20 (.code b :: K) s = den prog ann 20 (.code r0 :: .code r1 :: .code k0 :: K) s := den_flat hf (l := [r0, r1, k0]) (by kernel_rfl) K s
theorem r0_eq (K : List Item) (s : St) : den prog ann 20 (.code r0 :: K) s = mreg prog ann 20 none [] none [] [
    ⟨some 2, none, .v fun s => some (.nils)⟩] K s := (den_reg hf _ K s).trans (by kernel_rfl)
theorem r1_eq (K : List Item) (s : St) : den prog ann 20 (.code r1 :: K) s = mreg prog ann 20 none [] none [] [
    ⟨some 3, none, .v fun s => some (.int .i64 2)⟩] K s := (den_reg hf _ K s).trans (by kernel_rfl)
theorem k0_eq (K : List Item) (t : List (Nat × AV)) (m : Mem) : den prog ann 20 (.code k0 :: K) ⟨t, 14, m⟩ = L0 (get t 0) (get t 3) m K := den_loop_enter hf (b := l0) (id := 3) (l := [0, 3]) (by kernel_rfl) (by kernel_rfl) (by kernel_rfl) K _
theorem l0_eq (K : List Item) (t : List (Nat × AV)) (m : Mem) : den prog ann 20 (.inLoop l0 :: .inBlock 0 :: K) ⟨t, 14, m⟩ = L0 (get t 0) (get t 3) m K := den_loop_again hf (id := 3) (l := [0, 3]) (by kernel_rfl) (by kernel_rfl) (.inBlock 0 :: K) _
theorem L0_eq (x0 x3 : AV) (m : Mem) (K : List Item) : L0 x0 x3 m K = den prog ann 20 (.code k1 :: .code r2 :: .inLoop l0 :: .inBlock 0 :: K) ⟨[(0, x0), (3, x3)], 14, m⟩ := den_flat hf (l := [k1, r2]) (by kernel_rfl) _ _
theorem k1_eq (K : List Item) (s : St) : den prog ann 20 (.code k1 :: K) s = den prog ann 20 (.code r3 :: .code r4 :: .code i0 :: .inBlock 1 :: K) s := den_blk hf (b := blkOf k1) (l := [r3, r4, i0]) (by kernel_rfl) (by kernel_rfl) K s
theorem r3_eq (K : List Item) (s : St) : den prog ann 20 (.code r3 :: K) s = mreg prog ann 20 (some [0, 3]) [] none [] [
    ⟨some 7, none, .v fun s => bslF 1 (bslA 1 1 [.int .i64 0] [(0, (.int .i64 0))])⟩,
    ⟨some 8, none, .v fun s => some (s.get 3)⟩,
    ⟨some 9, none, .v fun s => some (s.get 0)⟩,
    ⟨some 10, none, .c 2 (fun s => (.fn 51 [] [])) fun s => [(s.get 7), (s.get 8), (s.get 9)]⟩,
    ⟨some 4, none, .v fun s => some (s.get 10)⟩] K s := (den_reg hf _ K s).trans (by kernel_rfl)
theorem r4_eq (K : List Item) (s : St) : den prog ann 20 (.code r4 :: K) s = mreg prog ann 20 none [] none [] [
    ⟨some 11, none, .v fun s => some (s.get 4)⟩,
    ⟨some 12, none, .v fun s => binA prog .neq 22 (s.get 11) (.nils)⟩] K s := (den_reg hf _ K s).trans (by kernel_rfl)
theorem i0_eq (K : List Item) (s : St) : den prog ann 20 (.code i0 :: K) s = ifV prog ann 20 12 i0t i0e K s (s.get 12) := den_if hf (by kernel_rfl) K s
theorem i0t_eq (K : List Item) (s : St) : den prog ann 20 (.code i0t :: K) s = den prog ann 20 (.code r5 :: .code .ret :: K) s := den_flat hf (l := [r5, .ret]) (by kernel_rfl) K s
theorem r5_eq (K : List Item) (s : St) : den prog ann 20 (.code r5 :: K) s = mreg prog ann 20 none [] none [] [
    ⟨some 13, none, .v fun s => some (s.get 4)⟩,
    ⟨some 2, none, .v fun s => some (s.get 13)⟩] K s := (den_reg hf _ K s).trans (by kernel_rfl)
theorem i0e_eq (K : List Item) (s : St) : den prog ann 20 (.code i0e :: K) s = den prog ann 20 (K) s := den_flat hf (l := []) (by kernel_rfl) K s
theorem r2_eq (K : List Item) (s : St) : den prog ann 20 (.code r2 :: K) s = mreg prog ann 20 (some [0, 3]) [] none [] [
    ⟨some 5, none, .v fun s => some (s.get 3)⟩,
    ⟨some 6, none, .v fun s => binA prog .add 3 (s.get 5) (.int .i64 1)⟩,
    ⟨some 3, none, .v fun s => some (s.get 6)⟩] K s := (den_reg hf _ K s).trans (by kernel_rfl)
theorem ret_eq (K : List Item) (s : St) : den prog ann 20 (.code .ret :: K) s = finM true [fun s => some (s.get 2)] s := (den_ret hf K s).trans (by kernel_rfl)
theorem nil_eq (s : St) : den prog ann 20 [] s = finM true [fun s => some (s.get 2)] s := (den_nil hf s).trans (by kernel_rfl)
theorem inBlock_eq (id : Nat) (K : List Item) (s : St) : den prog ann 20 (.inBlock id :: K) s = den prog ann 20 K s := den_inBlock hf id K s
theorem exit_eq (id : Nat) (K : List Item) (s : St) : den prog ann 20 (.code (.exit id) :: K) s = exitV prog ann 20 (exitTo id K) s := den_exitV hf id K s
theorem call_eq (v0 : AV) (m : Mem) (h : closedL [v0] = true) : denC prog ann 20 [v0] m = (den prog ann 20 [.code b] ⟨[(0, v0)], 14, Mem.empty⟩).bind fun r => some (r.1, m) := (denC_pure hf (b := b) (by kernel_rfl) (by kernel_rfl) (by kernel_rfl) h m).trans (by kernel_rfl)
theorem pure_eq : (ann 20).pure = true := by kernel_rfl
attribute [simp] b_eq r0_eq r1_eq k0_eq l0_eq k1_eq r3_eq r4_eq i0_eq i0t_eq r5_eq i0e_eq r2_eq ret_eq nil_eq inBlock_eq exit_eq pure_eq
end r04_Full

namespace r04_full
/-- pommel/pommelref04.full -/
noncomputable def b : Code := (Try.f51.body).getD .skip
theorem hf : prog.funcs[51]? = some Try.f51 := by kernel_rfl
noncomputable def r0 : Code := findReg b 0
noncomputable def r1 : Code := findReg b 1
noncomputable def i0 : Code := findCond b 0
noncomputable def i0t : Code := thenOf i0
noncomputable def i0e : Code := elseOf i0
noncomputable def r2 : Code := findReg b 2
noncomputable def i1 : Code := findCond b 1
noncomputable def i1t : Code := thenOf i1
noncomputable def i1e : Code := elseOf i1
noncomputable def r3 : Code := findReg b 3
noncomputable def r4 : Code := findReg b 4
noncomputable def r5 : Code := findReg b 5
noncomputable def k0 : Code := findBlk b 0
noncomputable def l0 : Code := loopOf k0
noncomputable def L0 (x0 x1 x2 x7 : AV) (m : Mem) (K : List Item) : Option Res := den prog ann 51 (.code l0 :: .inLoop l0 :: .inBlock 0 :: K) ⟨[(0, x0), (1, x1), (2, x2), (7, x7)], 52, m⟩
noncomputable def r6 : Code := findReg b 6
noncomputable def i2 : Code := findCond b 2
noncomputable def i2t : Code := thenOf i2
noncomputable def i2e : Code := elseOf i2
noncomputable def k1 : Code := findBlk b 1
noncomputable def r8 : Code := findReg b 8
noncomputable def r9 : Code := findReg b 9
noncomputable def i3 : Code := findCond b 3
noncomputable def i3t : Code := thenOf i3
noncomputable def i3e : Code := elseOf i3
noncomputable def r10 : Code := findReg b 10
noncomputable def r7 : Code := findReg b 7
noncomputable def r11 : Code := findReg b 11
theorem b_eq (K : List Item) (s : St) : den prog ann 51 (.code b :: K) s = den prog ann 51 (.code r0 :: .code r1 :: .code i0 :: .code r5 :: .code k0 :: .code r11 :: .code .ret :: K) s := den_flat hf (l := [r0, r1, i0, r5, k0, r11, .ret]) (by kernel_rfl) K s
theorem r0_eq (K : List Item) (s : St) : den prog ann 51 (.code r0 :: K) s = mreg prog ann 51 none [] none [] [
    ⟨some 6, none, .v fun s => some (.nils)⟩] K s := (den_reg hf _ K s).trans (by kernel_rfl)
theorem r1_eq (K : List Item) (s : St) : den prog ann 51 (.code r1 :: K) s = mreg prog ann 51 none [] none [] [
    ⟨some 9, none, .v fun s => some (s.get 0)⟩,
    ⟨some 10, none, .v fun s => lenSl (s.get 9)⟩,
    ⟨some 11, none, .v fun s => some (s.get 1)⟩,
    ⟨some 12, none, .v fun s => binA prog .eql 3 (s.get 10) (s.get 11)⟩] K s := (den_reg hf _ K s).trans (by kernel_rfl)
theorem i0_eq (K : List Item) (s : St) : den prog ann 51 (.code i0 :: K) s = ifV prog ann 51 12 i0t i0e K s (s.get 12) := den_if hf (by kernel_rfl) K s
theorem i0t_eq (K : List Item) (s : St) : den prog ann 51 (.code i0t :: K) s = den prog ann 51 (.code r2 :: .code i1 :: .code r4 :: .code .ret :: K) s := den_flat hf (l := [r2, i1, r4, .ret]) (by kernel_rfl) K s
theorem r2_eq (K : List Item) (s : St) : den prog ann 51 (.code r2 :: K) s = mreg prog ann 51 none [] none [] [
    ⟨some 13, none, .v fun s => some (s.get 0)⟩,
    ⟨some 14, none, .v fun s => some (s.get 0)⟩,
    ⟨some 15, none, .v fun s => lenSl (s.get 14)⟩,
    ⟨some 16, none, .v fun s => binA prog .sub 3 (s.get 15) (.int .i64 1)⟩,
    ⟨some 17, none, .v fun s => idxSl 1 (s.get 13) (s.get 16)⟩,
    ⟨some 18, none, .v fun s => loadF false 1 (s.get 17)⟩,
    ⟨some 19, none, .v fun s => some (s.get 2)⟩,
    ⟨some 20, none, .v fun s => binA prog .eql 3 (s.get 18) (s.get 19)⟩,
    ⟨some 21, none, .v fun s => some (s.get 20)⟩,
    ⟨some 22, some (21, true), .v fun s => some (s.get 0)⟩,
    ⟨some 23, some (21, true), .c 0 (fun s => (.fn 27 [] [])) fun s => [(s.get 22)]⟩,
    ⟨some 24, some (21, true), .v fun s => lenSl (s.get 23)⟩,
    ⟨some 25, some (21, true), .v fun s => binA prog .eql 3 (s.get 24) (.int .i64 0)⟩,
    ⟨some 26, none, .v fun s => pickA (s.get 21) (s.get 25) (.bool false)⟩] K s := (den_reg hf _ K s).trans (by kernel_rfl)
theorem i1_eq (K : List Item) (s : St) : den prog ann 51 (.code i1 :: K) s = ifV prog ann 51 26 i1t i1e K s (s.get 26) := den_if hf (by kernel_rfl) K s
theorem i1t_eq (K : List Item) (s : St) : den prog ann 51 (.code i1t :: K) s = den prog ann 51 (.code r3 :: .code .ret :: K) s := den_flat hf (l := [r3, .ret]) (by kernel_rfl) K s
theorem r3_eq (K : List Item) (s : St) : den prog ann 51 (.code r3 :: K) s = mreg prog ann 51 none [] none [] [
    ⟨some 27, none, .v fun s => some (s.get 0)⟩,
    ⟨some 6, none, .v fun s => some (s.get 27)⟩] K s := (den_reg hf _ K s).trans (by kernel_rfl)
theorem i1e_eq (K : List Item) (s : St) : den prog ann 51 (.code i1e :: K) s = den prog ann 51 (K) s := den_flat hf (l := []) (by kernel_rfl) K s
theorem r4_eq (K : List Item) (s : St) : den prog ann 51 (.code r4 :: K) s = mreg prog ann 51 none [] none [] [
    ⟨some 6, none, .v fun s => some (.nils)⟩] K s := (den_reg hf _ K s).trans (by kernel_rfl)
theorem i0e_eq (K : List Item) (s : St) : den prog ann 51 (.code i0e :: K) s = den prog ann 51 (K) s := den_flat hf (l := []) (by kernel_rfl) K s
theorem r5_eq (K : List Item) (s : St) : den prog ann 51 (.code r5 :: K) s = mreg prog ann 51 none [] none [] [
    ⟨some 28, none, .v fun s => some (s.get 0)⟩,
    ⟨some 29, none, .v fun s => some (s.get 0)⟩,
    ⟨some 30, none, .v fun s => lenSl (s.get 29)⟩,
    ⟨some 31, none, .v fun s => binA prog .sub 3 (s.get 30) (.int .i64 1)⟩,
    ⟨some 32, none, .v fun s => idxSl 1 (s.get 28) (s.get 31)⟩,
    ⟨some 33, none, .v fun s => loadF false 1 (s.get 32)⟩,
    ⟨some 34, none, .v fun s => binA prog .add 3 (s.get 33) (.int .i64 1)⟩,
    ⟨some 7, none, .v fun s => some (s.get 34)⟩] K s := (den_reg hf _ K s).trans (by kernel_rfl)
theorem k0_eq (K : List Item) (t : List (Nat × AV)) (m : Mem) : den prog ann 51 (.code k0 :: K) ⟨t, 52, m⟩ = L0 (get t 0) (get t 1) (get t 2) (get t 7) m K := den_loop_enter hf (b := l0) (id := 6) (l := [0, 1, 2, 7]) (by kernel_rfl) (by kernel_rfl) (by kernel_rfl) K _
theorem l0_eq (K : List Item) (t : List (Nat × AV)) (m : Mem) : den prog ann 51 (.inLoop l0 :: .inBlock 0 :: K) ⟨t, 52, m⟩ = L0 (get t 0) (get t 1) (get t 2) (get t 7) m K := den_loop_again hf (id := 6) (l := [0, 1, 2, 7]) (by kernel_rfl) (by kernel_rfl) (.inBlock 0 :: K) _
theorem L0_eq (x0 x1 x2 x7 : AV) (m : Mem) (K : List Item) : L0 x0 x1 x2 x7 m K = den prog ann 51 (.code r6 :: .code i2 :: .code k1 :: .code r7 :: .inLoop l0 :: .inBlock 0 :: K) ⟨[(0, x0), (1, x1), (2, x2), (7, x7)], 52, m⟩ := den_flat hf (l := [r6, i2, k1, r7]) (by kernel_rfl) _ _
theorem r6_eq (K : List Item) (s : St) : den prog ann 51 (.code r6 :: K) s = mreg prog ann 51 (some [0, 1, 2, 7]) [] none [] [
    ⟨some 35, none, .v fun s => some (s.get 7)⟩,
    ⟨some 36, none, .v fun s => some (s.get 2)⟩,
    ⟨some 37, none, .v fun s => binA prog .leq 3 (s.get 35) (s.get 36)⟩] K s := (den_reg hf _ K s).trans (by kernel_rfl)
theorem i2_eq (K : List Item) (s : St) : den prog ann 51 (.code i2 :: K) s = ifV prog ann 51 37 i2t i2e K s (s.get 37) := den_if hf (by kernel_rfl) K s
theorem i2t_eq (K : List Item) (s : St) : den prog ann 51 (.code i2t :: K) s = den prog ann 51 (K) s := den_flat hf (l := []) (by kernel_rfl) K s
theorem i2e_eq (K : List Item) (s : St) : den prog ann 51 (.code i2e :: K) s = den prog ann 51 (.code (.exit 0) :: K) s := den_flat hf (l := [(.exit 0)]) (by kernel_rfl) K s
theorem k1_eq (K : List Item) (s : St) : den prog ann 51 (.code k1 :: K) s = den prog ann 51 (.code r8 :: .code r9 :: .code i3 :: .inBlock 1 :: K) s := den_blk hf (b := blkOf k1) (l := [r8, r9, i3]) (by kernel_rfl) (by kernel_rfl) K s
theorem r8_eq (K : List Item) (s : St) : den prog ann 51 (.code r8 :: K) s = mreg prog ann 51 none [] none [] [
    ⟨some 40, none, .w false none fun s => bslM s.m 0 (bslA 1 0 [.int .i64 0] [])⟩,
    ⟨some 41, none, .v fun s => some (s.get 0)⟩,
    ⟨some 42, none, .w false none fun s => appendA 1 8 s.m (s.get 40) (s.get 41)⟩,
    ⟨some 43, none, .v fun s => some (s.get 7)⟩,
    ⟨some 44, none, .v fun s => bslF 1 (bslA 1 1 [.int .i64 0] [(0, (s.get 43))])⟩,
    ⟨some 45, none, .w true none fun s => appendA 1 8 s.m (s.get 42) (s.get 44)⟩,
    ⟨some 46, none, .v fun s => some (s.get 1)⟩,
    ⟨some 47, none, .v fun s => some (s.get 2)⟩,
    ⟨some 48, none, .c 2 (fun s => (.fn 51 [] [])) fun s => [(s.get 45), (s.get 46), (s.get 47)]⟩,
    ⟨some 8, none, .v fun s => some (s.get 48)⟩] K s := (den_reg hf _ K s).trans (by kernel_rfl)
theorem r9_eq (K : List Item) (s : St) : den prog ann 51 (.code r9 :: K) s = mreg prog ann 51 none [] none [] [
    ⟨some 49, none, .v fun s => some (s.get 8)⟩,
    ⟨some 50, none, .v fun s => binA prog .neq 22 (s.get 49) (.nils)⟩] K s := (den_reg hf _ K s).trans (by kernel_rfl)
theorem i3_eq (K : List Item) (s : St) : den prog ann 51 (.code i3 :: K) s = ifV prog ann 51 50 i3t i3e K s (s.get 50) := den_if hf (by kernel_rfl) K s
theorem i3t_eq (K : List Item) (s : St) : den prog ann 51 (.code i3t :: K) s = den prog ann 51 (.code r10 :: .code .ret :: K) s := den_flat hf (l := [r10, .ret]) (by kernel_rfl) K s
theorem r10_eq (K : List Item) (s : St) : den prog ann 51 (.code r10 :: K) s = mreg prog ann 51 none [] none [] [
    ⟨some 51, none, .v fun s => some (s.get 8)⟩,
    ⟨some 6, none, .v fun s => some (s.get 51)⟩] K s := (den_reg hf _ K s).trans (by kernel_rfl)
theorem i3e_eq (K : List Item) (s : St) : den prog ann 51 (.code i3e :: K) s = den prog ann 51 (K) s := den_flat hf (l := []) (by kernel_rfl) K s
theorem r7_eq (K : List Item) (s : St) : den prog ann 51 (.code r7 :: K) s = mreg prog ann 51 (some [0, 1, 2, 7]) [] none [] [
    ⟨some 38, none, .v fun s => some (s.get 7)⟩,
    ⟨some 39, none, .v fun s => binA prog .add 3 (s.get 38) (.int .i64 1)⟩,
    ⟨some 7, none, .v fun s => some (s.get 39)⟩] K s := (den_reg hf _ K s).trans (by kernel_rfl)
theorem r11_eq (K : List Item) (s : St) : den prog ann 51 (.code r11 :: K) s = mreg prog ann 51 (some []) [] none [] [
    ⟨some 6, none, .v fun s => some (.nils)⟩] K s := (den_reg hf _ K s).trans (by kernel_rfl)
theorem ret_eq (K : List Item) (s : St) : den prog ann 51 (.code .ret :: K) s = finM true [fun s => some (s.get 6)] s := (den_ret hf K s).trans (by kernel_rfl)
theorem nil_eq (s : St) : den prog ann 51 [] s = finM true [fun s => some (s.get 6)] s := (den_nil hf s).trans (by kernel_rfl)
theorem inBlock_eq (id : Nat) (K : List Item) (s : St) : den prog ann 51 (.inBlock id :: K) s = den prog ann 51 K s := den_inBlock hf id K s
theorem exit_eq (id : Nat) (K : List Item) (s : St) : den prog ann 51 (.code (.exit id) :: K) s = exitV prog ann 51 (exitTo id K) s := den_exitV hf id K s
theorem call_eq (v0 v1 v2 : AV) (m : Mem) (h : closedL [v0, v1, v2] = true) : denC prog ann 51 [v0, v1, v2] m = (den prog ann 51 [.code b] ⟨[(0, v0), (1, v1), (2, v2)], 52, Mem.empty⟩).bind fun r => some (r.1, m) := (denC_pure hf (b := b) (by kernel_rfl) (by kernel_rfl) (by kernel_rfl) h m).trans (by kernel_rfl)
theorem pure_eq : (ann 51).pure = true := by kernel_rfl
attribute [simp] b_eq r0_eq r1_eq i0_eq i0t_eq r2_eq i1_eq i1t_eq r3_eq i1e_eq r4_eq i0e_eq r5_eq k0_eq l0_eq r6_eq i2_eq i2t_eq i2e_eq k1_eq r8_eq r9_eq i3_eq i3t_eq r10_eq i3e_eq r7_eq r11_eq ret_eq nil_eq inBlock_eq exit_eq pure_eq
end r04_full

namespace l04_StrapFulls
/-- pommel/pommellaw04.StrapFulls -/
noncomputable def b : Code := (Try.f5.body).getD .skip
theorem hf : prog.funcs[5]? = some Try.f5 := by kernel_rfl
noncomputable def r0 : Code := findReg b 0
noncomputable def r1 : Code := findReg b 1
noncomputable def i0 : Code := findCond b 0
noncomputable def i0t : Code := thenOf i0
noncomputable def i0e : Code := elseOf i0
noncomputable def r2 : Code := findReg b 2
noncomputable def r3 : Code := findReg b 3
noncomputable def r4 : Code := findReg b 4
noncomputable def i1 : Code := findCond b 1
noncomputable def i1t : Code := thenOf i1
noncomputable def i1e : Code := elseOf i1
noncomputable def r5 : Code := findReg b 5
noncomputable def r6 : Code := findReg b 6
theorem b_eq (K : List Item) (s : St) : den prog ann 5 (.code b :: K) s = den prog ann 5 (.code r0 :: .code r1 :: .code i0 :: .code r3 :: .code r4 :: .code i1 :: .code r6 :: .code .ret :: K) s := den_flat hf (l := [r0, r1, i0, r3, r4, i1, r6, .ret]) (by kernel_rfl) K s
theorem r0_eq (K : List Item) (s : St) : den prog ann 5 (.code r0 :: K) s = mreg prog ann 5 none [] none [] [
    ⟨some 2, none, .v fun s => some (.bool false)⟩] K s := (den_reg hf _ K s).trans (by kernel_rfl)
theorem r1_eq (K : List Item) (s : St) : den prog ann 5 (.code r1 :: K) s = mreg prog ann 5 none [] none [] [
    ⟨some 5, none, .v fun s => some (s.get 0)⟩,
    ⟨some 6, none, .v fun s => binA prog .gtr 3 (s.get 5) (.int .i64 13)⟩,
    ⟨some 7, none, .v fun s => some (s.get 6)⟩,
    ⟨some 8, some (7, true), .v fun s => some (s.get 0)⟩,
    ⟨some 9, some (7, true), .v fun s => binA prog .leq 3 (s.get 8) (.int .i64 20)⟩,
    ⟨some 10, none, .v fun s => pickA (s.get 7) (s.get 9) (.bool false)⟩] K s := (den_reg hf _ K s).trans (by kernel_rfl)
theorem i0_eq (K : List Item) (s : St) : den prog ann 5 (.code i0 :: K) s = ifV prog ann 5 10 i0t i0e K s (s.get 10) := den_if hf (by kernel_rfl) K s
theorem i0t_eq (K : List Item) (s : St) : den prog ann 5 (.code i0t :: K) s = den prog ann 5 (.code r2 :: K) s := den_flat hf (l := [r2]) (by kernel_rfl) K s
theorem r2_eq (K : List Item) (s : St) : den prog ann 5 (.code r2 :: K) s = mreg prog ann 5 none [] none [] [
    ⟨some 0, none, .v fun s => some (.int .i64 13)⟩] K s := (den_reg hf _ K s).trans (by kernel_rfl)
theorem i0e_eq (K : List Item) (s : St) : den prog ann 5 (.code i0e :: K) s = den prog ann 5 (K) s := den_flat hf (l := []) (by kernel_rfl) K s
theorem r3_eq (K : List Item) (s : St) : den prog ann 5 (.code r3 :: K) s = mreg prog ann 5 (some [0]) [] none [] [
    ⟨some 12, none, .v fun s => some (s.get 0)⟩,
    ⟨some 13, none, .c 0 (fun s => (.fn 19 [] [])) fun s => [(s.get 12)]⟩,
    ⟨some 11, none, .v fun s => some (s.get 13)⟩,
    ⟨some 14, none, .v fun s => extA (s.get 11) 0⟩,
    ⟨some 15, none, .v fun s => extA (s.get 11) 1⟩,
    ⟨some 3, none, .v fun s => some (s.get 14)⟩,
    ⟨some 4, none, .v fun s => some (s.get 15)⟩] K s := (den_reg hf _ K s).trans (by kernel_rfl)
theorem r4_eq (K : List Item) (s : St) : den prog ann 5 (.code r4 :: K) s = mreg prog ann 5 none [] none [] [
    ⟨some 16, none, .v fun s => some (s.get 0)⟩,
    ⟨some 17, none, .v fun s => binA prog .lss 3 (s.get 16) (.int .i64 1)⟩,
    ⟨some 18, none, .v fun s => some (s.get 17)⟩,
    ⟨some 19, some (18, false), .v fun s => some (s.get 0)⟩,
    ⟨some 20, some (18, false), .v fun s => binA prog .gtr 3 (s.get 19) (.int .i64 20)⟩,
    ⟨some 21, none, .v fun s => pickA (s.get 18) (.bool true) (s.get 20)⟩] K s := (den_reg hf _ K s).trans (by kernel_rfl)
theorem i1_eq (K : List Item) (s : St) : den prog ann 5 (.code i1 :: K) s = ifV prog ann 5 21 i1t i1e K s (s.get 21) := den_if hf (by kernel_rfl) K s
theorem i1t_eq (K : List Item) (s : St) : den prog ann 5 (.code i1t :: K) s = den prog ann 5 (.code r5 :: .code .ret :: K) s := den_flat hf (l := [r5, .ret]) (by kernel_rfl) K s
theorem r5_eq (K : List Item) (s : St) : den prog ann 5 (.code r5 :: K) s = mreg prog ann 5 none [] none [] [
    ⟨some 22, none, .v fun s => some (s.get 3)⟩,
    ⟨some 23, none, .v fun s => lenSl (s.get 22)⟩,
    ⟨some 24, none, .v fun s => binA prog .eql 3 (s.get 23) (.int .i64 0)⟩,
    ⟨some 25, none, .v fun s => some (s.get 24)⟩,
    ⟨some 26, some (25, true), .v fun s => some (s.get 4)⟩,
    ⟨some 27, some (25, true), .v fun s => binA prog .eql 23 (s.get 26) (.int .i64 1)⟩,
    ⟨some 28, none, .v fun s => pickA (s.get 25) (s.get 27) (.bool false)⟩,
    ⟨some 29, none, .v fun s => some (s.get 28)⟩,
    ⟨some 30, some (29, true), .c 0 (fun s => (.fn 14 [] [])) fun s => []⟩,
    ⟨some 31, none, .v fun s => pickA (s.get 29) (s.get 30) (.bool false)⟩,
    ⟨some 2, none, .v fun s => some (s.get 31)⟩] K s := (den_reg hf _ K s).trans (by kernel_rfl)
theorem i1e_eq (K : List Item) (s : St) : den prog ann 5 (.code i1e :: K) s = den prog ann 5 (K) s := den_flat hf (l := []) (by kernel_rfl) K s
theorem r6_eq (K : List Item) (s : St) : den prog ann 5 (.code r6 :: K) s = mreg prog ann 5 none [] none [] [
    ⟨some 32, none, .v fun s => some (s.get 3)⟩,
    ⟨some 33, none, .v fun s => some (s.get 0)⟩,
    ⟨some 34, none, .c 0 (fun s => (.fn 20 [] [])) fun s => [(s.get 33)]⟩,
    ⟨some 35, none, .c 0 (fun s => (.fn 15 [] [])) fun s => [(s.get 32), (s.get 34)]⟩,
    ⟨some 36, none, .v fun s => some (s.get 35)⟩,
    ⟨some 37, some (36, true), .v fun s => some (s.get 4)⟩,
    ⟨some 38, some (36, true), .v fun s => binA prog .eql 23 (s.get 37) (.int .i64 0)⟩,
    ⟨some 39, none, .v fun s => pickA (s.get 36) (s.get 38) (.bool false)⟩,
    ⟨some 40, none, .v fun s => some (s.get 39)⟩,
    ⟨some 41, some (40, true), .c 0 (fun s => (.fn 14 [] [])) fun s => []⟩,
    ⟨some 42, none, .v fun s => pickA (s.get 40) (s.get 41) (.bool false)⟩,
    ⟨some 2, none, .v fun s => some (s.get 42)⟩] K s := (den_reg hf _ K s).trans (by kernel_rfl)
theorem ret_eq (K : List Item) (s : St) : den prog ann 5 (.code .ret :: K) s = finM true [fun s => some (s.get 2)] s := (den_ret hf K s).trans (by kernel_rfl)
theorem nil_eq (s : St) : den prog ann 5 [] s = finM true [fun s => some (s.get 2)] s := (den_nil hf s).trans (by kernel_rfl)
theorem inBlock_eq (id : Nat) (K : List Item) (s : St) : den prog ann 5 (.inBlock id :: K) s = den prog ann 5 K s := den_inBlock hf id K s
theorem exit_eq (id : Nat) (K : List Item) (s : St) : den prog ann 5 (.code (.exit id) :: K) s = exitV prog ann 5 (exitTo id K) s := den_exitV hf id K s
theorem call_eq (v0 : AV) (m : Mem) (h : closedL [v0] = true) : denC prog ann 5 [v0] m = (den prog ann 5 [.code b] ⟨[(0, v0)], 43, Mem.empty⟩).bind fun r => some (r.1, m) := (denC_pure hf (b := b) (by kernel_rfl) (by kernel_rfl) (by kernel_rfl) h m).trans (by kernel_rfl)
theorem pure_eq : (ann 5).pure = true := by kernel_rfl
attribute [simp] b_eq r0_eq r1_eq i0_eq i0t_eq r2_eq i0e_eq r3_eq r4_eq i1_eq i1t_eq r5_eq i1e_eq r6_eq ret_eq nil_eq inBlock_eq exit_eq pure_eq
end l04_StrapFulls
end Go.Proofs.Ytpghadmpegncgaa

/-
  STRAPS (11): Full, and the specification's. Conditions: none.
-/
namespace Go.Proofs.Ytpghadmpegncgaa
open Go.AM
open Go.Proofs.Try (prog)
set_option linter.all false
set_option maxRecDepth 100000
set_option maxHeartbeats 4000000

theorem drop_ints {v : AV} {l : List Int} (h : IsInts v l) (h1 : 1 ≤ l.length) : ∃ v', sliceSl 1 v (some (.int .i64 1)) none = some v' ∧ IsInts v' (l.drop 1) := by
  rcases h with ⟨rfl, rfl⟩ | ⟨ex, rfl⟩
  · simp at h1
  · exact ⟨.fsl ex (l.length - 1) (ints (l.drop 1)), by
      have h2 : (1 : Int) ≤ l.length := by omega
      have h3 : (l.drop 1).take (l.length - 1) = l.drop 1 := List.take_of_length_le (by simp)
      rw [List.drop_one] at h3
      simp [sliceSl, bnds, bnd, h2, h3], .inr ⟨ex, by simp⟩⟩
def always (_ : List Int) : Bool := true
def fullAt (L : Int) (l : List Int) : Bool := decide (top l = L) && !decide ((0 : Int) ∈ (counts l).drop 1)
theorem clo_always : Clo (.fn 47 [] []) always 0 := ⟨rfl, rfl, fun {w l} hv s m => by
  have e : ∀ m, denC prog ann 47 [w] m = some (.bool true, m) := fun m => by
    rw [strap_Full_1.call_eq _ _ (by simp [hv.closed])]
    simp
    done
  simp [hv.closed, e, always]⟩
theorem full_spec {w : AV} {l : List Int} (hv : IsInts w l) (s : StrapOk l) (L : Int) (m : Mem) : denC prog ann 48 [w, .fptr [.int .i64 L]] m = some (.bool (fullAt L l), ⟨m.h, m.nx + 16⟩) := by
  have hpos := s.pos
  have hfew := s.few
  have hlast : l.length - 1 < l.length := by omega
  have hwl : IntKind.wrap .i64 ((l.length : Int) - 1) = ((l.length - 1 : Nat) : Int) := by rw [wrap_id (by omega) (by omega)]; omega
  have hw0 := intsV_is (counts l)
  have hcf := counts_few s
  obtain ⟨v', d1, d2⟩ := drop_ints hw0 (counts_pos s)
  have hh := fun m => has_spec d2 (by simp; omega) 0 m
  unfold fullAt top
  rw [strap_Full_2.call_eq]
  by_cases q : nth l (l.length - 1) = L
  · simp [hv.len, hwl, hv.idx hlast, ints_head hlast, q, hv.closed, counts_spec hv s, d1, d2.closed, hh]
    done
  · simp [hv.len, hwl, hv.idx hlast, ints_head hlast, q]
    done
theorem clo_full (L : Int) : Clo (.fn 48 [] [.fptr [.int .i64 L]]) (fullAt L) 16 := ⟨rfl, rfl, fun {w l} hv s m => by simp [hv.closed, full_spec hv s, show (ann 48).pure = false by kernel_rfl]⟩
def flS (L : Int) : Nat → Nat → Option (List Int)
  | 0, _ => none
  | n + 1, size => if ((size : Int) * ((size : Int) - 1)).tdiv 2 < L then flS L n (size + 1) else match findF always (fullAt L) L (size - 1) [0] with
    | some r => some r
    | none => flS L n (size + 1)
theorem fl_loop {L : Int} (h0 : 0 ≤ L ∧ L ≤ 1000) : ∀ (n size : Nat) (m : Mem) (r : List Int), 2 ≤ size → size + n ≤ 40 → flS L n size = some r →
    ∃ ex, strap_Full.L0 (.fptr [.int .i64 L]) (.fn 47 [] []) (.fn 48 [] [.fptr [.int .i64 L]]) (.int .i64 size) m [] = some (.tup [.fsl ex r.length (ints r), .int .i64 0], Mem.empty) := by
  intro n
  induction n with
  | zero => intro size m r _ _ h; cases h
  | succ n ih =>
    intro size m r hs hs2 h
    obtain ⟨w', r1, e1⟩ := find_spec clo_always (clo_full L) (size := size) (last := L) (by omega) h0 (size - 1) true [0] one_ok (by simp; omega)
    simp at e1
    simp only [flS] at h
    have hw : IntKind.wrap .i64 ((size : Int) + 1) = (size : Int) + 1 := wrap_id (by omega) (by omega)
    have hw1 : IntKind.wrap .i64 ((size : Int) - 1) = (size : Int) - 1 := wrap_id (by omega) (by omega)
    have p0 : 0 ≤ (size : Int) * ((size : Int) - 1) := Int.mul_nonneg (by omega) (by omega)
    have p1 : (size : Int) * ((size : Int) - 1) ≤ 40 * 40 := Int.mul_le_mul (by omega) (by omega) (by omega) (by omega)
    have hw2 : IntKind.wrap .i64 ((size : Int) * ((size : Int) - 1)) = (size : Int) * ((size : Int) - 1) := wrap_id (by omega) (by omega)
    have hw3 : IntKind.wrap .i64 (((size : Int) * ((size : Int) - 1)).tdiv 2) = ((size : Int) * ((size : Int) - 1)).tdiv 2 := by
      rw [Int.tdiv_eq_ediv_of_nonneg p0]
      exact wrap_id (by omega) (by omega)
    by_cases q : ((size : Int) * ((size : Int) - 1)).tdiv 2 < L
    · rw [if_pos q] at h
      obtain ⟨ex, e2⟩ := ih (size + 1) m r (by omega) (by omega) h
      simp only [Int.natCast_add, Int.cast_ofNat_Int] at e2
      refine ⟨ex, ?_⟩
      rw [strap_Full.L0_eq, ← e2]
      simp [hw, hw1, hw2, hw3, q]
      done
    · rw [if_neg q] at h
      cases hf : findF always (fullAt L) L (size - 1) [0] with
      | some p =>
        rw [hf] at h r1
        obtain ⟨ex, rfl⟩ := r1
        injection h with h
        subst h
        refine ⟨ex, ?_⟩
        rw [strap_Full.L0_eq]
        simp [hw1, hw2, hw3, q, e1]
        done
      | none =>
        rw [hf] at h r1
        have r1' : w' = .nils := r1
        subst r1'
        obtain ⟨ex, e2⟩ := ih (size + 1) m r (by omega) (by omega) h
        simp only [Int.natCast_add, Int.cast_ofNat_Int] at e2
        refine ⟨ex, ?_⟩
        rw [strap_Full.L0_eq, ← e2]
        simp [hw, hw1, hw2, hw3, q, e1]
        done
theorem fl_spec {L : Int} (h0 : 1 ≤ L ∧ L ≤ 20) {n : Nat} {r : List Int} (hn : n ≤ 38) (h : flS L n 2 = some r) :
    ∃ ex, ∀ m, denC prog ann 19 [.int .i64 L] m = some (.tup [.fsl ex r.length (ints r), .int .i64 0], m) := by
  obtain ⟨ex, e⟩ := fl_loop (L := L) (by omega) n 2 Mem.empty r (by omega) (by omega) h
  refine ⟨ex, fun m => ?_⟩
  have c1 : ¬ L < 1 := by omega
  have c2 : ¬ (20 : Int) < L := by omega
  have hcl : closedL [AV.int .i64 L] = true := rfl
  simp only [Int.cast_ofNat_Int] at e
  rw [strap_Full.call_eq _ _ hcl]
  simp [c1, c2, e]
  done
theorem fl_bad {L : Int} (h0 : L < 1 ∨ 20 < L) (m : Mem) : denC prog ann 19 [.int .i64 L] m = some (.tup [.nils, .int .i64 1], m) := by
  have hcl : closedL [AV.int .i64 L] = true := rfl
  rw [strap_Full.call_eq _ _ hcl]
  by_cases c1 : L < 1
  · simp [c1]
    done
  · have c2 : (20 : Int) < L := by omega
    simp [c1, c2]
    done

/-! ### The specification's -/
def rfF (L : Int) : Nat → List Int → Option (List Int)
  | 0, l => if top l = L then (if (misses l).length = 0 then some l else none) else none
  | f + 1, l => firstF (rfF L f) l (L - top l).toNat (top l + 1)
theorem rf_spec {size : Nat} {L : Int} (hs : size ≤ 40) (h1 : 0 ≤ L ∧ L ≤ 1000) : ∀ (f : Nat) (ex : Bool) (l : List Int), StrapOk l → l.length + f = size →
    ∃ w', ResV (rfF L f l) w' ∧ ∀ m, denC prog ann 51 [.fsl ex l.length (ints l), .int .i64 size, .int .i64 L] m = some (w', m) := by
  intro f
  induction f with
  | zero =>
    intro ex l s hsz
    have hv : IsInts (.fsl ex l.length (ints l)) l := .inr ⟨ex, rfl⟩
    have hcl : closedL [.fsl ex l.length (ints l), .int .i64 size, .int .i64 L] = true := rfl
    have hl : size = l.length := by omega
    subst hl
    have hpos := s.pos
    have hlast : l.length - 1 < l.length := by omega
    have hwl : IntKind.wrap .i64 ((l.length : Int) - 1) = ((l.length - 1 : Nat) : Int) := by rw [wrap_id (by omega) (by omega)]; omega
    obtain ⟨wm, m1, m2⟩ := rmiss_spec hv s
    have m3 := m1.len
    simp only [rfF]
    by_cases q2 : top l = L
    · rw [if_pos q2]
      unfold top at q2
      by_cases q3 : (misses l).length = 0
      · rw [if_pos q3]
        rw [q3] at m3
        simp only [Int.ofNat_zero, Int.cast_ofNat_Int] at m3
        refine ⟨_, ⟨ex, rfl⟩, fun m => ?_⟩
        rw [r04_full.call_eq _ _ _ _ hcl]
        simp [hwl, hv.idx hlast, ints_head hlast, q2, m2, m3]
        done
      · rw [if_neg q3]
        have q3' : ¬ misses l = [] := fun e => q3 (by rw [e]; rfl)
        refine ⟨_, rfl, fun m => ?_⟩
        rw [r04_full.call_eq _ _ _ _ hcl]
        simp [hwl, hv.idx hlast, ints_head hlast, q2, m2, m3, q3']
        done
    · rw [if_neg q2]
      unfold top at q2
      refine ⟨_, rfl, fun m => ?_⟩
      rw [r04_full.call_eq _ _ _ _ hcl]
      simp [hwl, hv.idx hlast, ints_head hlast, q2]
      done
  | succ f ih =>
    intro ex l s hsz
    have hv : IsInts (.fsl ex l.length (ints l)) l := .inr ⟨ex, rfl⟩
    have hcl : closedL [.fsl ex l.length (ints l), .int .i64 size, .int .i64 L] = true := rfl
    have hl : ¬ (l.length : Int) = (size : Int) := by omega
    have hpos := s.pos
    have hlast : l.length - 1 < l.length := by omega
    have hwl : IntKind.wrap .i64 ((l.length : Int) - 1) = ((l.length - 1 : Nat) : Int) := by rw [wrap_id (by omega) (by omega)]; omega
    have t0 := s.nonneg hlast
    have t1 := s.top
    have w4 : IntKind.wrap .i64 (nth l (l.length - 1) + 1) = nth l (l.length - 1) + 1 := wrap_id (by omega) (by omega)
    have hn0 : (l.length == 0) = false := by simp; intro e; simp [e] at hpos
    have loop : ∀ (n : Nat) (x : Int), n = (L - x + 1).toNat → top l < x → x ≤ 1001 → ∃ w', ResV (firstF (rfF L f) l n x) w' ∧ ∀ m, r04_full.L0 (.fsl ex l.length (ints l)) (.int .i64 size) (.int .i64 L) (.int .i64 x) m [.code r04_full.r11, .code .ret] = some (w', Mem.empty) := by
      intro n
      induction n with
      | zero =>
        intro x hn hx hx2
        refine ⟨.nils, rfl, fun m => ?_⟩
        have hc : ¬ x ≤ L := by omega
        rw [r04_full.L0_eq]
        simp [hc]
        done
      | succ n ihn =>
        intro x hn hx hx2
        have hc : x ≤ L := by omega
        have hw : IntKind.wrap .i64 (x + 1) = x + 1 := wrap_id (by unfold top at hx; omega) (by omega)
        have s2 : StrapOk (l ++ [x]) := s.more (by omega) hx (by omega)
        obtain ⟨w1', r1, e1⟩ := ih false (l ++ [x]) s2 (by simp; omega)
        obtain ⟨w2', r2, e2⟩ := ihn (x + 1) (by omega) (by omega) (by omega)
        have hxx : ints l ++ [AV.int .i64 x] = ints (l ++ [x]) := by simp [ints]
        have hll : (l ++ [x]).length = l.length + 1 := by simp
        have htk : (l ++ [x]).take (l.length + 1) = l ++ [x] := List.take_of_length_le (by simp)
        rw [hll] at e1
        simp only [firstF]
        cases hf : rfF L f (l ++ [x]) with
        | some q =>
          rw [hf] at r1
          obtain ⟨ex', rfl⟩ := r1
          refine ⟨_, ⟨ex', rfl⟩, fun m => ?_⟩
          rw [r04_full.L0_eq]
          simp [hc, hxx, hn0, Mem.set, show l.length ≤ 4611686018427387904 by omega, show l.length * 8 ≤ 70368744177664 by omega, show l.length ≤ 4611686018427387903 by omega, show (l.length + 1) * 8 ≤ 70368744177664 by omega, htk, e1]
          done
        | none =>
          rw [hf] at r1
          have r1' : w1' = .nils := r1
          subst r1'
          refine ⟨w2', r2, fun m => ?_⟩
          rw [r04_full.L0_eq]
          simp [hc, hxx, hn0, Mem.set, show l.length ≤ 4611686018427387904 by omega, show l.length * 8 ≤ 70368744177664 by omega, show l.length ≤ 4611686018427387903 by omega, show (l.length + 1) * 8 ≤ 70368744177664 by omega, htk, e1, hw, e2]
          done
    obtain ⟨w', r, ew⟩ := loop (L - top l).toNat (top l + 1) (by omega) (by omega) (by unfold top; omega)
    unfold top at ew
    refine ⟨w', by simp only [rfF]; exact r, fun m => ?_⟩
    rw [r04_full.call_eq _ _ _ _ hcl]
    simp [hl, hwl, hv.idx hlast, ints_head hlast, w4, ew]
    done
def rfS (L : Int) : Nat → Nat → Option (List Int)
  | 0, _ => none
  | n + 1, k => match rfF L (k - 1) [0] with
    | some r => some r
    | none => rfS L n (k + 1)
theorem rf_loop {L : Int} (h0 : 0 ≤ L ∧ L ≤ 1000) : ∀ (n k : Nat) (m : Mem) (r : List Int), 2 ≤ k → k + n ≤ 40 → rfS L n k = some r →
    ∃ ex, r04_Full.L0 (.int .i64 L) (.int .i64 k) m [] = some (.fsl ex r.length (ints r), Mem.empty) := by
  intro n
  induction n with
  | zero => intro k m r _ _ h; cases h
  | succ n ih =>
    intro k m r hk h1 h
    obtain ⟨w', r1, e1⟩ := rf_spec (size := k) (L := L) (by omega) h0 (k - 1) true [0] one_ok (by simp; omega)
    simp at e1
    simp only [rfS] at h
    have hw : IntKind.wrap .i64 ((k : Int) + 1) = (k : Int) + 1 := wrap_id (by omega) (by omega)
    cases hf : rfF L (k - 1) [0] with
    | some q =>
      rw [hf] at h r1
      obtain ⟨ex, rfl⟩ := r1
      injection h with h
      subst h
      refine ⟨ex, ?_⟩
      rw [r04_Full.L0_eq]
      simp [e1]
      done
    | none =>
      rw [hf] at h r1
      have r1' : w' = .nils := r1
      subst r1'
      obtain ⟨ex, e2⟩ := ih (k + 1) m r (by omega) (by omega) h
      simp only [Int.natCast_add, Int.cast_ofNat_Int] at e2
      refine ⟨ex, ?_⟩
      rw [r04_Full.L0_eq, ← e2]
      simp [e1, hw]
      done
theorem rful_spec {L : Int} (h0 : 0 ≤ L ∧ L ≤ 1000) {n : Nat} {r : List Int} (hn : n ≤ 38) (h : rfS L n 2 = some r) : ∃ ex, ∀ m, denC prog ann 20 [.int .i64 L] m = some (.fsl ex r.length (ints r), m) := by
  obtain ⟨ex, e⟩ := rf_loop h0 n 2 Mem.empty r (by omega) (by omega) h
  simp only [Int.cast_ofNat_Int] at e
  refine ⟨ex, fun m => ?_⟩
  have hcl : closedL [AV.int .i64 L] = true := rfl
  rw [r04_Full.call_eq _ _ hcl]
  simp [e]
  done
end Go.Proofs.Ytpghadmpegncgaa

/-
  THE FIRST FULL STRAPS WITH THE FEWEST HOLES: the values, by the kernel. Conditions: none.
-/
namespace Go.Proofs.Ytpghadmpegncgaa
open Go.AM
set_option linter.all false
set_option maxRecDepth 100000
theorem fv1 : flS 1 6 2 = some [0, 1] := by kernel_rfl
theorem gv1 : rfS 1 6 2 = some [0, 1] := by kernel_rfl
theorem fv2 : flS 2 6 2 = some [0, 1, 2] := by kernel_rfl
theorem gv2 : rfS 2 6 2 = some [0, 1, 2] := by kernel_rfl
theorem fv3 : flS 3 6 2 = some [0, 1, 3] := by kernel_rfl
theorem gv3 : rfS 3 6 2 = some [0, 1, 3] := by kernel_rfl
theorem fv4 : flS 4 6 2 = some [0, 1, 2, 4] := by kernel_rfl
theorem gv4 : rfS 4 6 2 = some [0, 1, 2, 4] := by kernel_rfl
theorem fv5 : flS 5 6 2 = some [0, 1, 2, 5] := by kernel_rfl
theorem gv5 : rfS 5 6 2 = some [0, 1, 2, 5] := by kernel_rfl
theorem fv6 : flS 6 6 2 = some [0, 1, 4, 6] := by kernel_rfl
theorem gv6 : rfS 6 6 2 = some [0, 1, 4, 6] := by kernel_rfl
theorem fv7 : flS 7 6 2 = some [0, 1, 2, 3, 7] := by kernel_rfl
theorem gv7 : rfS 7 6 2 = some [0, 1, 2, 3, 7] := by kernel_rfl
theorem fv8 : flS 8 6 2 = some [0, 1, 2, 5, 8] := by kernel_rfl
theorem gv8 : rfS 8 6 2 = some [0, 1, 2, 5, 8] := by kernel_rfl
theorem fv9 : flS 9 6 2 = some [0, 1, 2, 6, 9] := by kernel_rfl
theorem gv9 : rfS 9 6 2 = some [0, 1, 2, 6, 9] := by kernel_rfl
theorem fv10 : flS 10 6 2 = some [0, 1, 2, 3, 6, 10] := by kernel_rfl
theorem gv10 : rfS 10 6 2 = some [0, 1, 2, 3, 6, 10] := by kernel_rfl
theorem fv11 : flS 11 6 2 = some [0, 1, 2, 3, 7, 11] := by kernel_rfl
theorem gv11 : rfS 11 6 2 = some [0, 1, 2, 3, 7, 11] := by kernel_rfl
theorem fv12 : flS 12 6 2 = some [0, 1, 2, 3, 8, 12] := by kernel_rfl
theorem gv12 : rfS 12 6 2 = some [0, 1, 2, 3, 8, 12] := by kernel_rfl
theorem fv13 : flS 13 6 2 = some [0, 1, 2, 6, 10, 13] := by kernel_rfl
theorem gv13 : rfS 13 6 2 = some [0, 1, 2, 6, 10, 13] := by kernel_rfl
end Go.Proofs.Ytpghadmpegncgaa

/-
  THE LAWS' EXAMPLES HOLD. Conditions: none.
-/
namespace Go.Proofs.Ytpghadmpegncgaa
open Go.AM
open Go.Proofs.Try (prog)
set_option linter.all false
set_option maxRecDepth 1000000

def isT (r : Option Res) : Bool := match r with
  | some (.bool b, _) => b
  | _ => false
theorem lives_run : isT (callN prog ann 3000 14 [] Mem.empty) = true := by kernel_rfl
@[simp] theorem lives_pure : (ann 14).pure = true := by kernel_rfl
theorem f14_at : prog.funcs[14]? = some Try.f14 := by kernel_rfl
theorem f14_some : Try.f14.body.isSome = true := by kernel_rfl
theorem lives_spec (m : Mem) : denC prog ann 14 [] m = some (.bool true, m) := by
  have hb : Try.f14.body = some (Try.f14.body.getD .skip) := by
    cases h : Try.f14.body with
    | none => have := f14_some; rw [h] at this; cases this
    | some b => rfl
  have e := fun m => denC_pure (P := prog) (A := ann) (f := 14) f14_at hb (by kernel_rfl) (by kernel_rfl) (show closedL [] = true from rfl) m
  have h := lives_run
  cases hr : callN prog ann 3000 14 [] Mem.empty with
  | none => rw [hr] at h; cases h
  | some r =>
    rw [hr] at h
    have h2 := denC_of_callN hr
    rw [e] at h2 ⊢
    obtain ⟨q, h3, h4⟩ := Option.bind_eq_some_iff.1 h2
    rw [h3]
    simp at h4
    subst h4
    match q, h with
    | (.bool true, _), _ => rfl
end Go.Proofs.Ytpghadmpegncgaa

/-
  StrapFulls: the law answers true. Conditions: none.
-/
namespace Go.Proofs.Ytpghadmpegncgaa
open Go.AM
open Go.Proofs.Try (prog)
set_option linter.all false
set_option maxRecDepth 100000
set_option maxHeartbeats 4000000

theorem ful_both {k : Int} (h0 : 1 ≤ k) (h1 : k ≤ 13) : ∃ (r : List Int) (e1 e2 : Bool), r.length ≤ 6 ∧ (∀ m, denC prog ann 19 [.int .i64 k] m = some (.tup [.fsl e1 r.length (ints r), .int .i64 0], m)) ∧ ∀ m, denC prog ann 20 [.int .i64 k] m = some (.fsl e2 r.length (ints r), m) := by
  have : k = 1 ∨ k = 2 ∨ k = 3 ∨ k = 4 ∨ k = 5 ∨ k = 6 ∨ k = 7 ∨ k = 8 ∨ k = 9 ∨ k = 10 ∨ k = 11 ∨ k = 12 ∨ k = 13 := by omega
  rcases this with rfl | rfl | rfl | rfl | rfl | rfl | rfl | rfl | rfl | rfl | rfl | rfl | rfl
  · obtain ⟨e1, s1⟩ := fl_spec (L := 1) (by omega) (by omega) fv1
    obtain ⟨e2, s2⟩ := rful_spec (L := 1) (by omega) (by omega) gv1
    exact ⟨_, e1, e2, by decide, s1, s2⟩
  · obtain ⟨e1, s1⟩ := fl_spec (L := 2) (by omega) (by omega) fv2
    obtain ⟨e2, s2⟩ := rful_spec (L := 2) (by omega) (by omega) gv2
    exact ⟨_, e1, e2, by decide, s1, s2⟩
  · obtain ⟨e1, s1⟩ := fl_spec (L := 3) (by omega) (by omega) fv3
    obtain ⟨e2, s2⟩ := rful_spec (L := 3) (by omega) (by omega) gv3
    exact ⟨_, e1, e2, by decide, s1, s2⟩
  · obtain ⟨e1, s1⟩ := fl_spec (L := 4) (by omega) (by omega) fv4
    obtain ⟨e2, s2⟩ := rful_spec (L := 4) (by omega) (by omega) gv4
    exact ⟨_, e1, e2, by decide, s1, s2⟩
  · obtain ⟨e1, s1⟩ := fl_spec (L := 5) (by omega) (by omega) fv5
    obtain ⟨e2, s2⟩ := rful_spec (L := 5) (by omega) (by omega) gv5
    exact ⟨_, e1, e2, by decide, s1, s2⟩
  · obtain ⟨e1, s1⟩ := fl_spec (L := 6) (by omega) (by omega) fv6
    obtain ⟨e2, s2⟩ := rful_spec (L := 6) (by omega) (by omega) gv6
    exact ⟨_, e1, e2, by decide, s1, s2⟩
  · obtain ⟨e1, s1⟩ := fl_spec (L := 7) (by omega) (by omega) fv7
    obtain ⟨e2, s2⟩ := rful_spec (L := 7) (by omega) (by omega) gv7
    exact ⟨_, e1, e2, by decide, s1, s2⟩
  · obtain ⟨e1, s1⟩ := fl_spec (L := 8) (by omega) (by omega) fv8
    obtain ⟨e2, s2⟩ := rful_spec (L := 8) (by omega) (by omega) gv8
    exact ⟨_, e1, e2, by decide, s1, s2⟩
  · obtain ⟨e1, s1⟩ := fl_spec (L := 9) (by omega) (by omega) fv9
    obtain ⟨e2, s2⟩ := rful_spec (L := 9) (by omega) (by omega) gv9
    exact ⟨_, e1, e2, by decide, s1, s2⟩
  · obtain ⟨e1, s1⟩ := fl_spec (L := 10) (by omega) (by omega) fv10
    obtain ⟨e2, s2⟩ := rful_spec (L := 10) (by omega) (by omega) gv10
    exact ⟨_, e1, e2, by decide, s1, s2⟩
  · obtain ⟨e1, s1⟩ := fl_spec (L := 11) (by omega) (by omega) fv11
    obtain ⟨e2, s2⟩ := rful_spec (L := 11) (by omega) (by omega) gv11
    exact ⟨_, e1, e2, by decide, s1, s2⟩
  · obtain ⟨e1, s1⟩ := fl_spec (L := 12) (by omega) (by omega) fv12
    obtain ⟨e2, s2⟩ := rful_spec (L := 12) (by omega) (by omega) gv12
    exact ⟨_, e1, e2, by decide, s1, s2⟩
  · obtain ⟨e1, s1⟩ := fl_spec (L := 13) (by omega) (by omega) fv13
    obtain ⟨e2, s2⟩ := rful_spec (L := 13) (by omega) (by omega) gv13
    exact ⟨_, e1, e2, by decide, s1, s2⟩
theorem ful_runs {d : Nat} (a0 : AV) (h0 : DatV prog (d + 4) 3 a0) : ∃ m', denC prog ann 5 [a0] Mem.empty = some (.bool true, m') := by
  obtain ⟨k, rfl, hk1, hk2⟩ := datV3 h0
  have hcl : closedL [AV.int .i64 k] = true := rfl
  refine ⟨Mem.empty, ?_⟩
  rw [l04_StrapFulls.call_eq _ _ hcl]
  by_cases q1 : 13 < k
  · by_cases q2 : k ≤ 20
    · obtain ⟨r, e1, e2, hr, s1, s2⟩ := ful_both (k := 13) (by decide) (by decide)
      have hs := fun m => same_spec (va := .fsl e1 r.length (ints r)) (vb := .fsl e2 r.length (ints r)) (.inr ⟨e1, rfl⟩) (.inr ⟨e2, rfl⟩) (by omega) (by omega) m
      rw [decide_eq_true rfl] at hs
      simp [q1, q2, s1, s2, hs, lives_spec]
      done
    · have c1 : ¬ k < 1 := by omega
      have c2 : 20 < k := by omega
      simp [q1, q2, c1, c2, fl_bad (.inr c2), lives_spec]
      done
  · by_cases c1 : k < 1
    · simp [q1, c1, fl_bad (.inl c1), lives_spec]
      done
    · obtain ⟨r, e1, e2, hr, s1, s2⟩ := ful_both (k := k) (by omega) (by omega)
      have hs := fun m => same_spec (va := .fsl e1 r.length (ints r)) (vb := .fsl e2 r.length (ints r)) (.inr ⟨e1, rfl⟩) (.inr ⟨e2, rfl⟩) (by omega) (by omega) m
      rw [decide_eq_true rfl] at hs
      have c2 : ¬ 20 < k := by omega
      simp [q1, c1, c2, s1, s2, hs, lives_spec]
      done
end Go.Proofs.Ytpghadmpegncgaa
