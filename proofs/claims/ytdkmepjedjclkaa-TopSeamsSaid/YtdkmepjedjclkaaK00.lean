/-
  NO FUNCTION OF THIS PROGRAM IS TAKEN AS THE LIBRARY'S SORT. Conditions: none.
-/
import Derived.Test.YtdkmepjedjclkaaKAmH
import Derived.Test.YtdkmepjedjclkaaKAmC
import Derived.Test.YtdkmepjedjclkaaKAmG
import Derived.Test.YtdkmepjedjclkaaKAmF
set_option linter.all false
namespace Go.Proofs.Ytdkmepjedjclkaa
open Go.AM
open Go.Proofs.Try (prog)
set_option maxRecDepth 100000
theorem libS : ∀ g, (ann g).srt = true → LibCalls prog ann g := fun g h => by
  have := srt_only (l := annL) (d := ⟨false, [], [], [], []⟩) rfl (fun _ => false) (by kernel_rfl) g h
  cases this
end Go.Proofs.Ytdkmepjedjclkaa

/-
  BODIES OF FUNCTIONS OF THE PROGRAM AS SMALL OPERATIONS (written by gen.py; checked by the kernel against the program). Conditions: none.
-/
namespace Go.Proofs.Ytdkmepjedjclkaa
open Go.AM
open Go.Proofs.Try (prog)
set_option maxRecDepth 100000
set_option linter.all false
namespace r01_Same
noncomputable section
variable (K : List Item) (s : St)
def b : Code := (Try.f21.body).getD .skip
theorem hf : prog.funcs[21]? = some Try.f21 := by kernel_rfl
def r0 := findReg b 0
def r1 := findReg b 1
theorem b_eq : den prog ann 21 (.code b :: K) s = den prog ann 21 (.code r0 :: .code r1 :: .code .ret :: K) s := den_flat hf (l := [r0, r1, .ret]) (by kernel_rfl) K s
theorem r0_eq : den prog ann 21 (.code r0 :: K) s = mreg prog ann 21 none [] none [] [qF 4 fun s => some (.bool false)] K s := (den_reg hf _ K s).trans (by kernel_rfl)
theorem r1_eq : den prog ann 21 (.code r1 :: K) s = mreg prog ann 21 none [] none [] [qC 5 0,qC 6 1,⟨some 7, none, .c 0 (fun s => (.fn 67 [] [])) fun s => [(s.get 5), (s.get 6)]⟩,qA 8 (unA .not) 7,qC 9 8,⟨some 10, some (9, true), .v fun s => some (s.get 1)⟩,⟨some 11, some (9, true), .v fun s => some (s.get 0)⟩,⟨some 12, some (9, true), .c 0 (fun s => (.fn 67 [] [])) fun s => [(s.get 10), (s.get 11)]⟩,⟨some 13, some (9, true), .v fun s => unA .not (s.get 12)⟩,qF 14 fun s => pickA (s.get 9) (s.get 13) (.bool false),qC 4 14] K s := (den_reg hf _ K s).trans (by kernel_rfl)
theorem ret_eq : den prog ann 21 (.code .ret :: K) s = finM true [fun s => some (s.get 4)] s := (den_ret hf K s).trans (by kernel_rfl)
theorem nil_eq (s : St) : den prog ann 21 [] s = finM true [fun s => some (s.get 4)] s := (den_nil hf s).trans (by kernel_rfl)
theorem inBlock_eq (id : Nat) (K : List Item) (s : St) : den prog ann 21 (.inBlock id :: K) s = den prog ann 21 K s := den_inBlock hf id K s
theorem exit_eq (id : Nat) (K : List Item) (s : St) : den prog ann 21 (.code (.exit id) :: K) s = exitV prog ann 21 (exitTo id K) s := den_exitV hf id K s
theorem call_eq (v0 v1 : AV) (m : Mem) (h : closedL [v0, v1] = true) : denC prog ann 21 [v0, v1] m = (den prog ann 21 [.code b] ⟨[(0, v0), (1, v1)], 15, Mem.empty⟩).bind fun r => some (r.1, m) := (denC_pure hf (b := b) (by kernel_rfl) (by kernel_rfl) (by kernel_rfl) h m).trans (by kernel_rfl)
theorem pure_eq : (ann 21).pure = true := by kernel_rfl
attribute [simp] b_eq r0_eq r1_eq ret_eq nil_eq inBlock_eq exit_eq pure_eq
end
end r01_Same
namespace r01_Before
noncomputable section
variable (K : List Item) (s : St)
def b : Code := (Try.f67.body).getD .skip
theorem hf : prog.funcs[67]? = some Try.f67 := by kernel_rfl
def r0 := findReg b 0
def r1 := findReg b 1
def k0 := findBlk b 0
def l0 := loopOf k0
def L0 (x0 x1 x5 : AV) (m : Mem) (K : List Item) : Option Res := den prog ann 67 (.code l0 :: .inLoop l0 :: .inBlock 0 :: K) ⟨[(0, x0), (1, x1), (5, x5)], 41, m⟩
def r2 := findReg b 2
def i0 := findCond b 0
def i0t := thenOf i0
def i0e := elseOf i0
def k1 := findBlk b 1
def r4 := findReg b 4
def i1 := findCond b 1
def i1t := thenOf i1
def i1e := elseOf i1
def r5 := findReg b 5
def r3 := findReg b 3
def r6 := findReg b 6
theorem b_eq : den prog ann 67 (.code b :: K) s = den prog ann 67 (.code r0 :: .code r1 :: .code k0 :: .code r6 :: .code .ret :: K) s := den_flat hf (l := [r0, r1, k0, r6, .ret]) (by kernel_rfl) K s
theorem r0_eq : den prog ann 67 (.code r0 :: K) s = mreg prog ann 67 none [] none [] [qF 4 fun s => some (.bool false)] K s := (den_reg hf _ K s).trans (by kernel_rfl)
theorem r1_eq : den prog ann 67 (.code r1 :: K) s = mreg prog ann 67 none [] none [] [qF 5 fun s => some (.int .i64 0)] K s := (den_reg hf _ K s).trans (by kernel_rfl)
theorem k0_eq (K : List Item) (t : List (Nat × AV)) (m : Mem) : den prog ann 67 (.code k0 :: K) ⟨t, 41, m⟩ = L0 (get t 0) (get t 1) (get t 5) m K := den_loop_enter hf (b := l0) (id := 2) (l := [0, 1, 5]) (by kernel_rfl) (by kernel_rfl) (by kernel_rfl) K _
theorem l0_eq (K : List Item) (t : List (Nat × AV)) (m : Mem) : den prog ann 67 (.inLoop l0 :: .inBlock 0 :: K) ⟨t, 41, m⟩ = L0 (get t 0) (get t 1) (get t 5) m K := den_loop_again hf (id := 2) (l := [0, 1, 5]) (by kernel_rfl) (by kernel_rfl) (.inBlock 0 :: K) _
theorem L0_eq (x0 x1 x5 : AV) (m : Mem) (K : List Item) : L0 x0 x1 x5 m K = den prog ann 67 (.code r2 :: .code i0 :: .code k1 :: .code r3 :: .inLoop l0 :: .inBlock 0 :: K) ⟨[(0, x0), (1, x1), (5, x5)], 41, m⟩ := den_flat hf (l := [r2, i0, k1, r3]) (by kernel_rfl) _ _
theorem r2_eq : den prog ann 67 (.code r2 :: K) s = mreg prog ann 67 (some [0, 1, 5]) [] none [] [qC 6 5,qC 7 0,qA 8 lenSl 7,qB 9 (binA prog .lss 3) 6 8,qC 10 9,⟨some 11, some (10, true), .v fun s => some (s.get 5)⟩,⟨some 12, some (10, true), .v fun s => some (s.get 1)⟩,⟨some 13, some (10, true), .v fun s => lenSl (s.get 12)⟩,⟨some 14, some (10, true), .v fun s => binA prog .lss 3 (s.get 11) (s.get 13)⟩,qF 15 fun s => pickA (s.get 10) (s.get 14) (.bool false)] K s := (den_reg hf _ K s).trans (by kernel_rfl)
theorem i0_eq : den prog ann 67 (.code i0 :: K) s = ifV prog ann 67 15 i0t i0e K s (s.get 15) := den_if hf (by kernel_rfl) K s
theorem i0t_eq : den prog ann 67 (.code i0t :: K) s = den prog ann 67 (K) s := den_flat hf (l := []) (by kernel_rfl) K s
theorem i0e_eq : den prog ann 67 (.code i0e :: K) s = den prog ann 67 (.code (.exit 0) :: K) s := den_flat hf (l := [(.exit 0)]) (by kernel_rfl) K s
theorem k1_eq : den prog ann 67 (.code k1 :: K) s = den prog ann 67 (.code r4 :: .code i1 :: .inBlock 1 :: K) s := den_blk hf (b := blkOf k1) (l := [r4, i1]) (by kernel_rfl) (by kernel_rfl) K s
theorem r4_draw : drawOk (fun g => (ann g).pure) (modeOf (ann 67) (idOf r4)) (frzOf (ann 67) (idOf r4)) (opsOf r4) = true := drawOk_of (an := [0, 0, 3, 7, 0, 0, 48, 112, 255]) (by kernel_rfl) (by kernel_rfl)
theorem r4_eq : den prog ann 67 (.code r4 :: K) s = mreg prog ann 67 none [] (some 9) [] [qC 18 0,qC 19 5,qB 20 (idxSl 1) 18 19,qA 21 (loadF false 1) 20,qC 22 1,qC 23 5,qB 24 (idxSl 1) 22 23,qA 25 (loadF false 1) 24,qB 26 (binA prog .neq 3) 21 25] K s := (den_regD hf r4_draw K s).trans (by kernel_rfl)
theorem i1_eq : den prog ann 67 (.code i1 :: K) s = ifV prog ann 67 26 i1t i1e K s (s.get 26) := den_if hf (by kernel_rfl) K s
theorem i1t_eq : den prog ann 67 (.code i1t :: K) s = den prog ann 67 (.code r5 :: .code .ret :: K) s := den_flat hf (l := [r5, .ret]) (by kernel_rfl) K s
theorem r5_draw : drawOk (fun g => (ann g).pure) (modeOf (ann 67) (idOf r5)) (frzOf (ann 67) (idOf r5)) (opsOf r5) = true := drawOk_of (an := [0, 0, 3, 7, 0, 0, 48, 112, 255, 511]) (by kernel_rfl) (by kernel_rfl)
theorem r5_eq : den prog ann 67 (.code r5 :: K) s = mreg prog ann 67 none [] (some 10) [] [qC 27 0,qC 28 5,qB 29 (idxSl 1) 27 28,qA 30 (loadF false 1) 29,qC 31 1,qC 32 5,qB 33 (idxSl 1) 31 32,qA 34 (loadF false 1) 33,qB 35 (binA prog .lss 3) 30 34,qC 4 35] K s := (den_regD hf r5_draw K s).trans (by kernel_rfl)
theorem i1e_eq : den prog ann 67 (.code i1e :: K) s = den prog ann 67 (K) s := den_flat hf (l := []) (by kernel_rfl) K s
theorem r3_eq : den prog ann 67 (.code r3 :: K) s = mreg prog ann 67 (some [0, 1, 5]) [] none [] [qC 16 5,qF 17 fun s => binA prog .add 3 (s.get 16) (.int .i64 1),qC 5 17] K s := (den_reg hf _ K s).trans (by kernel_rfl)
theorem r6_eq : den prog ann 67 (.code r6 :: K) s = mreg prog ann 67 (some [0, 1]) [] none [] [qC 36 0,qA 37 lenSl 36,qC 38 1,qA 39 lenSl 38,qB 40 (binA prog .lss 3) 37 39,qC 4 40] K s := (den_reg hf _ K s).trans (by kernel_rfl)
theorem ret_eq : den prog ann 67 (.code .ret :: K) s = finM true [fun s => some (s.get 4)] s := (den_ret hf K s).trans (by kernel_rfl)
theorem nil_eq (s : St) : den prog ann 67 [] s = finM true [fun s => some (s.get 4)] s := (den_nil hf s).trans (by kernel_rfl)
theorem inBlock_eq (id : Nat) (K : List Item) (s : St) : den prog ann 67 (.inBlock id :: K) s = den prog ann 67 K s := den_inBlock hf id K s
theorem exit_eq (id : Nat) (K : List Item) (s : St) : den prog ann 67 (.code (.exit id) :: K) s = exitV prog ann 67 (exitTo id K) s := den_exitV hf id K s
theorem call_eq (v0 v1 : AV) (m : Mem) (h : closedL [v0, v1] = true) : denC prog ann 67 [v0, v1] m = (den prog ann 67 [.code b] ⟨[(0, v0), (1, v1)], 41, Mem.empty⟩).bind fun r => some (r.1, m) := (denC_pure hf (b := b) (by kernel_rfl) (by kernel_rfl) (by kernel_rfl) h m).trans (by kernel_rfl)
theorem pure_eq : (ann 67).pure = true := by kernel_rfl
attribute [simp] b_eq r0_eq r1_eq k0_eq l0_eq r2_eq i0_eq i0t_eq i0e_eq k1_eq r4_eq i1_eq i1t_eq r5_eq i1e_eq r3_eq r6_eq ret_eq nil_eq inBlock_eq exit_eq pure_eq
end
end r01_Before
end Go.Proofs.Ytdkmepjedjclkaa

/-
  WHAT THE REFERENCE's SMALL FUNCTIONS COMPUTE: the order of lists, the same list. Conditions: none.
-/
namespace Go.Proofs.Ytdkmepjedjclkaa
open Go.AM
open Go.Proofs.Try (prog)
set_option linter.all false
set_option maxRecDepth 10000
def lexLt : List Int → List Int → Bool
  | [], [] => false
  | [], _ :: _ => true
  | _ :: _, [] => false
  | a :: x, b :: y => if a = b then lexLt x y else decide (a < b)
theorem lexLt_drop {a b : List Int} {i : Nat} (h1 : i < a.length) (h2 : i < b.length) : lexLt (a.drop i) (b.drop i) = if nth a i = nth b i then lexLt (a.drop (i + 1)) (b.drop (i + 1)) else decide (nth a i < nth b i) := by
  rw [drop_nth h1, drop_nth h2]; simp [lexLt]
theorem before_loop {va vb : AV} {a b : List Int} (ha : IsInts va a) (hb : IsInts vb b) (hla : a.length < 4611686018427387904) : ∀ (n i : Nat) (m : Mem), a.length - i ≤ n → i ≤ a.length → i ≤ b.length →
    r01_Before.L0 va vb (.int .i64 i) m [.code r01_Before.r6, .code .ret] = some (.bool (lexLt (a.drop i) (b.drop i)), Mem.empty) := by
  intro n
  induction n with
  | zero =>
    intro i m hn hi hi2
    have e : i = a.length := by omega
    subst e
    rw [r01_Before.L0_eq]
    simp [ha.len, hb.len]
    rcases Nat.lt_or_ge a.length b.length with h | h
    · simp [h, drop_nth h, lexLt]
    · have e2 : a.length = b.length := by omega
      simp [e2, lexLt]
  | succ n ih =>
    intro i m hn hi hi2
    rw [r01_Before.L0_eq]
    simp [ha.len, hb.len]
    by_cases h1 : i < a.length
    · by_cases h2 : i < b.length
      · simp [ha.len, hb.len, h1, h2, ha.idx, hb.idx, ints_head]
        by_cases h3 : nth a i = nth b i
        · simp [h3]
          rw [wrap_id (by omega) (by omega)]
          have := ih (i + 1) ⟨m.h, m.nx + 9⟩ (by omega) (by omega) (by omega)
          simp at this
          rw [this, lexLt_drop h1 h2]
          simp [h3]
        · simp [h3, ha.idx, hb.idx, h1, h2, ints_head]
          rw [lexLt_drop h1 h2]
          simp [h3]
      · have e : i = b.length := by omega
        subst e
        simp [ha.len, hb.len, h1]
        have h4 : ¬ a.length < b.length := by omega
        simp [h4, drop_nth h1, lexLt]
    · have e : i = a.length := by omega
      subst e
      simp [ha.len, hb.len]
      rcases Nat.lt_or_ge a.length b.length with h | h
      · simp [h, drop_nth h, lexLt]
      · have e2 : a.length = b.length := by omega
        simp [e2, lexLt]
theorem before_spec {va vb : AV} {a b : List Int} (ha : IsInts va a) (hb : IsInts vb b) (hla : a.length < 4611686018427387904) (m : Mem) :
    denC prog ann 67 [va, vb] m = some (.bool (lexLt a b), m) := by
  rw [r01_Before.call_eq _ _ _ (by simp [ha.closed, hb.closed])]
  have := before_loop ha hb hla _ 0 Mem.empty (Nat.le_refl _) (by omega) (by omega)
  simp at this
  simp [this]
theorem lexLt_same : ∀ a b : List Int, (!lexLt a b && !lexLt b a) = decide (a = b)
  | [], [] => by simp [lexLt]
  | [], _ :: _ => by simp [lexLt]
  | _ :: _, [] => by simp [lexLt]
  | a :: x, b :: y => by
    have ih := lexLt_same x y
    by_cases h : a = b
    · subst h; simpa [lexLt] using ih
    · have h' : ¬ b = a := fun e => h e.symm
      simp only [lexLt, h, h', if_false]
      by_cases h1 : a < b
      · simp [h1, h]
      · have : b < a := by omega
        simp [this, h]
theorem same_spec {va vb : AV} {a b : List Int} (ha : IsInts va a) (hb : IsInts vb b) (hla : a.length < 4611686018427387904) (hlb : b.length < 4611686018427387904) (m : Mem) :
    denC prog ann 21 [va, vb] m = some (.bool (decide (a = b)), m) := by
  rw [r01_Same.call_eq _ _ _ (by simp [ha.closed, hb.closed])]
  simp [ha.closed, hb.closed, before_spec ha hb hla, before_spec hb ha hlb]
  have h := lexLt_same a b
  cases h1 : lexLt a b <;> cases h2 : lexLt b a <;> simp [h1, h2] at h <;> (try subst h) <;> simp [ha.closed, hb.closed, before_spec hb ha hlb, h1, h2, *]
end Go.Proofs.Ytdkmepjedjclkaa

/-
  WHAT THE REFERENCE COMPUTES OF A STORY: which cuts are consistent. Conditions: none.
-/
namespace Go.Proofs.Ytdkmepjedjclkaa
open Go.AM
open Go.Proofs.Try (prog)
set_option linter.all false
set_option maxRecDepth 10000
structure Note where
  f : Int
  s : Int
  t : Int
  r : Int
deriving Inhabited
def noteC (x : Note) : List AV := [.int .i64 x.f, .int .i64 x.s, .int .i64 x.t, .int .i64 x.r]
theorem noteC_len (l : List Note) : ∀ x ∈ l, (noteC x).length = 4 := fun _ _ => rfl
@[simp] theorem noteC_one (x : Note) : oneL (noteC x) = true := rfl
@[simp] theorem noteC_closed (x : Note) : closedL (noteC x) = true := rfl
def nt (l : List Note) (i : Nat) : Note := l.getD i default
theorem nt_eq {l : List Note} {i : Nat} (h : i < l.length) : l[i]? = some (nt l i) := by
  rw [List.getElem?_eq_getElem h]; simp [nt, List.getD, List.getElem?_eq_getElem h]
theorem nt_mem {l : List Note} {i : Nat} (h : i < l.length) : nt l i ∈ l := List.mem_of_getElem? (nt_eq h)
theorem load_note {l : List Note} {i : Nat} (h : i < l.length) : loadF true 4 (.fptr (flatC noteC (l.drop i))) = some (.agg (noteC (nt l i))) := by
  rw [flatC_at (nt_eq h)]; simp [noteC]
theorem drop_nt {l : List Note} {i : Nat} (h : i < l.length) : l.drop i = nt l i :: l.drop (i + 1) := by
  obtain ⟨h1, h2⟩ := List.getElem?_eq_some_iff.1 (nt_eq h)
  rw [List.drop_eq_getElem_cons h1, h2]
structure IsTale (v : AV) (D : List Int) (N : List Note) : Prop where
  ex : ∃ vD vN, v = .agg [vD, vN] ∧ IsInts vD D ∧ IsSl noteC vN N
theorem IsTale.closed {v : AV} {D : List Int} {N : List Note} (h : IsTale v D N) : v.closed = true := by
  obtain ⟨vD, vN, rfl, h1, h2⟩ := h.ex; simp [h1.closed, h2.closed]
def noteOk (c : List Int) (x : Note) : Bool := !(decide (x.r ≤ nth c x.t.toNat) && decide (nth c x.f.toNat < x.s))
def conR (N : List Note) (c : List Int) : Bool := N.all (noteOk c)
def readyOk (done : List Int) (h : Nat) (x : Note) : Bool := !(decide (x.t = h) && (decide (x.r = nth done h + 1) && decide (nth done x.f.toNat < x.s)))
def readyL (N : List Note) (done : List Int) (h : Nat) : Bool := N.all (readyOk done h)
end Go.Proofs.Ytdkmepjedjclkaa

/-
  WHAT THE REFERENCE's Cuts COMPUTES: the consistent ones among all tuples, in lexicographic order. Conditions: none.
-/
namespace Go.Proofs.Ytdkmepjedjclkaa
open Go.AM
open Go.Proofs.Try (prog)
set_option linter.all false
set_option maxRecDepth 10000
def tuplesL : List Int → List (List Int)
  | [] => [[]]
  | d :: D => (List.range (d.toNat + 1)).flatMap fun (i : Nat) => (tuplesL D).map (List.cons (i : Int))
def rowC (c : List Int) : List AV := [.fsl false c.length (ints c)]
@[simp] theorem rowC_one (c : List Int) : oneL (rowC c) = true := rfl
@[simp] theorem rowC_closed (c : List Int) : closedL (rowC c) = true := rfl
structure InBox (D c : List Int) : Prop where
  len : c.length = D.length
  lo : ∀ i, 0 ≤ nth c i
  hi : ∀ i, nth c i ≤ nth D i
structure Lims (D : List Int) (N : List Note) : Prop where
  n1 : 1 ≤ D.length
  n4 : D.length ≤ 4
  lo : ∀ i, 0 ≤ nth D i
  hi : ∀ i, nth D i ≤ 6
  N24 : N.length ≤ 24
  notes : ∀ x ∈ N, 0 ≤ x.f ∧ x.f < D.length ∧ 0 ≤ x.t ∧ x.t < D.length
theorem Lims.all {D : List Int} {N : List Note} (L : Lims D N) : ∀ d ∈ D, 0 ≤ d ∧ d ≤ 6 := by
  intro d hd
  obtain ⟨i, hi, rfl⟩ := List.mem_iff_getElem.1 hd
  rw [nth_get hi]; exact ⟨L.lo i, L.hi i⟩
def cutsL (D : List Int) (N : List Note) : List (List Int) := (tuplesL D).filter (conR N)
end Go.Proofs.Ytdkmepjedjclkaa

/-
  WHAT THE REFERENCE's Valid COMPUTES: within the limits, and all deeds can be done one by one. Conditions: none.
-/
namespace Go.Proofs.Ytdkmepjedjclkaa
open Go.AM
open Go.Proofs.Try (prog)
set_option linter.all false
set_option maxRecDepth 10000
def Step (D : List Int) (N : List Note) (done : List Int) (h : Nat) : Prop := h < D.length ∧ nth done h < nth D h ∧ readyL N done h = true
inductive Reach (D : List Int) (N : List Note) : List Int → Prop where
  | zero : Reach D N (List.replicate D.length 0)
  | step {done : List Int} {h : Nat} : Reach D N done → Step D N done h → Reach D N (done.set h (nth done h + 1))
theorem Reach.box {D : List Int} {N : List Note} (lo : ∀ i, 0 ≤ nth D i) {done : List Int} (r : Reach D N done) : InBox D done := by
  induction r with
  | zero =>
    have hz : ∀ i, nth (List.replicate D.length 0) i = 0 := fun i => by
      simp only [nth, List.getD, List.getElem?_replicate]; split <;> rfl
    exact ⟨by simp, fun i => by rw [hz]; omega, fun i => by rw [hz]; exact lo i⟩
  | @step done h r s ih =>
    obtain ⟨s1, s2, _⟩ := s
    have hl := ih.len
    refine ⟨by simp [hl], fun i => ?_, fun i => ?_⟩
    · by_cases e : h = i
      · subst e
        have : nth (done.set h (nth done h + 1)) h = nth done h + 1 := by simp [nth, List.getD, List.getElem?_set, show h < done.length by omega]
        have := ih.lo h; omega
      · have : nth (done.set h (nth done h + 1)) i = nth done i := by simp [nth, List.getD, List.getElem?_set, e]
        have := ih.lo i; omega
    · by_cases e : h = i
      · subst e
        have : nth (done.set h (nth done h + 1)) h = nth done h + 1 := by simp [nth, List.getD, List.getElem?_set, show h < done.length by omega]
        omega
      · have : nth (done.set h (nth done h + 1)) i = nth done i := by simp [nth, List.getD, List.getElem?_set, e]
        have := ih.hi i; omega
def Stuck (D : List Int) (N : List Note) (done : List Int) : Prop := ∀ h, ¬ Step D N done h
theorem ext_nth {a b : List Int} (hl : a.length = b.length) (h : ∀ i, nth a i = nth b i) : a = b := by
  refine List.ext_getElem hl fun i h1 h2 => ?_
  rw [nth_get h1, nth_get h2]; exact h i
structure NoteIn (D : List Int) (x : Note) : Prop where
  f0 : 0 ≤ x.f
  f1 : x.f < D.length
  t0 : 0 ≤ x.t
  t1 : x.t < D.length
  ne : x.f ≠ x.t
  s0 : 1 ≤ x.s
  s1 : x.s ≤ nth D x.f.toNat
  r0 : 1 ≤ x.r
  r1 : x.r ≤ nth D x.t.toNat
structure ValidS (D : List Int) (N : List Note) : Prop where
  n1 : 1 ≤ D.length
  n4 : D.length ≤ 4
  lo : ∀ i, 0 ≤ nth D i
  hi : ∀ i, nth D i ≤ 6
  N24 : N.length ≤ 24
  notes : ∀ x ∈ N, NoteIn D x
  all : Reach D N D
theorem ValidS.lims {D : List Int} {N : List Note} (v : ValidS D N) : Lims D N := ⟨v.n1, v.n4, v.lo, v.hi, v.N24, fun x hx => ⟨(v.notes x hx).f0, (v.notes x hx).f1, (v.notes x hx).t0, (v.notes x hx).t1⟩⟩
theorem sum_set : ∀ (l : List Int) (i : Nat) (a : Int), i < l.length → (l.set i a).sum = l.sum - nth l i + a
  | x :: l, 0, a, _ => by simp [nth_cons0]; omega
  | x :: l, i + 1, a, h => by
    have := sum_set l i a (by simpa using h)
    simp only [List.set_cons_succ, List.sum_cons, nth_cons1, this]; omega
theorem sum_le : ∀ (a b : List Int), a.length = b.length → (∀ i, nth a i ≤ nth b i) → a.sum ≤ b.sum
  | [], [], _, _ => by simp
  | x :: a, y :: b, hl, h => by
    have h0 := h 0
    have := sum_le a b (by simpa using hl) (fun i => by simpa [nth_cons1] using h (i + 1))
    simp only [nth_cons0] at h0
    simp only [List.sum_cons]; omega
end Go.Proofs.Ytdkmepjedjclkaa

/-
  WHAT THE REFERENCE's Valid COMPUTES: whether a story is valid. Conditions: none.
-/
namespace Go.Proofs.Ytdkmepjedjclkaa
open Go.AM
open Go.Proofs.Try (prog)
set_option linter.all false
set_option maxRecDepth 10000
section
variable {vD vN : AV} {D : List Int} {N : List Note}
end
end Go.Proofs.Ytdkmepjedjclkaa

/-
  WHAT THE LAWS' ARGUMENTS ARE: numbers, lists of numbers, stories. Conditions: none.
-/
namespace Go.Proofs.Ytdkmepjedjclkaa
open Go.AM
open Go.Proofs.Try (prog)
set_option linter.all false
set_option maxRecDepth 10000
theorem u3 : prog.underlying 3 = some (.int .i64) := by kernel_rfl
theorem parts_list {α : Type} (f : α → List AV) (R : List AV → Prop) (hR : ∀ p, R p → ∃ a, p = f a) : ∀ (parts : List (List AV)), (∀ p ∈ parts, R p) → ∃ l : List α, l.length = parts.length ∧ parts.flatten = flatC f l
  | [], _ => ⟨[], rfl, rfl⟩
  | p :: ps, h => by
    obtain ⟨a, e⟩ := hR p (h p (by simp))
    obtain ⟨l, h1, h2⟩ := parts_list f R hR ps (fun q hq => h q (by simp [hq]))
    exact ⟨a :: l, by simp [h1], by rw [List.flatten_cons, flatC_cons, e, h2]⟩
end Go.Proofs.Ytdkmepjedjclkaa

/-
  BODIES OF FUNCTIONS OF THE PROGRAM AS SMALL OPERATIONS (written by gen.py; checked by the kernel against the program). Conditions: none.
-/
namespace Go.Proofs.Ytdkmepjedjclkaa
open Go.AM
open Go.Proofs.Try (prog)
set_option maxRecDepth 100000
set_option linter.all false
end Go.Proofs.Ytdkmepjedjclkaa

/-
  A STORY MADE OF ARBITRARY NUMBERS (1): the deeds. Conditions: none.
-/
namespace Go.Proofs.Ytdkmepjedjclkaa
open Go.AM
open Go.Proofs.Try (prog)
set_option linter.all false
set_option maxRecDepth 100000
def u8s (l : List Int) : List AV := l.map (.int .u8)
@[simp] theorem u8s_len (l : List Int) : (u8s l).length = l.length := by simp [u8s]
@[simp] theorem u8s_nil : u8s [] = [] := rfl
@[simp] theorem u8s_cons (a : Int) (l : List Int) : u8s (a :: l) = .int .u8 a :: u8s l := rfl
@[simp] theorem u8s_oneL (l : List Int) : oneL (u8s l) = true := by induction l <;> simp_all
@[simp] theorem u8s_closedL (l : List Int) : closedL (u8s l) = true := by induction l <;> simp_all
def Byte (n : Int) : Prop := 0 ≤ n ∧ n ≤ 255
structure IsTaleN (a : AV) (hh : Int) (ds : List Int) (vT : AV) (T : List (List Int)) : Prop where
  eq : a = .agg (.int .u8 hh :: (u8s ds ++ [vT]))
  hB : Byte hh
  d4 : ds.length = 4
  dB : ∀ i, Byte (nth ds i)
  vT : IsSl u8s vT T
  t4 : ∀ x ∈ T, x.length = 4
  tB : ∀ x ∈ T, ∀ i, Byte (nth x i)
  tl : (T.length : Int) ≤ 9223372036854775807
structure SM (m : Mem) (D : List Int) (vN : AV) : Prop where
  r : m.h 0 = some (.cells [.nils, .nils])
  nx : 2 ≤ m.nx
  s : (D = [] ∧ m.h 1 = some (.cells [.nils, vN])) ∨ ∃ id, D ≠ [] ∧ m.h 1 = some (.cells [.sl id 1 0 D.length D.length, vN]) ∧ m.h id = some (.cells (ints D)) ∧ 2 ≤ id ∧ id < m.nx
end Go.Proofs.Ytdkmepjedjclkaa
