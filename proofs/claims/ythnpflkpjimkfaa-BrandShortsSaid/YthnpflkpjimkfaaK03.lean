/-
  THE SMALLEST FORM: the program marks states that differ. Conditions: none.
-/
import Derived.Test.YthnpflkpjimkfaaK01
import Derived.Test.YthnpflkpjimkfaaK02
import Derived.Test.YthnpflkpjimkfaaKAmH
import Derived.Test.YthnpflkpjimkfaaK00
set_option linter.all false
namespace Go.Proofs.Ythnpflkpjimkfaa
open Go.AM
open Go.Proofs.Try (prog)
set_option linter.all false
set_option maxRecDepth 100000
set_option maxHeartbeats 8000000
noncomputable def K4 : List Item := [.code brand_smallest.r30, .code brand_smallest.r31, .code brand_smallest.r32, .code brand_smallest.r33, .code brand_smallest.k12, .code brand_smallest.r43, .code .ret]
noncomputable def K6 : List Item := .inBlock 5 :: .inLoop brand_smallest.l4 :: .inBlock 4 :: K4
noncomputable def K8 : List Item := .inBlock 7 :: .code brand_smallest.r29 :: .inLoop brand_smallest.l6 :: .inBlock 6 :: K6
noncomputable def K10 : List Item := .inBlock 9 :: .code brand_smallest.r28 :: .inLoop brand_smallest.l8 :: .inBlock 8 :: K8
theorem sm_a {nv gv : AV} {ps : List AV} {rows : List (List Int)} {good : List Bool} {k : Nat} (hn : IsRows nv ps rows) (v : VB rows good k) {x2 : AV} {d : Nat} {ids : List Nat} {i j : Nat} (hi : i < rows.length) (hj : j < rows.length) {r : Res} :
    ∀ (c a : Nat) (h : Nat → Option AObj) (nx0 : Nat) (P : PB), a + c = k → Bt h d ids P.1 rows.length 0 → P.1.length = rows.length →
    (∀ h' nx', Bt h' d ids (mkA rows i j c a P).1 rows.length 0 → (mkA rows i j c a P).1.length = rows.length → nx0 ≤ nx' → (∀ y, y ∉ ids → h' y = h y) →
      brand_smallest.L8 (.fptr [nv, gv]) x2 (.int .i64 rows.length) (.sptr [.sl d 1 0 rows.length rows.length]) (.bool (mkA rows i j c a P).2) (.int .i64 i) (.int .i64 rows.length) (.int .i64 i) (.int .i64 rows.length) (.int .i64 ((j : Int) + 1)) ⟨h', nx'⟩ K8 = some r) →
    brand_smallest.L10 (.fptr [nv, gv]) x2 (.int .i64 rows.length) (.sptr [.sl d 1 0 rows.length rows.length]) (.bool P.2) (.int .i64 i) (.int .i64 j) (.int .i64 rows.length) (.int .i64 i) (.int .i64 rows.length) (.int .i64 j) (.int .i64 k) (.int .i64 a) ⟨h, nx0⟩ K10 = some r := by
  intro c
  have n6 := v.n6
  have k3 := v.k3
  induction c with
  | zero =>
    intro a h nx0 P h1 B hl hk
    have e : a = k := by omega
    subst e
    have hwj : IntKind.wrap .i64 ((j : Int) + 1) = (j : Int) + 1 := wrap_id (by omega) (by omega)
    have hk := hk h nx0 B hl (Nat.le_refl _) (fun _ _ => rfl)
    rw [brand_smallest.L10_eq]
    simp [K10, hwj]
    exact hk
  | succ c ih =>
    intro a h nx0 P h1 B hl hk
    have ha : a < k := by omega
    have hwa : IntKind.wrap .i64 ((a : Int) + 1) = (a : Int) + 1 := wrap_id (by omega) (by omega)
    obtain ⟨c1, c2⟩ := nx_lt v hi ha
    obtain ⟨c1', c2'⟩ := nx_lt v hj ha
    have b := v.rl i hi
    have b' := v.rl j hj
    have iw1 := hn.row i hi
    have iw2 := hn.row j hj
    have d1 := iw1.idx (i := a) (by omega) .i64
    have d2 := iw2.idx (i := a) (by omega) .i64
    have e1 := ints_head (l := cth rows i) (i := a) (by omega)
    have e2 := ints_head (l := cth rows j) (i := a) (by omega)
    rw [c2] at e1
    rw [c2'] at e2
    have l1 := fun n' => B.ld0 (i := i) (by omega) n'
    have l2 := fun n' => B.get (i := i) (j := j) (by omega) hj n'
    have l3 := fun n' => B.ld0 (i := nx rows i a) (by omega) n'
    have l4 := fun n' => B.get (i := nx rows i a) (j := nx rows j a) (by omega) c1' n'
    rw [hl] at l1 l3
    have es : mkA rows i j (c + 1) a P = mkA rows i j c (a + 1) (mk1 rows i j P a) := by rw [mkA, List.range'_succ, List.foldl_cons, mkA]
    rw [es] at hk
    rcases q : mth P.1 i j with _ | _
    · rcases q2 : mth P.1 (nx rows i a) (nx rows j a) with _ | _
      · have e3 : mk1 rows i j P a = P := by rw [mk1, q2]; simp
        rw [e3] at hk
        have st := ih (a + 1) h (nx0 + 31) P (by omega) B hl (fun h' nx' g1 g2 g3 g4 => hk h' nx' g1 g2 (by omega) g4)
        simp only [Int.natCast_add, Int.cast_ofNat_Int] at st
        rw [q] at l2
        rw [q2] at l4
        rw [brand_smallest.L10_eq]
        simp [ha, hi, hj, l1, l2, l3, l4, hn.idx hi, hn.head hi, hn.idx hj, hn.head hj, d1, d2, e1, e2, c1, c1', hwa, st]
        done
      · have e3 : mk1 rows i j P a = (setM P.1 i j true, true) := by rw [mk1, if_pos ⟨q, q2⟩]
        rw [e3] at hk
        have hm := B.rm (i := i) (by omega)
        obtain ⟨p1, p2⟩ := B.put (i := i) (j := j) (by omega) hj true (nx0 + 31)
        have st := ih (a + 1) _ (nx0 + 31) (setM P.1 i j true, true) (by omega) p2 (by simpa [setM] using hl) (fun h' nx' g1 g2 g3 g4 => hk h' nx' g1 g2 (by omega) (fun y hy => by rw [g4 y hy]; exact updNe (fun e => hy (e ▸ hm))))
        simp only [Int.natCast_add, Int.cast_ofNat_Int] at st
        rw [q] at l2
        rw [q2] at l4
        rw [brand_smallest.L10_eq]
        simp [ha, hi, hj, l1, l2, l3, l4, hn.idx hi, hn.head hi, hn.idx hj, hn.head hj, d1, d2, e1, e2, c1, c1', hwa, p1, -stA_ptr, st]
        done
    · have e3 : mk1 rows i j P a = P := by rw [mk1, q]; simp
      rw [e3] at hk
      have st := ih (a + 1) h (nx0 + 31) P (by omega) B hl (fun h' nx' g1 g2 g3 g4 => hk h' nx' g1 g2 (by omega) g4)
      simp only [Int.natCast_add, Int.cast_ofNat_Int] at st
      rw [q] at l2
      rw [brand_smallest.L10_eq]
      simp [ha, hi, hj, l1, l2, hwa, st]
      done
theorem mkJ_succ (rows : List (List Int)) (k i c j : Nat) (P : PB) : mkJ rows k i (c + 1) j P = mkJ rows k i c (j + 1) (mkA rows i j k 0 P) := by rw [mkJ, List.range'_succ, List.foldl_cons, mkJ]
theorem mkI_succ (rows : List (List Int)) (k n c i : Nat) (P : PB) : mkI rows k n (c + 1) i P = mkI rows k n c (i + 1) (mkJ rows k i n 0 P) := by rw [mkI, List.range'_succ, List.foldl_cons, mkI]
theorem sm_j {nv gv : AV} {ps : List AV} {rows : List (List Int)} {good : List Bool} {k : Nat} (hn : IsRows nv ps rows) (v : VB rows good k) {x2 : AV} {d : Nat} {ids : List Nat} {i : Nat} (hi : i < rows.length) {r : Res} :
    ∀ (c j : Nat) (h : Nat → Option AObj) (nx0 : Nat) (P : PB), j + c = rows.length → Bt h d ids P.1 rows.length 0 → P.1.length = rows.length →
    (∀ h' nx', Bt h' d ids (mkJ rows k i c j P).1 rows.length 0 → (mkJ rows k i c j P).1.length = rows.length → nx0 ≤ nx' → (∀ y, y ∉ ids → h' y = h y) →
      brand_smallest.L6 (.fptr [nv, gv]) x2 (.int .i64 rows.length) (.sptr [.sl d 1 0 rows.length rows.length]) (.bool (mkJ rows k i c j P).2) (.int .i64 rows.length) (.int .i64 ((i : Int) + 1)) ⟨h', nx'⟩ K6 = some r) →
    brand_smallest.L8 (.fptr [nv, gv]) x2 (.int .i64 rows.length) (.sptr [.sl d 1 0 rows.length rows.length]) (.bool P.2) (.int .i64 i) (.int .i64 rows.length) (.int .i64 i) (.int .i64 rows.length) (.int .i64 j) ⟨h, nx0⟩ K8 = some r := by
  intro c
  have n6 := v.n6
  induction c with
  | zero =>
    intro j h nx0 P h1 B hl hk
    have e : j = rows.length := by omega
    subst e
    have hwi : IntKind.wrap .i64 ((i : Int) + 1) = (i : Int) + 1 := wrap_id (by omega) (by omega)
    have hk := hk h nx0 B hl (Nat.le_refl _) (fun _ _ => rfl)
    rw [brand_smallest.L8_eq]
    simp [K8, hwi]
    exact hk
  | succ c ih =>
    intro j h nx0 P h1 B hl hk
    have hj : j < rows.length := by omega
    rw [mkJ_succ] at hk
    have iw1 := hn.row i hi
    have b := v.rl i hi
    have st := sm_a (gv := gv) (x2 := x2) hn v hi hj (r := r) k 0 h nx0 P (by omega) B hl (fun h' nx' g1 g2 g3 g4 => by
      have := ih (j + 1) h' nx' _ (by omega) g1 g2 (fun h'' nx'' f1 f2 f3 f4 => hk h'' nx'' f1 f2 (by omega) (fun y hy => by rw [f4 y hy, g4 y hy]))
      simp only [Int.natCast_add, Int.cast_ofNat_Int] at this
      exact this)
    simp only [Int.ofNat_zero, Int.cast_ofNat_Int] at st
    rw [brand_smallest.L8_eq]
    simp [hj, hn.idx hi, hn.head hi, iw1.len, b]
    exact st
theorem sm_i {nv gv : AV} {ps : List AV} {rows : List (List Int)} {good : List Bool} {k : Nat} (hn : IsRows nv ps rows) (v : VB rows good k) {x2 : AV} {d : Nat} {ids : List Nat} {r : Res} :
    ∀ (c i : Nat) (h : Nat → Option AObj) (nx0 : Nat) (P : PB), i + c = rows.length → Bt h d ids P.1 rows.length 0 → P.1.length = rows.length →
    (∀ h' nx', Bt h' d ids (mkI rows k rows.length c i P).1 rows.length 0 → (mkI rows k rows.length c i P).1.length = rows.length → nx0 ≤ nx' → (∀ y, y ∉ ids → h' y = h y) →
      brand_smallest.L4 (.fptr [nv, gv]) x2 (.int .i64 rows.length) (.sptr [.sl d 1 0 rows.length rows.length]) (.bool (mkI rows k rows.length c i P).2) ⟨h', nx'⟩ K4 = some r) →
    brand_smallest.L6 (.fptr [nv, gv]) x2 (.int .i64 rows.length) (.sptr [.sl d 1 0 rows.length rows.length]) (.bool P.2) (.int .i64 rows.length) (.int .i64 i) ⟨h, nx0⟩ K6 = some r := by
  intro c
  have n6 := v.n6
  induction c with
  | zero =>
    intro i h nx0 P h1 B hl hk
    have e : i = rows.length := by omega
    subst e
    have hk := hk h nx0 B hl (Nat.le_refl _) (fun _ _ => rfl)
    rw [brand_smallest.L6_eq]
    simp [K6]
    exact hk
  | succ c ih =>
    intro i h nx0 P h1 B hl hk
    have hi : i < rows.length := by omega
    rw [mkI_succ] at hk
    have st := sm_j (gv := gv) (x2 := x2) hn v hi (r := r) rows.length 0 h nx0 P (by omega) B hl (fun h' nx' g1 g2 g3 g4 => by
      have := ih (i + 1) h' nx' _ (by omega) g1 g2 (fun h'' nx'' f1 f2 f3 f4 => hk h'' nx'' f1 f2 (by omega) (fun y hy => by rw [f4 y hy, g4 y hy]))
      simp only [Int.natCast_add, Int.cast_ofNat_Int] at this
      exact this)
    simp only [Int.ofNat_zero, Int.cast_ofNat_Int] at st
    rw [brand_smallest.L6_eq]
    simp [hi]
    exact st
theorem sm_w {nv gv : AV} {ps : List AV} {rows : List (List Int)} {good : List Bool} {k : Nat} (hn : IsRows nv ps rows) (v : VB rows good k) {x2 : AV} {d : Nat} {ids : List Nat} {r : Res} :
    ∀ (f : Nat) (h : Nat → Option AObj) (nx0 : Nat) (D : MB), Mkd rows good k D → rows.length * rows.length < f + cnt rows.length (mth D) → Bt h d ids D rows.length 0 →
    (∀ h' nx', Bt h' d ids (fixD rows k rows.length f D) rows.length 0 → nx0 ≤ nx' → (∀ y, y ∉ ids → h' y = h y) →
      brand_smallest.L4 (.fptr [nv, gv]) x2 (.int .i64 rows.length) (.sptr [.sl d 1 0 rows.length rows.length]) (.bool false) ⟨h', nx'⟩ K4 = some r) →
    brand_smallest.L4 (.fptr [nv, gv]) x2 (.int .i64 rows.length) (.sptr [.sl d 1 0 rows.length rows.length]) (.bool true) ⟨h, nx0⟩ K4 = some r := by
  intro f
  induction f with
  | zero =>
    intro h nx0 D hM hf B hk
    have := cnt_le rows.length (mth D)
    omega
  | succ f ih =>
    intro h nx0 D hM hf B hk
    obtain ⟨m1, m2, m3⟩ := mkI_law v hM
    rw [fixD] at hk
    have st := sm_i (gv := gv) (x2 := x2) hn v (r := r) rows.length 0 h nx0 (D, false) (by omega) B hM.wf.l (fun h' nx' g1 g2 g3 g4 => by
      rcases q : (mkI rows k rows.length rows.length 0 (D, false)).2 with _ | _
      · rw [q] at hk
        exact hk h' nx' g1 g3 g4
      · rw [q, if_pos rfl] at hk
        exact ih h' nx' _ m1 (by have := m2 q; omega) g1 (fun h'' nx'' f1 f2 f3 => hk h'' nx'' f1 (by omega) (fun y hy => by rw [f3 y hy, g4 y hy])))
    simp only [Int.ofNat_zero, Int.cast_ofNat_Int] at st
    rw [brand_smallest.L4_eq]
    simp
    exact st
end Go.Proofs.Ythnpflkpjimkfaa

/-
  BODIES OF FUNCTIONS OF THE PROGRAM AS SMALL OPERATIONS (written by gen.py; checked by the kernel against the program). Conditions: none.
-/
namespace Go.Proofs.Ythnpflkpjimkfaa
open Go.AM
open Go.Proofs.Try (prog)
set_option maxRecDepth 100000
set_option linter.all false
namespace brand_letter
noncomputable section
variable (K : List Item) (s : St)
def b : Code := (Try.f59.body).getD .skip
theorem hf : prog.funcs[59]? = some Try.f59 := by kernel_rfl
def r0 := findReg b 0
def r1 := findReg b 1
theorem b_eq : den prog ann 59 (.code b :: K) s = den prog ann 59 (.code r0 :: .code r1 :: .code .ret :: K) s := den_flat hf (l := [r0, r1, .ret]) (by kernel_rfl) K s
theorem r0_eq : den prog ann 59 (.code r0 :: K) s = mreg prog ann 59 none [] none [] [qF 2 fun s => some (.str [])] K s := (den_reg hf _ K s).trans (by kernel_rfl)
theorem r1_eq : den prog ann 59 (.code r1 :: K) s = mreg prog ann 59 none [] none [] [qC 3 0,qA 4 (convInt .u8) 3,qA 5 (binA prog .add 5 (.int .u8 97)) 4,⟨some 6, none, .w false none fun s => bslM s.m 1 (bslA 1 1 [.int .u8 0] [(0, (s.get 5))])⟩,qF 7 fun s => convStr s.m (s.get 6),qC 2 7] K s := (den_reg hf _ K s).trans (by kernel_rfl)
theorem ret_eq : den prog ann 59 (.code .ret :: K) s = finM true [fun s => some (s.get 2)] s := (den_ret hf K s).trans (by kernel_rfl)
theorem nil_eq (s : St) : den prog ann 59 [] s = finM true [fun s => some (s.get 2)] s := (den_nil hf s).trans (by kernel_rfl)
theorem inBlock_eq (id : Nat) (K : List Item) (s : St) : den prog ann 59 (.inBlock id :: K) s = den prog ann 59 K s := den_inBlock hf id K s
theorem exit_eq (id : Nat) (K : List Item) (s : St) : den prog ann 59 (.code (.exit id) :: K) s = exitV prog ann 59 (exitTo id K) s := den_exitV hf id K s
theorem call_eq (v0 : AV) (m : Mem) (h : closedL [v0] = true) : denC prog ann 59 [v0] m = (den prog ann 59 [.code b] ⟨[(0, v0)], 8, Mem.empty⟩).bind fun r => some (r.1, m) := (denC_pure hf (b := b) (by kernel_rfl) (by kernel_rfl) (by kernel_rfl) h m).trans (by kernel_rfl)
theorem pure_eq : (ann 59).pure = true := by kernel_rfl
attribute [simp] b_eq r0_eq r1_eq ret_eq nil_eq inBlock_eq exit_eq pure_eq
end
end brand_letter
namespace r07_letter
noncomputable section
variable (K : List Item) (s : St)
def b : Code := (Try.f64.body).getD .skip
theorem hf : prog.funcs[64]? = some Try.f64 := by kernel_rfl
def r0 := findReg b 0
def r1 := findReg b 1
theorem b_eq : den prog ann 64 (.code b :: K) s = den prog ann 64 (.code r0 :: .code r1 :: .code .ret :: K) s := den_flat hf (l := [r0, r1, .ret]) (by kernel_rfl) K s
theorem r0_eq : den prog ann 64 (.code r0 :: K) s = mreg prog ann 64 none [] none [] [qF 2 fun s => some (.str [])] K s := (den_reg hf _ K s).trans (by kernel_rfl)
theorem r1_eq : den prog ann 64 (.code r1 :: K) s = mreg prog ann 64 none [] none [] [qC 3 0,qC 4 0,qF 5 fun s => binA prog .add 3 (s.get 4) (.int .i64 1),qF 6 fun s => sliceStr (.str [97, 98, 99]) (some (s.get 3)) (some (s.get 5)),qC 2 6] K s := (den_reg hf _ K s).trans (by kernel_rfl)
theorem ret_eq : den prog ann 64 (.code .ret :: K) s = finM true [fun s => some (s.get 2)] s := (den_ret hf K s).trans (by kernel_rfl)
theorem nil_eq (s : St) : den prog ann 64 [] s = finM true [fun s => some (s.get 2)] s := (den_nil hf s).trans (by kernel_rfl)
theorem inBlock_eq (id : Nat) (K : List Item) (s : St) : den prog ann 64 (.inBlock id :: K) s = den prog ann 64 K s := den_inBlock hf id K s
theorem exit_eq (id : Nat) (K : List Item) (s : St) : den prog ann 64 (.code (.exit id) :: K) s = exitV prog ann 64 (exitTo id K) s := den_exitV hf id K s
theorem call_eq (v0 : AV) (m : Mem) (h : closedL [v0] = true) : denC prog ann 64 [v0] m = (den prog ann 64 [.code b] ⟨[(0, v0)], 7, Mem.empty⟩).bind fun r => some (r.1, m) := (denC_pure hf (b := b) (by kernel_rfl) (by kernel_rfl) (by kernel_rfl) h m).trans (by kernel_rfl)
theorem pure_eq : (ann 64).pure = true := by kernel_rfl
attribute [simp] b_eq r0_eq r1_eq ret_eq nil_eq inBlock_eq exit_eq pure_eq
end
end r07_letter
end Go.Proofs.Ythnpflkpjimkfaa

/-
  LETTERS AS STRINGS: the code's and the specification's. Conditions: none.
-/
namespace Go.Proofs.Ythnpflkpjimkfaa
open Go.AM
open Go.Proofs.Try (prog)
set_option linter.all false
set_option maxRecDepth 100000
set_option maxHeartbeats 4000000
def ltr (a : Nat) : List UInt8 := [UInt8.ofNat (97 + a)]
theorem letter_spec {a : Nat} (h : a < 3) (m : Mem) : denC prog ann 59 [.int .i64 a] m = some (.str (ltr a), m) := by
  rw [brand_letter.call_eq _ _ (by simp)]
  rcases (by omega : a = 0 ∨ a = 1 ∨ a = 2) with rfl | rfl | rfl
  · simp [ltr, convStr, bytesOf, sliceStr, bnds, bnd, IntKind.wrap, IntKind.min, IntKind.max, IntKind.signed, IntKind.bits]; done
  · simp [ltr, convStr, bytesOf, sliceStr, bnds, bnd, IntKind.wrap, IntKind.min, IntKind.max, IntKind.signed, IntKind.bits]; done
  · simp [ltr, convStr, bytesOf, sliceStr, bnds, bnd, IntKind.wrap, IntKind.min, IntKind.max, IntKind.signed, IntKind.bits]; done
theorem rletter_spec {a : Nat} (h : a < 3) (m : Mem) : denC prog ann 64 [.int .i64 a] m = some (.str (ltr a), m) := by
  rw [r07_letter.call_eq _ _ (by simp)]
  rcases (by omega : a = 0 ∨ a = 1 ∨ a = 2) with rfl | rfl | rfl
  · simp [ltr, convStr, bytesOf, sliceStr, bnds, bnd, IntKind.wrap, IntKind.min, IntKind.max, IntKind.signed, IntKind.bits]; done
  · simp [ltr, convStr, bytesOf, sliceStr, bnds, bnd, IntKind.wrap, IntKind.min, IntKind.max, IntKind.signed, IntKind.bits]; done
  · simp [ltr, convStr, bytesOf, sliceStr, bnds, bnd, IntKind.wrap, IntKind.min, IntKind.max, IntKind.signed, IntKind.bits]; done
end Go.Proofs.Ythnpflkpjimkfaa

/-
  PAIRS OF STATES AS CELLS AND AS KEYS. Conditions: none.
-/
namespace Go.Proofs.Ythnpflkpjimkfaa
open Go.AM
open Go.Proofs.Try (prog)
set_option linter.all false
set_option maxRecDepth 100000
set_option maxHeartbeats 4000000
@[simp] theorem neqB (a b : Bool) : binA prog .neq 4 (.bool a) (.bool b) = some (.bool (!(a == b))) := by simp [binA, eqT, eqA, u4']
abbrev PN := Nat × Nat
def cP (x : PN) : List AV := [.int .i64 ((x.1 : Nat) : Int), .int .i64 ((x.2 : Nat) : Int)]
def encP (x : PN) : AV := .agg (cP x)
def flP : List PN → List AV
  | [] => []
  | x :: l => cP x ++ flP l
@[simp] theorem cP_len (x : PN) : (cP x).length = 2 := rfl
@[simp] theorem flP_len : ∀ l : List PN, (flP l).length = l.length * 2
  | [] => rfl
  | x :: l => by rw [flP, List.length_append, flP_len l, cP_len, List.length_cons]; omega
theorem sc3 (n : Int) : scV prog 3 (.int .i64 n) = true := by simp [scV, u3]
end Go.Proofs.Ythnpflkpjimkfaa

/-
  THE SMALLEST FORM: the program's first marks. Conditions: none.
-/
namespace Go.Proofs.Ythnpflkpjimkfaa
open Go.AM
open Go.Proofs.Try (prog)
set_option linter.all false
set_option maxRecDepth 100000
set_option maxHeartbeats 8000000
theorem setM_app (D : MB) (row : List Bool) (j : Nat) (b : Bool) : setM (D ++ [row]) D.length j b = D ++ [row.set j b] := by
  simp [setM, brw, List.getD_eq_getElem?_getD, List.set_append]
def fillR (val : Nat → Bool) (c j : Nat) (row : List Bool) : List Bool := (List.range' j c).foldl (fun r j => r.set j (val j)) row
theorem fillR_succ (val : Nat → Bool) (c j : Nat) (row : List Bool) : fillR val (c + 1) j row = fillR val c (j + 1) (row.set j (val j)) := by rw [fillR, List.range'_succ, List.foldl_cons, fillR]
theorem fillR_eq (val : Nat → Bool) : ∀ (c j : Nat) (row : List Bool), row.length = j + c → fillR val c j row = row.take j ++ (List.range' j c).map val
  | 0, j, row, h => by simp [fillR, List.take_of_length_le (show row.length ≤ j by omega)]
  | c + 1, j, row, h => by
    rw [fillR_succ, fillR_eq val c (j + 1) _ (by simp; omega), List.range'_succ, List.map_cons]
    rw [List.take_add_one, List.take_set_of_le (by omega), List.getElem?_set_self (by omega)]
    simp
theorem fillR_all (val : Nat → Bool) (n : Nat) (row : List Bool) (h : row.length = n) : fillR val n 0 row = (List.range n).map val := by
  rw [fillR_eq val n 0 row (by omega)]; simp [List.range_eq_range']
noncomputable def K0 : List Item := .code brand_smallest.r13 :: .code brand_smallest.k4 :: K4
noncomputable def K2 : List Item := .inBlock 1 :: .code brand_smallest.r12 :: .inLoop brand_smallest.l0 :: .inBlock 0 :: K0
theorem sm_f {nv gv : AV} {good : List Bool} {n : Nat} (hg : IsB gv good) (hgn : good.length = n) (n6 : n ≤ 6) {x2 : AV} {d e : Nat} {ids : List Nat} {D : MB} (hi : D.length + 1 + e = n) {r : Res} :
    ∀ (c j : Nat) (h : Nat → Option AObj) (nx0 : Nat) (row : List Bool), j + c = n → Bt h d ids (D ++ [row]) n e →
    (∀ h' nx', Bt h' d ids (D ++ [fillR (fun j => !(bnth good D.length == bnth good j)) c j row]) n e → nx0 ≤ nx' → (∀ y, y ∉ ids → h' y = h y) →
      brand_smallest.L0 (.fptr [nv, gv]) x2 (.int .i64 n) (.sptr [.sl d 1 0 n n]) (.int .i64 n) (.int .i64 ((D.length : Int) + 1)) ⟨h', nx'⟩ K0 = some r) →
    brand_smallest.L2 (.fptr [nv, gv]) x2 (.int .i64 n) (.sptr [.sl d 1 0 n n]) (.int .i64 D.length) (.int .i64 n) (.int .i64 D.length) (.int .i64 n) (.int .i64 j) ⟨h, nx0⟩ K2 = some r := by
  intro c
  induction c with
  | zero =>
    intro j h nx0 row h1 B hk
    have ej : j = n := by omega
    subst ej
    have hwi : IntKind.wrap .i64 ((D.length : Int) + 1) = (D.length : Int) + 1 := wrap_id (by omega) (by omega)
    have hk := hk h nx0 B (Nat.le_refl _) (fun _ _ => rfl)
    rw [brand_smallest.L2_eq]
    simp [K2, hwi]
    exact hk
  | succ c ih =>
    intro j h nx0 row h1 B hk
    have hj : j < n := by omega
    have hwj : IntKind.wrap .i64 ((j : Int) + 1) = (j : Int) + 1 := wrap_id (by omega) (by omega)
    have hD : D.length < n := by omega
    have l1 := fun n' => B.ld (i := D.length) (by simp) n'
    rw [show (D ++ [row]).length + e = n by simp; omega] at l1
    obtain ⟨p1, p2⟩ := B.put (i := D.length) (j := j) (by simp) hj (!(bnth good D.length == bnth good j)) (nx0 + 17)
    rw [setM_app] at p2
    have hm := B.rm (i := D.length) (by simp)
    rw [fillR_succ] at hk
    have b1 := bls_head (bs := good) (i := D.length) (by omega)
    have b2 := bls_head (bs := good) (i := j) (by omega)
    have st := ih (j + 1) _ (nx0 + 18) (row.set j (!(bnth good D.length == bnth good j))) (by omega) p2 (fun h' nx' g1 g3 g4 => hk h' nx' g1 (by omega) (fun y hy => by rw [g4 y hy]; exact updNe (fun e => hy (e ▸ hm))))
    simp only [Int.natCast_add, Int.cast_ofNat_Int] at st
    rw [brand_smallest.L2_eq]
    simp [hj, hD, l1, hg.idx (i := D.length) (by omega), hg.idx (i := j) (by omega), b1, b2, hwj, p1, -stA_ptr, st]
    done
theorem sm_d {nv gv : AV} {good : List Bool} {n : Nat} (hg : IsB gv good) (hgn : good.length = n) (n6 : n ≤ 6) {x2 : AV} {d : Nat} {r : Res} :
    ∀ (c i : Nat) (h : Nat → Option AObj) (nx0 : Nat) (ids : List Nat), i + c = n → Bt h d ids ((List.range i).map fun i => (List.range n).map fun j => !(bnth good i == bnth good j)) n c → d < nx0 → (∀ y ∈ ids, y < nx0) →
    (∀ h' nx' ids', Bt h' d ids' (D0 good n) n 0 → d < nx' → (∀ y ∈ ids', y < nx') → nx0 ≤ nx' → (∀ y, y < nx0 → y ≠ d → y ∉ ids → h' y = h y) →
      brand_smallest.L4 (.fptr [nv, gv]) x2 (.int .i64 n) (.sptr [.sl d 1 0 n n]) (.bool true) ⟨h', nx'⟩ K4 = some r) →
    brand_smallest.L0 (.fptr [nv, gv]) x2 (.int .i64 n) (.sptr [.sl d 1 0 n n]) (.int .i64 n) (.int .i64 i) ⟨h, nx0⟩ K0 = some r := by
  intro c
  induction c with
  | zero =>
    intro i h nx0 ids h1 B hd hb hk
    have ej : i = n := by omega
    subst ej
    have hk := hk h nx0 ids B hd hb (Nat.le_refl _) (fun _ _ _ _ => rfl)
    rw [brand_smallest.L0_eq]
    simp [K0]
    exact hk
  | succ c ih =>
    intro i h nx0 ids h1 B hd hb hk
    have hi : i < n := by omega
    have hil : ids.length = i := by rw [B.l]; simp
    have hwi : IntKind.wrap .i64 ((i : Int) + 1) = (i : Int) + 1 := wrap_id (by omega) (by omega)
    have hdd : ∀ v, (upd h (nx0 + 3) v) d = some (.cells (ids.map (fun r => AV.sl r 1 0 n n) ++ List.replicate (c + 1) AV.nils)) := fun v => by rw [updNe (by omega), B.o]
    have hll : (ids.map (fun r => AV.sl r 1 0 n n) ++ List.replicate (c + 1) AV.nils).length = n := by simp [hil]; omega
    have hst : stA false 1 ⟨upd h (nx0 + 3) (some (AObj.cells (List.replicate n (AV.bool false)))), nx0 + 5⟩ (.ptr d i n) (.sl (nx0 + 3) 1 0 n n) = some (.tup [], ⟨upd (upd h (nx0 + 3) (some (AObj.cells (List.replicate n (AV.bool false))))) d (some (.cells ((ids.map (fun r => AV.sl r 1 0 n n) ++ List.replicate (c + 1) AV.nils).set i (.sl (nx0 + 3) 1 0 n n)))), nx0 + 5⟩) := by
      rw [stA_ptr]
      show stO false 1 _ d i n _ ((upd h (nx0 + 3) (some (AObj.cells (List.replicate n (AV.bool false))))) d) = _
      rw [hdd, stO_cells0, hll]
      simp [hi, AV.one, Mem.set]
    have hli : ((List.range i).map fun i => (List.range n).map fun j => !(bnth good i == bnth good j)).length = i := by simp
    have B2 := B.add (h' := upd (upd h (nx0 + 3) (some (AObj.cells (List.replicate n (AV.bool false))))) d (some (.cells ((ids.map (fun r => AV.sl r 1 0 n n) ++ List.replicate (c + 1) AV.nils).set i (.sl (nx0 + 3) 1 0 n n))))) (x := nx0 + 3) (row := List.replicate n false) (by omega) (fun q => by have := hb _ q; omega) (by simp) (by rw [hli]; simp) (by rw [updNe (by omega)]; simp [bls]) (fun y hy => by
      have := hb y hy
      rw [updNe (fun e => B.nd' (by rw [← e]; exact hy)), updNe (by omega)])
    have st := sm_f (gv := gv) (nv := nv) (x2 := x2) hg hgn n6 (d := d) (e := c) (ids := ids ++ [nx0 + 3]) (D := (List.range i).map fun i => (List.range n).map fun j => !(bnth good i == bnth good j)) (by rw [hli]; omega) (r := r) n 0 _ (nx0 + 6) (List.replicate n false) (by omega) B2 (fun h' nx' g1 g3 g4 => by
      rw [fillR_all _ n _ (by simp)] at g1
      simp only [hli] at g1 ⊢
      have e1 : ((List.range i).map fun i => (List.range n).map fun j => !(bnth good i == bnth good j)) ++ [(List.range n).map fun j => !(bnth good i == bnth good j)] = (List.range (i + 1)).map fun i => (List.range n).map fun j => !(bnth good i == bnth good j) := by rw [List.range_succ, List.map_append]; rfl
      rw [e1] at g1
      have := ih (i + 1) h' nx' _ (by omega) g1 (by omega) (fun y hy => by
        rcases List.mem_append.1 hy with hy | hy
        · have := hb y hy; omega
        · simp at hy; omega) (fun h'' nx'' ids' f1 f2 f3 f4 f5 => hk h'' nx'' ids' f1 f2 f3 (by omega) (fun y y1 y2 y3 => by
          have hy : y ∉ ids ++ [nx0 + 3] := by simp; exact ⟨y3, by omega⟩
          rw [f5 y (by omega) y2 hy, g4 y hy, updNe y2, updNe (by omega)]))
      simp only [Int.natCast_add, Int.cast_ofNat_Int] at this
      exact this)
    simp only [hli, Int.ofNat_zero, Int.cast_ofNat_Int] at st
    rw [brand_smallest.L0_eq]
    simp [hi, show n ≤ 4611686018427387904 by omega, show n ≤ 70368744177664 by omega, hst, -stA_ptr]
    exact st
end Go.Proofs.Ythnpflkpjimkfaa

/-
  NUMBERING STATES UP TO LIKENESS: taking representatives as they come, and taking all states and leaving out later ones that are alike, is the same. Conditions: none.
-/
namespace Go.Proofs.Ythnpflkpjimkfaa
open Go.AM
open Go.Proofs.Try (prog)
set_option linter.all false
set_option maxRecDepth 100000
set_option maxHeartbeats 4000000
def numS (al : Nat → Nat → Bool) (s : Nat) (P : List Nat) : List Nat := if P.any (al s) = true then P else P ++ [s]
def idxA (al : Nat → Nat → Bool) (P : List Nat) (s : Nat) : Nat := P.findIdx (al s)
def addsN (al : Nat → Nat → Bool) (nxt : Nat → Nat → Nat) (q c a : Nat) (P : List Nat) : List Nat := (List.range' a c).foldl (fun P a => numS al (nxt q a) P) P
def bldN (al : Nat → Nat → Bool) (nxt : Nat → Nat → Nat) (k : Nat) : Nat → Nat → List Nat → List Nat
  | 0, _, P => P
  | f + 1, i, P => match P[i]? with
    | some q => bldN al nxt k f (i + 1) (addsN al nxt q k 0 P)
    | none => P
def ded (al : Nat → Nat → Bool) (R : List Nat) : List Nat := R.foldl (fun P s => numS al s P) []
def bfsA {β : Type} (nxt : Nat → Nat → Nat) (ext : β → Nat → β) (k : Nat) : Nat → Nat → List Nat × List β → List Nat × List β
  | 0, _, S => S
  | f + 1, i, S => match S.1[i]?, S.2[i]? with
    | some x, some w => bfsA nxt ext k f (i + 1) (bIn nxt ext x w k 0 S)
    | _, _ => S
section
variable {al : Nat → Nat → Bool} {nxt : Nat → Nat → Nat} {k : Nat}
theorem numS_pre (s : Nat) (P : List Nat) : ∃ l, numS al s P = P ++ l := by
  rw [numS]; split
  · exact ⟨[], by simp⟩
  · exact ⟨[s], rfl⟩
theorem fold_pre (f : Nat → Nat) : ∀ (l : List Nat) (P : List Nat), ∃ l', l.foldl (fun P a => numS al (f a) P) P = P ++ l'
  | [], P => ⟨[], by simp⟩
  | a :: l, P => by
    obtain ⟨l1, h1⟩ := numS_pre (al := al) (f a) P
    obtain ⟨l2, h2⟩ := fold_pre f l (numS al (f a) P)
    exact ⟨l1 ++ l2, by rw [List.foldl_cons, h2, h1, List.append_assoc]⟩
theorem addsN_pre (q c a : Nat) (P : List Nat) : ∃ l, addsN al nxt q c a P = P ++ l := fold_pre (fun a => nxt q a) _ P
theorem ded_app (R l : List Nat) : ded al (R ++ l) = l.foldl (fun P s => numS al s P) (ded al R) := by simp [ded]
theorem ded_pre (R l : List Nat) : ∃ l', ded al (R ++ l) = ded al R ++ l' := by rw [ded_app]; exact fold_pre id l _
theorem any_app {P l : List Nat} {p : Nat → Bool} (h : P.any p = true) : (P ++ l).any p = true := by rw [List.any_append, h]; rfl
theorem idxA_app {P l : List Nat} {s : Nat} (h : P.any (al s) = true) : idxA al (P ++ l) s = idxA al P s := by
  rw [idxA, List.findIdx_append, idxA]
  rw [if_pos]
  rw [List.findIdx_lt_length]
  simpa using h
structure Lik (al : Nat → Nat → Bool) (nxt : Nat → Nat → Nat) (k n : Nat) : Prop where
  rf : ∀ s, s < n → al s s = true
  sy : ∀ s t, s < n → t < n → al s t = true → al t s = true
  tr : ∀ s t u, s < n → t < n → u < n → al s t = true → al t u = true → al s u = true
  st : ∀ s t a, s < n → t < n → a < k → al s t = true → al (nxt s a) (nxt t a) = true
  cl : ∀ s a, s < n → a < k → nxt s a < n
variable {n : Nat}
theorem ded_sub : ∀ (R : List Nat) (P : List Nat) (s : Nat), s ∈ R.foldl (fun P s => numS al s P) P → s ∈ P ∨ s ∈ R
  | [], P, s, h => .inl h
  | r :: R, P, s, h => by
    rw [List.foldl_cons] at h
    rcases ded_sub R _ s h with h | h
    · rw [numS] at h
      split at h
      · exact .inl h
      · rcases List.mem_append.1 h with h | h
        · exact .inl h
        · right; simp at h; simp [h]
    · right; simp [h]
theorem ded_mem {R : List Nat} {s : Nat} (h : s ∈ ded al R) : s ∈ R := by
  rcases ded_sub R [] s h with h | h
  · simp at h
  · exact h
theorem ded_len : ∀ (R P : List Nat), (R.foldl (fun P s => numS al s P) P).length ≤ P.length + R.length
  | [], P => by simp
  | r :: R, P => by
    have h := ded_len R (numS al r P)
    have h2 : (numS al r P).length ≤ P.length + 1 := by rw [numS]; split <;> simp
    rw [List.foldl_cons, List.length_cons]; omega
theorem ded_any (L : Lik al nxt k n) : ∀ (R : List Nat), (∀ s ∈ R, s < n) → ∀ s, s ∈ R → (ded al R).any (al s) = true := by
  intro R hR s hs
  obtain ⟨a, b, rfl⟩ := List.append_of_mem hs
  have h1 : ded al (a ++ s :: b) = b.foldl (fun P s => numS al s P) (numS al s (ded al a)) := by rw [ded_app, List.foldl_cons]
  have h2 : (numS al s (ded al a)).any (al s) = true := by
    rw [numS]
    split
    · assumption
    · simp [L.rf s (hR s hs)]
  obtain ⟨l, h3⟩ := fold_pre (al := al) id b (numS al s (ded al a))
  simp only [id] at h3
  rw [h1, h3]
  exact any_app h2
theorem ded_skip (L : Lik al nxt k n) {R : List Nat} (hR : ∀ s ∈ R, s < n) {s t : Nat} (hs : s < n) (ht : t ∈ R) (h : al s t = true) : numS al s (ded al R) = ded al R := by
  have h1 := ded_any L R hR t ht
  rw [List.any_eq_true] at h1
  obtain ⟨u, hu, h2⟩ := h1
  have : (ded al R).any (al s) = true := List.any_eq_true.2 ⟨u, hu, L.tr s t u hs (hR t ht) (hR u (ded_mem hu)) h h2⟩
  rw [numS, if_pos this]
variable {β : Type} {ext : β → Nat → β}
theorem bIn_ded (L : Lik al nxt k n) {q : Nat} (hq : q < n) (w : β) : ∀ (c a : Nat) (S : List Nat × List β), a + c ≤ k → (∀ s ∈ S.1, s < n) → ded al (bIn nxt ext q w c a S).1 = addsN al nxt q c a (ded al S.1)
  | 0, a, S, _, _ => rfl
  | c + 1, a, S, hc, hS => by
    rw [addsN, List.range'_succ, List.foldl_cons, bIn]
    have hn := L.cl q a hq (by omega)
    by_cases h : nxt q a ∈ S.1
    · rw [if_pos h, bIn_ded L hq w c (a + 1) S (by omega) hS, addsN, ded_skip L hS hn h (L.rf _ hn)]
    · rw [if_neg h, bIn_ded L hq w c (a + 1) _ (by omega) (fun s hs => by
        rcases List.mem_append.1 hs with hs | hs
        · exact hS s hs
        · simp at hs; rw [hs]; exact hn), addsN]
      congr 1
      simp only []
      rw [ded_app]; rfl
theorem addsN_skip (L : Lik al nxt k n) {R : List Nat} (hR : ∀ s ∈ R, s < n) {q f : Nat} (hq : q < n) (hf : f < n) (hqf : al q f = true) (hfR : ∀ a, a < k → nxt f a ∈ R) : ∀ (c a : Nat), a + c ≤ k → addsN al nxt q c a (ded al R) = ded al R
  | 0, a, _ => rfl
  | c + 1, a, hc => by
    rw [addsN, List.range'_succ, List.foldl_cons, ded_skip L hR (L.cl q a hq (by omega)) (hfR a (by omega)) (L.st q f a hq hf (by omega) hqf)]
    exact addsN_skip L hR hq hf hqf hfR c (a + 1) (by omega)
theorem bIn_has (q : Nat) (w : β) : ∀ (c a : Nat) (S : List Nat × List β) (b : Nat), a ≤ b → b < a + c → nxt q b ∈ (bIn nxt ext q w c a S).1
  | 0, a, S, b, h1, h2 => by omega
  | c + 1, a, S, b, h1, h2 => by
    rw [bIn]
    by_cases e : b = a
    · subst e
      by_cases h : nxt q b ∈ S.1
      · rw [if_pos h]
        obtain ⟨p, _, e1, _⟩ := bIn_pre nxt ext q w c (b + 1) S
        rw [e1]; exact List.mem_append_left _ h
      · rw [if_neg h]
        obtain ⟨p, _, e1, _⟩ := bIn_pre nxt ext q w c (b + 1) (S.1 ++ [nxt q b], S.2 ++ [ext w b])
        rw [e1]; simp
    · split
      · exact bIn_has q w c (a + 1) _ b (by omega) (by omega)
      · exact bIn_has q w c (a + 1) _ b (by omega) (by omega)
theorem bfs_ded (L : Lik al nxt k n) {ln : β → Nat} (hex : ∀ w a, ln (ext w a) ≤ ln w + 1) : ∀ (f i : Nat) (S : List Nat × List β), BOk (· < n) ln S → i ≤ S.1.length → n < f + i → (∀ s ∈ S.1.take i, ∀ a, a < k → nxt s a ∈ S.1) → ∀ f', n < f' + (ded al (S.1.take i)).length →
    bldN al nxt k f' (ded al (S.1.take i)).length (ded al S.1) = ded al (bfsA nxt ext k f i S).1 := by
  intro f
  induction f with
  | zero =>
    intro i S hS hi hf
    have := nodup_sub hS.nd (L := List.range n) fun x hx => List.mem_range.2 (hS.all x hx)
    simp at this
    omega
  | succ f ih =>
    intro i S hS hi hf hcl f' hf'
    have hSn : S.1.length ≤ n := by
      have := nodup_sub hS.nd (L := List.range n) fun x hx => List.mem_range.2 (hS.all x hx)
      simpa using this
    by_cases c : i < S.1.length
    · have hx := List.getElem?_eq_getElem c
      have c2 : i < S.2.length := by rw [← hS.len]; exact c
      have hw := List.getElem?_eq_getElem c2
      generalize S.1[i] = q at hx
      generalize S.2[i] = w at hw
      have hqm := List.mem_of_getElem? hx
      have hq : q < n := hS.all q hqm
      rw [bfsA, hx, hw]
      simp only []
      have hS' := bIn_ok nxt ext (ok := (· < n)) (ln := ln) (k := k) (fun x a hx ha => L.cl x a hx ha) hex q w hq k 0 S (by omega) hS (hS.wl w (List.mem_of_getElem? hw))
      obtain ⟨p, p', e1, e2⟩ := bIn_pre nxt ext q w k 0 S
      have ht : (bIn nxt ext q w k 0 S).1.take (i + 1) = S.1.take (i + 1) := by rw [e1, List.take_append_of_le_length (by omega)]
      have ht1 : S.1.take (i + 1) = S.1.take i ++ [q] := by rw [List.take_add_one, hx]; rfl
      have hd1 : ded al (S.1.take (i + 1)) = numS al q (ded al (S.1.take i)) := by rw [ht1, ded_app]; rfl
      have hb := bIn_ded (ext := ext) L hq w k 0 S (by omega) hS.all
      have hcl' : ∀ s ∈ (bIn nxt ext q w k 0 S).1.take (i + 1), ∀ a, a < k → nxt s a ∈ (bIn nxt ext q w k 0 S).1 := by
        rw [ht, ht1]
        intro s hs a ha
        rcases List.mem_append.1 hs with hs | hs
        · rw [e1]; exact List.mem_append_left _ (hcl s hs a ha)
        · simp at hs
          subst hs
          exact bIn_has s w k 0 S a (by omega) (by omega)
      have IH := ih (i + 1) (bIn nxt ext q w k 0 S) hS' (by rw [e1]; simp; omega) (by omega) hcl'
      rw [ht, hd1, hb] at IH
      have hT : ∀ s ∈ S.1.take i, s < n := fun s hs => hS.all s (List.mem_of_mem_take hs)
      by_cases hany : (ded al (S.1.take i)).any (al q) = true
      · have e3 : numS al q (ded al (S.1.take i)) = ded al (S.1.take i) := by rw [numS, if_pos hany]
        rw [e3] at IH
        rw [List.any_eq_true] at hany
        obtain ⟨g, hg, hqg⟩ := hany
        have hgt := ded_mem hg
        have hsk := addsN_skip L hS.all hq (hT g hgt) hqg (fun a ha => hcl g hgt a ha) k 0 (by omega)
        rw [hsk] at IH
        exact IH f' hf'
      · have e3 : numS al q (ded al (S.1.take i)) = ded al (S.1.take i) ++ [q] := by rw [numS, if_neg hany]
        rw [e3] at IH hd1
        have hlen : (ded al (S.1.take i)).length ≤ i := by
          have := ded_len (al := al) (S.1.take i) []
          simp [List.length_take] at this
          exact Nat.le_trans this (by omega)
        have hsp : S.1 = S.1.take (i + 1) ++ S.1.drop (i + 1) := (List.take_append_drop _ _).symm
        obtain ⟨l', hl'⟩ := ded_pre (al := al) (S.1.take (i + 1)) (S.1.drop (i + 1))
        rw [← hsp, hd1] at hl'
        match f', hf' with
        | 0, hf' => omega
        | f' + 1, hf' =>
          have hat : (ded al S.1)[(ded al (S.1.take i)).length]? = some q := by rw [hl']; simp
          rw [bldN, hat]
          simp only []
          have := IH f' (by simp; omega)
          simpa using this
    · have hi' : i = S.1.length := by omega
      have hx : S.1[i]? = none := List.getElem?_eq_none (by omega)
      rw [bfsA, hx]
      simp only []
      have : S.1.take i = S.1 := by rw [hi']; simp
      rw [this]
      cases f' with
      | zero => rfl
      | succ f' =>
        rw [bldN]
        simp
end
theorem few6 {n : Nat} {st : List Nat} (n6 : n ≤ 6) (h : st.Nodup) (ha : ∀ x ∈ st, x < n) : st.length ≤ 6 := by
  have := nodup_sub h (L := List.range n) fun x hx => List.mem_range.2 (ha x hx)
  simp at this
  omega
end Go.Proofs.Ythnpflkpjimkfaa

/-
  SETS OF STATES AS BITS OF A NUMBER. Conditions: none.
-/
namespace Go.Proofs.Ythnpflkpjimkfaa
open Go.AM
open Go.Proofs.Try (prog)
set_option linter.all false
set_option maxRecDepth 100000
set_option maxHeartbeats 4000000
def encS (x : Nat) : AV := .int .i64 (x : Int)
end Go.Proofs.Ythnpflkpjimkfaa

/-
  THE SMALLEST FORM: the number of a state (a function's value that keeps a list). Conditions: none.
-/
namespace Go.Proofs.Ythnpflkpjimkfaa
open Go.AM
open Go.Proofs.Try (prog)
set_option linter.all false
set_option maxRecDepth 100000
set_option maxHeartbeats 8000000
section
variable {h : Nat → Option AObj} {d : Nat} {ids : List Nat} {D : MB} {n : Nat} {al : Nat → Nat → Bool}
theorem c82_spec (B : Bt h d ids D n 0) (hDl : D.length = n) (hD : ∀ s t, s < n → t < n → mth D s t = !al s t) {s t : Nat} (hs : s < n) (ht : t < n) (nx : Nat) :
    denC prog ann 82 [.int .i64 (t : Int), .sptr [.sl d 1 0 n n], .fptr [.int .i64 (s : Int)]] ⟨h, nx⟩ = some (.bool (al s t), ⟨h, nx⟩) := by
  have l1 := fun n' => B.ld0 (i := s) (by omega) n'
  have l2 := fun n' => B.get (i := s) (j := t) (by omega) ht n'
  rw [hDl] at l1
  rw [hD s t hs ht] at l2
  rw [brand_smallest_1_1.call_eq]
  simp [hs, ht, l1, l2]
  done
def firstI (p : Nat → Bool) : List Nat → Nat → Int
  | [], _ => -1
  | t :: l, j => if p t = true then (j : Int) else firstI p l (j + 1)
theorem firstI_eq (p : Nat → Bool) : ∀ (l : List Nat) (j : Nat), firstI p l j = if l.any p = true then ((j + l.findIdx p : Nat) : Int) else -1
  | [], j => rfl
  | t :: l, j => by
    rw [firstI, List.findIdx_cons, List.any_cons]
    cases e : p t with
    | true => simp
    | false =>
      rw [firstI_eq p l (j + 1)]
      simp
      by_cases q : ∃ x ∈ l, p x = true
      · rw [if_pos q, if_pos q]; omega
      · rw [if_neg q, if_neg q]
theorem idxF_loop (B : Bt h d ids D n 0) (hDl : D.length = n) (hD : ∀ s t, s < n → t < n → mth D s t = !al s t) {s S : Nat} (hs : s < n) {st : List Nat} (hS : h S = some (.cells (st.map encS))) (hst : ∀ x ∈ st, x < n) (hl : st.length ≤ 1000) (nx : Nat) : ∀ (c j : Nat), j + c = st.length →
    slices_IndexFunc_int.L0 (.sl S 1 0 st.length st.length) (.fn 82 [] [.sptr [.sl d 1 0 n n], .fptr [.int .i64 (s : Int)]]) (.int .i64 st.length) (.int .i64 j) ⟨h, nx⟩ [.code slices_IndexFunc_int.r7, .code .ret] = some (.int .i64 (firstI (al s) (st.drop j) j), ⟨h, nx⟩) := by
  intro c
  induction c with
  | zero =>
    intro j h1
    have e : j = st.length := by omega
    subst e
    rw [slices_IndexFunc_int.L0_eq]
    simp [firstI]
    done
  | succ c ih =>
    intro j h1
    have hj : j < st.length := by omega
    have hwj : IntKind.wrap .i64 ((j : Int) + 1) = (j : Int) + 1 := wrap_id (by omega) (by omega)
    have st' := ih (j + 1) (by omega)
    simp only [Int.natCast_add, Int.cast_ofNat_Int] at st'
    have hd := List.drop_eq_getElem_cons hj
    have hx := hst st[j] (List.getElem_mem _)
    have hc := c82_spec B hDl hD hs hx nx
    rw [hd, firstI]
    rw [slices_IndexFunc_int.L0_eq]
    have hlen : (st.map encS).length == st.length := by simp
    cases q : al s st[j] with
    | true =>
      rw [q] at hc
      simp [hj, hS, encS, hc]
      done
    | false =>
      rw [q] at hc
      simp [hj, hS, encS, hc, hwj, st']
      done
theorem idxF_spec (B : Bt h d ids D n 0) (hDl : D.length = n) (hD : ∀ s t, s < n → t < n → mth D s t = !al s t) {s S : Nat} (hs : s < n) {st : List Nat} (hS : h S = some (.cells (st.map encS))) (hst : ∀ x ∈ st, x < n) (hl : st.length ≤ 1000) (nx : Nat) :
    denC prog ann 81 [.sl S 1 0 st.length st.length, .fn 82 [] [.sptr [.sl d 1 0 n n], .fptr [.int .i64 (s : Int)]]] ⟨h, nx⟩ = some (.int .i64 (if st.any (al s) = true then ((idxA al st s : Nat) : Int) else -1), ⟨h, nx⟩) := by
  have lp := idxF_loop B hDl hD hs hS hst hl nx st.length 0 (by omega)
  rw [firstI_eq, List.drop_zero] at lp
  simp only [Int.ofNat_zero, Int.cast_ofNat_Int, Nat.zero_add] at lp
  rw [show (if st.any (al s) = true then ((st.findIdx (al s) : Nat) : Int) else -1) = if st.any (al s) = true then ((idxA al st s : Nat) : Int) else -1 from rfl] at lp
  generalize (if st.any (al s) = true then ((idxA al st s : Nat) : Int) else -1) = z at lp ⊢
  have lp : slices_IndexFunc_int.L0 (.sl S 1 0 st.length st.length) (.fn 82 [] [.sptr [.sl d 1 0 n n], .fptr [.int .i64 (s : Int)]]) (.int .i64 st.length) (.int .i64 0) ⟨h, nx⟩ [.code slices_IndexFunc_int.r7, .code .ret] = some (.int .i64 z, ⟨h, nx⟩) := lp
  rw [slices_IndexFunc_int.call_eq]
  simp
  exact lp
structure Sx (h : Nat → Option AObj) (b S : Nat) (st : List Nat) : Prop where
  hb : h b = some (.cells [.sl S 1 0 st.length st.length])
  hs : h S = some (.cells (st.map encS))
  ne : b ≠ S
theorem num_spec (B : Bt h d ids D n 0) (hDl : D.length = n) (hD : ∀ s t, s < n → t < n → mth D s t = !al s t) {s b S : Nat} (hr : al s s = true) (hs : s < n) {st : List Nat} (X : Sx h b S st) (hst : ∀ x ∈ st, x < n) (hl : st.length ≤ 900) (nx : Nat) :
    ∃ h', denC prog ann 80 [.int .i64 (s : Int), .ptr b 0 1, .sptr [.sl d 1 0 n n]] ⟨h, nx⟩ = some (.int .i64 (idxA al (numS al s st) s : Nat), ⟨h', nx⟩) ∧ Sx h' b S (numS al s st) ∧ ∀ y, y ≠ b → y ≠ S → h' y = h y := by
  have hi := idxF_spec B hDl hD hs X.hs hst (by omega) nx
  rw [brand_smallest_1.call_eq]
  by_cases c : st.any (al s) = true
  · rw [if_pos c] at hi
    refine ⟨h, ?_, by rw [numS, if_pos c]; exact X, fun _ _ _ => rfl⟩
    rw [numS, if_pos c]
    simp [X.hb, hi]
    done
  · rw [if_neg c] at hi
    have e : numS al s st = st ++ [s] := by rw [numS, if_neg c]
    refine ⟨upd (upd h S (some (.cells ((st ++ [s]).map encS)))) b (some (.cells [.sl S 1 0 (st ++ [s]).length (st ++ [s]).length])), ?_, ?_, fun y h1 h2 => by rw [updNe h1, updNe h2]⟩
    · have hx : idxA al (st ++ [s]) s = st.length := by
        have hn : ¬ List.findIdx (al s) st < st.length := by
          rw [List.findIdx_lt_length]
          simpa using c
        rw [idxA, List.findIdx_append, if_neg hn]
        simp [hr]
      have hb2 : (b == S) = false := beq_eq_false_iff_ne.2 X.ne
      rw [e, hx]
      simp [X.hb, hi, X.hs, show st.length ≤ 4611686018427387903 by omega, show (st.length + 1) * 8 ≤ 70368744177664 by omega, hb2, encS]
      done
    · rw [e]
      exact ⟨by simp, by rw [updNe X.ne.symm]; simp, X.ne⟩
end
end Go.Proofs.Ythnpflkpjimkfaa

/-
  LISTS THAT ARE NIL OR AN OBJECT OF THEIR OWN. Conditions: none.
-/
namespace Go.Proofs.Ythnpflkpjimkfaa
open Go.AM
open Go.Proofs.Try (prog)
set_option linter.all false
set_option maxRecDepth 100000
set_option maxHeartbeats 4000000
theorem Gl.oid {m : Mem} {v : AV} {id sz n : Nat} {xs : List AV} (h : Gl m v id sz n xs) : objId v = some id := by
  obtain ⟨⟨pre, rfl, hm⟩, hn, hl⟩ := h; rfl
theorem Gl.oidE {m : Mem} {v : AV} {id sz n : Nat} {xs : List AV} (h : Gl m v id sz n xs) (s i : Nat) : objId (elP v s i) = some id := by
  obtain ⟨⟨pre, rfl, hm⟩, hn, hl⟩ := h; rfl
def Nl (h : Nat → Option AObj) (v : AV) (xs : List AV) (lo hi : Nat) : Prop := (v = .nils ∧ xs = []) ∨ ∃ R, v = .sl R 1 0 xs.length xs.length ∧ h R = some (.cells xs) ∧ lo ≤ R ∧ R < hi
section
variable {h h' : Nat → Option AObj} {v : AV} {xs : List AV} {lo hi hi' : Nat}
theorem Nl.nil : Nl h .nils [] lo hi := .inl ⟨rfl, rfl⟩
theorem Nl.fr (n : Nl h v xs lo hi) (e : ∀ y, lo ≤ y → y < hi → objId v = some y → h' y = h y) (l : hi ≤ hi') : Nl h' v xs lo hi' := by
  rcases n with ⟨rfl, rfl⟩ | ⟨R, rfl, h1, h2, h3⟩
  · exact .nil
  · exact .inr ⟨R, rfl, by rw [e R h2 h3 rfl, h1], h2, by omega⟩
theorem Nl.one (n : Nl h v xs lo hi) : v.one = true := by
  rcases n with ⟨rfl, rfl⟩ | ⟨R, rfl, h1, h2, h3⟩ <;> rfl
theorem Nl.cells (n : Nl h v xs lo hi) : v.cells = [v] := by
  rcases n with ⟨rfl, rfl⟩ | ⟨R, rfl, h1, h2, h3⟩ <;> rfl
theorem Nl.oid (n : Nl h v xs lo hi) {y : Nat} (e : objId v = some y) : lo ≤ y ∧ y < hi := by
  rcases n with ⟨rfl, rfl⟩ | ⟨R, rfl, h1, h2, h3⟩
  · cases e
  · simp [objId] at e; omega
theorem Nl.len (n : Nl h v xs lo hi) : lenSl v = some (.int .i64 xs.length) := by
  rcases n with ⟨rfl, rfl⟩ | ⟨R, rfl, h1, h2, h3⟩ <;> rfl
theorem mapO_same {f : AV → Option AV} : ∀ l : List AV, (∀ x ∈ l, f x = some x) → mapO f l = some l
  | [], _ => rfl
  | a :: l, q => by simp [mapO, q a (by simp), mapO_same l (fun x hx => q x (by simp [hx]))]
theorem Nl.deep (n : Nl h v xs lo hi) (d : Nat) (hd : ∀ x ∈ xs, AM.deep h d x = some x) (h0 : v ≠ .nils) : AM.deep h (d + 1) v = some (.fsl false xs.length xs) := by
  rcases n with ⟨rfl, rfl⟩ | ⟨R, rfl, h1, h2, h3⟩
  · exact absurd rfl h0
  · simp [AM.deep, h1, mapO_same xs hd]
theorem Nl.nn (n : Nl h v xs lo hi) (h0 : xs ≠ []) : v ≠ .nils := by
  rcases n with ⟨rfl, rfl⟩ | ⟨R, rfl, h1, h2, h3⟩
  · exact absurd rfl h0
  · simp
theorem Nl.sl (n : Nl h v xs lo hi) (h0 : v ≠ .nils) : ∃ R, v = .sl R 1 0 xs.length xs.length ∧ h R = some (.cells xs) ∧ lo ≤ R ∧ R < hi := by
  rcases n with ⟨rfl, rfl⟩ | h
  · exact absurd rfl h0
  · exact h
theorem Nl.app {nx by' : Nat} (n : Nl h v xs lo hi) (hh : hi ≤ nx) (hl : lo ≤ nx) (hr : room (xs.length + 1) by' = true) (y : AV) :
    ∃ v' h' nx', appT 1 by' ⟨h, nx⟩ v (some (1, [y])) = some (v', ⟨h', nx'⟩) ∧ Nl h' v' (xs ++ [y]) lo nx' ∧ nx ≤ nx' ∧ nx' ≤ nx + 1 ∧ (∀ z, objId v' = some z → objId v = some z ∨ z = nx) ∧ (∀ z, objId v' ≠ some z → h' z = h z) ∧ v' ≠ .nils := by
  rcases n with ⟨rfl, rfl⟩ | ⟨R, rfl, h1, h2, h3⟩
  · refine ⟨.sl nx 1 0 1 1, upd h nx (some (.cells [y])), nx + 1, ?_, .inr ⟨nx, rfl, by simp, hl, by omega⟩, by omega, by omega, fun z e => .inr (by simp [objId] at e; omega), fun z e => updNe (fun q => e (by rw [q]; rfl)), by simp⟩
    simp at hr
    simp [Mem.new, hr]
  · refine ⟨.sl R 1 0 (xs.length + 1) (xs.length + 1), upd h R (some (.cells (xs ++ [y]))), nx, ?_, .inr ⟨R, by simp, by simp, h2, by omega⟩, by omega, by omega, fun z e => .inl e, fun z e => updNe (fun q => e (by rw [q]; rfl)), by simp⟩
    simp at hr
    simp [h1, hr.1, hr.2]
end
end Go.Proofs.Ythnpflkpjimkfaa

/-
  THE SMALLEST FORM: the program writes its rows. Conditions: none.
-/
namespace Go.Proofs.Ythnpflkpjimkfaa
open Go.AM
open Go.Proofs.Try (prog)
set_option linter.all false
set_option maxRecDepth 100000
set_option maxHeartbeats 8000000
def rowV (al : Nat → Nat → Bool) (rows : List (List Int)) (st : List Nat) (q c : Nat) : List AV := (List.range c).map fun a => .int .i64 (idxA al st (nx rows q a) : Nat)
theorem numS_nd {al : Nat → Nat → Bool} {s : Nat} {st : List Nat} (hr : al s s = true) (h : st.Nodup) : (numS al s st).Nodup := by
  rw [numS]
  split
  · exact h
  · rename_i c
    rw [List.nodup_append]
    refine ⟨h, by simp, ?_⟩
    intro a ha b hb
    simp at hb
    subst hb
    intro e
    subst e
    exact c (List.any_eq_true.2 ⟨a, ha, hr⟩)
theorem numS_all {al : Nat → Nat → Bool} {s n : Nat} {st : List Nat} (hs : s < n) (h : ∀ x ∈ st, x < n) : ∀ x ∈ numS al s st, x < n := by
  rw [numS]
  split
  · exact h
  · intro x hx
    rcases List.mem_append.1 hx with hx | hx
    · exact h x hx
    · simp at hx; omega
theorem numS_any {al : Nat → Nat → Bool} {s : Nat} {st : List Nat} (hr : al s s = true) : (numS al s st).any (al s) = true := by
  rw [numS]
  split
  · assumption
  · simp [hr]
theorem addsN_succ (al : Nat → Nat → Bool) (nxt : Nat → Nat → Nat) (q c a : Nat) (P : List Nat) : addsN al nxt q (c + 1) a P = addsN al nxt q c (a + 1) (numS al (nxt q a) P) := by rw [addsN, List.range'_succ, List.foldl_cons, addsN]
theorem rowV_pre {al : Nat → Nat → Bool} {rows : List (List Int)} {st : List Nat} {q c : Nat} (h : ∀ a, a < c → st.any (al (nx rows q a)) = true) (l : List Nat) : rowV al rows (st ++ l) q c = rowV al rows st q c := by
  simp only [rowV]
  refine List.map_congr_left fun a ha => ?_
  rw [idxA_app (h a (by simpa using ha))]
noncomputable def K12 : List Item := [.code brand_smallest.r43, .code .ret]
noncomputable def K14 : List Item := .code brand_smallest.r42 :: .inBlock 13 :: .code brand_smallest.r35 :: .inLoop brand_smallest.l12 :: .inBlock 12 :: K12
theorem sm_r {nv gv : AV} {ps : List AV} {rows : List (List Int)} {good : List Bool} {k : Nat} (hn : IsRows nv ps rows) (v : VB rows good k) {al : Nat → Nat → Bool} {D : MB} (hDl : D.length = rows.length) (hD : ∀ s t, s < rows.length → t < rows.length → mth D s t = !al s t) (hr : ∀ s, s < rows.length → al s s = true)
    {x2 x11 x14 : AV} {d : Nat} {ids : List Nat} {b S q lo : Nat} (hq : q < rows.length) (hdlo : d < lo) (hidlo : ∀ y ∈ ids, y < lo) (hb : b < lo) (hS : S < lo) (hbd : b ≠ d ∧ b ∉ ids) (hSd : S ≠ d ∧ S ∉ ids) {r : Res} :
    ∀ (c a : Nat) (h : Nat → Option AObj) (nx0 : Nat) (st : List Nat) (w : AV), a + c = k → Bt h d ids D rows.length 0 → Sx h b S st → st.Nodup → (∀ x ∈ st, x < rows.length) → (∀ a', a' < a → st.any (al (nx rows q a')) = true) → Nl h w (rowV al rows st q a) lo nx0 → lo ≤ nx0 → (0 < a → w ≠ .nils) →
    (∀ h' nx' w', Bt h' d ids D rows.length 0 → Sx h' b S (addsN al (nx rows) q c a st) → (addsN al (nx rows) q c a st).Nodup → (∀ x ∈ addsN al (nx rows) q c a st, x < rows.length) → (∀ a', a' < k → (addsN al (nx rows) q c a st).any (al (nx rows q a')) = true) → Nl h' w' (rowV al rows (addsN al (nx rows) q c a st) q k) lo nx' → nx0 ≤ nx' → w' ≠ .nils → (∀ y, y < lo → y ≠ b → y ≠ S → h' y = h y) →
      brand_smallest.L14 (.fptr [nv, gv]) x2 x11 (.ptr b 0 1) (.fn 80 [] [.ptr b 0 1, .sptr [.sl d 1 0 rows.length rows.length]]) x14 w' (pth ps q) (.int .i64 k) (.int .i64 k) ⟨h', nx'⟩ K14 = some r) →
    brand_smallest.L14 (.fptr [nv, gv]) x2 x11 (.ptr b 0 1) (.fn 80 [] [.ptr b 0 1, .sptr [.sl d 1 0 rows.length rows.length]]) x14 w (pth ps q) (.int .i64 k) (.int .i64 a) ⟨h, nx0⟩ K14 = some r := by
  intro c
  have n6 := v.n6
  have k3 := v.k3
  induction c with
  | zero =>
    intro a h nx0 st w h1 B X hnd hst hany hw hlo hwn hk
    have e : a = k := by omega
    subst e
    exact hk h nx0 w B X hnd hst hany hw (Nat.le_refl _) (hwn (by have := v.k1; omega)) (fun _ _ _ _ => rfl)
  | succ c ih =>
    intro a h nx0 st w h1 B X hnd hst hany hw hlo hwn hk
    have ha : a < k := by omega
    have hwa : IntKind.wrap .i64 ((a : Int) + 1) = (a : Int) + 1 := wrap_id (by omega) (by omega)
    obtain ⟨c1, c2⟩ := nx_lt v hq ha
    have b1 := v.rl q hq
    have iw1 := hn.row q hq
    have d1 := iw1.idx (i := a) (by omega) .i64
    have e1 := ints_head (l := cth rows q) (i := a) (by omega)
    rw [c2] at e1
    have f6 := few6 n6 hnd hst
    obtain ⟨h2, q1, q2, q3⟩ := num_spec B hDl hD (hr _ c1) c1 X hst (by omega) nx0
    have hnd' := numS_nd (hr _ c1) hnd
    have hst' := numS_all (al := al) c1 hst
    obtain ⟨l, hl⟩ := numS_pre (al := al) (nx rows q a) st
    have B2 : Bt h2 d ids D rows.length 0 := B.fr (q3 d hbd.1.symm hSd.1.symm) (fun y hy => q3 y (fun e => hbd.2 (e ▸ hy)) (fun e => hSd.2 (e ▸ hy)))
    have hw2 : Nl h2 w (rowV al rows (numS al (nx rows q a) st) q a) lo nx0 := by
      rw [hl, rowV_pre hany]
      exact hw.fr (fun y y1 y2 _ => q3 y (by omega) (by omega)) (Nat.le_refl _)
    have hlen : (rowV al rows (numS al (nx rows q a) st) q a).length = a := by simp [rowV]
    obtain ⟨w', h3, nx', g1, g2, g3, g4, g5, g6, g7⟩ := hw2.app (by' := 8) (Nat.le_refl _) hlo (by rw [hlen]; simp; omega) (.int .i64 (idxA al (numS al (nx rows q a) st) (nx rows q a) : Nat))
    have erow : rowV al rows (numS al (nx rows q a) st) q a ++ [.int .i64 (idxA al (numS al (nx rows q a) st) (nx rows q a) : Nat)] = rowV al rows (numS al (nx rows q a) st) q (a + 1) := by simp [rowV, List.range_succ]
    rw [erow] at g2
    have g6' : ∀ y, y < lo → h3 y = h2 y := fun y hy => g6 y (fun e => by
      rcases g5 y e with e | e
      · have := hw2.oid e; omega
      · omega)
    rw [addsN_succ] at hk
    have st2 := ih (a + 1) h3 nx' (numS al (nx rows q a) st) w' (by omega) (B2.fr (g6 d (fun e => by
        rcases g5 d e with e | e
        · have := hw2.oid e; have := hdlo; omega
        · have := hdlo; omega)) (fun y hy => g6' y (hidlo y hy))) ⟨by rw [g6' b hb]; exact q2.hb, by rw [g6' S hS]; exact q2.hs, q2.ne⟩ hnd' hst' (fun a' ha' => by
        by_cases e : a' = a
        · subst e; exact numS_any (hr _ c1)
        · rw [hl]; exact any_app (hany a' (by omega))) g2 (by omega) (fun _ => g7) (fun h' nx'' w'' f1 f2 f3 f4 f5 f6 f7 f8 f9 => hk h' nx'' w'' f1 f2 f3 f4 f5 f6 (by omega) f8 (fun y y1 y2 y3 => by rw [f9 y y1 y2 y3, g6' y y1, q3 y y2 y3]))
    simp only [Int.natCast_add, Int.cast_ofNat_Int] at st2
    rw [brand_smallest.L14_eq]
    simp [ha, d1, e1, q1, hw2.one, g1, hwa, st2]
    done
end Go.Proofs.Ythnpflkpjimkfaa

/-
  THE SMALLEST FORM: the program writes it. Conditions: none.
-/
namespace Go.Proofs.Ythnpflkpjimkfaa
open Go.AM
open Go.Proofs.Try (prog)
set_option linter.all false
set_option maxRecDepth 100000
set_option maxHeartbeats 8000000
def rowF (al : Nat → Nat → Bool) (rows : List (List Int)) (k : Nat) (st : List Nat) (q : Nat) : AV := .fsl false k (rowV al rows st q k)
def outR (al : Nat → Nat → Bool) (rows : List (List Int)) (k : Nat) (st : List Nat) (kk : Nat) : List AV := (st.take kk).map (rowF al rows k st)
def outG (good : List Bool) (st : List Nat) (kk : Nat) : List AV := (st.take kk).map fun q => .bool (bnth good q)
structure Ox (h : Nat → Option AObj) (o z0 : Nat) (a g : AV) (R G : List AV) (lo hi : Nat) : Prop where
  o : h o = some (.cells [a, g])
  z : h z0 = some (.cells [.nils, .nils])
  na : Nl h a R lo hi
  ng : Nl h g G lo hi
  dj : ∀ y, objId a = some y → objId g ≠ some y
def resV (al : Nat → Nat → Bool) (rows : List (List Int)) (good : List Bool) (k : Nat) (st : List Nat) : AV := .agg [.fsl false st.length (st.map (rowF al rows k st)), .fsl false st.length (st.map fun q => .bool (bnth good q))]
def ap (x y : Option Nat) : Bool := match x, y with
  | some a, some c => !(a == c)
  | _, _ => true
theorem ap_eq (s : St) (p q : Nat) : apart2 s p q = ap (objId (s.get p)) (objId (s.get q)) := by
  unfold apart2 ap
  cases objId (s.get p) <;> cases objId (s.get q) <;> rfl
theorem ap_lt {x : Option Nat} {z lo : Nat} (h : ∀ y, x = some y → lo ≤ y) (hz : z < lo) : ap x (some z) = true := by
  cases x with
  | none => rfl
  | some y =>
    have : (y == z) = false := beq_eq_false_iff_ne.2 (by have := h y rfl; omega)
    simp [ap, this]
theorem frz_142_146 (s : St) : frz1 s 3142146 = bif ap (objId (s.get 142)) (objId (s.get 146)) then some s else none := by rw [← ap_eq]; rfl
theorem frz_144 (s : St) : frz1 s 2000144 = bif nsl (s.get 144) then some s else none := rfl
theorem frz_142_12 (s : St) : frz1 s 3142012 = bif ap (objId (s.get 142)) (objId (s.get 12)) then some s else none := by rw [← ap_eq]; rfl
theorem frz_142_152 (s : St) : frz1 s 3142152 = bif ap (objId (s.get 142)) (objId (s.get 152)) then some s else none := by rw [← ap_eq]; rfl
@[simp] theorem objId_ptr (id off top : Nat) : objId (.ptr id off top) = some id := rfl
@[simp] theorem objId_sl (id es off n top : Nat) : objId (.sl id es off n top) = some id := rfl
theorem rowV_closed (al : Nat → Nat → Bool) (rows : List (List Int)) (st : List Nat) (q c : Nat) : closedL (rowV al rows st q c) = true := by
  rw [rowV]
  generalize List.range c = l
  induction l with
  | nil => rfl
  | cons a l ih => simp [closedL, AV.closed, ih]
theorem sm_o {nv gv : AV} {ps : List AV} {rows : List (List Int)} {good : List Bool} {k : Nat} (hn : IsRows nv ps rows) (hg : IsB gv good) (v : VB rows good k) {al : Nat → Nat → Bool} {D : MB} (hDl : D.length = rows.length) (hD : ∀ s t, s < rows.length → t < rows.length → mth D s t = !al s t) (hr : ∀ s, s < rows.length → al s s = true)
    {d o z0 : Nat} {ids : List Nat} {b S lo : Nat} (hdlo : d < lo) (hidlo : ∀ y ∈ ids, y < lo) (hb : b < lo) (hS : S < lo) (ho : o < lo) (hz : z0 < lo) (hbd : b ≠ d ∧ b ∉ ids) (hSd : S ≠ d ∧ S ∉ ids) (hod : o ≠ d ∧ o ∉ ids) (hzd : z0 ≠ d ∧ z0 ∉ ids) (hob : o ≠ b ∧ o ≠ S) (hzb : z0 ≠ b ∧ z0 ≠ S) (hoz : o ≠ z0) :
    ∀ (f kk : Nat) (h : Nat → Option AObj) (nx0 : Nat) (st : List Nat) (a g : AV), Bt h d ids D rows.length 0 → Sx h b S st → st.Nodup → (∀ x ∈ st, x < rows.length) → kk ≤ st.length → rows.length < f + kk → (∀ s ∈ st.take kk, ∀ a, a < k → st.any (al (nx rows s a)) = true) → lo ≤ nx0 → Ox h o z0 a g (outR al rows k st kk) (outG good st kk) lo nx0 → 0 < st.length →
    brand_smallest.L12 (.fptr [nv, gv]) (.ptr z0 0 2) (.ptr o 0 2) (.ptr b 0 1) (.fn 80 [] [.ptr b 0 1, .sptr [.sl d 1 0 rows.length rows.length]]) (.int .i64 kk) ⟨h, nx0⟩ K12 = some (resV al rows good k (bldN al (nx rows) k f kk st), Mem.empty) := by
  intro f
  have n6 := v.n6
  have k3 := v.k3
  induction f with
  | zero =>
    intro kk h nx0 st a g B X hnd hst hkk hf hcl hlo O hpos
    have := nodup_sub hnd (L := List.range rows.length) fun x hx => List.mem_range.2 (hst x hx)
    simp at this
    omega
  | succ f ih =>
    intro kk h nx0 st a g B X hnd hst hkk hf hcl hlo O hpos
    have f6 := few6 n6 hnd hst
    by_cases c : kk < st.length
    · have hx := List.getElem?_eq_getElem c
      generalize st[kk] = q at hx
      have hq : q < rows.length := hst q (List.mem_of_getElem? hx)
      rw [bldN, hx]
      simp only []
      have hl2 : ∀ n' : Nat, loadA false 1 ⟨h, n'⟩ (.ptr S kk st.length) = some (.int .i64 (q : Int)) := fun n' => by simp [X.hs, hx, encS]
      have iw1 := hn.row q hq
      have b1 := v.rl q hq
      rw [brand_smallest.L12_eq]
      simp [X.hb, c, hl2, hn.idx hq, hn.head hq, iw1.len, b1]
      have st2 := sm_r (gv := gv) (x2 := .ptr z0 0 2) (x11 := .ptr o 0 2) (x14 := .int .i64 kk) hn v hDl hD hr (d := d) (ids := ids) (b := b) (S := S) (q := q) (lo := nx0 + 10) hq (by omega) (fun y hy => by have := hidlo y hy; omega) (by omega) (by omega) hbd hSd (r := (resV al rows good k (bldN al (nx rows) k f (kk + 1) (addsN al (nx rows) q k 0 st)), Mem.empty)) k 0 h (nx0 + 10) st .nils (by omega) B X hnd hst (by omega) (.inl ⟨rfl, rfl⟩) (by omega) (by omega) (fun h' nx' w' B' X' hnd' hst' hany' hw' hnx' hwn' hfr => by
        obtain ⟨R, rfl, w1, w2, w3⟩ := hw'.sl hwn'
        obtain ⟨l, hl⟩ := addsN_pre (al := al) (nxt := nx rows) q k 0 st
        generalize est : addsN al (nx rows) q k 0 st = st' at *
        have hkk' : kk < st'.length := by rw [hl]; simp; omega
        have hx' : st'[kk]? = some q := by rw [hl, List.getElem?_append_left c]; exact hx
        have htk : st'.take kk = st.take kk := by rw [hl, List.take_append_of_le_length (by omega)]
        have htk1 : st'.take (kk + 1) = st.take kk ++ [q] := by rw [List.take_add_one, hx', htk]; rfl
        have f6' := few6 n6 hnd' hst'
        have eR : outR al rows k st kk ++ [rowF al rows k st' q] = outR al rows k st' (kk + 1) := by
          rw [outR, outR, htk1, List.map_append]
          congr 1
          refine List.map_congr_left fun s hs => ?_
          rw [rowF, rowF, hl, rowV_pre (hcl s hs)]
        have eG : outG good st kk ++ [.bool (bnth good q)] = outG good st' (kk + 1) := by
          rw [outG, outG, htk1, List.map_append]; rfl
        have oa := fun y e => (O.na.oid (y := y) e)
        have og := fun y e => (O.ng.oid (y := y) e)
        have rl : (rowV al rows st' q k).length = k := by simp [rowV]
        have na1 : Nl (upd h' R none) a (outR al rows k st kk) lo nx0 := O.na.fr (fun y y1 y2 _ => by rw [updNe (by omega), hfr y (by omega) (by omega) (by omega)]) (Nat.le_refl _)
        have lR : (outR al rows k st kk).length ≤ 6 := by simp [outR]; omega
        have lG : (outG good st kk).length ≤ 6 := by simp [outG]; omega
        obtain ⟨v1, h2, n2, g1, g2, g3, g4, g5, g6, g7⟩ := na1.app (nx := nx' + 4) (by' := 24) (by omega) (by omega) (by simp; omega) (rowF al rows k st' q)
        have hv1 : ∀ y, objId v1 = some y → lo ≤ y ∧ (y < nx0 ∨ y = nx' + 4) := fun y e => by
          rcases g5 y e with q | q
          · have := oa y q; omega
          · omega
        have ng1 : Nl h2 g (outG good st kk) lo nx0 := O.ng.fr (fun y y1 y2 ye => by
          rw [g6 y (fun e => by
            rcases g5 y e with q | q
            · exact O.dj y q ye
            · omega), updNe (by omega), hfr y (by omega) (by omega) (by omega)]) (Nat.le_refl _)
        obtain ⟨v2, h3, n3, u1, u2, u3, u4, u5, u6, u7⟩ := ng1.app (nx := nx' + 16) (by' := 1) (by omega) (by omega) (by simp; omega) (.bool (bnth good q))
        have hv2 : ∀ y, objId v2 = some y → lo ≤ y ∧ (objId g = some y ∨ y = nx' + 16) := fun y e => by
          rcases u5 y e with q | q
          · have := og y q; exact ⟨this.1, .inl q⟩
          · exact ⟨by omega, .inr q⟩
        have low : ∀ y, y < lo → h3 y = h' y := fun y hy => by
          rw [u6 y (fun e => by have := hv2 y e; omega), g6 y (fun e => by have := hv1 y e; omega), updNe (by omega)]
        have lo2 : ∀ y, y < lo → h2 y = h' y := fun y hy => by
          rw [g6 y (fun e => by have := hv1 y e; omega), updNe (by omega)]
        have ho' : h' o = some (.cells [a, g]) := by rw [hfr o (by omega) hob.1 hob.2]; exact O.o
        have ho1 : (upd h' R none) o = some (.cells [a, g]) := by rw [updNe (by omega)]; exact ho'
        have ho2 : h2 o = some (.cells [a, g]) := by rw [lo2 o ho]; exact ho'
        have ho3 : h3 o = some (.cells [a, g]) := by rw [low o ho]; exact ho'
        have hb2 : h2 b = some (.cells [.sl S 1 0 st'.length st'.length]) := by rw [lo2 b hb]; exact X'.hb
        have hS2 : h2 S = some (.cells (st'.map encS)) := by rw [lo2 S hS]; exact X'.hs
        have a1 := ap_lt (z := o) (fun y e => (oa y e).1) ho
        have a2 := ap_lt (z := b) (fun y e => (oa y e).1) hb
        have a3 := ap_lt (z := S) (fun y e => (oa y e).1) hS
        have bq := bls_head (bs := good) (i := q) (by rw [v.gl]; exact hq)
        have hwk : IntKind.wrap .i64 ((kk : Int) + 1) = (kk : Int) + 1 := wrap_id (by omega) (by omega)
        have fin4 : ∀ y, y < lo → y ≠ o → (upd h3 o (some (.cells [v1, v2]))) y = h' y := fun y y1 y2 => by rw [updNe y2, low y y1]
        have st3 := ih (kk + 1) (upd h3 o (some (.cells [v1, v2]))) (nx' + 21) st' v1 v2
          (B'.fr (fin4 d hdlo hod.1.symm) (fun y hy => fin4 y (hidlo y hy) (fun e => hod.2 (e ▸ hy))))
          ⟨by rw [fin4 b hb hob.1.symm]; exact X'.hb, by rw [fin4 S hS hob.2.symm]; exact X'.hs, X'.ne⟩ hnd' hst' (by omega) (by omega)
          (by
            rw [htk1]
            intro s hs a ha
            rcases List.mem_append.1 hs with hs | hs
            · rw [hl]; exact any_app (hcl s hs a ha)
            · simp at hs; subst hs; exact hany' a ha)
          (by omega)
          ⟨by simp, by rw [fin4 z0 hz hoz.symm, hfr z0 (by omega) hzb.1 hzb.2]; exact O.z,
            by
              rw [← eR]
              exact g2.fr (fun y y1 y2 ye => by
                rw [updNe (by omega), u6 y (fun e => by
                  rcases (hv2 y e).2 with q | q
                  · rcases g5 y ye with w | w
                    · exact O.dj y w q
                    · have := og y q; omega
                  · have := (hv1 y ye).2; omega)]) (by omega),
            by
              rw [← eG]
              exact u2.fr (fun y y1 y2 ye => by rw [updNe (by omega)]) (by omega),
            fun y e1 e2 => by
              rcases (hv2 y e2).2 with q | q
              · rcases g5 y e1 with w | w
                · exact O.dj y w q
                · have := og y q; omega
              · have := (hv1 y e1).2; omega⟩ (by omega)
        simp only [Int.natCast_add, Int.cast_ofNat_Int] at st3
        have hoR : (o == R) = false := beq_eq_false_iff_ne.2 (by omega)
        have rtk : (rowV al rows st' q k).take k = rowV al rows st' q k := List.take_of_length_le (by omega)
        have hxe := (List.getElem?_eq_some_iff.1 hx').2
        have rfo : (rowF al rows k st' q).one = true := rfl
        simp only [rowF] at g1 rfo
        rw [brand_smallest.L14_eq]
        simp [K14, w1, rowV_closed, rl, rtk, hoR, ho', ho1, ho2, ho3, g1, O.na.one, O.ng.one, hb2, hS2, hkk', hxe, u1, (show v1.one = true from g2.one), (show v2.one = true from u2.one), frz_142_146, frz_144, frz_142_12, frz_142_152, nsl, a1, a2, a3, hwk, st3, encS, hg.idx (i := q) (by rw [v.gl]; exact hq), bq, frzL]
        done)
      simp only [Int.ofNat_zero, Int.cast_ofNat_Int, K14] at st2
      exact st2
    · have ekk : kk = st.length := by omega
      subst ekk
      have hx : st[st.length]? = none := List.getElem?_eq_none (by omega)
      rw [bldN, hx]
      simp only []
      rw [brand_smallest.L12_eq]
      simp [X.hb, O.o, O.z, O.na.one, O.ng.one, K12]
      have e1 : st.take st.length = st := List.take_length
      have na : Nl (upd h z0 (some (AObj.cells [a, g]))) a (outR al rows k st st.length) lo nx0 := O.na.fr (fun y y1 _ _ => updNe (by omega)) (Nat.le_refl _)
      have ng : Nl (upd h z0 (some (AObj.cells [a, g]))) g (outG good st st.length) lo nx0 := O.ng.fr (fun y y1 _ _ => updNe (by omega)) (Nat.le_refl _)
      have hne : st ≠ [] := by intro e; rw [e] at hpos; simp at hpos
      have da := na.deep 4 (fun x hx => by
        simp only [outR, List.mem_map] at hx
        obtain ⟨q, _, rfl⟩ := hx
        simp [AM.deep, rowF, rowV_closed]) (na.nn (by simp [outR, hne]))
      have dg := ng.deep 4 (fun x hx => by
        simp only [outG, List.mem_map] at hx
        obtain ⟨q, _, rfl⟩ := hx
        simp [AM.deep]) (ng.nn (by simp [outG, hne]))
      simp [da, dg, resV, outR, outG]
      done
end Go.Proofs.Ythnpflkpjimkfaa

/-
  PLANS: the brand that is made. Conditions: none.
-/
namespace Go.Proofs.Ythnpflkpjimkfaa
open Go.AM
open Go.Proofs.Try (prog)
set_option linter.all false
set_option maxRecDepth 100000
set_option maxHeartbeats 8000000
theorem IsBy.closed {v : AV} {l : List Nat} (h : IsBy v l) : v.closed = true := by rcases h with ⟨rfl, _⟩ | ⟨_, rfl⟩ <;> rfl
theorem IsBy.one {v : AV} {l : List Nat} (h : IsBy v l) : v.one = true := by rcases h with ⟨rfl, _⟩ | ⟨_, rfl⟩ <;> rfl
theorem IsBy.len {v : AV} {l : List Nat} (h : IsBy v l) : lenSl v = some (.int .i64 l.length) := by rcases h with ⟨rfl, rfl⟩ | ⟨_, rfl⟩ <;> rfl
theorem IsBy.idx {v : AV} {l : List Nat} (h : IsBy v l) {i : Nat} (hi : i < l.length) (k : IntKind) : idxSl 1 v (.int k (i : Int)) = some (.fptr ((bytN l).drop i)) := by
  rcases h with ⟨rfl, rfl⟩ | ⟨_, rfl⟩
  · simp at hi
  · simp [hi]
def entP (l : List Nat) (n k q s a : Nat) : Nat := let w := if s * k + a < l.length then l.getD (s * k + a) 0 % n else 0; if 128 ≤ q then max w s else w
structure Ol (h : Nat → Option AObj) (o z0 : Nat) (a g : AV) (A G : List AV) (lo hi : Nat) : Prop where
  o : h o = some (.cells [a, g])
  z : h z0 = some (.cells [.nils, .nils])
  na : Nl h a A lo hi
  ng : Nl h g G lo hi
  dj : ∀ y, objId a = some y → objId g ≠ some y
end Go.Proofs.Ythnpflkpjimkfaa

/-
  PLANS: the brand is valid. Conditions: none.
-/
namespace Go.Proofs.Ythnpflkpjimkfaa
open Go.AM
open Go.Proofs.Try (prog)
set_option linter.all false
set_option maxRecDepth 100000
set_option maxHeartbeats 8000000
theorem VB.k0 {rows : List (List Int)} {good : List Bool} {k : Nat} (v : VB rows good k) : (cth rows 0).length = k := v.rl 0 v.n1
end Go.Proofs.Ythnpflkpjimkfaa

/-
  THE LEAST WORD THAT ONLY ONE OF TWO BRANDS ACCEPTS: the program's search. Conditions: none.
-/
namespace Go.Proofs.Ythnpflkpjimkfaa
open Go.AM
open Go.Proofs.Try (prog)
set_option linter.all false
set_option maxRecDepth 100000
set_option maxHeartbeats 8000000
def extL (w : List UInt8) (a : Nat) : List UInt8 := w ++ ltr a
end Go.Proofs.Ythnpflkpjimkfaa

/-
  THE STATES THAT WORDS REACH: the specification's list. Conditions: none.
-/
namespace Go.Proofs.Ythnpflkpjimkfaa
open Go.AM
open Go.Proofs.Try (prog)
set_option linter.all false
set_option maxRecDepth 100000
set_option maxHeartbeats 8000000
theorem Gl.deep {m : Mem} {v : AV} {id n : Nat} {xs : List AV} (g : Gl m v id 1 n xs) (d : Nat) (hd : ∀ x ∈ xs, AM.deep m.h d x = some x) : AM.deep m.h (d + 1) v = some (.fsl false n xs) := by
  obtain ⟨⟨pre, rfl, hm⟩, hn, hl⟩ := g
  have hn : xs.length = n := by omega
  have tk : xs.take n = xs := List.take_of_length_le (by omega)
  simp [AM.deep, hm, hn, tk, mapO_same xs hd]
theorem frz_56_63 (s : St) : frz1 s 3056063 = bif apart2 s 56 63 then some s else none := rfl
theorem frz_58 (s : St) : frz1 s 2000058 = bif nsl (s.get 58) then some s else none := rfl
structure Rc (m : Mem) (x4 x5 : AV) (i4 i5 : Nat) (S : List Nat × List (List UInt8)) : Prop where
  p : Gl m x4 i4 1 S.1.length (S.1.map encS)
  w : Gl m x5 i5 1 S.2.length (S.2.map .str)
  d1 : i4 ≠ i5
theorem re_k {x1 x4 x5 x6 x7 : AV} {s i4 : Nat} {S : List Nat} {m : Mem} (g : Gl m x4 i4 1 S.length (S.map encS)) (hl : S.length ≤ 1000) {K : List Item} : ∀ (c j : Nat) (b : Bool), j + c = S.length →
    r07_reached.L4 x1 x4 x5 x6 x7 (.int .i64 (s : Int)) (.bool b) (.int .i64 j) m K = r07_reached.L4 x1 x4 x5 x6 x7 (.int .i64 (s : Int)) (.bool (b || (S.drop j).any (· == s))) (.int .i64 S.length) m K := by
  intro c
  induction c with
  | zero =>
    intro j b h1
    have e : j = S.length := by omega
    subst e
    simp
  | succ c ih =>
    intro j b h1
    have hj : j < S.length := by omega
    have hwj : IntKind.wrap .i64 ((j : Int) + 1) = (j : Int) + 1 := wrap_id (by omega) (by omega)
    have ld := g.load1 hj
    have hidx := g.idx hj .i64
    have e1 : (S.map encS)[j]? = some (.int .i64 (S[j] : Int)) := by simp [hj, encS]
    rw [e1] at ld
    have hd := List.drop_eq_getElem_cons hj
    rw [hd, List.any_cons]
    have st := ih (j + 1) (b || (S[j] == s)) (by omega)
    simp only [Int.natCast_add, Int.cast_ofNat_Int] at st
    rw [← Bool.or_assoc, ← st, r07_reached.L4_eq]
    cases b with
    | true =>
      simp [g.len, hj, hwj]
      done
    | false =>
      by_cases q : S[j] = s
      · have q1 : ((S[j] : Int) == (s : Int)) = true := by simp [q]
        have q2 : (S[j] == s) = true := by simp [q]
        simp only [q2]
        simp [g.len, hj, hidx, ld, q, hwj]
        done
      · have q2 : (S[j] == s) = false := by simp [q]
        have q3 : ¬ (S[j] : Int) = (s : Int) := by omega
        simp only [q2]
        simp [g.len, hj, hidx, ld, q3, hwj]
        done
noncomputable def KR0 : List Item := [.code r07_reached.r15, .code .ret]
noncomputable def KR2 : List Item := .inBlock 1 :: .code r07_reached.r4 :: .inLoop r07_reached.l0 :: .inBlock 0 :: KR0
theorem re_in {nv gv : AV} {ps : List AV} {rows : List (List Int)} {good : List Bool} {k : Nat} (hn : IsRows nv ps rows) (v : VB rows good k) {i x : Nat} {w : List UInt8} (hx : x < rows.length) {r : Res} :
    ∀ (j a i4 i5 : Nat) (m : Mem) (x4 x5 : AV) (S : List Nat × List (List UInt8)), a + j = k → Rc m x4 x5 i4 i5 S → S.1[i]? = some x → S.2[i]? = some w → BOk (· < rows.length) List.length S →
    (∀ m' x4' x5' i4' i5', Rc m' x4' x5' i4' i5' (bIn (nx rows) extL x w j a S) →
      r07_reached.L0 (.fptr [nv, gv]) x4' x5' (.int .i64 ((i : Int) + 1)) m' KR0 = some r) →
    r07_reached.L2 (.fptr [nv, gv]) x4 x5 (.int .i64 i) (.int .i64 a) m KR2 = some r := by
  intro j
  have n6 := v.n6
  have i0 := hn.idx (i := 0) v.n1 .i64
  have j0 := hn.head (i := 0) v.n1
  have iw0 := hn.row 0 v.n1
  have r0 := v.rl 0 v.n1
  simp only [Int.ofNat_zero, Int.cast_ofNat_Int, List.drop_zero] at i0 j0
  induction j with
  | zero =>
    intro a i4 i5 m x4 x5 S h1 R hS1 hS2 hS hk
    have e : a = k := by omega
    subst e
    have hi := (List.getElem?_eq_some_iff.1 hS1).1
    have few := few6 n6 hS.nd hS.all
    have hwi : IntKind.wrap .i64 ((i : Int) + 1) = (i : Int) + 1 := wrap_id (by omega) (by omega)
    have hk := hk m x4 x5 i4 i5 R
    rw [r07_reached.L2_eq]
    simp [KR2, i0, j0, iw0.len, r0, hwi, hk]
    done
  | succ j ih =>
    intro a i4 i5 m x4 x5 S h1 R hS1 hS2 hS hk
    have ha : a < k := by omega
    have hi := (List.getElem?_eq_some_iff.1 hS1).1
    have hi2 := (List.getElem?_eq_some_iff.1 hS2).1
    have hwi : IntKind.wrap .i64 ((a : Int) + 1) = (a : Int) + 1 := wrap_id (by omega) (by have := v.k3; omega)
    have ha3 : a < 3 := by have := v.k3; omega
    have hlt := fun m => rletter_spec ha3 m
    have few := few6 n6 hS.nd hS.all
    obtain ⟨c1, c2⟩ := nx_lt v hx ha
    have b := v.rl x hx
    have iw1 := hn.row x hx
    have d1 := iw1.idx (i := a) (by omega) .i64
    have e1 := ints_head (l := cth rows x) (i := a) (by omega)
    rw [c2] at e1
    have R0 := R
    obtain ⟨R1, R2, n1⟩ := R
    have t4 := R1.lt
    have t5 := R2.lt
    have P1 : Gl ⟨m.h, m.nx + 13⟩ x4 i4 1 S.1.length (S.1.map encS) := R1.fr rfl (by show i4 < m.nx + 13; omega)
    have P2 : Gl ⟨m.h, m.nx + 13⟩ x5 i5 1 S.2.length (S.2.map .str) := R2.fr rfl (by show i5 < m.nx + 13; omega)
    have ldx := P1.load1 hi
    have hs1 : (S.1.map encS)[i]? = some (.int .i64 x) := by simp [hS1, encS]
    rw [hs1] at ldx
    have sk := fun (x1 x5 x6 x7 : AV) (K : List Item) => re_k (x1 := x1) (x5 := x5) (x6 := x6) (x7 := x7) (K := K) (s := nx rows x a) P1 (by omega) S.1.length 0 false (by omega)
    simp only [Int.ofNat_zero, Int.cast_ofNat_Int, List.drop_zero, Bool.false_or] at sk
    rw [bIn] at hk
    by_cases hc : nx rows x a ∈ S.1
    · rw [if_pos hc] at hk
      have hany : S.1.any (· == nx rows x a) = true := List.any_eq_true.2 ⟨_, hc, by simp⟩
      rw [hany] at sk
      have st := ih (a + 1) i4 i5 ⟨m.h, m.nx + 13⟩ x4 x5 S (by omega) ⟨P1, P2, n1⟩ hS1 hS2 hS hk
      simp only [Int.natCast_add, Int.cast_ofNat_Int] at st
      rw [r07_reached.L2_eq]
      simp [ha, i0, j0, iw0.len, r0, R1.idx hi, ldx, hn.idx hx, hn.head hx, d1, e1, sk]
      rw [r07_reached.L4_eq]
      simp [R1.len, hwi, st]
      done
    · rw [if_neg hc] at hk
      have hany : S.1.any (· == nx rows x a) = false := by
        rw [Bool.eq_false_iff]
        intro q
        obtain ⟨y, hy, e⟩ := List.any_eq_true.1 q
        simp at e
        exact hc (e ▸ hy)
      rw [hany] at sk
      have hq1 : Gl ⟨m.h, m.nx + 13 + 3⟩ x4 i4 1 S.1.length (S.1.map encS) := R1.fr rfl (by show i4 < m.nx + 13 + 3; omega)
      obtain ⟨y6, m3, j6, g1, g2, g3, g4, g5⟩ := hq1.app (by' := 8) (ys := [encS (nx rows x a)]) rfl (by simp; omega)
      simp only at g3 g4 g5
      have f7 : m3.h i5 = m.h i5 := g5 i5 (by omega) (fun e => n1 e.symm)
      have hw1 : Gl ⟨m3.h, m.nx + 13 + 16⟩ x5 i5 1 S.2.length (S.2.map .str) := R2.fr f7 (by show i5 < m.nx + 13 + 16; omega)
      have hw2 : Gl ⟨m3.h, m.nx + 13 + 13⟩ x5 i5 1 S.2.length (S.2.map .str) := R2.fr f7 (by show i5 < m.nx + 13 + 13; omega)
      obtain ⟨y7, m4, j7, u1, u2, u3, u4, u5⟩ := hw2.app (by' := 16) (ys := [.str (extL w a)]) rfl (by have := hS.len; simp; omega)
      simp only at u3 u4 u5
      have hj6 : j6 < m.nx + 13 + 13 := by rcases g4 with e | e <;> omega
      have hj67 : j6 ≠ i5 := by rcases g4 with e | e <;> omega
      have hwl : w.length ≤ 6 := by
        have h1 := hS.wl w (List.mem_of_getElem? hS2)
        have h2 := hS.len
        omega
      have hll : w.length + (ltr a).length ≤ 4611686018427387904 := by simp [ltr]; omega
      have R' : Rc ⟨m4.h, m.nx + 13 + 16⟩ y6 y7 j6 j7 (S.1 ++ [nx rows x a], S.2 ++ [extL w a]) := by
        refine ⟨?_, ?_, ?_⟩
        · show Gl _ _ _ _ ((S.1 ++ [nx rows x a]).length) ((S.1 ++ [nx rows x a]).map encS)
          rw [List.map_append, List.length_append]
          exact g2.fr (u5 j6 hj6 hj67) (by show j6 < m.nx + 13 + 16; omega)
        · show Gl _ _ _ _ ((S.2 ++ [extL w a]).length) ((S.2 ++ [extL w a]).map .str)
          rw [List.map_append, List.length_append]
          exact u2.fr rfl (by show j7 < m.nx + 13 + 16; rcases u4 with e | e <;> omega)
        · rcases u4 with e | e <;> omega
      have st := ih (a + 1) j6 j7 ⟨m4.h, m.nx + 13 + 16⟩ y6 y7 _ (by omega) R' (by rw [List.getElem?_append_left (by omega)]; exact hS1) (by rw [List.getElem?_append_left (by omega)]; exact hS2) (bok_add hS c1 hc (by
        have := hS.wl w (List.mem_of_getElem? hS2)
        simp [extL, ltr]; omega)) hk
      simp only [Int.natCast_add, Int.cast_ofNat_Int] at st
      simp only [encS] at g1
      simp only [extL] at u1
      have ld := hw1.load1 hi2
      have hs2 : (S.2.map AV.str)[i]? = some (.str w) := by simp [hS2]
      rw [hs2] at ld
      have o6 := R1.oid
      have o7 := R2.oidE 1 i
      have n1' : (i4 == i5) = false := beq_eq_false_iff_ne.2 n1
      rw [r07_reached.L2_eq]
      simp [ha, i0, j0, iw0.len, r0, R1.idx hi, ldx, hn.idx hx, hn.head hx, d1, e1, sk]
      rw [r07_reached.L4_eq]
      simp [R1.len, frz_56_63, frz_58, apart2, nsl, o6, o7, n1', frzL, hwi, hlt, hll, R1.one, g1, g2.one, R2.one, hw1.idx hi2, ld, u1, u2.one, st]
      done
def rchV (S : List Nat × List (List UInt8)) : AV := .tup [.fsl false S.1.length (S.1.map encS), .fsl false S.2.length (S.2.map .str)]
theorem re_out {nv gv : AV} {ps : List AV} {rows : List (List Int)} {good : List Bool} {k : Nat} (hn : IsRows nv ps rows) (v : VB rows good k) :
    ∀ (f i i4 i5 : Nat) (m : Mem) (x4 x5 : AV) (S : List Nat × List (List UInt8)), Rc m x4 x5 i4 i5 S → BOk (· < rows.length) List.length S → i ≤ S.1.length → rows.length < f + i →
    r07_reached.L0 (.fptr [nv, gv]) x4 x5 (.int .i64 i) m KR0 = some (rchV (bfsA (nx rows) extL k f i S), Mem.empty) := by
  intro f
  have n6 := v.n6
  induction f with
  | zero =>
    intro i i4 i5 m x4 x5 S R hS hi hf
    have := nodup_sub hS.nd (L := List.range rows.length) fun x hx => List.mem_range.2 (hS.all x hx)
    simp at this
    omega
  | succ f ih =>
    intro i i4 i5 m x4 x5 S R hS hi hf
    by_cases c : i < S.1.length
    · have hx := List.getElem?_eq_getElem c
      have c2 : i < S.2.length := by rw [← hS.len]; exact c
      have hw := List.getElem?_eq_getElem c2
      generalize S.1[i] = x at hx
      generalize S.2[i] = w at hw
      have hxn : x < rows.length := hS.all x (List.mem_of_getElem? hx)
      rw [bfsA, hx, hw]
      simp only []
      have st := re_in (gv := gv) hn v (i := i) (x := x) (w := w) hxn k 0 i4 i5 m x4 x5 S (by omega) R hx hw hS (fun m' x4' x5' i4' i5' R' => by
        obtain ⟨p', q'', e1, e2⟩ := bIn_pre (nx rows) extL x w k 0 S
        have hS' := bIn_ok (nx rows) extL (ok := (· < rows.length)) (ln := List.length) (k := k) (fun y a hy ha => (nx_lt v hy ha).1) (fun w a => by simp [extL, ltr]) x w hxn k 0 S (by omega) hS (hS.wl w (List.mem_of_getElem? hw))
        have hlen : i < (bIn (nx rows) extL x w k 0 S).1.length := by rw [e1]; simp; omega
        exact ih (i + 1) i4' i5' m' x4' x5' _ R' hS' (by omega) (by omega))
      simp only [Int.ofNat_zero, Int.cast_ofNat_Int] at st
      rw [r07_reached.L0_eq]
      simp [R.p.len, c]
      exact st
    · have hx : S.1[i]? = none := List.getElem?_eq_none (by omega)
      have d1 := R.p.deep 4 (fun x hx => by
        simp only [List.mem_map] at hx
        obtain ⟨q, _, rfl⟩ := hx
        rfl)
      have d2 := R.w.deep 4 (fun x hx => by
        simp only [List.mem_map] at hx
        obtain ⟨q, _, rfl⟩ := hx
        rfl)
      rw [bfsA, hx, r07_reached.L0_eq]
      simp [R.p.len, c, KR0, d1, d2, rchV]
      done
def rchS (rows : List (List Int)) (k : Nat) : List Nat × List (List UInt8) := bfsA (nx rows) extL k (rows.length + 1) 0 ([0], [[]])
theorem reached_spec {nv gv : AV} {ps : List AV} {rows : List (List Int)} {good : List Bool} {k : Nat} (hn : IsRows nv ps rows) (hg : IsB gv good) (v : VB rows good k) (m : Mem) :
    denC prog ann 66 [.agg [nv, gv]] m = some (rchV (rchS rows k), m) := by
  have n1 := v.n1
  rw [r07_reached.call_eq _ _ (by simp [hn.closed, hg.closed])]
  have st := re_out (gv := gv) hn v (rows.length + 1) 0 0 1 ⟨upd (upd Mem.empty.h 0 (some (.cells [.int .i64 0]))) 1 (some (.cells [.str []])), 2⟩ (.sl 0 1 0 1 1) (.sl 1 1 0 1 1) ([0], [[]]) ⟨⟨⟨[], rfl, by simp [encS]⟩, rfl, by show 0 < 2; omega⟩, ⟨⟨[], rfl, by simp⟩, rfl, by show 1 < 2; omega⟩, by omega⟩ ⟨by simp, by intro x hx; simp at hx; omega, rfl, by simp⟩ (by simp) (by omega)
  simp only [Int.ofNat_zero, Int.cast_ofNat_Int, KR0] at st
  simp [hn.one, hg.one, hn.closed, hg.closed]
  rw [st]
  rfl
end Go.Proofs.Ythnpflkpjimkfaa

/-
  ALIKE STATES: the specification's rounds. Conditions: none.
-/
namespace Go.Proofs.Ythnpflkpjimkfaa
open Go.AM
open Go.Proofs.Try (prog)
set_option linter.all false
set_option maxRecDepth 100000
set_option maxHeartbeats 8000000
theorem Bt.addb {h h' : Nat → Option AObj} {d : Nat} {ids : List Nat} {D : MB} {n : Nat} (b : Bt h d ids D n 0) {x : Nat} {row : List Bool} (hx : x ≠ d) (hx' : x ∉ ids) (hr : row.length = n) (e1 : h' d = some (.cells (ids.map (fun r => AV.sl r 1 0 n n) ++ [.sl x 1 0 n n]))) (e2 : h' x = some (.cells (bls row))) (e3 : ∀ y ∈ ids, h' y = h y) : Bt h' d (ids ++ [x]) (D ++ [row]) n 0 := by
  have b1 : Bt (upd h d (some (.cells (ids.map (fun r => AV.sl r 1 0 n n) ++ List.replicate 1 .nils)))) d ids D n 1 := ⟨by simp, b.l, b.nd, b.nd', fun i hi => by rw [updNe (fun e => b.nd' (by rw [← e]; exact b.rm hi)), b.r i hi], b.rl⟩
  refine b1.add hx hx' hr ?_ e2 (fun y hy => by rw [e3 y hy, updNe (fun e => b.nd' (by rw [← e]; exact hy))])
  have hl := b.l
  rw [e1, List.set_append_right _ _ (by simp [hl])]
  simp [hl]
noncomputable def KL4 : List Item := [.code r07_alike.r25, .code .ret]
noncomputable def KL6 : List Item := .inBlock 5 :: .code r07_alike.r14 :: .inLoop r07_alike.l4 :: .inBlock 4 :: KL4
noncomputable def KL8 : List Item := .inBlock 7 :: .code r07_alike.r17 :: .inLoop r07_alike.l6 :: .inBlock 6 :: KL6
noncomputable def KL10 : List Item := .inBlock 9 :: .code r07_alike.r20 :: .inLoop r07_alike.l8 :: .inBlock 8 :: KL8
theorem lkA_succ (rows : List (List Int)) (i j c a : Nat) (P : MB) : lkA rows i j (c + 1) a P = lkA rows i j c (a + 1) (mkL rows i j P a) := by rw [lkA, List.range'_succ, List.foldl_cons, lkA]
theorem lkJ_succ (rows : List (List Int)) (k i c j : Nat) (P : MB) : lkJ rows k i (c + 1) j P = lkJ rows k i c (j + 1) (lkA rows i j k 0 P) := by rw [lkJ, List.range'_succ, List.foldl_cons, lkJ]
theorem lkI_succ (rows : List (List Int)) (k n c i : Nat) (P : MB) : lkI rows k n (c + 1) i P = lkI rows k n c (i + 1) (lkJ rows k i n 0 P) := by rw [lkI, List.range'_succ, List.foldl_cons, lkI]
theorem lkR_succ (rows : List (List Int)) (k n c i : Nat) (P : MB) : lkR rows k n (c + 1) i P = lkR rows k n c (i + 1) (lkI rows k n n 0 P) := by rw [lkR, List.range'_succ, List.foldl_cons, lkR]
theorem lk_a {nv gv : AV} {ps : List AV} {rows : List (List Int)} {good : List Bool} {k : Nat} (hn : IsRows nv ps rows) (v : VB rows good k) {d r0 : Nat} {ids : List Nat} {i j : Nat} (hi : i < rows.length) (hj : j < rows.length) {r : Res} :
    ∀ (c a : Nat) (h : Nat → Option AObj) (nx0 : Nat) (P : MB), a + c = k → Bt h d ids P rows.length 0 → P.length = rows.length →
    (∀ h' nx', Bt h' d ids (lkA rows i j c a P) rows.length 0 → (lkA rows i j c a P).length = rows.length →
      r07_alike.L8 (.fptr [nv, gv]) (.int .i64 rows.length) (.sl d 1 0 rows.length rows.length) (.int .i64 r0) (.int .i64 i) (.int .i64 ((j : Int) + 1)) ⟨h', nx'⟩ KL8 = some r) →
    r07_alike.L10 (.fptr [nv, gv]) (.int .i64 rows.length) (.sl d 1 0 rows.length rows.length) (.int .i64 r0) (.int .i64 i) (.int .i64 j) (.int .i64 a) ⟨h, nx0⟩ KL10 = some r := by
  intro c
  have n6 := v.n6
  have k3 := v.k3
  have iw1 := hn.row i hi
  have b := v.rl i hi
  induction c with
  | zero =>
    intro a h nx0 P h1 B hl hk
    have e : a = k := by omega
    subst e
    have hwj : IntKind.wrap .i64 ((j : Int) + 1) = (j : Int) + 1 := wrap_id (by omega) (by omega)
    have hk := hk h nx0 B hl
    rw [r07_alike.L10_eq]
    simp [KL10, hwj, hn.idx hi, hn.head hi, iw1.len, b]
    exact hk
  | succ c ih =>
    intro a h nx0 P h1 B hl hk
    have ha : a < k := by omega
    have hwa : IntKind.wrap .i64 ((a : Int) + 1) = (a : Int) + 1 := wrap_id (by omega) (by omega)
    obtain ⟨c1, c2⟩ := nx_lt v hi ha
    obtain ⟨c1', c2'⟩ := nx_lt v hj ha
    have b' := v.rl j hj
    have iw2 := hn.row j hj
    have d1 := iw1.idx (i := a) (by omega) .i64
    have d2 := iw2.idx (i := a) (by omega) .i64
    have e1 := ints_head (l := cth rows i) (i := a) (by omega)
    have e2 := ints_head (l := cth rows j) (i := a) (by omega)
    rw [c2] at e1
    rw [c2'] at e2
    have l1 := fun n' => B.ld0 (i := i) (by omega) n'
    have l2 := fun n' => B.get (i := i) (j := j) (by omega) hj n'
    have l3 := fun n' => B.ld0 (i := nx rows i a) (by omega) n'
    have l4 := fun n' => B.get (i := nx rows i a) (j := nx rows j a) (by omega) c1' n'
    rw [hl] at l1 l3
    rw [lkA_succ] at hk
    obtain ⟨p1, p2⟩ := B.put (i := i) (j := j) (by omega) hj (mth P i j && mth P (nx rows i a) (nx rows j a)) (nx0 + 36)
    have st := ih (a + 1) _ (nx0 + 37) (setM P i j (mth P i j && mth P (nx rows i a) (nx rows j a))) (by omega) p2 (by simpa [setM] using hl) (fun h' nx' g1 g2 => hk h' nx' g1 g2)
    simp only [Int.natCast_add, Int.cast_ofNat_Int] at st
    rcases q : mth P i j with _ | _
    · rw [q] at l2 p1 st
      simp only [Bool.false_and] at p1 st
      rw [r07_alike.L10_eq]
      simp [ha, hi, hj, l1, l2, hn.idx hi, hn.head hi, iw1.len, b, hwa, p1, -stA_ptr, st]
      done
    · rw [q] at l2 p1 st
      simp only [Bool.true_and] at p1 st
      rw [r07_alike.L10_eq]
      simp [ha, hi, hj, l1, l2, l3, l4, hn.idx hi, hn.head hi, iw1.len, b, hn.idx hj, hn.head hj, d1, d2, e1, e2, c1, c1', hwa, p1, -stA_ptr, st]
      done
theorem lk_j {nv gv : AV} {ps : List AV} {rows : List (List Int)} {good : List Bool} {k : Nat} (hn : IsRows nv ps rows) (v : VB rows good k) {d r0 : Nat} {ids : List Nat} {i : Nat} (hi : i < rows.length) {r : Res} :
    ∀ (c j : Nat) (h : Nat → Option AObj) (nx0 : Nat) (P : MB), j + c = rows.length → Bt h d ids P rows.length 0 → P.length = rows.length →
    (∀ h' nx', Bt h' d ids (lkJ rows k i c j P) rows.length 0 → (lkJ rows k i c j P).length = rows.length →
      r07_alike.L6 (.fptr [nv, gv]) (.int .i64 rows.length) (.sl d 1 0 rows.length rows.length) (.int .i64 r0) (.int .i64 ((i : Int) + 1)) ⟨h', nx'⟩ KL6 = some r) →
    r07_alike.L8 (.fptr [nv, gv]) (.int .i64 rows.length) (.sl d 1 0 rows.length rows.length) (.int .i64 r0) (.int .i64 i) (.int .i64 j) ⟨h, nx0⟩ KL8 = some r := by
  intro c
  have n6 := v.n6
  induction c with
  | zero =>
    intro j h nx0 P h1 B hl hk
    have e : j = rows.length := by omega
    subst e
    have hwi : IntKind.wrap .i64 ((i : Int) + 1) = (i : Int) + 1 := wrap_id (by omega) (by omega)
    have hk := hk h nx0 B hl
    rw [r07_alike.L8_eq]
    simp [KL8, hwi]
    exact hk
  | succ c ih =>
    intro j h nx0 P h1 B hl hk
    have hj : j < rows.length := by omega
    rw [lkJ_succ] at hk
    have st := lk_a (gv := gv) (r0 := r0) hn v hi hj (r := r) k 0 h nx0 P (by omega) B hl (fun h' nx' g1 g2 => by
      have := ih (j + 1) h' nx' _ (by omega) g1 g2 (fun h'' nx'' f1 f2 => hk h'' nx'' f1 f2)
      simp only [Int.natCast_add, Int.cast_ofNat_Int] at this
      exact this)
    simp only [Int.ofNat_zero, Int.cast_ofNat_Int] at st
    rw [r07_alike.L8_eq]
    simp [hj]
    exact st
theorem lk_i {nv gv : AV} {ps : List AV} {rows : List (List Int)} {good : List Bool} {k : Nat} (hn : IsRows nv ps rows) (v : VB rows good k) {d r0 : Nat} {ids : List Nat} (hr0 : r0 < 100) {r : Res} :
    ∀ (c i : Nat) (h : Nat → Option AObj) (nx0 : Nat) (P : MB), i + c = rows.length → Bt h d ids P rows.length 0 → P.length = rows.length →
    (∀ h' nx', Bt h' d ids (lkI rows k rows.length c i P) rows.length 0 → (lkI rows k rows.length c i P).length = rows.length →
      r07_alike.L4 (.fptr [nv, gv]) (.int .i64 rows.length) (.sl d 1 0 rows.length rows.length) (.int .i64 ((r0 : Int) + 1)) ⟨h', nx'⟩ KL4 = some r) →
    r07_alike.L6 (.fptr [nv, gv]) (.int .i64 rows.length) (.sl d 1 0 rows.length rows.length) (.int .i64 r0) (.int .i64 i) ⟨h, nx0⟩ KL6 = some r := by
  intro c
  have n6 := v.n6
  induction c with
  | zero =>
    intro i h nx0 P h1 B hl hk
    have e : i = rows.length := by omega
    subst e
    have hwi : IntKind.wrap .i64 ((r0 : Int) + 1) = (r0 : Int) + 1 := wrap_id (by omega) (by omega)
    have hk := hk h nx0 B hl
    rw [r07_alike.L6_eq]
    simp [KL6, hwi]
    exact hk
  | succ c ih =>
    intro i h nx0 P h1 B hl hk
    have hi : i < rows.length := by omega
    rw [lkI_succ] at hk
    have st := lk_j (gv := gv) (r0 := r0) hn v hi (r := r) rows.length 0 h nx0 P (by omega) B hl (fun h' nx' g1 g2 => by
      have := ih (i + 1) h' nx' _ (by omega) g1 g2 (fun h'' nx'' f1 f2 => hk h'' nx'' f1 f2)
      simp only [Int.natCast_add, Int.cast_ofNat_Int] at this
      exact this)
    simp only [Int.ofNat_zero, Int.cast_ofNat_Int] at st
    rw [r07_alike.L6_eq]
    simp [hi]
    exact st
def mbV (n : Nat) (L : MB) : AV := .fsl false L.length (L.map fun r => .fsl false n (bls r))
theorem bls_deep (h : Nat → Option AObj) (d : Nat) (l : List Bool) : mapO (AM.deep h (d + 1)) (bls l) = some (bls l) := mapO_same _ (fun x hx => by
  simp only [bls, List.mem_map] at hx
  obtain ⟨b, _, rfl⟩ := hx
  rfl)
theorem Bt.deep {h : Nat → Option AObj} {d : Nat} {ids : List Nat} {D : MB} {n : Nat} (B : Bt h d ids D n 0) (e : Nat) : AM.deep h (e + 3) (.sl d 1 0 D.length D.length) = some (mbV n D) := by
  have h1 : mapO (AM.deep h (e + 2)) (ids.map fun r => AV.sl r 1 0 n n) = some (D.map fun r => .fsl false n (bls r)) := by
    have key : ∀ (l : List Nat) (L : MB), l.length = L.length → (∀ i, i < L.length → h (rid l i) = some (.cells (bls (brw L i)))) → (∀ i, i < L.length → (brw L i).length = n) → mapO (AM.deep h (e + 2)) (l.map fun r => AV.sl r 1 0 n n) = some (L.map fun r => .fsl false n (bls r)) := by
      intro l
      induction l with
      | nil => intro L hl _ _; cases L with
        | nil => rfl
        | cons _ _ => simp at hl
      | cons x l ih =>
        intro L hl h1 h2
        cases L with
        | nil => simp at hl
        | cons row L =>
          have a1 := h1 0 (by simp)
          have a2 := h2 0 (by simp)
          simp [rid, brw] at a1 a2
          have ih := ih L (by simpa using hl) (fun i hi => h1 (i + 1) (by simpa using hi)) (fun i hi => h2 (i + 1) (by simpa using hi))
          simp only [List.map_cons, mapO, ih]
          have tk : (bls row).take n = bls row := List.take_of_length_le (by simp [a2])
          simp [AM.deep, a1, a2, bls_deep, tk, mapO_same]
    exact key ids D B.l B.r B.rl
  have hl : (ids.map fun r => AV.sl r 1 0 n n).length = D.length := by simp [B.l]
  have ho := B.o
  simp only [List.replicate_zero, List.append_nil] at ho
  have tk : (ids.map fun r => AV.sl r 1 0 n n).take D.length = ids.map fun r => AV.sl r 1 0 n n := List.take_of_length_le (by omega)
  have hi := B.l
  simp only [AM.deep, ho]
  simp [hi, tk, h1, mbV, List.take_of_length_le]
theorem lk_w {nv gv : AV} {ps : List AV} {rows : List (List Int)} {good : List Bool} {k : Nat} (hn : IsRows nv ps rows) (v : VB rows good k) {d : Nat} {ids : List Nat} :
    ∀ (c r0 : Nat) (h : Nat → Option AObj) (nx0 : Nat) (P : MB), r0 + c = rows.length * rows.length → Bt h d ids P rows.length 0 → P.length = rows.length →
    r07_alike.L4 (.fptr [nv, gv]) (.int .i64 rows.length) (.sl d 1 0 rows.length rows.length) (.int .i64 r0) ⟨h, nx0⟩ KL4 = some (mbV rows.length (lkR rows k rows.length c r0 P), Mem.empty) := by
  intro c
  have n6 := v.n6
  have nn : rows.length * rows.length ≤ 36 := Nat.mul_le_mul n6 n6
  have hww : IntKind.wrap .i64 ((rows.length : Int) * rows.length) = ((rows.length * rows.length : Nat) : Int) := by
    rw [← Int.natCast_mul]; exact wrap_id (by omega) (by omega)
  generalize rows.length * rows.length = N at *
  induction c with
  | zero =>
    intro r0 h nx0 P h1 B hl
    have e : r0 = N := by omega
    subst e
    have hd := B.deep 3
    rw [hl] at hd
    have e0 : lkR rows k rows.length 0 r0 P = P := rfl
    rw [e0, r07_alike.L4_eq]
    simp [KL4, hww, hd]
    done
  | succ c ih =>
    intro r0 h nx0 P h1 B hl
    have hr : r0 < N := by omega
    rw [lkR_succ]
    have st := lk_i (gv := gv) (r0 := r0) hn v (by omega) (r := (mbV rows.length (lkR rows k rows.length c (r0 + 1) (lkI rows k rows.length rows.length 0 P)), Mem.empty)) rows.length 0 h nx0 P (by omega) B hl (fun h' nx' g1 g2 => by
      have := ih (r0 + 1) h' nx' _ (by omega) g1 g2
      simp only [Int.natCast_add, Int.cast_ofNat_Int] at this
      exact this)
    simp only [Int.ofNat_zero, Int.cast_ofNat_Int] at st
    rw [r07_alike.L4_eq]
    simp [hww, hr]
    exact st
end Go.Proofs.Ythnpflkpjimkfaa

/-
  ALIKE STATES: the specification's first answers, and what it returns. Conditions: none.
-/
namespace Go.Proofs.Ythnpflkpjimkfaa
open Go.AM
open Go.Proofs.Try (prog)
set_option linter.all false
set_option maxRecDepth 100000
set_option maxHeartbeats 8000000
noncomputable def KL0 : List Item := [.code r07_alike.r12, .code r07_alike.k4, .code r07_alike.r25, .code .ret]
noncomputable def KL2 : List Item := .code r07_alike.r11 :: .inBlock 1 :: .code r07_alike.r5 :: .inLoop r07_alike.l0 :: .inBlock 0 :: KL0
theorem lk_f {nv gv : AV} {good : List Bool} {n : Nat} (hg : IsB gv good) (hgn : good.length = n) (n6 : n ≤ 6) {s d : Nat} {ids : List Nat} {D : MB} (hs : s < n) (hDs : D.length = s) {r : Res} :
    ∀ (c j : Nat) (h : Nat → Option AObj) (nx0 R : Nat) (row : List Bool), j + c = n → row.length = j → Bt h d ids D n 0 → h R = some (.cells (bls row)) → R ≠ d → R ∉ ids → R < nx0 → d < nx0 → (∀ y ∈ ids, y < nx0) →
    (∀ h' nx', Bt h' d (ids ++ [R]) (D ++ [row ++ (List.range' j c).map fun j => (bnth good s == bnth good j)]) n 0 → nx0 ≤ nx' →
      r07_alike.L0 (.fptr [nv, gv]) (.int .i64 n) (.sl d 1 0 (s + 1) (s + 1)) (.int .i64 ((s : Int) + 1)) ⟨h', nx'⟩ KL0 = some r) →
    r07_alike.L2 (.fptr [nv, gv]) (.int .i64 n) (.sl d 1 0 s s) (.int .i64 s) (.sl R 1 0 j j) (.int .i64 j) ⟨h, nx0⟩ KL2 = some r := by
  intro c
  induction c with
  | zero =>
    intro j h nx0 R row h1 hrl B hR hRd hRi hRn hdn hin hk
    have ej : j = n := by omega
    subst ej
    have hws : IntKind.wrap .i64 ((s : Int) + 1) = (s : Int) + 1 := wrap_id (by omega) (by omega)
    have hil : ids.length = s := by rw [B.l, hDs]
    have ho := B.o
    simp only [List.replicate_zero, List.append_nil] at ho
    have hdne : (d == nx0) = false := beq_eq_false_iff_ne.2 (by omega)
    have B2 := B.addb (h' := upd (upd h nx0 (some (.cells [.sl R 1 0 j j]))) d (some (.cells (ids.map (fun r => AV.sl r 1 0 j j) ++ [.sl R 1 0 j j])))) (x := R) (row := row) hRd hRi hrl (by simp) (by rw [updNe hRd, updNe (by omega), hR]) (fun y hy => by
      have := hin y hy
      rw [updNe (fun e => B.nd' (by rw [← e]; exact hy)), updNe (by omega)])
    have hk := hk _ (nx0 + 1) (by simpa using B2) (by omega)
    rw [r07_alike.L2_eq]
    simp [KL2, hws, ho, hil, hdne, show s ≤ 4611686018427387903 by omega, show (s + 1) * 24 ≤ 70368744177664 by omega]
    exact hk
  | succ c ih =>
    intro j h nx0 R row h1 hrl B hR hRd hRi hRn hdn hin hk
    have hj : j < n := by omega
    have hwj : IntKind.wrap .i64 ((j : Int) + 1) = (j : Int) + 1 := wrap_id (by omega) (by omega)
    have b1 := bls_head (bs := good) (i := s) (by omega)
    have b2 := bls_head (bs := good) (i := j) (by omega)
    have erow : bls row ++ [.bool (bnth good s == bnth good j)] = bls (row ++ [bnth good s == bnth good j]) := by simp [bls]
    have B2 : Bt (upd h R (some (.cells (bls (row ++ [bnth good s == bnth good j]))))) d ids D n 0 := B.fr (updNe hRd.symm) (fun y hy => updNe (fun e => hRi (e ▸ hy)))
    rw [List.range'_succ, List.map_cons] at hk
    have st := ih (j + 1) (upd h R (some (.cells (bls (row ++ [bnth good s == bnth good j]))))) (nx0 + 15) R (row ++ [bnth good s == bnth good j]) (by omega) (by simp [hrl]) B2 (by simp) hRd hRi (by omega) (by omega) (fun y hy => by have := hin y hy; omega) (fun h' nx' g1 g2 => hk h' nx' (by rw [List.append_assoc] at g1; exact g1) (by omega))
    simp only [Int.natCast_add, Int.cast_ofNat_Int] at st
    rw [r07_alike.L2_eq]
    simp [hj, hs, hg.idx (i := s) (by omega), hg.idx (i := j) (by omega), b1, b2, hwj, hR, hrl, show j ≤ 4611686018427387903 by omega, show (j + 1) ≤ 70368744177664 by omega, erow, st]
    done
theorem lk_d {nv gv : AV} {ps : List AV} {rows : List (List Int)} {good : List Bool} {k : Nat} (hn : IsRows nv ps rows) (v : VB rows good k) (hg : IsB gv good) {d : Nat} :
    ∀ (c i : Nat) (h : Nat → Option AObj) (nx0 : Nat) (ids : List Nat), i + c = rows.length → Bt h d ids ((List.range i).map fun i => (List.range rows.length).map fun j => (bnth good i == bnth good j)) rows.length 0 → d < nx0 → (∀ y ∈ ids, y < nx0) →
    r07_alike.L0 (.fptr [nv, gv]) (.int .i64 rows.length) (.sl d 1 0 i i) (.int .i64 i) ⟨h, nx0⟩ KL0 = some (mbV rows.length (lkR rows k rows.length (rows.length * rows.length) 0 (L0m good rows.length)), Mem.empty) := by
  intro c
  have n6 := v.n6
  induction c with
  | zero =>
    intro i h nx0 ids h1 B hd hids
    have e : i = rows.length := by omega
    subst e
    have st := lk_w (gv := gv) hn v (rows.length * rows.length) 0 h nx0 _ (by omega) B (by simp)
    simp only [Int.ofNat_zero, Int.cast_ofNat_Int] at st
    rw [r07_alike.L0_eq]
    simp [KL0]
    exact st
  | succ c ih =>
    intro i h nx0 ids h1 B hd hids
    have hi : i < rows.length := by omega
    have B2 : Bt (upd h nx0 (some (.cells []))) d ids ((List.range i).map fun i => (List.range rows.length).map fun j => (bnth good i == bnth good j)) rows.length 0 := B.fr (updNe (by omega)) (fun y hy => updNe (by have := hids y hy; omega))
    have st := lk_f (gv := gv) (nv := nv) (s := i) (d := d) (ids := ids) hg v.gl n6 hi (by simp) (r := (mbV rows.length (lkR rows k rows.length (rows.length * rows.length) 0 (L0m good rows.length)), Mem.empty)) rows.length 0 (upd h nx0 (some (.cells []))) (nx0 + 1) nx0 [] (by omega) rfl B2 (by simp [bls]) (by omega) (fun e => by have := hids _ e; omega) (by omega) (by omega) (fun y hy => by have := hids y hy; omega) (fun h' nx' g1 g2 => by
      have e1 : ((List.range i).map fun i => (List.range rows.length).map fun j => (bnth good i == bnth good j)) ++ [[] ++ (List.range' 0 rows.length).map fun j => (bnth good i == bnth good j)] = (List.range (i + 1)).map fun i => (List.range rows.length).map fun j => (bnth good i == bnth good j) := by rw [List.range_succ, List.map_append, ← List.range_eq_range']; rfl
      rw [e1] at g1
      have := ih (i + 1) h' nx' (ids ++ [nx0]) (by omega) g1 (by omega) (fun y hy => by
        rcases List.mem_append.1 hy with hy | hy
        · have := hids y hy; omega
        · simp at hy; omega)
      simp only [Int.natCast_add, Int.cast_ofNat_Int] at this
      exact this)
    simp only [Int.ofNat_zero, Int.cast_ofNat_Int] at st
    rw [r07_alike.L0_eq]
    simp [hi]
    exact st
theorem alike_spec {nv gv : AV} {ps : List AV} {rows : List (List Int)} {good : List Bool} {k : Nat} (hn : IsRows nv ps rows) (hg : IsB gv good) (v : VB rows good k) (m : Mem) :
    denC prog ann 67 [.agg [nv, gv]] m = some (mbV rows.length (lkR rows k rows.length (rows.length * rows.length) 0 (L0m good rows.length)), m) := by
  rw [r07_alike.call_eq _ _ (by simp [hn.closed, hg.closed])]
  have B0 : Bt (upd Mem.empty.h 0 (some (.cells []))) 0 [] ((List.range 0).map fun i => (List.range rows.length).map fun j => (bnth good i == bnth good j)) rows.length 0 := ⟨by simp, rfl, by simp, by simp, by simp, by simp⟩
  have st := lk_d (gv := gv) (nv := nv) hn v hg (d := 0) rows.length 0 (upd Mem.empty.h 0 (some (.cells []))) 1 [] (by omega) B0 (by omega) (by simp)
  simp only [Int.ofNat_zero, Int.cast_ofNat_Int, KL0] at st
  simp [hn.one, hg.one, hn.closed, hg.closed, hn.len]
  rw [st]
  rfl
end Go.Proofs.Ythnpflkpjimkfaa

/-
  THE SMALLEST FORM: the specification numbers states. Conditions: none.
-/
namespace Go.Proofs.Ythnpflkpjimkfaa
open Go.AM
open Go.Proofs.Try (prog)
set_option linter.all false
set_option maxRecDepth 100000
set_option maxHeartbeats 8000000
def lastI (p : Nat → Bool) : List Nat → Nat → Int → Int
  | [], _, v => v
  | t :: l, j, v => lastI p l (j + 1) (if p t = true then (j : Int) else v)
theorem lastI_none {p : Nat → Bool} : ∀ {l : List Nat} {j : Nat} {v : Int}, (∀ t ∈ l, p t = false) → lastI p l j v = v
  | [], _, _, _ => rfl
  | t :: l, j, v, h => by
    rw [lastI, h t (by simp)]
    exact lastI_none fun u hu => h u (by simp [hu])
section
variable {al : Nat → Nat → Bool} {nxt : Nat → Nat → Nat} {k n : Nat}
theorem lastI_eq (L : Lik al nxt k n) {s : Nat} (hs : s < n) : ∀ {F : List Nat} {j : Nat} {v : Int}, F.Pairwise (fun t u => al u t = false) → (∀ t ∈ F, t < n) → lastI (al s) F j v = if F.any (al s) = true then ((j + idxA al F s : Nat) : Int) else v
  | [], j, v, _, _ => rfl
  | t :: F, j, v, hp, hF => by
    rw [List.pairwise_cons] at hp
    have ht := hF t (by simp)
    rw [lastI, List.any_cons, idxA, List.findIdx_cons]
    cases e : al s t with
    | true =>
      have : ∀ u ∈ F, al s u = false := fun u hu => by
        rcases q : al s u with _ | _
        · rfl
        · have hu' := hF u (by simp [hu])
          have := L.tr u s t hu' hs ht (L.sy s u hs hu' q) e
          rw [hp.1 u hu] at this
          cases this
      rw [if_pos rfl, lastI_none this]
      simp
    | false =>
      rw [if_neg (by simp), lastI_eq L hs hp.2 (fun u hu => hF u (by simp [hu]))]
      simp [idxA]
      by_cases q : ∃ x ∈ F, al s x = true
      · rw [if_pos q, if_pos q]; omega
      · rw [if_neg q, if_neg q]
theorem ded_pw : ∀ (R P : List Nat), P.Pairwise (fun t u => al u t = false) → (R.foldl (fun P s => numS al s P) P).Pairwise (fun t u => al u t = false)
  | [], P, h => h
  | r :: R, P, h => by
    refine ded_pw R (numS al r P) ?_
    rw [numS]
    split
    · exact h
    · rename_i c
      rw [List.pairwise_append]
      refine ⟨h, by simp, ?_⟩
      intro t ht u hu
      simp at hu
      subst hu
      rcases q : al u t with _ | _
      · rfl
      · exact absurd (List.any_eq_true.2 ⟨t, ht, q⟩) c
theorem ded_take_succ {R : List Nat} {i q : Nat} (h : R[i]? = some q) : ded al (R.take (i + 1)) = numS al q (ded al (R.take i)) := by
  rw [List.take_add_one, h]
  show ded al (R.take i ++ [q]) = _
  rw [ded_app]; rfl
variable {β : Type} {ext : β → Nat → β}
theorem bfsA_ok (L : Lik al nxt k n) {ln : β → Nat} (hex : ∀ w a, ln (ext w a) ≤ ln w + 1) : ∀ (f i : Nat) (S : List Nat × List β), BOk (· < n) ln S → i ≤ S.1.length → n < f + i → (∀ s ∈ S.1.take i, ∀ a, a < k → nxt s a ∈ S.1) →
    BOk (· < n) ln (bfsA nxt ext k f i S) ∧ ∀ s ∈ (bfsA nxt ext k f i S).1, ∀ a, a < k → nxt s a ∈ (bfsA nxt ext k f i S).1 := by
  intro f
  induction f with
  | zero =>
    intro i S hS hi hf
    have := nodup_sub hS.nd (L := List.range n) fun x hx => List.mem_range.2 (hS.all x hx)
    simp at this
    omega
  | succ f ih =>
    intro i S hS hi hf hcl
    by_cases c : i < S.1.length
    · have hx := List.getElem?_eq_getElem c
      have c2 : i < S.2.length := by rw [← hS.len]; exact c
      have hw := List.getElem?_eq_getElem c2
      generalize S.1[i] = q at hx
      generalize S.2[i] = w at hw
      have hq : q < n := hS.all q (List.mem_of_getElem? hx)
      rw [bfsA, hx, hw]
      simp only []
      have hS' := bIn_ok nxt ext (ok := (· < n)) (ln := ln) (k := k) (fun x a hx ha => L.cl x a hx ha) hex q w hq k 0 S (by omega) hS (hS.wl w (List.mem_of_getElem? hw))
      obtain ⟨p, p', e1, e2⟩ := bIn_pre nxt ext q w k 0 S
      refine ih (i + 1) _ hS' (by rw [e1]; simp; omega) (by omega) ?_
      have ht : (bIn nxt ext q w k 0 S).1.take (i + 1) = S.1.take i ++ [q] := by rw [e1, List.take_append_of_le_length (by omega), List.take_add_one, hx]; rfl
      rw [ht]
      intro s hs a ha
      rcases List.mem_append.1 hs with hs | hs
      · rw [e1]; exact List.mem_append_left _ (hcl s hs a ha)
      · simp at hs
        subst hs
        exact bIn_has s w k 0 S a (by omega) (by omega)
    · have hx : S.1[i]? = none := List.getElem?_eq_none (by omega)
      have e : bfsA nxt ext k (f + 1) i S = S := by rw [bfsA, hx]
      rw [e]
      refine ⟨hS, fun s hs a ha => hcl s ?_ a ha⟩
      rw [List.take_of_length_le (by omega)]; exact hs
end
theorem lik_alB {rows : List (List Int)} {good : List Bool} {k : Nat} (v : VB rows good k) : Lik (alB rows good k) (nx rows) k rows.length :=
  ⟨fun s _ => alB_refl s, fun s t _ _ h => alB_iff.2 (alk_symm (alB_iff.1 h)), fun s t u _ _ _ h g => alB_iff.2 (alk_trans (alB_iff.1 h) (alB_iff.1 g)), fun s t a _ _ ha h => alB_iff.2 (alk_step (alB_iff.1 h) ha), fun s a hs ha => (nx_lt v hs ha).1⟩
theorem rch_ok {rows : List (List Int)} {good : List Bool} {k : Nat} (v : VB rows good k) : BOk (· < rows.length) List.length (rchS rows k) ∧ ∀ s ∈ (rchS rows k).1, ∀ a, a < k → nx rows s a ∈ (rchS rows k).1 :=
  bfsA_ok (lik_alB v) (fun w a => by simp [extL, ltr]) (rows.length + 1) 0 ([0], [[]]) ⟨by simp, by have := v.n1; intro x hx; simp at hx; omega, rfl, by simp⟩ (by simp) (by omega) (by simp)
noncomputable def repL (rows : List (List Int)) (good : List Bool) (k : Nat) : List Nat := ded (alB rows good k) (rchS rows k).1
theorem repL_eq {rows : List (List Int)} {good : List Bool} {k : Nat} (v : VB rows good k) : bldN (alB rows good k) (nx rows) k (rows.length + 1) 0 [0] = repL rows good k := by
  have n1 := v.n1
  have := bfs_ded (ext := extL) (ln := List.length) (lik_alB v) (fun w a => by simp [extL, ltr]) (rows.length + 1) 0 ([0], [([] : List UInt8)]) ⟨by simp, by intro x hx; simp at hx; omega, rfl, by simp⟩ (by simp) (by omega) (by simp) (rows.length + 1) (by omega)
  exact this
end Go.Proofs.Ythnpflkpjimkfaa
