/-
  PARTS OF WORDS: the program's and the specification's lists. Conditions: none.
-/
import Derived.Test.YthnpflkpjimkfaaK05
import Derived.Test.YthnpflkpjimkfaaK02
import Derived.Test.YthnpflkpjimkfaaK04
import Derived.Test.YthnpflkpjimkfaaKAmH
import Derived.Test.YthnpflkpjimkfaaK01
set_option linter.all false
namespace Go.Proofs.Ythnpflkpjimkfaa
open Go.AM
open Go.Proofs.Try (prog)
set_option linter.all false
set_option maxRecDepth 100000
set_option maxHeartbeats 8000000
theorem u57 : prog.underlying 57 = some (.slice 9) := by kernel_rfl
@[simp] theorem nil57 (ex : Bool) (n : Nat) (cs : List AV) : binA prog .eql 57 (.fsl ex n cs) .nils = some (.bool false) := by simp [binA, eqT, eqA, u57]
@[simp] theorem nil57s (id es off n top : Nat) : binA prog .eql 57 (.sl id es off n top) .nils = some (.bool false) := by simp [binA, eqT, eqA, u57]
@[simp] theorem nil57n : binA prog .eql 57 .nils .nils = some (.bool true) := by simp [binA, eqT, eqA, u57]
theorem mapO_strs (h : Nat → Option AObj) (d : Nat) (l : WL) : mapO (AM.deep h (d + 1)) (l.map .str) = some (l.map .str) := mapO_same _ (fun x hx => by
  simp only [List.mem_map] at hx
  obtain ⟨b, _, rfl⟩ := hx
  rfl)
theorem p83 : (ann 83).pure = false := by kernel_rfl
theorem p85 : (ann 85).pure = false := by kernel_rfl
theorem strsO_map : ∀ l : WL, strsO (l.map .str) = some l
  | [] => rfl
  | a :: l => by simp [strsO, strsO_map l]
theorem clone_spec {ex : Bool} {l : WL} (hl : l.length ≤ 1000) (h0 : 0 < l.length) (m : Mem) : denC prog ann 83 [sF ex l] m = some (.sl m.nx 1 0 l.length l.length, ⟨upd m.h m.nx (some (.cells (l.map .str))), m.nx + 1⟩) := by
  have hn : (l.length == 0) = false := by simp; intro e; simp [e] at h0
  rw [slices_Clone_string.call_eq]
  simp [sF, hn, show l.length ≤ 4611686018427387904 by omega, show l.length * 16 ≤ 70368744177664 by omega]
  done
theorem sort85 {R n : Nat} {l : WL} {m : Mem} (h : m.h R = some (.cells (l.map .str))) (hn : l.length = n) (h0 : 0 < n) (h1 : n ≤ 1000000) :
    denC prog ann 85 [.sl R 1 0 n n] m = some (.tup [], ⟨upd m.h R (some (.cells ((sortS l).map .str))), m.nx⟩) := by
  rw [denC_sort (fn := Try.f85) (by kernel_rfl) (b := (Try.f85.body).getD .skip) (by kernel_rfl) (by kernel_rfl)]
  show libA (ann 85) _ _ = _
  have e1 : (ann 85).cmp = false := by kernel_rfl
  have e2 : (ann 85).sts = true := by kernel_rfl
  have hb : (Nat.blt 0 n && Nat.ble n 1000000) = true := by simp [Nat.blt_eq, h0, h1]
  simp only [libA, e1, e2, cond_false, cond_true, sortT, sortX, beq_self_eq_true, sortG, h, List.length_map, hn, hb, Bool.and_self, strsO_map, Option.bind_some]
  rfl
def addP (K : Nat) (l : WL) (x : List UInt8) : WL := sortS (l ++ (l.filter fun p => decide (p.length < K) && !decide (p ++ x ∈ l)).map (· ++ x))
def outP (K : Nat) (l : WL) (x : List UInt8) (i : Nat) : WL := l ++ ((l.take i).filter fun p => decide (p.length < K) && !decide (p ++ x ∈ l)).map (· ++ x)
theorem outP_len (K : Nat) (l : WL) (x : List UInt8) (i : Nat) : (outP K l x i).length ≤ l.length + i := by
  have := List.length_filter_le (fun p => decide (p.length < K) && !decide (p ++ x ∈ l)) (l.take i)
  rw [List.length_take] at this
  simp [outP]; omega
theorem outP_succ {K : Nat} {l : WL} {x : List UInt8} {i : Nat} (hi : i < l.length) : outP K l x (i + 1) = if (decide (l[i].length < K) && !decide (l[i] ++ x ∈ l)) = true then outP K l x i ++ [l[i] ++ x] else outP K l x i := by
  unfold outP
  rw [List.take_add_one, List.getElem?_eq_getElem hi]
  split
  · rename_i h
    simp only [Option.toList_some, List.filter_append, List.map_append]
    rw [List.filter_cons, if_pos h]
    simp
  · rename_i h
    simp only [Option.toList_some, List.filter_append, List.map_append]
    rw [List.filter_cons, if_neg h]
    simp
theorem parts_loop {ex : Bool} {l : WL} {x : List UInt8} {K : Nat} (hl : l.length ≤ 1000) (h0 : 0 < l.length) (hw : ∀ w ∈ l, w.length ≤ 10) (hx : x.length ≤ 10) : ∀ (c i R : Nat) (m : Mem), i + c = l.length → m.h R = some (.cells ((outP K l x i).map .str)) → R < m.nx →
    brand_parts.L0 (sF ex l) (.str x) (.int .i64 (K : Nat)) (.sl R 1 0 (outP K l x i).length (outP K l x i).length) (sF ex l) (.int .i64 l.length) (.int .i64 i) m [.code brand_parts.r8, .code brand_parts.r9, .code .ret] = some (sF false (addP K l x), Mem.empty) := by
  intro c
  induction c with
  | zero =>
    intro i R m h1 h2 h3
    have e : i = l.length := by omega
    subst e
    have e : outP K l x l.length = l ++ (l.filter fun p => decide (p.length < K) && !decide (p ++ x ∈ l)).map (· ++ x) := by rw [outP, List.take_length]
    have hlen := outP_len K l x l.length
    have hpos : 0 < (outP K l x l.length).length := by simp [outP]; omega
    have hs := sort85 (m := m) h2 rfl hpos (by omega)
    have hL := sortS_len (outP K l x l.length)
    rw [brand_parts.L0_eq]
    rw [addP, ← e]
    generalize outP K l x l.length = o at *
    have tk : ((sortS o).map AV.str).take o.length = (sortS o).map AV.str := List.take_of_length_le (by simp [hL])
    have hm := fun h d => mapO_strs h d (sortS o)
    simp [hs, p85, sF, hL, tk, hm, -List.map_take]
    done
  | succ c ih =>
    intro i R m h1 h2 h3
    have hi : i < l.length := by omega
    have hwi : IntKind.wrap .i64 ((i : Int) + 1) = (i : Int) + 1 := wrap_id (by omega) (by omega)
    have hd := str_head hi
    have hxx := List.getElem_mem hi
    have hlen := outP_len K l x i
    have hp := hw _ hxx
    have hc := fun y m => containsS_spec (ex := ex) (l := l) (x := y) hl m
    have os := outP_succ (K := K) (x := x) hi
    have st := ih (i + 1)
    rw [os] at st
    generalize l[i] = p at *
    have b1 : p.length + x.length ≤ 4611686018427387904 := by omega
    generalize outP K l x i = o at *
    rw [brand_parts.L0_eq]
    by_cases q : p.length < K
    · by_cases q2 : p ++ x ∈ l
      · have st := fun m => st R m (by omega)
        simp only [q, q2, decide_true, Bool.not_true, Bool.and_false, Bool.false_eq_true, if_false] at st
        simp only [Int.natCast_add, Int.cast_ofNat_Int] at st
        simp [hi, (sF_is ex l).idx hi, (sF_is ex l).one, (sF_is ex l).closed, hd, q, hc, q2, b1, hwi, st, h2, h3, -List.head?_drop, -List.map_drop]
        done
      · have st := st R (m.set R (some (.cells ((o ++ [p ++ x]).map .str)))) (by omega)
        simp only [q, q2, decide_true, decide_false, Bool.not_false, Bool.and_true, if_true] at st
        simp only [Int.natCast_add, Int.cast_ofNat_Int] at st
        simp [Mem.set, h3] at st
        simp [hi, (sF_is ex l).idx hi, (sF_is ex l).one, (sF_is ex l).closed, hd, q, hc, q2, b1, hwi, h2, show o.length ≤ 4611686018427387903 by omega, show (o.length + 1) * 16 ≤ 70368744177664 by omega, st, -List.head?_drop, -List.map_drop]
        done
    · have st := fun m => st R m (by omega)
      simp only [q, decide_false, Bool.false_and, Bool.false_eq_true, if_false] at st
      simp only [Int.natCast_add, Int.cast_ofNat_Int] at st
      simp [hi, (sF_is ex l).idx hi, (sF_is ex l).one, (sF_is ex l).closed, hd, q, hwi, st, h2, h3, -List.head?_drop, -List.map_drop]
      done
theorem parts_spec {ex : Bool} {l : WL} {x : List UInt8} {K : Nat} (hl : l.length ≤ 1000) (h0 : 0 < l.length) (hw : ∀ w ∈ l, w.length ≤ 10) (hx : x.length ≤ 10) (m : Mem) :
    denC prog ann 58 [sF ex l, .str x, .int .i64 (K : Nat)] m = some (sF false (addP K l x), m) := by
  have e0 : outP K l x 0 = l := by simp [outP]
  have lp := parts_loop (ex := ex) (x := x) (K := K) hl h0 hw hx l.length 0 0
  rw [e0] at lp
  have cl := fun m => clone_spec (ex := ex) (l := l) hl h0 m
  simp only [Int.ofNat_zero, Int.cast_ofNat_Int] at lp
  rw [brand_parts.call_eq _ _ _ _ (by simp [(sF_is ex l).closed])]
  simp [(sF_is ex l).len, cl, p83, lp]
  done
def insR (n : List UInt8) : WL → WL
  | [] => [n]
  | y :: r => if lessW y n = true then y :: insR n r else if y = n then y :: r else n :: y :: r
def atR (n : List UInt8) : WL → Nat
  | [] => 0
  | y :: r => if lessW y n = true then atR n r + 1 else 0
theorem atR_le (n : List UInt8) : ∀ l : WL, atR n l ≤ l.length
  | [] => Nat.le_refl _
  | y :: r => by have := atR_le n r; rw [atR]; split <;> simp <;> omega
theorem atR_lt (n : List UInt8) : ∀ (l : WL) (i : Nat), i < atR n l → ∃ y, l[i]? = some y ∧ lessW y n = true
  | [], i, h => by simp [atR] at h
  | y :: r, i, h => by
    rw [atR] at h
    split at h
    · rename_i g
      cases i with
      | zero => exact ⟨y, rfl, g⟩
      | succ i => obtain ⟨z, h1, h2⟩ := atR_lt n r i (by omega); exact ⟨z, by simpa using h1, h2⟩
    · omega
theorem atR_at (n : List UInt8) : ∀ (l : WL) (y : List UInt8), l[atR n l]? = some y → lessW y n = false
  | [], y, h => by simp at h
  | z :: r, y, h => by
    rw [atR] at h
    split at h
    · exact atR_at n r y (by simpa using h)
    · rename_i g
      simp at h; subst h
      simpa using g
theorem insR_at (n : List UInt8) : ∀ l : WL, insR n l = if l[atR n l]? = some n then l else l.take (atR n l) ++ n :: l.drop (atR n l)
  | [] => by simp [insR, atR]
  | y :: r => by
    rw [insR, atR]
    by_cases g : lessW y n = true
    · rw [if_pos g, if_pos g, insR_at n r]
      simp only [List.getElem?_cons_succ, List.take_succ_cons, List.drop_succ_cons]
      split <;> rfl
    · rw [if_neg g, if_neg g]
      by_cases e : y = n
      · simp [e]
      · simp [e]
def addR1 (K : Nat) (x : List UInt8) (o : WL) (p : List UInt8) : WL := if p.length = K then o else insR (p ++ x) o
def addR (K : Nat) (l : WL) (x : List UInt8) : WL := l.foldl (addR1 K x) l
theorem insR_len (n : List UInt8) (l : WL) : (insR n l).length ≤ l.length + 1 := by
  rw [insR_at]
  have := atR_le n l
  split
  · omega
  · simp [List.length_take]; omega
theorem addR_len (K : Nat) (x : List UInt8) : ∀ (l o : WL), (l.foldl (addR1 K x) o).length ≤ o.length + l.length
  | [], o => by simp
  | p :: l, o => by
    rw [List.foldl_cons]
    have := addR_len K x l (addR1 K x o p)
    have h : (addR1 K x o p).length ≤ o.length + 1 := by
      unfold addR1
      split
      · omega
      · exact insR_len _ _
    simp; omega
theorem insR_mem (n : List UInt8) (l : WL) (w : List UInt8) : w ∈ insR n l ↔ w = n ∨ w ∈ l := by
  induction l with
  | nil => simp [insR]
  | cons y r ih =>
    rw [insR]
    split
    · simp only [List.mem_cons, ih]
      constructor
      · rintro (h | h | h) <;> simp [h]
      · rintro (h | h | h) <;> simp [h]
    · split
      · rename_i e
        subst e
        simp
      · simp
theorem cutHi {ey : Bool} {o : WL} {j : Nat} (h : j ≤ o.length) : ∃ ez, sliceSl 1 (sF ey o) none (some (.int .i64 j)) = some (.fsl ez j ((o.take j).map .str)) := by
  refine ⟨ey && j == o.length, ?_⟩
  simp [sliceSl, sF, bnds, bnd, h]
theorem cutLo {ey : Bool} {o : WL} {j : Nat} (h : j ≤ o.length) : ∃ ez, sliceSl 1 (sF ey o) (some (.int .i64 j)) none = some (.fsl ez (o.length - j) ((o.drop j).map .str)) := by
  refine ⟨ey, ?_⟩
  have e : (o.drop j).map AV.str = ((o.map AV.str).drop j).take (o.length - j) := by
    rw [List.take_of_length_le (by simp), List.map_drop]
  rw [e]
  simp [sliceSl, sF, bnds, bnd, h, -List.map_drop]
theorem closed_strs : ∀ l : WL, closedL (l.map AV.str) = true
  | [] => rfl
  | a :: l => by rw [List.map_cons, closedL, closed_strs l]; rfl
noncomputable def KPm : List Item := [.code r07_more.r11, .code .ret]
noncomputable def KPn : List Item := .code r07_more.r9 :: .code r07_more.i3 :: .inBlock 1 :: .code r07_more.r4 :: .inLoop r07_more.l0 :: .inBlock 0 :: KPm
def eF (ey : Bool) (n : List UInt8) (o : WL) : Bool := if o[atR n o]? = some n then ey else false
theorem more_in {ex ey : Bool} {l o : WL} {x n : List UInt8} {K i : Nat} {r : Res} (hi : i < 1000) (ho : o.length ≤ 2000) (hw : ∀ w ∈ o, w.length ≤ 30) (hn : n.length ≤ 30)
    (hk : ∀ m, r07_more.L0 (sF ex l) (.str x) (.int .i64 (K : Nat)) (sF (eF ey n o) (insR n o)) (.int .i64 ((i : Int) + 1)) m KPm = some r) : ∀ (c j : Nat) (m : Mem), j + c = atR n o →
    r07_more.L2 (sF ex l) (.str x) (.int .i64 (K : Nat)) (sF ey o) (.int .i64 i) (.str n) (.int .i64 j) m KPn = some r := by
  intro c
  have hle := atR_le n o
  have hwi : IntKind.wrap .i64 ((i : Int) + 1) = (i : Int) + 1 := wrap_id (by omega) (by omega)
  induction c with
  | zero =>
    intro j m h1
    have e : j = atR n o := by omega
    have hat := atR_at n o
    have hin := insR_at n o
    have hf : eF ey n o = if o[atR n o]? = some n then ey else false := rfl
    rw [← e] at hat hin hle hf
    have s1 : o.length ≤ 4611686018427387904 := by omega
    have s2 : o.length * 16 ≤ 70368744177664 := by omega
    have s3 : o.length + 1 ≤ 4611686018427387904 := by omega
    have s4 : (o.length + 1) * 16 ≤ 70368744177664 := by omega
    have s5 : o.length ≤ 4611686018427387903 := by omega
    have s6 : 1 + o.length = o.length + 1 := by omega
    have t1 : j ≤ 4611686018427387904 := by omega
    have t2 : j * 16 ≤ 70368744177664 := by omega
    have t3 : j + 1 ≤ 4611686018427387904 := by omega
    have t4 : (j + 1) * 16 ≤ 70368744177664 := by omega
    have t5 : j ≤ 4611686018427387903 := by omega
    have t6 : j + 1 + (o.length - j) = o.length + 1 := by omega
    have t7 : j + (o.length - j + 1) = o.length + 1 := by omega
    rw [r07_more.L2_eq]
    by_cases q : j < o.length
    · have hd := str_head q
      have hy := hat _ (List.getElem?_eq_getElem q)
      have hyw := hw _ (List.getElem_mem q)
      have hls := fun m => less_spec o[j] n (by omega) (by omega) m
      rw [hy] at hls
      rw [List.getElem?_eq_getElem q] at hin hf
      generalize o[j] = y at *
      have q1 : ¬ ((j : Nat) : Int) = (o.length : Nat) := by omega
      by_cases q2 : y = n
      · subst q2
        rw [if_pos rfl] at hin hf
        rw [hin, hf] at hk
        simp [KPn, q, q1, (sF_is ey o).len, (sF_is ey o).idx q, hd, hls, hwi, hk, -List.head?_drop, -List.map_drop]
        done
      · rw [if_neg (by simpa using q2)] at hin hf
        rw [hin, hf] at hk
        obtain ⟨e1, c1⟩ := cutHi (ey := ey) hle
        obtain ⟨e2, c2⟩ := cutLo (ey := ey) hle
        have ta : ((o.take j).map AV.str).length = j := by rw [List.length_map, List.length_take]; omega
        have tb : ((o.drop j).map AV.str).length = o.length - j := by rw [List.length_map, List.length_drop]
        have hs : sF false (o.take j ++ n :: o.drop j) = .fsl false (o.length + 1) ((o.take j).map .str ++ .str n :: (o.drop j).map .str) := by
          unfold sF
          rw [List.map_append, List.map_cons, List.length_append, List.length_cons, List.length_take, List.length_drop]
          congr 1; omega
        rw [hs] at hk
        have b0 : (o.length - j == 0) = false := by rw [beq_eq_false_iff_ne]; omega
        have ca : closedL ((o.take j).map AV.str) = true := closed_strs _
        have cb : closedL ((o.drop j).map AV.str) = true := closed_strs _
        generalize (o.take j).map AV.str = A at *
        generalize (o.drop j).map AV.str = B at *
        have tt : (A ++ AV.str n :: B).take (o.length + 1) = A ++ AV.str n :: B := List.take_of_length_le (by simp [ta, tb]; omega)
        have ix := (sF_is ey o).idx q .i64
        by_cases q3 : j = 0
        · subst q3
          have hA : A = [] := List.length_eq_zero_iff.1 ta
          subst hA
          simp only [Int.ofNat_zero, Int.cast_ofNat_Int, List.drop_zero] at c1 c2 ix hd q1
          simp only [Nat.sub_zero] at c2 tb b0
          simp only [List.nil_append] at tt hk
          simp [KPn, cb, tt, q, q1, q2, c1, c2, (sF_is ey o).len, ix, hd, hls, hwi, hk, tb, b0, s1, s2, s3, s4, s5, s6, -List.head?_drop, -List.map_drop, -List.head?_map]
          done
        · have b1 : (j == 0) = false := by rw [beq_eq_false_iff_ne]; exact q3
          simp [KPn, q, q1, q2, c1, c2, (sF_is ey o).len, ix, hd, hls, hwi, hk, ta, tb, b0, b1, ca, cb, tt, s1, s2, s3, s4, s5, s6, t1, t2, t3, t4, t5, t6, t7, -List.take_left', -List.head?_drop, -List.map_drop]
          done
    · have q1 : j = o.length := by omega
      subst q1
      rw [if_neg (by simp)] at hin hf
      rw [hin, hf] at hk
      obtain ⟨e1, c1⟩ := cutHi (ey := ey) hle
      obtain ⟨e2, c2⟩ := cutLo (ey := ey) hle
      have ta : ((o.take o.length).map AV.str).length = o.length := by simp
      have hs : sF false (o.take o.length ++ n :: o.drop o.length) = .fsl false (o.length + 1) ((o.take o.length).map .str ++ [.str n]) := by
        unfold sF
        simp
      rw [hs] at hk
      have tb : (o.drop o.length).map AV.str = [] := by simp
      rw [tb, Nat.sub_self] at c2
      have ca : closedL ((o.take o.length).map AV.str) = true := closed_strs _
      generalize (o.take o.length).map AV.str = A at *
      have tt : (A ++ [AV.str n]).take (o.length + 1) = A ++ [AV.str n] := List.take_of_length_le (by simp [ta])
      by_cases q3 : o.length = 0
      · have hA : A = [] := List.length_eq_zero_iff.1 (by omega)
        subst hA
        simp only [q3, List.nil_append, Nat.zero_add, Int.ofNat_zero, Int.cast_ofNat_Int] at c1 c2 hk
        simp [KPn, q3, c1, c2, (sF_is ey o).len, hwi, hk, -List.head?_drop, -List.map_drop]
        done
      · have b1 : (o.length == 0) = false := by rw [beq_eq_false_iff_ne]; exact q3
        simp [KPn, c1, c2, (sF_is ey o).len, hwi, hk, ta, b1, ca, tt, s1, s2, s3, s4, s5, s6, -List.head?_drop, -List.map_drop]
        done
  | succ c ih =>
    intro j m h1
    obtain ⟨y, y1, y2⟩ := atR_lt n o j (by omega)
    have hj := (List.getElem?_eq_some_iff.1 y1).1
    have hyw := hw y (List.mem_of_getElem? y1)
    have hwj : IntKind.wrap .i64 ((j : Int) + 1) = (j : Int) + 1 := wrap_id (by omega) (by omega)
    have hd := str_head hj
    rw [(List.getElem?_eq_some_iff.1 y1).2] at hd
    have hls := fun m => less_spec y n (by omega) (by omega) m
    rw [y2] at hls
    have st := fun m => ih (j + 1) m (by omega)
    simp only [Int.natCast_add, Int.cast_ofNat_Int] at st
    rw [r07_more.L2_eq]
    simp [hj, (sF_is ey o).len, (sF_is ey o).idx hj, hd, hls, hwj, st, -List.head?_drop, -List.map_drop]
    done
theorem addR_take {K : Nat} {l : WL} {x : List UInt8} {o : WL} {i : Nat} (hi : i < l.length) : (l.take (i + 1)).foldl (addR1 K x) o = addR1 K x ((l.take i).foldl (addR1 K x) o) l[i] := by
  rw [List.take_add_one, List.getElem?_eq_getElem hi, List.foldl_append]
  rfl
theorem addR_mem (K : Nat) (x : List UInt8) (w : List UInt8) : ∀ (l o : WL), w ∈ l.foldl (addR1 K x) o ↔ w ∈ o ∨ ∃ p ∈ l, p.length ≠ K ∧ w = p ++ x
  | [], o => by simp
  | p :: l, o => by
    rw [List.foldl_cons, addR_mem K x w l]
    unfold addR1
    by_cases h : p.length = K
    · rw [if_pos h]
      constructor
      · rintro (g | ⟨q, g1, g2⟩)
        · exact .inl g
        · exact .inr ⟨q, by simp [g1], g2⟩
      · rintro (g | ⟨q, g1, g2, g3⟩)
        · exact .inl g
        · rcases List.mem_cons.1 g1 with rfl | g1
          · exact absurd h g2
          · exact .inr ⟨q, g1, g2, g3⟩
    · rw [if_neg h, insR_mem]
      constructor
      · rintro ((g | g) | ⟨q, g1, g2⟩)
        · exact .inr ⟨p, by simp, h, g⟩
        · exact .inl g
        · exact .inr ⟨q, by simp [g1], g2⟩
      · rintro (g | ⟨q, g1, g2, g3⟩)
        · exact .inl (.inr g)
        · rcases List.mem_cons.1 g1 with rfl | g1
          · exact .inl (.inl g3)
          · exact .inr ⟨q, g1, g2, g3⟩
theorem more_loop {ex : Bool} {l : WL} {x : List UInt8} {K : Nat} (hl : l.length ≤ 900) (hw : ∀ w ∈ l, w.length ≤ 10) (hx : x.length ≤ 10) : ∀ (c i : Nat) (ez : Bool), i + c = l.length →
    ∃ ez', ∀ m, r07_more.L0 (sF ex l) (.str x) (.int .i64 (K : Nat)) (sF ez ((l.take i).foldl (addR1 K x) l)) (.int .i64 i) m KPm = some (sF ez' (addR K l x), Mem.empty) := by
  intro c
  induction c with
  | zero =>
    intro i ez h1
    have e : i = l.length := by omega
    subst e
    rw [List.take_length]
    refine ⟨ez, fun m => ?_⟩
    show _ = some (sF ez (l.foldl (addR1 K x) l), Mem.empty)
    rw [r07_more.L0_eq]
    generalize l.foldl (addR1 K x) l = o
    simp [KPm, (sF_is ex l).len, (sF_is ez o).closed]
    simp [sF]
    done
  | succ c ih =>
    intro i ez h1
    have hi : i < l.length := by omega
    have hwi : IntKind.wrap .i64 ((i : Int) + 1) = (i : Int) + 1 := wrap_id (by omega) (by omega)
    have hd := str_head hi
    have hxx := List.getElem_mem hi
    have hp := hw _ hxx
    have hlen := addR_len K x (l.take i) l
    have htl : (l.take i).length = i := by rw [List.length_take]; omega
    have how : ∀ w ∈ (l.take i).foldl (addR1 K x) l, w.length ≤ 30 := fun w h => by
      rcases (addR_mem K x w _ _).1 h with h | ⟨p, h1, _, rfl⟩
      · have := hw w h; omega
      · have := hw p (List.mem_of_mem_take h1)
        simp; omega
    have st := ih (i + 1)
    rw [addR_take hi] at st
    generalize (l.take i).foldl (addR1 K x) l = o at *
    generalize l[i] = p at *
    have b1 : p.length + x.length ≤ 4611686018427387904 := by omega
    by_cases q : p.length = K
    · obtain ⟨ez', st⟩ := st ez (by omega)
      rw [addR1, if_pos q] at st
      simp only [Int.natCast_add, Int.cast_ofNat_Int] at st
      refine ⟨ez', fun m => ?_⟩
      rw [r07_more.L0_eq]
      simp [(sF_is ex l).len, (sF_is ex l).idx hi, hi, hd, q, hwi, st, -List.head?_drop, -List.map_drop]
      done
    · obtain ⟨ez', st⟩ := st (eF ez (p ++ x) o) (by omega)
      rw [addR1, if_neg q] at st
      simp only [Int.natCast_add, Int.cast_ofNat_Int] at st
      have q' : ¬ ((p.length : Nat) : Int) = (K : Nat) := by omega
      refine ⟨ez', fun m => ?_⟩
      have si := fun m => more_in (ex := ex) (ey := ez) (by omega) (by omega) how (by simp; omega) st (atR (p ++ x) o) 0 m (by omega)
      simp only [Int.ofNat_zero, Int.cast_ofNat_Int, KPn] at si
      rw [r07_more.L0_eq]
      simp [(sF_is ex l).len, (sF_is ex l).idx hi, hi, hd, q', b1, hwi, si, -List.head?_drop, -List.map_drop]
      done
theorem more_spec {ex : Bool} {l : WL} {x : List UInt8} {K : Nat} (hl : l.length ≤ 900) (h0 : 0 < l.length) (hw : ∀ w ∈ l, w.length ≤ 10) (hx : x.length ≤ 10) :
    ∃ ez, ∀ m, denC prog ann 63 [sF ex l, .str x, .int .i64 (K : Nat)] m = some (sF ez (addR K l x), m) := by
  obtain ⟨ez', lp⟩ := more_loop (ex := ex) (x := x) (K := K) hl hw hx l.length 0 false (by omega)
  refine ⟨ez', fun m => ?_⟩
  have lp := fun m => lp m
  simp only [Int.ofNat_zero, Int.cast_ofNat_Int, KPm, List.take_zero, List.foldl_nil] at lp
  have b0 : (l.length == 0) = false := by rw [beq_eq_false_iff_ne]; omega
  have ap : appV 1 16 (.fsl true 0 []) (sF ex l) = some (sF false l) := by
    simp [appV, appF, sF, closed_strs, b0, show l.length ≤ 4611686018427387904 by omega, show l.length * 16 ≤ 70368744177664 by omega]
    try exact List.take_of_length_le (by simp)
  rw [r07_more.call_eq _ _ _ _ (by simp [(sF_is ex l).closed])]
  simp [ap, lp]
  done
end Go.Proofs.Ythnpflkpjimkfaa

/-
  CLASSES: the specification's, as numbers. Conditions: none.
-/
namespace Go.Proofs.Ythnpflkpjimkfaa
open Go.AM
open Go.Proofs.Try (prog)
set_option linter.all false
set_option maxRecDepth 100000
set_option maxHeartbeats 8000000
def natL (c : List Nat) : List AV := c.map natV
@[simp] theorem natL_len (c : List Nat) : (natL c).length = c.length := by simp [natL]
end Go.Proofs.Ythnpflkpjimkfaa

/-
  CLASSES BY THEIR WORDS: the specification's. Conditions: none.
-/
namespace Go.Proofs.Ythnpflkpjimkfaa
open Go.AM
open Go.Proofs.Try (prog)
set_option linter.all false
set_option maxRecDepth 100000
set_option maxHeartbeats 8000000
theorem natL_head {c : List Nat} {i : Nat} (h : i < c.length) : ((natL c).drop i).head? = some (.int .i64 (c[i] : Nat)) := by
  rw [List.head?_drop]; simp [natL, natV, h]
@[simp] theorem clV_len (S : SM) (c : List Nat) : (clV S c).length = c.length := by simp [clV]
end Go.Proofs.Ythnpflkpjimkfaa

/-
  POWERS THAT COME AGAIN: plain law. Conditions: none.
-/
namespace Go.Proofs.Ythnpflkpjimkfaa
set_option linter.all false
set_option maxRecDepth 100000
theorem nd_len : ∀ (N : Nat) (l : List Nat), l.Nodup → (∀ x ∈ l, x < N) → l.length ≤ N
  | 0, l, _, h => by
    cases l with
    | nil => simp
    | cons a l => have := h a (by simp); omega
  | N + 1, l, d, h => by
    have h1 := nd_len N (l.erase N) (d.erase N) (fun x hx => by
      have := (List.Nodup.mem_erase_iff d).1 hx
      have := h x this.2
      omega)
    have : l.length ≤ (l.erase N).length + 1 := by
      rw [List.length_erase]; split <;> omega
    omega
structure IsPer (f : Nat → Nat) (N p : Nat) : Prop where
  ps : 1 ≤ p
  eq : f (N + p) = f N
  mn : ∀ q, 1 ≤ q → q < p → f (N + q) ≠ f N
theorem IsPer.uniq {f : Nat → Nat} {N p q : Nat} (h : IsPer f N p) (g : IsPer f N q) : p = q := by
  rcases Nat.lt_trichotomy p q with c | c | c
  · exact absurd h.eq (g.mn p h.ps c)
  · exact c
  · exact absurd g.eq (h.mn q g.ps c)
section
variable {f : Nat → Nat} (H : ∀ a b, f a = f b → f (a + 1) = f (b + 1))
include H
theorem shf {a b : Nat} (h : f a = f b) : ∀ k, f (a + k) = f (b + k)
  | 0 => h
  | k + 1 => H _ _ (shf h k)
theorem per_add {c at' : Nat} (hat : at' < c) (hc : f c = f at') {t : Nat} (ht : at' ≤ t) : f (t + (c - at')) = f t := by
  have := shf H hc (t - at')
  rw [show t + (c - at') = c + (t - at') by omega, this, show at' + (t - at') = t by omega]
theorem per_res {c at' : Nat} (hat : at' < c) (hc : f c = f at') : ∀ (m t : Nat), at' ≤ t → t < m → ∃ r, at' ≤ r ∧ r < c ∧ ∀ s, f (t + s) = f (r + s)
  | 0, t, _, h => by omega
  | m + 1, t, h1, h2 => by
    by_cases q : t < c
    · exact ⟨t, h1, q, fun _ => rfl⟩
    · obtain ⟨r, r1, r2, r3⟩ := per_res hat hc m (t - (c - at')) (by omega) (by omega)
      refine ⟨r, r1, r2, fun s => ?_⟩
      rw [← r3 s, ← per_add H hat hc (t := t - (c - at') + s) (by omega)]
      congr 1; omega
theorem per_first {N c at' : Nat} (hat : at' < c) (hc : f c = f at') (hd : ∀ a b, a < b → b < c → f a ≠ f b) (hN : at' ≤ N) : IsPer f N (c - at') := by
  obtain ⟨r, r1, r2, r3⟩ := per_res H hat hc (N + 1) N hN (by omega)
  refine ⟨by omega, per_add H hat hc hN, fun q q1 q2 e => ?_⟩
  have e0 := r3 0
  rw [r3 q, show f N = f (N + 0) from rfl, e0, Nat.add_zero] at e
  by_cases w : r + q < c
  · exact hd r (r + q) (by omega) w e.symm
  · have := per_add H hat hc (t := r + q - (c - at')) (by omega)
    rw [show r + q - (c - at') + (c - at') = r + q by omega, e] at this
    exact hd _ r (by omega) r2 this.symm
end
theorem rep_few {f : Nat → Nat} {N c : Nat} (hb : ∀ t, f t < N) (hd : ∀ a b, a < b → b < c → f a ≠ f b) : c ≤ N := by
  have := nd_len N ((List.range c).map f) (by
    rw [List.Nodup, List.pairwise_map]
    refine List.Pairwise.imp_of_mem ?_ (List.pairwise_lt_range (n := c))
    intro a b ha hb' hab
    exact hd a b hab (by simpa using hb')) (fun x hx => by
    obtain ⟨t, _, rfl⟩ := List.mem_map.1 hx
    exact hb t)
  simpa using this
end Go.Proofs.Ythnpflkpjimkfaa

/-
  BODIES OF FUNCTIONS OF THE PROGRAM AS SMALL OPERATIONS (written by gen.py; checked by the kernel against the program). Conditions: none.
-/
namespace Go.Proofs.Ythnpflkpjimkfaa
open Go.AM
open Go.Proofs.Try (prog)
set_option maxRecDepth 100000
set_option linter.all false
namespace brand_Groups
noncomputable section
variable (K : List Item) (s : St)
def b : Code := (Try.f44.body).getD .skip
theorem hf : prog.funcs[44]? = some Try.f44 := by kernel_rfl
def r0 := findReg b 0
def r1 := findReg b 1
def r2 := findReg b 2
def i0 := findCond b 0
def i0t := thenOf i0
def i0e := elseOf i0
def r3 := findReg b 3
def r4 := findReg b 4
def k0 := findBlk b 0
def l0 := loopOf k0
def L0 (x5 x24 x25 x26 : AV) (m : Mem) (K : List Item) : Option Res := den prog ann 44 (.code l0 :: .inLoop l0 :: .inBlock 0 :: K) ⟨[(5, x5), (24, x24), (25, x25), (26, x26)], 67, m⟩
def r5 := findReg b 5
def i1 := findCond b 1
def i1t := thenOf i1
def i1e := elseOf i1
def k1 := findBlk b 1
def r6 := findReg b 6
def r7 := findReg b 7
def k2 := findBlk b 2
def l2 := loopOf k2
def L2 (x5 x8 x9 x24 x25 x26 : AV) (m : Mem) (K : List Item) : Option Res := den prog ann 44 (.code l2 :: .inLoop l2 :: .inBlock 2 :: K) ⟨[(5, x5), (8, x8), (9, x9), (24, x24), (25, x25), (26, x26)], 67, m⟩
def k3 := findBlk b 3
def r8 := findReg b 8
def r9 := findReg b 9
def r10 := findReg b 10
def i2 := findCond b 2
def i2t := thenOf i2
def i2e := elseOf i2
def r11 := findReg b 11
def r12 := findReg b 12
def r13 := findReg b 13
def i3 := findCond b 3
def i3t := thenOf i3
def i3e := elseOf i3
def r14 := findReg b 14
def r15 := findReg b 15
def r16 := findReg b 16
theorem b_eq : den prog ann 44 (.code b :: K) s = den prog ann 44 (.code r0 :: .code r1 :: .code r2 :: .code i0 :: .code r4 :: .code k0 :: .code r16 :: .code .ret :: K) s := den_flat hf (l := [r0, r1, r2, i0, r4, k0, r16, .ret]) (by kernel_rfl) K s
theorem r0_eq : den prog ann 44 (.code r0 :: K) s = mreg prog ann 44 none [] none [] [qA 1 frozenPtr 0,qF 2 fun s => some (.str []),qF 3 fun s => some (.int .i64 0),qF 4 fun s => some (.int .i64 0)] K s := (den_reg hf _ K s).trans (by kernel_rfl)
theorem r1_eq : den prog ann 44 (.code r1 :: K) s = mreg prog ann 44 none [] none [] [qA 14 (loadF true 2) 1,⟨some 15, none, .c 0 (fun s => (.fn 70 [] [])) fun s => [(s.get 14)]⟩,qC 13 15,qF 16 fun s => extA (s.get 13) 0,qF 17 fun s => extA (s.get 13) 1,qC 5 16,qC 6 17] K s := (den_reg hf _ K s).trans (by kernel_rfl)
theorem r2_eq : den prog ann 44 (.code r2 :: K) s = mreg prog ann 44 none [] none [] [qC 18 6,qF 19 fun s => binA prog .neq 27 (s.get 18) (.int .i64 0)] K s := (den_reg hf _ K s).trans (by kernel_rfl)
theorem i0_eq : den prog ann 44 (.code i0 :: K) s = ifV prog ann 44 19 i0t i0e K s (s.get 19) := den_if hf (by kernel_rfl) K s
theorem i0t_eq : den prog ann 44 (.code i0t :: K) s = den prog ann 44 (.code r3 :: .code .ret :: K) s := den_flat hf (l := [r3, .ret]) (by kernel_rfl) K s
theorem r3_eq : den prog ann 44 (.code r3 :: K) s = mreg prog ann 44 none [] none [] [qC 20 6,qF 2 fun s => some (.str []),qF 3 fun s => some (.int .i64 0),qC 4 20] K s := (den_reg hf _ K s).trans (by kernel_rfl)
theorem i0e_eq : den prog ann 44 (.code i0e :: K) s = den prog ann 44 (K) s := den_flat hf (l := []) (by kernel_rfl) K s
theorem r4_eq : den prog ann 44 (.code r4 :: K) s = mreg prog ann 44 none [] none [] [qC 21 5,qA 22 nilA 21,qA 23 (fieldA 2) 22,qA 24 (loadF false 1) 23,qA 25 lenSl 24,qF 26 fun s => some (.int .i64 0)] K s := (den_reg hf _ K s).trans (by kernel_rfl)
theorem k0_eq (K : List Item) (t : List (Nat × AV)) (m : Mem) : den prog ann 44 (.code k0 :: K) ⟨t, 67, m⟩ = L0 (get t 5) (get t 24) (get t 25) (get t 26) m K := den_loop_enter hf (b := l0) (id := 5) (l := [5, 24, 25, 26]) (by kernel_rfl) (by kernel_rfl) (by kernel_rfl) K _
theorem l0_eq (K : List Item) (t : List (Nat × AV)) (m : Mem) : den prog ann 44 (.inLoop l0 :: .inBlock 0 :: K) ⟨t, 67, m⟩ = L0 (get t 5) (get t 24) (get t 25) (get t 26) m K := den_loop_again hf (id := 5) (l := [5, 24, 25, 26]) (by kernel_rfl) (by kernel_rfl) (.inBlock 0 :: K) _
theorem L0_eq (x5 x24 x25 x26 : AV) (m : Mem) (K : List Item) : L0 x5 x24 x25 x26 m K = den prog ann 44 (.code r5 :: .code i1 :: .code k1 :: .code r15 :: .inLoop l0 :: .inBlock 0 :: K) ⟨[(5, x5), (24, x24), (25, x25), (26, x26)], 67, m⟩ := den_flat hf (l := [r5, i1, k1, r15]) (by kernel_rfl) _ _
theorem r5_eq : den prog ann 44 (.code r5 :: K) s = mreg prog ann 44 (some [5, 24, 25, 26]) [] none [] [qB 27 (binA prog .lss 3) 26 25] K s := (den_reg hf _ K s).trans (by kernel_rfl)
theorem i1_eq : den prog ann 44 (.code i1 :: K) s = ifV prog ann 44 27 i1t i1e K s (s.get 27) := den_if hf (by kernel_rfl) K s
theorem i1t_eq : den prog ann 44 (.code i1t :: K) s = den prog ann 44 (K) s := den_flat hf (l := []) (by kernel_rfl) K s
theorem i1e_eq : den prog ann 44 (.code i1e :: K) s = den prog ann 44 (.code (.exit 0) :: K) s := den_flat hf (l := [(.exit 0)]) (by kernel_rfl) K s
theorem k1_eq : den prog ann 44 (.code k1 :: K) s = den prog ann 44 (.code r6 :: .code r7 :: .code k2 :: .inBlock 1 :: K) s := den_blk hf (b := blkOf k1) (l := [r6, r7, k2]) (by kernel_rfl) (by kernel_rfl) K s
theorem r6_eq : den prog ann 44 (.code r6 :: K) s = mreg prog ann 44 none [] none [] [qC 28 26,qB 29 (idxSl 1) 24 26,qA 30 (loadF false 1) 29,qC 7 28,qC 8 30] K s := (den_reg hf _ K s).trans (by kernel_rfl)
theorem r7_eq : den prog ann 44 (.code r7 :: K) s = mreg prog ann 44 none [] none [] [qC 31 7,⟨some 32, none, .w false none fun s => bslM s.m 1 (bslA 1 1 [.int .i64 0] [(0, (s.get 31))])⟩,qC 9 32] K s := (den_reg hf _ K s).trans (by kernel_rfl)
theorem k2_eq (K : List Item) (t : List (Nat × AV)) (m : Mem) : den prog ann 44 (.code k2 :: K) ⟨t, 67, m⟩ = L2 (get t 5) (get t 8) (get t 9) (get t 24) (get t 25) (get t 26) m K := den_loop_enter hf (b := l2) (id := 8) (l := [5, 8, 9, 24, 25, 26]) (by kernel_rfl) (by kernel_rfl) (by kernel_rfl) K _
theorem l2_eq (K : List Item) (t : List (Nat × AV)) (m : Mem) : den prog ann 44 (.inLoop l2 :: .inBlock 2 :: K) ⟨t, 67, m⟩ = L2 (get t 5) (get t 8) (get t 9) (get t 24) (get t 25) (get t 26) m K := den_loop_again hf (id := 8) (l := [5, 8, 9, 24, 25, 26]) (by kernel_rfl) (by kernel_rfl) (.inBlock 2 :: K) _
theorem L2_eq (x5 x8 x9 x24 x25 x26 : AV) (m : Mem) (K : List Item) : L2 x5 x8 x9 x24 x25 x26 m K = den prog ann 44 (.code k3 :: .inLoop l2 :: .inBlock 2 :: K) ⟨[(5, x5), (8, x8), (9, x9), (24, x24), (25, x25), (26, x26)], 67, m⟩ := den_flat hf (l := [k3]) (by kernel_rfl) _ _
theorem k3_eq : den prog ann 44 (.code k3 :: K) s = den prog ann 44 (.code r8 :: .code r9 :: .code r10 :: .code i2 :: .code r12 :: .code r13 :: .code i3 :: .code (.exit 2) :: .inBlock 3 :: K) s := den_blk hf (b := blkOf k3) (l := [r8, r9, r10, i2, r12, r13, i3, (.exit 2)]) (by kernel_rfl) (by kernel_rfl) K s
theorem r8_draw : drawOk (fun g => (ann g).pure) (modeOf (ann 44) (idOf r8)) (frzOf (ann 44) (idOf r8)) (opsOf r8) = true := drawOk_of (an := [0, 0, 2, 6, 14, 0, 0, 64, 192, 480, 992, 2046, 4094, 0, 16382, 32767, 65535]) (by kernel_rfl) (by kernel_rfl)
theorem r8_eq : den prog ann 44 (.code r8 :: K) s = mreg prog ann 44 (some [5, 8, 9, 24, 25, 26]) [] (some 17) [] [qC 33 5,qC 34 5,qA 35 nilA 34,qA 36 (fieldA 2) 35,qA 37 (loadF false 1) 36,qC 38 9,qC 39 9,qA 40 lenSl 39,qF 41 fun s => binA prog .sub 3 (s.get 40) (.int .i64 1),qB 42 (idxSl 1) 38 41,qF 43 fun s => loadA false 1 s.m (s.get 42),qB 44 (idxSl 1) 37 43,qA 45 (loadF false 1) 44,qC 46 8,qB 47 (binA prog .add 9) 45 46,⟨some 48, none, .c 0 (fun s => (.fn 71 [] [])) fun s => [(s.get 33), (s.get 47)]⟩,qC 10 48] K s := (den_regD hf r8_draw K s).trans (by kernel_rfl)
theorem r9_eq : den prog ann 44 (.code r9 :: K) s = mreg prog ann 44 none [] none [] [qC 49 9,qC 50 10,⟨some 51, none, .c 0 (fun s => (.fn 75 [] [])) fun s => [(s.get 49), (s.get 50)]⟩,qC 11 51] K s := (den_reg hf _ K s).trans (by kernel_rfl)
theorem r10_eq : den prog ann 44 (.code r10 :: K) s = mreg prog ann 44 none [] none [] [qC 52 11,qF 53 fun s => binA prog .lss 3 (s.get 52) (.int .i64 0)] K s := (den_reg hf _ K s).trans (by kernel_rfl)
theorem i2_eq : den prog ann 44 (.code i2 :: K) s = ifV prog ann 44 53 i2t i2e K s (s.get 53) := den_if hf (by kernel_rfl) K s
theorem i2t_eq : den prog ann 44 (.code i2t :: K) s = den prog ann 44 (.code r11 :: .code (.exit 3) :: K) s := den_flat hf (l := [r11, (.exit 3)]) (by kernel_rfl) K s
theorem r11_eq : den prog ann 44 (.code r11 :: K) s = mreg prog ann 44 none [] none [] [qC 54 9,qC 55 10,qF 56 fun s => bslF 1 (bslA 1 1 [.int .i64 0] [(0, (s.get 55))]),⟨some 57, none, .w false none fun s => appendA 1 8 s.m (s.get 54) (s.get 56)⟩,qC 9 57] K s := (den_reg hf _ K s).trans (by kernel_rfl)
theorem i2e_eq : den prog ann 44 (.code i2e :: K) s = den prog ann 44 (K) s := den_flat hf (l := []) (by kernel_rfl) K s
theorem r12_eq : den prog ann 44 (.code r12 :: K) s = mreg prog ann 44 none [] none [] [qC 58 9,qA 59 lenSl 58,qC 60 11,qB 61 (binA prog .sub 3) 59 60,qC 12 61] K s := (den_reg hf _ K s).trans (by kernel_rfl)
theorem r13_eq : den prog ann 44 (.code r13 :: K) s = mreg prog ann 44 none [] none [] [qC 62 12,qF 63 fun s => binA prog .gtr 3 (s.get 62) (.int .i64 1)] K s := (den_reg hf _ K s).trans (by kernel_rfl)
theorem i3_eq : den prog ann 44 (.code i3 :: K) s = ifV prog ann 44 63 i3t i3e K s (s.get 63) := den_if hf (by kernel_rfl) K s
theorem i3t_eq : den prog ann 44 (.code i3t :: K) s = den prog ann 44 (.code r14 :: .code .ret :: K) s := den_flat hf (l := [r14, .ret]) (by kernel_rfl) K s
theorem r14_eq : den prog ann 44 (.code r14 :: K) s = mreg prog ann 44 none [] none [] [qC 64 8,qC 65 12,qC 2 64,qC 3 65,qF 4 fun s => some (.int .i64 0)] K s := (den_reg hf _ K s).trans (by kernel_rfl)
theorem i3e_eq : den prog ann 44 (.code i3e :: K) s = den prog ann 44 (K) s := den_flat hf (l := []) (by kernel_rfl) K s
theorem r15_eq : den prog ann 44 (.code r15 :: K) s = mreg prog ann 44 (some [5, 24, 25, 26]) [] none [] [qF 66 fun s => binA prog .add 3 (s.get 26) (.int .i64 1),qC 26 66] K s := (den_reg hf _ K s).trans (by kernel_rfl)
theorem r16_eq : den prog ann 44 (.code r16 :: K) s = mreg prog ann 44 (some []) [] none [] [qF 2 fun s => some (.str []),qF 3 fun s => some (.int .i64 0),qF 4 fun s => some (.int .i64 5)] K s := (den_reg hf _ K s).trans (by kernel_rfl)
theorem ret_eq : den prog ann 44 (.code .ret :: K) s = finM true [fun s => some (s.get 2), fun s => some (s.get 3), fun s => some (s.get 4)] s := (den_ret hf K s).trans (by kernel_rfl)
theorem nil_eq (s : St) : den prog ann 44 [] s = finM true [fun s => some (s.get 2), fun s => some (s.get 3), fun s => some (s.get 4)] s := (den_nil hf s).trans (by kernel_rfl)
theorem inBlock_eq (id : Nat) (K : List Item) (s : St) : den prog ann 44 (.inBlock id :: K) s = den prog ann 44 K s := den_inBlock hf id K s
theorem exit_eq (id : Nat) (K : List Item) (s : St) : den prog ann 44 (.code (.exit id) :: K) s = exitV prog ann 44 (exitTo id K) s := den_exitV hf id K s
theorem call_eq (v0 : AV) (m : Mem) (h : closedL [v0] = true) : denC prog ann 44 [v0] m = (den prog ann 44 [.code b] ⟨[(0, v0)], 67, Mem.empty⟩).bind fun r => some (r.1, m) := (denC_pure hf (b := b) (by kernel_rfl) (by kernel_rfl) (by kernel_rfl) h m).trans (by kernel_rfl)
theorem pure_eq : (ann 44).pure = true := by kernel_rfl
attribute [simp] b_eq r0_eq r1_eq r2_eq i0_eq i0t_eq r3_eq i0e_eq r4_eq k0_eq l0_eq r5_eq i1_eq i1t_eq i1e_eq k1_eq r6_eq r7_eq k2_eq l2_eq k3_eq r8_eq r9_eq r10_eq i2_eq i2t_eq r11_eq i2e_eq r12_eq r13_eq i3_eq i3t_eq r14_eq i3e_eq r15_eq r16_eq ret_eq nil_eq inBlock_eq exit_eq pure_eq
end
end brand_Groups
namespace slices_Index_int
noncomputable section
variable (K : List Item) (s : St)
def b : Code := (Try.f75.body).getD .skip
theorem hf : prog.funcs[75]? = some Try.f75 := by kernel_rfl
def r0 := findReg b 0
def r1 := findReg b 1
def k0 := findBlk b 0
def l0 := loopOf k0
def L0 (x0 x1 x7 x8 : AV) (m : Mem) (K : List Item) : Option Res := den prog ann 75 (.code l0 :: .inLoop l0 :: .inBlock 0 :: K) ⟨[(0, x0), (1, x1), (7, x7), (8, x8)], 19, m⟩
def r2 := findReg b 2
def i0 := findCond b 0
def i0t := thenOf i0
def i0e := elseOf i0
def k1 := findBlk b 1
def r3 := findReg b 3
def r4 := findReg b 4
def i1 := findCond b 1
def i1t := thenOf i1
def i1e := elseOf i1
def r5 := findReg b 5
def r6 := findReg b 6
def r7 := findReg b 7
theorem b_eq : den prog ann 75 (.code b :: K) s = den prog ann 75 (.code r0 :: .code r1 :: .code k0 :: .code r7 :: .code .ret :: K) s := den_flat hf (l := [r0, r1, k0, r7, .ret]) (by kernel_rfl) K s
theorem r0_eq : den prog ann 75 (.code r0 :: K) s = mreg prog ann 75 none [] none [] [qF 4 fun s => some (.int .i64 0)] K s := (den_reg hf _ K s).trans (by kernel_rfl)
theorem r1_eq : den prog ann 75 (.code r1 :: K) s = mreg prog ann 75 none [] none [] [qC 6 0,qA 7 lenSl 6,qF 8 fun s => some (.int .i64 0)] K s := (den_reg hf _ K s).trans (by kernel_rfl)
theorem k0_eq (K : List Item) (t : List (Nat × AV)) (m : Mem) : den prog ann 75 (.code k0 :: K) ⟨t, 19, m⟩ = L0 (get t 0) (get t 1) (get t 7) (get t 8) m K := den_loop_enter hf (b := l0) (id := 2) (l := [0, 1, 7, 8]) (by kernel_rfl) (by kernel_rfl) (by kernel_rfl) K _
theorem l0_eq (K : List Item) (t : List (Nat × AV)) (m : Mem) : den prog ann 75 (.inLoop l0 :: .inBlock 0 :: K) ⟨t, 19, m⟩ = L0 (get t 0) (get t 1) (get t 7) (get t 8) m K := den_loop_again hf (id := 2) (l := [0, 1, 7, 8]) (by kernel_rfl) (by kernel_rfl) (.inBlock 0 :: K) _
theorem L0_eq (x0 x1 x7 x8 : AV) (m : Mem) (K : List Item) : L0 x0 x1 x7 x8 m K = den prog ann 75 (.code r2 :: .code i0 :: .code k1 :: .code r6 :: .inLoop l0 :: .inBlock 0 :: K) ⟨[(0, x0), (1, x1), (7, x7), (8, x8)], 19, m⟩ := den_flat hf (l := [r2, i0, k1, r6]) (by kernel_rfl) _ _
theorem r2_eq : den prog ann 75 (.code r2 :: K) s = mreg prog ann 75 (some [0, 1, 7, 8]) [] none [] [qB 9 (binA prog .lss 3) 8 7] K s := (den_reg hf _ K s).trans (by kernel_rfl)
theorem i0_eq : den prog ann 75 (.code i0 :: K) s = ifV prog ann 75 9 i0t i0e K s (s.get 9) := den_if hf (by kernel_rfl) K s
theorem i0t_eq : den prog ann 75 (.code i0t :: K) s = den prog ann 75 (K) s := den_flat hf (l := []) (by kernel_rfl) K s
theorem i0e_eq : den prog ann 75 (.code i0e :: K) s = den prog ann 75 (.code (.exit 0) :: K) s := den_flat hf (l := [(.exit 0)]) (by kernel_rfl) K s
theorem k1_eq : den prog ann 75 (.code k1 :: K) s = den prog ann 75 (.code r3 :: .code r4 :: .code i1 :: .inBlock 1 :: K) s := den_blk hf (b := blkOf k1) (l := [r3, r4, i1]) (by kernel_rfl) (by kernel_rfl) K s
theorem r3_eq : den prog ann 75 (.code r3 :: K) s = mreg prog ann 75 none [] none [] [qC 10 8,qC 5 10] K s := (den_reg hf _ K s).trans (by kernel_rfl)
theorem r4_eq : den prog ann 75 (.code r4 :: K) s = mreg prog ann 75 none [] none [] [qC 11 1,qC 12 0,qC 13 5,qB 14 (idxSl 1) 12 13,qA 15 (loadF false 1) 14,qB 16 (binA prog .eql 3) 11 15] K s := (den_reg hf _ K s).trans (by kernel_rfl)
theorem i1_eq : den prog ann 75 (.code i1 :: K) s = ifV prog ann 75 16 i1t i1e K s (s.get 16) := den_if hf (by kernel_rfl) K s
theorem i1t_eq : den prog ann 75 (.code i1t :: K) s = den prog ann 75 (.code r5 :: .code .ret :: K) s := den_flat hf (l := [r5, .ret]) (by kernel_rfl) K s
theorem r5_eq : den prog ann 75 (.code r5 :: K) s = mreg prog ann 75 none [] none [] [qC 17 5,qC 4 17] K s := (den_reg hf _ K s).trans (by kernel_rfl)
theorem i1e_eq : den prog ann 75 (.code i1e :: K) s = den prog ann 75 (K) s := den_flat hf (l := []) (by kernel_rfl) K s
theorem r6_eq : den prog ann 75 (.code r6 :: K) s = mreg prog ann 75 (some [0, 1, 7, 8]) [] none [] [qF 18 fun s => binA prog .add 3 (s.get 8) (.int .i64 1),qC 8 18] K s := (den_reg hf _ K s).trans (by kernel_rfl)
theorem r7_eq : den prog ann 75 (.code r7 :: K) s = mreg prog ann 75 (some []) [] none [] [qF 4 fun s => some (.int .i64 (-1))] K s := (den_reg hf _ K s).trans (by kernel_rfl)
theorem ret_eq : den prog ann 75 (.code .ret :: K) s = finM true [fun s => some (s.get 4)] s := (den_ret hf K s).trans (by kernel_rfl)
theorem nil_eq (s : St) : den prog ann 75 [] s = finM true [fun s => some (s.get 4)] s := (den_nil hf s).trans (by kernel_rfl)
theorem inBlock_eq (id : Nat) (K : List Item) (s : St) : den prog ann 75 (.inBlock id :: K) s = den prog ann 75 K s := den_inBlock hf id K s
theorem exit_eq (id : Nat) (K : List Item) (s : St) : den prog ann 75 (.code (.exit id) :: K) s = exitV prog ann 75 (exitTo id K) s := den_exitV hf id K s
theorem call_eq (v0 v1 : AV) (m : Mem) (h : closedL [v0, v1] = true) : denC prog ann 75 [v0, v1] m = (den prog ann 75 [.code b] ⟨[(0, v0), (1, v1)], 19, Mem.empty⟩).bind fun r => some (r.1, m) := (denC_pure hf (b := b) (by kernel_rfl) (by kernel_rfl) (by kernel_rfl) h m).trans (by kernel_rfl)
theorem pure_eq : (ann 75).pure = true := by kernel_rfl
attribute [simp] b_eq r0_eq r1_eq k0_eq l0_eq r2_eq i0_eq i0t_eq i0e_eq k1_eq r3_eq r4_eq i1_eq i1t_eq r5_eq i1e_eq r6_eq r7_eq ret_eq nil_eq inBlock_eq exit_eq pure_eq
end
end slices_Index_int
end Go.Proofs.Ythnpflkpjimkfaa

/-
  GROUPS: what the program returns. Conditions: none.
-/
namespace Go.Proofs.Ythnpflkpjimkfaa
open Go.AM
open Go.Proofs.Try (prog)
set_option linter.all false
set_option maxRecDepth 100000
set_option maxHeartbeats 8000000
def idxN (l : List Nat) (x : Nat) : Int := if x ∈ l then ((l.idxOf x : Nat) : Int) else -1
theorem index_loop {ex : Bool} {l : List Nat} {x : Nat} (hl : l.length ≤ 1000) : ∀ (c j : Nat) (m : Mem), j + c = l.length → (∀ i, i < j → l[i]? ≠ some x) →
    slices_Index_int.L0 (.fsl ex l.length (natL l)) (.int .i64 (x : Nat)) (.int .i64 l.length) (.int .i64 j) m [.code slices_Index_int.r7, .code .ret] = some (.int .i64 (idxN l x), Mem.empty) := by
  intro c
  induction c with
  | zero =>
    intro j m h1 h0
    have e : j = l.length := by omega
    subst e
    have : x ∉ l := by
      intro hs
      obtain ⟨i, hi⟩ := List.getElem?_of_mem hs
      exact h0 i (List.getElem?_eq_some_iff.1 hi).1 hi
    rw [idxN, if_neg this, slices_Index_int.L0_eq]
    simp
    done
  | succ c ih =>
    intro j m h1 h0
    have hj : j < l.length := by omega
    have hwj : IntKind.wrap .i64 ((j : Int) + 1) = (j : Int) + 1 := wrap_id (by omega) (by omega)
    have hx := List.getElem?_eq_getElem hj
    have hd := natL_head hj
    generalize l[j] = y at hx hd
    by_cases q : y = x
    · subst q
      have hm := List.mem_of_getElem? hx
      have hi : l.idxOf y = j := by
        have h2 : l.idxOf y < l.length := List.idxOf_lt_length_iff.2 hm
        have h3 : l[l.idxOf y]? = some y := by rw [List.getElem?_eq_getElem h2]; simp
        rcases Nat.lt_trichotomy (l.idxOf y) j with c | c | c
        · exact absurd h3 (h0 _ c)
        · exact c
        · exfalso
          have e := (List.getElem?_eq_some_iff.1 hx).2
          have := List.not_of_lt_findIdx (xs := l) (p := (· == y)) (i := j) (by simpa [List.idxOf] using c)
          simp [e] at this
      rw [idxN, if_pos hm, hi, slices_Index_int.L0_eq]
      simp [hj, hd, -List.head?_drop]
      done
    · have st := fun m => ih (j + 1) m (by omega) (fun i hi => by
        by_cases e : i = j
        · subst e; rw [hx]; intro e; exact q (Option.some.inj e)
        · exact h0 i (by omega))
      simp only [Int.natCast_add, Int.cast_ofNat_Int] at st
      have q' : ¬ ((x : Nat) : Int) = (y : Nat) := by omega
      rw [slices_Index_int.L0_eq]
      simp [hj, hd, q', hwj, st, -List.head?_drop]
      done
theorem index_spec {ex : Bool} {l : List Nat} {x : Nat} (hl : l.length ≤ 1000) (m : Mem) :
    denC prog ann 75 [.fsl ex l.length (natL l), .int .i64 (x : Nat)] m = some (.int .i64 (idxN l x), m) := by
  have lp := fun m => index_loop (ex := ex) (x := x) hl l.length 0 m (by omega) (by omega)
  simp only [Int.ofNat_zero, Int.cast_ofNat_Int] at lp
  rw [slices_Index_int.call_eq _ _ _ (by simp)]
  simp [lp]
  done
def pw (rows : List (List Int)) (S : SM) (i : Nat) : Nat → Nat
  | 0 => i
  | t + 1 => pr rows S (pw rows S i t) i
theorem pw_lt {rows : List (List Int)} {good : List Bool} {k : Nat} (v : VB rows good k) {S : SM} (W : MW rows k S) {i : Nat} (hi : i < S.1.length) : ∀ t, pw rows S i t < S.1.length
  | 0 => hi
  | t + 1 => pr_lt v W (pw_lt v W hi t) hi
theorem pw_H (rows : List (List Int)) (S : SM) (i : Nat) : ∀ a b, pw rows S i a = pw rows S i b → pw rows S i (a + 1) = pw rows S i (b + 1) := fun a b h => by rw [pw, pw, h]
open Classical in
noncomputable def perd (rows : List (List Int)) (S : SM) (i : Nat) : Nat := if h : ∃ p, IsPer (pw rows S i) S.1.length p then Classical.choose h else 1
theorem perd_eq {rows : List (List Int)} {S : SM} {i p : Nat} (h : IsPer (pw rows S i) S.1.length p) : perd rows S i = p := by
  have e : ∃ p, IsPer (pw rows S i) S.1.length p := ⟨p, h⟩
  rw [perd, dif_pos e]
  exact (Classical.choose_spec e).uniq h
def pwL (rows : List (List Int)) (S : SM) (i c : Nat) : List Nat := (List.range c).map (pw rows S i)
noncomputable def KG0 : List Item := [.code brand_Groups.r16, .code .ret]
noncomputable def KG2 : List Item := .inBlock 1 :: .code brand_Groups.r15 :: .inLoop brand_Groups.l0 :: .inBlock 0 :: KG0
theorem gr_in {nv gv : AV} {ps : List AV} {rows : List (List Int)} {good : List Bool} {k : Nat} (hn : IsRows nv ps rows) (hg : IsB gv good) (v : VB rows good k) {S : SM} (W : MW rows k S) {i : Nat} (hi : i < S.1.length) {R : Nat} {r : Option Res}
    (h1' : 1 < perd rows S i → r = some (.tup [.str (wrd S i), .int .i64 (perd rows S i : Nat), .int .i64 0], Mem.empty))
    (h2' : perd rows S i = 1 → ∀ h' nx', brand_Groups.L0 (monV nv gv S) (wdsV S) (.int .i64 S.2.length) (.int .i64 ((i : Int) + 1)) ⟨h', nx'⟩ KG0 = r) :
    ∀ (f c : Nat) (h : Nat → Option AObj) (nx0 : Nat), S.1.length < f + c → 1 ≤ c → c ≤ S.1.length → R < nx0 → (∀ a b, a < b → b < c → pw rows S i a ≠ pw rows S i b) → h R = some (.cells (natL (pwL rows S i c))) →
    brand_Groups.L2 (monV nv gv S) (.str (wrd S i)) (.sl R 1 0 c c) (wdsV S) (.int .i64 S.2.length) (.int .i64 i) ⟨h, nx0⟩ KG2 = r := by
  have hle := W.ok.le
  have hlen := W.ok.len
  intro f
  induction f with
  | zero => intro c h nx0 e1 e2 e3; omega
  | succ f ih =>
    intro c h nx0 e1 e2 e3 hR hd h0
    have hiw : IntKind.wrap .i64 ((i : Int) + 1) = (i : Int) + 1 := wrap_id (by omega) (by omega)
    have pl : (pwL rows S i c).length = c := by simp [pwL]
    have hcw : IntKind.wrap .i64 ((c : Int) - 1) = ((c - 1 : Nat) : Int) := by rw [wrap_id (by omega) (by omega)]; omega
    have hc1 : c - 1 < c := by omega
    have hlp : (natL (pwL rows S i c))[c - 1]? = some (.int .i64 (pw rows S i (c - 1) : Nat)) := by
      simp [natL, natV, pwL, hc1]
    have hlq := (List.getElem?_eq_some_iff.1 hlp).2
    have hlt := pw_lt v W hi (c - 1)
    obtain ⟨w1, w2, w3, w4⟩ := W.wok hlt
    obtain ⟨u1, u2, u3, u4⟩ := W.wok hi
    have hdw : ((S.2.map AV.str).drop (pw rows S i (c - 1))).head? = some (.str (wrd S (pw rows S i (c - 1)))) := by rw [List.head?_drop, List.getElem?_map, w1]; rfl
    have hlt2 : pw rows S i (c - 1) < S.2.length := by omega
    have hnm := fun m => number_spec hn hg v W (w := wrd S (pw rows S i (c - 1)) ++ wrd S i) (okW_app w2 u2) (by simp; omega) m
    have hnx : numM rows S (wrd S (pw rows S i (c - 1)) ++ wrd S i) = pw rows S i c := by
      conv => rhs; rw [show c = (c - 1) + 1 by omega, pw, pr]
    rw [hnx] at hnm
    have hll : (wrd S (pw rows S i (c - 1))).length + (wrd S i).length ≤ 4611686018427387904 := by omega
    have hix := fun m => index_spec (ex := false) (l := pwL rows S i c) (x := pw rows S i c) (by omega) m
    rw [pl] at hix
    have tk : (natL (pwL rows S i c)).take c = natL (pwL rows S i c) := List.take_of_length_le (by simp [pl])
    have hmp : ∀ d, mapO (AM.deep h (d + 1)) (natL (pwL rows S i c)) = some (natL (pwL rows S i c)) := fun d => mapO_same _ (fun x hx => by
      simp only [natL, List.mem_map] at hx
      obtain ⟨b, _, rfl⟩ := hx
      rfl)
    have hnl : (natL (pwL rows S i c)).length = c := by simp [pl]
    have hmc : (monV nv gv S).closed = true := rfl
    by_cases q : pw rows S i c ∈ pwL rows S i c
    · -- it was there before
      have hid : idxN (pwL rows S i c) (pw rows S i c) = (((pwL rows S i c).idxOf (pw rows S i c) : Nat) : Int) := by rw [idxN, if_pos q]
      have hil := List.idxOf_lt_length_iff.2 q
      rw [pl] at hil
      have hat : pw rows S i c = pw rows S i ((pwL rows S i c).idxOf (pw rows S i c)) := by
        have h3 : (pwL rows S i c)[(pwL rows S i c).idxOf (pw rows S i c)]? = some (pw rows S i c) := by rw [List.getElem?_eq_getElem (by omega)]; simp
        generalize (pwL rows S i c).idxOf (pw rows S i c) = at' at *
        simp [pwL, hil] at h3
        exact h3.symm
      rw [hid] at hix
      generalize (pwL rows S i c).idxOf (pw rows S i c) = at' at *
      have hp := per_first (pw_H rows S i) (N := S.1.length) hil hat hd (by omega)
      have hpe := perd_eq hp
      have hsub : IntKind.wrap .i64 ((c : Int) - (at' : Int)) = ((c - at' : Nat) : Int) := by rw [wrap_id (by omega) (by omega)]; omega
      have hneg : ¬ ((at' : Nat) : Int) < 0 := by omega
      rw [brand_Groups.L2_eq]
      simp only [wdsV, monV] at h2' hnm hmc ⊢
      by_cases g : 1 < c - at'
      · have g' : (1 : Int) < ((c - at' : Nat) : Int) := by omega
        rw [hpe] at h1'
        rw [h1' g]
        simp [e2, hc1, AV.flat, AV.flat1, h0, hlq, hnl, hcw, hlt2, hdw, hll, hmc, hnm, tk, hmp, hix, hneg, hsub, g', -List.head?_drop, -List.map_drop]
        done
      · have g' : ¬ (1 : Int) < ((c - at' : Nat) : Int) := by omega
        have h2 := h2' (by omega)
        simp [e2, hc1, AV.flat, AV.flat1, h0, hlq, hnl, hcw, hlt2, hdw, hll, hmc, hnm, tk, hmp, hix, hneg, hsub, g', KG2, hiw, h2, -List.head?_drop, -List.map_drop]
        done
    · have hid : idxN (pwL rows S i c) (pw rows S i c) = -1 := by rw [idxN, if_neg q]
      rw [hid] at hix
      have hd' : ∀ a b, a < b → b < c + 1 → pw rows S i a ≠ pw rows S i b := fun a b ab hb => by
        by_cases e : b = c
        · subst e
          intro e
          exact q (e ▸ List.mem_map.2 ⟨a, by simpa using ab, rfl⟩)
        · exact hd a b ab (by omega)
      have hcN := rep_few (pw_lt v W hi) hd'
      have he : natL (pwL rows S i c) ++ [.int .i64 (pw rows S i c : Nat)] = natL (pwL rows S i (c + 1)) := by simp [natL, natV, pwL, List.range_succ]
      have hnl1 : (natL (pwL rows S i (c + 1))).length = c + 1 := by simp [pwL]
      have st := ih (c + 1) (upd h R (some (.cells (natL (pwL rows S i (c + 1)))))) (nx0 + 17) (by omega) (by omega) hcN (by omega) hd' (by simp)
      rw [brand_Groups.L2_eq]
      simp only [wdsV, monV] at st hnm hmc ⊢
      simp [e2, hc1, AV.flat, AV.flat1, h0, hlq, hnl, hcw, hlt2, hdw, hll, hmc, hnm, tk, hmp, hix, he, hnl1, show c ≤ 4611686018427387903 by omega, show (c + 1) * 8 ≤ 70368744177664 by omega, st, -List.head?_drop, -List.map_drop]
      done
noncomputable def grpV (rows : List (List Int)) (S : SM) (c i : Nat) : AV := match (List.range' i c).find? (fun i => decide (1 < perd rows S i)) with
  | some i => .tup [.str (wrd S i), .int .i64 (perd rows S i : Nat), .int .i64 0]
  | none => .tup [.str [], .int .i64 0, .int .i64 5]
theorem grpV_succ (rows : List (List Int)) (S : SM) (c i : Nat) : grpV rows S (c + 1) i = if 1 < perd rows S i then .tup [.str (wrd S i), .int .i64 (perd rows S i : Nat), .int .i64 0] else grpV rows S c (i + 1) := by
  rw [grpV, List.range'_succ, List.find?_cons]
  by_cases q : 1 < perd rows S i
  · simp [q]
  · simp [q, grpV]
theorem per_ex (f : Nat → Nat) (N : Nat) (H : ∀ a b, f a = f b → f (a + 1) = f (b + 1)) (hb : ∀ t, f t < N) : ∃ p, IsPer f N p := by
  have key : ∀ (j c : Nat), N < j + c → c ≤ N → (∀ a b, a < b → b < c → f a ≠ f b) → ∃ p, IsPer f N p := by
    intro j
    induction j with
    | zero => intro c h1 h2; omega
    | succ j ih =>
      intro c h1 h2 hd
      by_cases q : ∃ a, a < c ∧ f c = f a
      · obtain ⟨a, ha, e⟩ := q
        exact ⟨_, per_first H ha e hd (by omega)⟩
      · have hd' : ∀ a b, a < b → b < c + 1 → f a ≠ f b := fun a b ab hb e => by
          by_cases g : b = c
          · subst g; exact q ⟨a, ab, e.symm⟩
          · exact hd a b ab (by omega) e
        exact ih (c + 1) (by omega) (rep_few hb hd') hd'
  exact key (N + 1) 0 (by omega) (by omega) (by omega)
theorem perd_is {rows : List (List Int)} {good : List Bool} {k : Nat} (v : VB rows good k) {S : SM} (W : MW rows k S) {i : Nat} (hi : i < S.1.length) : IsPer (pw rows S i) S.1.length (perd rows S i) := by
  obtain ⟨p, hp⟩ := per_ex (pw rows S i) S.1.length (pw_H rows S i) (pw_lt v W hi)
  rw [perd_eq hp]; exact hp
theorem gr_out {nv gv : AV} {ps : List AV} {rows : List (List Int)} {good : List Bool} {k : Nat} (hn : IsRows nv ps rows) (hg : IsB gv good) (v : VB rows good k) {S : SM} (W : MW rows k S) :
    ∀ (c i : Nat) (h : Nat → Option AObj) (nx0 : Nat), i + c = S.1.length →
    brand_Groups.L0 (monV nv gv S) (wdsV S) (.int .i64 S.2.length) (.int .i64 i) ⟨h, nx0⟩ KG0 = some (grpV rows S c i, Mem.empty) := by
  intro c
  have hle := W.ok.le
  have hlen := W.ok.len
  induction c with
  | zero =>
    intro i h nx0 h1
    have e : i = S.2.length := by omega
    subst e
    rw [brand_Groups.L0_eq]
    simp [KG0, grpV]
    done
  | succ c ih =>
    intro i h nx0 h1
    have hi : i < S.1.length := by omega
    have hi2 : i < S.2.length := by omega
    obtain ⟨u1, u2, u3, u4⟩ := W.wok hi
    have hdw : ((S.2.map AV.str).drop i).head? = some (.str (wrd S i)) := by rw [List.head?_drop, List.getElem?_map, u1]; rfl
    have hp := perd_is v W hi
    have h1p := hp.ps
    have st := gr_in hn hg v W hi (R := nx0) (r := some (grpV rows S (c + 1) i, Mem.empty)) (fun q => by rw [grpV_succ, if_pos q]) (fun q h' nx' => by
      have := ih (i + 1) h' nx' (by omega)
      rw [grpV_succ, if_neg (by omega)]
      simpa using this) (S.1.length) 1 (upd h nx0 (some (.cells [.int .i64 i]))) (nx0 + 1) (by omega) (by omega) (by omega) (by omega) (by omega) (by simp [natL, natV, pwL, pw])
    simp only [KG2] at st
    rw [brand_Groups.L0_eq]
    simp only [wdsV, monV] at st ⊢
    simp [hi2, hdw, -List.head?_drop, -List.map_drop]
    exact st
theorem groups_spec {nv gv : AV} {ps : List AV} {rows : List (List Int)} {good : List Bool} (hn : IsRows nv ps rows) (hg : IsB gv good) (hl : rows.length ≤ 1000) (hgl : good.length ≤ 1000) (hr : ∀ i, i < rows.length → (cth rows i).length ≤ 1000) (m : Mem) :
    denC prog ann 44 [.agg [nv, gv]] m = some (if validB rows good = true then (match madeB rows good (cth rows 0).length with | some S => grpV (rowsM rows good (cth rows 0).length) S S.1.length 0 | none => .tup [.str [], .int .i64 0, .int .i64 7]) else .tup [.str [], .int .i64 0, .int .i64 1], m) := by
  have h1 := fun m => made_spec hn hg hl hgl hr m
  rw [brand_Groups.call_eq _ _ (by simp [hn.closed, hg.closed])]
  cases c0 : validB rows good with
  | false =>
    rw [c0] at h1
    simp [hn.one, hg.one, hn.closed, hg.closed, h1]
    done
  | true =>
    rw [c0, if_pos rfl] at h1
    have v := VB.of c0
    cases e : madeB rows good (cth rows 0).length with
    | none =>
      rw [e] at h1
      simp only [mdR] at h1
      simp [hn.one, hg.one, hn.closed, hg.closed, h1]
      done
    | some S =>
      have W := MW_of v e
      have vm := VB_M v
      rw [e] at h1
      simp only [mdR] at h1
      have lp := fun h nx0 => gr_out (isRows_M rows good (cth rows 0).length) (isB_M rows good (cth rows 0).length) vm W S.1.length 0 h nx0 (by omega)
      simp only [Int.ofNat_zero, Int.cast_ofNat_Int, KG0] at lp
      simp only [monV, wdsV] at h1 lp
      simp [hn.one, hg.one, hn.closed, hg.closed, h1, lp]
      done
end Go.Proofs.Ythnpflkpjimkfaa

/-
  PERIODS: the specification's; SIMPLE: what the program returns. Conditions: none.
-/
namespace Go.Proofs.Ythnpflkpjimkfaa
open Go.AM
open Go.Proofs.Try (prog)
set_option linter.all false
set_option maxRecDepth 100000
set_option maxHeartbeats 8000000
def smp (S : SM) (l : List (List Nat)) : List UInt8 × List UInt8 × Bool := match l.find? (fun c => decide (1 < c.length)) with
  | some c => (wrd S (c.getD 0 0), wrd S (c.getD 1 0), true)
  | none => ([], [], false)
def smpV (S : SM) (l : List (List Nat)) : AV := .tup [.str (smp S l).1, .str (smp S l).2.1, .int .i64 (if (smp S l).2.2 = true then 0 else 5)]
theorem smp_cons (S : SM) (c : List Nat) (l : List (List Nat)) : smp S (c :: l) = if 1 < c.length then (wrd S (c.getD 0 0), wrd S (c.getD 1 0), true) else smp S l := by
  rw [smp, List.find?_cons]
  by_cases q : 1 < c.length
  · simp [q]
  · simp [q, smp]
theorem clF_head {S : SM} {l : List (List Nat)} {i : Nat} (h : i < l.length) : ((l.map (clF S)).drop i).head? = some (.fsl false l[i].length (clV S l[i])) := by
  rw [List.head?_drop]; simp [clF, h]
theorem clV_head {S : SM} {c : List Nat} {i : Nat} (h : i < c.length) : ((clV S c).drop i).head? = some (.str (wrd S (c.getD i 0))) := by
  rw [List.head?_drop]; simp [clV, h, List.getD_eq_getElem?_getD]
theorem si_loop {S : SM} {l : List (List Nat)} (hl : l.length ≤ 1000) : ∀ (c i : Nat) (m : Mem), i + c = l.length →
    brand_Simple.L0 (clsV S l) (.int .i64 l.length) (.int .i64 i) m [.code brand_Simple.r10, .code .ret] = some (smpV S (l.drop i), Mem.empty) := by
  intro c
  induction c with
  | zero =>
    intro i m h1
    have e : i = l.length := by omega
    subst e
    rw [brand_Simple.L0_eq]
    simp [smpV, smp]
    done
  | succ c ih =>
    intro i m h1
    have hi : i < l.length := by omega
    have hwi : IntKind.wrap .i64 ((i : Int) + 1) = (i : Int) + 1 := wrap_id (by omega) (by omega)
    have t1 := clF_head (S := S) hi
    have st := fun m => ih (i + 1) m (by omega)
    simp only [Int.natCast_add, Int.cast_ofNat_Int] at st
    have hdc : l.drop i = l[i] :: l.drop (i + 1) := by rw [List.drop_eq_getElem_cons hi]
    rw [hdc, smpV, smp_cons]
    generalize l[i] = C at *
    rw [brand_Simple.L0_eq]
    simp only [clsV] at st ⊢
    by_cases q : 1 < C.length
    · have q' : (1 : Int) < (C.length : Int) := by omega
      have t2 := clV_head (S := S) (c := C) (i := 0) (by omega)
      have t3 := clV_head (S := S) (c := C) (i := 1) (by omega)
      rw [List.drop_zero] at t2
      rw [if_pos q]
      simp [hi, t1, q, q', t2, t3, show 0 < C.length by omega, -List.head?_drop, -List.map_drop]
      simp [clV]
      done
    · have q' : ¬ (1 : Int) < (C.length : Int) := by omega
      rw [if_neg q]
      simp [hi, t1, q, q', hwi, st, smpV, -List.head?_drop, -List.map_drop]
      done
theorem simple_spec {nv gv : AV} {ps : List AV} {rows : List (List Int)} {good : List Bool} (hn : IsRows nv ps rows) (hg : IsB gv good) (hl : rows.length ≤ 1000) (hgl : good.length ≤ 1000) (hr : ∀ i, i < rows.length → (cth rows i).length ≤ 1000) (m : Mem) :
    denC prog ann 52 [.agg [nv, gv]] m = some (if validB rows good = true then (match madeB rows good (cth rows 0).length with | some S => smpV S (clsM (rowsM rows good (cth rows 0).length) S (cth rows 0).length true true) | none => .tup [.str [], .str [], .int .i64 7]) else .tup [.str [], .str [], .int .i64 1], m) := by
  have h1 := fun m => classed_spec hn hg hl hgl hr true true m
  rw [brand_Simple.call_eq _ _ (by simp [hn.closed, hg.closed])]
  cases c0 : validB rows good with
  | false =>
    rw [c0] at h1
    simp [hn.one, hg.one, hn.closed, hg.closed, h1]
    done
  | true =>
    rw [c0, if_pos rfl] at h1
    have v := VB.of c0
    cases e : madeB rows good (cth rows 0).length with
    | none =>
      rw [e] at h1
      simp [hn.one, hg.one, hn.closed, hg.closed, h1]
      done
    | some S =>
      have W := MW_of v e
      have wl := W.ok.le
      rw [e] at h1
      simp only [] at h1 ⊢
      have few := (clsL_few (eqB (rowsM rows good (cth rows 0).length) S (cth rows 0).length true true) S.1.length).1
      have lp := fun m => si_loop (S := S) (l := clsM (rowsM rows good (cth rows 0).length) S (cth rows 0).length true true) (by rw [clsM]; omega) (clsM (rowsM rows good (cth rows 0).length) S (cth rows 0).length true true).length 0 m (by omega)
      simp only [Int.ofNat_zero, Int.cast_ofNat_Int, List.drop_zero] at lp
      generalize clsM (rowsM rows good (cth rows 0).length) S (cth rows 0).length true true = l at *
      simp only [clsV] at h1 lp
      simp [hn.one, hg.one, hn.closed, hg.closed, h1, lp]
      done
end Go.Proofs.Ythnpflkpjimkfaa

/-
  POWERS: idempotent ones; how long the first word with a period is: plain law. Conditions: none.
-/
namespace Go.Proofs.Ythnpflkpjimkfaa
open Go.AM
open Go.Proofs.Try (prog)
set_option linter.all false
set_option maxRecDepth 100000
set_option maxHeartbeats 8000000
theorem first_rep (f : Nat → Nat) (N : Nat) (hb : ∀ t, f t < N) : ∃ c a, a < c ∧ c ≤ N ∧ f c = f a ∧ ∀ x y, x < y → y < c → f x ≠ f y := by
  have key : ∀ (j c : Nat), N < j + c → c ≤ N → (∀ x y, x < y → y < c → f x ≠ f y) → ∃ c a, a < c ∧ c ≤ N ∧ f c = f a ∧ ∀ x y, x < y → y < c → f x ≠ f y := by
    intro j
    induction j with
    | zero => intro c h1 h2; omega
    | succ j ih =>
      intro c h1 h2 hd
      by_cases q : ∃ a, a < c ∧ f c = f a
      · obtain ⟨a, ha, e⟩ := q
        exact ⟨c, a, ha, h2, e, hd⟩
      · have hd' : ∀ x y, x < y → y < c + 1 → f x ≠ f y := fun x y xy hy e => by
          by_cases g : y = c
          · subst g; exact q ⟨x, xy, e.symm⟩
          · exact hd x y xy (by omega) e
        exact ih (c + 1) (by omega) (rep_few hb hd') hd'
  exact key (N + 1) 0 (by omega) (by omega) (by omega)
section
variable {rows : List (List Int)} {good : List Bool} {k : Nat} {S : SM}
theorem pw_add (v : VB rows good k) (W : MW rows k S) {i : Nat} (hi : i < S.1.length) (s : Nat) : ∀ t, pr rows S (pw rows S i s) (pw rows S i t) = pw rows S i (s + t + 1)
  | 0 => rfl
  | t + 1 => by
    rw [show pw rows S i (t + 1) = pr rows S (pw rows S i t) i from rfl, ← pr_assoc v W (pw_lt v W hi s) (pw_lt v W hi t) hi, pw_add v W hi s t]
    rfl
def gi (rows : List (List Int)) (u : List UInt8) : Nat → Nat → Nat
  | 0, s => s
  | t + 1, s => goL rows u (gi rows u t s)
structure Cyc (rows : List (List Int)) (u : List UInt8) (s j : Nat) : Prop where
  lt : s < rows.length
  ne : goL rows u s ≠ s
  ps : 1 ≤ j
  bk : gi rows u j s = s
end
def arr : Nat → List Nat → List (List Nat)
  | 0, _ => [[]]
  | p + 1, av => av.flatMap fun x => (arr p (av.erase x)).map (x :: ·)
end Go.Proofs.Ythnpflkpjimkfaa

/-
  GREEN: left and right classes of a finite monoid: plain law. Conditions: none.
-/
namespace Go.Proofs.Ythnpflkpjimkfaa
open Go.AM
open Go.Proofs.Try (prog)
set_option linter.all false
set_option maxRecDepth 100000
set_option maxHeartbeats 8000000
structure FM (m : Nat → Nat → Nat) (N : Nat) : Prop where
  cl : ∀ a b, a < N → b < N → m a b < N
  asc : ∀ a b c, a < N → b < N → c < N → m (m a b) c = m a (m b c)
  ps : 0 < N
  un : ∀ a, a < N → m 0 a = a ∧ m a 0 = a
section
variable {m : Nat → Nat → Nat} {N : Nat}
def bR (m : Nat → Nat → Nat) (N x y : Nat) : Prop := ∃ u, u < N ∧ m x u = y
def bL (m : Nat → Nat → Nat) (N x y : Nat) : Prop := ∃ u, u < N ∧ m u x = y
def bJ (m : Nat → Nat → Nat) (N x y : Nat) : Prop := ∃ u, u < N ∧ ∃ v, v < N ∧ m (m u x) v = y
def eR (m : Nat → Nat → Nat) (N x y : Nat) : Prop := bR m N x y ∧ bR m N y x
def eL (m : Nat → Nat → Nat) (N x y : Nat) : Prop := bL m N x y ∧ bL m N y x
def eJ (m : Nat → Nat → Nat) (N x y : Nat) : Prop := bJ m N x y ∧ bJ m N y x
theorem bR.tr (F : FM m N) {x y z : Nat} (hx : x < N) (h : bR m N x y) (g : bR m N y z) : bR m N x z := by
  obtain ⟨u, hu, rfl⟩ := h
  obtain ⟨v, hv, rfl⟩ := g
  exact ⟨m u v, F.cl _ _ hu hv, (F.asc _ _ _ hx hu hv).symm⟩
theorem bL.tr (F : FM m N) {x y z : Nat} (hx : x < N) (h : bL m N x y) (g : bL m N y z) : bL m N x z := by
  obtain ⟨u, hu, rfl⟩ := h
  obtain ⟨v, hv, rfl⟩ := g
  exact ⟨m v u, F.cl _ _ hv hu, F.asc _ _ _ hv hu hx⟩
theorem bJ.tr (F : FM m N) {x y z : Nat} (hx : x < N) (h : bJ m N x y) (g : bJ m N y z) : bJ m N x z := by
  obtain ⟨u, hu, v, hv, rfl⟩ := h
  obtain ⟨u', hu', v', hv', rfl⟩ := g
  have h1 := F.cl _ _ hu hx
  refine ⟨m u' u, F.cl _ _ hu' hu, m v v', F.cl _ _ hv hv', ?_⟩
  rw [← F.asc u' (m u x) v hu' h1 hv, F.asc (m u' (m u x)) v v' (F.cl _ _ hu' h1) hv hv', F.asc u' u x hu' hu hx]
theorem bR.j (F : FM m N) {x y : Nat} (hx : x < N) (h : bR m N x y) : bJ m N x y := by
  obtain ⟨u, hu, e⟩ := h
  exact ⟨0, F.ps, u, hu, by rw [(F.un x hx).1]; exact e⟩
theorem bL.j (F : FM m N) {x y : Nat} (hx : x < N) (h : bL m N x y) : bJ m N x y := by
  obtain ⟨u, hu, e⟩ := h
  exact ⟨u, hu, 0, F.ps, by rw [e]; exact (F.un y (e ▸ F.cl _ _ hu hx)).2⟩
def mp (m : Nat → Nat → Nat) (x : Nat) : Nat → Nat
  | 0 => x
  | t + 1 => m (mp m x t) x
theorem mp_lt (F : FM m N) {x : Nat} (hx : x < N) : ∀ t, mp m x t < N
  | 0 => hx
  | t + 1 => F.cl _ _ (mp_lt F hx t) hx
theorem mp_add (F : FM m N) {x : Nat} (hx : x < N) (s : Nat) : ∀ t, m (mp m x s) (mp m x t) = mp m x (s + t + 1)
  | 0 => rfl
  | t + 1 => by
    rw [show mp m x (t + 1) = m (mp m x t) x from rfl, ← F.asc _ _ _ (mp_lt F hx s) (mp_lt F hx t) hx, mp_add F hx s t]
    rfl
theorem mp_idem (F : FM m N) {x : Nat} (hx : x < N) : ∃ t, m (mp m x t) (mp m x t) = mp m x t := by
  obtain ⟨c, a, ha, hc, e, hd⟩ := first_rep (mp m x) N (mp_lt F hx)
  have H : ∀ a b, mp m x a = mp m x b → mp m x (a + 1) = mp m x (b + 1) := fun a b h => by rw [mp, mp, h]
  have key : ∀ (q t : Nat), a ≤ t → mp m x (t + (c - a) * q) = mp m x t := by
    intro q
    induction q with
    | zero => intro t _; rfl
    | succ q ih =>
      intro t ht
      rw [Nat.mul_succ, ← Nat.add_assoc, per_add H ha e (by omega), ih t ht]
  refine ⟨(c - a) * (a + 1) - 1, ?_⟩
  have h1 : a + 1 ≤ (c - a) * (a + 1) := Nat.le_mul_of_pos_left _ (by omega)
  rw [mp_add F hx, show (c - a) * (a + 1) - 1 + ((c - a) * (a + 1) - 1) + 1 = (c - a) * (a + 1) - 1 + (c - a) * (a + 1) by omega]
  exact key _ _ (by omega)
theorem stab_r (F : FM m N) {a x b : Nat} (ha : a < N) (hx : x < N) (hb : b < N) (h : m (m a x) b = x) : ∃ t, m x (mp m b t) = x := by
  obtain ⟨t, ht⟩ := mp_idem F hb
  have key : ∀ t, m (m (mp m a t) x) (mp m b t) = x := by
    intro t
    induction t with
    | zero => exact h
    | succ t ih =>
      have h1 := mp_lt F ha t
      have h2 := mp_lt F hb t
      have e1 : mp m a (t + 1) = m (mp m a t) a := rfl
      have e2 : mp m b (t + 1) = m b (mp m b t) := by
        have := mp_add F hb 0 t
        rw [show mp m b 0 = b from rfl, Nat.zero_add] at this
        exact this.symm
      rw [e1, e2, ← F.asc _ _ _ (F.cl _ _ (F.cl _ _ h1 ha) hx) hb h2, F.asc (mp m a t) a x h1 ha hx, F.asc (mp m a t) (m a x) b h1 (F.cl _ _ ha hx) hb, h, ih]
  have h1 := mp_lt F ha t
  have h2 := mp_lt F hb t
  refine ⟨t, ?_⟩
  have h3 := key t
  have h4 : m (m (m (mp m a t) x) (mp m b t)) (mp m b t) = m x (mp m b t) := by rw [h3]
  rw [F.asc _ _ _ (F.cl _ _ h1 hx) h2 h2, ht, h3] at h4
  exact h4.symm
theorem stab_l (F : FM m N) {a x b : Nat} (ha : a < N) (hx : x < N) (hb : b < N) (h : m (m a x) b = x) : ∃ t, m (mp m a t) x = x := by
  obtain ⟨t, ht⟩ := mp_idem F ha
  have key : ∀ t, m (m (mp m a t) x) (mp m b t) = x := by
    intro t
    induction t with
    | zero => exact h
    | succ t ih =>
      have h1 := mp_lt F ha t
      have h2 := mp_lt F hb t
      have e1 : mp m a (t + 1) = m (mp m a t) a := rfl
      have e2 : mp m b (t + 1) = m b (mp m b t) := by
        have := mp_add F hb 0 t
        rw [show mp m b 0 = b from rfl, Nat.zero_add] at this
        exact this.symm
      rw [e1, e2, ← F.asc _ _ _ (F.cl _ _ (F.cl _ _ h1 ha) hx) hb h2, F.asc (mp m a t) a x h1 ha hx, F.asc (mp m a t) (m a x) b h1 (F.cl _ _ ha hx) hb, h, ih]
  have h1 := mp_lt F ha t
  have h2 := mp_lt F hb t
  refine ⟨t, ?_⟩
  have h3 := key t
  have h4 : m (mp m a t) (m (m (mp m a t) x) (mp m b t)) = m (mp m a t) x := by rw [h3]
  rw [← F.asc _ _ _ h1 (F.cl _ _ h1 hx) h2, ← F.asc _ _ _ h1 h1 hx, ht, h3] at h4
  exact h4.symm
theorem mp_fst (F : FM m N) {x : Nat} (hx : x < N) : ∀ t, ∃ z, z < N ∧ mp m x t = m x z
  | 0 => ⟨0, F.ps, (F.un x hx).2.symm⟩
  | t + 1 => ⟨mp m x t, mp_lt F hx t, by
      have := mp_add F hx 0 t
      rw [show mp m x 0 = x from rfl, Nat.zero_add] at this
      exact this.symm⟩
theorem mp_lst (F : FM m N) {x : Nat} (hx : x < N) : ∀ t, ∃ z, z < N ∧ mp m x t = m z x
  | 0 => ⟨0, F.ps, (F.un x hx).1.symm⟩
  | t + 1 => ⟨mp m x t, mp_lt F hx t, rfl⟩
theorem eR_of (F : FM m N) {x y : Nat} (hx : x < N) (h : bR m N x y) (g : bJ m N y x) : eR m N x y := by
  refine ⟨h, ?_⟩
  obtain ⟨s, hs, rfl⟩ := h
  obtain ⟨u, hu, v, hv, e⟩ := g
  have e' : m (m u x) (m s v) = x := by rw [← F.asc _ _ _ (F.cl _ _ hu hx) hs hv, F.asc u x s hu hx hs]; exact e
  have hsv := F.cl _ _ hs hv
  obtain ⟨t, ht⟩ := stab_r F hu hx hsv e'
  obtain ⟨z, hz, e2⟩ := mp_fst F hsv t
  rw [e2, F.asc s v z hs hv hz, ← F.asc x s _ hx hs (F.cl _ _ hv hz)] at ht
  exact ⟨m v z, F.cl _ _ hv hz, ht⟩
theorem eL_of (F : FM m N) {x y : Nat} (hx : x < N) (h : bL m N x y) (g : bJ m N y x) : eL m N x y := by
  refine ⟨h, ?_⟩
  obtain ⟨s, hs, rfl⟩ := h
  obtain ⟨u, hu, v, hv, e⟩ := g
  have e' : m (m (m u s) x) v = x := by rw [F.asc u s x hu hs hx]; exact e
  have hus := F.cl _ _ hu hs
  obtain ⟨t, ht⟩ := stab_l F hus hx hv e'
  obtain ⟨z, hz, e2⟩ := mp_lst F hus t
  rw [e2, ← F.asc z u s hz hu hs, F.asc _ s x (F.cl _ _ hz hu) hs hx] at ht
  exact ⟨m z u, F.cl _ _ hz hu, ht⟩
theorem d_is_j (F : FM m N) {x y : Nat} (hx : x < N) (h : eJ m N x y) : ∃ c, c < N ∧ eR m N x c ∧ eL m N c y := by
  obtain ⟨⟨u, hu, v, hv, e⟩, g⟩ := h
  have hc := F.cl _ _ hx hv
  have hxc : bR m N x (m x v) := ⟨v, hv, rfl⟩
  have hcy : bL m N (m x v) y := ⟨u, hu, by rw [← F.asc u x v hu hx hv]; exact e⟩
  refine ⟨m x v, hc, eR_of F hx hxc ((hcy.j F hc).tr F hc g), eL_of F hc hcy (g.tr F (e ▸ F.cl _ _ (F.cl _ _ hu hx) hv) (hxc.j F hx))⟩
theorem eR.sy {x y : Nat} (h : eR m N x y) : eR m N y x := ⟨h.2, h.1⟩
theorem eL.sy {x y : Nat} (h : eL m N x y) : eL m N y x := ⟨h.2, h.1⟩
theorem eR.tr (F : FM m N) {x y z : Nat} (hx : x < N) (hz : z < N) (h : eR m N x y) (g : eR m N y z) : eR m N x z := ⟨h.1.tr F hx g.1, g.2.tr F hz h.2⟩
theorem eL.tr (F : FM m N) {x y z : Nat} (hx : x < N) (hz : z < N) (h : eL m N x y) (g : eL m N y z) : eL m N x z := ⟨h.1.tr F hx g.1, g.2.tr F hz h.2⟩
theorem eR.j (F : FM m N) {x y : Nat} (hx : x < N) (hy : y < N) (h : eR m N x y) : eJ m N x y := ⟨h.1.j F hx, h.2.j F hy⟩
theorem eL.j (F : FM m N) {x y : Nat} (hx : x < N) (hy : y < N) (h : eL m N x y) : eJ m N x y := ⟨h.1.j F hx, h.2.j F hy⟩
end
end Go.Proofs.Ythnpflkpjimkfaa

/-
  BODIES OF FUNCTIONS OF THE PROGRAM AS SMALL OPERATIONS (written by gen.py; checked by the kernel against the program). Conditions: none.
-/
namespace Go.Proofs.Ythnpflkpjimkfaa
open Go.AM
open Go.Proofs.Try (prog)
set_option maxRecDepth 100000
set_option linter.all false
end Go.Proofs.Ythnpflkpjimkfaa

/-
  MAPS IN MEMORY AS FUNCTIONS; WHICH CLASS EACH WORD IS IN: what the law's function returns. Conditions: none.
-/
namespace Go.Proofs.Ythnpflkpjimkfaa
open Go.AM
open Go.Proofs.Try (prog)
set_option linter.all false
set_option maxRecDepth 100000
set_option maxHeartbeats 8000000
theorem sc9 (s : List UInt8) : scV prog 9 (.str s) = true := by simp [scV, u9]
theorem keysW (ok : List UInt8 → Prop) : Keys 9 AV.str ok := by
  refine ⟨fun a b _ _ => ?_, fun a _ => sc9 a⟩
  by_cases e : a = b
  · simp [keyEq, sc9, eqSc, e]
  · simp [keyEq, sc9, eqSc, e]
section
variable {t : TypeId} {α β : Type} [DecidableEq α] {enc : α → AV} {ok : α → Prop} {ev : β → AV}
theorem lkP_app {c : α} {v : β} : ∀ {ks : List α} {vs : List β}, ks.length = vs.length → c ∉ ks → ∀ x, lkP (ks ++ [c]) (vs ++ [v]) x = if x = c then some v else lkP ks vs x
  | [], [], _, _, x => by simp [lkP]
  | [], _ :: _, h, _, _ => by simp at h
  | _ :: _, [], h, _, _ => by simp at h
  | k :: ks, w :: vs, h, hm, x => by
    simp only [List.mem_cons, not_or] at hm
    have ih := lkP_app (c := c) (v := v) (ks := ks) (vs := vs) (by simpa using h) hm.2 x
    simp only [List.cons_append, lkP, ih]
    by_cases e : x = k
    · have : ¬ x = c := fun g => hm.1 (by rw [← g, e])
      rw [if_pos e, if_neg this, if_pos e]
    · rw [if_neg e, if_neg e]
theorem setK_gen (hk : Keys t enc ok) (v : β) : ∀ {ks : List α} {vs : List β} {c : α}, (∀ a ∈ ks, ok a) → ok c → ks.length = vs.length →
    ∃ ks' vs', setK prog t (enc c) (ev v) (ks.map enc) (vs.map ev) = some (ks'.map enc, vs'.map ev) ∧ ((c ∈ ks ∧ ks' = ks) ∨ (c ∉ ks ∧ ks' = ks ++ [c])) ∧ ks'.length = vs'.length ∧ ∀ x, lkP ks' vs' x = if x = c then some v else lkP ks vs x
  | [], [], c, _, _, _ => ⟨[c], [v], rfl, .inr ⟨by simp, rfl⟩, rfl, fun x => by simp [lkP]⟩
  | [], _ :: _, _, _, _, h => by simp at h
  | _ :: _, [], _, _, _, h => by simp at h
  | k :: ks, w :: vs, c, h, hc, hl => by
    by_cases e : c = k
    · subst e
      refine ⟨c :: ks, v :: vs, ?_, .inl ⟨by simp, rfl⟩, by simpa using hl, fun x => ?_⟩
      · simp only [List.map_cons, setK, hk.eq c c hc hc, Option.bind_some]
        simp
      · simp only [lkP]
        by_cases g : x = c
        · rw [if_pos g, if_pos g]
        · rw [if_neg g, if_neg g, if_neg g]
    · obtain ⟨ks', vs', h1, h2, h3, h4⟩ := setK_gen hk v (ks := ks) (vs := vs) (c := c) (fun a ha => h a (by simp [ha])) hc (by simpa using hl)
      refine ⟨k :: ks', w :: vs', ?_, ?_, by simp [h3], fun x => ?_⟩
      · simp only [List.map_cons, setK, hk.eq c k hc (h k (by simp)), Option.bind_some]
        simp [e, h1]
      · rcases h2 with ⟨a, b⟩ | ⟨a, b⟩
        · exact .inl ⟨by simp [a], by rw [b]⟩
        · exact .inr ⟨by simp [e, a], by rw [b]; rfl⟩
      · simp only [lkP, h4 x]
        by_cases g : x = k
        · have : ¬ x = c := fun q => e (by rw [← q, g])
          rw [if_pos g, if_neg this, if_pos g]
        · rw [if_neg g, if_neg g]
structure Mf (enc : α → AV) (ok : α → Prop) (ev : β → AV) (h : Nat → Option AObj) (id : Nat) (f : α → Option β) : Prop where
  ex : ∃ g ks vs, h id = some (.map g (ks.map enc) (vs.map ev)) ∧ ks.Nodup ∧ (∀ a ∈ ks, ok a) ∧ ks.length = vs.length ∧ ∀ c, lkP ks vs c = f c
variable {h : Nat → Option AObj} {id : Nat} {f : α → Option β}
theorem Mf.fr {h' : Nat → Option AObj} (M : Mf enc ok ev h id f) (e : h' id = h id) : Mf enc ok ev h' id f := by
  obtain ⟨g, ks, vs, h1, r⟩ := M.ex
  exact ⟨g, ks, vs, by rw [e, h1], r⟩
theorem Mf.new (e : h id = some (.map 0 [] [])) : Mf enc ok ev h id (fun _ => none) := ⟨0, [], [], e, by simp, by simp, rfl, fun _ => rfl⟩
def lkZ (ev : β → AV) (z : AV) (b : Bool) : Option β → AV
  | some v => bif b then .tup [ev v, .bool true] else ev v
  | none => bif b then .tup [z, .bool false] else z
theorem Mf.look (hk : Keys t enc ok) (M : Mf enc ok ev h id f) {c : α} (hc : ok c) (z : AV) (b : Bool) (nx : Nat) : lookP prog ⟨h, nx⟩ t z (.map id) (enc c) b = some (lkZ ev z b (f c)) := by
  obtain ⟨g, ks, vs, h1, h2, h3, h4, h5⟩ := M.ex
  simp only [lookP, hk.key c hc, cond_true, lookA, h1, findK_of hk h3 hc h4, Option.bind_some, h5 c]
  cases f c <;> rfl
def putF (f : α → Option β) (c : α) (v : β) : α → Option β := fun x => if x = c then some v else f x
theorem Mf.put (hk : Keys t enc ok) (M : Mf enc ok ev h id f) {c : α} (hc : ok c) (v : β) : ∃ o, (∀ nx, updM prog ⟨h, nx⟩ t (.map id) (enc c) (ev v) = some (.tup [], ⟨upd h id o, nx⟩)) ∧ ∀ h', h' id = o → Mf enc ok ev h' id (putF f c v) := by
  obtain ⟨g, ks, vs, h1, h2, h3, h4, h5⟩ := M.ex
  obtain ⟨ks', vs', e1, e2, e3, e4⟩ := setK_gen (ev := ev) hk v h3 hc h4
  refine ⟨some (.map (g + 1) (ks'.map enc) (vs'.map ev)), fun nx => ?_, fun h' eh => ⟨g + 1, ks', vs', eh, ?_, ?_, e3, fun x => by rw [e4, h5, putF]⟩⟩
  · simp only [updM, updP, hk.key c hc, cond_true, h1, e1, Option.bind_some, Option.map_some]
    rfl
  · rcases e2 with ⟨a, b⟩ | ⟨a, b⟩
    · rw [b]; exact h2
    · rw [b, List.nodup_append]
      exact ⟨h2, by simp, fun x hx y hy => by
        simp at hy; subst hy
        intro e; subst e; exact a hx⟩
  · rcases e2 with ⟨a, b⟩ | ⟨a, b⟩
    · rw [b]; exact h3
    · rw [b]
      intro x hx
      rcases List.mem_append.1 hx with hx | hx
      · exact h3 x hx
      · simp at hx; rw [hx]; exact hc
theorem findI_gen (hk : Keys t enc ok) : ∀ {ks : List α} {c : α} (j : Nat), (∀ a ∈ ks, ok a) → ok c → findI prog t (enc c) (ks.map enc) j = some (if c ∈ ks then some (j + ks.idxOf c) else none)
  | [], c, j, _, _ => rfl
  | k :: ks, c, j, h, hc => by
    have ih := findI_gen hk (ks := ks) (c := c) (j + 1) (fun a ha => h a (by simp [ha])) hc
    by_cases e : c = k
    · subst e
      simp only [List.map_cons, findI, hk.eq c c hc hc, Option.bind_some]
      simp
    · have e' : ¬ k = c := fun g => e g.symm
      have e2 : (k == c) = false := beq_eq_false_iff_ne.2 e'
      have e3 : keyEq prog t (enc c) (enc k) = some false := by rw [hk.eq c k hc (h k (by simp)), decide_eq_false e]
      simp only [List.map_cons, findI, e3, Option.bind_some, cond_false, ih, List.mem_cons, e, false_or, List.idxOf_cons, e2]
      by_cases g : c ∈ ks
      · rw [if_pos g, if_pos g]; congr 2; omega
      · rw [if_neg g, if_neg g]
theorem lkP_mem {ks : List α} {vs : List β} {c : α} (hl : ks.length = vs.length) (hn : ks.Nodup) (hm : c ∈ ks) : ∃ w, vs[ks.idxOf c]? = some w ∧ lkP ks vs c = some w := by
  have h2 : ks.idxOf c < ks.length := List.idxOf_lt_length_iff.2 hm
  have h3 : ks[ks.idxOf c]? = some c := by rw [List.getElem?_eq_getElem h2]; simp
  have h4 : ks.idxOf c < vs.length := by omega
  exact ⟨vs[ks.idxOf c], List.getElem?_eq_getElem h4, lkP_at hn h3 (List.getElem?_eq_getElem h4)⟩
theorem lkP_set : ∀ {ks : List α} {vs : List β} {c : α} (v : β), ks.length = vs.length → ks.Nodup → c ∈ ks → ∀ x, lkP ks (vs.set (ks.idxOf c) v) x = if x = c then some v else lkP ks vs x
  | [], _, c, v, _, _, h, _ => by simp at h
  | _ :: _, [], _, _, h, _, _, _ => by simp at h
  | k :: ks, w :: vs, c, v, hl, hn, hm, x => by
    rw [List.nodup_cons] at hn
    by_cases e : c = k
    · subst e
      simp only [List.idxOf_cons_self, List.set_cons_zero, lkP]
      by_cases g : x = c
      · rw [if_pos g, if_pos g]
      · rw [if_neg g, if_neg g, if_neg g]
    · have e2 : (k == c) = false := beq_eq_false_iff_ne.2 fun g => e g.symm
      have hm' : c ∈ ks := by simpa [e] using hm
      have ih := lkP_set (vs := vs) v (by simpa using hl) hn.2 hm' x
      simp only [List.idxOf_cons, e2, cond_false, List.set_cons_succ, lkP, ih]
      by_cases g : x = k
      · have : ¬ x = c := fun q => e (by rw [← q, g])
        rw [if_pos g, if_neg this, if_pos g]
      · rw [if_neg g, if_neg g]
theorem Mf.inc (hk : Keys t enc ok) (M : Mf enc ok ev h id f) {c : α} (hc : ok c) (z : β) : ∃ o1 st ov, (∀ nx, AM.entP prog ⟨h, nx⟩ t (ev z) (.map id) (enc c) = some (.tup [ov, st], ⟨upd h id o1, nx⟩)) ∧
    ∀ v, ∃ o2, (∀ h1 nx, h1 id = o1 → entS ⟨h1, nx⟩ (.map id) st (ev v) = some (.tup [], ⟨upd h1 id o2, nx⟩)) ∧ ∀ h', h' id = o2 → Mf enc ok ev h' id (putF f c v) := by
  obtain ⟨g, ks, vs, h1, h2, h3, h4, h5⟩ := M.ex
  by_cases hm : c ∈ ks
  · obtain ⟨w, w1, w2⟩ := lkP_mem h4 h2 hm
    have hi : ks.idxOf c < ks.length := List.idxOf_lt_length_iff.2 hm
    have hset : (ks.map enc).set (ks.idxOf c) (enc c) = ks.map enc := by
      refine List.ext_getElem (by simp) fun i a b => ?_
      rw [List.getElem_set]
      split
      · rename_i e
        subst e
        simp
      · rfl
    refine ⟨some (.map (g + 1) (ks.map enc) (vs.map ev)), .int .i64 (ks.idxOf c : Nat), ev w, fun nx => ?_, fun v => ⟨some (.map (g + 1 + 1) (ks.map enc) ((vs.set (ks.idxOf c) v).map ev)), fun h' nx e => ?_, fun h' e => ⟨g + 1 + 1, ks, vs.set (ks.idxOf c) v, e, h2, h3, by simp [h4], fun x => by rw [lkP_set v h4 h2 hm, h5, putF]⟩⟩⟩
    · simp only [AM.entP, hk.key c hc, cond_true, h1, findI_gen hk 0 h3 hc, if_pos hm, Option.bind_some, Nat.zero_add, List.getElem?_map, w1, Option.map_some, hset]
      rfl
    · have hv : ks.idxOf c < vs.length := by omega
      simp [entS, entryStA, e, inR, hv, Mem.set]
  · refine ⟨some (.map (g + 1) ((ks ++ [c]).map enc) ((vs ++ [z]).map ev)), .int .i64 (ks.length : Nat), ev z, fun nx => ?_, fun v => ⟨some (.map (g + 1 + 1) ((ks ++ [c]).map enc) ((vs ++ [v]).map ev)), fun h' nx e => ?_, fun h' e => ⟨g + 1 + 1, ks ++ [c], vs ++ [v], e, ?_, ?_, by simp [h4], fun x => by rw [lkP_app h4 hm, h5, putF]⟩⟩⟩
    · simp only [AM.entP, hk.key c hc, cond_true, h1, findI_gen hk 0 h3 hc, if_neg hm, Option.bind_some, List.length_map]
      simp [Mem.set]
    · have : (vs ++ [z]).length = ks.length + 1 := by simp [h4]
      have hs : ((vs ++ [z]).map ev).set ks.length (ev v) = (vs ++ [v]).map ev := by
        rw [h4]; simp
      have h7 : ((vs.length : Nat) : Int) < (vs.length : Nat) + 1 := by omega
      simp [entS, entryStA, e, inR, Mem.set, h4, h7]
    · rw [List.nodup_append]
      exact ⟨h2, by simp, fun x hx y hy => by
        simp at hy; subst hy
        intro e; subst e; exact hm hx⟩
    · intro x hx
      rcases List.mem_append.1 hx with hx | hx
      · exact h3 x hx
      · simp at hx; rw [hx]; exact hc
end
end Go.Proofs.Ythnpflkpjimkfaa

/-
  SETS OF PARTS: their two forms, their names, and that they stand for one another. Conditions: none.
-/
namespace Go.Proofs.Ythnpflkpjimkfaa
open Go.AM
open Go.Proofs.Try (prog)
set_option linter.all false
set_option maxRecDepth 100000
set_option maxHeartbeats 8000000
theorem cmpL_eq : ∀ x y : List UInt8, cmpL x y = 0 → x = y
  | [], [], _ => rfl
  | [], _ :: _, h => by simp [cmpL] at h
  | _ :: _, [], h => by simp [cmpL] at h
  | a :: x, b :: y, h => by
    rw [cmpL] at h
    by_cases h1 : a < b
    · simp [h1] at h
    · by_cases h2 : b < a
      · simp [h1, h2] at h
      · rw [if_neg h1, if_neg h2] at h
        rw [cmpL_eq x y h, UInt8.le_antisymm (UInt8.not_lt.1 h2) (UInt8.not_lt.1 h1)]
theorem lessW_tri (x y : List UInt8) : lessW x y = true ∨ x = y ∨ lessW y x = true := by
  unfold lessW
  rw [← cmp_less, ← cmp_less, cmpL_swap x y]
  rcases Nat.lt_trichotomy x.length y.length with h | h | h
  · left; simp [h]
  · rcases Int.lt_trichotomy (cmpL x y) 0 with g | g | g
    · left; simp [h, g]
    · right; left; exact cmpL_eq x y g
    · right; right; simp [h]; omega
  · right; right; simp [h]
theorem lessW_iff (x y : List UInt8) : lessW x y = true ↔ rk x < rk y := by
  refine ⟨lessW_rk, fun h => ?_⟩
  rcases lessW_tri x y with g | g | g
  · exact g
  · subst g; omega
  · have := lessW_rk g; omega
theorem rk_inj {x y : List UInt8} (h : rk x = rk y) : x = y := by
  rcases lessW_tri x y with g | g | g
  · have := lessW_rk g; omega
  · exact g
  · have := lessW_rk g; omega
theorem sortR_uniq : ∀ {a b : WL}, a.Pairwise (fun u w => rk u < rk w) → b.Pairwise (fun u w => rk u < rk w) → (∀ w, w ∈ a ↔ w ∈ b) → a = b
  | [], [], _, _, _ => rfl
  | [], y :: b, _, _, h => by have := (h y).2 (by simp); simp at this
  | x :: a, [], _, _, h => by have := (h x).1 (by simp); simp at this
  | x :: a, y :: b, ha, hb, h => by
    have ha' := List.pairwise_cons.1 ha
    have hb' := List.pairwise_cons.1 hb
    have h1 : x ∈ y :: b := (h x).1 (by simp)
    have h2 : y ∈ x :: a := (h y).2 (by simp)
    have e : x = y := by
      rcases List.mem_cons.1 h1 with e | h1
      · exact e
      · rcases List.mem_cons.1 h2 with e | h2
        · exact e.symm
        · have := hb'.1 x h1; have := ha'.1 y h2; omega
    subst e
    have : a = b := sortR_uniq ha'.2 hb'.2 fun w => by
      constructor
      · intro hw
        rcases List.mem_cons.1 ((h w).1 (by simp [hw])) with e | g
        · subst e; have := ha'.1 w hw; omega
        · exact g
      · intro hw
        rcases List.mem_cons.1 ((h w).2 (by simp [hw])) with e | g
        · subst e; have := hb'.1 w hw; omega
        · exact g
    rw [this]
theorem sortP_uniq {a b : WL} (ha : a.Pairwise (· ≤ ·)) (hb : b.Pairwise (· ≤ ·)) (na : a.Nodup) (nb : b.Nodup) (h : ∀ w, w ∈ a ↔ w ∈ b) : a = b :=
  sortedS_uniq ha hb ((List.perm_ext_iff_of_nodup na nb).2 h)
structure PSet (k K : Nat) (l : WL) : Prop where
  nd : l.Nodup
  ok : ∀ w ∈ l, okW k w ∧ w.length ≤ K
  nil : [] ∈ l
def U3 : WL := [[]] ++ ((List.range 3).map fun a => [UInt8.ofNat (97 + a)]) ++ ((List.range 3).flatMap fun a => (List.range 3).map fun b => [UInt8.ofNat (97 + a), UInt8.ofNat (97 + b)]) ++
  ((List.range 3).flatMap fun a => (List.range 3).flatMap fun b => (List.range 3).map fun c => [UInt8.ofNat (97 + a), UInt8.ofNat (97 + b), UInt8.ofNat (97 + c)])
theorem U3_len : U3.length = 40 := by decide
theorem let3 {k : Nat} (k3 : k ≤ 3) {c : UInt8} (h : 97 ≤ c.toNat ∧ c.toNat - 97 < k) : ∃ a, a < 3 ∧ c = UInt8.ofNat (97 + a) := by
  refine ⟨c.toNat - 97, by omega, ?_⟩
  have : 97 + (c.toNat - 97) = c.toNat := by omega
  rw [this]; simp
theorem U3_mem {k K : Nat} (k3 : k ≤ 3) (K3 : K ≤ 3) {w : List UInt8} (h : okW k w) (hl : w.length ≤ K) : w ∈ U3 := by
  match w, h, hl with
  | [], _, _ => decide
  | [x], h, _ =>
    obtain ⟨a, ha, rfl⟩ := let3 k3 (h x (by simp))
    rcases (by omega : a = 0 ∨ a = 1 ∨ a = 2) with rfl | rfl | rfl <;> decide
  | [x, y], h, _ =>
    obtain ⟨a, ha, rfl⟩ := let3 k3 (h x (by simp))
    obtain ⟨b, hb, rfl⟩ := let3 k3 (h y (by simp))
    rcases (by omega : a = 0 ∨ a = 1 ∨ a = 2) with rfl | rfl | rfl <;> rcases (by omega : b = 0 ∨ b = 1 ∨ b = 2) with rfl | rfl | rfl <;> decide
  | [x, y, z], h, _ =>
    obtain ⟨a, ha, rfl⟩ := let3 k3 (h x (by simp))
    obtain ⟨b, hb, rfl⟩ := let3 k3 (h y (by simp))
    obtain ⟨c, hc, rfl⟩ := let3 k3 (h z (by simp))
    rcases (by omega : a = 0 ∨ a = 1 ∨ a = 2) with rfl | rfl | rfl <;> rcases (by omega : b = 0 ∨ b = 1 ∨ b = 2) with rfl | rfl | rfl <;> rcases (by omega : c = 0 ∨ c = 1 ∨ c = 2) with rfl | rfl | rfl <;> decide
  | _ :: _ :: _ :: _ :: _, _, hl => simp at hl; omega
theorem PSet.le {k K : Nat} (k3 : k ≤ 3) (K3 : K ≤ 3) {l : WL} (h : PSet k K l) : l.length ≤ 40 := by
  have := nodup_sub h.nd (L := U3) fun w hw => U3_mem k3 K3 (h.ok w hw).1 (h.ok w hw).2
  rwa [U3_len] at this
theorem PSet.pos {k K : Nat} {l : WL} (h : PSet k K l) : 0 < l.length := List.length_pos_of_mem h.nil
theorem PSet.wl {k K : Nat} (K3 : K ≤ 3) {l : WL} (h : PSet k K l) : ∀ w ∈ l, w.length ≤ 10 := fun w hw => by have := (h.ok w hw).2; omega
def Adds (K : Nat) (l : WL) (x : List UInt8) (o : WL) : Prop := ∀ w, w ∈ o ↔ w ∈ l ∨ ∃ p ∈ l, p.length < K ∧ w = p ++ x
theorem addP_adds (K : Nat) (l : WL) (x : List UInt8) : Adds K l x (addP K l x) := by
  intro w
  rw [addP, (sortS_perm _).mem_iff, List.mem_append, List.mem_map]
  simp only [List.mem_filter, Bool.and_eq_true, Bool.not_eq_true', decide_eq_true_eq, decide_eq_false_iff_not]
  constructor
  · rintro (h | ⟨p, ⟨h1, h2, h3⟩, rfl⟩)
    · exact .inl h
    · exact .inr ⟨p, h1, h2, rfl⟩
  · rintro (h | ⟨p, h1, h2, rfl⟩)
    · exact .inl h
    · by_cases g : p ++ x ∈ l
      · exact .inl g
      · exact .inr ⟨p, ⟨h1, h2, g⟩, rfl⟩
theorem addR_adds {k K : Nat} {l : WL} (h : PSet k K l) (x : List UInt8) : Adds K l x (addR K l x) := by
  intro w
  rw [addR, addR_mem]
  constructor
  · rintro (g | ⟨p, h1, h2, h3⟩)
    · exact .inl g
    · exact .inr ⟨p, h1, by have := (h.ok p h1).2; omega, h3⟩
  · rintro (g | ⟨p, h1, h2, h3⟩)
    · exact .inl g
    · exact .inr ⟨p, h1, by omega, h3⟩
theorem ltr_ok {k a : Nat} (ha : a < k) (k3 : k ≤ 3) : okW k (ltr a) := by
  have := okW_ext (okW_nil k) ha k3
  simpa [extL] using this
theorem Adds.pset {k K a : Nat} {l o : WL} (h : PSet k K l) (A : Adds K l (ltr a) o) (ha : a < k) (k3 : k ≤ 3) (nd : o.Nodup) : PSet k K o := by
  refine ⟨nd, fun w hw => ?_, (A []).2 (.inl h.nil)⟩
  rcases (A w).1 hw with g | ⟨p, h1, h2, rfl⟩
  · exact h.ok w g
  · exact ⟨okW_app (h.ok p h1).1 (ltr_ok ha k3), by simp [ltr]; omega⟩
theorem addP_nd {K : Nat} {l : WL} (h : l.Nodup) (x : List UInt8) : (addP K l x).Nodup := by
  rw [addP, (sortS_perm _).nodup_iff, List.nodup_append]
  refine ⟨h, ?_, ?_⟩
  · unfold List.Nodup
    rw [List.pairwise_map]
    refine (List.Pairwise.filter _ h).imp fun hne e => hne ?_
    exact List.append_cancel_right e
  · intro u hu w hw e
    subst e
    rw [List.mem_map] at hw
    obtain ⟨p, h1, rfl⟩ := hw
    rw [List.mem_filter, Bool.and_eq_true, Bool.not_eq_true', decide_eq_false_iff_not] at h1
    exact h1.2.2 hu
theorem addP_pset {k K a : Nat} {l : WL} (h : PSet k K l) (ha : a < k) (k3 : k ≤ 3) : PSet k K (addP K l (ltr a)) := (addP_adds K l (ltr a)).pset h ha k3 (addP_nd h.nd _)
theorem addP_srt (K : Nat) (l : WL) (x : List UInt8) : (addP K l x).Pairwise (· ≤ ·) := sortS_sorted _
theorem insR_srt (n : List UInt8) : ∀ {l : WL}, l.Pairwise (fun u w => rk u < rk w) → (insR n l).Pairwise (fun u w => rk u < rk w)
  | [], _ => by simp [insR]
  | y :: r, h => by
    have h' := List.pairwise_cons.1 h
    rw [insR]
    split
    · rename_i g
      have g := lessW_rk g
      refine List.pairwise_cons.2 ⟨fun z hz => ?_, insR_srt n h'.2⟩
      rcases (insR_mem n r z).1 hz with rfl | hz
      · exact g
      · exact h'.1 z hz
    · split
      · exact h
      · rename_i g e
        have g2 : rk n < rk y := by
          rcases lessW_tri y n with q | q | q
          · exact absurd q g
          · exact absurd q e
          · exact lessW_rk q
        refine List.pairwise_cons.2 ⟨fun z hz => ?_, h⟩
        rcases List.mem_cons.1 hz with rfl | hz
        · exact g2
        · have := h'.1 z hz; omega
theorem addR_srt {K : Nat} {x : List UInt8} : ∀ (l : WL) {o : WL}, o.Pairwise (fun u w => rk u < rk w) → (l.foldl (addR1 K x) o).Pairwise (fun u w => rk u < rk w)
  | [], _, h => h
  | p :: l, o, h => by
    rw [List.foldl_cons]
    refine addR_srt l ?_
    unfold addR1
    split
    · exact h
    · exact insR_srt _ h
theorem srtR_nd {l : WL} (h : l.Pairwise (fun u w => rk u < rk w)) : l.Nodup := by
  unfold List.Nodup
  exact h.imp fun g e => by subst e; omega
theorem addR_pset {k K a : Nat} {l : WL} (h : PSet k K l) (s : l.Pairwise (fun u w => rk u < rk w)) (ha : a < k) (k3 : k ≤ 3) : PSet k K (addR K l (ltr a)) := (addR_adds h (ltr a)).pset h ha k3 (srtR_nd (addR_srt l s))
theorem take_sep {s : UInt8} : ∀ {p r : List UInt8}, s ∉ p → (r = [] ∨ ∃ t, r = s :: t) → (p ++ r).takeWhile (fun c => decide (c ≠ s)) = p
  | [], r, _, h => by
    rcases h with rfl | ⟨t, rfl⟩ <;> simp
  | c :: p, r, h, h2 => by
    simp only [List.mem_cons, not_or] at h
    have : c ≠ s := fun e => h.1 e.symm
    rw [List.cons_append, List.takeWhile_cons, if_pos (by simpa using this), take_sep h.2 h2]
theorem sep_cut {s : UInt8} {p p' r r' : List UInt8} (h : s ∉ p) (h' : s ∉ p') (e : r = [] ∨ ∃ t, r = s :: t) (e' : r' = [] ∨ ∃ t, r' = s :: t) (g : p ++ r = p' ++ r') : p = p' ∧ r = r' := by
  have := take_sep h e
  rw [g, take_sep h' e'] at this
  subst this
  exact ⟨rfl, List.append_cancel_left g⟩
theorem nameL_cons (p : List UInt8) (l : WL) : nameL (p :: l) = 32 :: (p ++ nameL l) := by simp [nameL]
theorem nameL_sep : ∀ l : WL, nameL l = [] ∨ ∃ t, nameL l = 32 :: t
  | [] => .inl rfl
  | p :: l => .inr ⟨_, nameL_cons p l⟩
theorem nameL_inj : ∀ {l l' : WL}, (∀ w ∈ l, (32 : UInt8) ∉ w) → (∀ w ∈ l', (32 : UInt8) ∉ w) → nameL l = nameL l' → l = l'
  | [], [], _, _, _ => rfl
  | [], p :: l, _, _, h => by rw [nameL_cons] at h; simp [nameL] at h
  | p :: l, [], _, _, h => by rw [nameL_cons] at h; simp [nameL] at h
  | p :: l, p' :: l', h1, h2, h => by
    rw [nameL_cons, nameL_cons, List.cons.injEq] at h
    obtain ⟨rfl, e⟩ := sep_cut (h1 p (by simp)) (h2 p' (by simp)) (nameL_sep l) (nameL_sep l') h.2
    rw [nameL_inj (fun w hw => h1 w (by simp [hw])) (fun w hw => h2 w (by simp [hw])) e]
theorem okW_sep {k : Nat} {s : UInt8} (hs : s.toNat < 97) {w : List UInt8} (h : okW k w) : s ∉ w := fun g => by
  have := (h s g).1; omega
abbrev PT := Nat × WL
structure OkP (n k K : Nat) (x : PT) : Prop where
  lt : x.1 < n
  p : PSet k K x.2
  s : x.2.Pairwise (· ≤ ·)
structure OkR (n k K : Nat) (x : PT) : Prop where
  lt : x.1 < n
  p : PSet k K x.2
  s : x.2.Pairwise (fun u w => rk u < rk w)
def cN (x : PT) : List AV := [.int .i64 ((x.1 : Nat) : Int), .str (nameL x.2)]
def encN (x : PT) : AV := .agg (cN x)
def cJ (x : PT) : List AV := [.int .i64 ((x.1 : Nat) : Int), .str (joinL x.2)]
def encJ (x : PT) : AV := .agg (cJ x)
theorem nameP_inj {n k K : Nat} {x y : PT} (h : OkP n k K x) (g : OkP n k K y) (e : nameL x.2 = nameL y.2) : x.2 = y.2 :=
  nameL_inj (fun w hw => okW_sep (by decide) (h.p.ok w hw).1) (fun w hw => okW_sep (by decide) (g.p.ok w hw).1) e
theorem keysIS {t : TypeId} (h : flatT prog t = some [3, 9]) {ok : PT → Prop} {nm : WL → List UInt8} (inj : ∀ a b, ok a → ok b → nm a.2 = nm b.2 → a.2 = b.2) : Keys t (fun x : PT => .agg [.int .i64 ((x.1 : Nat) : Int), .str (nm x.2)]) ok := by
  refine ⟨fun a b ha hb => ?_, fun a _ => ?_⟩
  · obtain ⟨a1, a2⟩ := a
    obtain ⟨b1, b2⟩ := b
    by_cases e1 : a1 = b1
    · by_cases e2 : nm a2 = nm b2
      · have e3 := inj _ _ ha hb e2
        simp only at e3
        simp [keyEq, h, eqCs, sc3, sc9, eqSc, e1, e3]
      · have : ¬ a2 = b2 := fun e => e2 (by rw [e])
        have e4 : (nm a2 == nm b2) = false := beq_eq_false_iff_ne.2 e2
        simp [keyEq, h, eqCs, sc3, sc9, eqSc, e1, e4, -beq_eq_false_iff_ne, Prod.ext_iff, this]
    · have : ((a1 : Int) == (b1 : Int)) = false := by rw [beq_eq_false_iff_ne]; omega
      simp [keyEq, h, eqCs, sc3, sc9, eqSc, e1, Prod.ext_iff, this]
  · obtain ⟨a1, a2⟩ := a
    simp [keyT, h, scL, sc3, sc9]
theorem fl93 : flatT prog 93 = some [3, 9] := by kernel_rfl
theorem keysN (n k K : Nat) : Keys 93 encN (OkP n k K) := keysIS fl93 fun a b ha hb e => nameP_inj ha hb e
end Go.Proofs.Ythnpflkpjimkfaa

/-
  THE SEARCH THAT GIVES UP AT 5000; WHAT COMES FIRST; THE LEAST PAIR. Conditions: none.
-/
namespace Go.Proofs.Ythnpflkpjimkfaa
open Go.AM
open Go.Proofs.Try (prog)
set_option linter.all false
set_option maxRecDepth 100000
set_option maxHeartbeats 8000000
section
variable {α β : Type} [DecidableEq α] (nxt : α → Nat → α) (ext : β → Nat → β)
def bInF (x : α) (w : β) : Nat → Nat → List α × List β → Option (List α × List β)
  | 0, _, s => some s
  | j + 1, a, s => if nxt x a ∈ s.1 then bInF x w j (a + 1) s else if 5000 ≤ s.1.length then none else bInF x w j (a + 1) (s.1 ++ [nxt x a], s.2 ++ [ext w a])
def bfsF (k : Nat) : Nat → Nat → List α × List β → Option (List α × List β)
  | 0, _, _ => none
  | f + 1, i, s => match s.1[i]?, s.2[i]? with
    | some x, some w => (bInF nxt ext x w k 0 s).bind (bfsF k f (i + 1))
    | _, _ => some s
variable {nxt} {ext}
theorem bInF_bIn {x : α} {w : β} : ∀ {j a : Nat} {s s' : List α × List β}, bInF nxt ext x w j a s = some s' → s' = bIn nxt ext x w j a s
  | 0, _, s, s', h => by simp only [bInF, Option.some.injEq] at h; exact h.symm
  | j + 1, a, s, s', h => by
    rw [bInF] at h
    rw [bIn]
    split at h
    · rename_i g
      rw [if_pos g]
      exact bInF_bIn h
    · rename_i g
      rw [if_neg g]
      split at h
      · cases h
      · exact bInF_bIn h
theorem bInF_le {x : α} {w : β} : ∀ {j a : Nat} {s s' : List α × List β}, bInF nxt ext x w j a s = some s' → s.1.length ≤ 5000 → s'.1.length ≤ 5000
  | 0, _, s, s', h, g => by simp only [bInF, Option.some.injEq] at h; subst h; exact g
  | j + 1, a, s, s', h, g => by
    rw [bInF] at h
    split at h
    · exact bInF_le h g
    · split at h
      · cases h
      · exact bInF_le h (by simp; omega)
theorem bInF_pre {x : α} {w : β} {j a : Nat} {s s' : List α × List β} (h : bInF nxt ext x w j a s = some s') : ∃ p q, s'.1 = s.1 ++ p ∧ s'.2 = s.2 ++ q := by
  rw [bInF_bIn h]; exact bIn_pre nxt ext x w j a s
theorem bInF_has {x : α} {w : β} : ∀ {j a : Nat} {s s' : List α × List β}, bInF nxt ext x w j a s = some s' → ∀ b, a ≤ b → b < a + j → nxt x b ∈ s'.1
  | 0, _, s, s', h, b, h1, h2 => by omega
  | j + 1, a, s, s', h, b, h1, h2 => by
    rw [bInF] at h
    by_cases e : b = a
    · subst e
      split at h
      · rename_i g
        obtain ⟨p, q, e1, _⟩ := bInF_pre h
        rw [e1]; exact List.mem_append_left _ g
      · split at h
        · cases h
        · obtain ⟨p, q, e1, _⟩ := bInF_pre h
          rw [e1]; simp
    · split at h
      · exact bInF_has h b (by omega) (by omega)
      · split at h
        · cases h
        · exact bInF_has h b (by omega) (by omega)
theorem bfsF_pre {k : Nat} : ∀ {f i : Nat} {s S : List α × List β}, bfsF nxt ext k f i s = some S → ∃ p q, S.1 = s.1 ++ p ∧ S.2 = s.2 ++ q
  | 0, _, _, _, h => by cases h
  | f + 1, i, s, S, h => by
    rw [bfsF] at h
    split at h
    · rw [Option.bind_eq_some_iff] at h
      obtain ⟨s', h1, h2⟩ := h
      obtain ⟨p, q, e1, e2⟩ := bInF_pre h1
      obtain ⟨p', q', e3, e4⟩ := bfsF_pre h2
      exact ⟨p ++ p', q ++ q', by rw [e3, e1, List.append_assoc], by rw [e4, e2, List.append_assoc]⟩
    · cases h; exact ⟨[], [], by simp, by simp⟩
theorem bfsF_has {k : Nat} : ∀ {f i : Nat} {s S : List α × List β}, bfsF nxt ext k f i s = some S → s.1.length = s.2.length → (∀ x ∈ s.1.take i, ∀ a, a < k → nxt x a ∈ s.1) → ∀ x ∈ S.1, ∀ a, a < k → nxt x a ∈ S.1
  | 0, _, _, _, h, _, _ => by cases h
  | f + 1, i, s, S, h, hl, g => by
    rw [bfsF] at h
    split at h
    · rename_i x w h1 h2
      rw [Option.bind_eq_some_iff] at h
      obtain ⟨s', h3, h4⟩ := h
      have e0 := bInF_bIn h3
      obtain ⟨p, q, e1, e2⟩ := bInF_pre h3
      have hi := (List.getElem?_eq_some_iff.1 h1).1
      have hlen : ∀ (j a : Nat) (s : List α × List β), s.1.length = s.2.length → (bIn nxt ext x w j a s).1.length = (bIn nxt ext x w j a s).2.length := by
        intro j
        induction j with
        | zero => intro a s h; exact h
        | succ j ih =>
          intro a s h
          rw [bIn]
          split
          · exact ih _ _ h
          · exact ih _ _ (by simp [h])
      refine bfsF_has h4 (by rw [e0]; exact hlen k 0 s hl) fun y hy a ha => ?_
      rw [e1, List.take_append_of_le_length (by omega), List.take_add_one, h1] at hy
      rcases List.mem_append.1 hy with hy | hy
      · rw [e1]; exact List.mem_append_left _ (g y hy a ha)
      · simp at hy
        subst hy
        exact bInF_has h3 a (by omega) (by omega)
    · rename_i h1
      cases h
      intro x hx a ha
      refine g x ?_ a ha
      have : s.1.length ≤ i := by
        by_cases q : i < s.1.length
        · exact absurd (List.getElem?_eq_getElem (show i < s.2.length by omega)) (h1 _ _ (List.getElem?_eq_getElem q))
        · omega
      rw [List.take_of_length_le this]; exact hx
structure FOk (ok : α → Prop) (Q : α → β → Prop) (s : List α × List β) : Prop where
  nd : s.1.Nodup
  len : s.1.length = s.2.length
  all : ∀ (i : Nat) x w, s.1[i]? = some x → s.2[i]? = some w → ok x ∧ Q x w
theorem FOk.add {ok : α → Prop} {Q : α → β → Prop} {s : List α × List β} (h : FOk ok Q s) {x : α} {w : β} (hx : ok x) (hq : Q x w) (hn : x ∉ s.1) : FOk ok Q (s.1 ++ [x], s.2 ++ [w]) := by
  refine ⟨?_, by simp [h.len], fun i y v h1 h2 => ?_⟩
  · rw [List.nodup_append]
    refine ⟨h.nd, by simp, ?_⟩
    intro a ha b hb
    simp at hb
    subst hb
    exact fun e => hn (e ▸ ha)
  · by_cases q : i < s.1.length
    · rw [List.getElem?_append_left q] at h1
      rw [List.getElem?_append_left (by rw [← h.len]; exact q)] at h2
      exact h.all i y v h1 h2
    · have hi := (List.getElem?_eq_some_iff.1 h1).1
      simp at hi
      have e : i = s.1.length := by omega
      subst e
      simp at h1
      rw [h.len] at h2
      simp at h2
      subst h1 h2
      exact ⟨hx, hq⟩
theorem bInF_ok {ok : α → Prop} {Q : α → β → Prop} {k : Nat} (hn : ∀ x a, ok x → a < k → ok (nxt x a)) (hq : ∀ x w a, ok x → Q x w → a < k → Q (nxt x a) (ext w a)) {x : α} {w : β} (hx : ok x) (hw : Q x w) : ∀ {j a : Nat} {s s' : List α × List β}, bInF nxt ext x w j a s = some s' → a + j ≤ k → FOk ok Q s → FOk ok Q s'
  | 0, _, s, s', h, _, g => by simp only [bInF, Option.some.injEq] at h; subst h; exact g
  | j + 1, a, s, s', h, ha, g => by
    rw [bInF] at h
    split at h
    · exact bInF_ok hn hq hx hw h (by omega) g
    · rename_i hm
      split at h
      · cases h
      · exact bInF_ok hn hq hx hw h (by omega) (g.add (hn x a hx (by omega)) (hq x w a hx hw (by omega)) hm)
theorem bfsF_ok {ok : α → Prop} {Q : α → β → Prop} {k : Nat} (hn : ∀ x a, ok x → a < k → ok (nxt x a)) (hq : ∀ x w a, ok x → Q x w → a < k → Q (nxt x a) (ext w a)) : ∀ {f i : Nat} {s S : List α × List β}, bfsF nxt ext k f i s = some S → FOk ok Q s → FOk ok Q S
  | 0, _, _, _, h, _ => by cases h
  | f + 1, i, s, S, h, g => by
    rw [bfsF] at h
    split at h
    · rename_i x w h1 h2
      rw [Option.bind_eq_some_iff] at h
      obtain ⟨s', h3, h4⟩ := h
      obtain ⟨hx, hw⟩ := g.all i x w h1 h2
      exact bfsF_ok hn hq h4 (bInF_ok hn hq hx hw h3 (by omega) g)
    · cases h; exact g
end
section
variable {α α' β : Type} [DecidableEq α] [DecidableEq α'] {nxt : α → Nat → α} {nxt' : α' → Nat → α'} {ext : β → Nat → β} {R : α → α' → Prop} {ok : α → Prop} {ok' : α' → Prop} {k : Nat}
structure Two (R : α → α' → Prop) (ok : α → Prop) (ok' : α' → Prop) (s : List α × List β) (s' : List α' × List β) : Prop where
  w : s.2 = s'.2
  l : s.1.length = s'.1.length
  r : ∀ (i : Nat) x y, s.1[i]? = some x → s'.1[i]? = some y → R x y ∧ ok x ∧ ok' y
theorem Two.mem {s : List α × List β} {s' : List α' × List β} (T : Two R ok ok' s s') (eq : ∀ x y u v, ok x → ok u → ok' y → ok' v → R x y → R u v → (x = u ↔ y = v)) {x : α} {y : α'} (hx : ok x) (hy : ok' y) (h : R x y) : x ∈ s.1 ↔ y ∈ s'.1 := by
  constructor
  · intro hm
    obtain ⟨i, hi⟩ := List.getElem?_of_mem hm
    have hl := (List.getElem?_eq_some_iff.1 hi).1
    have hl' : i < s'.1.length := by have := T.l; omega
    obtain ⟨r1, r2, r3⟩ := T.r i x _ hi (List.getElem?_eq_getElem hl')
    have := (eq x y x _ hx r2 hy r3 h r1).1 rfl
    rw [this]; exact List.getElem_mem _
  · intro hm
    obtain ⟨i, hi⟩ := List.getElem?_of_mem hm
    have hl := (List.getElem?_eq_some_iff.1 hi).1
    have hl' : i < s.1.length := by have := T.l; omega
    obtain ⟨r1, r2, r3⟩ := T.r i _ y (List.getElem?_eq_getElem hl') hi
    have := (eq x y _ y hx r2 hy r3 h r1).2 rfl
    rw [this]; exact List.getElem_mem _
end
structure Inc (l : WL) (b : Nat) : Prop where
  s : l.Pairwise fun u w => rk u < rk w
  b : ∀ y ∈ l, rk y < b
section
variable {α : Type} [DecidableEq α] {nxt : α → Nat → α}
end
end Go.Proofs.Ythnpflkpjimkfaa
