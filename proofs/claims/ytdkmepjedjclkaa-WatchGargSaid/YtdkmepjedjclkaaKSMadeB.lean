/-
  A STORY MADE OF ARBITRARY NUMBERS (2): one message. Conditions: none.
-/
import Derived.Test.YtdkmepjedjclkaaKSMadeA
import Derived.Test.YtdkmepjedjclkaaKWatch
set_option linter.all false
namespace Go.Proofs.Ytdkmepjedjclkaa
open Go.AM
open Go.Proofs.Try (prog)
set_option linter.all false
set_option maxRecDepth 100000
set_option maxHeartbeats 4000000

theorem frz_99_107 (s : St) : frz1 s 1099107 = bif apartD s 99 107 then some s else none := rfl
theorem frz_103_107 (s : St) : frz1 s 1103107 = bif apartD s 103 107 then some s else none := rfl
theorem frz_109_111 (s : St) : frz1 s 1109111 = bif apartD s 109 111 then some s else none := rfl
theorem frz_109_114 (s : St) : frz1 s 1109114 = bif apartD s 109 114 then some s else none := rfl
theorem frz_7_111 (s : St) : frz1 s 1007111 = bif apartD s 7 111 then some s else none := rfl
theorem frz_2008 {t : List (Nat × AV)} {n : Nat} {m : Mem} {id k es l top : Nat} {a : AV} {cs : List AV} (hg : AM.get t 8 = .ptr id 0 2) (ho : m.h id = some (.cells [a, .sl k es 0 l top])) (hk : m.h k = some (.cells cs)) (hne : (id == k) = false) (hl : cs.length = top) (hc : closedL cs = true) (hle : l * es = top) :
    frz1 ⟨t, n, m⟩ 2008 = some ⟨t, n, ⟨upd (upd m.h k none) id (some (.cells [a, .fsl false l cs])), m.nx⟩⟩ := by
  have e : frz1 ⟨t, n, m⟩ 2008 = match AM.get t 8 with
    | .ptr id off top => match m.h id with
      | some (.cells xs) => bif xs.length == top then ((xs[off + 1]?).bind fun v => (frzV v m).bind fun r => match r.2.h id with
          | some (.cells ys) => bif ys.length == top && (Nat.blt (off + 1) top && r.1.one) then some ⟨t, n, r.2.set id (some (.cells (ys.set (off + 1) r.1)))⟩ else none
          | _ => none) else none
      | _ => none
    | _ => some ⟨t, n, m⟩ := rfl
  have ht : cs.take (l * es) = cs := List.take_of_length_le (by omega)
  rw [e, hg]
  simp [ho, frzV, hk, hl, hc, hle, Mem.set, hne]
  rw [List.take_of_length_le (by omega)]

theorem tmod_nat {x : Int} {n : Nat} (h0 : 0 ≤ x) (hn : 0 < n) : ∃ f : Nat, x.tmod n = f ∧ f < n := by
  have a := Int.tmod_nonneg (n : Int) h0
  have b := Int.tmod_lt_of_pos x (show (0 : Int) < n by omega)
  exact ⟨(x.tmod n).toNat, by omega, by omega⟩

/-- The story so far, and its messages. -/
structure SN (m : Mem) (D : List Int) (vN : AV) (N : List Note) : Prop where
  r : m.h 0 = some (.cells [.nils, .nils])
  s : ∃ id, m.h 1 = some (.cells [.sl id 1 0 D.length D.length, vN]) ∧ m.h id = some (.cells (ints D)) ∧ 2 ≤ id ∧ id < m.nx
  n : IsSl noteC vN N
  v : ValidS D N
  few : N.length ≤ 12

/-- The message that four numbers tell. -/
def noteOf (D x : List Int) : Note :=
  ⟨(nth x 0).tmod D.length, (nth x 1).tmod (nth D ((nth x 0).tmod D.length).toNat) + 1, (nth x 2).tmod D.length, (nth x 3).tmod (nth D ((nth x 2).tmod D.length).toNat) + 1⟩

theorem made_step {a vT vN : AV} {hh : Int} {ds D : List Int} {T : List (List Int)} {N : List Note} (t : IsTaleN a hh ds vT T) {i : Nat} (hi : i < T.length) (hN12 : N.length < 12) {m : Mem} (s : SN m D vN N) :
    ∃ vN' N' m', SN m' D vN' N' ∧ l09_Tale_made.L2 (.fptr (.int .u8 hh :: (u8s ds ++ [vT]))) (.ptr 0 0 2) (.ptr 1 0 2) (.int .i64 i) m [.code l09_Tale_made.r16, .code .ret] =
      l09_Tale_made.L2 (.fptr (.int .u8 hh :: (u8s ds ++ [vT]))) (.ptr 0 0 2) (.ptr 1 0 2) (.int .i64 ((i : Int) + 1)) m' [.code l09_Tale_made.r16, .code .ret] := by
  obtain ⟨id, s1, s2, s3, s4⟩ := s.s
  obtain ⟨d0, d1, d2, d3, rfl⟩ := four t.d4
  have hx4 : (T[i]).length = 4 := t.t4 _ (List.getElem_mem hi)
  have hxB := t.tB _ (List.getElem_mem hi)
  have hld : loadF true 4 (.fptr (flatC u8s (T.drop i))) = some (.agg (u8s T[i])) := by
    rw [flatC_at (List.getElem?_eq_getElem hi)]
    have : (u8s T[i] ++ flatC u8s (T.drop (i + 1))).take 4 = u8s T[i] := List.take_left' (by simp [hx4])
    simp only [loadF_fptr, cond_true, this, ble_dec, List.length_append, u8s_len, hx4]
    simp
  have hidx := t.vT.idx (k := 4) (fun x hx => by simp [t.t4 x hx]) hi .i64
  have hwi : IntKind.wrap .i64 ((i : Int) + 1) = (i : Int) + 1 := wrap_id (by omega) (by have := t.tl; omega)
  have hlen := t.vT.len
  generalize T[i] = x at hx4 hxB hld
  obtain ⟨x0, x1, x2, x3, rfl⟩ := four hx4
  have b0 : Byte x0 := hxB 0
  have b1 : Byte x1 := hxB 1
  have b2 : Byte x2 := hxB 2
  have b3 : Byte x3 := hxB 3
  have w0 := wrap_byte b0
  have w1 := wrap_byte b1
  have w2 := wrap_byte b2
  have w3 := wrap_byte b3
  have hn1 := s.v.n1
  have hn4 := s.v.n4
  obtain ⟨f, hf, hfl⟩ := tmod_nat b0.1 (show 0 < D.length by omega)
  obtain ⟨g, hg, hgl⟩ := tmod_nat b2.1 (show 0 < D.length by omega)
  have wf : IntKind.wrap .i64 (f : Int) = f := wrap_id (by omega) (by omega)
  have wg : IntKind.wrap .i64 (g : Int) = g := wrap_id (by omega) (by omega)
  have hDne : ¬ ((D.length : Int) = 0) := by omega
  have a0 : (0 == m.nx) = false := by simp; omega
  have a1 : (1 == m.nx) = false := by simp; omega
  have a2 : (id == m.nx) = false := by simp; omega
  have a3 : (id == m.nx + 16) = false := by simp; omega
  have a4 : (1 == m.nx + 16) = false := by simp
  have hDe : D ≠ [] := fun e => by rw [e] at hn1; simp at hn1
  have hN12' : (N.length : Int) < 12 := by omega
  rw [l09_Tale_made.L2_eq]
  have z0 : (m.nx == 0) = false := by simp; omega
  have z1 : (m.nx == 1) = false := by simp; omega
  have z2 : (m.nx == id) = false := by simp; omega
  have z3 : (m.nx + 16 == id) = false := by simp; omega
  have s' : SN ⟨upd (upd m.h m.nx none) (m.nx + 16) (some (.cells [.int .i64 f, .int .i64 0, .int .i64 g, .int .i64 0])), m.nx + 18⟩ D vN N :=
    ⟨by simp [s.r, a0, show (0 == m.nx + 16) = false by simp], ⟨id, by simp [s1, a1, a4], by simp [s2, a2, a3], s3, by show id < m.nx + 18; omega⟩, s.n, s.v, s.few⟩
  by_cases q1 : f = g
  · subst q1
    refine ⟨vN, N, ⟨upd (upd m.h m.nx none) (m.nx + 16) (some (.cells [.int .i64 f, .int .i64 0, .int .i64 f, .int .i64 0])), m.nx + 18⟩, s', ?_⟩
    simp [hi, hlen, hidx, hld, s1, s2, s.n.len, hN12, hN12', hDe, w0, w1, w2, w3, hf, hg, wf, wg, hDne, a0, a1, a2, a3, a4, hwi]
    done
  have hlf : (ints D)[f]? = some (.int .i64 (nth D f)) := ints_nth hfl
  have hlg : (ints D)[g]? = some (.int .i64 (nth D g)) := ints_nth hgl
  have q1' : ¬ (f : Int) = g := by omega
  by_cases q2 : nth D f = 0
  · refine ⟨vN, N, _, s', ?_⟩
    simp [hi, hlen, hidx, hld, s1, s2, s.n.len, hN12, hN12', hDe, w0, w1, w2, w3, hf, hg, wf, wg, hDne, a0, a1, a2, a3, a4, hwi, q1, q1', hfl, hgl, hlf, hlg, q2, nth_get hfl, nth_get hgl]
    done
  by_cases q3 : nth D g = 0
  · refine ⟨vN, N, _, s', ?_⟩
    simp [hi, hlen, hidx, hld, s1, s2, s.n.len, hN12, hN12', hDe, w0, w1, w2, w3, hf, hg, wf, wg, hDne, a0, a1, a2, a3, a4, hwi, q1, q1', hfl, hgl, hlf, hlg, q2, q3, nth_get hfl, nth_get hgl]
    done
  have hDf := s.v.lo f
  have hDg := s.v.lo g
  have hDf6 := s.v.hi f
  have hDg6 := s.v.hi g
  have p1 := Int.tmod_nonneg (nth D f) b1.1
  have p1' := Int.tmod_lt_of_pos x1 (show 0 < nth D f by omega)
  have p3 := Int.tmod_nonneg (nth D g) b3.1
  have p3' := Int.tmod_lt_of_pos x3 (show 0 < nth D g by omega)
  have ws : IntKind.wrap .i64 (x1.tmod (nth D f)) = x1.tmod (nth D f) := wrap_id (by omega) (by omega)
  have wr : IntKind.wrap .i64 (x3.tmod (nth D g)) = x3.tmod (nth D g) := wrap_id (by omega) (by omega)
  generalize hsv : x1.tmod (nth D f) = sv at p1 p1' ws
  generalize hrv : x3.tmod (nth D g) = rv at p3 p3' wr
  have ws' : IntKind.wrap .i64 (sv + 1) = sv + 1 := wrap_id (by omega) (by omega)
  have wr' : IntKind.wrap .i64 (rv + 1) = rv + 1 := wrap_id (by omega) (by omega)
  let y : Note := ⟨f, sv + 1, g, rv + 1⟩
  have hy : noteC y = [.int .i64 f, .int .i64 (sv + 1), .int .i64 g, .int .i64 (rv + 1)] := rfl
  have htale : IsTale (.agg [.fsl false D.length (ints D), .fsl false (N.length + 1) (flatC noteC (N ++ [y]))]) D (N ++ [y]) := ⟨_, _, rfl, IsInts.fsl false D, by simpa using IsSl.fsl (f := noteC) false (N ++ [y])⟩
  obtain ⟨b, hb, eb⟩ := valid_spec htale (by omega) (by simp; omega)
  have hfl4 : (flatC noteC N).length = N.length * 4 := flatC_len (noteC_len N)
  have hfly : flatC noteC (N ++ [y]) = flatC noteC N ++ [.int .i64 f, .int .i64 (sv + 1), .int .i64 g, .int .i64 (rv + 1)] := by rw [flatC_append, flatC_one, hy]
  have hclo : closedL (flatC noteC (N ++ [y])) = true := flatC_closedL noteC_closed _
  have hsrc := fun m => s.n.src (noteC_len N) m
  have c1 : (m.nx + 16 == m.nx) = false := by simp
  have c2 : (m.nx == m.nx + 16) = false := by simp
  have ne_o1_oi : (1 == id) = false := beq_eq_false_iff_ne.2 (by omega)
  have ne_o1_oA : (1 == m.nx + 1 + 15) = false := beq_eq_false_iff_ne.2 (by omega)
  have ne_o1_oB : (1 == m.nx + 1 + 17 + 26 + 2) = false := beq_eq_false_iff_ne.2 (by omega)
  have ne_o1_oC : (1 == m.nx + 1 + 17 + 26 + 10) = false := beq_eq_false_iff_ne.2 (by omega)
  have ne_o1_oM : (1 == m.nx) = false := beq_eq_false_iff_ne.2 (by omega)
  have ne_o1_o0 : (1 == 0) = false := beq_eq_false_iff_ne.2 (by omega)
  have ne_oi_o1 : (id == 1) = false := beq_eq_false_iff_ne.2 (by omega)
  have ne_oi_oA : (id == m.nx + 1 + 15) = false := beq_eq_false_iff_ne.2 (by omega)
  have ne_oi_oB : (id == m.nx + 1 + 17 + 26 + 2) = false := beq_eq_false_iff_ne.2 (by omega)
  have ne_oi_oC : (id == m.nx + 1 + 17 + 26 + 10) = false := beq_eq_false_iff_ne.2 (by omega)
  have ne_oi_oM : (id == m.nx) = false := beq_eq_false_iff_ne.2 (by omega)
  have ne_oi_o0 : (id == 0) = false := beq_eq_false_iff_ne.2 (by omega)
  have ne_oA_o1 : (m.nx + 1 + 15 == 1) = false := beq_eq_false_iff_ne.2 (by omega)
  have ne_oA_oi : (m.nx + 1 + 15 == id) = false := beq_eq_false_iff_ne.2 (by omega)
  have ne_oA_oB : (m.nx + 1 + 15 == m.nx + 1 + 17 + 26 + 2) = false := beq_eq_false_iff_ne.2 (by omega)
  have ne_oA_oC : (m.nx + 1 + 15 == m.nx + 1 + 17 + 26 + 10) = false := beq_eq_false_iff_ne.2 (by omega)
  have ne_oA_oM : (m.nx + 1 + 15 == m.nx) = false := beq_eq_false_iff_ne.2 (by omega)
  have ne_oA_o0 : (m.nx + 1 + 15 == 0) = false := beq_eq_false_iff_ne.2 (by omega)
  have ne_oB_o1 : (m.nx + 1 + 17 + 26 + 2 == 1) = false := beq_eq_false_iff_ne.2 (by omega)
  have ne_oB_oi : (m.nx + 1 + 17 + 26 + 2 == id) = false := beq_eq_false_iff_ne.2 (by omega)
  have ne_oB_oA : (m.nx + 1 + 17 + 26 + 2 == m.nx + 1 + 15) = false := beq_eq_false_iff_ne.2 (by omega)
  have ne_oB_oC : (m.nx + 1 + 17 + 26 + 2 == m.nx + 1 + 17 + 26 + 10) = false := beq_eq_false_iff_ne.2 (by omega)
  have ne_oB_oM : (m.nx + 1 + 17 + 26 + 2 == m.nx) = false := beq_eq_false_iff_ne.2 (by omega)
  have ne_oB_o0 : (m.nx + 1 + 17 + 26 + 2 == 0) = false := beq_eq_false_iff_ne.2 (by omega)
  have ne_oC_o1 : (m.nx + 1 + 17 + 26 + 10 == 1) = false := beq_eq_false_iff_ne.2 (by omega)
  have ne_oC_oi : (m.nx + 1 + 17 + 26 + 10 == id) = false := beq_eq_false_iff_ne.2 (by omega)
  have ne_oC_oA : (m.nx + 1 + 17 + 26 + 10 == m.nx + 1 + 15) = false := beq_eq_false_iff_ne.2 (by omega)
  have ne_oC_oB : (m.nx + 1 + 17 + 26 + 10 == m.nx + 1 + 17 + 26 + 2) = false := beq_eq_false_iff_ne.2 (by omega)
  have ne_oC_oM : (m.nx + 1 + 17 + 26 + 10 == m.nx) = false := beq_eq_false_iff_ne.2 (by omega)
  have ne_oC_o0 : (m.nx + 1 + 17 + 26 + 10 == 0) = false := beq_eq_false_iff_ne.2 (by omega)
  have ne_oM_o1 : (m.nx == 1) = false := beq_eq_false_iff_ne.2 (by omega)
  have ne_oM_oi : (m.nx == id) = false := beq_eq_false_iff_ne.2 (by omega)
  have ne_oM_oA : (m.nx == m.nx + 1 + 15) = false := beq_eq_false_iff_ne.2 (by omega)
  have ne_oM_oB : (m.nx == m.nx + 1 + 17 + 26 + 2) = false := beq_eq_false_iff_ne.2 (by omega)
  have ne_oM_oC : (m.nx == m.nx + 1 + 17 + 26 + 10) = false := beq_eq_false_iff_ne.2 (by omega)
  have ne_oM_o0 : (m.nx == 0) = false := beq_eq_false_iff_ne.2 (by omega)
  have ne_o0_o1 : (0 == 1) = false := beq_eq_false_iff_ne.2 (by omega)
  have ne_o0_oi : (0 == id) = false := beq_eq_false_iff_ne.2 (by omega)
  have ne_o0_oA : (0 == m.nx + 1 + 15) = false := beq_eq_false_iff_ne.2 (by omega)
  have ne_o0_oB : (0 == m.nx + 1 + 17 + 26 + 2) = false := beq_eq_false_iff_ne.2 (by omega)
  have ne_o0_oC : (0 == m.nx + 1 + 17 + 26 + 10) = false := beq_eq_false_iff_ne.2 (by omega)
  have ne_o0_oM : (0 == m.nx) = false := beq_eq_false_iff_ne.2 (by omega)
  cases b with
  | false =>
    refine ⟨vN, N, ⟨upd (upd (upd (upd m.h m.nx none) (m.nx + 16) (some (.cells (noteC y)))) (m.nx + 46) none) (m.nx + 54) none, m.nx + 56⟩, ⟨by simp [s.r, ne_o0_oM, show (0 == m.nx + 16) = false by simp, show (0 == m.nx + 46) = false by simp, show (0 == m.nx + 54) = false by simp], ⟨id, by simp [s1, ne_o1_oM, show (1 == m.nx + 16) = false by simp, show (1 == m.nx + 46) = false by simp, show (1 == m.nx + 54) = false by simp], by simp [s2, ne_oi_oM, show (id == m.nx + 16) = false from beq_eq_false_iff_ne.2 (by omega), show (id == m.nx + 46) = false from beq_eq_false_iff_ne.2 (by omega), show (id == m.nx + 54) = false from beq_eq_false_iff_ne.2 (by omega)], s3, by show id < m.nx + 56; omega⟩, s.n, s.v, s.few⟩, ?_⟩
    by_cases hN0 : N = []
    · subst hN0
      simp only [List.nil_append, flatC_one, hy, List.length_nil, Nat.zero_add] at eb
      simp [hi, hlen, hidx, hld, s1, s2, s.n.len, hN12, hN12', hDe, w0, w1, w2, w3, hf, hg, wf, wg, hDne, a0, a1, a2, a3, a4, hwi, q1, q1', hfl, hgl, hlf, hlg, q2, q3, nth_get hfl, nth_get hgl, hsv, hrv, ws, wr, ws', wr', hsrc, frz_99_107, frz_103_107, frz_109_111, frz_109_114, frz_7_111, apartD, ne_o1_oi, ne_o1_oA, ne_o1_oB, ne_o1_oC, ne_o1_oM, ne_o1_o0, ne_oi_o1, ne_oi_oA, ne_oi_oB, ne_oi_oC, ne_oi_oM, ne_oi_o0, ne_oA_o1, ne_oA_oi, ne_oA_oB, ne_oA_oC, ne_oA_oM, ne_oA_o0, ne_oB_o1, ne_oB_oi, ne_oB_oA, ne_oB_oC, ne_oB_oM, ne_oB_o0, ne_oC_o1, ne_oC_oi, ne_oC_oA, ne_oC_oB, ne_oC_oM, ne_oC_o0, ne_oM_o1, ne_oM_oi, ne_oM_oA, ne_oM_oB, ne_oM_oC, ne_oM_o0, ne_o0_o1, ne_o0_oi, ne_o0_oA, ne_o0_oB, ne_o0_oC, ne_o0_oM]
      rw [frz_2008 (id := m.nx + 1 + 17 + 26 + 10) (k := m.nx + 1 + 17 + 26 + 2) (es := 4) (l := 1) (top := 4) (a := .sl id 1 0 D.length D.length) (cs := noteC y) (by simp) (by simp) (by simp [hy, ne_oC_oB, ne_oB_oC]) ne_oC_oB rfl rfl rfl]
      simp [hi, hwi, s1, s2, hDe, hy, eb, AV.flat, AV.flat1, ne_o1_oi, ne_o1_oA, ne_o1_oB, ne_o1_oC, ne_o1_oM, ne_o1_o0, ne_oi_o1, ne_oi_oA, ne_oi_oB, ne_oi_oC, ne_oi_oM, ne_oi_o0, ne_oA_o1, ne_oA_oi, ne_oA_oB, ne_oA_oC, ne_oA_oM, ne_oA_o0, ne_oB_o1, ne_oB_oi, ne_oB_oA, ne_oB_oC, ne_oB_oM, ne_oB_o0, ne_oC_o1, ne_oC_oi, ne_oC_oA, ne_oC_oB, ne_oC_oM, ne_oC_o0, ne_oM_o1, ne_oM_oi, ne_oM_oA, ne_oM_oB, ne_oM_oC, ne_oM_o0, ne_o0_o1, ne_o0_oi, ne_o0_oA, ne_o0_oB, ne_o0_oC, ne_o0_oM]
      done
    · have hNl : N.length ≠ 0 := fun e => hN0 (List.length_eq_zero_iff.1 e)
      have hNl' : (N.length == 0) = false := beq_eq_false_iff_ne.2 hNl
      have hroom1 : N.length ≤ 4611686018427387904 := by omega
      have hroom2 : N.length * 32 ≤ 70368744177664 := by omega
      have hroom3 : N.length ≤ 4611686018427387903 := by omega
      have hroom4 : (N.length + 1) * 32 ≤ 70368744177664 := by omega
      have hfly' := hfly.symm
      simp [hNl, hNl', hroom1, hroom2, hroom3, hroom4, hfl4, hfly', hN0, hi, hlen, hidx, hld, s1, s2, s.n.len, hN12, hN12', hDe, w0, w1, w2, w3, hf, hg, wf, wg, hDne, a0, a1, a2, a3, a4, hwi, q1, q1', hfl, hgl, hlf, hlg, q2, q3, nth_get hfl, nth_get hgl, hsv, hrv, ws, wr, ws', wr', hsrc, frz_99_107, frz_103_107, frz_109_111, frz_109_114, frz_7_111, apartD, ne_o1_oi, ne_o1_oA, ne_o1_oB, ne_o1_oC, ne_o1_oM, ne_o1_o0, ne_oi_o1, ne_oi_oA, ne_oi_oB, ne_oi_oC, ne_oi_oM, ne_oi_o0, ne_oA_o1, ne_oA_oi, ne_oA_oB, ne_oA_oC, ne_oA_oM, ne_oA_o0, ne_oB_o1, ne_oB_oi, ne_oB_oA, ne_oB_oC, ne_oB_oM, ne_oB_o0, ne_oC_o1, ne_oC_oi, ne_oC_oA, ne_oC_oB, ne_oC_oM, ne_oC_o0, ne_oM_o1, ne_oM_oi, ne_oM_oA, ne_oM_oB, ne_oM_oC, ne_oM_o0, ne_o0_o1, ne_o0_oi, ne_o0_oA, ne_o0_oB, ne_o0_oC, ne_o0_oM]
      have hfl5 : (flatC noteC (N ++ [y])).length = (N.length + 1) * 4 := by rw [flatC_len (k := 4) (noteC_len _)]; simp
      rw [frz_2008 (id := m.nx + 1 + 17 + 26 + 10) (k := m.nx + 1 + 17 + 26 + 2) (es := 4) (l := N.length + 1) (top := (flatC noteC (N ++ [y])).length) (a := .sl id 1 0 D.length D.length) (cs := flatC noteC (N ++ [y])) (by simp) (by simp) (by simp [ne_oC_oB, ne_oB_oC]) ne_oC_oB rfl hclo hfl5.symm]
      have hdp : mapO (deep (upd (upd (upd (upd m.h m.nx none) (m.nx + 1 + 15) (some (.cells (noteC y)))) (m.nx + 1 + 17 + 26 + 2) none) (m.nx + 1 + 17 + 26 + 10) none) 5) (flatC noteC (N ++ [y])) = some (flatC noteC (N ++ [y])) := flatC_deep _ 4 (fun a => rfl) _
      rw [hy] at hdp
      simp [hi, hwi, s1, s2, hDe, hy, eb, hdp, AV.flat, AV.flat1, ne_o1_oi, ne_o1_oA, ne_o1_oB, ne_o1_oC, ne_o1_oM, ne_o1_o0, ne_oi_o1, ne_oi_oA, ne_oi_oB, ne_oi_oC, ne_oi_oM, ne_oi_o0, ne_oA_o1, ne_oA_oi, ne_oA_oB, ne_oA_oC, ne_oA_oM, ne_oA_o0, ne_oB_o1, ne_oB_oi, ne_oB_oA, ne_oB_oC, ne_oB_oM, ne_oB_o0, ne_oC_o1, ne_oC_oi, ne_oC_oA, ne_oC_oB, ne_oC_oM, ne_oC_o0, ne_oM_o1, ne_oM_oi, ne_oM_oA, ne_oM_oB, ne_oM_oC, ne_oM_o0, ne_o0_o1, ne_o0_oi, ne_o0_oA, ne_o0_oB, ne_o0_oC, ne_o0_oM]
      done
  | true =>
    obtain ⟨M, hM⟩ : ∃ M : Mem, M = ⟨upd (upd (upd (upd (upd m.h m.nx none) (m.nx + 16) (some (.cells (noteC y)))) (m.nx + 46) none) (m.nx + 54) none) 1 (some (.cells [.sl id 1 0 D.length D.length, .fsl false (N.length + 1) (flatC noteC (N ++ [y]))])), m.nx + 56⟩ := ⟨_, rfl⟩
    refine ⟨.fsl false (N.length + 1) (flatC noteC (N ++ [y])), N ++ [y], M, by rw [hM]; exact ⟨by simp [s.r, ne_o0_oM, show (0 == m.nx + 16) = false by simp, show (0 == m.nx + 46) = false by simp, show (0 == m.nx + 54) = false by simp], ⟨id, by simp, by simp [s2, ne_oi_o1, ne_oi_oM, show (id == m.nx + 16) = false from beq_eq_false_iff_ne.2 (by omega), show (id == m.nx + 46) = false from beq_eq_false_iff_ne.2 (by omega), show (id == m.nx + 54) = false from beq_eq_false_iff_ne.2 (by omega)], s3, by show id < m.nx + 56; omega⟩, by simpa using IsSl.fsl (f := noteC) false (N ++ [y]), hb.1 rfl, by simp; omega⟩, ?_⟩
    by_cases hN0 : N = []
    · subst hN0
      simp only [List.nil_append, flatC_one, hy, List.length_nil, Nat.zero_add] at eb
      simp [hi, hlen, hidx, hld, s1, s2, s.n.len, hN12, hN12', hDe, w0, w1, w2, w3, hf, hg, wf, wg, hDne, a0, a1, a2, a3, a4, hwi, q1, q1', hfl, hgl, hlf, hlg, q2, q3, nth_get hfl, nth_get hgl, hsv, hrv, ws, wr, ws', wr', hsrc, frz_99_107, frz_103_107, frz_109_111, frz_109_114, frz_7_111, apartD, ne_o1_oi, ne_o1_oA, ne_o1_oB, ne_o1_oC, ne_o1_oM, ne_o1_o0, ne_oi_o1, ne_oi_oA, ne_oi_oB, ne_oi_oC, ne_oi_oM, ne_oi_o0, ne_oA_o1, ne_oA_oi, ne_oA_oB, ne_oA_oC, ne_oA_oM, ne_oA_o0, ne_oB_o1, ne_oB_oi, ne_oB_oA, ne_oB_oC, ne_oB_oM, ne_oB_o0, ne_oC_o1, ne_oC_oi, ne_oC_oA, ne_oC_oB, ne_oC_oM, ne_oC_o0, ne_oM_o1, ne_oM_oi, ne_oM_oA, ne_oM_oB, ne_oM_oC, ne_oM_o0, ne_o0_o1, ne_o0_oi, ne_o0_oA, ne_o0_oB, ne_o0_oC, ne_o0_oM]
      rw [frz_2008 (id := m.nx + 1 + 17 + 26 + 10) (k := m.nx + 1 + 17 + 26 + 2) (es := 4) (l := 1) (top := 4) (a := .sl id 1 0 D.length D.length) (cs := noteC y) (by simp) (by simp) (by simp [hy, ne_oC_oB, ne_oB_oC]) ne_oC_oB rfl rfl rfl]
      simp [hi, hwi, s1, s2, hDe, hy, eb, AV.flat, AV.flat1, ne_o1_oi, ne_o1_oA, ne_o1_oB, ne_o1_oC, ne_o1_oM, ne_o1_o0, ne_oi_o1, ne_oi_oA, ne_oi_oB, ne_oi_oC, ne_oi_oM, ne_oi_o0, ne_oA_o1, ne_oA_oi, ne_oA_oB, ne_oA_oC, ne_oA_oM, ne_oA_o0, ne_oB_o1, ne_oB_oi, ne_oB_oA, ne_oB_oC, ne_oB_oM, ne_oB_o0, ne_oC_o1, ne_oC_oi, ne_oC_oA, ne_oC_oB, ne_oC_oM, ne_oC_o0, ne_oM_o1, ne_oM_oi, ne_oM_oA, ne_oM_oB, ne_oM_oC, ne_oM_o0, ne_o0_o1, ne_o0_oi, ne_o0_oA, ne_o0_oB, ne_o0_oC, ne_o0_oM]
      subst hM
      rfl
    · have hNl : N.length ≠ 0 := fun e => hN0 (List.length_eq_zero_iff.1 e)
      have hNl' : (N.length == 0) = false := beq_eq_false_iff_ne.2 hNl
      have hroom1 : N.length ≤ 4611686018427387904 := by omega
      have hroom2 : N.length * 32 ≤ 70368744177664 := by omega
      have hroom3 : N.length ≤ 4611686018427387903 := by omega
      have hroom4 : (N.length + 1) * 32 ≤ 70368744177664 := by omega
      have hfly' := hfly.symm
      simp [hNl, hNl', hroom1, hroom2, hroom3, hroom4, hfl4, hfly', hN0, hi, hlen, hidx, hld, s1, s2, s.n.len, hN12, hN12', hDe, w0, w1, w2, w3, hf, hg, wf, wg, hDne, a0, a1, a2, a3, a4, hwi, q1, q1', hfl, hgl, hlf, hlg, q2, q3, nth_get hfl, nth_get hgl, hsv, hrv, ws, wr, ws', wr', hsrc, frz_99_107, frz_103_107, frz_109_111, frz_109_114, frz_7_111, apartD, ne_o1_oi, ne_o1_oA, ne_o1_oB, ne_o1_oC, ne_o1_oM, ne_o1_o0, ne_oi_o1, ne_oi_oA, ne_oi_oB, ne_oi_oC, ne_oi_oM, ne_oi_o0, ne_oA_o1, ne_oA_oi, ne_oA_oB, ne_oA_oC, ne_oA_oM, ne_oA_o0, ne_oB_o1, ne_oB_oi, ne_oB_oA, ne_oB_oC, ne_oB_oM, ne_oB_o0, ne_oC_o1, ne_oC_oi, ne_oC_oA, ne_oC_oB, ne_oC_oM, ne_oC_o0, ne_oM_o1, ne_oM_oi, ne_oM_oA, ne_oM_oB, ne_oM_oC, ne_oM_o0, ne_o0_o1, ne_o0_oi, ne_o0_oA, ne_o0_oB, ne_o0_oC, ne_o0_oM]
      have hfl5 : (flatC noteC (N ++ [y])).length = (N.length + 1) * 4 := by rw [flatC_len (k := 4) (noteC_len _)]; simp
      rw [frz_2008 (id := m.nx + 1 + 17 + 26 + 10) (k := m.nx + 1 + 17 + 26 + 2) (es := 4) (l := N.length + 1) (top := (flatC noteC (N ++ [y])).length) (a := .sl id 1 0 D.length D.length) (cs := flatC noteC (N ++ [y])) (by simp) (by simp) (by simp [ne_oC_oB, ne_oB_oC]) ne_oC_oB rfl hclo hfl5.symm]
      have hdp : mapO (deep (upd (upd (upd (upd m.h m.nx none) (m.nx + 1 + 15) (some (.cells (noteC y)))) (m.nx + 1 + 17 + 26 + 2) none) (m.nx + 1 + 17 + 26 + 10) none) 5) (flatC noteC (N ++ [y])) = some (flatC noteC (N ++ [y])) := flatC_deep _ 4 (fun a => rfl) _
      rw [hy] at hdp
      simp [hi, hwi, s1, s2, hDe, hy, eb, hdp, AV.flat, AV.flat1, ne_o1_oi, ne_o1_oA, ne_o1_oB, ne_o1_oC, ne_o1_oM, ne_o1_o0, ne_oi_o1, ne_oi_oA, ne_oi_oB, ne_oi_oC, ne_oi_oM, ne_oi_o0, ne_oA_o1, ne_oA_oi, ne_oA_oB, ne_oA_oC, ne_oA_oM, ne_oA_o0, ne_oB_o1, ne_oB_oi, ne_oB_oA, ne_oB_oC, ne_oB_oM, ne_oB_o0, ne_oC_o1, ne_oC_oi, ne_oC_oA, ne_oC_oB, ne_oC_oM, ne_oC_o0, ne_oM_o1, ne_oM_oi, ne_oM_oA, ne_oM_oB, ne_oM_oC, ne_oM_o0, ne_o0_o1, ne_o0_oi, ne_o0_oA, ne_o0_oB, ne_o0_oC, ne_o0_oM]
      subst hM
      rfl
end Go.Proofs.Ytdkmepjedjclkaa
