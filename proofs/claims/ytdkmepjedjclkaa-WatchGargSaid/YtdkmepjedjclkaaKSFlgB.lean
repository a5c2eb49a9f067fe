/-
  FLAGS: WHAT ALL CUTS AT WHICH ALL HANDS SAY YES BECOME. Conditions: none.
-/
import Derived.Test.YtdkmepjedjclkaaKSFlgA
set_option linter.all false
namespace Go.Proofs.Ytdkmepjedjclkaa
open Go.AM
open Go.Proofs.Try (prog)
set_option linter.all false
set_option maxRecDepth 100000
set_option maxHeartbeats 4000000

theorem u95 : prog.underlying 95 = some (.slice 99) := by kernel_rfl
theorem nil95 : binA prog .eql 95 .nils .nils = some (.bool true) := by simp [binA, eqT, eqA, u95]
theorem nil95' (id es off n top : Nat) : binA prog .eql 95 (.sl id es off n top) .nils = some (.bool false) := by simp [binA, eqT, eqA, u95]

/-- A function of two cuts. -/
structure IsOp (fb : Nat) (op : List Int → List Int → List Int) : Prop where
  pure : (ann fb).pure = true
  call : ∀ a b : List Int, a.length = 4 → b.length = 4 → ∀ m, denC prog ann fb [.agg (ints a), .agg (ints b)] m = some (.agg (ints (op a b)), m)
  len : ∀ a b : List Int, a.length = 4 → b.length = 4 → (op a b).length = 4
theorem op_meet : IsOp 90 zmin := ⟨by kernel_rfl, fun a b ha hb m => meet_spec ha hb m, fun a b ha hb => by simp [zmin, ha, hb]⟩
theorem op_join : IsOp 91 zmax := ⟨by kernel_rfl, fun a b ha hb m => join_spec ha hb m, fun a b ha hb => by simp [zmax, ha, hb]⟩

section
variable {fb : Nat} {op : List Int → List Int → List Int} {sv vF : AV} {n : Nat} {D4 : List Int} {K : List (List (List Int))}

theorem IsStory.frz (s : IsStory sv n D4 K) (m : Mem) : frzV sv m = some (sv, m) := by obtain ⟨V, rfl, _⟩ := s.V; rfl

theorem fold_loop (o : IsOp fb op) (s : IsStory sv n D4 K) {oid bid : Nat} (hne : oid ≠ bid) {A : List (List Int)} (hA : Four A) (hAl : A.length < 1000000) : ∀ (k i : Nat) (best : List Int) (m : Mem), i + k = A.length → best.length = 4 → m.h bid = some (.cells (ints best)) → m.h oid = some (.cells (flatC ints A)) → bid < m.nx → oid < m.nx →
    watch_ends.L2 (.fn fb [] []) (.fptr [sv, vF]) (.ptr bid 0 4) (.sl oid 4 0 A.length (A.length * 4)) (.int .i64 A.length) (.int .i64 i) m [.code watch_ends.r20, .code .ret] =
      some (.tup [.fsl false n (ints (((A.drop i).foldl op best).take n)), .int .i64 0], Mem.empty) := by
  intro k
  induction k with
  | zero =>
    intro i best m h1 h2 h3 h4 h5 h6
    have e : i = A.length := by omega
    have hl := list_fix s h2
    have htk : (ints best).take 4 = ints best := List.take_of_length_le (by simp [h2])
    simp at htk
    rw [watch_ends.L2_eq]
    simp [e, h3, h2, htk, hl, s.closed, s.frz]
    done
  | succ k ih =>
    intro i best m h1 h2 h3 h4 h5 h6
    have hi : i < A.length := by omega
    have hw : IntKind.wrap .i64 ((i : Int) + 1) = (i : Int) + 1 := wrap_id (by omega) (by omega)
    have hc4 : (cth A i).length = 4 := hA _ (cth_mem hi)
    have hop := o.call best (cth A i) h2 hc4
    have hol := o.len best (cth A i) h2 hc4
    have e1 : (oid == m.nx) = false := beq_eq_false_iff_ne.2 (by omega)
    have e2 : (bid == m.nx) = false := beq_eq_false_iff_ne.2 (by omega)
    have e3 : (oid == bid) = false := beq_eq_false_iff_ne.2 hne
    have hAlen := flatC_len (f := ints) (k := 4) (l := A) (fun a ha => by simp [hA a ha])
    have hst := ih (i + 1) (op best (cth A i)) ⟨upd (upd m.h m.nx none) bid (some (.cells (ints (op best (cth A i))))), m.nx + 1⟩ (by omega) hol (by simp) (by simp [e1, e3, h4]) (by show bid < m.nx + 1; omega) (by show oid < m.nx + 1; omega)
    simp only [Int.natCast_add, Int.cast_ofNat_Int] at hst
    have hdr : (flatC ints A).drop (i * 4) = flatC ints (A.drop i) := flatC_drop i (fun a ha => by simp [hA a ha])
    have htk : (flatC ints (A.drop i)).take 4 = ints (cth A i) := by
      rw [flatC_at (cth_eq hi)]; exact List.take_left' (by simp [hc4])
    have htb : (ints best).take 4 = ints best := List.take_of_length_le (by simp [h2])
    have htc : (ints (cth A i)).take 4 = ints (cth A i) := List.take_of_length_le (by simp [hc4])
    simp at htb htc
    have hd0 : (ints best).drop 4 = [] := List.drop_of_length_le (by simp [h2])
    simp at hd0
    have hf : (A.drop i).foldl op best = (A.drop (i + 1)).foldl op (op best (cth A i)) := by
      obtain ⟨g1, g2⟩ := List.getElem?_eq_some_iff.1 (cth_eq hi)
      rw [List.drop_eq_getElem_cons g1, g2]; rfl
    rw [watch_ends.L2_eq, hf, ← hst]
    simp [hi, h4, hAlen, hdr, htk, hc4, e1, e2, e3, h3, h2, htb, htc, hop, hol, hd0, hw, o.pure, show i * 4 + 4 ≤ A.length * 4 by omega, show i * 4 < A.length * 4 by omega]
    done

/-- The list while it grows. -/
def outX (oid : Nat) (acc : List (List Int)) : AV := if acc = [] then .nils else .sl oid 4 0 acc.length (acc.length * 4)
def OutX (m : Mem) (oid : Nat) (acc : List (List Int)) : Prop := acc ≠ [] → m.h oid = some (.cells (flatC ints acc)) ∧ oid < m.nx

/-- What comes of all that was found. -/
def endV (op : List Int → List Int → List Int) (n : Nat) (acc : List (List Int)) : AV := match acc with
  | [] => .tup [.nils, .int .i64 5]
  | x :: l => .tup [.fsl false n (ints (((x :: l).foldl op x).take n)), .int .i64 0]

theorem ends_loop (o : IsOp fb op) (s : IsStory sv n D4 K) {cs : List AV} {F : List (List Bool)} (hF : IsVec IsBools vF cs F) (hF4 : F.length ≤ 4) {av : AV} {A : List (List Int)} (hav : IsSl ints av A) (hA : Four A) (hAl : A.length < 1000000)
    (hw : ∀ c ∈ A, ∀ h, h < F.length → 0 ≤ nth c h ∧ nth c h < (gth F h).length) : ∀ (k i : Nat) (acc : List (List Int)) (oid : Nat) (m : Mem), i + k = A.length → Four acc → acc.length ≤ i → OutX m oid acc →
    watch_ends.L0 (.fn fb [] []) (.fptr [sv, vF]) (.fn 101 [.agg [sv, vF]] []) (outX oid acc) av (.int .i64 A.length) (.int .i64 i) m [.code watch_ends.r12, .code watch_ends.i3, .code watch_ends.r14, .code watch_ends.r15, .code watch_ends.k2, .code watch_ends.r20, .code .ret] =
      some (endV op n (acc ++ (A.drop i).filter (yesB F)), Mem.empty) := by
  intro k
  induction k with
  | zero =>
    intro i acc oid m h1 hacc hal ho
    have e : i = A.length := by omega
    cases acc with
    | nil =>
      rw [watch_ends.L0_eq]
      simp [e, outX, nil95, endV]
      done
    | cons x l =>
      obtain ⟨ho1, ho2⟩ := ho (by simp)
      have hAlen := flatC_len (f := ints) (k := 4) (l := x :: l) (fun a ha => by simp [hacc a ha])
      have hx : x.length = 4 := hacc x (by simp)
      have htk : (flatC ints (x :: l)).take 4 = ints x := by rw [flatC_cons]; exact List.take_left' (by simp [hx])
      have htx : (ints x).take 4 = ints x := List.take_of_length_le (by simp [hx])
      have hd0 : (ints x).drop 4 = [] := List.drop_of_length_le (by simp [hx])
      simp at htx hd0
      have e1 : (oid == m.nx) = false := beq_eq_false_iff_ne.2 (by omega)
      have fin := fold_loop (vF := vF) o s (oid := oid) (bid := m.nx) (by omega) hacc (by omega) (x :: l).length 0 x ⟨upd (upd m.h m.nx (some (.cells [.int .i64 0, .int .i64 0, .int .i64 0, .int .i64 0]))) m.nx (some (.cells (ints x))), m.nx + 1⟩ (by omega) hx (by simp) (by simp [e1, ho1]) (by show m.nx < m.nx + 1; omega) (by show oid < m.nx + 1; omega)
      simp only [Int.cast_ofNat_Int, Int.ofNat_zero, List.drop_zero] at fin
      have hn : x :: l ≠ [] := by simp
      generalize hL : x :: l = L at *
      have hLl : 0 < L.length := by rw [← hL]; simp
      have hE : endV op n (L ++ List.filter (yesB F) (A.drop i)) = .tup [.fsl false n (ints ((L.foldl op x).take n)), .int .i64 0] := by rw [← hL, e]; simp [endV]
      rw [watch_ends.L0_eq, hE, ← fin]
      simp [e, outX, hn, nil95', ho1, hAlen, htk, hx, htx, hd0, hLl, show 4 ≤ L.length * 4 by omega, e1]
      done
  | succ k ih =>
    intro i acc oid m h1 hacc hal ho
    have hi : i < A.length := by omega
    have hw1 : IntKind.wrap .i64 ((i : Int) + 1) = (i : Int) + 1 := wrap_id (by omega) (by omega)
    have hmem := cth_mem hi
    have hc4 : (cth A i).length = 4 := hA _ hmem
    have hidx := hav.idx hA.cells hi .i64
    have hld := load_cut hA hi
    have hy := yes_spec s.closed s.one hF hc4 hF4 (hw _ hmem)
    have hd : A.drop i = cth A i :: A.drop (i + 1) := by
      obtain ⟨g1, g2⟩ := List.getElem?_eq_some_iff.1 (cth_eq hi)
      rw [List.drop_eq_getElem_cons g1, g2]
    have htc : (ints (cth A i)).take 4 = ints (cth A i) := List.take_of_length_le (by simp [hc4])
    have hd0 : (ints (cth A i)).drop 4 = [] := List.drop_of_length_le (by simp [hc4])
    simp at htc hd0
    have hacl := flatC_len (f := ints) (k := 4) (l := acc) (fun a ha => by simp [hacc a ha])
    have hcons : ∀ X : List (List Int), cth A i :: X = [cth A i] ++ X := fun _ => rfl
    cases q : yesB F (cth A i) with
    | false =>
      have hst := ih (i + 1) acc oid ⟨upd m.h m.nx none, m.nx + 1⟩ (by omega) hacc (by omega) (fun hn => by
        obtain ⟨a, b⟩ := ho hn
        exact ⟨by simp [show (oid == m.nx) = false from beq_eq_false_iff_ne.2 (by omega), a], by show oid < m.nx + 1; omega⟩)
      simp only [Int.natCast_add, Int.cast_ofNat_Int] at hst
      rw [watch_ends.L0_eq, hd, List.filter_cons, q, if_neg (by simp), ← hst]
      simp [hi, hidx, hld, hc4, htc, hy, q, hw1, s.closed, hF.closed]
      done
    | true =>
      have hacc' : Four (acc ++ [cth A i]) := fun c hc => by
        rcases List.mem_append.1 hc with h | h
        · exact hacc c h
        · simp at h; rw [h]; exact hc4
      have hfl : flatC ints (acc ++ [cth A i]) = flatC ints acc ++ ints (cth A i) := by rw [flatC_append, flatC_one]
      by_cases hn : acc = []
      · subst hn
        have hst := ih (i + 1) [cth A i] (m.nx + 1) ⟨upd (upd m.h m.nx none) (m.nx + 1) (some (.cells (ints (cth A i)))), m.nx + 1 + 1⟩ (by omega) hacc' (by simp) (fun _ => ⟨by simp [flatC_one], by show m.nx + 1 < m.nx + 1 + 1; omega⟩)
        simp only [Int.natCast_add, Int.cast_ofNat_Int] at hst
        have e3 : outX (m.nx + 1) [cth A i] = .sl (m.nx + 1) 4 0 1 4 := by simp [outX]
        rw [e3] at hst
        rw [watch_ends.L0_eq, hd, List.filter_cons, q, if_pos rfl, List.nil_append, hcons, ← hst]
        simp [hi, hidx, hld, hc4, htc, hd0, hy, q, hw1, s.closed, hF.closed, outX]
        done
      · obtain ⟨a, b⟩ := ho hn
        have e1 : (oid == m.nx) = false := beq_eq_false_iff_ne.2 (by omega)
        have hst := ih (i + 1) (acc ++ [cth A i]) oid ⟨upd (upd m.h m.nx none) oid (some (.cells (flatC ints acc ++ ints (cth A i)))), m.nx + 1⟩ (by omega) hacc' (by simp; omega) (fun _ => ⟨by simp [hfl], by show oid < m.nx + 1; omega⟩)
        simp only [Int.natCast_add, Int.cast_ofNat_Int] at hst
        have e3 : outX oid (acc ++ [cth A i]) = .sl oid 4 0 (acc.length + 1) (acc.length * 4 + 4) := by simp [outX, Nat.add_mul]
        have e4 : outX oid acc = .sl oid 4 0 acc.length (acc.length * 4) := by simp [outX, hn]
        rw [e3] at hst
        rw [watch_ends.L0_eq, hd, List.filter_cons, q, if_pos rfl, hcons, ← List.append_assoc, ← hst, e4]
        simp [hi, hidx, hld, hc4, htc, hd0, hy, q, hw1, s.closed, hF.closed, e1, a, hacl, show acc.length + 1 ≤ 4611686018427387904 by omega, show acc.length ≤ 4611686018427387903 by omega, show (acc.length + 1) * 32 ≤ 70368744177664 by omega]
        done
end
end Go.Proofs.Ytdkmepjedjclkaa
