/-
  SETS OF CUTS; Possibly. Conditions: none.
-/
import Derived.Test.YtdkmepjedjclkaaKSMapA
import Derived.Test.YtdkmepjedjclkaaKBGarg
set_option linter.all false
namespace Go.Proofs.Ytdkmepjedjclkaa
open Go.AM
open Go.Proofs.Try (prog)
set_option linter.all false
set_option maxRecDepth 100000
set_option maxHeartbeats 4000000

/-- The entries of a set. -/
def setE (rows : List (List Int)) (E : Ents) : Ents := rows.foldl (fun E r => setL E (pad r) (.bool true)) E
def TrueE (E : Ents) : Prop := ∀ e ∈ E, e.2 = .bool true
theorem setL_true : ∀ {L : Ents} {c : List Int}, TrueE L → TrueE (setL L c (.bool true))
  | [], c, _ => fun e he => by simp [setL] at he; rw [he]
  | x :: L, c, h => fun e he => by
    rw [setL] at he
    split at he
    · rcases List.mem_cons.1 he with rfl | he
      · rfl
      · exact h e (by simp [he])
    · rcases List.mem_cons.1 he with rfl | he
      · exact h e (by simp)
      · exact setL_true (fun y hy => h y (by simp [hy])) e he
theorem lk_setE : ∀ (rows : List (List Int)) (E : Ents) (c : List Int), lkL (setE rows E) c = if c ∈ rows.map pad then some (.bool true) else lkL E c
  | [], E, c => by simp [setE]
  | r :: rows, E, c => by
    show lkL (setE rows (setL E (pad r) (.bool true))) c = _
    rw [lk_setE rows, lk_set]
    by_cases q : c ∈ rows.map pad
    · rw [if_pos q, if_pos (by simp only [List.map_cons, List.mem_cons]; exact .inr q)]
    · rw [if_neg q]
      by_cases q2 : pad r = c
      · rw [if_pos q2, if_pos (by simp only [List.map_cons, List.mem_cons]; exact .inl q2.symm)]
      · rw [if_neg q2, if_neg (by simp only [List.map_cons, List.mem_cons]; exact fun x => x.elim (fun y => q2 y.symm) q)]
theorem valsL_true {E : Ents} (h : TrueE E) (hp : Nat → Option AObj) (d : Nat) : mapO (deep hp (d + 1)) (valsL E) = some (valsL E) := by
  refine mapO_fix fun a ha => ?_
  simp only [valsL, List.mem_map] at ha
  obtain ⟨e, he, rfl⟩ := ha
  rw [h e he]; rfl
/-- What setOf hands back. -/
inductive SetRes (D : List Int) (N : List Note) (L : List (List Int)) : AV → AV → Int → Prop where
  | bad (h : ¬ ValidS D N) : SetRes D N L .nilp .nilm 1
  | long (v : ValidS D N) (h : 2500 < L.length) : SetRes D N L .nilp .nilm 3
  | form (v : ValidS D N) (h : L.length ≤ 2500) (h2 : L.all (cutB D) = false) : SetRes D N L .nilp .nilm 2
  | ok {sv : AV} {K : List (List (List Int))} (v : ValidS D N) (h : L.length ≤ 2500) (h2 : L.all (cutB D) = true) (k : Clocks D N K) (s : IsStory sv D.length (pad D) K) : SetRes D N L sv (mapV (setE L [])) 0

theorem set_loop {sv vL : AV} {D : List Int} {K : List (List (List Int))} (s : IsStory sv D.length (pad D) K) {cs : List AV} {L : List (List Int)} (hL : IsVec IsInts vL cs L) (hl : L.length ≤ 2500) (hw : ∀ i, i < L.length → (gth L i).length < 1000000) {id : Nat} : ∀ (k i : Nat) (E : Ents) (g : Nat) (m : Mem), i + k = L.length → Keys4 E → TrueE E → m.h id = some (.map g (keysL E) (valsL E)) → id < m.nx →
    watch_setOf.L1 sv (.map id) vL (.int .i64 L.length) (.int .i64 i) m [.code watch_setOf.r15, .code .ret] =
      some (if (L.drop i).all (cutB D) = true then .tup [sv, mapV (setE (L.drop i) E), .int .i64 0] else .tup [.nilp, .nilm, .int .i64 2], Mem.empty) := by
  have hn4 := s.n4
  have hfz : ∀ h d, deep h (d + 1) sv = some sv := by obtain ⟨V, rfl, _⟩ := s.V; exact fun _ _ => rfl
  intro k
  induction k with
  | zero =>
    intro i E g m h1 hE hT hm hid
    have e : i = L.length := by omega
    rw [watch_setOf.L1_eq]
    simp [e, hm, hfz, keysL_deep, valsL_true hT, setE, mapV]
    done
  | succ k ih =>
    intro i E g m h1 hE hT hm hid
    have hi : i < L.length := by omega
    have hwr : IntKind.wrap .i64 ((i : Int) + 1) = (i : Int) + 1 := wrap_id (by omega) (by omega)
    have hb := hL.at hi
    obtain ⟨c, hc, hc4, ec⟩ := cutOf_spec s hb (hw i hi)
    have hd := drop_gth hi
    have htc : (ints c).take 4 = ints c := List.take_of_length_le (by simp [hc4])
    have hd0 : (ints c).drop 4 = [] := List.drop_of_length_le (by simp [hc4])
    simp at htc hd0
    have e1 : (id == m.nx) = false := beq_eq_false_iff_ne.2 (by omega)
    rw [watch_setOf.L1_eq, hd, List.all_cons]
    cases q : cutB D (gth L i) with
    | false =>
      rw [q] at ec
      simp [hi, hL.idx hi, hL.load hi, s.closed, hb.closed, ec, hc4, htc, hd0]
      done
    | true =>
      rw [q] at ec
      have hcp := hc q
      have hst := ih (i + 1) (setL E c (.bool true)) (g + 1) ⟨upd (upd m.h m.nx none) id (some (.map (g + 1) (keysL (setL E c (.bool true))) (valsL (setL E c (.bool true))))), m.nx + 1⟩ (by omega) (setL_keys4 hE hc4) (setL_true hT) (by simp) (by show id < m.nx + 1; omega)
      have hu := upd99 (m := ⟨upd m.h m.nx none, m.nx + 1⟩) (id := id) (g := g) (L := E) (c := c) (v := .bool true) (by simp [e1, hm]) hE hc4
      simp only [Int.natCast_add, Int.cast_ofNat_Int] at hst
      have hse : setE (gth L i :: L.drop (i + 1)) E = setE (L.drop (i + 1)) (setL E c (.bool true)) := by rw [hcp]; rfl
      rw [hse, Bool.true_and, ← hst]
      simp [hi, hL.idx hi, hL.load hi, s.closed, hb.closed, ec, hc4, htc, hd0, hu, Mem.set, hwr]
      done

theorem setOf_spec {v vL : AV} {D : List Int} {N : List Note} {cs : List AV} {L : List (List Int)} (hs : IsTale v D N) (hl : D.length < 100000) (hn : N.length < 100000) (hL : IsVec IsInts vL cs L) (hLl : L.length < 1000000) (hw : ∀ i, i < L.length → (gth L i).length < 1000000) :
    ∃ x y e, SetRes D N L x y e ∧ ∀ m, denC prog ann 74 [v, vL] m = some (.tup [x, y, .int .i64 e], m) := by
  obtain ⟨r, hr, er⟩ := readV_spec hs hl hn
  obtain ⟨vD, vN, rfl, h1, h2⟩ := hs.ex
  have hcl : closedL [.agg [vD, vN], vL] = true := by simp [h1.closed, h2.closed, hL.closed]
  cases hr with
  | no h =>
    refine ⟨_, _, _, .bad h, fun m => ?_⟩
    rw [watch_setOf.call_eq _ _ _ hcl]
    simp [h1.one, h2.one, h1.closed, h2.closed, er]
    done
  | @ok sv K val k s =>
    by_cases q : 2500 < L.length
    · refine ⟨_, _, _, .long val q, fun m => ?_⟩
      rw [watch_setOf.call_eq _ _ _ hcl]
      simp [h1.one, h2.one, h1.closed, h2.closed, er, hL.len, show (2500 : Int) < L.length by omega]
      done
    · have lp := set_loop s hL (by omega) hw (id := 0) L.length 0 [] 0 ⟨upd Mem.empty.h 0 (some (.map 0 [] [])), 1⟩ (by omega) (fun e he => by cases he) (fun e he => by cases he) (by simp [keysL, valsL]) (by show 0 < 1; omega)
      simp only [Int.cast_ofNat_Int, Int.ofNat_zero, List.drop_zero] at lp
      cases hq : L.all (cutB D) with
      | true =>
        rw [hq] at lp
        refine ⟨_, _, _, .ok val (by omega) hq k s, fun m => ?_⟩
        rw [watch_setOf.call_eq _ _ _ hcl]
        simp at lp
        simp [h1.one, h2.one, h1.closed, h2.closed, er, hL.len, show ¬ (2500 : Int) < L.length by omega, lp]
        done
      | false =>
        rw [hq] at lp
        refine ⟨_, _, _, .form val (by omega) hq, fun m => ?_⟩
        rw [watch_setOf.call_eq _ _ _ hcl]
        simp at lp
        simp [h1.one, h2.one, h1.closed, h2.closed, er, hL.len, show ¬ (2500 : Int) < L.length by omega, lp]
        done
end Go.Proofs.Ytdkmepjedjclkaa
