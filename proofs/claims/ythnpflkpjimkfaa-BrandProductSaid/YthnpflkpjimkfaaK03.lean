/-
  WHAT WORDS DO: moves of states, as keys. Conditions: none.
-/
import Derived.Test.YthnpflkpjimkfaaK02
import Derived.Test.YthnpflkpjimkfaaKAmH
import Derived.Test.YthnpflkpjimkfaaK01
set_option linter.all false
namespace Go.Proofs.Ythnpflkpjimkfaa
open Go.AM
open Go.Proofs.Try (prog)
set_option linter.all false
set_option maxRecDepth 100000
set_option maxHeartbeats 8000000
theorem IsRows.deep {v : AV} {ps : List AV} {rows : List (List Int)} (h : IsRows v ps rows) (hp : Nat → Option AObj) (d : Nat) : AM.deep hp (d + 1) v = some v := by rcases h.val with ⟨rfl, _⟩ | ⟨_, rfl⟩ <;> rfl
def mvF (n : Nat) (f : Nat → Nat) (c : Nat) : List Nat := (List.range 6).map fun s => if s < c then f s else 0
def mv6 (rows : List (List Int)) (w : List UInt8) : List Nat := mvF rows.length (fun s => goL rows w s) rows.length
@[simp] theorem mv6_len (rows : List (List Int)) (w : List UInt8) : (mv6 rows w).length = 6 := by simp [mv6, mvF]
def nxM (rows : List (List Int)) (t : List Nat) (a : Nat) : List Nat := mvF rows.length (fun s => nx rows (t.getD s 0) a) rows.length
def encM (t : List Nat) : AV := .agg (t.map fun x => .int .i64 (x : Nat))
@[simp] theorem mvF_len (n : Nat) (f : Nat → Nat) (c : Nat) : (mvF n f c).length = 6 := by simp [mvF]
theorem mvF_at {n : Nat} {f : Nat → Nat} {c s : Nat} (h : s < 6) (hc : s < c) : (mvF n f c).getD s 0 = f s := by
  simp [mvF, List.getD_eq_getElem?_getD, h, hc]
theorem mvF_set {n : Nat} {f : Nat → Nat} {c : Nat} (h : c < 6) : ((mvF n f c).map fun x => AV.int .i64 (x : Nat)).set c (.int .i64 (f c : Nat)) = (mvF n f (c + 1)).map fun x => AV.int .i64 (x : Nat) := by
  refine List.ext_getElem (by simp) fun i h1 h2 => ?_
  have hi : i < 6 := by simpa using h2
  rw [List.getElem_set]
  by_cases e : c = i
  · subst e; simp [mvF]
  · simp only [if_neg e, List.getElem_map, mvF, List.getElem_range]
    by_cases q : i < c
    · rw [if_pos q, if_pos (by omega)]
    · rw [if_neg q, if_neg (by omega)]
theorem goL_snoc (rows : List (List Int)) (c : UInt8) : ∀ (w : List UInt8) (s : Nat), goL rows (w ++ [c]) s = nx rows (goL rows w s) (c.toNat - 97)
  | [], s => rfl
  | b :: w, s => by rw [List.cons_append, goL, goL_snoc rows c w, goL]
theorem ltr_sub {a : Nat} (h : a < 3) : (UInt8.ofNat (97 + a)).toNat - 97 = a := by
  have : a = 0 ∨ a = 1 ∨ a = 2 := by omega
  rcases this with rfl | rfl | rfl <;> rfl
theorem goL_ltr (rows : List (List Int)) (w : List UInt8) {a : Nat} (h : a < 3) (s : Nat) : goL rows (w ++ ltr a) s = nx rows (goL rows w s) a := by rw [ltr, goL_snoc, ltr_sub h]
theorem mv6_ltr (rows : List (List Int)) (n6 : rows.length ≤ 6) (w : List UInt8) {a : Nat} (h : a < 3) : mv6 rows (extL w a) = nxM rows (mv6 rows w) a := by
  rw [mv6, nxM, mvF, mvF]
  refine List.map_congr_left fun s hs => ?_
  have hs6 : s < 6 := by simpa using hs
  by_cases q : s < rows.length
  · rw [if_pos q, if_pos q, extL, goL_ltr rows w h, mv6, mvF_at hs6 q]
  · rw [if_neg q, if_neg q]
theorem fl139 : flatT prog 139 = some [3, 3, 3, 3, 3, 3] := by kernel_rfl
theorem eqCs_nat : ∀ (a b : List Nat) (n : Nat), a.length = n → b.length = n → eqCs prog (List.replicate n 3) (a.map fun x => .int .i64 (x : Nat)) (b.map fun x => .int .i64 (x : Nat)) = some (decide (a = b))
  | [], [], 0, _, _ => rfl
  | [], _ :: _, 0, _, h => by simp at h
  | _ :: _, _, 0, h, _ => by simp at h
  | [], _, n + 1, h, _ => by simp at h
  | _ :: _, [], n + 1, _, h => by simp at h
  | x :: a, y :: b, n + 1, h1, h2 => by
    have ih := eqCs_nat a b n (by simpa using h1) (by simpa using h2)
    rw [List.replicate_succ, List.map_cons, List.map_cons, eqCs, sc3, sc3]
    by_cases e : x = y
    · subst e
      simp [eqSc, ih]
    · have : ((x : Int) == (y : Int)) = false := by rw [beq_eq_false_iff_ne]; omega
      simp [eqSc, this, e]
theorem scL_nat : ∀ (a : List Nat) (n : Nat), a.length = n → scL prog (List.replicate n 3) (a.map fun x => .int .i64 (x : Nat)) = true
  | [], 0, _ => rfl
  | _ :: _, 0, h => by simp at h
  | [], n + 1, h => by simp at h
  | x :: a, n + 1, h => by
    have ih := scL_nat a n (by simpa using h)
    rw [List.replicate_succ, List.map_cons, scL, sc3, ih]; rfl
theorem keysM : Keys 139 encM (fun t => t.length = 6) := by
  refine ⟨fun a b ha hb => ?_, fun a ha => ?_⟩
  · have := eqCs_nat a b 6 ha hb
    simp only [keyEq, encM, fl139, Option.bind_some, List.length_map, ha, hb]
    exact this
  · have := scL_nat a 6 ha
    simp only [keyT, encM, fl139, List.length_map, ha]
    exact this
theorem encM_one (t : List Nat) : oneL (t.map fun x => AV.int .i64 (x : Nat)) = true := by
  induction t with
  | nil => rfl
  | cons a t ih => simp [oneL, AV.one, ih]
theorem encM_closed (t : List Nat) : closedL (t.map fun x => AV.int .i64 (x : Nat)) = true := by
  induction t with
  | nil => rfl
  | cons a t ih => simp [closedL, AV.closed, ih]
theorem encM_mapO (h : Nat → Option AObj) (d : Nat) (t : List Nat) : mapO (AM.deep h (d + 1)) (t.map fun x => AV.int .i64 (x : Nat)) = some (t.map fun x => AV.int .i64 (x : Nat)) := mapO_same _ (fun x hx => by
  simp only [List.mem_map] at hx
  obtain ⟨b, _, rfl⟩ := hx
  rfl)
def dsV (rows : List (List Int)) (w : List UInt8) : AV := if w = [] then .iface 142 (.agg []) else .iface 139 (encM (mv6 rows w))
theorem deep_encM (h : Nat → Option AObj) (d t : Nat) (x : List Nat) : AM.deep h (d + 1) (.iface t (.agg (x.map fun x => AV.int .i64 (x : Nat)))) = some (.iface t (.agg (x.map fun x => AV.int .i64 (x : Nat)))) := by
  simp [AM.deep, AV.closed, encM_closed]
theorem does_loop {nv gv wv ov : AV} {ps : List AV} {rows : List (List Int)} {good : List Bool} {k : Nat} (hn : IsRows nv ps rows) (hg : IsB gv good) (v : VB rows good k) {w : List UInt8} (hs : w.length ≤ 1000000) (hl : letF k w w.length 0 = true) : ∀ (c s : Nat) (nx0 : Nat) (h : Nat → Option AObj), s + c = rows.length → h 0 = some (.cells ((mvF rows.length (fun s => goL rows w s) s).map fun x => AV.int .i64 (x : Nat))) →
    brand_monoid_does.L0 (.fptr [nv, gv, wv, ov]) (.str w) (.ptr 0 0 6) (.int .i64 rows.length) (.int .i64 s) ⟨h, nx0⟩ [.code brand_monoid_does.r9, .code .ret] = some (.iface 139 (encM (mv6 rows w)), Mem.empty) := by
  intro c
  have n6 := v.n6
  induction c with
  | zero =>
    intro s nx0 h h1 h0
    have e : s = rows.length := by omega
    subst e
    rw [brand_monoid_does.L0_eq]
    have tk : ((mvF rows.length (fun s => goL rows w s) rows.length).map fun x => AV.int .i64 (x : Nat)).take 6 = (mvF rows.length (fun s => goL rows w s) rows.length).map fun x => AV.int .i64 (x : Nat) := List.take_of_length_le (by simp)
    simp [h0, encM, mv6, tk, deep_encM]
    done
  | succ c ih =>
    intro s nx0 h h1 h0
    have hs' : s < rows.length := by omega
    have hws : IntKind.wrap .i64 ((s : Int) + 1) = (s : Int) + 1 := wrap_id (by omega) (by omega)
    have ha := fun m => after_spec hn hg v hs hl hs' m
    have st := ih (s + 1) nx0 (upd h 0 (some (.cells ((mvF rows.length (fun s => goL rows w s) (s + 1)).map fun x => AV.int .i64 (x : Nat))))) (by omega) (by simp)
    simp only [Int.natCast_add, Int.cast_ofNat_Int] at st
    have hset := mvF_set (n := rows.length) (f := fun s => goL rows w s) (c := s) (by omega)
    rw [brand_monoid_does.L0_eq]
    simp [hs', hn.one, hg.one, hn.closed, hg.closed, ha, h0, hset, hws, st, show s < 6 by omega]
    done
theorem mvF_zero (n : Nat) (f : Nat → Nat) : (mvF n f 0).map (fun x => AV.int .i64 (x : Nat)) = [.int .i64 0, .int .i64 0, .int .i64 0, .int .i64 0, .int .i64 0, .int .i64 0] := by
  simp [mvF, List.range_succ]
theorem does_spec {nv gv wv ov : AV} {ps : List AV} {rows : List (List Int)} {good : List Bool} {k : Nat} (hn : IsRows nv ps rows) (hg : IsB gv good) (v : VB rows good k) (hw : wv.closed = true) (ho : ov.closed = true) {w : List UInt8} (hs : w.length ≤ 1000000) (hl : letF k w w.length 0 = true) (m : Mem) :
    denC prog ann 88 [.fptr [nv, gv, wv, ov], .str w] m = some (dsV rows w, m) := by
  rw [brand_monoid_does.call_eq _ _ _ (by simp [hn.closed, hg.closed, hw, ho])]
  unfold dsV
  by_cases c : w = []
  · subst c
    simp [AM.deep, AV.closed, closedL]
    done
  · have lp := does_loop (wv := wv) (ov := ov) hn hg v hs hl rows.length 0 1 (upd Mem.empty.h 0 (some (.cells [.int .i64 0, .int .i64 0, .int .i64 0, .int .i64 0, .int .i64 0, .int .i64 0]))) (by omega) (by rw [mvF_zero]; simp)
    simp only [Int.ofNat_zero, Int.cast_ofNat_Int] at lp
    simp [c, hn.len, lp]
    done
theorem still_spec (s : Int) (m : Mem) : denC prog ann 95 [.agg [], .int .i64 s] m = some (.int .i64 s, m) := by
  rw [brand_still_to.call_eq _ _ _ (by simp)]
  simp
  done
theorem table_loop {n : Nat} (n6 : n ≤ 6) {K : List Item} : ∀ (c s : Nat) (nx0 : Nat) (h : Nat → Option AObj) (z : Nat) (zs : List AV), s + c = n → z ≠ 2 → zs.length = 6 → h z = some (.cells zs) → h 2 = some (.cells ((mvF n (fun s => s) s).map fun x => AV.int .i64 (x : Nat))) →
    brand_monoid_table.L1 (.ptr z 0 6) (.fptr []) (.ptr 2 0 6) (.int .i64 n) (.int .i64 s) ⟨h, nx0⟩ (.code brand_monoid_table.r13 :: .code .ret :: K) = some (encM (mvF n (fun s => s) n), Mem.empty) := by
  intro c
  induction c with
  | zero =>
    intro s nx0 h z zs h1 hz hzl hzs h0
    have e : s = n := by omega
    subst e
    have tk : ((mvF s (fun s => s) s).map fun x => AV.int .i64 (x : Nat)).take 6 = (mvF s (fun s => s) s).map fun x => AV.int .i64 (x : Nat) := List.take_of_length_le (by simp)
    rw [brand_monoid_table.L1_eq]
    simp [h0, hzs, hzl, encM, tk, encM_one, encM_mapO]
    done
  | succ c ih =>
    intro s nx0 h z zs h1 hz hzl hzs h0
    have hs' : s < n := by omega
    have hws : IntKind.wrap .i64 ((s : Int) + 1) = (s : Int) + 1 := wrap_id (by omega) (by omega)
    have st := ih (s + 1) nx0 (upd h 2 (some (.cells ((mvF n (fun s => s) (s + 1)).map fun x => AV.int .i64 (x : Nat))))) z zs (by omega) hz hzl (by rw [updNe hz]; exact hzs) (by simp)
    simp only [Int.natCast_add, Int.cast_ofNat_Int] at st
    have hset := mvF_set (n := n) (f := fun s => s) (c := s) (by omega)
    rw [brand_monoid_table.L1_eq]
    simp [hs', still_spec, h0, hset, hws, st, show s < 6 by omega]
    done
theorem mv6_nil (rows : List (List Int)) : mv6 rows [] = mvF rows.length (fun s => s) rows.length := rfl
theorem table_spec {nv gv wv ov : AV} {ps : List AV} {rows : List (List Int)} {good : List Bool} {k : Nat} (hn : IsRows nv ps rows) (hg : IsB gv good) (v : VB rows good k) (hw : wv.closed = true) (ho : ov.closed = true) (w : List UInt8) (m : Mem) :
    denC prog ann 87 [.fptr [nv, gv, wv, ov], dsV rows w] m = some (encM (mv6 rows w), m) := by
  have n6 := v.n6
  have hcl : (dsV rows w).closed = true := by
    unfold dsV encM
    split
    · rfl
    · simp [AV.closed, encM_closed]
  rw [brand_monoid_table.call_eq _ _ _ (by simp [hn.closed, hg.closed, hw, ho, hcl])]
  unfold dsV
  by_cases c : w = []
  · subst c
    have st := table_loop n6 (K := [.inBlock 0, .code brand_monoid_table.r14, .code .ret]) rows.length 0 3 (upd (upd (upd (upd Mem.empty.h 0 (some (.cells [.int .i64 0, .int .i64 0, .int .i64 0, .int .i64 0, .int .i64 0, .int .i64 0]))) 1 (some (.cells []))) 1 none) 2 (some (.cells [.int .i64 0, .int .i64 0, .int .i64 0, .int .i64 0, .int .i64 0, .int .i64 0]))) 0 _ (by omega) (by omega) rfl (by simp; rfl) (by rw [mvF_zero]; simp)
    simp only [Int.ofNat_zero, Int.cast_ofNat_Int, ← mv6_nil] at st
    simp [hn.len, tyA]
    simp at st
    rw [st]
    rfl
  · have tk : ((mv6 rows w).map fun x => AV.int .i64 (x : Nat)).take 6 = (mv6 rows w).map fun x => AV.int .i64 (x : Nat) := List.take_of_length_le (by simp)
    simp [c, tyA, encM, encM_one, encM_mapO, encM_closed, tk]
    done
end Go.Proofs.Ythnpflkpjimkfaa

/-
  ALL ELEMENTS OF A MONOID: the law of the search, and the program's memory. Conditions: none.
-/
namespace Go.Proofs.Ythnpflkpjimkfaa
open Go.AM
open Go.Proofs.Try (prog)
set_option linter.all false
set_option maxRecDepth 100000
set_option maxHeartbeats 8000000
def okW (k : Nat) (w : List UInt8) : Prop := ∀ c ∈ w, 97 ≤ c.toNat ∧ c.toNat - 97 < k
theorem letF_iff (k : Nat) (s : List UInt8) : letF k s s.length 0 = true ↔ okW k s := by
  have hb : ∀ i (h : i < s.length), byt s i = s[i].toNat := fun i h => by simp [byt, h]
  simp only [letF, List.all_eq_true, List.mem_range'_1, letB, Bool.and_eq_true, decide_eq_true_eq, okW]
  constructor
  · intro h c hc
    obtain ⟨i, hi, rfl⟩ := List.getElem_of_mem hc
    have := h i ⟨by omega, by omega⟩
    rwa [hb i hi] at this
  · intro h i hi
    have hi' : i < s.length := by omega
    rw [hb i hi']
    exact h _ (List.getElem_mem hi')
theorem okW_ext {k a : Nat} {w : List UInt8} (h : okW k w) (ha : a < k) (hk : k ≤ 3) : okW k (extL w a) := by
  intro c hc
  rcases List.mem_append.1 hc with hc | hc
  · exact h c hc
  · simp [ltr] at hc
    subst hc
    have : a = 0 ∨ a = 1 ∨ a = 2 := by omega
    rcases this with rfl | rfl | rfl <;> exact ⟨by decide, by simpa using ha⟩
theorem okW_nil (k : Nat) : okW k [] := by simp [okW]
theorem okW_app {k : Nat} {u w : List UInt8} (h : okW k u) (g : okW k w) : okW k (u ++ w) := fun c hc => by
  rcases List.mem_append.1 hc with hc | hc
  · exact h c hc
  · exact g c hc
abbrev SM := List (List Nat) × List (List UInt8)
def bInM (rows : List (List Int)) (x : List Nat) (w : List UInt8) : Nat → Nat → SM → Option SM
  | 0, _, S => some S
  | c + 1, a, S => if nxM rows x a ∈ S.1 then bInM rows x w c (a + 1) S else if S.1.length = 400 then none else bInM rows x w c (a + 1) (S.1 ++ [nxM rows x a], S.2 ++ [extL w a])
def bfsM (rows : List (List Int)) (k : Nat) : Nat → Nat → SM → Option SM
  | 0, _, S => some S
  | f + 1, i, S => match S.1[i]?, S.2[i]? with
    | some x, some w => (bInM rows x w k 0 S).bind fun S' => bfsM rows k f (i + 1) S'
    | _, _ => some S
def madeS (rows : List (List Int)) (k : Nat) : Option SM := bfsM rows k 401 0 ([mv6 rows []], [[]])
structure MOk (rows : List (List Int)) (k : Nat) (S : SM) : Prop where
  nd : S.1.Nodup
  eq : S.1 = S.2.map (mv6 rows)
  ok : ∀ w ∈ S.2, okW k w ∧ w.length ≤ S.2.length
  le : S.1.length ≤ 400
section
variable {rows : List (List Int)} {k : Nat} {S : SM}
theorem MOk.len (h : MOk rows k S) : S.1.length = S.2.length := by rw [h.eq]; simp
theorem MOk.at (h : MOk rows k S) {i : Nat} {x : List Nat} {w : List UInt8} (h1 : S.1[i]? = some x) (h2 : S.2[i]? = some w) : x = mv6 rows w := by
  rw [h.eq, List.getElem?_map, h2] at h1
  exact (Option.some.inj h1).symm
theorem MOk.six (h : MOk rows k S) : ∀ x ∈ S.1, x.length = 6 := by
  rw [h.eq]
  intro x hx
  simp only [List.mem_map] at hx
  obtain ⟨w, _, rfl⟩ := hx
  simp
theorem MOk.add (h : MOk rows k S) (n6 : rows.length ≤ 6) (k3 : k ≤ 3) {w : List UInt8} {a : Nat} (hw : w ∈ S.2) (ha : a < k) (hn : nxM rows (mv6 rows w) a ∉ S.1) (hl : S.1.length ≠ 400) : MOk rows k (S.1 ++ [nxM rows (mv6 rows w) a], S.2 ++ [extL w a]) := by
  have hle := h.le
  have hlen := h.len
  refine ⟨?_, ?_, ?_, ?_⟩
  · rw [List.nodup_append]
    refine ⟨h.nd, by simp, ?_⟩
    intro x hx y hy
    simp at hy
    subst hy
    exact fun e => hn (e ▸ hx)
  · simp only [List.map_append, List.map_cons, List.map_nil]
    rw [← h.eq, mv6_ltr rows n6 w (by omega)]
  · intro u hu
    rcases List.mem_append.1 hu with hu | hu
    · have := h.ok u hu
      exact ⟨this.1, by simp; omega⟩
    · simp at hu
      subst hu
      have := h.ok w hw
      exact ⟨okW_ext this.1 ha k3, by simp [extL, ltr]; omega⟩
  · simp; omega
theorem bInM_ok (n6 : rows.length ≤ 6) (k3 : k ≤ 3) {w : List UInt8} : ∀ (c a : Nat) (S S' : SM), a + c ≤ k → MOk rows k S → w ∈ S.2 → bInM rows (mv6 rows w) w c a S = some S' → MOk rows k S' ∧ (∃ p q, S'.1 = S.1 ++ p ∧ S'.2 = S.2 ++ q) ∧ ∀ b, a ≤ b → b < a + c → nxM rows (mv6 rows w) b ∈ S'.1
  | 0, a, S, S', _, h, hw, e => by
    simp only [bInM, Option.some.injEq] at e
    subst e
    exact ⟨h, ⟨[], [], by simp, by simp⟩, by omega⟩
  | c + 1, a, S, S', hc, h, hw, e => by
    rw [bInM] at e
    by_cases q : nxM rows (mv6 rows w) a ∈ S.1
    · rw [if_pos q] at e
      obtain ⟨h1, ⟨p, r, h2, h3⟩, h4⟩ := bInM_ok n6 k3 c (a + 1) S S' (by omega) h hw e
      refine ⟨h1, ⟨p, r, h2, h3⟩, fun b b1 b2 => ?_⟩
      by_cases ba : b = a
      · subst ba; rw [h2]; exact List.mem_append_left _ q
      · exact h4 b (by omega) (by omega)
    · rw [if_neg q] at e
      by_cases q2 : S.1.length = 400
      · rw [if_pos q2] at e; cases e
      · rw [if_neg q2] at e
        obtain ⟨h1, ⟨p, r, h2, h3⟩, h4⟩ := bInM_ok n6 k3 c (a + 1) _ S' (by omega) (h.add n6 k3 hw (by omega) q q2) (by simp [hw]) e
        refine ⟨h1, ⟨nxM rows (mv6 rows w) a :: p, extL w a :: r, by rw [h2]; simp, by rw [h3]; simp⟩, fun b b1 b2 => ?_⟩
        by_cases ba : b = a
        · subst ba; rw [h2]; simp
        · exact h4 b (by omega) (by omega)
theorem bfsM_ok (n6 : rows.length ≤ 6) (k3 : k ≤ 3) : ∀ (f i : Nat) (S S' : SM), MOk rows k S → i ≤ S.1.length → 400 < f + i → (∀ x ∈ S.1.take i, ∀ a, a < k → nxM rows x a ∈ S.1) → bfsM rows k f i S = some S' → MOk rows k S' ∧ (∃ p q, S'.1 = S.1 ++ p ∧ S'.2 = S.2 ++ q) ∧ ∀ x ∈ S'.1, ∀ a, a < k → nxM rows x a ∈ S'.1 := by
  intro f
  induction f with
  | zero => intro i S S' h hi hf; have := h.le; omega
  | succ f ih =>
    intro i S S' h hi hf hcl e
    by_cases c : i < S.1.length
    · have hx := List.getElem?_eq_getElem c
      have c2 : i < S.2.length := by rw [← h.len]; exact c
      have hw := List.getElem?_eq_getElem c2
      generalize S.1[i] = x at hx
      generalize S.2[i] = w at hw
      have hxw := h.at hx hw
      subst hxw
      rw [bfsM, hx, hw] at e
      simp only [] at e
      cases e1 : bInM rows (mv6 rows w) w k 0 S with
      | none => rw [e1] at e; cases e
      | some S1 =>
        rw [e1, Option.bind_some] at e
        obtain ⟨h1, ⟨p, r, h2, h3⟩, h4⟩ := bInM_ok n6 k3 k 0 S S1 (by omega) h (List.mem_of_getElem? hw) e1
        have ht : S1.1.take (i + 1) = S.1.take i ++ [mv6 rows w] := by rw [h2, List.take_append_of_le_length (by omega), List.take_add_one, hx]; rfl
        obtain ⟨g1, ⟨p', r', g2, g3⟩, g4⟩ := ih (i + 1) S1 S' h1 (by rw [h2]; simp; omega) (by omega) (by
          rw [ht]
          intro y hy a ha
          rcases List.mem_append.1 hy with hy | hy
          · rw [h2]; exact List.mem_append_left _ (hcl y hy a ha)
          · simp at hy
            subst hy
            exact h4 a (by omega) (by omega)) e
        exact ⟨g1, ⟨p ++ p', r ++ r', by rw [g2, h2, List.append_assoc], by rw [g3, h3, List.append_assoc]⟩, g4⟩
    · have hx : S.1[i]? = none := List.getElem?_eq_none (by omega)
      rw [bfsM, hx] at e
      simp only [Option.some.injEq] at e
      subst e
      refine ⟨h, ⟨[], [], by simp, by simp⟩, fun x hx a ha => hcl x ?_ a ha⟩
      rw [List.take_of_length_le (by omega)]; exact hx
theorem MOk1 (rows : List (List Int)) (k : Nat) : MOk rows k ([mv6 rows []], [[]]) := ⟨by simp, rfl, by intro w hw; simp at hw; subst hw; exact ⟨okW_nil k, by simp⟩, by simp⟩
theorem madeS_ok (n6 : rows.length ≤ 6) (k3 : k ≤ 3) {S : SM} (h : madeS rows k = some S) : MOk rows k S ∧ (∃ p q, S.1 = [mv6 rows []] ++ p ∧ S.2 = [[]] ++ q) ∧ ∀ x ∈ S.1, ∀ a, a < k → nxM rows x a ∈ S.1 :=
  bfsM_ok n6 k3 401 0 _ S (MOk1 rows k) (by simp) (by omega) (by simp) h
end
def isF : AV → Bool
  | .fsl .. => true
  | _ => false
def Nf (h : Nat → Option AObj) (v : AV) (xs : List AV) (lo hi : Nat) : Prop := v = .fsl true xs.length xs ∨ ∃ R, v = .sl R 1 0 xs.length xs.length ∧ h R = some (.cells xs) ∧ lo ≤ R ∧ R < hi
section
variable {h h' : Nat → Option AObj} {v : AV} {xs : List AV} {lo hi hi' : Nat}
theorem Nf.fr (n : Nf h v xs lo hi) (e : ∀ y, lo ≤ y → y < hi → objId v = some y → h' y = h y) (l : hi ≤ hi') : Nf h' v xs lo hi' := by
  rcases n with rfl | ⟨R, rfl, h1, h2, h3⟩
  · exact .inl rfl
  · exact .inr ⟨R, rfl, by rw [e R h2 h3 rfl, h1], h2, by omega⟩
theorem Nf.one (n : Nf h v xs lo hi) : v.one = true := by
  rcases n with rfl | ⟨R, rfl, h1, h2, h3⟩ <;> rfl
theorem Nf.oid (n : Nf h v xs lo hi) {y : Nat} (e : objId v = some y) : lo ≤ y ∧ y < hi := by
  rcases n with rfl | ⟨R, rfl, h1, h2, h3⟩
  · cases e
  · simp [objId] at e; omega
theorem Nf.len (n : Nf h v xs lo hi) : lenSl v = some (.int .i64 xs.length) := by
  rcases n with rfl | ⟨R, rfl, h1, h2, h3⟩ <;> rfl
theorem Nf.at (n : Nf h v xs lo hi) {i : Nat} (hi' : i < xs.length) : ∃ p, idxSl 1 v (.int .i64 i) = some p ∧ (∀ nx, loadA false 1 ⟨h, nx⟩ p = xs[i]?) ∧ objId p = objId v := by
  rcases n with rfl | ⟨R, rfl, h1, h2, h3⟩
  · exact ⟨.fptr (xs.drop i), by simp [hi'], fun nx => by simp [loadA, readN, read1, List.head?_drop], rfl⟩
  · exact ⟨.ptr R i xs.length, by simp [hi'], fun nx => by simp [h1], rfl⟩
theorem Nf.deep (n : Nf h v xs lo hi) (d : Nat) (hd : ∀ x ∈ xs, AM.deep h d x = some x) : AM.deep h (d + 1) v = some (.fsl (isF v) xs.length xs) := by
  rcases n with rfl | ⟨R, rfl, h1, h2, h3⟩
  · rfl
  · simp [AM.deep, h1, mapO_same xs hd, isF]
theorem Nf.app {nx by' : Nat} (n : Nf h v xs lo hi) (hh : hi ≤ nx) (hl : lo ≤ nx) (hr : room (xs.length + 1) by' = true) (y : AV) :
    ∃ v' h' nx', appT 1 by' ⟨h, nx⟩ v (some (1, [y])) = some (v', ⟨h', nx'⟩) ∧ Nf h' v' (xs ++ [y]) lo nx' ∧ nx ≤ nx' ∧ nx' ≤ nx + 1 ∧ (∀ z, objId v' = some z → objId v = some z ∨ z = nx) ∧ (∀ z, objId v' ≠ some z → h' z = h z) ∧ isF v' = false := by
  rcases n with rfl | ⟨R, rfl, h1, h2, h3⟩
  · refine ⟨.sl nx 1 0 (xs.length + 1) (xs.length + 1), upd h nx (some (.cells (xs ++ [y]))), nx + 1, ?_, .inr ⟨nx, by simp, by simp, hl, by omega⟩, by omega, by omega, fun z e => .inr (by simp [objId] at e; omega), fun z e => updNe (fun q => e (by rw [q]; rfl)), rfl⟩
    simp at hr
    simp [Mem.new, hr]
  · refine ⟨.sl R 1 0 (xs.length + 1) (xs.length + 1), upd h R (some (.cells (xs ++ [y]))), nx, ?_, .inr ⟨R, by simp, by simp, h2, by omega⟩, by omega, by omega, fun z e => .inl e, fun z e => updNe (fun q => e (by rw [q]; rfl)), rfl⟩
    simp at hr
    simp [h1, hr.1, hr.2]
end
end Go.Proofs.Ythnpflkpjimkfaa

/-
  ALL ELEMENTS OF A MONOID: the program's search. Conditions: none.
-/
namespace Go.Proofs.Ythnpflkpjimkfaa
open Go.AM
open Go.Proofs.Try (prog)
set_option linter.all false
set_option maxRecDepth 100000
set_option maxHeartbeats 8000000
def natV (x : Nat) : AV := .int .i64 (x : Nat)
structure Md (m : Mem) (M O : Nat) (nv gv wv : AV) (S : SM) (lo : Nat) : Prop where
  o : m.h M = some (.cells [nv, gv, wv, .map O])
  w : Nf m.h wv (S.2.map .str) lo m.nx
  p : Mp m O (S.1.map encM) ((List.range S.1.length).map natV)
  mo : M < lo ∧ O < lo ∧ M ≠ O
  x : isF wv = decide (S.2.length = 1)
noncomputable def KM0 : List Item := [.code brand_made.r20, .code .ret]
noncomputable def KM2 : List Item := .inBlock 1 :: .code brand_made.r7 :: .inLoop brand_made.l0 :: .inBlock 0 :: KM0
def monV (nv gv : AV) (S : SM) : AV := .fptr [nv, gv, .fsl (decide (S.2.length = 1)) S.2.length (S.2.map .str), .fmap (S.1.map encM) ((List.range S.1.length).map natV)]
theorem deep_md {m : Mem} {M O : Nat} {nv gv wv : AV} {S : SM} {lo : Nat} (D : Md m M O nv gv wv S lo) (n1 : ∀ hp d, AM.deep hp (d + 1) nv = some nv) (n2 : ∀ hp d, AM.deep hp (d + 1) gv = some gv) (e : Nat) : AM.deep m.h (e + 5) (.ptr M 0 4) = some (monV nv gv S) := by
  have he := D.w.deep (e + 3) (fun x hx => by
    simp only [List.mem_map] at hx
    obtain ⟨b, _, rfl⟩ := hx
    rfl)
  rw [D.x] at he
  obtain ⟨⟨g, hg⟩, _⟩ := D.p
  have k1 : mapO (AM.deep m.h (e + 3)) (S.1.map encM) = some (S.1.map encM) := mapO_same _ (fun x hx => by
    simp only [List.mem_map] at hx
    obtain ⟨b, _, rfl⟩ := hx
    simp [encM, encM_mapO])
  have k2 : mapO (AM.deep m.h (e + 3)) ((List.range S.1.length).map natV) = some ((List.range S.1.length).map natV) := mapO_same _ (fun x hx => by
    simp only [List.mem_map] at hx
    obtain ⟨b, _, rfl⟩ := hx
    rfl)
  simp at he
  simp [D.o, n1, n2, he, hg, k1, k2, monV]
theorem nat_flatL : ∀ t : List Nat, flatL (t.map fun x => AV.int .i64 (x : Nat)) = true
  | [] => rfl
  | a :: t => by simp [flatL, AV.flat1, AV.flat, nat_flatL t]
theorem dsV_flat (rows : List (List Int)) (w : List UInt8) : (dsV rows w).flat = true := by
  unfold dsV encM
  split
  · rfl
  · exact nat_flatL _
theorem dsV_deep (rows : List (List Int)) (w : List UInt8) (h : Nat → Option AObj) (d : Nat) : AM.deep h (d + 1) (dsV rows w) = some (dsV rows w) := by
  unfold dsV encM
  split
  · rfl
  · exact deep_encM h d 139 _
theorem encM_flat (t : List Nat) : (AV.agg (t.map fun x => AV.int .i64 (x : Nat))).flat = true := nat_flatL t
theorem md_in {nv gv : AV} {ps : List AV} {rows : List (List Int)} {good : List Bool} {k : Nat} (hn : IsRows nv ps rows) (hg : IsB gv good) (v : VB rows good k) {M O lo i : Nat} {w : List UInt8} {r : Option Res} :
    ∀ (c a : Nat) (m : Mem) (wv : AV) (S : SM), a + c = k → Md m M O nv gv wv S lo → lo ≤ m.nx → MOk rows k S → S.2[i]? = some w → i < 400 →
    (∀ S', bInM rows (mv6 rows w) w c a S = some S' → ∀ m' wv', Md m' M O nv gv wv' S' lo → lo ≤ m'.nx → brand_made.L0 (.ptr M 0 4) (.int .i64 ((i : Int) + 1)) m' KM0 = r) →
    (bInM rows (mv6 rows w) w c a S = none → r = some (.tup [.nilp, .int .i64 7], Mem.empty)) →
    brand_made.L2 (.ptr M 0 4) (.int .i64 i) (.int .i64 k) (.int .i64 a) m KM2 = r := by
  intro c
  have n6 := v.n6
  have k3 := v.k3
  induction c with
  | zero =>
    intro a m wv S h1 D hlo hS hw hi hk hf
    have e : a = k := by omega
    subst e
    have hwi : IntKind.wrap .i64 ((i : Int) + 1) = (i : Int) + 1 := wrap_id (by omega) (by omega)
    have hk := hk S rfl m wv D hlo
    rw [brand_made.L2_eq]
    simp [KM2, hwi]
    exact hk
  | succ c ih =>
    intro a m wv S h1 D hlo hS hw hi hk hf
    have ha : a < k := by omega
    have hwa : IntKind.wrap .i64 ((a : Int) + 1) = (a : Int) + 1 := wrap_id (by omega) (by omega)
    have hi2 := (List.getElem?_eq_some_iff.1 hw).1
    have hwm := List.mem_of_getElem? hw
    have hle := hS.le
    have hlen := hS.len
    have hlt := fun m => letter_spec (a := a) (by omega) m
    obtain ⟨h, nx0⟩ := m
    obtain ⟨p, hp1, hp2, _⟩ := D.w.at (i := i) (by simpa using hi2)
    have hs2 : (S.2.map AV.str)[i]? = some (.str w) := by simp [hw]
    rw [hs2] at hp2
    have hok := hS.ok w hwm
    have hoke := okW_ext hok.1 ha k3
    have hll : w.length + (ltr a).length ≤ 4611686018427387904 := by simp [ltr]; omega
    have hle1 : (extL w a).length ≤ 1000000 := by simp [extL, ltr]; omega
    have hd := deep_md D hn.deep hg.deep 1
    have hfl := (letF_iff k (extL w a)).2 hoke
    have hdo := fun m => does_spec (wv := .fsl (decide (S.2.length = 1)) S.2.length (S.2.map .str)) (ov := .fmap (S.1.map encM) ((List.range S.1.length).map natV)) hn hg v rfl rfl hle1 hfl m
    have htb := fun m => table_spec (wv := .fsl (decide (S.2.length = 1)) S.2.length (S.2.map .str)) (ov := .fmap (S.1.map encM) ((List.range S.1.length).map natV)) hn hg v rfl rfl (extL w a) m
    have et : nxM rows (mv6 rows w) a = mv6 rows (w ++ ltr a) := (mv6_ltr rows n6 w (by omega)).symm
    rw [bInM, et] at hk hf
    simp only [extL, encM] at hdo htb
    have hM : h M = some (.cells [nv, gv, wv, .map O]) := D.o
    have moM := D.mo
    simp only [monV] at hd hlo
    have hM2 : (M == nx0 + 11) = false := beq_eq_false_iff_ne.2 (by omega)
    have tlen : (mv6 rows (w ++ ltr a)).length = 6 := mv6_len _ _
    have tk : ((mv6 rows (w ++ ltr a)).map fun x => AV.int .i64 (x : Nat)).take 6 = (mv6 rows (w ++ ltr a)).map fun x => AV.int .i64 (x : Nat) := List.take_of_length_le (by simp)
    have P1 : Mp ⟨upd h (nx0 + 11) none, nx0 + 11 + 1 + 11⟩ O (S.1.map encM) ((List.range S.1.length).map natV) := D.p.fr (updNe (by omega)) (by show O < nx0 + 11 + 1 + 11; omega)
    have l1 := P1.look keysM (fun x hx => hS.six x hx) (by simp) tlen (.int .i64 0) true
    have wl := D.w.fr (h' := upd h (nx0 + 11) none) (hi' := nx0 + 11 + 1) (fun y y1 y2 _ => updNe (by have : y < nx0 := y2; omega)) (by show nx0 ≤ nx0 + 11 + 1; omega)
    by_cases hc : mv6 rows (w ++ ltr a) ∈ S.1
    · rw [if_pos hc] at hk hf
      obtain ⟨i', hi'⟩ := List.getElem?_of_mem hc
      have hi2' := (List.getElem?_eq_some_iff.1 hi').1
      have q1 := lkP_at (vs := List.range S.1.length) hS.nd hi' (w := i') (by simp [hi2'])
      rw [q1] at l1
      simp only [encM, natV] at l1
      have st := ih (a + 1) ⟨upd h (nx0 + 11) none, nx0 + 11 + 1 + 11⟩ wv S (by omega) ⟨by show upd h (nx0 + 11) none M = _; rw [updNe (by omega)]; exact hM, wl.fr (fun _ _ _ _ => rfl) (by show nx0 + 11 + 1 ≤ nx0 + 11 + 1 + 11; omega), P1, D.mo, D.x⟩ (by show lo ≤ nx0 + 11 + 1 + 11; omega) hS hw hi hk hf
      simp only [Int.natCast_add, Int.cast_ofNat_Int] at st
      rw [brand_made.L2_eq]
      simp [ha, hM, hM2, hp1, hp2, hlt, hll, hd, hdo, htb, dsV_flat, dsV_deep, encM_flat, encM_one, encM_closed, tk, l1, hwa, -deep_ptr]
      exact st
    · rw [if_neg hc] at hk hf
      have q1 := lkP_none (vs := List.range S.1.length) hc
      rw [q1] at l1
      simp only [encM, natV] at l1
      by_cases h400 : S.1.length = 400
      · rw [if_pos h400] at hf
        have hr := hf rfl
        have h4 : ((S.2.length : Nat) : Int) = 400 := by omega
        rw [hr, brand_made.L2_eq]
        simp [ha, hM, hM2, hp1, hp2, hlt, hll, hd, hdo, htb, dsV_flat, dsV_deep, encM_flat, encM_one, encM_closed, tk, l1, wl.len, h4, -deep_ptr]
        done
      · rw [if_neg h400] at hk hf
        have h4 : ¬ (S.2.length : Int) = 400 := by omega
        have P2 : Mp ⟨upd h (nx0 + 11) none, nx0 + 11 + 1 + 11 + 10⟩ O (S.1.map encM) ((List.range S.1.length).map natV) := D.p.fr (updNe (by omega)) (by show O < nx0 + 11 + 1 + 11 + 10; omega)
        obtain ⟨m2, p1, p2, p3, p4⟩ := P2.put keysM (fun x hx => hS.six x hx) (by simp) tlen hc S.2.length
        simp only [encM, natV] at p1
        have hm2M : m2.h M = some (.cells [nv, gv, wv, .map O]) := by rw [p4 M moM.2.2]; show upd h (nx0 + 11) none M = _; rw [updNe (by omega)]; exact hM
        have wl2 : Nf m2.h wv (S.2.map .str) lo (nx0 + 11 + 1) := wl.fr (fun y y1 y2 _ => p4 y (by omega)) (Nat.le_refl _)
        obtain ⟨wv', h3, nx', g1, g2, g3, g4, g5, g6, g7⟩ := wl2.app (nx := nx0 + 11 + 1 + 11 + 11) (by' := 16) (by omega) (by omega) (by simp; omega) (.str (w ++ ltr a))
        have low : ∀ y, y < lo → h3 y = m2.h y := fun y hy => g6 y (fun e => by
          rcases g5 y e with q | q
          · have := wl2.oid q; omega
          · omega)
        have h3M : h3 M = some (.cells [nv, gv, wv, .map O]) := by rw [low M moM.1]; exact hm2M
        have erng : List.range S.1.length ++ [S.2.length] = List.range (S.1 ++ [mv6 rows (w ++ ltr a)]).length := by
          rw [List.length_append, List.length_singleton, List.range_succ, hlen]
        have st := ih (a + 1) ⟨upd h3 M (some (.cells [nv, gv, wv', .map O])), nx'⟩ wv' (S.1 ++ [mv6 rows (w ++ ltr a)], S.2 ++ [extL w a]) (by omega)
          ⟨by simp, by
            show Nf (upd h3 M (some (.cells [nv, gv, wv', .map O]))) wv' ((S.2 ++ [extL w a]).map .str) lo nx'
            rw [List.map_append]
            exact g2.fr (fun y y1 y2 _ => updNe (by omega)) (Nat.le_refl _), by
            rw [erng] at p2
            exact p2.fr (by show upd h3 M (some (.cells [nv, gv, wv', .map O])) O = m2.h O; rw [updNe (Ne.symm moM.2.2), low O moM.2.1]) (by show O < nx'; omega), D.mo, by rw [g7]; exact (decide_eq_false (by show ¬ (S.2 ++ [extL w a]).length = 1; rw [List.length_append]; have := List.length_pos_of_mem hwm; simp only [List.length_singleton]; omega)).symm⟩ (by show lo ≤ nx'; omega)
          (by have := hS.add n6 k3 hwm ha (by rw [et]; exact hc) h400; rw [et] at this; exact this)
          (by rw [List.getElem?_append_left hi2]; exact hw) hi hk hf
        simp only [Int.natCast_add, Int.cast_ofNat_Int] at st
        rw [brand_made.L2_eq]
        simp [ha, hM, hM2, hp1, hp2, hlt, hll, hd, hdo, htb, dsV_flat, dsV_deep, encM_flat, encM_one, encM_closed, tk, l1, wl.len, h4, p1, hm2M, wl.one, g1, h3M, (show wv'.one = true from g2.one), hwa, -deep_ptr]
        exact st
def mdR (nv gv : AV) : Option SM → AV
  | some S => .tup [monV nv gv S, .int .i64 0]
  | none => .tup [.nilp, .int .i64 7]
theorem md_out {nv gv : AV} {ps : List AV} {rows : List (List Int)} {good : List Bool} {k : Nat} (hn : IsRows nv ps rows) (hg : IsB gv good) (v : VB rows good k) {M O lo : Nat} :
    ∀ (f i : Nat) (m : Mem) (wv : AV) (S : SM), Md m M O nv gv wv S lo → lo ≤ m.nx → MOk rows k S → i ≤ S.1.length → 400 < f + i →
    brand_made.L0 (.ptr M 0 4) (.int .i64 i) m KM0 = some (mdR nv gv (bfsM rows k f i S), Mem.empty) := by
  intro f
  have n6 := v.n6
  have k3 := v.k3
  induction f with
  | zero => intro i m wv S D hlo hS hi hf; have := hS.le; omega
  | succ f ih =>
    intro i m wv S D hlo hS hi hf
    have hle := hS.le
    have hlen := hS.len
    obtain ⟨h, nx0⟩ := m
    have hM : h M = some (.cells [nv, gv, wv, .map O]) := D.o
    by_cases c : i < S.1.length
    · have hx := List.getElem?_eq_getElem c
      have c2 : i < S.2.length := by rw [← hS.len]; exact c
      have hw := List.getElem?_eq_getElem c2
      generalize S.1[i] = x at hx
      generalize S.2[i] = w at hw
      have hxw := hS.at hx hw
      subst hxw
      have hwm := List.mem_of_getElem? hw
      have r0 := v.rl 0 v.n1
      have i0 := hn.idx (i := 0) v.n1 .i64
      have j0 := hn.head (i := 0) v.n1
      have iw0 := hn.row 0 v.n1
      simp only [Int.ofNat_zero, Int.cast_ofNat_Int, List.drop_zero] at i0 j0
      rw [bfsM, hx, hw]
      simp only []
      have st := md_in (M := M) (O := O) (lo := lo) (i := i) (w := w) (r := some (mdR nv gv ((bInM rows (mv6 rows w) w k 0 S).bind fun S' => bfsM rows k f (i + 1) S'), Mem.empty)) hn hg v k 0 ⟨h, nx0⟩ wv S (by omega) D hlo hS hw (by omega) (fun S1 e m' wv' D' hlo' => by
        obtain ⟨h1, ⟨p, r, h2, h3⟩, h4⟩ := bInM_ok n6 k3 k 0 S S1 (by omega) hS hwm e
        have := ih (i + 1) m' wv' S1 D' hlo' h1 (by rw [h2]; simp; omega) (by omega)
        simp only [Int.natCast_add, Int.cast_ofNat_Int] at this
        rw [e, Option.bind_some]
        exact this) (fun e => by rw [e]; rfl)
      simp only [Int.ofNat_zero, Int.cast_ofNat_Int] at st
      rw [brand_made.L0_eq]
      simp [hM, D.w.len, c2, i0, j0, iw0.len, r0]
      exact st
    · have hx : S.1[i]? = none := List.getElem?_eq_none (by omega)
      have c2 : ¬ i < S.2.length := by omega
      have hd := deep_md D hn.deep hg.deep 0
      simp only at hd
      rw [bfsM, hx, brand_made.L0_eq]
      simp [hM, D.w.len, c2, KM0, hd, mdR, -deep_ptr]
      done
noncomputable def madeB (rows : List (List Int)) (good : List Bool) (k : Nat) : Option SM := madeS (rowsM rows good k) k
theorem deep_142 (h : Nat → Option AObj) (d : Nat) : AM.deep h (d + 1) (.iface 142 (.agg [])) = some (.iface 142 (.agg [])) := rfl
theorem made_spec {nv gv : AV} {ps : List AV} {rows : List (List Int)} {good : List Bool} (hn : IsRows nv ps rows) (hg : IsB gv good) (hl : rows.length ≤ 1000) (hgl : good.length ≤ 1000) (hr : ∀ i, i < rows.length → (cth rows i).length ≤ 1000) (m : Mem) :
    denC prog ann 70 [.agg [nv, gv]] m = some (if validB rows good = true then mdR (nvM rows good (cth rows 0).length) (gvM rows good (cth rows 0).length) (madeB rows good (cth rows 0).length) else .tup [.nilp, .int .i64 1], m) := by
  have h1 := fun m => valid_spec hn hg hl hgl hr m
  rw [brand_made.call_eq _ _ (by simp [hn.closed, hg.closed])]
  cases c0 : validB rows good with
  | false =>
    rw [c0] at h1
    simp [hn.one, hg.one, hn.closed, hg.closed, h1]
    done
  | true =>
    rw [c0] at h1
    have v := VB.of c0
    have h2 := fun m => smallest_spec hn hg v m
    rw [repL_eq v, resV_eq] at h2
    have vm := VB_M v
    have hm := isRows_M rows good (cth rows 0).length
    have hb := isB_M rows good (cth rows 0).length
    have htb := fun m => table_spec (wv := .fsl true 1 [.str []]) (ov := .fmap [] []) hm hb vm rfl rfl [] m
    rw [show dsV (rowsM rows good (cth rows 0).length) [] = .iface 142 (.agg []) from rfl] at htb
    simp only [encM] at htb
    have hm0 : Mp ⟨upd (upd Mem.empty.h 0 (some (AObj.map 0 [] []))) 1 (some (AObj.cells [nvM rows good (cth rows 0).length, gvM rows good (cth rows 0).length, AV.fsl true 1 [AV.str []], AV.map 0])), 10⟩ 0 (([] : List (List Nat)).map encM) (([] : List Nat).map natV) := ⟨⟨0, by simp⟩, by show 0 < 10; omega⟩
    obtain ⟨m2, p1, p2, p3, p4⟩ := hm0.put (c := mv6 (rowsM rows good (cth rows 0).length) []) keysM (by simp) rfl (mv6_len _ _) (by simp) 0
    simp only [encM, natV, Int.ofNat_zero, Int.cast_ofNat_Int] at p1
    have st := md_out (M := 1) (O := 0) (lo := 2) hm hb vm 401 0 ⟨m2.h, 11⟩ (.fsl true 1 [.str []]) ([mv6 (rowsM rows good (cth rows 0).length) []], [[]]) ⟨by show m2.h 1 = _; rw [p4 1 (by omega)]; simp, .inl rfl, p2.fr rfl (by show 0 < 11; omega), by omega, rfl⟩ (by show 2 ≤ 11; omega) (MOk1 _ _) (by simp) (by omega)
    simp only [Int.ofNat_zero, Int.cast_ofNat_Int, KM0] at st
    have d1 := fun hp => hm.deep hp 4
    have d2 := fun hp => hb.deep hp 4
    simp [hn.one, hg.one, hn.closed, hg.closed, h1, h2, hm.one, hb.one, d1, d2, deep_142, htb, encM_flat, p1]
    rw [st]
    rfl
end Go.Proofs.Ythnpflkpjimkfaa

/-
  ELEMENTS' NUMBERS: the program's Monoid, Element, Idempotents. Conditions: none.
-/
namespace Go.Proofs.Ythnpflkpjimkfaa
open Go.AM
open Go.Proofs.Try (prog)
set_option linter.all false
set_option maxRecDepth 100000
set_option maxHeartbeats 8000000
def numM (rows : List (List Int)) (S : SM) (w : List UInt8) : Nat := S.1.idxOf (mv6 rows w)
structure MW (rows : List (List Int)) (k : Nat) (S : SM) : Prop where
  ok : MOk rows k S
  pre : ∃ p q, S.1 = [mv6 rows []] ++ p ∧ S.2 = [[]] ++ q
  cl : ∀ x ∈ S.1, ∀ a, a < k → nxM rows x a ∈ S.1
section
variable {rows : List (List Int)} {k : Nat} {S : SM}
theorem chr_ltr {c : UInt8} (h : 97 ≤ c.toNat) : [c] = ltr (c.toNat - 97) := by
  rw [ltr, show 97 + (c.toNat - 97) = c.toNat by omega]
  simp
theorem MW.mem (h : MW rows k S) (n6 : rows.length ≤ 6) (k3 : k ≤ 3) : ∀ (w p : List UInt8), okW k w → mv6 rows p ∈ S.1 → mv6 rows (p ++ w) ∈ S.1
  | [], p, _, hp => by simpa using hp
  | c :: w, p, hw, hp => by
    have hc := hw c (by simp)
    have e : p ++ c :: w = (p ++ [c]) ++ w := by simp
    rw [e]
    refine MW.mem h n6 k3 w (p ++ [c]) (fun b hb => hw b (by simp [hb])) ?_
    rw [chr_ltr hc.1]
    have := mv6_ltr rows n6 p (a := c.toNat - 97) (by omega)
    rw [extL] at this
    rw [this]
    exact h.cl _ hp _ hc.2
theorem MW.all (h : MW rows k S) (n6 : rows.length ≤ 6) (k3 : k ≤ 3) {w : List UInt8} (hw : okW k w) : mv6 rows w ∈ S.1 := by
  have := h.mem n6 k3 w [] hw (by obtain ⟨p, _, e, _⟩ := h.pre; rw [e]; simp)
  simpa using this
theorem MW.lt (h : MW rows k S) (n6 : rows.length ≤ 6) (k3 : k ≤ 3) {w : List UInt8} (hw : okW k w) : numM rows S w < S.1.length := List.idxOf_lt_length_iff.2 (h.all n6 k3 hw)
theorem MW.at (h : MW rows k S) (n6 : rows.length ≤ 6) (k3 : k ≤ 3) {w : List UInt8} (hw : okW k w) : S.1[numM rows S w]? = some (mv6 rows w) := by
  have hl := h.lt n6 k3 hw
  rw [List.getElem?_eq_getElem hl]
  simp [numM]
theorem MW.pos (h : MW rows k S) : 0 < S.1.length := by obtain ⟨p, _, e, _⟩ := h.pre; rw [e]; simp
def wrd (S : SM) (i : Nat) : List UInt8 := S.2.getD i []
theorem MW.wok (h : MW rows k S) {i : Nat} (hi : i < S.1.length) : S.2[i]? = some (wrd S i) ∧ okW k (wrd S i) ∧ (wrd S i).length ≤ 400 ∧ S.1[i]? = some (mv6 rows (wrd S i)) := by
  have hi2 : i < S.2.length := by rw [← h.ok.len]; exact hi
  have e : S.2[i]? = some (wrd S i) := by simp [wrd, List.getD_eq_getElem?_getD, hi2]
  have hm := List.mem_of_getElem? e
  have := h.ok.ok _ hm
  have hle := h.ok.le
  have hlen := h.ok.len
  refine ⟨e, this.1, by omega, ?_⟩
  rw [h.ok.eq, List.getElem?_map, e]; rfl
theorem MW.self (h : MW rows k S) {i : Nat} (hi : i < S.1.length) : numM rows S (wrd S i) = i := by
  obtain ⟨_, _, _, e⟩ := h.wok hi
  have e' := (List.getElem?_eq_some_iff.1 e).2
  rw [numM, ← e']
  exact h.ok.nd.idxOf_getElem i hi
theorem look_num (h : MW rows k S) (n6 : rows.length ≤ 6) (k3 : k ≤ 3) {w : List UInt8} (hw : okW k w) (m : Mem) : lookP prog m 139 (.int .i64 0) (.fmap (S.1.map encM) ((List.range S.1.length).map natV)) (encM (mv6 rows w)) false = some (.int .i64 (numM rows S w : Nat)) := by
  have hl := h.lt n6 k3 hw
  have q1 := lkP_at (vs := List.range S.1.length) h.ok.nd (h.at n6 k3 hw) (w := numM rows S w) (by simp [hl])
  simp only [lookP, keysM.key (mv6 rows w) (mv6_len _ _), cond_true, lookA, findK_of keysM (vs := List.range S.1.length) (ev := natV) (fun x hx => h.ok.six x hx) (mv6_len rows w) (by simp), q1, Option.bind_some]
  rfl
end
theorem number_spec {nv gv : AV} {ps : List AV} {rows : List (List Int)} {good : List Bool} {k : Nat} (hn : IsRows nv ps rows) (hg : IsB gv good) (v : VB rows good k) {S : SM} (h : MW rows k S) {w : List UInt8} (hw : okW k w) (hwl : w.length ≤ 1000000) (m : Mem) :
    denC prog ann 71 [monV nv gv S, .str w] m = some (.int .i64 (numM rows S w : Nat), m) := by
  have hl := look_num h v.n6 v.k3 hw
  have hfl := (letF_iff k w).2 hw
  have hdo := fun m => does_spec (wv := .fsl (decide (S.2.length = 1)) S.2.length (S.2.map .str)) (ov := .fmap (S.1.map encM) ((List.range S.1.length).map natV)) hn hg v rfl rfl hwl hfl m
  have htb := fun m => table_spec (wv := .fsl (decide (S.2.length = 1)) S.2.length (S.2.map .str)) (ov := .fmap (S.1.map encM) ((List.range S.1.length).map natV)) hn hg v rfl rfl w m
  have hdc : (dsV rows w).closed = true := by
    unfold dsV encM
    split
    · rfl
    · simp [AV.closed, encM_closed]
  rw [monV, brand_monoid_number.call_eq _ _ _ (by simp [hn.closed, hg.closed])]
  simp [hn.closed, hg.closed, hn.one, hg.one, hdo, htb, hdc, hl]
  done
end Go.Proofs.Ythnpflkpjimkfaa

/-
  Monoid, Element, Idempotents: what the program returns. Conditions: none.
-/
namespace Go.Proofs.Ythnpflkpjimkfaa
open Go.AM
open Go.Proofs.Try (prog)
set_option linter.all false
set_option maxRecDepth 100000
set_option maxHeartbeats 8000000
theorem MW_of {rows : List (List Int)} {good : List Bool} {k : Nat} (v : VB rows good k) {S : SM} (h : madeB rows good k = some S) : MW (rowsM rows good k) k S := by
  have vm := VB_M v
  obtain ⟨h1, h2, h3⟩ := madeS_ok vm.n6 vm.k3 h
  exact ⟨h1, h2, h3⟩
def wdsV (S : SM) : AV := .fsl (decide (S.2.length = 1)) S.2.length (S.2.map .str)
theorem monoid_spec {nv gv : AV} {ps : List AV} {rows : List (List Int)} {good : List Bool} (hn : IsRows nv ps rows) (hg : IsB gv good) (hl : rows.length ≤ 1000) (hgl : good.length ≤ 1000) (hr : ∀ i, i < rows.length → (cth rows i).length ≤ 1000) (m : Mem) :
    denC prog ann 36 [.agg [nv, gv]] m = some (if validB rows good = true then (match madeB rows good (cth rows 0).length with | some S => .tup [wdsV S, .int .i64 0] | none => .tup [.nils, .int .i64 7]) else .tup [.nils, .int .i64 1], m) := by
  have h1 := fun m => made_spec hn hg hl hgl hr m
  rw [brand_Monoid.call_eq _ _ (by simp [hn.closed, hg.closed])]
  cases c0 : validB rows good with
  | false =>
    rw [c0] at h1
    simp [hn.one, hg.one, hn.closed, hg.closed, h1]
    done
  | true =>
    rw [c0, if_pos rfl] at h1
    cases e : madeB rows good (cth rows 0).length with
    | none =>
      rw [e] at h1
      simp only [mdR] at h1
      simp [hn.one, hg.one, hn.closed, hg.closed, h1]
      done
    | some S =>
      rw [e] at h1
      simp only [mdR, monV] at h1
      simp [hn.one, hg.one, hn.closed, hg.closed, h1, wdsV]
      done
theorem wordE0 {k : Nat} {s : List UInt8} (h : wordE k s = 0) : s.length ≤ 200 ∧ okW k s := by
  unfold wordE at h
  by_cases q : 200 < s.length
  · rw [if_pos q] at h; cases h
  · rw [if_neg q] at h
    by_cases q2 : letF k s s.length 0 = true
    · exact ⟨by omega, (letF_iff k s).1 q2⟩
    · rw [if_neg q2] at h; cases h
theorem element_spec {nv gv : AV} {ps : List AV} {rows : List (List Int)} {good : List Bool} (hn : IsRows nv ps rows) (hg : IsB gv good) (hl : rows.length ≤ 1000) (hgl : good.length ≤ 1000) (hr : ∀ i, i < rows.length → (cth rows i).length ≤ 1000) {s : List UInt8} (hs : s.length ≤ 1000) (m : Mem) :
    denC prog ann 37 [.agg [nv, gv], .str s] m = some (if validB rows good = true then (if wordE (cth rows 0).length s = 0 then (match madeB rows good (cth rows 0).length with | some S => .tup [.str (wrd S (numM (rowsM rows good (cth rows 0).length) S s)), .int .i64 0] | none => .tup [.str [], .int .i64 7]) else .tup [.str [], .int .i64 (wordE (cth rows 0).length s)]) else .tup [.str [], .int .i64 1], m) := by
  have h1 := fun m => made_spec hn hg hl hgl hr m
  have h2 := fun m => check_spec hn hg hl hgl hr hs m
  rw [brand_Element.call_eq _ _ _ (by simp [hn.closed, hg.closed])]
  cases c0 : validB rows good with
  | false =>
    rw [c0] at h2
    simp [hn.one, hg.one, hn.closed, hg.closed, h2]
    done
  | true =>
    rw [c0, if_pos rfl] at h1 h2
    have v := VB.of c0
    by_cases ew : wordE (cth rows 0).length s = 0
    · rw [ew] at h2
      obtain ⟨hsl, hok⟩ := wordE0 ew
      cases e : madeB rows good (cth rows 0).length with
      | none =>
        rw [e] at h1
        simp only [mdR] at h1
        simp [hn.one, hg.one, hn.closed, hg.closed, h1, h2, ew]
        done
      | some S =>
        have W := MW_of v e
        have vm := VB_M v
        have hlt := W.lt vm.n6 vm.k3 hok
        obtain ⟨w1, w2, w3, w4⟩ := W.wok hlt
        have hnm := fun m => number_spec (isRows_M rows good (cth rows 0).length) (isB_M rows good (cth rows 0).length) vm W hok (by omega) m
        rw [e] at h1
        simp only [mdR, monV] at h1 hnm
        have hl2 : numM (rowsM rows good (cth rows 0).length) S s < S.2.length := by rw [← W.ok.len]; exact hlt
        have hd : ((S.2.map AV.str).drop (numM (rowsM rows good (cth rows 0).length) S s)).head? = some (.str (wrd S (numM (rowsM rows good (cth rows 0).length) S s))) := by rw [List.head?_drop, List.getElem?_map, w1]; rfl
        simp [hn.one, hg.one, hn.closed, hg.closed, h1, h2, ew, hnm, hl2, hd, -List.head?_drop, -List.map_drop]
        done
    · simp [hn.one, hg.one, hn.closed, hg.closed, h2, ew]
      done
end Go.Proofs.Ythnpflkpjimkfaa

/-
  BODIES OF FUNCTIONS OF THE PROGRAM AS SMALL OPERATIONS (written by gen.py; checked by the kernel against the program). Conditions: none.
-/
namespace Go.Proofs.Ythnpflkpjimkfaa
open Go.AM
open Go.Proofs.Try (prog)
set_option maxRecDepth 100000
set_option linter.all false
namespace r07_Same
noncomputable section
variable (K : List Item) (s : St)
def b : Code := (Try.f38.body).getD .skip
theorem hf : prog.funcs[38]? = some Try.f38 := by kernel_rfl
def r0 := findReg b 0
def r1 := findReg b 1
def i0 := findCond b 0
def i0t := thenOf i0
def i0e := elseOf i0
def r2 := findReg b 2
def r3 := findReg b 3
def k0 := findBlk b 0
def l0 := loopOf k0
def L0 (x0 x1 x5 : AV) (m : Mem) (K : List Item) : Option Res := den prog ann 38 (.code l0 :: .inLoop l0 :: .inBlock 0 :: K) ⟨[(0, x0), (1, x1), (5, x5)], 26, m⟩
def r4 := findReg b 4
def i1 := findCond b 1
def i1t := thenOf i1
def i1e := elseOf i1
def k1 := findBlk b 1
def r6 := findReg b 6
def i2 := findCond b 2
def i2t := thenOf i2
def i2e := elseOf i2
def r7 := findReg b 7
def r5 := findReg b 5
def r8 := findReg b 8
theorem b_eq : den prog ann 38 (.code b :: K) s = den prog ann 38 (.code r0 :: .code r1 :: .code i0 :: .code r3 :: .code k0 :: .code r8 :: .code .ret :: K) s := den_flat hf (l := [r0, r1, i0, r3, k0, r8, .ret]) (by kernel_rfl) K s
theorem r0_eq : den prog ann 38 (.code r0 :: K) s = mreg prog ann 38 none [] none [] [qF 4 fun s => some (.bool false)] K s := (den_reg hf _ K s).trans (by kernel_rfl)
theorem r1_eq : den prog ann 38 (.code r1 :: K) s = mreg prog ann 38 none [] none [] [qC 6 0,qA 7 lenSl 6,qC 8 1,qA 9 lenSl 8,qB 10 (binA prog .neq 3) 7 9] K s := (den_reg hf _ K s).trans (by kernel_rfl)
theorem i0_eq : den prog ann 38 (.code i0 :: K) s = ifV prog ann 38 10 i0t i0e K s (s.get 10) := den_if hf (by kernel_rfl) K s
theorem i0t_eq : den prog ann 38 (.code i0t :: K) s = den prog ann 38 (.code r2 :: .code .ret :: K) s := den_flat hf (l := [r2, .ret]) (by kernel_rfl) K s
theorem r2_eq : den prog ann 38 (.code r2 :: K) s = mreg prog ann 38 none [] none [] [qF 4 fun s => some (.bool false)] K s := (den_reg hf _ K s).trans (by kernel_rfl)
theorem i0e_eq : den prog ann 38 (.code i0e :: K) s = den prog ann 38 (K) s := den_flat hf (l := []) (by kernel_rfl) K s
theorem r3_eq : den prog ann 38 (.code r3 :: K) s = mreg prog ann 38 none [] none [] [qF 5 fun s => some (.int .i64 0)] K s := (den_reg hf _ K s).trans (by kernel_rfl)
theorem k0_eq (K : List Item) (t : List (Nat × AV)) (m : Mem) : den prog ann 38 (.code k0 :: K) ⟨t, 26, m⟩ = L0 (get t 0) (get t 1) (get t 5) m K := den_loop_enter hf (b := l0) (id := 4) (l := [0, 1, 5]) (by kernel_rfl) (by kernel_rfl) (by kernel_rfl) K _
theorem l0_eq (K : List Item) (t : List (Nat × AV)) (m : Mem) : den prog ann 38 (.inLoop l0 :: .inBlock 0 :: K) ⟨t, 26, m⟩ = L0 (get t 0) (get t 1) (get t 5) m K := den_loop_again hf (id := 4) (l := [0, 1, 5]) (by kernel_rfl) (by kernel_rfl) (.inBlock 0 :: K) _
theorem L0_eq (x0 x1 x5 : AV) (m : Mem) (K : List Item) : L0 x0 x1 x5 m K = den prog ann 38 (.code r4 :: .code i1 :: .code k1 :: .code r5 :: .inLoop l0 :: .inBlock 0 :: K) ⟨[(0, x0), (1, x1), (5, x5)], 26, m⟩ := den_flat hf (l := [r4, i1, k1, r5]) (by kernel_rfl) _ _
theorem r4_eq : den prog ann 38 (.code r4 :: K) s = mreg prog ann 38 (some [0, 1, 5]) [] none [] [qC 11 5,qC 12 0,qA 13 lenSl 12,qB 14 (binA prog .lss 3) 11 13] K s := (den_reg hf _ K s).trans (by kernel_rfl)
theorem i1_eq : den prog ann 38 (.code i1 :: K) s = ifV prog ann 38 14 i1t i1e K s (s.get 14) := den_if hf (by kernel_rfl) K s
theorem i1t_eq : den prog ann 38 (.code i1t :: K) s = den prog ann 38 (K) s := den_flat hf (l := []) (by kernel_rfl) K s
theorem i1e_eq : den prog ann 38 (.code i1e :: K) s = den prog ann 38 (.code (.exit 0) :: K) s := den_flat hf (l := [(.exit 0)]) (by kernel_rfl) K s
theorem k1_eq : den prog ann 38 (.code k1 :: K) s = den prog ann 38 (.code r6 :: .code i2 :: .inBlock 1 :: K) s := den_blk hf (b := blkOf k1) (l := [r6, i2]) (by kernel_rfl) (by kernel_rfl) K s
theorem r6_draw : drawOk (fun g => (ann g).pure) (modeOf (ann 38) (idOf r6)) (frzOf (ann 38) (idOf r6)) (opsOf r6) = true := drawOk_of (an := [0, 0, 3, 7, 0, 0, 48, 112, 255]) (by kernel_rfl) (by kernel_rfl)
theorem r6_eq : den prog ann 38 (.code r6 :: K) s = mreg prog ann 38 none [] (some 9) [] [qC 17 0,qC 18 5,qB 19 (idxSl 1) 17 18,qA 20 (loadF false 1) 19,qC 21 1,qC 22 5,qB 23 (idxSl 1) 21 22,qA 24 (loadF false 1) 23,qB 25 (binA prog .neq 9) 20 24] K s := (den_regD hf r6_draw K s).trans (by kernel_rfl)
theorem i2_eq : den prog ann 38 (.code i2 :: K) s = ifV prog ann 38 25 i2t i2e K s (s.get 25) := den_if hf (by kernel_rfl) K s
theorem i2t_eq : den prog ann 38 (.code i2t :: K) s = den prog ann 38 (.code r7 :: .code .ret :: K) s := den_flat hf (l := [r7, .ret]) (by kernel_rfl) K s
theorem r7_eq : den prog ann 38 (.code r7 :: K) s = mreg prog ann 38 none [] none [] [qF 4 fun s => some (.bool false)] K s := (den_reg hf _ K s).trans (by kernel_rfl)
theorem i2e_eq : den prog ann 38 (.code i2e :: K) s = den prog ann 38 (K) s := den_flat hf (l := []) (by kernel_rfl) K s
theorem r5_eq : den prog ann 38 (.code r5 :: K) s = mreg prog ann 38 (some [0, 1, 5]) [] none [] [qC 15 5,qF 16 fun s => binA prog .add 3 (s.get 15) (.int .i64 1),qC 5 16] K s := (den_reg hf _ K s).trans (by kernel_rfl)
theorem r8_eq : den prog ann 38 (.code r8 :: K) s = mreg prog ann 38 (some []) [] none [] [qF 4 fun s => some (.bool true)] K s := (den_reg hf _ K s).trans (by kernel_rfl)
theorem ret_eq : den prog ann 38 (.code .ret :: K) s = finM true [fun s => some (s.get 4)] s := (den_ret hf K s).trans (by kernel_rfl)
theorem nil_eq (s : St) : den prog ann 38 [] s = finM true [fun s => some (s.get 4)] s := (den_nil hf s).trans (by kernel_rfl)
theorem inBlock_eq (id : Nat) (K : List Item) (s : St) : den prog ann 38 (.inBlock id :: K) s = den prog ann 38 K s := den_inBlock hf id K s
theorem exit_eq (id : Nat) (K : List Item) (s : St) : den prog ann 38 (.code (.exit id) :: K) s = exitV prog ann 38 (exitTo id K) s := den_exitV hf id K s
theorem call_eq (v0 v1 : AV) (m : Mem) (h : closedL [v0, v1] = true) : denC prog ann 38 [v0, v1] m = (den prog ann 38 [.code b] ⟨[(0, v0), (1, v1)], 26, Mem.empty⟩).bind fun r => some (r.1, m) := (denC_pure hf (b := b) (by kernel_rfl) (by kernel_rfl) (by kernel_rfl) h m).trans (by kernel_rfl)
theorem pure_eq : (ann 38).pure = true := by kernel_rfl
attribute [simp] b_eq r0_eq r1_eq i0_eq i0t_eq r2_eq i0e_eq r3_eq k0_eq l0_eq r4_eq i1_eq i1t_eq i1e_eq k1_eq r6_eq i2_eq i2t_eq r7_eq i2e_eq r5_eq r8_eq ret_eq nil_eq inBlock_eq exit_eq pure_eq
end
end r07_Same
end Go.Proofs.Ythnpflkpjimkfaa

/-
  WHAT WORDS DO, AS STRINGS OF STATES: the specification's. Conditions: none.
-/
namespace Go.Proofs.Ythnpflkpjimkfaa
open Go.AM
open Go.Proofs.Try (prog)
set_option linter.all false
set_option maxRecDepth 100000
set_option maxHeartbeats 8000000
def bysV (l : List UInt8) : List AV := l.map fun b => .int .u8 (b.toNat : Nat)
@[simp] theorem bysV_len (l : List UInt8) : (bysV l).length = l.length := by simp [bysV]
def doF (f : Nat → Nat) (c : Nat) : List UInt8 := (List.range c).map fun s => UInt8.ofNat (f s)
def encD (n : Nat) (t : List Nat) : List UInt8 := doF (fun s => t.getD s 0) n
@[simp] theorem doF_len (f : Nat → Nat) (c : Nat) : (doF f c).length = c := by simp [doF]
theorem ofNat6 {x : Nat} (h : x < 256) : (UInt8.ofNat x).toNat = x := by simp; omega
end Go.Proofs.Ythnpflkpjimkfaa

/-
  ALL ELEMENTS OF A MONOID: the specification's search. Conditions: none.
-/
namespace Go.Proofs.Ythnpflkpjimkfaa
open Go.AM
open Go.Proofs.Try (prog)
set_option linter.all false
set_option maxRecDepth 100000
set_option maxHeartbeats 8000000
structure Dw (h : Nat → Option AObj) (M : Nat) (dv wv : AV) (n : Nat) (S : SM) (lo hi : Nat) : Prop where
  o : h M = some (.cells [dv, wv])
  d : Nf h dv ((S.1.map (encD n)).map .str) lo hi
  w : Nf h wv (S.2.map .str) lo hi
  dj : ∀ y, objId dv = some y → objId wv ≠ some y
  z : h 0 = some (.cells [.nils, .nils])
  mo : M < lo ∧ 0 < M
  x : isF dv = decide (S.2.length = 1) ∧ isF wv = decide (S.2.length = 1)
end Go.Proofs.Ythnpflkpjimkfaa

/-
  PRODUCTS, ELEMENTS, IDEMPOTENTS: the specification's; lists of strings that are the same. Conditions: none.
-/
namespace Go.Proofs.Ythnpflkpjimkfaa
open Go.AM
open Go.Proofs.Try (prog)
set_option linter.all false
set_option maxRecDepth 100000
set_option maxHeartbeats 8000000
section
variable {rows : List (List Int)} {good : List Bool} {k : Nat} {S : SM}
end
end Go.Proofs.Ythnpflkpjimkfaa

/-
  ELEMENTS AND IDEMPOTENTS: the specification's; lists of strings that are the same. Conditions: none.
-/
namespace Go.Proofs.Ythnpflkpjimkfaa
open Go.AM
open Go.Proofs.Try (prog)
set_option linter.all false
set_option maxRecDepth 100000
set_option maxHeartbeats 8000000
def IsS (v : AV) (l : List (List UInt8)) : Prop := (v = .nils ∧ l = []) ∨ ∃ ex, v = .fsl ex l.length (l.map .str)
theorem IsS.len {v : AV} {l : List (List UInt8)} (h : IsS v l) : lenSl v = some (.int .i64 l.length) := by rcases h with ⟨rfl, rfl⟩ | ⟨_, rfl⟩ <;> rfl
theorem IsS.closed {v : AV} {l : List (List UInt8)} (h : IsS v l) : v.closed = true := by rcases h with ⟨rfl, rfl⟩ | ⟨_, rfl⟩ <;> rfl
theorem IsS.one {v : AV} {l : List (List UInt8)} (h : IsS v l) : v.one = true := by rcases h with ⟨rfl, rfl⟩ | ⟨_, rfl⟩ <;> rfl
theorem IsS.idx {v : AV} {l : List (List UInt8)} (h : IsS v l) {i : Nat} (hi : i < l.length) (k : IntKind) : idxSl 1 v (.int k (i : Int)) = some (.fptr ((l.map .str).drop i)) := by
  rcases h with ⟨rfl, rfl⟩ | ⟨_, rfl⟩
  · simp at hi
  · simp [hi]
theorem wdsV_is (S : SM) : IsS (wdsV S) S.2 := .inr ⟨_, rfl⟩
theorem str_head {l : List (List UInt8)} {i : Nat} (hi : i < l.length) : ((l.map AV.str).drop i).head? = some (.str l[i]) := by
  rw [List.head?_drop]; simp [hi]
theorem same_loop {v v' : AV} {l : List (List UInt8)} (h : IsS v l) (h' : IsS v' l) (hl : l.length ≤ 1000) : ∀ (c j : Nat) (m : Mem), j + c = l.length →
    r07_Same.L0 v v' (.int .i64 j) m [.code r07_Same.r8, .code .ret] = some (.bool true, Mem.empty) := by
  intro c
  induction c with
  | zero =>
    intro j m h1
    have e : j = l.length := by omega
    subst e
    rw [r07_Same.L0_eq]
    simp [h.len]
    done
  | succ c ih =>
    intro j m h1
    have hj : j < l.length := by omega
    have hwj : IntKind.wrap .i64 ((j : Int) + 1) = (j : Int) + 1 := wrap_id (by omega) (by omega)
    have hd := str_head hj
    have st := fun m => ih (j + 1) m (by omega)
    simp only [Int.natCast_add, Int.cast_ofNat_Int] at st
    rw [r07_Same.L0_eq]
    simp [h.len, hj, h.idx hj, h'.idx hj, hd, hwj, st, -List.head?_drop, -List.map_drop]
    done
theorem same_refl {v v' : AV} {l : List (List UInt8)} (h : IsS v l) (h' : IsS v' l) (hl : l.length ≤ 1000) (m : Mem) : denC prog ann 38 [v, v'] m = some (.bool true, m) := by
  have lp := fun m => same_loop h h' hl l.length 0 m (by omega)
  simp only [Int.ofNat_zero, Int.cast_ofNat_Int] at lp
  rw [r07_Same.call_eq _ _ _ (by simp [h.closed, h'.closed])]
  simp [h.len, h'.len, lp]
  done
end Go.Proofs.Ythnpflkpjimkfaa

/-
  BODIES OF FUNCTIONS OF THE PROGRAM AS SMALL OPERATIONS (written by gen.py; checked by the kernel against the program). Conditions: none.
-/
namespace Go.Proofs.Ythnpflkpjimkfaa
open Go.AM
open Go.Proofs.Try (prog)
set_option maxRecDepth 100000
set_option linter.all false
end Go.Proofs.Ythnpflkpjimkfaa

/-
  ALL PRODUCTS: the specification's table. Conditions: none.
-/
namespace Go.Proofs.Ythnpflkpjimkfaa
open Go.AM
open Go.Proofs.Try (prog)
set_option linter.all false
set_option maxRecDepth 100000
set_option maxHeartbeats 8000000
def pr (rows : List (List Int)) (S : SM) (i j : Nat) : Nat := numM rows S (wrd S i ++ wrd S j)
end Go.Proofs.Ythnpflkpjimkfaa

/-
  BELOW: the elements that are reached by writing letters before or after. The law. Conditions: none.
-/
namespace Go.Proofs.Ythnpflkpjimkfaa
open Go.AM
open Go.Proofs.Try (prog)
set_option linter.all false
set_option maxRecDepth 100000
set_option maxHeartbeats 4000000
inductive Rch (stp : Nat → List Nat) (i : Nat) : Nat → Prop
  | refl : Rch stp i i
  | step {j k : Nat} : Rch stp i j → k ∈ stp j → Rch stp i k
abbrev VP := List Bool × List Nat
def cf (row : List Bool) : Nat := row.countP fun b => !b
structure VI (n : Nat) (stp : Nat → List Nat) (i : Nat) (P : VP) : Prop where
  l : P.1.length = n
  m : bnth P.1 i = true
  r : ∀ j, j < n → bnth P.1 j = true → Rch stp i j
  t : ∀ j ∈ P.2, j < n ∧ bnth P.1 j = true
  c : ∀ j, j < n → bnth P.1 j = true → j ∈ P.2 ∨ ∀ k ∈ stp j, bnth P.1 k = true
section
variable {n : Nat} {stp : Nat → List Nat} {i : Nat}
end
section
variable {rows : List (List Int)} {k : Nat} {S : SM}
def stpM (rows : List (List Int)) (S : SM) (k : Nat) (lf rt : Bool) (i : Nat) : List Nat := (List.range k).flatMap fun a => (if lf = true then [numM rows S (ltr a ++ wrd S i)] else []) ++ (if rt = true then [numM rows S (wrd S i ++ ltr a)] else [])
def Blw (rows : List (List Int)) (S : SM) (k : Nat) (lf rt : Bool) (i j : Nat) : Prop := ∃ u v, okW k u ∧ okW k v ∧ (lf = false → u = []) ∧ (rt = false → v = []) ∧ numM rows S (u ++ wrd S i ++ v) = j
theorem mv6_congr {u u' w w' : List UInt8} (h1 : ∀ s, s < rows.length → goL rows u s = goL rows u' s) (hlt : ∀ s, s < rows.length → goL rows u' s < rows.length) (h2 : ∀ s, s < rows.length → goL rows w s = goL rows w' s) : ∀ s, s < rows.length → goL rows (u ++ w) s = goL rows (u' ++ w') s := fun s hs => by
  have ga : ∀ (u w : List UInt8) (s : Nat), goL rows (u ++ w) s = goL rows w (goL rows u s) := by
    intro u
    induction u with
    | nil => intro w s; rfl
    | cons c u ih => intro w s; rw [List.cons_append, goL, goL, ih]
  rw [ga, ga, h1 s hs, h2 _ (hlt s hs)]
theorem mv6_ext {u u' : List UInt8} (h : ∀ s, s < rows.length → goL rows u s = goL rows u' s) : mv6 rows u = mv6 rows u' := by
  rw [mv6, mv6, mvF, mvF]
  refine List.map_congr_left fun s hs => ?_
  by_cases q : s < rows.length
  · rw [if_pos q, if_pos q, h s q]
  · rw [if_neg q, if_neg q]
theorem mv6_at {u u' : List UInt8} (n6 : rows.length ≤ 6) (h : mv6 rows u = mv6 rows u') : ∀ s, s < rows.length → goL rows u s = goL rows u' s := fun s hs => by
  have e1 : (mv6 rows u).getD s 0 = goL rows u s := mvF_at (by omega) hs
  have e2 : (mv6 rows u').getD s 0 = goL rows u' s := mvF_at (by omega) hs
  rw [← e1, ← e2, h]
variable {good : List Bool}
theorem goL_lt7 (v : VB rows good k) {w : List UInt8} (hw : okW k w) {s : Nat} (hs : s < rows.length) : goL rows w s < rows.length := by
  have := goL_lt v w w.length 0 s (by omega) hs ((letF_iff k w).2 hw)
  rw [goF_goL rows w w.length 0 s (by omega)] at this
  simpa using this
theorem num_congr (v : VB rows good k) {u w w' x : List UInt8} (hu : okW k u) (hw : okW k w) (hw' : okW k w') (h : mv6 rows w = mv6 rows w') : numM rows S (u ++ w ++ x) = numM rows S (u ++ w' ++ x) := by
  have h1 := mv6_at v.n6 h
  have : mv6 rows (u ++ w ++ x) = mv6 rows (u ++ w' ++ x) := mv6_ext (mv6_congr (mv6_congr (fun _ _ => rfl) (fun s hs => goL_lt7 v hu hs) h1) (fun s hs => goL_lt7 v (okW_app hu hw') hs) (fun _ _ => rfl))
  rw [numM, numM, this]
theorem wrd_num (v : VB rows good k) (W : MW rows k S) {w : List UInt8} (hw : okW k w) : mv6 rows (wrd S (numM rows S w)) = mv6 rows w := by
  have h1 := W.at v.n6 v.k3 hw
  obtain ⟨_, _, _, h2⟩ := W.wok (W.lt v.n6 v.k3 hw)
  rw [h1] at h2
  exact (Option.some.inj h2).symm
theorem okW_ltr {a : Nat} (ha : a < k) (k3 : k ≤ 3) : okW k (ltr a) := by
  have := okW_ext (okW_nil k) ha k3
  simpa [extL] using this
theorem blw_of_rch (v : VB rows good k) (W : MW rows k S) {lf rt : Bool} {i j : Nat} (hi : i < S.1.length) (r : Rch (stpM rows S k lf rt) i j) : Blw rows S k lf rt i j := by
  obtain ⟨_, wi, _, _⟩ := W.wok hi
  induction r with
  | refl => exact ⟨[], [], okW_nil k, okW_nil k, fun _ => rfl, fun _ => rfl, by simpa using W.self hi⟩
  | step r1 hk ih =>
    rename_i j k'
    obtain ⟨u, x, hu, hx, h1, h2, e⟩ := ih
    have hok := okW_app (okW_app hu wi) hx
    have hj : mv6 rows (wrd S j) = mv6 rows (u ++ wrd S i ++ x) := by rw [← e]; exact wrd_num v W hok
    have hjl : j < S.1.length := by rw [← e]; exact W.lt v.n6 v.k3 hok
    obtain ⟨_, wj, _, _⟩ := W.wok hjl
    simp only [stpM, List.mem_flatMap, List.mem_range] at hk
    obtain ⟨a, ha, hk⟩ := hk
    have ho := okW_ltr ha v.k3
    rcases List.mem_append.1 hk with hk | hk
    · split at hk
      · rename_i hl
        simp at hk
        refine ⟨ltr a ++ u, x, okW_app ho hu, hx, fun q => (by rw [hl] at q; cases q), h2, ?_⟩
        have := num_congr (S := S) (x := []) v ho wj hok hj
        simp only [List.append_nil] at this
        rw [hk, this]; simp only [List.append_assoc]
      · simp at hk
    · split at hk
      · rename_i hl
        simp at hk
        refine ⟨u, x ++ ltr a, hu, okW_app hx ho, h1, fun q => (by rw [hl] at q; cases q), ?_⟩
        have := num_congr (S := S) (u := []) (x := ltr a) v (okW_nil k) wj hok hj
        simp only [List.nil_append] at this
        rw [hk, this]; simp only [List.append_assoc]
      · simp at hk
theorem rch_of_blw (v : VB rows good k) (W : MW rows k S) {lf rt : Bool} {i j : Nat} (hi : i < S.1.length) (b : Blw rows S k lf rt i j) : Rch (stpM rows S k lf rt) i j := by
  obtain ⟨_, wi, _, _⟩ := W.wok hi
  have left : ∀ (u : List UInt8), okW k u → (lf = false → u = []) → Rch (stpM rows S k lf rt) i (numM rows S (u ++ wrd S i)) := by
    intro u
    induction u with
    | nil => intro _ _; rw [List.nil_append, W.self hi]; exact .refl
    | cons c u ih =>
      intro hu hl
      have hlt : lf = true := by cases lf with
        | true => rfl
        | false => exact absurd (hl rfl) (by simp)
      have hu' : okW k u := fun b hb => hu b (by simp [hb])
      have hc := hu c (by simp)
      have r := ih hu' (fun q => by rw [hlt] at q; cases q)
      refine r.step ?_
      have hok := okW_app hu' wi
      have hjl := W.lt v.n6 v.k3 hok
      obtain ⟨_, wj, _, _⟩ := W.wok hjl
      simp only [stpM, List.mem_flatMap, List.mem_range]
      refine ⟨c.toNat - 97, hc.2, List.mem_append_left _ ?_⟩
      rw [if_pos hlt, ← chr_ltr hc.1]
      have := num_congr (S := S) (u := [c]) (x := []) v (fun b hb => hu b (by simp at hb; simp [hb])) wj hok (wrd_num v W hok)
      simp only [List.append_nil] at this
      rw [this]; simp
  obtain ⟨u, x, hu, hx, h1, h2, e⟩ := b
  have right : ∀ (x y : List UInt8), okW k x → okW k y → (rt = false → x = []) → Rch (stpM rows S k lf rt) i (numM rows S (u ++ wrd S i ++ y)) → Rch (stpM rows S k lf rt) i (numM rows S (u ++ wrd S i ++ y ++ x)) := by
    intro x
    induction x with
    | nil => intro y _ _ _ r; rw [List.append_nil]; exact r
    | cons c x ih =>
      intro y hx hy hl r
      have hrt : rt = true := by cases rt with
        | true => rfl
        | false => exact absurd (hl rfl) (by simp)
      have hc := hx c (by simp)
      have hx' : okW k x := fun b hb => hx b (by simp [hb])
      have hc1 : okW k [c] := fun b hb => hx b (by simp at hb; simp [hb])
      have e1 : u ++ wrd S i ++ y ++ c :: x = u ++ wrd S i ++ (y ++ [c]) ++ x := by simp
      rw [e1]
      refine ih (y ++ [c]) hx' (okW_app hy hc1) (fun q => by rw [hrt] at q; cases q) (r.step ?_)
      have hok := okW_app (okW_app hu wi) hy
      have hjl := W.lt v.n6 v.k3 hok
      obtain ⟨_, wj, _, _⟩ := W.wok hjl
      simp only [stpM, List.mem_flatMap, List.mem_range]
      refine ⟨c.toNat - 97, hc.2, List.mem_append_right _ ?_⟩
      rw [if_pos hrt, ← chr_ltr hc.1]
      have := num_congr (S := S) (u := []) (x := [c]) v (okW_nil k) wj hok (wrd_num v W hok)
      simp only [List.nil_append] at this
      rw [this]; simp
  have := right x [] hx (okW_nil k) h2 (by rw [List.append_nil]; exact left u hu h1)
  rw [List.append_nil, e] at this
  exact this
end
end Go.Proofs.Ythnpflkpjimkfaa

/-
  BODIES OF FUNCTIONS OF THE PROGRAM AS SMALL OPERATIONS (written by gen.py; checked by the kernel against the program). Conditions: none.
-/
namespace Go.Proofs.Ythnpflkpjimkfaa
open Go.AM
open Go.Proofs.Try (prog)
set_option maxRecDepth 100000
set_option linter.all false
end Go.Proofs.Ythnpflkpjimkfaa

/-
  BELOW: the program's steps, a table of lists. Conditions: none.
-/
namespace Go.Proofs.Ythnpflkpjimkfaa
open Go.AM
open Go.Proofs.Try (prog)
set_option linter.all false
set_option maxRecDepth 100000
set_option maxHeartbeats 8000000
def vat (vs : List AV) (i : Nat) : AV := vs.getD i .nils
def lat (L : List (List Nat)) (i : Nat) : List Nat := L.getD i []
theorem vat_set {vs : List AV} {i j : Nat} {x : AV} (h : i < vs.length) : vat (vs.set i x) j = if i = j then x else vat vs j := by
  simp only [vat, List.getD_eq_getElem?_getD, List.getElem?_set]
  by_cases e : i = j
  · subst e; simp [h]
  · simp [e]
theorem lat_set {vs : List (List Nat)} {i j : Nat} {x : List Nat} (h : i < vs.length) : lat (vs.set i x) j = if i = j then x else lat vs j := by
  simp only [lat, List.getD_eq_getElem?_getD, List.getElem?_set]
  by_cases e : i = j
  · subst e; simp [h]
  · simp [e]
structure Tb (h : Nat → Option AObj) (T : Nat) (vs : List AV) (L : List (List Nat)) (lo hi : Nat) : Prop where
  o : h T = some (.cells vs)
  l : vs.length = L.length
  e : ∀ i, i < L.length → Nl h (vat vs i) ((lat L i).map natV) lo hi
  dj : ∀ i j, i < L.length → j < L.length → i ≠ j → ∀ y, objId (vat vs i) = some y → objId (vat vs j) ≠ some y
  t : T < lo
section
variable {h : Nat → Option AObj} {T : Nat} {vs : List AV} {L : List (List Nat)} {lo hi : Nat}
theorem Tb.ld (B : Tb h T vs L lo hi) {i : Nat} (hi : i < L.length) (nx : Nat) : loadA false 1 ⟨h, nx⟩ (.ptr T i L.length) = some (vat vs i) := by
  have hv : i < vs.length := by rw [B.l]; exact hi
  rw [loadA_ptr]
  show loadO false 1 i L.length (h T) = _
  rw [B.o, loadO_cells]
  simp [B.l, vat, hv, hi, List.getD_eq_getElem?_getD]
theorem Tb.fr {h' : Nat → Option AObj} {hi' : Nat} (B : Tb h T vs L lo hi) (e : ∀ y, y < hi → h' y = h y) (l : hi ≤ hi') (hl : lo ≤ hi) : Tb h' T vs L lo hi' :=
  ⟨by rw [e T (by have := B.t; omega), B.o], B.l, fun i hi => (B.e i hi).fr (fun y y1 y2 _ => e y y2) l, B.dj, B.t⟩
theorem Tb.push (B : Tb h T vs L lo hi) {nx : Nat} (hh : hi ≤ nx) (hl : lo ≤ hi) {i : Nat} (hiL : i < L.length) (hr : (lat L i).length ≤ 1000) (x : Nat) :
    ∃ v' h' nx', appT 1 8 ⟨h, nx⟩ (vat vs i) (some (1, [natV x])) = some (v', ⟨h', nx'⟩) ∧ (∀ n2, stA false 1 ⟨h', n2⟩ (.ptr T i L.length) v' = some (.tup [], ⟨upd h' T (some (.cells (vs.set i v'))), n2⟩)) ∧ Tb (upd h' T (some (.cells (vs.set i v')))) T (vs.set i v') (L.set i (lat L i ++ [x])) lo (nx + 1) ∧ (∀ y, y < lo → y ≠ T → (upd h' T (some (.cells (vs.set i v')))) y = h y) := by
  have hv : i < vs.length := by rw [B.l]; exact hiL
  have hT := B.t
  obtain ⟨v', h', nx', g1, g2, g3, g4, g5, g6, g7⟩ := (B.e i hiL).app (nx := nx) (by' := 8) hh (by omega) (by simp; omega) (natV x)
  have hid : ∀ y, objId v' = some y → lo ≤ y := fun y e => by
    rcases g5 y e with q | q
    · exact ((B.e i hiL).oid q).1
    · omega
  have hT' : h' T = some (.cells vs) := by rw [g6 T (fun e => by have := hid T e; omega), B.o]
  refine ⟨v', h', nx', g1, fun n2 => ?_, ⟨by simp, by simp [B.l], fun j hj => ?_, fun j j' hj hj' hne y => ?_, hT⟩, fun y y1 y2 => by rw [updNe y2, g6 y (fun e => by have := hid y e; omega)]⟩
  · rw [stA_ptr]
    show stO false 1 ⟨h', n2⟩ T i L.length v' (h' T) = _
    rw [hT', stO_cells0]
    simp [B.l, hiL, (show v'.one = true from g2.one), Mem.set]
  · have hj : j < L.length := by simpa using hj
    rw [vat_set hv, lat_set hiL]
    by_cases q : i = j
    · rw [if_pos q, if_pos q, List.map_append]
      exact g2.fr (fun y y1 y2 _ => updNe (by omega)) g4
    · rw [if_neg q, if_neg q]
      exact (B.e j hj).fr (fun y y1 y2 ye => by
        rw [updNe (by omega), g6 y (fun e => by
          rcases g5 y e with w | w
          · exact B.dj i j hiL hj q y w ye
          · omega)]) (by omega)
  · have hj : j < L.length := by simpa using hj
    have hj' : j' < L.length := by simpa using hj'
    rw [vat_set hv, vat_set hv]
    by_cases q : i = j
    · rw [if_pos q, if_neg (by omega)]
      intro e e'
      rcases g5 y e with w | w
      · exact B.dj i j' hiL hj' (by omega) y w e'
      · have := (B.e j' hj').oid e'; omega
    · rw [if_neg q]
      by_cases q' : i = j'
      · rw [if_pos q']
        intro e e'
        rcases g5 y e' with w | w
        · exact B.dj i j hiL hj q y w e
        · have := (B.e j hj).oid e; omega
      · rw [if_neg q']; exact B.dj j j' hj hj' hne y
end
end Go.Proofs.Ythnpflkpjimkfaa

/-
  BELOW: the program's searches, and what it returns. Conditions: none.
-/
namespace Go.Proofs.Ythnpflkpjimkfaa
open Go.AM
open Go.Proofs.Try (prog)
set_option linter.all false
set_option maxRecDepth 100000
set_option maxHeartbeats 8000000
structure Bs (h : Nat → Option AObj) (nx : Nat) (T d : Nat) (vs : List AV) (L : List (List Nat)) (lo hiT : Nat) (ids : List Nat) (Dp : MB) (n e : Nat) (q : AV) (iq : Nat) (P : VP) : Prop where
  tb : Tb h T vs L lo hiT
  bt : Bt h d ids (Dp ++ [P.1]) n e
  q : Gl ⟨h, nx⟩ q iq 1 P.2.length (P.2.map natV)
  lt : lo ≤ hiT ∧ hiT ≤ d ∧ (∀ y ∈ ids, hiT ≤ y ∧ y < nx) ∧ hiT ≤ iq ∧ iq ≠ d ∧ iq ∉ ids ∧ d < nx
  s : cf P.1 + P.2.length ≤ 500
end Go.Proofs.Ythnpflkpjimkfaa

/-
  BELOW: what the program returns. Conditions: none.
-/
namespace Go.Proofs.Ythnpflkpjimkfaa
open Go.AM
open Go.Proofs.Try (prog)
set_option linter.all false
set_option maxRecDepth 100000
set_option maxHeartbeats 8000000
end Go.Proofs.Ythnpflkpjimkfaa

/-
  CLASSES: what the program returns. Conditions: none.
-/
namespace Go.Proofs.Ythnpflkpjimkfaa
open Go.AM
open Go.Proofs.Try (prog)
set_option linter.all false
set_option maxRecDepth 100000
set_option maxHeartbeats 8000000
structure Eqv (E : Nat → Nat → Bool) (n : Nat) : Prop where
  rf : ∀ i, i < n → E i i = true
  sy : ∀ i j, i < n → j < n → E i j = true → E j i = true
  tr : ∀ i j k, i < n → j < n → k < n → E i j = true → E j k = true → E i k = true
end Go.Proofs.Ythnpflkpjimkfaa

/-
  CLASSES: all of them. Conditions: none.
-/
namespace Go.Proofs.Ythnpflkpjimkfaa
open Go.AM
open Go.Proofs.Try (prog)
set_option linter.all false
set_option maxRecDepth 100000
set_option maxHeartbeats 8000000
end Go.Proofs.Ythnpflkpjimkfaa

/-
  CLASSES: Left, Right, Classes; lists of lists that are the same. Conditions: none.
-/
namespace Go.Proofs.Ythnpflkpjimkfaa
open Go.AM
open Go.Proofs.Try (prog)
set_option linter.all false
set_option maxRecDepth 100000
set_option maxHeartbeats 8000000
theorem Rch.trans {stp : Nat → List Nat} {i j k : Nat} (h : Rch stp i j) (g : Rch stp j k) : Rch stp i k := by
  induction g with
  | refl => exact h
  | step _ hk ih => exact ih.step hk
section
variable {rows : List (List Int)} {good : List Bool} {k : Nat} {S : SM}
theorem Blw.rf (W : MW rows k S) {lf rt : Bool} {i : Nat} (hi : i < S.1.length) : Blw rows S k lf rt i i := ⟨[], [], okW_nil k, okW_nil k, fun _ => rfl, fun _ => rfl, by simpa using W.self hi⟩
theorem Blw.tr (v : VB rows good k) (W : MW rows k S) {lf rt : Bool} {i j l : Nat} (hi : i < S.1.length) (hj : j < S.1.length) (h : Blw rows S k lf rt i j) (g : Blw rows S k lf rt j l) : Blw rows S k lf rt i l :=
  blw_of_rch v W hi ((rch_of_blw v W hi h).trans (rch_of_blw v W hj g))
end
def IsSS (v : AV) (l : List (List (List UInt8))) : Prop := (v = .nils ∧ l = []) ∨ ∃ ex cs, v = .fsl ex l.length cs ∧ cs.length = l.length ∧ ∀ i (hi : i < l.length), ∃ x, cs[i]? = some x ∧ IsS x l[i]
theorem IsSS.len {v : AV} {l : List (List (List UInt8))} (h : IsSS v l) : lenSl v = some (.int .i64 l.length) := by rcases h with ⟨rfl, rfl⟩ | ⟨_, _, rfl, _⟩ <;> rfl
theorem IsSS.closed {v : AV} {l : List (List (List UInt8))} (h : IsSS v l) : v.closed = true := by rcases h with ⟨rfl, rfl⟩ | ⟨_, _, rfl, _⟩ <;> rfl
theorem IsSS.one {v : AV} {l : List (List (List UInt8))} (h : IsSS v l) : v.one = true := by rcases h with ⟨rfl, rfl⟩ | ⟨_, _, rfl, _⟩ <;> rfl
theorem IsSS.at {v : AV} {l : List (List (List UInt8))} (h : IsSS v l) {i : Nat} (hi : i < l.length) : ∃ cs x, idxSl 1 v (.int .i64 (i : Int)) = some (.fptr cs) ∧ cs.head? = some x ∧ IsS x l[i] := by
  rcases h with ⟨rfl, rfl⟩ | ⟨_, cs, rfl, h1, h2⟩
  · simp at hi
  · obtain ⟨x, hx, hs⟩ := h2 i hi
    exact ⟨cs.drop i, x, by simp [hi], by rw [List.head?_drop]; exact hx, hs⟩
end Go.Proofs.Ythnpflkpjimkfaa

/-
  BELOW: the specification's. Conditions: none.
-/
namespace Go.Proofs.Ythnpflkpjimkfaa
open Go.AM
open Go.Proofs.Try (prog)
set_option linter.all false
set_option maxRecDepth 100000
set_option maxHeartbeats 8000000
end Go.Proofs.Ythnpflkpjimkfaa

/-
  BELOW: what the specification's marks mean. Conditions: none.
-/
namespace Go.Proofs.Ythnpflkpjimkfaa
open Go.AM
open Go.Proofs.Try (prog)
set_option linter.all false
set_option maxRecDepth 100000
set_option maxHeartbeats 8000000
section
variable {rows : List (List Int)} {good : List Bool} {k : Nat} {S : SM}
theorem num_l (v : VB rows good k) {w w' x : List UInt8} (hw : okW k w) (hw' : okW k w') (h : mv6 rows w = mv6 rows w') : numM rows S (w ++ x) = numM rows S (w' ++ x) := by
  have := num_congr (S := S) v (u := []) (x := x) (okW_nil k) hw hw' h
  simpa using this
theorem num_r (v : VB rows good k) {u w w' : List UInt8} (hu : okW k u) (hw : okW k w) (hw' : okW k w') (h : mv6 rows w = mv6 rows w') : numM rows S (u ++ w) = numM rows S (u ++ w') := by
  have := num_congr (S := S) v (u := u) (x := []) hu hw hw' h
  simpa using this
theorem wrd_ok (W : MW rows k S) {i : Nat} (hi : i < S.1.length) : okW k (wrd S i) := (W.wok hi).2.1
theorem pr_nums (v : VB rows good k) (W : MW rows k S) {u w : List UInt8} (hu : okW k u) (hw : okW k w) : pr rows S (numM rows S u) (numM rows S w) = numM rows S (u ++ w) := by
  have n6 := v.n6
  have k3 := v.k3
  have o1 := wrd_ok W (W.lt n6 k3 hu)
  have o2 := wrd_ok W (W.lt n6 k3 hw)
  rw [pr, num_l v o1 hu (wrd_num v W hu), num_r v hu o2 hw (wrd_num v W hw)]
end
end Go.Proofs.Ythnpflkpjimkfaa

/-
  THE WORDS OF A MONOID ARE THE LEAST ONES: plain law. Conditions: none.
-/
namespace Go.Proofs.Ythnpflkpjimkfaa
open Go.AM
open Go.Proofs.Try (prog)
set_option linter.all false
set_option maxRecDepth 100000
set_option maxHeartbeats 8000000
def rk (w : List UInt8) : Nat := w.foldl (fun n c => n * 256 + (c.toNat + 1)) 0
theorem rk_snoc (w : List UInt8) (c : UInt8) : rk (w ++ [c]) = rk w * 256 + (c.toNat + 1) := by simp [rk]
theorem rk_nil : rk [] = 0 := rfl
theorem rk_ltr (w : List UInt8) {a : Nat} (ha : a < 3) : rk (w ++ ltr a) = rk w * 256 + (98 + a) := by
  rw [ltr, rk_snoc, ofNat6 (by omega)]; omega
theorem snoc_of {α : Type} : ∀ (l : List α), l ≠ [] → ∃ p x, l = p ++ [x]
  | [], h => absurd rfl h
  | [a], _ => ⟨[], a, rfl⟩
  | a :: b :: l, _ => by
    obtain ⟨p, x, e⟩ := snoc_of (b :: l) (by simp)
    exact ⟨a :: p, x, by rw [e]; rfl⟩
theorem rk_len : ∀ (n : Nat) (u w : List UInt8), u.length = n → u.length < w.length → rk u < rk w
  | 0, u, w, hu, h => by
    have : u = [] := List.length_eq_zero_iff.1 hu
    subst this
    obtain ⟨p, x, rfl⟩ := snoc_of w (by intro e; subst e; simp at h)
    rw [rk_snoc, rk_nil]; omega
  | n + 1, u, w, hu, h => by
    obtain ⟨p, x, rfl⟩ := snoc_of u (by intro e; subst e; simp at hu)
    obtain ⟨q, y, rfl⟩ := snoc_of w (by intro e; subst e; simp at h)
    simp at hu h
    have := rk_len n p q hu h
    have hx := x.toNat_lt
    rw [rk_snoc, rk_snoc]
    omega
def rk0 (n : Nat) (w : List UInt8) : Nat := w.foldl (fun n c => n * 256 + (c.toNat + 1)) n
theorem rk0_eq : ∀ (w : List UInt8) (n : Nat), rk0 n w = n * 256 ^ w.length + rk w
  | [], n => by simp [rk0, rk]
  | c :: w, n => by
    have h1 := rk0_eq w (n * 256 + (c.toNat + 1))
    have h2 := rk0_eq w (0 * 256 + (c.toNat + 1))
    have e1 : rk0 n (c :: w) = rk0 (n * 256 + (c.toNat + 1)) w := rfl
    have e2 : rk (c :: w) = rk0 (0 * 256 + (c.toNat + 1)) w := rfl
    rw [e1, e2, h1, h2, List.length_cons, Nat.pow_succ]
    have : (n * 256 + (c.toNat + 1)) * 256 ^ w.length = n * (256 ^ w.length * 256) + (0 * 256 + (c.toNat + 1)) * 256 ^ w.length := by
      rw [Nat.add_mul, Nat.zero_mul, Nat.zero_add, Nat.mul_assoc, Nat.mul_comm 256]
    omega
theorem rk_cons (c : UInt8) (w : List UInt8) : rk (c :: w) = (c.toNat + 1) * 256 ^ w.length + rk w := by
  have e2 : rk (c :: w) = rk0 (0 * 256 + (c.toNat + 1)) w := rfl
  rw [e2, rk0_eq, Nat.zero_mul, Nat.zero_add]
theorem rk_near : ∀ (u w : List UInt8), u.length = w.length → rk u + 1 ≤ rk w + 256 ^ w.length
  | [], [], _ => by simp [rk]
  | [], _ :: _, h => by simp at h
  | _ :: _, [], h => by simp at h
  | a :: u, b :: w, h => by
    have ih := rk_near u w (by simpa using h)
    have hl : u.length = w.length := by simpa using h
    rw [rk_cons, rk_cons, List.length_cons, Nat.pow_succ, hl]
    have ha := a.toNat_lt
    generalize 256 ^ w.length = z at *
    have h1 : (a.toNat + 1) * z ≤ 256 * z := Nat.mul_le_mul_right _ (by omega)
    have h2 : z ≤ (b.toNat + 1) * z := Nat.le_mul_of_pos_left _ (by omega)
    omega
theorem rk_less : ∀ (u w : List UInt8), u.length = w.length → Op.bytesLess u w = true → rk u < rk w
  | [], [], _, h => by simp [Op.bytesLess] at h
  | [], _ :: _, h, _ => by simp at h
  | _ :: _, [], h, _ => by simp at h
  | a :: u, b :: w, h, g => by
    have hl : u.length = w.length := by simpa using h
    rw [rk_cons, rk_cons, hl]
    have nr := rk_near u w hl
    generalize hz : 256 ^ w.length = z at *
    rcases Nat.lt_trichotomy a.toNat b.toNat with c | c | c
    · have : (a.toNat + 1) * z + z ≤ (b.toNat + 1) * z := by
        rw [← Nat.succ_mul]; exact Nat.mul_le_mul_right _ (by omega)
      omega
    · have e : a = b := UInt8.toNat_inj.1 c
      subst e
      have g' : Op.bytesLess u w = true := by simpa [Op.bytesLess] using g
      have := rk_less u w hl g'
      omega
    · exfalso
      have h1 : ¬ a < b := by rw [UInt8.lt_iff_toNat_lt]; omega
      have h2 : ¬ a = b := fun e => by subst e; omega
      simp [Op.bytesLess, h1, h2] at g
      first | done | omega
section
variable {rows : List (List Int)} {k : Nat}
def OrI (rows : List (List Int)) (S : SM) (j b : Nat) : Prop := ∃ m, S.1[m]? = some (nxM rows (S.1.getD j []) b) ∧ rk (S.2.getD m []) ≤ rk (S.2.getD j []) * 256 + (98 + b)
theorem OrI.app {S : SM} {j b : Nat} (h : OrI rows S j b) (hl : S.1.length = S.2.length) (hj : j < S.1.length) (p : List (List Nat)) (q : List (List UInt8)) : OrI rows (S.1 ++ p, S.2 ++ q) j b := by
  obtain ⟨m, h1, h2⟩ := h
  have hm := (List.getElem?_eq_some_iff.1 h1).1
  have g1 : ∀ i, i < S.1.length → (S.1 ++ p).getD i [] = S.1.getD i [] := fun i hi => by simp [List.getD_eq_getElem?_getD, List.getElem?_append_left hi]
  have g2 : ∀ i, i < S.1.length → (S.2 ++ q).getD i [] = S.2.getD i [] := fun i hi => by
    have : i < S.2.length := by omega
    simp [List.getD_eq_getElem?_getD, List.getElem?_append_left this]
  refine ⟨m, ?_, ?_⟩
  · simp only []
    rw [g1 j hj, List.getElem?_append_left hm]; exact h1
  · simp only []
    rw [g2 m hm, g2 j hj]; exact h2
structure Srt (S : SM) (b : Nat) : Prop where
  l : S.1.length = S.2.length
  s : S.2.Pairwise fun u w => rk u < rk w
  b : ∀ y ∈ S.2, rk y < b
theorem in_ord {x : List Nat} {w : List UInt8} {i : Nat} : ∀ (c a : Nat) (S S' : SM), bInM rows x w c a S = some S' → S.1[i]? = some x → S.2[i]? = some w → a + c ≤ 3 → Srt S (rk w * 256 + (98 + a)) → (∀ b, b < a → OrI rows S i b) →
    Srt S' (rk w * 256 + (98 + (a + c))) ∧ (∀ b, b < a + c → OrI rows S' i b) ∧ ∃ p q, S' = (S.1 ++ p, S.2 ++ q)
  | 0, a, S, S', h, _, _, _, g, o => by
    simp only [bInM, Option.some.injEq] at h
    subst h
    exact ⟨g, fun b hb => o b (by omega), [], [], by simp⟩
  | c + 1, a, S, S', h, h1, h2, ha, g, o => by
    have hi := (List.getElem?_eq_some_iff.1 h1).1
    have gx : S.1.getD i [] = x := by simp [List.getD_eq_getElem?_getD, h1]
    have gw : S.2.getD i [] = w := by simp [List.getD_eq_getElem?_getD, h2]
    rw [bInM] at h
    by_cases q : nxM rows x a ∈ S.1
    · rw [if_pos q] at h
      obtain ⟨m, hm⟩ := List.getElem?_of_mem q
      have hml := (List.getElem?_eq_some_iff.1 hm).1
      have hm2 : m < S.2.length := by have := g.l; omega
      have hmem : S.2.getD m [] ∈ S.2 := by simp [List.getD_eq_getElem?_getD, hm2]
      have r := in_ord c (a + 1) S S' h h1 h2 (by omega) ⟨g.l, g.s, fun y hy => by have := g.b y hy; omega⟩ (fun b hb => by
        by_cases e : b = a
        · subst e
          exact ⟨m, by rw [gx]; exact hm, by rw [gw]; have := g.b _ hmem; omega⟩
        · exact o b (by omega))
      rw [show a + 1 + c = a + (c + 1) by omega] at r
      exact r
    · rw [if_neg q] at h
      by_cases q2 : S.1.length = 400
      · rw [if_pos q2] at h; cases h
      · rw [if_neg q2] at h
        have er : rk (extL w a) = rk w * 256 + (98 + a) := rk_ltr w (by omega)
        have hS : Srt (S.1 ++ [nxM rows x a], S.2 ++ [extL w a]) (rk w * 256 + (98 + (a + 1))) := by
          refine ⟨by simp [g.l], ?_, fun y hy => ?_⟩
          · rw [List.pairwise_append]
            refine ⟨g.s, by simp, fun u hu y hy => ?_⟩
            simp at hy
            subst hy
            rw [er]; exact g.b u hu
          · rcases List.mem_append.1 hy with hy | hy
            · have := g.b y hy; omega
            · simp at hy; rw [hy, er]; omega
        obtain ⟨r1, r2, p, qq, r3⟩ := in_ord (i := i) c (a + 1) _ S' h (by rw [List.getElem?_append_left hi]; exact h1) (by rw [List.getElem?_append_left (by have := g.l; omega)]; exact h2) (by omega) hS (fun b hb => by
          by_cases e : b = a
          · subst e
            refine ⟨S.1.length, ?_, ?_⟩
            · simp only []
              rw [show (S.1 ++ [nxM rows x b]).getD i [] = x by simp [List.getD_eq_getElem?_getD, List.getElem?_append_left hi, h1]]
              simp
            · simp only []
              rw [show (S.2 ++ [extL w b]).getD i [] = w by
                have : i < S.2.length := by have := g.l; omega
                simp [List.getD_eq_getElem?_getD, List.getElem?_append_left this, h2]]
              rw [g.l]
              simp [List.getD_eq_getElem?_getD, er]
          · exact (o b (by omega)).app g.l hi _ _)
        refine ⟨by rw [show a + (c + 1) = a + 1 + c by omega]; exact r1, fun b hb => r2 b (by omega), [nxM rows x a] ++ p, [extL w a] ++ qq, ?_⟩
        rw [r3]; simp
theorem out_ord (k3 : k ≤ 3) : ∀ (f i : Nat) (S S' : SM), bfsM rows k f i S = some S' → 400 < f + i → S.1.length ≤ 400 → (∀ S'' : SM, (∃ f i, bfsM rows k f i S'' = some S') → S''.1.length ≤ 400) → (∃ b, Srt S b) → (∀ w, S.2[i]? = some w → Srt S (rk w * 256 + 98)) → (∀ j, j < i → j < S.1.length ∧ ∀ b, b < k → OrI rows S j b) →
    (∃ b, Srt S' b) ∧ ∀ j, j < S'.1.length → ∀ b, b < k → OrI rows S' j b
  | 0, i, S, S', h, hf, hl, hl2, hs, hb, ho => by
    have := ho 400 (by omega)
    omega
  | f + 1, i, S, S', h, hf, hl, hl2, hs, hb, ho => by
    obtain ⟨b0, hs0⟩ := hs
    rw [bfsM] at h
    by_cases c : i < S.1.length
    · have hx := List.getElem?_eq_getElem c
      have c2 : i < S.2.length := by have := hs0.l; omega
      have hw := List.getElem?_eq_getElem c2
      generalize S.1[i] = x at hx
      generalize S.2[i] = w at hw
      rw [hx, hw] at h
      simp only [Option.bind_eq_some_iff] at h
      obtain ⟨T, hT, h⟩ := h
      obtain ⟨r1, r2, p, q, r3⟩ := in_ord (rows := rows) (i := i) k 0 S T hT hx hw (by omega) (hb w hw) (fun b hb => by omega)
      have hTl := hl2 T ⟨f, i + 1, h⟩
      subst r3
      refine out_ord k3 f (i + 1) _ S' h (by omega) hTl hl2 ⟨_, r1⟩ (fun w2 hw2 => ?_) (fun j hj => ?_)
      · refine ⟨r1.l, r1.s, fun y hy => ?_⟩
        have h1 := r1.b y hy
        have hlt : rk w < rk w2 := by
          have hi1 := (List.getElem?_eq_some_iff.1 hw2).1
          have e1 : (S.2 ++ q)[i]? = some w := by rw [List.getElem?_append_left c2]; exact hw
          have hi0 := (List.getElem?_eq_some_iff.1 e1).1
          have := List.pairwise_iff_getElem.1 r1.s i (i + 1) hi0 hi1 (by omega)
          rw [(List.getElem?_eq_some_iff.1 e1).2, (List.getElem?_eq_some_iff.1 hw2).2] at this
          exact this
        omega
      · by_cases e : j = i
        · subst e
          exact ⟨by simp; omega, fun b hb => r2 b (by omega)⟩
        · obtain ⟨o1, o2⟩ := ho j (by omega)
          exact ⟨by simp; omega, fun b hb => (o2 b hb).app hs0.l o1 _ _⟩
    · have hx : S.1[i]? = none := List.getElem?_eq_none (by omega)
      rw [hx] at h
      simp only [Option.some.injEq] at h
      subst h
      exact ⟨⟨b0, hs0⟩, fun j hj => (ho j (by omega)).2⟩
end
theorem bfsM_le {rows : List (List Int)} {k : Nat} : ∀ (f i : Nat) (S S' : SM), bfsM rows k f i S = some S' → S.1.length ≤ S'.1.length
  | 0, i, S, S', h => by simp only [bfsM, Option.some.injEq] at h; rw [h]; exact Nat.le_refl _
  | f + 1, i, S, S', h => by
    rw [bfsM] at h
    split at h
    · simp only [Option.bind_eq_some_iff] at h
      obtain ⟨T, hT, h⟩ := h
      have h1 := bfsM_le f (i + 1) T S' h
      have key : ∀ (c a : Nat) (x : List Nat) (w : List UInt8) (S T : SM), bInM rows x w c a S = some T → S.1.length ≤ T.1.length := by
        intro c
        induction c with
        | zero => intro a x w S T h; simp only [bInM, Option.some.injEq] at h; rw [h]; exact Nat.le_refl _
        | succ c ih =>
          intro a x w S T h
          rw [bInM] at h
          split at h
          · exact ih _ _ _ _ _ h
          · split at h
            · cases h
            · have := ih _ _ _ _ _ h
              simp at this; omega
      have h2 := key _ _ _ _ _ _ hT
      omega
    · simp only [Option.some.injEq] at h; rw [h]; exact Nat.le_refl _
section
variable {rows : List (List Int)} {good : List Bool} {k : Nat} {S : SM}
structure Least (rows : List (List Int)) (k : Nat) (S : SM) : Prop where
  inc : ∀ i j, i < j → j < S.1.length → rk (wrd S i) < rk (wrd S j)
  le : ∀ w, okW k w → rk (wrd S (numM rows S w)) ≤ rk w
theorem least_of (v : VB rows good k) (h : madeS rows k = some S) : Least rows k S := by
  have n6 := v.n6
  have k3 := v.k3
  obtain ⟨m1, m2, m3⟩ := madeS_ok n6 k3 h
  have W : MW rows k S := ⟨m1, m2, m3⟩
  obtain ⟨⟨b, o1⟩, o2⟩ := out_ord (rows := rows) (k := k) k3 401 0 ([mv6 rows []], [[]]) S h (by omega) (by simp) (fun T ⟨f, i, hT⟩ => by have := bfsM_le f i T S hT; have := m1.le; omega) ⟨1, ⟨rfl, by simp, by simp [rk_nil]⟩⟩ (fun w hw => by
    have : w = [] := by simpa using hw.symm
    subst this
    exact ⟨rfl, by simp, by simp [rk_nil]⟩) (by omega)
  refine ⟨fun i j hij hj => ?_, ?_⟩
  · have hj2 : j < S.2.length := by have := m1.len; omega
    have := List.pairwise_iff_getElem.1 o1.s i j (by omega) hj2 hij
    simpa [wrd, List.getD_eq_getElem?_getD, hj2, show i < S.2.length by omega] using this
  · have key : ∀ (n : Nat) (w : List UInt8), w.length = n → okW k w → rk (wrd S (numM rows S w)) ≤ rk w := by
      intro n
      induction n with
      | zero =>
        intro w hn hw
        have e : w = [] := List.length_eq_zero_iff.1 hn
        subst e
        obtain ⟨p, q, e1, e2⟩ := m2
        have : numM rows S [] = 0 := by rw [numM, e1]; simp
        rw [this, wrd, e2]
        simp
      | succ n ih =>
        intro w hn hw
        obtain ⟨p, c, rfl⟩ := snoc_of w (by intro e; subst e; simp at hn)
        have hp : okW k p := fun b hb => hw b (by simp [hb])
        have hc := hw c (by simp)
        have ec : [c] = ltr (c.toNat - 97) := chr_ltr hc.1
        generalize c.toNat - 97 = a at *
        have hlp := W.lt n6 k3 hp
        have ih2 := ih p (by simpa using hn) hp
        obtain ⟨m, h1, h2⟩ := o2 _ hlp a hc.2
        obtain ⟨_, u2, _, u4⟩ := W.wok hlp
        have g1 : S.1.getD (numM rows S p) [] = mv6 rows p := by
          have := W.at n6 k3 hp
          simp [List.getD_eq_getElem?_getD, this]
        rw [g1] at h1
        have e3 := mv6_ltr rows n6 p (a := a) (by omega)
        rw [← e3, extL, ← ec] at h1
        have hm := (List.getElem?_eq_some_iff.1 h1).1
        have en : numM rows S (p ++ [c]) = m := by
          rw [numM, ← (List.getElem?_eq_some_iff.1 h1).2]
          exact m1.nd.idxOf_getElem _ hm
        rw [en, ec, rk_ltr p (by omega)]
        have h2' : rk (wrd S m) ≤ rk (wrd S (numM rows S p)) * 256 + (98 + a) := h2
        omega
    exact fun w hw => key w.length w rfl hw
end
end Go.Proofs.Ythnpflkpjimkfaa
