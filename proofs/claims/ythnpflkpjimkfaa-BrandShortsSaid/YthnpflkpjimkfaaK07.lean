/-
  THE PROGRAM'S SEARCH FOR TWO WORDS WITH THE SAME PARTS. Conditions: none.
-/
import Derived.Test.YthnpflkpjimkfaaK06
import Derived.Test.YthnpflkpjimkfaaK03
import Derived.Test.YthnpflkpjimkfaaK04
set_option linter.all false
namespace Go.Proofs.Ythnpflkpjimkfaa
open Go.AM
open Go.Proofs.Try (prog)
set_option linter.all false
set_option maxRecDepth 100000
set_option maxHeartbeats 8000000
def nxN (rows : List (List Int)) (K : Nat) (x : PT) (a : Nat) : PT := (nx rows x.1 a, addP K x.2 (ltr a))
def flN : List PT → List AV
  | [] => []
  | x :: l => cN x ++ flN l
@[simp] theorem cN_len (x : PT) : (cN x).length = 2 := rfl
@[simp] theorem flN_len : ∀ l : List PT, (flN l).length = l.length * 2
  | [] => rfl
  | x :: l => by rw [flN, List.length_append, flN_len l, cN_len, List.length_cons]; omega
theorem flN_app : ∀ l r : List PT, flN (l ++ r) = flN l ++ flN r
  | [], r => rfl
  | x :: l, r => by rw [List.cons_append, flN, flN_app l r, flN, List.append_assoc]
theorem flN_drop : ∀ (i : Nat) (l : List PT), (flN l).drop (i * 2) = flN (l.drop i)
  | 0, l => by simp
  | i + 1, [] => by simp [flN]
  | i + 1, x :: l => by
    rw [flN, Nat.succ_mul, Nat.add_comm, ← List.drop_drop]
    simp [cN, flN_drop i l]
theorem flN_at {l : List PT} {i : Nat} {x : PT} (h : l[i]? = some x) : ((flN l).drop (i * 2)).take 2 = cN x := by
  rw [flN_drop]
  have hi := (List.getElem?_eq_some_iff.1 h).1
  have e := (List.getElem?_eq_some_iff.1 h).2
  rw [List.drop_eq_getElem_cons hi, e]
  rfl
theorem flN_drop1 (l : List PT) (i : Nat) : (flN (l.drop i)).drop 2 = flN (l.drop (i + 1)) := by
  have := flN_drop 1 (l.drop i)
  simpa using this
abbrev ST := List PT × WL
structure Ps (h : Nat → Option AObj) (nx : Nat) (iw is ig ib : Nat) (nv : AV) (q : AV) (iq i : Nat) (S : ST) (vs : List AV) (G : GT) : Prop where
  w : Mp ⟨h, nx⟩ iw (S.1.map encN) (S.2.map .str)
  s : Mp ⟨h, nx⟩ is (S.1.map encN) (vs.map id)
  v : vs.length = S.1.length ∧ ∀ (j : Nat) x, S.1[j]? = some x → ∃ ex, vs[j]? = some (sF ex x.2)
  g : Mf AV.str (fun _ => True) AV.str h ig G.1
  b : Mf AV.str (fun _ => True) AV.str h ib G.2.1
  n : Nl h nv (G.2.2.map .str) (ib + 1) nx
  q : Gl ⟨h, nx⟩ q iq 2 (S.1.length - i) (flN (S.1.drop i))
  o1 : iw < is
  o2 : is < ig
  o3 : ig < ib
  o4 : ib < iq
  d : objId nv ≠ some iq
noncomputable def KSo : List Item := [.code brand_Short.r32, .code brand_Short.r33, .code brand_Short.k4, .code brand_Short.r46, .code brand_Short.i11, .code brand_Short.r48, .code .ret]
noncomputable def KSi : List Item := .inBlock 1 :: .code brand_Short.r11 :: .inLoop brand_Short.l0 :: .inBlock 0 :: KSo
section
variable {t : TypeId} {α β : Type} [DecidableEq α] {enc : α → AV} {ok : α → Prop} {ev : β → AV}
theorem Mp.putU (hk : Keys t enc ok) {h : Nat → Option AObj} {nx id : Nat} {ks : List α} {vs : List β} (M : Mp ⟨h, nx⟩ id (ks.map enc) (vs.map ev)) (ha : ∀ a ∈ ks, ok a) (hl : ks.length = vs.length) {c : α} (hc : ok c) (hm : c ∉ ks) (v : β) :
    ∃ o, (∀ h1 nx, h1 id = h id → updM prog ⟨h1, nx⟩ t (.map id) (enc c) (ev v) = some (.tup [], ⟨upd h1 id o, nx⟩)) ∧ ∀ h' nx', h' id = o → id < nx' → Mp ⟨h', nx'⟩ id ((ks ++ [c]).map enc) ((vs ++ [v]).map ev) := by
  obtain ⟨⟨g, hg⟩, hlt⟩ := M
  refine ⟨some (.map (g + 1) ((ks ++ [c]).map enc) ((vs ++ [v]).map ev)), fun h1 nx e => ?_, fun h' nx' e l => ⟨⟨g + 1, e⟩, l⟩⟩
  have hg' : h1 id = some (.map g (ks.map enc) (vs.map ev)) := by rw [e]; exact hg
  simp only [updM, updP, hk.key c hc, cond_true, hg', setK_of hk ha hc (vs := vs.map ev) (by simpa using hl) hm, Option.bind_some, Option.map_some]
  simp [Mem.set]
theorem Mp.ent (hk : Keys t enc ok) {h : Nat → Option AObj} {nx id : Nat} {ks : List α} {vs : List β} (M : Mp ⟨h, nx⟩ id (ks.map enc) (vs.map ev)) (ha : ∀ a ∈ ks, ok a) (hl : ks.length = vs.length) {c : α} (hc : ok c) (hm : c ∉ ks) (z v : β) :
    ∃ o1 st o2, (∀ h1 nx, h1 id = h id → AM.entP prog ⟨h1, nx⟩ t (ev z) (.map id) (enc c) = some (.tup [ev z, st], ⟨upd h1 id o1, nx⟩)) ∧ (∀ h1 nx, h1 id = o1 → entS ⟨h1, nx⟩ (.map id) st (ev v) = some (.tup [], ⟨upd h1 id o2, nx⟩)) ∧
      ∀ h' nx', h' id = o2 → id < nx' → Mp ⟨h', nx'⟩ id ((ks ++ [c]).map enc) ((vs ++ [v]).map ev) := by
  obtain ⟨⟨g, hg⟩, hlt⟩ := M
  refine ⟨some (.map (g + 1) ((ks ++ [c]).map enc) ((vs ++ [z]).map ev)), .int .i64 (ks.length : Nat), some (.map (g + 1 + 1) ((ks ++ [c]).map enc) ((vs ++ [v]).map ev)), fun h1 nx e => ?_, fun h1 nx e => ?_, fun h' nx' e l => ⟨⟨g + 1 + 1, e⟩, l⟩⟩
  · have hg' : h1 id = some (.map g (ks.map enc) (vs.map ev)) := by rw [e]; exact hg
    simp only [AM.entP, hk.key c hc, cond_true, hg', findI_gen hk 0 ha hc, if_neg hm, Option.bind_some, List.length_map]
    simp [Mem.set]
  · have hs : ((vs ++ [z]).map ev).set ks.length (ev v) = (vs ++ [v]).map ev := by
      rw [hl]; simp
    have h7 : ((vs.length : Nat) : Int) < (vs.length : Nat) + 1 := by omega
    simp [entS, entryStA, e, inR, Mem.set, hl, h7]
theorem Mp.mlen {m : Mem} {id : Nat} {ks : List α} {vs : List AV} (M : Mp m id (ks.map enc) vs) : mapLenA m (.map id) = some (.int .i64 (ks.length : Nat)) := by
  obtain ⟨⟨g, hg⟩, hlt⟩ := M
  simp [mapLenA, mapLen, hg]
end
theorem Ps.fr {h h' : Nat → Option AObj} {nx nx' iw is ig ib iq i : Nat} {nv q : AV} {S : ST} {vs : List AV} {G : GT} (P : Ps h nx iw is ig ib nv q iq i S vs G) (e : ∀ y, y < nx → h' y = h y) (l : nx ≤ nx') : Ps h' nx' iw is ig ib nv q iq i S vs G := by
  have := P.q.lt
  have h1 : iq < nx := this
  have o1 := P.o1
  have o2 := P.o2
  have o3 := P.o3
  have o4 := P.o4
  exact ⟨P.w.frame (e iw (by omega)) l, P.s.frame (e is (by omega)) l, P.v, P.g.fr (e ig (by omega)), P.b.fr (e ib (by omega)), P.n.fr (fun y h1 h2 _ => e y h2) l, P.q.frame (e iq h1) l, o1, o2, o3, o4, P.d⟩
theorem Ps.add {h h' : Nat → Option AObj} {nx nx' iw is ig ib iq iq' i : Nat} {nv q q' : AV} {S : ST} {vs : List AV} {G : GT} (P : Ps h nx iw is ig ib nv q iq i S vs G) (l : nx ≤ nx') {y : PT} {w : List UInt8} {u : AV} (hu : ∃ ex, u = sF ex y.2) (hi : i ≤ S.1.length)
    (hw : Mp ⟨h', nx'⟩ iw ((S.1 ++ [y]).map encN) ((S.2 ++ [w]).map .str)) (hs : Mp ⟨h', nx'⟩ is ((S.1 ++ [y]).map encN) ((vs ++ [u]).map id))
    (hq : Gl ⟨h', nx'⟩ q' iq' 2 (S.1.length - i + 1) (flN (S.1.drop i) ++ cN y)) (hq' : iq' = iq ∨ nx ≤ iq') (e : ∀ z, z < nx → z ≠ iw → z ≠ is → z ≠ iq → h' z = h z) : Ps h' nx' iw is ig ib nv q' iq' i (S.1 ++ [y], S.2 ++ [w]) (vs ++ [u]) G := by
  have hlt : iq < nx := P.q.lt
  have o1 := P.o1
  have o2 := P.o2
  have o3 := P.o3
  have o4 := P.o4
  refine ⟨hw, hs, ⟨by simp [P.v.1], fun j x hj => ?_⟩, P.g.fr (e ig (by omega) (by omega) (by omega) (by omega)), P.b.fr (e ib (by omega) (by omega) (by omega) (by omega)), P.n.fr (fun z h1 h2 h3 => e z h2 (by omega) (by omega) (fun c => P.d (by rw [h3, c]))) l, ?_, o1, o2, o3, ?_, ?_⟩
  · have vl := P.v.1
    by_cases c : j < S.1.length
    · rw [List.getElem?_append_left c] at hj
      obtain ⟨ex, he⟩ := P.v.2 j x hj
      exact ⟨ex, by rw [List.getElem?_append_left (by omega)]; exact he⟩
    · have hj' := (List.getElem?_eq_some_iff.1 hj).1
      simp at hj'
      have ej : j = S.1.length := by omega
      subst ej
      simp at hj
      subst hj
      obtain ⟨ex, rfl⟩ := hu
      exact ⟨ex, by rw [← vl]; simp⟩
  · show Gl _ q' iq' 2 ((S.1 ++ [y]).length - i) (flN ((S.1 ++ [y]).drop i))
    rw [List.drop_append_of_le_length hi, flN_app, List.length_append]
    rw [show S.1.length + [y].length - i = S.1.length - i + 1 by simp; omega]
    simpa [flN] using hq
  · rcases hq' with c | c <;> omega
  · intro c
    rcases hq' with c2 | c2
    · rw [c2] at c; exact P.d c
    · have := P.n.oid c; omega
def fulV : AV := .tup [.str [], .str [], .int .i64 7]
theorem sho_in {nv gv : AV} {ps : List AV} {rows : List (List Int)} {good : List Bool} {k : Nat} (hn : IsRows nv ps rows) (v : VB rows good k) {K : Nat} (K3 : K ≤ 3) {iw is ig ib i : Nat} {x : PT} {w : List UInt8} (hx : OkP rows.length k K x) {r : Res} {nmV : AV} {G : GT} :
    ∀ (j a iq : Nat) (m : Mem) (q : AV) (S : ST) (vs : List AV), a + j = k → Ps m.h m.nx iw is ig ib nmV q iq i S vs G → S.1[i]? = some x → S.2[i]? = some w → BOk (OkP rows.length k K) List.length S → S.1.length ≤ 5000 →
    (∀ S', bInF (nxN rows K) extL x w j a S = some S' → ∀ m' q' iq' vs', Ps m'.h m'.nx iw is ig ib nmV q' iq' i S' vs' G → brand_Short.L0 (.int .i64 K) (.fptr [nv, gv]) (.fn 57 [] []) (.map iw) (.map is) (.map ig) (.map ib) nmV (tlV q' 2) m' KSo = some r) →
    (bInF (nxN rows K) extL x w j a S = none → r = (fulV, Mem.empty)) →
    brand_Short.L2 (.int .i64 K) (.fptr [nv, gv]) (.fn 57 [] []) (.map iw) (.map is) (.map ig) (.map ib) nmV q (.fptr (cN x)) (.int .i64 k) (.int .i64 a) m KSi = some r := by
  intro j
  induction j with
  | zero =>
    intro a iq m q S vs h1 P hS1 hS2 hS h5 hk hf
    have e : a = k := by omega
    subst e
    have hi := (List.getElem?_eq_some_iff.1 hS1).1
    have hk := hk S rfl m q iq vs P
    rw [brand_Short.L2_eq]
    simp [KSi, P.q.cut (by omega), hk]
    done
  | succ j ih =>
    intro a iq m q S vs h1 P hS1 hS2 hS h5 hk hf
    have ha : a < k := by omega
    have hi := (List.getElem?_eq_some_iff.1 hS1).1
    obtain ⟨x1, x2⟩ := x
    have hx1 : x1 < rows.length := hx.lt
    have px := hx.p
    simp only at px
    have k3 := v.k3
    have b := v.rl x1 hx1
    obtain ⟨c1, c2⟩ := nx_lt v hx1 ha
    have iw1 := hn.row x1 hx1
    have hwi : IntKind.wrap .i64 ((a : Int) + 1) = (a : Int) + 1 := wrap_id (by omega) (by have := v.k3; omega)
    have ha3 : a < 3 := by have := v.k3; omega
    have d1 := iw1.idx (i := a) (by omega) .i64
    have e1 := ints_head (l := cth rows x1) (i := a) (by omega)
    rw [c2] at e1
    have hlt := fun m => letter_spec ha3 m
    have KN := keysN rows.length k K
    obtain ⟨vl, vv⟩ := P.v
    obtain ⟨ex, hv⟩ := vv i _ hS1
    simp only at hv
    have hps := fun m => parts_spec (ex := ex) (x := ltr a) (K := K) (by have := px.le k3 K3; omega) px.pos (px.wl K3) (by simp [ltr]) m
    have py := addP_pset px ha k3 (k := k)
    have hnm := fun m => name_spec (ex := false) (l := addP K x2 (ltr a)) (by have := py.le k3 K3; omega) (py.wl K3) m
    have is_lt : is < m.nx := P.s.2
    have ls := fun y (hy : m.nx ≤ y) => (P.s.frame (m' := ⟨m.h, y⟩) rfl hy).look KN hS.all (by omega) (c := (x1, x2)) hx .nils false
    rw [lkP_at hS.nd hS1 hv] at ls
    simp only [encN, cN, nxN, id] at ls
    have ls := ls (m.nx + 8) (by omega)
    have yok : OkP rows.length k K (nxN rows K (x1, x2) a) := ⟨c1, py, addP_srt K x2 (ltr a)⟩
    have P1 := P.fr (h' := upd m.h (m.nx + 8 + 13) none) (nx' := m.nx + 8 + 15) (fun y hy => updNe (by omega)) (by omega)
    have lw := P1.w.look KN hS.all hS.len yok (.str []) true
    simp only [encN, cN, nxN] at lw
    rw [bInF] at hk hf
    by_cases hc : nxN rows K (x1, x2) a ∈ S.1
    · rw [if_pos hc] at hk hf
      obtain ⟨i', hi'⟩ := List.getElem?_of_mem hc
      have hi2 : i' < S.2.length := by rw [← hS.len]; exact (List.getElem?_eq_some_iff.1 hi').1
      have q1 := lkP_at hS.nd hi' (List.getElem?_eq_getElem hi2)
      simp only [nxN] at q1
      rw [q1] at lw
      have st := ih (a + 1) iq ⟨upd m.h (m.nx + 8 + 13) none, m.nx + 8 + 15⟩ q S vs (by omega) P1 hS1 hS2 hS h5 hk hf
      simp only [Int.natCast_add, Int.cast_ofNat_Int, cN, KSi] at st
      rw [brand_Short.L2_eq]
      simp [cN, ha, hn.idx hx1, hn.head hx1, d1, e1, hlt, hps, hnm, hwi, ls, lw, (sF_is ex x2).closed, (sF_is false (addP K x2 (ltr a))).closed, KSi, st]
      done
    rw [if_neg hc] at hk hf
    have q1 := lkP_none (vs := S.2) hc
    simp only [nxN] at q1
    rw [q1] at lw
    have hlen := hS.len
    have lx := (P1.w.frame (m' := ⟨upd m.h (m.nx + 8 + 13) none, m.nx + 8 + 15 + 15⟩) rfl (by show m.nx + 8 + 15 ≤ m.nx + 8 + 15 + 15; omega)).look KN hS.all hS.len (c := (x1, x2)) hx (.str []) false
    rw [lkP_at hS.nd hS1 hS2] at lx
    simp only [encN, cN] at lx
    have hwl : w.length ≤ 5001 := by
      have h1 := hS.wl w (List.mem_of_getElem? hS2)
      omega
    have hll : w.length + (ltr a).length ≤ 4611686018427387904 := by simp [ltr]; omega
    have o1' := P.o1
    have o2' := P.o2
    have o3' := P.o3
    have o4' := P.o4
    have hiq : iq < m.nx := P.q.lt
    obtain ⟨b1, st, b2, E1, E2, E3⟩ := P1.w.ent KN hS.all hS.len yok hc [] (extL w a)
    obtain ⟨b3, F1, F2⟩ := P1.s.putU KN hS.all (by omega) yok hc (sF false (nxN rows K (x1, x2) a).2)
    have E1 := fun y => E1 (upd m.h (m.nx + 8 + 13) none) y rfl
    have E2 := fun y => E2 (upd (upd m.h (m.nx + 8 + 13) none) iw b1) y (by simp)
    have F1 := fun y => F1 (upd (upd m.h (m.nx + 8 + 13) none) iw b2) y (updNe (by omega))
    have hq2 : Gl ⟨upd (upd (upd m.h (m.nx + 8 + 13) none) iw b2) is b3, m.nx + 8 + 15 + 15⟩ q iq 2 (S.1.length - i) (flN (S.1.drop i)) := P1.q.frame (by
      show upd (upd (upd m.h (m.nx + 8 + 13) none) iw b2) is b3 iq = _
      rw [updNe (by omega), updNe (by omega)]) (by show m.nx + 8 + 15 ≤ m.nx + 8 + 15 + 15; omega)
    obtain ⟨q', m3, iq', g1, g2, g3, g4, g5⟩ := hq2.app (by' := 24) (ys := cN (nxN rows K (x1, x2) a)) rfl (by simp; omega)
    simp only at g3 g4 g5
    have w3 : Mp m3 iw ((S.1 ++ [nxN rows K (x1, x2) a]).map encN) ((S.2 ++ [extL w a]).map .str) := E3 m3.h m3.nx (by
      rw [g5 iw (by omega) (by omega), updNe (by omega)]; simp) (by omega)
    have s3 : Mp m3 is ((S.1 ++ [nxN rows K (x1, x2) a]).map encN) ((vs ++ [sF false (nxN rows K (x1, x2) a).2]).map id) := F2 m3.h m3.nx (by
      rw [g5 is (by omega) (by omega)]; simp) (by omega)
    have ml := w3.mlen
    have PA := P1.add (h' := m3.h) (nx' := m3.nx) (by omega) ⟨false, rfl⟩ (by omega) w3 s3 g2 (by omega) (fun z z1 z2 z3 z4 => by
      rw [g5 z (by omega) z4, updNe z3, updNe z2])
    simp only [encN, cN, nxN, extL, id] at E1 E2 F1 g1
    by_cases q5 : 5000 ≤ S.1.length
    · rw [if_pos q5] at hf
      have hf := hf rfl
      subst hf
      rw [brand_Short.L2_eq]
      simp [cN, lw, ha, hn.idx hx1, hn.head hx1, d1, e1, hlt, hps, hnm, hwi, ls, (sF_is ex x2).closed, (sF_is false (addP K x2 (ltr a))).closed, KSi, lx, hll, E1, E2, F1, P.q.one, g1, g2.one, ml, show (5000 : Int) < (S.1.length : Int) + 1 by omega, fulV]
      done
    · rw [if_neg q5] at hk hf
      have st := ih (a + 1) iq' m3 q' _ _ (by omega) PA (by simp only []; rw [List.getElem?_append_left (by omega)]; exact hS1) (by simp only []; rw [List.getElem?_append_left (by omega)]; exact hS2) (bok_add hS yok hc (by
        have := hS.wl w (List.mem_of_getElem? hS2)
        simp [extL, ltr]; omega)) (by simp; omega) hk hf
      simp only [Int.natCast_add, Int.cast_ofNat_Int, cN, KSi] at st
      rw [brand_Short.L2_eq]
      simp [cN, lw, ha, hn.idx hx1, hn.head hx1, d1, e1, hlt, hps, hnm, hwi, ls, (sF_is ex x2).closed, (sF_is false (addP K x2 (ltr a))).closed, KSi, lx, hll, E1, E2, F1, P.q.one, g1, g2.one, ml, show ¬ (5000 : Int) < (S.1.length : Int) + 1 by omega, st]
      done
noncomputable def KS4 : List Item := [.code brand_Short.r46, .code brand_Short.i11, .code brand_Short.r48, .code .ret]
abbrev kN (x : PT) : List UInt8 := nameL x.2
abbrev sdG (good : List Bool) (x : PT) : Bool := bnth good x.1
theorem Ps.good {h h' : Nat → Option AObj} {nx nx' iw is ig ib iq i : Nat} {nv q nv' : AV} {S : ST} {vs : List AV} {G G' : GT} (P : Ps h nx iw is ig ib nv q iq i S vs G) (l : nx ≤ nx') (e : ∀ y, y < nx → y ≠ ig → y ≠ ib → objId nv ≠ some y → h' y = h y)
    (g : Mf AV.str (fun _ => True) AV.str h' ig G'.1) (b : Mf AV.str (fun _ => True) AV.str h' ib G'.2.1) (n : Nl h' nv' (G'.2.2.map .str) (ib + 1) nx') (d : objId nv' ≠ some iq) : Ps h' nx' iw is ig ib nv' q iq i S vs G' := by
  have h1 : iq < nx := P.q.lt
  have o1 := P.o1
  have o2 := P.o2
  have o3 := P.o3
  have o4 := P.o4
  have nn : ∀ y, y ≤ ib → objId nv ≠ some y := fun y hy c => by have := P.n.oid c; omega
  exact ⟨P.w.frame (e iw (by omega) (by omega) (by omega) (nn _ (by omega))) l, P.s.frame (e is (by omega) (by omega) (by omega) (nn _ (by omega))) l, P.v, g, b, n, P.q.frame (e iq h1 (by omega) (by omega) P.d) l, o1, o2, o3, o4, d⟩
theorem sho_out {nv gv : AV} {ps : List AV} {rows : List (List Int)} {good : List Bool} {k : Nat} (hn : IsRows nv ps rows) (hg : IsB gv good) (v : VB rows good k) {K : Nat} (K3 : K ≤ 3) {iw is ig ib : Nat} {r : Res} :
    ∀ (f i iq : Nat) (m : Mem) (q nmV : AV) (S : ST) (vs : List AV) (G : GT), Ps m.h m.nx iw is ig ib nmV q iq i S vs G → BOk (OkP rows.length k K) List.length S → S.1.length ≤ 5000 → i ≤ S.1.length → 5000 < f + i → G.2.2.length ≤ i →
    (∀ S', bfsF (nxN rows K) extL k f i S = some S' → ∀ m' q' iq' vs' nmV', Ps m'.h m'.nx iw is ig ib nmV' q' iq' S'.1.length S' vs' (((S'.1.zip S'.2).drop i).foldl (fcS kN (sdG good)) G) → brand_Short.L4 (.map ig) (.map ib) .nils nmV' (.int .i64 (((S'.1.zip S'.2).drop i).foldl (fcS kN (sdG good)) G).2.2.length) (.int .i64 0) m' KS4 = some r) →
    (bfsF (nxN rows K) extL k f i S = none → r = (fulV, Mem.empty)) →
    brand_Short.L0 (.int .i64 K) (.fptr [nv, gv]) (.fn 57 [] []) (.map iw) (.map is) (.map ig) (.map ib) nmV q m KSo = some r := by
  intro f
  induction f with
  | zero => intro i iq m q nmV S vs G P hS h5 hi hf; omega
  | succ f ih =>
    intro i iq m q nmV S vs G P hS h5 hi hfu hG hk hf
    by_cases c : i < S.1.length
    · have hx := List.getElem?_eq_getElem c
      have hlen := hS.len
      have c2 : i < S.2.length := by omega
      have hw := List.getElem?_eq_getElem c2
      generalize S.1[i] = x at hx
      generalize S.2[i] = w at hw
      have ok := hS.all x (List.mem_of_getElem? hx)
      obtain ⟨x1, x2⟩ := x
      have hx1 : x1 < rows.length := ok.lt
      have gl := v.gl
      have b1 := bls_head (bs := good) (i := x1) (by omega)
      have hq0 := P.q.idx (i := 0) (by omega) .i64
      have hld := P.q.load (i := 0) (by omega)
      have fl := flN_at (l := S.1.drop i) (i := 0) (x := (x1, x2)) (by rw [List.getElem?_drop]; exact hx)
      rw [fl] at hld
      have i0 := hn.idx (i := 0) v.n1 .i64
      have j0 := hn.head (i := 0) v.n1
      have iw0 := hn.row 0 v.n1
      have r0 := v.rl 0 v.n1
      simp only [Int.ofNat_zero, Int.cast_ofNat_Int, List.drop_zero] at i0 j0 hq0
      rw [bfsF, hx, hw] at hk hf
      simp only [Option.bind_eq_some_iff] at hk
      have hf : (bInF (nxN rows K) extL (x1, x2) w k 0 S).bind (bfsF (nxN rows K) extL k f (i + 1)) = none → r = (fulV, Mem.empty) := hf
      have ql := P.q.len
      have q0 : 0 < S.1.length - i := by omega
      have hG2 : (fcS kN (sdG good) G ((x1, x2), w)).2.2.length ≤ i + 1 := by
        unfold fcS
        split <;> split <;> first | omega | (simp; omega)
      have fin : ∀ (m2 : Mem) (nm2 : AV), Ps m2.h m2.nx iw is ig ib nm2 q iq i S vs (fcS kN (sdG good) G ((x1, x2), w)) → brand_Short.L2 (.int .i64 K) (.fptr [nv, gv]) (.fn 57 [] []) (.map iw) (.map is) (.map ig) (.map ib) nm2 q (.fptr (cN (x1, x2))) (.int .i64 k) (.int .i64 0) m2 KSi = some r := by
        intro m2 nm2 P2
        have st := sho_in (gv := gv) hn v K3 (r := r) ok k 0 iq m2 q S vs (by omega) P2 hx hw hS h5 (fun S' hS' m' q' iq' vs' P' => by
          obtain ⟨p', q'', e1, e2⟩ := bInF_pre hS'
          have hb := bInF_bIn hS'
          have hS2 : BOk (OkP rows.length k K) List.length S' := by
            rw [hb]
            exact bIn_ok (nxN rows K) extL (k := k) (fun y a hy ha => ⟨(nx_lt v hy.lt ha).1, addP_pset hy.p ha v.k3, addP_srt K y.2 (ltr a)⟩) (fun w a => by simp [extL, ltr]) (x1, x2) w ok k 0 S (by omega) hS (hS.wl w (List.mem_of_getElem? hw))
          have hle := bInF_le hS' h5
          have hlen' : S.1.length ≤ S'.1.length := by rw [e1]; simp
          have hlen2 := hS2.len
          have hxi : S'.1[i]? = some (x1, x2) := by rw [e1, List.getElem?_append_left c]; exact hx
          have hwi : S'.2[i]? = some w := by rw [e2, List.getElem?_append_left c2]; exact hw
          have Pt : Ps m'.h m'.nx iw is ig ib nm2 (tlV q' 2) iq' (i + 1) S' vs' (fcS kN (sdG good) G ((x1, x2), w)) := by
            have := P'.q.tail (by omega)
            rw [flN_drop1] at this
            exact ⟨P'.w, P'.s, P'.v, P'.g, P'.b, P'.n, this, P'.o1, P'.o2, P'.o3, P'.o4, P'.d⟩
          refine ih (i + 1) iq' m' (tlV q' 2) nm2 S' vs' _ Pt hS2 hle (by omega) (by omega) hG2 (fun S'' hS'' m'' q3 iq3 vs3 nm3 P3 => ?_) (fun hnone => hf (by rw [hS']; exact hnone))
          have hz : (S''.1.zip S''.2).drop i = ((x1, x2), w) :: (S''.1.zip S''.2).drop (i + 1) := by
            obtain ⟨p3, q4, e3, e4⟩ := bfsF_pre hS''
            have z1 : S''.1[i]? = some (x1, x2) := by rw [e3, List.getElem?_append_left (by omega)]; exact hxi
            have z2 : S''.2[i]? = some w := by rw [e4, List.getElem?_append_left (by omega)]; exact hwi
            have z3 : (S''.1.zip S''.2)[i]? = some ((x1, x2), w) := by rw [List.getElem?_zip_eq_some]; exact ⟨z1, z2⟩
            have zl := (List.getElem?_eq_some_iff.1 z3).1
            rw [List.drop_eq_getElem_cons zl, (List.getElem?_eq_some_iff.1 z3).2]
          have hk := hk S'' ⟨S', hS', hS''⟩ m'' q3 iq3 vs3 nm3
          rw [hz] at hk
          exact hk P3) (fun hnone => hf (by rw [hnone]; rfl))
        simpa using st
      simp only [KSi, cN] at fin
      have P1 := P.fr (h' := upd m.h m.nx none) (nx' := m.nx + 1) (fun y hy => updNe (by omega)) (by omega)
      have KN := keysN rows.length k K
      have lx := (P1.w.frame (m' := ⟨upd m.h m.nx none, m.nx + 1 + 7⟩) rfl (by show m.nx + 1 ≤ m.nx + 1 + 7; omega)).look KN hS.all hS.len (c := (x1, x2)) ok (.str []) false
      rw [lkP_at hS.nd hx hw] at lx
      simp only [encN, cN] at lx
      have o1' := P.o1
      have o2' := P.o2
      have o3' := P.o3
      have o4' := P.o4
      have hiq : iq < m.nx := P.q.lt
      by_cases hsd : bnth good x1 = true
      · have lg := P1.g.look (keysW _) (c := nameL x2) trivial (.str []) true (m.nx + 1)
        have hfc : fcS kN (sdG good) G ((x1, x2), w) = if G.1 (nameL x2) = none then (putF G.1 (nameL x2) w, G.2.1, G.2.2 ++ [nameL x2]) else G := by
          unfold fcS; rw [if_pos hsd]
        rw [hfc] at fin
        by_cases hno : G.1 (nameL x2) = none
        · rw [if_pos hno] at fin
          rw [hno] at lg
          simp only [lkZ, cond_true] at lg
          obtain ⟨o, U1, U2⟩ := P1.g.put (keysW _) (c := nameL x2) trivial w
          have n2 : Nl (upd (upd m.h m.nx none) ig o) nmV (G.2.2.map .str) (ib + 1) (m.nx + 1 + 7) := P1.n.fr (fun y h1 h2 _ => updNe (by omega)) (by omega)
          obtain ⟨nm', h', nx', t1, t2, t3, t4, t5, t6, t7⟩ := n2.app (nx := m.nx + 1 + 7) (by' := 16) (Nat.le_refl _) (by omega) (by simp; omega) (.str (nameL x2))
          have hg' : h' ig = o := by
            rw [t6 ig (fun e => by
              rcases t5 ig e with e | e
              · have := n2.oid e; omega
              · omega)]; simp
          have hb' : h' ib = upd m.h m.nx none ib := by
            rw [t6 ib (fun e => by
              rcases t5 ib e with e | e
              · have := n2.oid e; omega
              · omega), updNe (by omega)]
          have PG : Ps h' nx' iw is ig ib nm' q iq i S vs _ := P1.good (by omega) (fun y y1 y2 y3 y4 => by
            rw [t6 y (fun e => by
              rcases t5 y e with e | e
              · exact y4 e
              · omega), updNe y2]) (G' := (putF G.1 (nameL x2) w, G.2.1, G.2.2 ++ [nameL x2])) (U2 h' hg') (P1.b.fr hb') (by simpa using t2) (fun e => by
            rcases t5 iq e with e | e
            · exact P.d e
            · omega)
          have st := fin ⟨h', nx'⟩ nm' PG
          rw [brand_Short.L0_eq]
          simp [ql, q0, hq0, hld, cN, hg.idx (i := x1) (by omega), b1, hsd, lg, lx, U1, P.n.one, t1, t2.one, i0, j0, iw0.len, r0, st]
          done
        · rw [if_neg hno] at fin
          obtain ⟨u, hu⟩ := Option.ne_none_iff_exists'.1 hno
          rw [hu] at lg
          simp only [lkZ, cond_true] at lg
          have st := fin ⟨upd m.h m.nx none, m.nx + 1⟩ nmV P1
          rw [brand_Short.L0_eq]
          simp [ql, q0, hq0, hld, cN, hg.idx (i := x1) (by omega), b1, hsd, lg, i0, j0, iw0.len, r0, st]
          done
      · have lg := P1.b.look (keysW _) (c := nameL x2) trivial (.str []) true (m.nx + 1)
        have hfc : fcS kN (sdG good) G ((x1, x2), w) = if G.2.1 (nameL x2) = none then (G.1, putF G.2.1 (nameL x2) w, G.2.2 ++ [nameL x2]) else G := by
          unfold fcS; rw [if_neg hsd]
        rw [hfc] at fin
        by_cases hno : G.2.1 (nameL x2) = none
        · rw [if_pos hno] at fin
          rw [hno] at lg
          simp only [lkZ, cond_true] at lg
          obtain ⟨o, U1, U2⟩ := P1.b.put (keysW _) (c := nameL x2) trivial w
          have n2 : Nl (upd (upd m.h m.nx none) ib o) nmV (G.2.2.map .str) (ib + 1) (m.nx + 1 + 7) := P1.n.fr (fun y h1 h2 _ => updNe (by omega)) (by omega)
          obtain ⟨nm', h', nx', t1, t2, t3, t4, t5, t6, t7⟩ := n2.app (nx := m.nx + 1 + 7) (by' := 16) (Nat.le_refl _) (by omega) (by simp; omega) (.str (nameL x2))
          have hb' : h' ib = o := by
            rw [t6 ib (fun e => by
              rcases t5 ib e with e | e
              · have := n2.oid e; omega
              · omega)]; simp
          have hg' : h' ig = upd m.h m.nx none ig := by
            rw [t6 ig (fun e => by
              rcases t5 ig e with e | e
              · have := n2.oid e; omega
              · omega), updNe (by omega)]
          have PG : Ps h' nx' iw is ig ib nm' q iq i S vs _ := P1.good (by omega) (fun y y1 y2 y3 y4 => by
            rw [t6 y (fun e => by
              rcases t5 y e with e | e
              · exact y4 e
              · omega), updNe y3]) (G' := (G.1, putF G.2.1 (nameL x2) w, G.2.2 ++ [nameL x2])) (P1.g.fr hg') (U2 h' hb') (by simpa using t2) (fun e => by
            rcases t5 iq e with e | e
            · exact P.d e
            · omega)
          have st := fin ⟨h', nx'⟩ nm' PG
          rw [brand_Short.L0_eq]
          simp [ql, q0, hq0, hld, cN, hg.idx (i := x1) (by omega), b1, hsd, lg, lx, U1, P.n.one, t1, t2.one, i0, j0, iw0.len, r0, st]
          done
        · rw [if_neg hno] at fin
          obtain ⟨u, hu⟩ := Option.ne_none_iff_exists'.1 hno
          rw [hu] at lg
          simp only [lkZ, cond_true] at lg
          have st := fin ⟨upd m.h m.nx none, m.nx + 1⟩ nmV P1
          rw [brand_Short.L0_eq]
          simp [ql, q0, hq0, hld, cN, hg.idx (i := x1) (by omega), b1, hsd, lg, i0, j0, iw0.len, r0, st]
          done
    · have e : i = S.1.length := by omega
      subst e
      have hx : S.1[S.1.length]? = none := List.getElem?_eq_none (by omega)
      rw [bfsF, hx] at hk
      have hz : (S.1.zip S.2).drop S.1.length = [] := List.drop_eq_nil_of_le (by simp [List.length_zip]; omega)
      have hk := hk S rfl m q iq vs nmV (by rw [hz]; exact P)
      rw [hz] at hk
      have nl := P.n.len
      simp only [List.length_map] at nl
      simp only [List.foldl_nil, KS4] at hk
      have ql := P.q.len
      rw [Nat.sub_self] at ql
      rw [brand_Short.L0_eq]
      simp [ql, KSo, nl, hk]
      done
end Go.Proofs.Ythnpflkpjimkfaa

/-
  THE PROGRAM'S CHOICE AMONG PAIRS OF WORDS; WHAT SHORT RETURNS. Conditions: none.
-/
namespace Go.Proofs.Ythnpflkpjimkfaa
open Go.AM
open Go.Proofs.Try (prog)
set_option linter.all false
set_option maxRecDepth 100000
set_option maxHeartbeats 8000000
def selV : Option WW → AV
  | none => .tup [.str [], .str [], .int .i64 5]
  | some p => .tup [.str p.1, .str p.2, .int .i64 0]
def BV (h : Nat → Option AObj) (nx : Nat) (bv : AV) : Option WW → Prop
  | none => bv = .nils
  | some p => ∃ B, bv = .sl B 1 0 2 2 ∧ h B = some (.cells [.str p.1, .str p.2]) ∧ B < nx
theorem BV.fr {h h' : Nat → Option AObj} {nx nx' : Nat} {bv : AV} {o : Option WW} (b : BV h nx bv o) (e : ∀ y, y < nx → h' y = h y) (l : nx ≤ nx') : BV h' nx' bv o := by
  match o, b with
  | none, b => exact b
  | some p, ⟨B, h1, h2, h3⟩ => exact ⟨B, h1, by rw [e B h3, h2], by omega⟩
def okWW (o : Option WW) : Prop := ∀ p, o = some p → p.1.length ≤ 1000000 ∧ p.2.length ≤ 1000000
theorem sel_loop {ig ib : Nat} {Fg Fb : WFn} {names : WL} {nmV : AV} (hN : names.length ≤ 100000) (hg : ∀ p w, Fg p = some w → w.length ≤ 1000000) (hb : ∀ p w, Fb p = some w → w.length ≤ 1000000) : ∀ (c j : Nat) (m : Mem) (bv : AV) (o : Option WW), j + c = names.length →
    Mf AV.str (fun _ => True) AV.str m.h ig Fg → Mf AV.str (fun _ => True) AV.str m.h ib Fb → Nl m.h nmV (names.map .str) 0 m.nx → ig < m.nx → ib < m.nx → BV m.h m.nx bv o → okWW o →
    brand_Short.L4 (.map ig) (.map ib) bv nmV (.int .i64 names.length) (.int .i64 j) m KS4 = some (selV ((cand Fg Fb (names.drop j)).foldl selS o), Mem.empty) := by
  intro c
  induction c with
  | zero =>
    intro j m bv o h1 Mg Mb N l1 l2 B ho
    have e : j = names.length := by omega
    subst e
    rw [List.drop_length, brand_Short.L4_eq]
    match o, B with
    | none, B =>
      subst B
      simp [KS4, cand, selV]
      done
    | some p, ⟨b, b1, b2, b3⟩ =>
      subst b1
      simp [KS4, cand, selV, b2]
      done
  | succ c ih =>
    intro j m bv o h1 Mg Mb N l1 l2 B ho
    have hj : j < names.length := by omega
    have hwj : IntKind.wrap .i64 ((j : Int) + 1) = (j : Int) + 1 := wrap_id (by omega) (by omega)
    obtain ⟨R, n1, n2, n3, n4⟩ := N.sl (N.nn (by
      intro e
      have : names = [] := by simpa using e
      subst this; simp at hj))
    simp only [List.length_map] at n1
    have hd : (names.map AV.str)[j]? = some (.str names[j]) := by simp [hj]
    rw [show names.drop j = names[j] :: names.drop (j + 1) from List.drop_eq_getElem_cons hj]
    obtain ⟨p, hp⟩ : ∃ p, names[j] = p := ⟨_, rfl⟩
    rw [hp]
    have lg := Mg.look (keysW _) (c := p) trivial (.str []) true m.nx
    have lb := Mb.look (keysW _) (c := p) trivial (.str []) true m.nx
    subst n1
    have sk : ∀ m', (∀ y, y < m.nx → m'.h y = m.h y) → m.nx ≤ m'.nx → ∀ bv' o', BV m'.h m'.nx bv' o' → okWW o' → brand_Short.L4 (.map ig) (.map ib) bv' (.sl R 1 0 names.length names.length) (.int .i64 names.length) (.int .i64 ((j : Int) + 1)) m' KS4 = some (selV ((cand Fg Fb (names.drop (j + 1))).foldl selS o'), Mem.empty) := by
      intro m' e l bv' o' B' ho'
      have := ih (j + 1) m' bv' o' (by omega) (Mg.fr (e ig l1)) (Mb.fr (e ib l2)) (N.fr (fun y _ h2 _ => e y h2) l) (by omega) (by omega) B' ho'
      simpa using this
    simp only [KS4] at sk
    have skip : cdP Fg Fb p = none → brand_Short.L4 (.map ig) (.map ib) bv (.sl R 1 0 names.length names.length) (.int .i64 names.length) (.int .i64 ((j : Int) + 1)) m [.code brand_Short.r46, .code brand_Short.i11, .code brand_Short.r48, .code .ret] = some (selV ((cand Fg Fb (p :: names.drop (j + 1))).foldl selS o), Mem.empty) := by
      intro hc
      rw [show cand Fg Fb (p :: names.drop (j + 1)) = cand Fg Fb (names.drop (j + 1)) by rw [cand, List.filterMap_cons, hc]; rfl]
      exact sk m (fun _ _ => rfl) (Nat.le_refl _) bv o B ho
    have bvo : bv.one = true := by
      match o, B with
      | none, B => subst B; rfl
      | some p, ⟨b, b1, b2, b3⟩ => subst b1; rfl
    cases eg : Fg p with
    | none =>
      have skip := skip (by unfold cdP; rw [eg])
      rw [eg] at lg
      simp only [lkZ, cond_true] at lg
      cases eb : Fb p with
      | none =>
        rw [eb] at lb
        simp only [lkZ, cond_true] at lb
        rw [brand_Short.L4_eq]
        simp [KS4, hj, n2, hp, lg, lb, hwj, skip]
        done
      | some v =>
        rw [eb] at lb
        simp only [lkZ, cond_true] at lb
        rw [brand_Short.L4_eq]
        simp [KS4, hj, n2, hp, lg, lb, hwj, skip]
        done
    | some u =>
      rw [eg] at lg
      simp only [lkZ, cond_true] at lg
      cases eb : Fb p with
      | none =>
        have skip := skip (by unfold cdP; rw [eg, eb])
        rw [eb] at lb
        simp only [lkZ, cond_true] at lb
        rw [brand_Short.L4_eq]
        simp [KS4, hj, n2, hp, lg, lb, hwj, skip]
        done
      | some v =>
        rw [eb] at lb
        simp only [lkZ, cond_true] at lb
        have hc : cdP Fg Fb p = some (u, v) := by unfold cdP; rw [eg, eb]
        rw [show cand Fg Fb (p :: names.drop (j + 1)) = (u, v) :: cand Fg Fb (names.drop (j + 1)) by rw [cand, List.filterMap_cons, hc]; rfl, List.foldl_cons]
        have hu := hg _ _ eg
        have hv := hb _ _ eb
        match o, B with
        | none, B =>
          subst B
          have st := sk ⟨upd m.h m.nx (some (.cells [.str u, .str v])), m.nx + 1⟩ (fun y hy => updNe (by omega)) (by show m.nx ≤ m.nx + 1; omega) (.sl m.nx 1 0 2 2) (some (u, v)) ⟨m.nx, rfl, by simp, by show m.nx < m.nx + 1; omega⟩ (fun q hq => by cases hq; exact ⟨hu, hv⟩)
          rw [brand_Short.L4_eq]
          simp [KS4, hj, n2, hp, lg, lb, hwj, selS, st]
          done
        | some q, ⟨b, b1, b2, b3⟩ =>
          subst b1
          obtain ⟨q1, q2⟩ := q
          obtain ⟨hq1, hq2⟩ := ho _ rfl
          have lo1 := fun m => long_spec (ex := false) (u := u) (w := v) m
          have lo2 := fun m => long_spec (ex := false) (u := q1) (w := q2) m
          obtain ⟨z1, y1, y2⟩ := compare_spec u q1 hu hq1 Mem.empty
          obtain ⟨z2, y3, y4⟩ := compare_spec v q2 hv hq2 Mem.empty
          have hb2 : upd m.h m.nx (some (.cells [.str u, .str v])) b = some (.cells [.str q1, .str q2]) := by rw [updNe (by omega)]; exact b2
          have hbn : (b == m.nx) = false := beq_eq_false_iff_ne.2 (by omega)
          have new := fun (d : Nat) => sk ⟨upd m.h m.nx (some (.cells [.str u, .str v])), m.nx + 1 + d⟩ (fun y hy => updNe (by omega)) (by show m.nx ≤ m.nx + 1 + d; omega) (.sl m.nx 1 0 2 2) (some (u, v)) ⟨m.nx, rfl, by simp, by show m.nx < m.nx + 1 + d; omega⟩ (fun q hq => by cases hq; exact ⟨hu, hv⟩)
          have old := sk ⟨upd m.h m.nx (some (.cells [.str u, .str v])), m.nx + 1 + 37⟩ (fun y hy => updNe (by omega)) (by show m.nx ≤ m.nx + 1 + 37; omega) (.sl b 1 0 2 2) (some (q1, q2)) ⟨b, rfl, hb2, by show b < m.nx + 1 + 37; omega⟩ ho
          have new0 := new 0
          have new37 := new 37
          have hsel : selS (some (q1, q2)) (u, v) = if btr (u, v) (q1, q2) = true then some (u, v) else some (q1, q2) := rfl
          rw [hsel]
          unfold btr mxl
          simp only []
          by_cases c1 : max u.length v.length < max q1.length q2.length
          · simp only [c1, decide_true, Bool.true_or, if_true]
            rw [brand_Short.L4_eq]
            simp [KS4, hj, n2, hp, lg, lb, hwj, b2, hb2, hbn, lo1, lo2, c1, AV.flat, AV.flat1, new0]
            done
          · have c1' : decide (max u.length v.length < max q1.length q2.length) = false := decide_eq_false c1
            simp only [c1', Bool.false_or]
            by_cases c2 : max u.length v.length = max q1.length q2.length
            · simp only [c2, decide_true, Bool.true_and]
              have c1 : ¬ max q1.length q2.length < max q1.length q2.length := by omega
              by_cases c3 : lessW u q1 = true
              · rw [c3] at y2
                have y2 : z1 < 0 := by simpa using y2
                simp only [c3, Bool.true_or, if_true]
                rw [brand_Short.L4_eq]
                simp [KS4, hj, n2, hp, lg, lb, hwj, b2, hb2, hbn, lo1, lo2, c2, y1, y2, AV.flat, AV.flat1, new37]
                done
              · have c3 : lessW u q1 = false := by simpa using c3
                rw [c3] at y2
                have y2 : ¬ z1 < 0 := by simpa using y2
                by_cases c4 : u = q1
                · subst c4
                  by_cases c5 : lessW v q2 = true
                  · rw [c5] at y4
                    have y4 : z2 < 0 := by simpa using y4
                    simp only [c3, c5, decide_true, Bool.and_self, Bool.or_true, if_true]
                    rw [brand_Short.L4_eq]
                    simp [KS4, hj, n2, hp, lg, lb, hwj, b2, hb2, hbn, lo1, lo2, c2, y1, y2, y3, y4, AV.flat, AV.flat1, new37]
                    done
                  · have c5 : lessW v q2 = false := by simpa using c5
                    rw [c5] at y4
                    have y4 : ¬ z2 < 0 := by simpa using y4
                    simp only [c3, c5, Bool.and_false, Bool.or_false, Bool.false_eq_true, if_false]
                    rw [brand_Short.L4_eq]
                    simp [KS4, hj, n2, hp, lg, lb, hwj, b2, hb2, hbn, lo1, lo2, c2, y1, y2, y3, y4, AV.flat, AV.flat1, old]
                    done
                · simp only [c3, c4, decide_false, Bool.false_and, Bool.or_false, Bool.false_eq_true, if_false]
                  rw [brand_Short.L4_eq]
                  simp [KS4, hj, n2, hp, lg, lb, hwj, b2, hb2, hbn, lo1, lo2, c2, c4, y1, y2, AV.flat, AV.flat1, old]
                  done
            · simp only [c2, decide_false, Bool.false_and, Bool.false_eq_true, if_false]
              have c2' : ¬ ((max u.length v.length : Nat) : Int) = (max q1.length q2.length : Nat) := by omega
              rw [brand_Short.L4_eq]
              simp [KS4, hj, n2, hp, lg, lb, hwj, b2, hb2, hbn, lo1, lo2, c1, c2', AV.flat, AV.flat1, old]
              done
end Go.Proofs.Ythnpflkpjimkfaa

/-
  WHAT SHORT RETURNS. Conditions: none.
-/
namespace Go.Proofs.Ythnpflkpjimkfaa
open Go.AM
open Go.Proofs.Try (prog)
set_option linter.all false
set_option maxRecDepth 100000
set_option maxHeartbeats 8000000
def sho0 : ST := ([(0, [[]])], [[]])
def shoB (rows : List (List Int)) (k K : Nat) : Option ST := bfsF (nxN rows K) extL k 5002 0 sho0
def shoG (good : List Bool) (S : ST) : GT := fcA kN (sdG good) (S.1.zip S.2)
def shoV (good : List Bool) : Option ST → AV
  | none => fulV
  | some S => selV (sel (cand (shoG good S).1 (shoG good S).2.1 (shoG good S).2.2))
theorem fcS_len {α : Type} {κ : α → List UInt8} {sd : α → Bool} : ∀ (L : List (α × List UInt8)) (G : GT), (L.foldl (fcS κ sd) G).2.2.length ≤ G.2.2.length + L.length
  | [], G => by simp
  | q :: L, G => by
    rw [List.foldl_cons]
    have := fcS_len (κ := κ) (sd := sd) L (fcS κ sd G q)
    have h : (fcS κ sd G q).2.2.length ≤ G.2.2.length + 1 := by
      unfold fcS
      split <;> split <;> first | omega | (simp; done)
    simp; omega
theorem fnd_mem {α : Type} {κ : α → List UInt8} {sd : α → Bool} {b : Bool} {L : List (α × List UInt8)} {p w : List UInt8} (h : fnd κ sd b L p = some w) : ∃ x, (x, w) ∈ L ∧ sd x = b ∧ κ x = p := by
  unfold fnd at h
  rw [Option.map_eq_some_iff] at h
  obtain ⟨q, h1, rfl⟩ := h
  have h2 := List.find?_some h1
  simp only [Bool.and_eq_true, decide_eq_true_eq] at h2
  exact ⟨q.1, List.mem_of_find?_eq_some h1, h2.1, h2.2⟩
theorem shoG_good {good : List Bool} {S : ST} (p : List UInt8) : (shoG good S).1 p = fnd kN (sdG good) true (S.1.zip S.2) p := by
  rw [shoG, fcA, fc_good]; rfl
theorem shoG_bad {good : List Bool} {S : ST} (p : List UInt8) : (shoG good S).2.1 p = fnd kN (sdG good) false (S.1.zip S.2) p := by
  rw [shoG, fcA, fc_bad]; rfl
theorem bfsF_le {α β : Type} [DecidableEq α] {nxt : α → Nat → α} {ext : β → Nat → β} {k : Nat} : ∀ {f i : Nat} {s S : List α × List β}, bfsF nxt ext k f i s = some S → s.1.length ≤ 5000 → S.1.length ≤ 5000
  | 0, _, _, _, h, _ => by cases h
  | f + 1, i, s, S, h, g => by
    rw [bfsF] at h
    split at h
    · rw [Option.bind_eq_some_iff] at h
      obtain ⟨s', h3, h4⟩ := h
      exact bfsF_le h4 (bInF_le h3 g)
    · cases h; exact g
theorem bfsF_bok {α β : Type} [DecidableEq α] {nxt : α → Nat → α} {ext : β → Nat → β} {ok : α → Prop} {ln : β → Nat} {k : Nat} (hnx : ∀ x a, ok x → a < k → ok (nxt x a)) (hex : ∀ w a, ln (ext w a) ≤ ln w + 1) : ∀ {f i : Nat} {s S : List α × List β}, bfsF nxt ext k f i s = some S → BOk ok ln s → BOk ok ln S
  | 0, _, _, _, h, _ => by cases h
  | f + 1, i, s, S, h, g => by
    rw [bfsF] at h
    split at h
    · rename_i x w h1 h2
      rw [Option.bind_eq_some_iff] at h
      obtain ⟨s', h3, h4⟩ := h
      rw [bInF_bIn h3] at h4
      exact bfsF_bok hnx hex h4 (bIn_ok nxt ext hnx hex x w (g.all x (List.mem_of_getElem? h1)) k 0 s (by omega) g (g.wl w (List.mem_of_getElem? h2)))
    · cases h; exact g
theorem pset0 (k K : Nat) : PSet k K [[]] := ⟨by simp, fun w hw => by simp at hw; subst hw; exact ⟨okW_nil k, by simp⟩, by simp⟩
theorem okP0 {n k K : Nat} (h : 0 < n) : OkP n k K (0, [[]]) := ⟨h, pset0 k K, by simp⟩
theorem okR0 {n k K : Nat} (h : 0 < n) : OkR n k K (0, [[]]) := ⟨h, pset0 k K, by simp⟩
theorem bok0 {ok : PT → Prop} (h : ok (0, [[]])) : BOk ok List.length sho0 := ⟨by simp [sho0], fun x hx => by simp [sho0] at hx; subst hx; exact h, rfl, fun w hw => by simp [sho0] at hw; subst hw; simp⟩
theorem nxN_ok {rows : List (List Int)} {good : List Bool} {k : Nat} (v : VB rows good k) (K : Nat) (x : PT) (a : Nat) (h : OkP rows.length k K x) (ha : a < k) : OkP rows.length k K (nxN rows K x a) := ⟨(nx_lt v h.lt ha).1, addP_pset h.p ha v.k3, addP_srt K x.2 (ltr a)⟩
theorem shoB_ok {rows : List (List Int)} {good : List Bool} {k K : Nat} (v : VB rows good k) {S : ST} (h : shoB rows k K = some S) : BOk (OkP rows.length k K) List.length S ∧ S.1.length ≤ 5000 :=
  ⟨bfsF_bok (fun x a hx ha => nxN_ok v K x a hx ha) (fun w a => by simp [extL, ltr]) h (bok0 (okP0 v.n1)), bfsF_le h (by simp [sho0])⟩
theorem upd93 {h : Nat → Option AObj} {nx id : Nat} {v : AV} (e : h id = some (.map 0 [] [])) : updM prog ⟨h, nx⟩ 93 (.map id) (.agg [.int .i64 0, .str (nameL [[]])]) v = some (.tup [], ⟨upd h id (some (.map 1 [.agg [.int .i64 0, .str (nameL [[]])]] [v])), nx⟩) := by
  have k := (keysN 1 0 0).key (0, [[]]) (okP0 (by omega))
  simp only [encN, cN, Int.ofNat_zero, Int.cast_ofNat_Int] at k
  simp only [updM, updP, k, cond_true, e, setK, Option.bind_some, Option.map_some]
  rfl
theorem frz_51_54 (s : St) : frz1 s 3051054 = bif apart2 s 51 54 then some s else none := rfl
theorem short_ok {nv gv : AV} {ps : List AV} {rows : List (List Int)} {good : List Bool} (hn : IsRows nv ps rows) (hg : IsB gv good) (hl : rows.length ≤ 1000) (hgl : good.length ≤ 1000) (hr : ∀ i, i < rows.length → (cth rows i).length ≤ 1000) (c0 : validB rows good = true) {K : Nat} (K3 : K ≤ 3) (m : Mem) :
    denC prog ann 18 [.agg [nv, gv], .int .i64 K] m = some (shoV (goodM rows good (cth rows 0).length) (shoB (rowsM rows good (cth rows 0).length) (cth rows 0).length K), m) := by
  have h1 := fun m => valid_spec hn hg hl hgl hr m
  rw [c0] at h1
  have v := VB.of c0
  have h2 := fun m => smallest_spec hn hg v m
  rw [repL_eq v, resV_eq] at h2
  have vm := VB_M v
  have hm := isRows_M rows good (cth rows 0).length
  have hb := isB_M rows good (cth rows 0).length
  have nm0 := fun m => name_spec (ex := false) (l := [[]]) (by simp) (by simp) m
  simp only [sF, List.length_singleton, List.map_cons, List.map_nil] at nm0
  generalize hR : rowsM rows good (cth rows 0).length = R at *
  generalize hG : goodM rows good (cth rows 0).length = gd at *
  generalize nvM rows good (cth rows 0).length = nvm at *
  generalize gvM rows good (cth rows 0).length = gvm at *
  generalize psM rows good (cth rows 0).length = psm at *
  generalize (cth rows 0).length = k at *
  have ok0 := okP0 (n := R.length) (k := k) (K := K) vm.n1
  have P0 : ∀ h : Nat → Option AObj, h 3 = some (.map 1 [.agg [.int .i64 0, .str (nameL [[]])]] [.str []]) → h 7 = some (.map 1 [.agg [.int .i64 0, .str (nameL [[]])]] [.fsl true 1 [.str []]]) → h 14 = some (.map 0 [] []) → h 15 = some (.map 0 [] []) → h 16 = some (.cells [.int .i64 0, .str (nameL [[]])]) →
      Ps h 17 3 7 14 15 .nils (.sl 16 2 0 1 2) 16 0 sho0 [.fsl true 1 [.str []]] G0 := by
    intro h e1 e2 e3 e4 e5
    refine ⟨⟨⟨1, e1⟩, by show 3 < 17; omega⟩, ⟨⟨1, e2⟩, by show 7 < 17; omega⟩, ⟨rfl, fun j x hj => ?_⟩, Mf.new e3, Mf.new e4, .nil, ⟨⟨[], rfl, e5⟩, rfl, by show 16 < 17; omega⟩, by omega, by omega, by omega, by omega, by simp [objId]⟩
    have : j = 0 := by have := (List.getElem?_eq_some_iff.1 hj).1; simp [sho0] at this; omega
    subst this
    simp [sho0] at hj
    subst hj
    exact ⟨true, rfl⟩
  have run : ∀ h : Nat → Option AObj, h 3 = some (.map 1 [.agg [.int .i64 0, .str (nameL [[]])]] [.str []]) → h 7 = some (.map 1 [.agg [.int .i64 0, .str (nameL [[]])]] [.fsl true 1 [.str []]]) → h 14 = some (.map 0 [] []) → h 15 = some (.map 0 [] []) → h 16 = some (.cells [.int .i64 0, .str (nameL [[]])]) →
      brand_Short.L0 (.int .i64 K) (.fptr [nvm, gvm]) (.fn 57 [] []) (.map 3) (.map 7) (.map 14) (.map 15) .nils (.sl 16 2 0 1 2) ⟨h, 17⟩ KSo = some (shoV gd (shoB R k K), Mem.empty) := by
    intro h e1 e2 e3 e4 e5
    have := sho_out (r := (shoV gd (shoB R k K), Mem.empty)) hm hb vm K3 5002 0 16 ⟨h, 17⟩ (.sl 16 2 0 1 2) .nils sho0 _ G0 (P0 h e1 e2 e3 e4 e5) (bok0 ok0) (by simp [sho0]) (by simp) (by omega) (by simp [G0]) (fun S hS m' q' iq' vs' nmV' P => by
      have hS : shoB R k K = some S := hS
      obtain ⟨B1, B2⟩ := shoB_ok vm hS
      rw [hS]
      have e : ((S.1.zip S.2).drop 0).foldl (fcS kN (sdG gd)) G0 = shoG gd S := rfl
      rw [e] at P ⊢
      have hN := fcS_len (κ := kN) (sd := sdG gd) (S.1.zip S.2) G0
      have hN : (shoG gd S).2.2.length ≤ 5000 := by
        have e2 : ((S.1.zip S.2).foldl (fcS kN (sdG gd)) G0) = shoG gd S := rfl
        rw [e2] at hN
        simp [G0, List.length_zip] at hN
        omega
      have wl : ∀ w ∈ S.2, w.length ≤ 1000000 := fun w hw => by have := B1.wl w hw; have := B1.len; omega
      have o1 := P.o1
      have o2 := P.o2
      have o3 := P.o3
      have o4 := P.o4
      have hq : iq' < m'.nx := P.q.lt
      have st := sel_loop (names := (shoG gd S).2.2) (nmV := nmV') (Fg := (shoG gd S).1) (Fb := (shoG gd S).2.1) (by omega) (fun p w hw => by
        rw [shoG_good] at hw
        obtain ⟨x, h1, _⟩ := fnd_mem hw
        exact wl w (List.of_mem_zip h1).2) (fun p w hw => by
        rw [shoG_bad] at hw
        obtain ⟨x, h1, _⟩ := fnd_mem hw
        exact wl w (List.of_mem_zip h1).2) (shoG gd S).2.2.length 0 m' .nils none (by omega) P.g P.b (by
          rcases P.n with ⟨n1, n2⟩ | ⟨R', n1, n2, n3, n4⟩
          · exact .inl ⟨n1, n2⟩
          · exact .inr ⟨R', n1, n2, by omega, n4⟩) (by omega) (by omega) rfl (fun p hp => by cases hp)
      exact st) (fun hnone => by
      have hnone : shoB R k K = none := hnone
      rw [hnone]; rfl)
    exact this
  simp only [KSo] at run
  rw [brand_Short.call_eq _ _ _ (by simp [hn.closed, hg.closed])]
  simp [hn.one, hg.one, hn.closed, hg.closed, hm.one, hb.one, hm.closed, hb.closed, h1, h2, nm0, AV.flat, AV.flat1, upd93, frz_51_54, apart2, objId, frzL, show ¬ (3 : Int) < K by omega]
  rw [run _ (by simp) (by simp) (by simp) (by simp) (by simp)]
  rfl
theorem short_bad {nv gv : AV} {ps : List AV} {rows : List (List Int)} {good : List Bool} (hn : IsRows nv ps rows) (hg : IsB gv good) (hl : rows.length ≤ 1000) (hgl : good.length ≤ 1000) (hr : ∀ i, i < rows.length → (cth rows i).length ≤ 1000) {K : Int} (c0 : validB rows good = false ∨ K < 0 ∨ 3 < K) (m : Mem) :
    denC prog ann 18 [.agg [nv, gv], .int .i64 K] m = some (.tup [.str [], .str [], .int .i64 1], m) := by
  have h1 := fun m => valid_spec hn hg hl hgl hr m
  rw [brand_Short.call_eq _ _ _ (by simp [hn.closed, hg.closed])]
  cases c : validB rows good with
  | false =>
    rw [c] at h1
    simp [hn.one, hg.one, hn.closed, hg.closed, h1]
    done
  | true =>
    rw [c] at h1 c0
    by_cases k0 : K < 0
    · simp [hn.one, hg.one, hn.closed, hg.closed, h1, k0]
      done
    · have k3 : 3 < K := by
        rcases c0 with c0 | c0 | c0
        · cases c0
        · omega
        · exact c0
      simp [hn.one, hg.one, hn.closed, hg.closed, h1, k0, k3]
      done
end Go.Proofs.Ythnpflkpjimkfaa

/-
  THE SPECIFICATION'S SEARCH FOR TWO WORDS WITH THE SAME PARTS. Conditions: none.
-/
namespace Go.Proofs.Ythnpflkpjimkfaa
open Go.AM
open Go.Proofs.Try (prog)
set_option linter.all false
set_option maxRecDepth 100000
set_option maxHeartbeats 8000000
def nxJ (rows : List (List Int)) (K : Nat) (x : PT) (a : Nat) : PT := (nx rows x.1 a, addR K x.2 (ltr a))
def flJ : List PT → List AV
  | [] => []
  | x :: l => cJ x ++ flJ l
@[simp] theorem cJ_len (x : PT) : (cJ x).length = 2 := rfl
@[simp] theorem flJ_len : ∀ l : List PT, (flJ l).length = l.length * 2
  | [] => rfl
  | x :: l => by rw [flJ, List.length_append, flJ_len l, cJ_len, List.length_cons]; omega
theorem flJ_app : ∀ l r : List PT, flJ (l ++ r) = flJ l ++ flJ r
  | [], r => rfl
  | x :: l, r => by rw [List.cons_append, flJ, flJ_app l r, flJ, List.append_assoc]
theorem flJ_drop : ∀ (i : Nat) (l : List PT), (flJ l).drop (i * 2) = flJ (l.drop i)
  | 0, l => by simp
  | i + 1, [] => by simp [flJ]
  | i + 1, x :: l => by
    rw [flJ, Nat.succ_mul, Nat.add_comm, ← List.drop_drop]
    simp [cJ, flJ_drop i l]
theorem flJ_at {l : List PT} {i : Nat} {x : PT} (h : l[i]? = some x) : ((flJ l).drop (i * 2)).take 2 = cJ x := by
  rw [flJ_drop]
  have hi := (List.getElem?_eq_some_iff.1 h).1
  have e := (List.getElem?_eq_some_iff.1 h).2
  rw [List.drop_eq_getElem_cons hi, e]
  rfl
theorem flJ_0 {l : List PT} {i : Nat} {x : PT} (h : l[i]? = some x) : (flJ l)[i * 2]? = some (.int .i64 ((x.1 : Nat) : Int)) := by
  have := congrArg (fun l => l[0]?) (flJ_at h)
  simpa [cJ, List.getElem?_drop, List.getElem?_take] using this
theorem flJ_1 {l : List PT} {i : Nat} {x : PT} (h : l[i]? = some x) : (flJ l)[i * 2 + 1]? = some (.str (joinL x.2)) := by
  have := congrArg (fun l => l[1]?) (flJ_at h)
  simpa [cJ, List.getElem?_drop, List.getElem?_take] using this
def elF (v : AV) (sz i f : Nat) : AV := match v with
  | .sl id es off n top => .ptr id (off + i * sz + f) top
  | _ => .undef
theorem Gl.fld {m : Mem} {v : AV} {id sz n : Nat} {xs : List AV} (h : Gl m v id sz n xs) (i f : Nat) : fieldA f (elP v sz i) = some (elF v sz i f) := by
  obtain ⟨⟨pre, rfl, hm⟩, hn, hl⟩ := h; rfl
theorem Gl.loadf {m : Mem} {v : AV} {id n : Nat} {xs : List AV} (h : Gl m v id 2 n xs) {i f : Nat} (hi : i < n) (hf : f < 2) : loadA false 1 m (elF v 2 i f) = xs[i * 2 + f]? := by
  obtain ⟨⟨pre, rfl, hm⟩, hn, hl⟩ := h
  have e : (pre ++ xs)[pre.length + i * 2 + f]? = xs[i * 2 + f]? := by
    rw [List.getElem?_append_right (by omega)]
    congr 1; omega
  simp [elF, hm, e]
structure Pr (h : Nat → Option AObj) (nx : Nat) (x9 x10 x11 : AV) (i9 i10 i11 i12 : Nat) (S : ST) (vs : List AV) : Prop where
  p : Gl ⟨h, nx⟩ x9 i9 2 S.1.length (flJ S.1)
  w : Gl ⟨h, nx⟩ x10 i10 1 S.2.length (S.2.map .str)
  s : Gl ⟨h, nx⟩ x11 i11 1 S.1.length vs
  v : ∀ (j : Nat) x, S.1[j]? = some x → ∃ ex, vs[j]? = some (sF ex x.2)
  k : Mp ⟨h, nx⟩ i12 (S.1.map encJ) ((S.1.map fun _ => true).map .bool)
  d1 : i9 ≠ i10
  d2 : i9 ≠ i11
  d3 : i9 ≠ i12
  d4 : i10 ≠ i11
  d5 : i10 ≠ i12
  d6 : i11 ≠ i12
theorem Pr.fr {h h' : Nat → Option AObj} {nx nx' i9 i10 i11 i12 : Nat} {x9 x10 x11 : AV} {S : ST} {vs : List AV} (P : Pr h nx x9 x10 x11 i9 i10 i11 i12 S vs) (e : ∀ y, y < nx → h' y = h y) (l : nx ≤ nx') : Pr h' nx' x9 x10 x11 i9 i10 i11 i12 S vs :=
  ⟨P.p.frame (e _ P.p.lt) l, P.w.frame (e _ P.w.lt) l, P.s.frame (e _ P.s.lt) l, P.v, P.k.frame (e _ P.k.2) l, P.d1, P.d2, P.d3, P.d4, P.d5, P.d6⟩
noncomputable def KRs : List Item := [.code r07_Short.r16, .code r07_Short.r17, .code r07_Short.k4, .code r07_Short.r26, .code r07_Short.r27, .code r07_Short.k6, .code r07_Short.r36, .code .ret]
noncomputable def KRi : List Item := .inBlock 1 :: .code r07_Short.r5 :: .inLoop r07_Short.l0 :: .inBlock 0 :: KRs
def fulJ : AV := .tup [.str [], .str [], .bool false, .bool false]
theorem frz_86_93 (s : St) : frz1 s 3086093 = bif apart2 s 86 93 then some s else none := rfl
theorem frz_88 (s : St) : frz1 s 2000088 = bif nsl (s.get 88) then some s else none := rfl
theorem nxJ_ok {rows : List (List Int)} {good : List Bool} {k : Nat} (v : VB rows good k) (K : Nat) (x : PT) (a : Nat) (h : OkR rows.length k K x) (ha : a < k) : OkR rows.length k K (nxJ rows K x a) := ⟨(nx_lt v h.lt ha).1, addR_pset h.p h.s ha v.k3, addR_srt x.2 h.s⟩
theorem rsho_in {nv gv : AV} {ps : List AV} {rows : List (List Int)} {good : List Bool} {k : Nat} (hn : IsRows nv ps rows) (v : VB rows good k) {K : Nat} (K3 : K ≤ 3) {i12 i : Nat} {x : PT} {w : List UInt8} (hx : OkR rows.length k K x) {r : Res} :
    ∀ (j a i9 i10 i11 : Nat) (m : Mem) (x9 x10 x11 : AV) (S : ST) (vs : List AV), a + j = k → Pr m.h m.nx x9 x10 x11 i9 i10 i11 i12 S vs → S.1[i]? = some x → S.2[i]? = some w → BOk (OkR rows.length k K) List.length S → S.1.length ≤ 5000 →
    (∀ S', bInF (nxJ rows K) extL x w j a S = some S' → ∀ m' x9' x10' x11' i9' i10' i11' vs', Pr m'.h m'.nx x9' x10' x11' i9' i10' i11' i12 S' vs' → r07_Short.L0 (.int .i64 K) (.fptr [nv, gv]) x9' x10' x11' (.map i12) (.int .i64 ((i : Int) + 1)) m' KRs = some r) →
    (bInF (nxJ rows K) extL x w j a S = none → r = (fulJ, Mem.empty)) →
    r07_Short.L2 (.int .i64 K) (.fptr [nv, gv]) x9 x10 x11 (.map i12) (.int .i64 i) (.int .i64 a) m KRi = some r := by
  intro j
  induction j with
  | zero =>
    intro a i9 i10 i11 m x9 x10 x11 S vs h1 P hS1 hS2 hS h5 hk hf
    have e : a = k := by omega
    subst e
    have hi := (List.getElem?_eq_some_iff.1 hS1).1
    have hwi : IntKind.wrap .i64 ((i : Int) + 1) = (i : Int) + 1 := wrap_id (by omega) (by omega)
    have hk := hk S rfl m x9 x10 x11 i9 i10 i11 vs P
    have i0 := hn.idx (i := 0) v.n1 .i64
    have j0 := hn.head (i := 0) v.n1
    have iw0 := hn.row 0 v.n1
    have r0 := v.rl 0 v.n1
    simp only [Int.ofNat_zero, Int.cast_ofNat_Int, List.drop_zero] at i0 j0
    rw [r07_Short.L2_eq]
    simp [KRi, i0, j0, iw0.len, r0, hwi, hk]
    done
  | succ j ih =>
    intro a i9 i10 i11 m x9 x10 x11 S vs h1 P hS1 hS2 hS h5 hk hf
    have ha : a < k := by omega
    have hi := (List.getElem?_eq_some_iff.1 hS1).1
    have hi2 := (List.getElem?_eq_some_iff.1 hS2).1
    have hlen := hS.len
    obtain ⟨x1, x2⟩ := x
    have hx1 : x1 < rows.length := hx.lt
    have px := hx.p
    simp only at px
    have k3 := v.k3
    have b := v.rl x1 hx1
    obtain ⟨c1, c2⟩ := nx_lt v hx1 ha
    have iw1 := hn.row x1 hx1
    have hwi : IntKind.wrap .i64 ((a : Int) + 1) = (a : Int) + 1 := wrap_id (by omega) (by omega)
    have ha3 : a < 3 := by omega
    have d1 := iw1.idx (i := a) (by omega) .i64
    have e1 := ints_head (l := cth rows x1) (i := a) (by omega)
    rw [c2] at e1
    have hlt := fun m => rletter_spec ha3 m
    have i0 := hn.idx (i := 0) v.n1 .i64
    have j0 := hn.head (i := 0) v.n1
    have iw0 := hn.row 0 v.n1
    have r0 := v.rl 0 v.n1
    simp only [Int.ofNat_zero, Int.cast_ofNat_Int, List.drop_zero] at i0 j0
    have KJ := keysJ rows.length k K
    obtain ⟨ex, hv⟩ := P.v i _ hS1
    simp only at hv
    have px40 := px.le k3 K3
    obtain ⟨ez, hmr⟩ := more_spec (ex := ex) (x := ltr a) (K := K) (by omega) px.pos (px.wl K3) (by simp [ltr])
    have yok := nxJ_ok v K (x1, x2) a hx ha
    have py : PSet k K (addR K x2 (ltr a)) := yok.p
    have hnm := fun m => join_spec (ex := ez) (l := addR K x2 (ltr a)) (by have := py.le k3 K3; omega) (py.wl K3) m
    have lsi := P.s.idx hi .i64
    have P0 := P.fr (h' := m.h) (nx' := m.nx + 9) (fun _ _ => rfl) (by omega)
    have lsl := P0.s.load1 hi
    rw [hv] at lsl
    have P1 := P.fr (h' := upd m.h (m.nx + 9 + 15) none) (nx' := m.nx + 9 + 17) (fun y hy => updNe (by omega)) (by omega)
    have P2 := P.fr (h' := m.h) (nx' := m.nx + 9 + 17) (fun _ _ => rfl) (by omega)
    have lf := P2.p.loadf (f := 0) hi (by omega)
    have lf := lf.trans (flJ_0 hS1)
    simp only at lf
    have ff := P.p.fld i 0
    have l1 := P1.k.look KJ hS.all (by simp) yok (.bool false) false
    rw [lkP_tt] at l1
    rw [bInF] at hk hf
    by_cases hc : nxJ rows K (x1, x2) a ∈ S.1
    · rw [if_pos hc] at hk hf
      rw [if_pos hc] at l1
      simp only [encJ, cJ, nxJ] at l1
      have st := ih (a + 1) i9 i10 i11 ⟨upd m.h (m.nx + 9 + 15) none, m.nx + 9 + 17⟩ x9 x10 x11 S vs (by omega) P1 hS1 hS2 hS h5 hk hf
      simp only [Int.natCast_add, Int.cast_ofNat_Int] at st
      rw [r07_Short.L2_eq]
      simp [ha, i0, j0, iw0.len, r0, hlt, lsi, lsl, hmr, (sF_is ex x2).closed, (sF_is ez (addR K x2 (ltr a))).closed, P.p.idx hi, ff, lf, hn.idx hx1, hn.head hx1, d1, e1, hnm, l1, hwi, st]
      done
    · rw [if_neg hc] at hk hf
      rw [if_neg hc] at l1
      simp only [encJ, cJ, nxJ] at l1
      obtain ⟨o, U1, U2⟩ := P1.k.putU KJ hS.all (by simp) yok hc true
      have U1 := fun y => U1 (upd m.h (m.nx + 9 + 15) none) y rfl
      simp only [encJ, cJ, nxJ] at U1
      have t9 := P.p.lt
      have t10 := P.w.lt
      have t11 := P.s.lt
      have t12 := P.k.2
      simp only at t9 t10 t11 t12
      have n1 := P.d1
      have n2 := P.d2
      have n3 := P.d3
      have n4 := P.d4
      have n5 := P.d5
      have n6 := P.d6
      have hq9 : Gl ⟨upd (upd m.h (m.nx + 9 + 15) none) i12 o, m.nx + 9 + 17 + 3⟩ x9 i9 2 S.1.length (flJ S.1) := P1.p.frame (updNe n3) (by show m.nx + 9 + 17 ≤ m.nx + 9 + 17 + 3; omega)
      obtain ⟨y9, m3, j9, g1, g2, g3, g4, g5⟩ := hq9.app (by' := 24) (ys := cJ (nxJ rows K (x1, x2) a)) rfl (by simp; omega)
      simp only at g3 g4 g5
      have f10 : m3.h i10 = upd m.h (m.nx + 9 + 15) none i10 := by rw [g5 i10 (by omega) (fun e => n1 e.symm), updNe n5]
      have hw1 : Gl ⟨m3.h, m.nx + 9 + 17 + 21⟩ x10 i10 1 S.2.length (S.2.map .str) := P1.w.fr f10 (by show i10 < m.nx + 9 + 17 + 21; omega)
      have hw2 : Gl ⟨m3.h, m.nx + 9 + 17 + 13⟩ x10 i10 1 S.2.length (S.2.map .str) := P1.w.fr f10 (by show i10 < m.nx + 9 + 17 + 13; omega)
      obtain ⟨y10, m4, j10, u1, u2, u3, u4, u5⟩ := hw2.app (by' := 16) (ys := [.str (extL w a)]) rfl (by simp; omega)
      simp only at u3 u4 u5
      have f11 : m4.h i11 = upd m.h (m.nx + 9 + 15) none i11 := by rw [u5 i11 (by omega) (fun e => n4 e.symm), g5 i11 (by omega) (fun e => n2 e.symm), updNe n6]
      have hs2 : Gl ⟨m4.h, m.nx + 9 + 17 + 17⟩ x11 i11 1 S.1.length vs := P1.s.fr f11 (by show i11 < m.nx + 9 + 17 + 17; omega)
      obtain ⟨y11, m5, j11, v1, v2, v3, v4, v5⟩ := hs2.app (by' := 24) (ys := [sF ez (nxJ rows K (x1, x2) a).2]) rfl (by simp; omega)
      simp only at v3 v4 v5
      have hwl : w.length ≤ 5001 := by
        have h1 := hS.wl w (List.mem_of_getElem? hS2)
        omega
      have hll : w.length + (ltr a).length ≤ 4611686018427387904 := by simp [ltr]; omega
      have hj9 : j9 < m.nx + 9 + 17 + 13 ∧ j9 ≠ i10 ∧ j9 ≠ i11 ∧ j9 ≠ i12 := by rcases g4 with e | e <;> omega
      have hj10 : j10 < m.nx + 9 + 17 + 17 ∧ j10 ≠ j9 ∧ j10 ≠ i11 ∧ j10 ≠ i12 := by rcases u4 with e | e <;> rcases g4 with e' | e' <;> omega
      have hj11 : j11 < m.nx + 9 + 17 + 21 ∧ j11 ≠ j9 ∧ j11 ≠ j10 ∧ j11 ≠ i12 := by rcases v4 with e | e <;> rcases u4 with e'' | e'' <;> rcases g4 with e' | e' <;> omega
      have PA : Pr m5.h (m.nx + 9 + 17 + 21) y9 y10 y11 j9 j10 j11 i12 (S.1 ++ [nxJ rows K (x1, x2) a], S.2 ++ [extL w a]) (vs ++ [sF ez (nxJ rows K (x1, x2) a).2]) := by
        refine ⟨?_, ?_, ?_, ?_, ?_, by omega, by omega, by omega, by omega, by omega, by omega⟩
        · show Gl _ _ _ _ ((S.1 ++ [nxJ rows K (x1, x2) a]).length) (flJ (S.1 ++ [nxJ rows K (x1, x2) a]))
          rw [flJ_app, List.length_append]
          exact g2.fr (by
            show m5.h j9 = m3.h j9
            rw [v5 j9 (by omega) (by omega), u5 j9 (by omega) (by omega)]) (by show j9 < m.nx + 9 + 17 + 21; omega)
        · show Gl _ _ _ _ ((S.2 ++ [extL w a]).length) ((S.2 ++ [extL w a]).map .str)
          rw [List.map_append, List.length_append]
          exact u2.fr (by
            show m5.h j10 = m4.h j10
            rw [v5 j10 (by omega) (by omega)]) (by show j10 < m.nx + 9 + 17 + 21; omega)
        · show Gl _ _ _ _ ((S.1 ++ [nxJ rows K (x1, x2) a]).length) _
          rw [List.length_append]
          exact v2.fr rfl (by show j11 < m.nx + 9 + 17 + 21; omega)
        · intro j' x' hj'
          have hvl : vs.length = S.1.length := by have := P.s.n; omega
          by_cases c : j' < S.1.length
          · rw [List.getElem?_append_left c] at hj'
            obtain ⟨ex', he⟩ := P.v j' x' hj'
            exact ⟨ex', by rw [List.getElem?_append_left (by omega)]; exact he⟩
          · have hh := (List.getElem?_eq_some_iff.1 hj').1
            simp at hh
            have ej : j' = S.1.length := by omega
            subst ej
            simp at hj'
            subst hj'
            exact ⟨ez, by rw [← hvl]; simp⟩
        · show Mp _ _ ((S.1 ++ [nxJ rows K (x1, x2) a]).map encJ) (((S.1 ++ [nxJ rows K (x1, x2) a]).map fun _ => true).map .bool)
          have e : (S.1 ++ [nxJ rows K (x1, x2) a]).map (fun _ => true) = S.1.map (fun _ => true) ++ [true] := by simp
          rw [e]
          exact U2 m5.h _ (by
            rw [v5 i12 (by omega) (by omega), u5 i12 (by omega) (by omega), g5 i12 (by omega) (by omega)]; simp) (by omega)
      have ld := hw1.load1 hi2
      have hs3 : (S.2.map AV.str)[i]? = some (.str w) := by simp [hS2]
      rw [hs3] at ld
      have o9 := P.p.oid
      have o10 := P.w.oidE 1 i
      have n1' : (i9 == i10) = false := beq_eq_false_iff_ne.2 n1
      have gl := PA.p.len
      simp only [List.length_append, List.length_singleton, Int.natCast_add, Int.cast_ofNat_Int] at gl
      simp only [cJ, nxJ] at g1
      simp only [nxJ] at v1
      simp only [extL] at u1
      by_cases q5 : 5000 ≤ S.1.length
      · rw [if_pos q5] at hf
        have hf := hf rfl
        subst hf
        rw [r07_Short.L2_eq]
        simp [frz_86_93, frz_88, apart2, nsl, o9, o10, n1', frzL, ha, i0, j0, iw0.len, r0, hlt, lsi, lsl, hmr, (sF_is ex x2).closed, (sF_is ez (addR K x2 (ltr a))).closed, (sF_is ez (addR K x2 (ltr a))).one, (show (sF ez (addR K x2 (ltr a))).cells = [sF ez (addR K x2 (ltr a))] from rfl), P.p.idx hi, ff, lf, hn.idx hx1, hn.head hx1, d1, e1, hnm, l1, hwi, U1, hll, P.p.one, P.w.one, P.s.one, g1, g2.one, hw1.idx hi2, ld, u1, u2.one, v1, v2.one, gl, show (5000 : Int) < (S.1.length : Int) + 1 by omega, fulJ]
        done
      · rw [if_neg q5] at hk hf
        have st := ih (a + 1) j9 j10 j11 ⟨m5.h, m.nx + 9 + 17 + 21⟩ y9 y10 y11 _ _ (by omega) PA (by simp only []; rw [List.getElem?_append_left (by omega)]; exact hS1) (by simp only []; rw [List.getElem?_append_left (by omega)]; exact hS2) (bok_add hS yok hc (by
          have := hS.wl w (List.mem_of_getElem? hS2)
          simp [extL, ltr]; omega)) (by simp; omega) hk hf
        simp only [Int.natCast_add, Int.cast_ofNat_Int] at st
        rw [r07_Short.L2_eq]
        simp [frz_86_93, frz_88, apart2, nsl, o9, o10, n1', frzL, ha, i0, j0, iw0.len, r0, hlt, lsi, lsl, hmr, (sF_is ex x2).closed, (sF_is ez (addR K x2 (ltr a))).closed, (sF_is ez (addR K x2 (ltr a))).one, (show (sF ez (addR K x2 (ltr a))).cells = [sF ez (addR K x2 (ltr a))] from rfl), P.p.idx hi, ff, lf, hn.idx hx1, hn.head hx1, d1, e1, hnm, l1, hwi, U1, hll, P.p.one, P.w.one, P.s.one, g1, g2.one, hw1.idx hi2, ld, u1, u2.one, v1, v2.one, gl, show ¬ (5000 : Int) < (S.1.length : Int) + 1 by omega, st]
        done
end Go.Proofs.Ythnpflkpjimkfaa

/-
  THE SPECIFICATION'S SHORT: its search, its least words, its choice. Conditions: none.
-/
namespace Go.Proofs.Ythnpflkpjimkfaa
open Go.AM
open Go.Proofs.Try (prog)
set_option linter.all false
set_option maxRecDepth 100000
set_option maxHeartbeats 8000000
noncomputable def KR4 : List Item := [.code r07_Short.r26, .code r07_Short.r27, .code r07_Short.k6, .code r07_Short.r36, .code .ret]
noncomputable def KR6 : List Item := [.code r07_Short.r36, .code .ret]
abbrev kJ (x : PT) : List UInt8 := joinL x.2
theorem rsho_out {nv gv : AV} {ps : List AV} {rows : List (List Int)} {good : List Bool} {k : Nat} (hn : IsRows nv ps rows) (v : VB rows good k) {K : Nat} (K3 : K ≤ 3) {i12 : Nat} {r : Res} :
    ∀ (f i i9 i10 i11 : Nat) (m : Mem) (x9 x10 x11 : AV) (S : ST) (vs : List AV), Pr m.h m.nx x9 x10 x11 i9 i10 i11 i12 S vs → BOk (OkR rows.length k K) List.length S → S.1.length ≤ 5000 → i ≤ S.1.length → 5000 < f + i →
    (∀ S', bfsF (nxJ rows K) extL k f i S = some S' → ∀ (m' : Mem) x9' x10' x11' i9' i10' i11' vs', Pr m'.h m'.nx x9' x10' x11' i9' i10' i11' i12 S' vs' → r07_Short.L4 (.fptr [nv, gv]) x9' x10' (.map m'.nx) (.map (m'.nx + 1)) (.int .i64 0) ⟨upd (upd m'.h m'.nx (some (.map 0 [] []))) (m'.nx + 1) (some (.map 0 [] [])), m'.nx + 1 + 1⟩ KR4 = some r) →
    (bfsF (nxJ rows K) extL k f i S = none → r = (fulJ, Mem.empty)) →
    r07_Short.L0 (.int .i64 K) (.fptr [nv, gv]) x9 x10 x11 (.map i12) (.int .i64 i) m KRs = some r := by
  intro f
  induction f with
  | zero => intro i i9 i10 i11 m x9 x10 x11 S vs P hS h5 hi hf; omega
  | succ f ih =>
    intro i i9 i10 i11 m x9 x10 x11 S vs P hS h5 hi hfu hk hf
    by_cases c : i < S.1.length
    · have hx := List.getElem?_eq_getElem c
      have hlen := hS.len
      have c2 : i < S.2.length := by omega
      have hw := List.getElem?_eq_getElem c2
      generalize S.1[i] = x at hx
      generalize S.2[i] = w at hw
      have ok := hS.all x (List.mem_of_getElem? hx)
      rw [bfsF, hx, hw] at hk hf
      simp only [Option.bind_eq_some_iff] at hk
      have hf : (bInF (nxJ rows K) extL x w k 0 S).bind (bfsF (nxJ rows K) extL k f (i + 1)) = none → r = (fulJ, Mem.empty) := hf
      have st := rsho_in (gv := gv) hn v K3 (r := r) ok k 0 i9 i10 i11 m x9 x10 x11 S vs (by omega) P hx hw hS h5 (fun S' hS' m' x9' x10' x11' i9' i10' i11' vs' P' => by
        obtain ⟨p', q'', e1, e2⟩ := bInF_pre hS'
        have hb := bInF_bIn hS'
        have hS2 : BOk (OkR rows.length k K) List.length S' := by
          rw [hb]
          exact bIn_ok (nxJ rows K) extL (k := k) (fun y a hy ha => nxJ_ok v K y a hy ha) (fun w a => by simp [extL, ltr]) x w ok k 0 S (by omega) hS (hS.wl w (List.mem_of_getElem? hw))
        have hle := bInF_le hS' h5
        have hlen' : S.1.length ≤ S'.1.length := by rw [e1]; simp
        have := ih (i + 1) i9' i10' i11' m' x9' x10' x11' S' vs' P' hS2 hle (by omega) (by omega) (fun S'' hS'' => hk S'' ⟨S', hS', hS''⟩) (fun hnone => hf (by rw [hS']; exact hnone))
        simpa using this) (fun hnone => hf (by rw [hnone]; rfl))
      simp only [Int.ofNat_zero, Int.cast_ofNat_Int, KRi] at st
      rw [r07_Short.L0_eq]
      simp [P.p.len, c, st]
      done
    · have e : i = S.1.length := by omega
      subst e
      have hx : S.1[S.1.length]? = none := List.getElem?_eq_none (by omega)
      rw [bfsF, hx] at hk
      have hk := hk S rfl m x9 x10 x11 i9 i10 i11 vs P
      simp only [KR4] at hk
      rw [r07_Short.L0_eq]
      simp [P.p.len, KRs, hk]
      done
structure P4 (h : Nat → Option AObj) (nx : Nat) (x9 x10 : AV) (i9 i10 ig ib : Nat) (S : ST) (G : WFn × WFn) : Prop where
  p : Gl ⟨h, nx⟩ x9 i9 2 S.1.length (flJ S.1)
  w : Gl ⟨h, nx⟩ x10 i10 1 S.2.length (S.2.map .str)
  g : Mf AV.str (fun _ => True) AV.str h ig G.1
  b : Mf AV.str (fun _ => True) AV.str h ib G.2
  d1 : i9 ≠ ig
  d2 : i9 ≠ ib
  d3 : i10 ≠ ig
  d4 : i10 ≠ ib
  d5 : ig ≠ ib
  l1 : ig < nx
  l2 : ib < nx
theorem P4.nx {h : Nat → Option AObj} {nx nx' : Nat} {x9 x10 : AV} {i9 i10 ig ib : Nat} {S : ST} {G : WFn × WFn} (P : P4 h nx x9 x10 i9 i10 ig ib S G) (l : nx ≤ nx') : P4 h nx' x9 x10 i9 i10 ig ib S G :=
  ⟨P.p.frame rfl l, P.w.frame rfl l, P.g, P.b, P.d1, P.d2, P.d3, P.d4, P.d5, Nat.lt_of_lt_of_le P.l1 l, Nat.lt_of_lt_of_le P.l2 l⟩
theorem rcS_cases {α : Type} {κ : α → List UInt8} {sd : α → Bool} (G : WFn × WFn) (q : α × List UInt8) : rcS (κ := κ) (sd := sd) G q = G ∨ rcS (κ := κ) (sd := sd) G q = (putF G.1 (κ q.1) q.2, G.2) ∨ rcS (κ := κ) (sd := sd) G q = (G.1, putF G.2 (κ q.1) q.2) := by
  unfold rcS
  by_cases h : sd q.1 = true
  · cases e : G.1 (κ q.1) with
    | none => right; left; simp [h, e]
    | some u =>
      by_cases g : lessW q.2 u = true
      · right; left; simp [h, e, g]
      · left; simp [h, e, g]
  · cases e : G.2 (κ q.1) with
    | none => right; right; simp [h, e]
    | some u =>
      by_cases g : lessW q.2 u = true
      · right; right; simp [h, e, g]
      · left; simp [h, e, g]
theorem r4_loop {nv gv : AV} {good : List Bool} {n : Nat} (hg : IsB gv good) (hgl : good.length = n) {S : ST} (hlen : S.1.length = S.2.length) (h5 : S.1.length ≤ 5000) (hst : ∀ x ∈ S.1, x.1 < n) (hwl : ∀ w ∈ S.2, w.length ≤ 1000000) {x9 x10 : AV} {i9 i10 ig ib : Nat} {r : Res} : ∀ (c j : Nat) (m : Mem) (G : WFn × WFn), j + c = S.1.length → P4 m.h m.nx x9 x10 i9 i10 ig ib S G →
    (∀ p w, G.1 p = some w ∨ G.2 p = some w → w.length ≤ 1000000) →
    (∀ m', P4 m'.h m'.nx x9 x10 i9 i10 ig ib S (((S.1.zip S.2).drop j).foldl (rcS (κ := kJ) (sd := sdG good)) G) → r07_Short.L6 x9 (.map ig) (.map ib) (.str []) (.str []) (.bool false) (.int .i64 0) m' KR6 = some r) →
    r07_Short.L4 (.fptr [nv, gv]) x9 x10 (.map ig) (.map ib) (.int .i64 j) m KR4 = some r := by
  intro c
  induction c with
  | zero =>
    intro j m G h1 P hG hk
    have e : j = S.1.length := by omega
    subst e
    have hz : (S.1.zip S.2).drop S.1.length = [] := List.drop_eq_nil_of_le (by simp [List.length_zip]; omega)
    rw [hz] at hk
    have hk := hk m P
    simp only [KR6] at hk
    rw [r07_Short.L4_eq]
    simp [P.p.len, KR4, hk]
    done
  | succ c ih =>
    intro j m G h1 P hG hk
    have hj : j < S.1.length := by omega
    have hj2 : j < S.2.length := by omega
    have hwj : IntKind.wrap .i64 ((j : Int) + 1) = (j : Int) + 1 := wrap_id (by omega) (by omega)
    have hx := List.getElem?_eq_getElem hj
    have hw := List.getElem?_eq_getElem hj2
    generalize S.1[j] = x at hx
    generalize S.2[j] = w at hw
    have hz : (S.1.zip S.2).drop j = (x, w) :: (S.1.zip S.2).drop (j + 1) := by
      have z3 : (S.1.zip S.2)[j]? = some (x, w) := by rw [List.getElem?_zip_eq_some]; exact ⟨hx, hw⟩
      have zl := (List.getElem?_eq_some_iff.1 z3).1
      rw [List.drop_eq_getElem_cons zl, (List.getElem?_eq_some_iff.1 z3).2]
    rw [hz, List.foldl_cons] at hk
    obtain ⟨x1, x2⟩ := x
    have hx1 := hst _ (List.mem_of_getElem? hx)
    simp only at hx1
    have hww := hwl w (List.mem_of_getElem? hw)
    have b1 := bls_head (bs := good) (i := x1) (by omega)
    have Pa := P.nx (nx' := m.nx + 9) (by omega)
    have Pb := P.nx (nx' := m.nx + 9 + 11) (by omega)
    have f0 := (Pa.p.loadf (f := 0) hj (by omega)).trans (flJ_0 hx)
    have f1 := (Pa.p.loadf (f := 1) hj (by omega)).trans (flJ_1 hx)
    have f2 := (Pb.p.loadf (f := 1) hj (by omega)).trans (flJ_1 hx)
    have ff0 := P.p.fld j 0
    have ff1 := P.p.fld j 1
    have wl1 := Pa.w.load1 hj2
    have wl2 := Pb.w.load1 hj2
    have hs3 : (S.2.map AV.str)[j]? = some (.str w) := by simp [hw]
    rw [hs3] at wl1 wl2
    simp only at f0 f1 f2
    have n1 := P.d1
    have n2 := P.d2
    have n3 := P.d3
    have n4 := P.d4
    have n5 := P.d5
    have l1 := P.l1
    have l2 := P.l2
    have goo : ∀ (m' : Mem) (G' : WFn × WFn), G' = rcS (κ := kJ) (sd := sdG good) G ((x1, x2), w) → P4 m'.h m'.nx x9 x10 i9 i10 ig ib S G' → r07_Short.L4 (.fptr [nv, gv]) x9 x10 (.map ig) (.map ib) (.int .i64 ((j : Int) + 1)) m' KR4 = some r := by
      intro m' G' e P'
      subst e
      have hmap : ∀ p u, (rcS (κ := kJ) (sd := sdG good) G ((x1, x2), w)).1 p = some u ∨ (rcS (κ := kJ) (sd := sdG good) G ((x1, x2), w)).2 p = some u → u.length ≤ 1000000 := by
        intro p u
        rcases rcS_cases (κ := kJ) (sd := sdG good) G ((x1, x2), w) with e | e | e
        · rw [e]; exact hG p u
        · rw [e]
          simp only [putF]
          rintro (g | g)
          · split at g
            · cases g; exact hww
            · exact hG _ _ (.inl g)
          · exact hG _ _ (.inr g)
        · rw [e]
          simp only [putF]
          rintro (g | g)
          · exact hG _ _ (.inl g)
          · split at g
            · cases g; exact hww
            · exact hG _ _ (.inr g)
      have := ih (j + 1) m' _ (by omega) P' hmap hk
      simpa using this
    simp only [KR4] at goo
    have upg : ∀ o, Mf AV.str (fun _ => True) AV.str (upd m.h ig o) ig (putF G.1 (joinL x2) w) → P4 (upd m.h ig o) (m.nx + 9 + 11) x9 x10 i9 i10 ig ib S (putF G.1 (joinL x2) w, G.2) := fun o ho =>
      ⟨P.p.frame (updNe n1) (by show m.nx ≤ m.nx + 9 + 11; omega), P.w.frame (updNe n3) (by show m.nx ≤ m.nx + 9 + 11; omega), ho, P.b.fr (updNe (fun e => n5 e.symm)), n1, n2, n3, n4, n5, by omega, by omega⟩
    have upb : ∀ o, Mf AV.str (fun _ => True) AV.str (upd m.h ib o) ib (putF G.2 (joinL x2) w) → P4 (upd m.h ib o) (m.nx + 9 + 11) x9 x10 i9 i10 ig ib S (G.1, putF G.2 (joinL x2) w) := fun o ho =>
      ⟨P.p.frame (updNe n2) (by show m.nx ≤ m.nx + 9 + 11; omega), P.w.frame (updNe n4) (by show m.nx ≤ m.nx + 9 + 11; omega), P.g.fr (updNe n5), ho, n1, n2, n3, n4, n5, by omega, by omega⟩
    by_cases hsd : bnth good x1 = true
    · have lg := P.g.look (keysW _) (c := joinL x2) trivial (.str []) true (m.nx + 9)
      obtain ⟨o, U1, U2⟩ := P.g.put (keysW _) (c := joinL x2) trivial w
      have up := upg o (U2 _ (by simp))
      cases e : G.1 (joinL x2) with
      | none =>
        rw [e] at lg
        simp only [lkZ, cond_true] at lg
        have st := goo ⟨upd m.h ig o, m.nx + 9 + 11⟩ _ (by unfold rcS; simp [hsd, e]) up
        rw [r07_Short.L4_eq]
        simp [P.p.len, hj, P.p.idx hj, ff0, ff1, f0, f1, f2, P.w.idx hj2, wl1, wl2, hg.idx (i := x1) (by omega), b1, hsd, lg, U1, hwj, st, KR4]
        done
      | some u =>
        rw [e] at lg
        simp only [lkZ, cond_true] at lg
        have hu := hG _ _ (.inl e)
        have hls := fun m => less_spec w u hww hu m
        cases q : lessW w u with
        | true =>
          rw [q] at hls
          have st := goo ⟨upd m.h ig o, m.nx + 9 + 11⟩ _ (by unfold rcS; simp [hsd, e, q]) up
          rw [r07_Short.L4_eq]
          simp [P.p.len, hj, P.p.idx hj, ff0, ff1, f0, f1, f2, P.w.idx hj2, wl1, wl2, hg.idx (i := x1) (by omega), b1, hsd, lg, hls, U1, hwj, st, KR4]
          done
        | false =>
          rw [q] at hls
          have st := goo ⟨m.h, m.nx + 9⟩ G (by unfold rcS; simp [hsd, e, q]) Pa
          rw [r07_Short.L4_eq]
          simp [P.p.len, hj, P.p.idx hj, ff0, ff1, f0, f1, f2, P.w.idx hj2, wl1, wl2, hg.idx (i := x1) (by omega), b1, hsd, lg, hls, hwj, st, KR4]
          done
    · have lg := P.b.look (keysW _) (c := joinL x2) trivial (.str []) true (m.nx + 9)
      obtain ⟨o, U1, U2⟩ := P.b.put (keysW _) (c := joinL x2) trivial w
      have up := upb o (U2 _ (by simp))
      cases e : G.2 (joinL x2) with
      | none =>
        rw [e] at lg
        simp only [lkZ, cond_true] at lg
        have st := goo ⟨upd m.h ib o, m.nx + 9 + 11⟩ _ (by unfold rcS; simp [hsd, e]) up
        rw [r07_Short.L4_eq]
        simp [P.p.len, hj, P.p.idx hj, ff0, ff1, f0, f1, f2, P.w.idx hj2, wl1, wl2, hg.idx (i := x1) (by omega), b1, hsd, lg, U1, hwj, st, KR4]
        done
      | some u =>
        rw [e] at lg
        simp only [lkZ, cond_true] at lg
        have hu := hG _ _ (.inr e)
        have hls := fun m => less_spec w u hww hu m
        cases q : lessW w u with
        | true =>
          rw [q] at hls
          have st := goo ⟨upd m.h ib o, m.nx + 9 + 11⟩ _ (by unfold rcS; simp [hsd, e, q]) up
          rw [r07_Short.L4_eq]
          simp [P.p.len, hj, P.p.idx hj, ff0, ff1, f0, f1, f2, P.w.idx hj2, wl1, wl2, hg.idx (i := x1) (by omega), b1, hsd, lg, hls, U1, hwj, st, KR4]
          done
        | false =>
          rw [q] at hls
          have st := goo ⟨m.h, m.nx + 9⟩ G (by unfold rcS; simp [hsd, e, q]) Pa
          rw [r07_Short.L4_eq]
          simp [P.p.len, hj, P.p.idx hj, ff0, ff1, f0, f1, f2, P.w.idx hj2, wl1, wl2, hg.idx (i := x1) (by omega), b1, hsd, lg, hls, hwj, st, KR4]
          done
end Go.Proofs.Ythnpflkpjimkfaa

/-
  THE SPECIFICATION'S SHORT: its choice, and what it returns. Conditions: none.
-/
namespace Go.Proofs.Ythnpflkpjimkfaa
open Go.AM
open Go.Proofs.Try (prog)
set_option linter.all false
set_option maxRecDepth 100000
set_option maxHeartbeats 8000000
def selJ : Option WW → AV
  | none => .tup [.str [], .str [], .bool false, .bool true]
  | some p => .tup [.str p.1, .str p.2, .bool true, .bool true]
def oF (o : Option WW) : List UInt8 := (o.map (·.1)).getD []
def oS (o : Option WW) : List UInt8 := (o.map (·.2)).getD []
theorem r6_loop {S : ST} (h5 : S.1.length ≤ 5000) {x9 x10 : AV} {i9 i10 ig ib : Nat} {G : WFn × WFn} (hG : ∀ p w, G.1 p = some w ∨ G.2 p = some w → w.length ≤ 1000000) {m : Mem} (P : P4 m.h m.nx x9 x10 i9 i10 ig ib S G) : ∀ (c j : Nat) (o : Option WW), j + c = S.1.length → okWW o →
    r07_Short.L6 x9 (.map ig) (.map ib) (.str (oF o)) (.str (oS o)) (.bool o.isSome) (.int .i64 j) m KR6 = some (selJ ((cand G.1 G.2 ((S.1.drop j).map kJ)).foldl selS o), Mem.empty) := by
  intro c
  induction c with
  | zero =>
    intro j o h1 ho
    have e : j = S.1.length := by omega
    subst e
    rw [List.drop_length, r07_Short.L6_eq]
    match o with
    | none =>
      simp [P.p.len, KR6, cand, selJ, oF, oS]
      done
    | some p =>
      simp [P.p.len, KR6, cand, selJ, oF, oS]
      done
  | succ c ih =>
    intro j o h1 ho
    have hj : j < S.1.length := by omega
    have hwj : IntKind.wrap .i64 ((j : Int) + 1) = (j : Int) + 1 := wrap_id (by omega) (by omega)
    have hx := List.getElem?_eq_getElem hj
    rw [show S.1.drop j = S.1[j] :: S.1.drop (j + 1) from List.drop_eq_getElem_cons hj, List.map_cons]
    generalize S.1[j] = x at hx ⊢
    obtain ⟨x1, x2⟩ := x
    have f1 := (P.p.loadf (f := 1) hj (by omega)).trans (flJ_1 hx)
    have ff1 := P.p.fld j 1
    simp only at f1
    have lg := P.g.look (keysW _) (c := joinL x2) trivial (.str []) true m.nx
    have lb := P.b.look (keysW _) (c := joinL x2) trivial (.str []) true m.nx
    have sk : ∀ o', okWW o' → r07_Short.L6 x9 (.map ig) (.map ib) (.str (oF o')) (.str (oS o')) (.bool o'.isSome) (.int .i64 ((j : Int) + 1)) m KR6 = some (selJ ((cand G.1 G.2 ((S.1.drop (j + 1)).map kJ)).foldl selS o'), Mem.empty) := by
      intro o' ho'
      have := ih (j + 1) o' (by omega) ho'
      simpa using this
    simp only [KR6] at sk
    have skip : cdP G.1 G.2 (joinL x2) = none → r07_Short.L6 x9 (.map ig) (.map ib) (.str (oF o)) (.str (oS o)) (.bool o.isSome) (.int .i64 ((j : Int) + 1)) m [.code r07_Short.r36, .code .ret] = some (selJ ((cand G.1 G.2 (joinL x2 :: (S.1.drop (j + 1)).map kJ)).foldl selS o), Mem.empty) := by
      intro hc
      rw [show cand G.1 G.2 (joinL x2 :: (S.1.drop (j + 1)).map kJ) = cand G.1 G.2 ((S.1.drop (j + 1)).map kJ) by rw [cand, List.filterMap_cons, hc]; rfl]
      exact sk o ho
    show _ = some (selJ ((cand G.1 G.2 (joinL x2 :: (S.1.drop (j + 1)).map kJ)).foldl selS o), Mem.empty)
    cases eg : G.1 (joinL x2) with
    | none =>
      have skip := skip (by unfold cdP; rw [eg])
      rw [eg] at lg
      simp only [lkZ, cond_true] at lg
      cases eb : G.2 (joinL x2) with
      | none =>
        rw [eb] at lb
        simp only [lkZ, cond_true] at lb
        rw [r07_Short.L6_eq]
        simp [KR6, P.p.len, hj, P.p.idx hj, ff1, f1, lg, lb, hwj, skip]
        done
      | some v =>
        rw [eb] at lb
        simp only [lkZ, cond_true] at lb
        rw [r07_Short.L6_eq]
        simp [KR6, P.p.len, hj, P.p.idx hj, ff1, f1, lg, lb, hwj, skip]
        done
    | some u =>
      rw [eg] at lg
      simp only [lkZ, cond_true] at lg
      cases eb : G.2 (joinL x2) with
      | none =>
        have skip := skip (by unfold cdP; rw [eg, eb])
        rw [eb] at lb
        simp only [lkZ, cond_true] at lb
        rw [r07_Short.L6_eq]
        simp [KR6, P.p.len, hj, P.p.idx hj, ff1, f1, lg, lb, hwj, skip]
        done
      | some v =>
        rw [eb] at lb
        simp only [lkZ, cond_true] at lb
        have hc : cdP G.1 G.2 (joinL x2) = some (u, v) := by unfold cdP; rw [eg, eb]
        rw [show cand G.1 G.2 (joinL x2 :: (S.1.drop (j + 1)).map kJ) = (u, v) :: cand G.1 G.2 ((S.1.drop (j + 1)).map kJ) by rw [cand, List.filterMap_cons, hc]; rfl, List.foldl_cons]
        have hu := hG _ _ (.inl eg)
        have hv := hG _ _ (.inr eb)
        have new := sk (some (u, v)) (fun q hq => by cases hq; exact ⟨hu, hv⟩)
        simp only [oF, oS, Option.map_some, Option.getD_some, Option.isSome_some] at new
        match o, ho with
        | none, _ =>
          rw [r07_Short.L6_eq]
          simp [KR6, P.p.len, hj, P.p.idx hj, ff1, f1, lg, lb, hwj, selS, oF, oS, new]
          done
        | some q, ho =>
          obtain ⟨q1, q2⟩ := q
          obtain ⟨hq1, hq2⟩ := ho _ rfl
          have old := sk (some (q1, q2)) ho
          simp only [oF, oS, Option.map_some, Option.getD_some, Option.isSome_some] at old
          have m1 : max ((u.length : Nat) : Int) ((v.length : Nat) : Int) = ((max u.length v.length : Nat) : Int) := by omega
          have m2 : max ((q1.length : Nat) : Int) ((q2.length : Nat) : Int) = ((max q1.length q2.length : Nat) : Int) := by omega
          have y1 := fun m => less_spec u q1 hu hq1 m
          have y2 := fun m => less_spec v q2 hv hq2 m
          have hsel : selS (some (q1, q2)) (u, v) = if btr (u, v) (q1, q2) = true then some (u, v) else some (q1, q2) := rfl
          rw [hsel]
          unfold btr mxl
          simp only [oF, oS, Option.map_some, Option.getD_some, Option.isSome_some]
          by_cases c1 : max u.length v.length < max q1.length q2.length
          · simp only [c1, decide_true, Bool.true_or, if_true]
            rw [r07_Short.L6_eq]
            simp [KR6, P.p.len, hj, P.p.idx hj, ff1, f1, lg, lb, hwj, m1, m2, c1, new]
            done
          · have c1' : decide (max u.length v.length < max q1.length q2.length) = false := decide_eq_false c1
            simp only [c1', Bool.false_or]
            by_cases c2 : max u.length v.length = max q1.length q2.length
            · simp only [c2, decide_true, Bool.true_and]
              rw [c2] at m1
              have c1 : ¬ max q1.length q2.length < max q1.length q2.length := by omega
              cases c3 : lessW u q1 with
              | true =>
                rw [c3] at y1
                simp only [Bool.true_or, if_true]
                rw [r07_Short.L6_eq]
                simp [KR6, P.p.len, hj, P.p.idx hj, ff1, f1, lg, lb, hwj, m1, m2, c1, y1, new]
                done
              | false =>
                rw [c3] at y1
                by_cases c4 : u = q1
                · subst c4
                  cases c5 : lessW v q2 with
                  | true =>
                    rw [c5] at y2
                    simp only [decide_true, Bool.and_self, Bool.or_true, if_true]
                    rw [r07_Short.L6_eq]
                    simp [KR6, P.p.len, hj, P.p.idx hj, ff1, f1, lg, lb, hwj, m1, m2, c1, y1, y2, new]
                    done
                  | false =>
                    rw [c5] at y2
                    simp only [Bool.and_false, Bool.or_false, Bool.false_eq_true, if_false]
                    rw [r07_Short.L6_eq]
                    simp [KR6, P.p.len, hj, P.p.idx hj, ff1, f1, lg, lb, hwj, m1, m2, c1, y1, y2, old]
                    done
                · simp only [c4, decide_false, Bool.false_and, Bool.or_false, Bool.false_eq_true, if_false]
                  rw [r07_Short.L6_eq]
                  simp [KR6, P.p.len, hj, P.p.idx hj, ff1, f1, lg, lb, hwj, m1, m2, c1, c4, y1, old]
                  done
            · simp only [c2, decide_false, Bool.false_and, Bool.false_eq_true, if_false]
              have c2' : ¬ ((max u.length v.length : Nat) : Int) = (max q1.length q2.length : Nat) := by omega
              rw [r07_Short.L6_eq]
              simp [KR6, P.p.len, hj, P.p.idx hj, ff1, f1, lg, lb, hwj, m1, m2, c1, c2', old]
              done
def rshB (rows : List (List Int)) (k K : Nat) : Option ST := bfsF (nxJ rows K) extL k 5002 0 sho0
def rshG (good : List Bool) (S : ST) : WFn × WFn := (S.1.zip S.2).foldl (rcS (κ := kJ) (sd := sdG good)) (fun _ => none, fun _ => none)
def rshV (good : List Bool) : Option ST → AV
  | none => fulJ
  | some S => selJ (sel (cand (rshG good S).1 (rshG good S).2 (S.1.map kJ)))
theorem rshB_ok {rows : List (List Int)} {good : List Bool} {k K : Nat} (v : VB rows good k) {S : ST} (h : rshB rows k K = some S) : BOk (OkR rows.length k K) List.length S ∧ S.1.length ≤ 5000 :=
  ⟨bfsF_bok (fun x a hx ha => nxJ_ok v K x a hx ha) (fun w a => by simp [extL, ltr]) h (bok0 (okR0 v.n1)), bfsF_le h (by simp [sho0])⟩
theorem rc_wl {α : Type} {κ : α → List UInt8} {sd : α → Bool} {B : Nat} : ∀ (L : List (α × List UInt8)) (G : WFn × WFn), (∀ q ∈ L, q.2.length ≤ B) → (∀ p w, G.1 p = some w ∨ G.2 p = some w → w.length ≤ B) → ∀ p w, (L.foldl (rcS (κ := κ) (sd := sd)) G).1 p = some w ∨ (L.foldl (rcS (κ := κ) (sd := sd)) G).2 p = some w → w.length ≤ B
  | [], G, _, h => h
  | q :: L, G, hL, h => by
    rw [List.foldl_cons]
    refine rc_wl L _ (fun q' hq' => hL q' (by simp [hq'])) ?_
    have hq := hL q (by simp)
    intro p u
    rcases rcS_cases (κ := κ) (sd := sd) G q with e | e | e
    · rw [e]; exact h p u
    · rw [e]
      simp only [putF]
      rintro (g | g)
      · split at g
        · cases g; exact hq
        · exact h _ _ (.inl g)
      · exact h _ _ (.inr g)
    · rw [e]
      simp only [putF]
      rintro (g | g)
      · exact h _ _ (.inl g)
      · split at g
        · cases g; exact hq
        · exact h _ _ (.inr g)
theorem upd104 {h : Nat → Option AObj} {nx id : Nat} {v : AV} (e : h id = some (.map 0 [] [])) : updM prog ⟨h, nx⟩ 104 (.map id) (.agg [.int .i64 0, .str [47]]) v = some (.tup [], ⟨upd h id (some (.map 1 [.agg [.int .i64 0, .str [47]]] [v])), nx⟩) := by
  have k := (keysJ 1 0 0).key (0, [[]]) (okR0 (by omega))
  have e1 : joinL [[]] = [47] := rfl
  simp only [encJ, cJ, Int.ofNat_zero, Int.cast_ofNat_Int, e1] at k
  simp only [updM, updP, k, cond_true, e, setK, Option.bind_some, Option.map_some]
  rfl
theorem rshort_ok {nv gv : AV} {ps : List AV} {rows : List (List Int)} {good : List Bool} (hn : IsRows nv ps rows) (hg : IsB gv good) (c0 : validB rows good = true) {K : Nat} (K3 : K ≤ 3) (m : Mem) :
    denC prog ann 20 [.agg [nv, gv], .int .i64 K] m = some (rshV (goodM rows good (cth rows 0).length) (rshB (rowsM rows good (cth rows 0).length) (cth rows 0).length K), m) := by
  have v := VB.of c0
  have h2 := fun m => rsmallest_spec hn hg v m
  rw [resV_eq] at h2
  have vm := VB_M v
  have hm := isRows_M rows good (cth rows 0).length
  have hb := isB_M rows good (cth rows 0).length
  generalize hR : rowsM rows good (cth rows 0).length = R at *
  generalize hG : goodM rows good (cth rows 0).length = gd at *
  generalize nvM rows good (cth rows 0).length = nvm at *
  generalize gvM rows good (cth rows 0).length = gvm at *
  generalize psM rows good (cth rows 0).length = psm at *
  generalize (cth rows 0).length = k at *
  have ok0 := okR0 (n := R.length) (k := k) (K := K) vm.n1
  have run : ∀ (h : Nat → Option AObj) (n9 n10 n11 n12 nx : Nat), h n9 = some (.cells [.int .i64 0, .str [47]]) → h n10 = some (.cells [.str []]) → h n11 = some (.cells [.fsl true 1 [.str []]]) → h n12 = some (.map 1 [.agg [.int .i64 0, .str [47]]] [.bool true]) → n9 < n10 → n10 < n11 → n11 < n12 → n12 < nx →
      r07_Short.L0 (.int .i64 K) (.fptr [nvm, gvm]) (.sl n9 2 0 1 2) (.sl n10 1 0 1 1) (.sl n11 1 0 1 1) (.map n12) (.int .i64 0) ⟨h, nx⟩ KRs = some (rshV gd (rshB R k K), Mem.empty) := by
    intro h n9 n10 n11 n12 nx e1 e2 e3 e4 l1 l2 l3 l4
    have P0 : Pr h nx (.sl n9 2 0 1 2) (.sl n10 1 0 1 1) (.sl n11 1 0 1 1) n9 n10 n11 n12 sho0 [.fsl true 1 [.str []]] := by
      refine ⟨⟨⟨[], rfl, e1⟩, rfl, by show n9 < nx; omega⟩, ⟨⟨[], rfl, e2⟩, rfl, by show n10 < nx; omega⟩, ⟨⟨[], rfl, e3⟩, rfl, by show n11 < nx; omega⟩, fun j x hj => ?_, ⟨⟨1, e4⟩, by show n12 < nx; omega⟩, by omega, by omega, by omega, by omega, by omega, by omega⟩
      have : j = 0 := by have := (List.getElem?_eq_some_iff.1 hj).1; simp [sho0] at this; omega
      subst this
      simp [sho0] at hj
      subst hj
      exact ⟨true, rfl⟩
    have := rsho_out (gv := gvm) (r := (rshV gd (rshB R k K), Mem.empty)) hm vm K3 5002 0 n9 n10 n11 ⟨h, nx⟩ _ _ _ sho0 _ P0 (bok0 ok0) (by simp [sho0]) (by simp) (by omega) (fun S hS m' x9' x10' x11' i9' i10' i11' vs' P => by
      have hS : rshB R k K = some S := hS
      obtain ⟨B1, B2⟩ := rshB_ok vm hS
      rw [hS]
      have wl : ∀ w ∈ S.2, w.length ≤ 1000000 := fun w hw => by have := B1.wl w hw; have := B1.len; omega
      have t9 : i9' < m'.nx := P.p.lt
      have t10 : i10' < m'.nx := P.w.lt
      have hz : ∀ q ∈ S.1.zip S.2, q.2.length ≤ 1000000 := fun q hq => wl q.2 (List.of_mem_zip hq).2
      have G1 := rc_wl (κ := kJ) (sd := sdG gd) (S.1.zip S.2) (fun _ => none, fun _ => none) hz (by rintro p w (h | h) <;> cases h)
      have P40 : P4 (upd (upd m'.h m'.nx (some (.map 0 [] []))) (m'.nx + 1) (some (.map 0 [] []))) (m'.nx + 1 + 1) x9' x10' i9' i10' m'.nx (m'.nx + 1) S (fun _ => none, fun _ => none) :=
        ⟨P.p.frame (by show upd _ _ _ i9' = _; rw [updNe (by omega), updNe (by omega)]) (by show m'.nx ≤ m'.nx + 1 + 1; omega), P.w.frame (by show upd _ _ _ i10' = _; rw [updNe (by omega), updNe (by omega)]) (by show m'.nx ≤ m'.nx + 1 + 1; omega), Mf.new (by rw [updNe (by omega)]; simp), Mf.new (by simp), by omega, by omega, by omega, by omega, by omega, by omega, by omega⟩
      have st := r4_loop (nv := nvm) (r := (rshV gd (some S), Mem.empty)) hb vm.gl B1.len B2 (fun x hx => (B1.all x hx).lt) wl S.1.length 0 ⟨upd (upd m'.h m'.nx (some (.map 0 [] []))) (m'.nx + 1) (some (.map 0 [] [])), m'.nx + 1 + 1⟩ _ (by omega) P40 (by rintro p w (h | h) <;> cases h) (fun m2 P2 => by
        have e := r6_loop B2 G1 P2 S.1.length 0 none (by omega) (fun p hp => by cases hp)
        exact e)
      exact st) (fun hnone => by
      have hnone : rshB R k K = none := hnone
      rw [hnone]; rfl)
    exact this
  simp only [KRs] at run
  rw [r07_Short.call_eq _ _ _ (by simp [hn.closed, hg.closed])]
  simp [hn.one, hg.one, hn.closed, hg.closed, hm.one, hb.one, hm.closed, hb.closed, h2, AV.flat, AV.flat1, upd104]
  rw [run _ 2 3 5 6 14 (by simp) (by simp) (by simp) (by simp) (by omega) (by omega) (by omega) (by omega)]
  rfl
end Go.Proofs.Ythnpflkpjimkfaa

/-
  PROGRAM AND SPECIFICATION SEARCH SIDE BY SIDE: plain law of Short. Conditions: none.
-/
namespace Go.Proofs.Ythnpflkpjimkfaa
open Go.AM
open Go.Proofs.Try (prog)
set_option linter.all false
set_option maxRecDepth 100000
set_option maxHeartbeats 8000000
def RelN (x y : PT) : Prop := x.1 = y.1 ∧ ∀ w, w ∈ x.2 ↔ w ∈ y.2
theorem RelN.eq {n k K : Nat} (x y u v : PT) (hx : OkP n k K x) (hu : OkP n k K u) (hy : OkR n k K y) (hv : OkR n k K v) (h : RelN x y) (g : RelN u v) : x = u ↔ y = v := by
  constructor
  · intro e
    subst e
    have : y.2 = v.2 := sortR_uniq hy.s hv.s fun w => by rw [← h.2, ← g.2]
    exact Prod.ext (by rw [← h.1, ← g.1]) this
  · intro e
    subst e
    have : x.2 = u.2 := sortP_uniq hx.s hu.s hx.p.nd hu.p.nd fun w => by rw [h.2, g.2]
    exact Prod.ext (by rw [h.1, g.1]) this
theorem RelN.step {rows : List (List Int)} {good : List Bool} {k K : Nat} (v : VB rows good k) (x y : PT) (a : Nat) (hx : OkP rows.length k K x) (hy : OkR rows.length k K y) (h : RelN x y) (ha : a < k) :
    RelN (nxN rows K x a) (nxJ rows K y a) ∧ OkP rows.length k K (nxN rows K x a) ∧ OkR rows.length k K (nxJ rows K y a) := by
  refine ⟨⟨by simp [nxN, nxJ, h.1], fun w => ?_⟩, nxN_ok v K x a hx ha, nxJ_ok v K y a hy ha⟩
  have h1 := addP_adds K x.2 (ltr a) w
  have h2 := addR_adds hy.p (ltr a) w
  show w ∈ addP K x.2 (ltr a) ↔ w ∈ addR K y.2 (ltr a)
  rw [h1, h2, h.2]
  constructor
  · rintro (g | ⟨p, g1, g2⟩)
    · exact .inl g
    · exact .inr ⟨p, (h.2 p).1 g1, g2⟩
  · rintro (g | ⟨p, g1, g2⟩)
    · exact .inl g
    · exact .inr ⟨p, (h.2 p).2 g1, g2⟩
theorem two_sho {rows : List (List Int)} {good : List Bool} {k K : Nat} (v : VB rows good k) : Rel2 RelN (OkP rows.length k K) (OkR rows.length k K) (shoB rows k K) (rshB rows k K) :=
  two_bfs (fun x y u w => RelN.eq x y u w) (fun x y a => RelN.step v x y a) 5002 0 sho0 sho0 ⟨rfl, rfl, fun i x y h1 h2 => by
    have : i = 0 := by have := (List.getElem?_eq_some_iff.1 h1).1; simp [sho0] at this; omega
    subst this
    simp [sho0] at h1 h2
    subst h1 h2
    exact ⟨⟨rfl, fun _ => Iff.rfl⟩, okP0 v.n1, okR0 v.n1⟩⟩
theorem sho_inc {rows : List (List Int)} {good : List Bool} {k K : Nat} (v : VB rows good k) {S : ST} (h : shoB rows k K = some S) : S.2.Pairwise fun u w => rk u < rk w :=
  inc_bfs v.k3 h (fun w hw => by
    simp [sho0] at hw
    subst hw
    exact ⟨by simp [sho0], fun y hy => by simp [sho0] at hy; subst hy; rw [rk_nil]; omega⟩) (by simp [sho0])
theorem find2 {α β γ : Type} : ∀ (L : List (α × γ)) (L' : List (β × γ)) (p : α × γ → Bool) (p' : β × γ → Bool), L.length = L'.length → (∀ (i : Nat) x y, L[i]? = some x → L'[i]? = some y → x.2 = y.2 ∧ p x = p' y) → (L.find? p).map (·.2) = (L'.find? p').map (·.2)
  | [], [], _, _, _, _ => rfl
  | [], _ :: _, _, _, h, _ => by simp at h
  | _ :: _, [], _, _, h, _ => by simp at h
  | x :: L, y :: L', p, p', h, e => by
    obtain ⟨e1, e2⟩ := e 0 x y rfl rfl
    rw [List.find?_cons, List.find?_cons, e2]
    cases p' y with
    | true => simp [e1]
    | false => exact find2 L L' p p' (by simpa using h) fun i u v h1 h2 => e (i + 1) u v (by simpa using h1) (by simpa using h2)
section
variable {rows : List (List Int)} {good : List Bool} {k K : Nat} {S S' : ST}
theorem zip_at {α β : Type} {l : List α} {r : List β} {i : Nat} {q : α × β} (h : (l.zip r)[i]? = some q) : l[i]? = some q.1 ∧ r[i]? = some q.2 := by
  rw [List.getElem?_zip_eq_some] at h; exact h
theorem fnd2 (T : Two RelN (OkP rows.length k K) (OkR rows.length k K) S S') {x y : PT} (hx : OkP rows.length k K x) (hy : OkR rows.length k K y) (h : RelN x y) (b : Bool) :
    fnd kN (sdG good) b (S.1.zip S.2) (kN x) = fnd kJ (sdG good) b (S'.1.zip S'.2) (kJ y) := by
  refine find2 _ _ _ _ (by simp [T.l, T.w]) fun i u w h1 h2 => ?_
  obtain ⟨a1, a2⟩ := zip_at h1
  obtain ⟨b1, b2⟩ := zip_at h2
  obtain ⟨r1, r2, r3⟩ := T.r i _ _ a1 b1
  refine ⟨?_, ?_⟩
  · rw [T.w, b2] at a2; exact (Option.some.inj a2).symm
  · have e1 : sdG good u.1 = sdG good w.1 := by simp only [sdG]; rw [r1.1]
    have e2 : (kN u.1 = kN x) ↔ (kJ w.1 = kJ y) := by
      constructor
      · intro e
        have e := nameP_inj r2 hx e
        have : w.1.2 = y.2 := sortR_uniq r3.s hy.s fun z => by rw [← r1.2, ← h.2, e]
        simp only [kJ]; rw [this]
      · intro e
        have e := joinR_inj r3 hy e
        have : u.1.2 = x.2 := sortP_uniq r2.s hx.s r2.p.nd hx.p.nd fun z => by rw [r1.2, h.2, e]
        simp only [kN]; rw [this]
    rw [e1, decide_eq_decide.2 e2]
theorem rshG_eq (hi : S'.2.Pairwise fun u w => rk u < rk w) (hl : S'.1.length = S'.2.length) : rshG good S' = ((fcA kJ (sdG good) (S'.1.zip S'.2)).1, (fcA kJ (sdG good) (S'.1.zip S'.2)).2.1) := by
  have e : (S'.1.zip S'.2).map (·.2) = S'.2 := List.map_snd_zip (by omega)
  exact rc_fc (S'.1.zip S'.2) G0 0 (by rw [e]; exact hi) (fun q _ => by omega) (by rintro p w (h | h) <;> cases h)
theorem cand_same (T : Two RelN (OkP rows.length k K) (OkR rows.length k K) S S') (hl : S.1.length = S.2.length) (hi : S.2.Pairwise fun u w => rk u < rk w) (p : WW) :
    p ∈ cand (shoG good S).1 (shoG good S).2.1 (shoG good S).2.2 ↔ p ∈ cand (rshG good S').1 (rshG good S').2 (S'.1.map kJ) := by
  have hl' : S'.1.length = S'.2.length := by rw [← T.l, hl, T.w]
  rw [cand_mem, cand_mem, rshG_eq (by rw [← T.w]; exact hi) hl']
  have hnm := fc_names (κ := kN) (sd := sdG good) (S.1.zip S.2) G0 (by rintro p (h | h) <;> exact absurd rfl h)
  have hnm : ∀ p, p ∈ (shoG good S).2.2 ↔ ∃ q ∈ S.1.zip S.2, kN q.1 = p := fun p => by
    have := hnm p
    rw [show (List.foldl (fcS kN (sdG good)) G0 (S.1.zip S.2)) = shoG good S from rfl] at this
    rw [this]; simp [G0]
  have g1 : ∀ q, (fcA kJ (sdG good) (S'.1.zip S'.2)).1 q = fnd kJ (sdG good) true (S'.1.zip S'.2) q := fun q => by rw [fcA, fc_good]; rfl
  have g2 : ∀ q, (fcA kJ (sdG good) (S'.1.zip S'.2)).2.1 q = fnd kJ (sdG good) false (S'.1.zip S'.2) q := fun q => by rw [fcA, fc_bad]; rfl
  constructor
  · rintro ⟨n, h1, h2, h3⟩
    obtain ⟨q, hq, rfl⟩ := (hnm n).1 h1
    obtain ⟨i, hqi⟩ := List.getElem?_of_mem hq
    obtain ⟨a1, a2⟩ := zip_at hqi
    have hlt := (List.getElem?_eq_some_iff.1 a1).1
    have hlt' : i < S'.1.length := by rw [← T.l]; exact hlt
    obtain ⟨r1, r2, r3⟩ := T.r i _ _ a1 (List.getElem?_eq_getElem hlt')
    refine ⟨kJ S'.1[i], List.mem_map.2 ⟨_, List.getElem_mem _, rfl⟩, ?_, ?_⟩
    · rw [shoG_good, fnd2 T r2 r3 r1] at h2
      rw [← h2]; exact g1 _
    · rw [shoG_bad, fnd2 T r2 r3 r1] at h3
      rw [← h3]; exact g2 _
  · rintro ⟨n, h1, h2, h3⟩
    obtain ⟨y, hy, rfl⟩ := List.mem_map.1 h1
    obtain ⟨i, hyi⟩ := List.getElem?_of_mem hy
    have hlt' := (List.getElem?_eq_some_iff.1 hyi).1
    have hlt : i < S.1.length := by rw [T.l]; exact hlt'
    have hlt2 : i < S.2.length := by omega
    obtain ⟨r1, r2, r3⟩ := T.r i _ _ (List.getElem?_eq_getElem hlt) hyi
    refine ⟨kN S.1[i], (hnm _).2 ⟨(S.1[i], S.2[i]), ?_, rfl⟩, ?_, ?_⟩
    · have : (S.1.zip S.2)[i]? = some (S.1[i], S.2[i]) := by rw [List.getElem?_zip_eq_some]; exact ⟨List.getElem?_eq_getElem hlt, List.getElem?_eq_getElem hlt2⟩
      exact List.mem_of_getElem? this
    · rw [shoG_good, fnd2 T r2 r3 r1, ← h2]; exact (g1 _).symm
    · rw [shoG_bad, fnd2 T r2 r3 r1, ← h3]; exact (g2 _).symm
end
def rV : Option (Option WW) → AV
  | none => fulJ
  | some o => selJ o
def pV : Option (Option WW) → AV
  | none => fulV
  | some o => selV o
def shoR (good : List Bool) : Option ST → Option (Option WW)
  | none => none
  | some S => some (sel (cand (shoG good S).1 (shoG good S).2.1 (shoG good S).2.2))
theorem shoV_R (good : List Bool) (o : Option ST) : shoV good o = pV (shoR good o) := by cases o <;> rfl
theorem rshV_R {rows : List (List Int)} {good : List Bool} {k K : Nat} (v : VB rows good k) : rshV good (rshB rows k K) = rV (shoR good (shoB rows k K)) := by
  have T := two_sho (K := K) v
  have hi := fun S => sho_inc (K := K) v (S := S)
  have hl := fun S => (shoB_ok (K := K) v (S := S))
  revert T hi hl
  generalize shoB rows k K = o
  generalize rshB rows k K = o'
  intro T hi hl
  match o, o', T with
  | none, none, _ => rfl
  | some S, some S', T =>
    show selJ _ = selJ _
    rw [sel_eq (cand_same T (hl S rfl).1.len (hi S rfl))]
  | none, some _, T => exact T.elim
  | some _, none, T => exact T.elim
end Go.Proofs.Ythnpflkpjimkfaa

/-
  BrandShorts: the law answers true. Conditions: none.
-/
namespace Go.Proofs.Ythnpflkpjimkfaa
open Go.AM
open Go.Proofs.Try (prog)
set_option linter.all false
set_option maxRecDepth 100000
set_option maxHeartbeats 8000000
theorem sho_runs {d : Nat} (a0 a1 : AV) (h0 : DatV prog (d + 4) 25 a0) (h1 : DatV prog (d + 4) 3 a1) : ∃ m', denC prog ann 3 [a0, a1] Mem.empty = some (.bool true, m') := by
  obtain ⟨nv, gv, ps, rows, good, rfl, hn, hg, hgl, hrl⟩ := datV25 h0
  obtain ⟨K, rfl⟩ := datV3 h1
  obtain ⟨nv1, gv1, ps1, hn1, hg1, hc1⟩ := cut_spec hn hg hgl hrl
  have hl1 := cutR_len rows
  have hr1 : ∀ i, i < (cutR rows).length → (cth (cutR rows) i).length ≤ 1000 := fun i hi => by have := cutR_row rows i hi; omega
  have hg71 : (good.take 7).length ≤ 7 := by simp; omega
  have hcl : closedL [.agg [nv, gv], .int .i64 K] = true := by simp [hn.closed, hg.closed]
  generalize good.take 7 = gd at *
  generalize cutR rows = R at *
  have hv1 := fun m => rvalid_spec hn1 hg1 (by omega) (by omega) hr1 m
  refine ⟨Mem.empty, ?_⟩
  rw [l07_BrandShorts.call_eq _ _ _ hcl]
  by_cases c0 : validB R gd = false ∨ K < 0 ∨ 3 < K
  · have hs := fun m => short_bad hn1 hg1 (by omega) (by omega) hr1 c0 m
    cases c1 : validB R gd with
    | false =>
      rw [c1] at hv1
      simp [hn.one, hg.one, hn.closed, hg.closed, hc1, hn1.one, hg1.one, hn1.closed, hg1.closed, hn1.cells, hg1.cells, hs, hv1, lives_spec]
      done
    | true =>
      rw [c1] at hv1 c0
      by_cases k0 : K < 0
      · simp [hn.one, hg.one, hn.closed, hg.closed, hc1, hn1.one, hg1.one, hn1.closed, hg1.closed, hn1.cells, hg1.cells, hs, hv1, k0, lives_spec]
        done
      · have k3 : 3 < K := by
          rcases c0 with c0 | c0 | c0
          · cases c0
          · omega
          · exact c0
        simp [hn.one, hg.one, hn.closed, hg.closed, hc1, hn1.one, hg1.one, hn1.closed, hg1.closed, hn1.cells, hg1.cells, hs, hv1, k0, k3, lives_spec]
        done
  · have c1 : validB R gd = true := by
      cases h : validB R gd with
      | true => rfl
      | false => exact absurd (.inl h) c0
    obtain ⟨N, rfl⟩ : ∃ N : Nat, K = N := ⟨K.toNat, by omega⟩
    have N3 : N ≤ 3 := by omega
    have v := VB.of c1
    have vm := VB_M v
    have hs := fun m => short_ok hn1 hg1 (by omega) (by omega) hr1 c1 N3 m
    have ht := fun m => rshort_ok hn1 hg1 c1 N3 m
    rw [c1] at hv1
    rw [shoV_R] at hs
    rw [rshV_R vm] at ht
    have n3 : ¬ (3 : Int) < N := by omega
    generalize shoR (goodM R gd (cth R 0).length) (shoB (rowsM R gd (cth R 0).length) (cth R 0).length N) = o at *
    match o with
    | none =>
      simp only [pV, rV, fulV, fulJ] at hs ht
      simp [hn.one, hg.one, hn.closed, hg.closed, hc1, hn1.one, hg1.one, hn1.closed, hg1.closed, hn1.cells, hg1.cells, hs, ht, hv1, n3, lives_spec]
      done
    | some none =>
      simp only [pV, rV, selV, selJ] at hs ht
      simp [hn.one, hg.one, hn.closed, hg.closed, hc1, hn1.one, hg1.one, hn1.closed, hg1.closed, hn1.cells, hg1.cells, hs, ht, hv1, n3, lives_spec]
      done
    | some (some p) =>
      simp only [pV, rV, selV, selJ] at hs ht
      simp [hn.one, hg.one, hn.closed, hg.closed, hc1, hn1.one, hg1.one, hn1.closed, hg1.closed, hn1.cells, hg1.cells, hs, ht, hv1, n3, lives_spec]
      done
end Go.Proofs.Ythnpflkpjimkfaa
