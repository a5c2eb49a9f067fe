/-
  THE STATEMENT 'Rows.TopSeamsSaid': the law returns true whatever its arguments hold, and they read behind the call as before. Conditions: none.
-/
import Derived.Test.YtdkmepjedjclkaaRows
import Derived.WalkKit
import Derived.ProofKit
import Derived.OpenShut
import Derived.ShutString
import Derived.ChangeOld
import Derived.Below
import Derived.SizedLaws
import Derived.Test.YtdkmepjedjclkaaKAmF
import Derived.Test.YtdkmepjedjclkaaK00
import Derived.Test.YtdkmepjedjclkaaK07
set_option linter.all false
namespace Go.Proofs.Ytdkmepjedjclkaa.TopSeamsDone
open Go.ChangeShapes Go.WideShapes Go.ChangeAt Go.RowKit Go.AM
set_option linter.all false
set_option maxRecDepth 100000
theorem own : ownKnob Try.prog.godebug = none := by kernel_rfl
theorem laidOut : laidOutB Try.prog = true := by kernel_rfl
def noNumB (P : Program) : Bool := P.funcs.all fun fn => !(fn.body.isSome && fn.name == "runtime.NumGoroutine")
theorem noNum : NoNum Try.prog := by
  have h : noNumB Try.prog = true := by kernel_rfl
  intro g fn hf hb
  rw [noNumB, Array.all_eq_true] at h
  obtain ⟨hg, rfl⟩ := Array.getElem?_eq_some_iff.1 hf
  have := h g hg
  simp only [hb, Bool.true_and, Bool.not_eq_true'] at this
  exact this
theorem globS {W : World} : GlobOk W (fun b => b < W.heap.size) := fun _ => trivial
theorem len_bound {H : Type} {enc : TypeId × Value → H} {W : World} {base : Nat} {sp : Nat → Bool} {held : Bool} {v : Value} {x : DataW H} {ps : List MemPlace} {N : Nat → Prop} {i : Pl} {a : AV} (h : DataW.Trod enc Try.prog W base sp held 76 v x ps) (hr : Rep W N i a v) : lenAV a = 0 ∨ ∃ elems spare, x = .slice elems spare ∧ lenAV a = elems.length := by
  cases a with
  | fsl ex n cells =>
    obtain ⟨a', cap, vs, e, _⟩ := hr
    subst e
    obtain ⟨fuel, hf⟩ := h
    rcases DataW.trod_slice (e := 5) (by kernel_rfl) hf with ⟨h1, _⟩ | ⟨a2, len, cap2, elems, rest, n2, _, hc, hx, _, _, _, hl, _⟩
    · simp [Value.cells] at h1
    · refine .inr ⟨_, _, (Prod.mk.inj hx).1, ?_⟩
      simp [Value.cells] at hc
      simp [lenAV, hl, hc.2.1]
  | _ => exact .inl rfl
theorem lifted (os : Os) (started : os.Started) (H : Type) (enc : TypeId × Value → H) :
    ReturnsInHanded {} Try.checked os 13 .any (Rows.topSeamsSpec.pre6 enc Try.prog Try.f13 Rows.topSeamsRow.domain false) (Rows.topSeamsSpec.post enc Try.prog Try.f13 false true false false) := by
  refine returnsInHanded_of_change_sized (C := Try.checked) own started (by kernel_rfl) Try.func13
    (ChangeSpec.witness6 (enc := enc) (C := Try.checked) false ⟨#[], #[.int .u8 0, .slice none 0 0, .slice none 0 0], []⟩ 8 (by kernel_rfl) (by kernel_rfl) (by kernel_rfl) (by kernel_rfl)) ?_
  intro W base args ds gs before hval0 hW hcnd hsz _
  have hval : ∀ (j : Nat) t v, Try.f13.params[j]? = some t → args[j]? = some v → Value.okWide Try.prog W .any base t v := hval0
  have hW' := hW
  obtain ⟨p, q, hA0, hV, rfl, hfz, hnd⟩ := hW
  have hA : DataW.TrodAll enc Try.prog W 0 (fun _ => true) true Try.f13.params.toList args.toList ds p := hA0
  rw [Try.params13] at hA hval hsz
  obtain ⟨v0, vs0, d0, ds0, p0, q0, hargs, rfl, rfl, h0, r0⟩ := trodAll_cons hA
  obtain ⟨v1, vs1, d1, ds1, p1, q1, rfl, rfl, rfl, h1, r1⟩ := trodAll_cons r0
  obtain ⟨v2, vs2, d2, ds2, p2, q2, rfl, rfl, rfl, h2, r2⟩ := trodAll_cons r1
  obtain ⟨rfl, rfl, rfl⟩ := trodAll_nil r2
  obtain rfl : args = #[v0, v1, v2] := by cases args; simp_all
  obtain ⟨rfl, rfl⟩ := trodVars_none hV
  have k0 := h0
  have lt0 : ∀ x ∈ p0, x.block < W.heap.size := by obtain ⟨m, hm⟩ := k0; exact DataW.trod_lt m _ _ _ hm
  obtain ⟨a0, ra0, da0⟩ := arg_rep (d := 8) (by kernel_rfl) (hval 0 5 v0 rfl rfl) h0
  have k1 := h1
  have lt1 : ∀ x ∈ p1, x.block < W.heap.size := by obtain ⟨m, hm⟩ := k1; exact DataW.trod_lt m _ _ _ hm
  obtain ⟨a1, ra1, da1⟩ := arg_rep (d := 8) (by kernel_rfl) (hval 1 76 v1 rfl rfl) h1
  have k2 := h2
  have lt2 : ∀ x ∈ p2, x.block < W.heap.size := by obtain ⟨m, hm⟩ := k2; exact DataW.trod_lt m _ _ _ hm
  obtain ⟨a2, ra2, da2⟩ := arg_rep (d := 8) (by kernel_rfl) (hval 2 76 v2 rfl rfl) h2
  clear hA0 hval0
  have hb : Try.checked.prog.bytesOf 5 = 1 := by kernel_rfl
  have hrb : reachBytes = 140737488351232 := by decide
  have b1 : lenAV a1 < 1000000000000000 := by
    rcases len_bound h1 ra1 with h | ⟨el, sp, e, h⟩
    · omega
    · have := sized_slice hsz (j := 1) (t := 76) (e := 5) (elems := el) (spare := sp) rfl (by rw [← e]; rfl) (by kernel_rfl)
      rw [hb, hrb] at this
      omega
  have b2 : lenAV a2 < 1000000000000000 := by
    rcases len_bound h2 ra2 with h | ⟨el, sp, e, h⟩
    · omega
    · have := sized_slice hsz (j := 2) (t := 76) (e := 5) (elems := el) (spare := sp) rfl (by rw [← e]; rfl) (by kernel_rfl)
      rw [hb, hrb] at this
      omega
  obtain ⟨m', hr⟩ := seams_runs a0 a1 a2 da0 da1 da2 b1 b2
  refine (law_calls noNum (by kernel_rfl) libS hr globS (RepL.cons ra0 (RepL.cons ra1 (RepL.cons ra2 (RepL.nil))))).mono fun e W' ⟨he, bel⟩ => ?_
  subst he
  exact ⟨_, rfl, _, _, _, [], _, [], hW', trodAll_mk1 (shut_bool Try.underlying4 _), (trodAll_cons_mk (Below.trod laidOut (by kernel_rfl) (of_decide_eq_true (by kernel_rfl)) k0 bel lt0) (trodAll_cons_mk (Below.trod laidOut (by kernel_rfl) (of_decide_eq_true (by kernel_rfl)) k1 bel lt1) (trodAll_cons_mk (Below.trod laidOut (by kernel_rfl) (of_decide_eq_true (by kernel_rfl)) k2 bel lt2) (trodAll_mk0)))), rfl, bel.frame _, fun h => by cases h⟩
theorem over : Rows.topSeamsRow.holds Try.pinned (OpenSpec.ofChange Rows.topSeamsSpec) :=
  OpenClaim.holds_of_wide 13 Try.f13 rfl rfl rfl rfl rfl rfl rfl ⟨rfl, rfl, rfl, rfl, rfl⟩ rfl rfl rfl rfl rfl (by kernel_rfl) Try.func13 (by kernel_rfl)
    (of_decide_eq_true (by kernel_rfl)) (by unfold Func.isWrapper; first | (rw [if_pos (by decide +kernel)]; kernel_rfl) | (rw [if_neg (by decide +kernel)]; exact ⟨rfl, rfl⟩))
    (fun os started H enc _ => lifted os started H enc)
theorem proved : Rows.TopSeamsSaid := over
#print axioms proved
end Go.Proofs.Ytdkmepjedjclkaa.TopSeamsDone
