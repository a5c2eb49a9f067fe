/-
  THE STATEMENT 'Rows.TopKeptCardSaid': the law returns true whatever its arguments hold, and they read behind the call as before. Conditions: none.
-/
import Derived.Test.YtadofgdidhpnpaaGreatDoorRows
import Derived.Test.YtadofgdidhpnpaaGreatDoorTie
import Derived.Test.YtadofgdidhpnpaaGreatDoorCards
import Derived.WalkKit
import Derived.ProofKit
import Derived.OpenShut
import Derived.ShutString
import Derived.ChangeOld
import Derived.Below
import Derived.LaidLaws
import Derived.Handed
import Derived.SevenTiedAt
import Derived.Test.YtadofgdidhpnpaaGreatDoorK01
import Derived.Test.YtadofgdidhpnpaaGreatDoorKAmF
import Derived.Test.YtadofgdidhpnpaaGreatDoorK02
import Derived.Test.YtadofgdidhpnpaaGreatDoorK09
set_option linter.all false
namespace Go.Proofs.YtadofgdidhpnpaaGreatDoor.TopKeptDone
open Go.ChangeShapes Go.WideShapes Go.ChangeAt Go.RowKit Go.AM
set_option linter.all false
set_option maxRecDepth 100000
theorem own:ownKnob Tryz.prog.godebug=none:=by kernel_rfl
theorem laidOut:laidOutB Tryz.prog=true:=by kernel_rfl
def lZ (P:Program):Bool:=P.funcs.all fun fn=>!(fn.body.isSome&&fn.name== "runtime.NumGoroutine")
theorem gI:NoNum Tryz.prog:=by
 have h:lZ Tryz.prog=true:=by kernel_rfl
 intro g fn hf hb
 rw [lZ,Array.all_eq_true] at h
 obtain⟨hg,rfl⟩:=Array.getElem?_eq_some_iff.1 hf
 have:=h g hg
 simp only [hb,Bool.true_and,Bool.not_eq_true'] at this
 exact this
noncomputable def evWorld (os:Os):World :=
 let w0:=World.holding Tryz.prog os ⟨#[],#[],[]⟩
 let n:=w0.heap.size
 { w0 with heap:=(w0.heap.modify 0 fun
   | .cells _ t frozen=>.cells #[.iface 206 (.pointer (some ⟨n,0,none⟩))] t frozen
   | o=>o)++#[.cells #[.string ⟨#[109,97,108,102,111,114,109,101,100,32,112,97,103,101]⟩] 222 (0,0)] }
theorem yV (os:Os) (args:Array Value):laidMetH Tryz.prog Rows.topKeptRow.laid ((evWorld os).forCall (fun _ _=>0) ⟨#[],args,[]⟩).memory :=
 laidMet_of_run' 8 (by kernel_rfl) (by kernel_rfl)
theorem Bw {W:World} (h:laidMetH Tryz.prog Rows.topKeptRow.laid W):de W (fun b=>b < W.heap.size):=by
 intro g
 unfold globV
 cases hg:g==0 with
 | false=>exact trivial
 | true =>
  have:g=0:=by simpa using hg
  subst this
  exact yW (show laidMet Tryz.prog Rows.topKeptRow.laid W from h)
theorem F4 (os:Os):Input.okWideB Tryz.checked.prog ((evWorld os).forCall (fun _ _=>0) ⟨#[],#[.agg #[.int .u8 0,.int .u8 0,.int .u8 0,.int .u8 0],.slice none 0 0,.agg #[.int .u8 0,.int .u8 0,.int .u8 0]],[]⟩) 3 ⟨#[],#[.agg #[.int .u8 0,.int .u8 0,.int .u8 0,.int .u8 0],.slice none 0 0,.agg #[.int .u8 0,.int .u8 0,.int .u8 0]],[]⟩=true:=by kernel_rfl
theorem lifted (os:Os) (started:os.Started) (H:Type) (enc:TypeId×Value→H) :
  ReturnsInHanded {} Tryz.checked os 3 .any (fun w args=>(Rows.topKeptSpec.pre enc Tryz.prog Tryz.f3 Rows.topKeptRow.domain false w args∧laidMetH Tryz.prog Rows.topKeptRow.laid w)∧sizedMet enc Tryz.prog Tryz.f3 (OpenSpec.ofChange Rows.topKeptSpec) false w args) (Rows.topKeptSpec.post enc Tryz.prog Tryz.f3 false true false false):=by
 refine returnsInHanded_of_change_and (C:=Tryz.checked) (X:=fun w _=>laidMetH Tryz.prog Rows.topKeptRow.laid w) (fun _ _ _ hh h=>h.of_heap hh) own started (by kernel_rfl) Tryz.func3
  ⟨evWorld os,fun _ _=>0,⟨#[],#[.agg #[.int .u8 0,.int .u8 0,.int .u8 0,.int .u8 0],.slice none 0 0,.agg #[.int .u8 0,.int .u8 0,.int .u8 0]],[]⟩,rfl,World.shaped_of_RefB (by kernel_rfl) (by kernel_rfl),(Input.okWide_of_okWideB (base:=0) (F4 os)).1,(Input.okWide_of_okWideB (F4 os)).2,
   ⟨⟨ChangeSpec.pre_of_preB (fuel:=8) (by kernel_rfl),yV os _⟩,sizedMet_of_sizedB (fuel:=8) (by kernel_rfl)⟩,by
    simp only [Assume.holds]
    exact⟨by simp,by simp,fun _=>Modest.zero,by simp,by simp⟩⟩ ?_
 intro W base args ds gs before hval0 hW hcnd _ hL _
 have hval:∀(j:Nat) t v,Tryz.f3.params[j]?=some t→args[j]?=some v→Value.okWide Tryz.prog W .any base t v:=hval0
 have hW':=hW
 obtain⟨p,q,hA0,hV,rfl,hfz,hnd⟩:=hW
 have hA:DataW.TrodAll enc Tryz.prog W 0 (fun _=>true) true Tryz.f3.params.toList args.toList ds p:=hA0
 rw [Tryz.params3] at hA hval
 obtain⟨v0,vs0,d0,ds0,p0,q0,hargs,rfl,rfl,h0,r0⟩:=trodAll_cons hA
 obtain⟨v1,vs1,d1,ds1,p1,q1,rfl,rfl,rfl,h1,r1⟩:=trodAll_cons r0
 obtain⟨v2,vs2,d2,ds2,p2,q2,rfl,rfl,rfl,h2,r2⟩:=trodAll_cons r1
 obtain⟨rfl,rfl,rfl⟩:=trodAll_nil r2
 obtain rfl:args=#[v0,v1,v2]:=by cases args;simp_all
 obtain⟨rfl,rfl⟩:=trodVars_none hV
 have k0:=h0
 have lt0:∀x∈p0,x.block < W.heap.size:=by obtain⟨m,hm⟩:=k0;exact DataW.trod_lt m _ _ _ hm
 obtain⟨a0,ra0,da0⟩:=pj (d:=8) (by kernel_rfl) (hval 0 22 v0 rfl rfl) h0
 have k1:=h1
 have lt1:∀x∈p1,x.block < W.heap.size:=by obtain⟨m,hm⟩:=k1;exact DataW.trod_lt m _ _ _ hm
 obtain⟨a1,ra1,da1⟩:=pj (d:=8) (by kernel_rfl) (hval 1 23 v1 rfl rfl) h1
 have k2:=h2
 have lt2:∀x∈p2,x.block < W.heap.size:=by obtain⟨m,hm⟩:=k2;exact DataW.trod_lt m _ _ _ hm
 obtain⟨a2,ra2,da2⟩:=pj (d:=8) (by kernel_rfl) (hval 2 24 v2 rfl rfl) h2
 clear hA0 hval0
 obtain⟨m',hr⟩:=wT a0 a1 a2 da0 da1 da2
 refine(wU gI (by kernel_rfl) Ik hr (Bw hL) (RepL.cons ra0 (RepL.cons ra1 (RepL.cons ra2 (RepL.nil))))).mono fun e W' ⟨he,bel⟩=>?_
 subst he
 exact⟨_,rfl,_,_,_,[],_,[],hW',trodAll_mk1 (shut_bool Tryz.underlying4 _),(trodAll_cons_mk (Below.trod laidOut (by kernel_rfl) (of_decide_eq_true (by kernel_rfl)) k0 bel lt0) (trodAll_cons_mk (Below.trod laidOut (by kernel_rfl) (of_decide_eq_true (by kernel_rfl)) k1 bel lt1) (trodAll_cons_mk (Below.trod laidOut (by kernel_rfl) (of_decide_eq_true (by kernel_rfl)) k2 bel lt2) (trodAll_mk0)))),rfl,bel.frame _,fun h=>by cases h⟩
theorem over:Rows.topKeptRow.holds Tryz.pinned (OpenSpec.ofChange Rows.topKeptSpec) :=
 OpenClaim.holds_of_wide 3 Tryz.f3 rfl rfl rfl rfl rfl rfl rfl ⟨rfl,rfl,rfl,rfl,rfl⟩ rfl rfl rfl rfl rfl (by kernel_rfl) Tryz.func3 (by kernel_rfl)
  (of_decide_eq_true (by kernel_rfl)) (by unfold Func.isWrapper;first | (rw [if_pos (by decide +kernel)];kernel_rfl) | (rw [if_neg (by decide +kernel)];exact⟨rfl,rfl⟩))
  (fun os started H enc _=>lifted os started H enc)
theorem proved:Rows.TopKeptCardSaid :=
 Claim7.holds_tied_plain_at .later [] [.sentinel] true Rows.topKeptCard.stood.harness true
  over (fun _ h=>by cases h) (by kernel_rfl) (fun _ h=>by cases h) topKept_row_tie rfl ⟨rfl,rfl⟩ (by kernel_rfl) rfl
  (fun f fn hf hfn=>by
   obtain rfl:f=3:=Option.some.inj ((show Tryz.prog.funcNamed Rows.topKeptRow.func=some 3 by kernel_rfl).symm.trans hf) |>.symm
   obtain rfl:fn=Tryz.f3:=(Option.some.inj (Tryz.func3.symm.trans hfn)).symm
   exact⟨by kernel_rfl,fun j t ht=>by
    have hall:(Tryz.f3.params.toList.all fun t=>!(Tryz.prog.wantsStandIn t))=true:=by kernel_rfl
    have hm:t∈Tryz.f3.params.toList:=List.mem_of_getElem? (by simpa using ht)
    have:=List.all_eq_true.1 hall t hm
    rw [Bool.not_eq_true'] at this
    exact this⟩)
  (by kernel_rfl)
#print axioms proved
end Go.Proofs.YtadofgdidhpnpaaGreatDoor.TopKeptDone
