/-
  slices.Chunk's ITERATOR OVER A SLICE THAT IS ONE CHUNK, in a walk. Conditions: none.
-/
import Derived.RangeFuncBox
import Derived.RangeFuncLeaves
import Derived.Shelf.Abstract
import Derived.Shelf.RegionOpen
import Derived.WalkKit
import Derived.OwnWalkIn
import Derived.TacticsInMore
import Derived.LoopNIn
import Derived.LoopIn
import Derived.Test.YtadofgdidhpnpaaGreatDoorProg
set_option linter.all false
namespace Go.Proofs.YtadofgdidhpnpaaGreatDoor
open Go.Proofs Go.RowKit Go.Shelf
open Go.Proofs.Tryz (prog)
set_option linter.all false
attribute [local go_sem] Oper.semAt_some
set_option maxRecDepth 100000 in
set_option maxHeartbeats 2000000 in
theorem tY (F:Fence) (n:Nat) (h97:F.fn 97) (hro:F.round=none) (l B1 o1 B2 o2:Nat) (W:World) (hc1:W.cell? ⟨B1,o1,none⟩=some (.slice none 0 0)) :
  CallsIn F n prog 97 #[.func (.yield l) #[] #[],.pointer (some ⟨B1,o1,none⟩),.pointer (some ⟨B2,o2,none⟩)] W fun e W'=>(∃v,e=.returned v)∧W'=W:=by
 refine callsIn_of_wp Tryz.func97 rfl h97 ?_ hro
 simp only [Tryz.ntmps97,List.size_toArray,List.length_cons,List.length_nil,Nat.reduceAdd,Nat.reduceSub,Array.replicate_succ,Array.replicate_zero,List.push_toArray,List.append_toArray,List.nil_append,List.cons_append]
 gi_wp2
 gi_loopw [4] (fun i wr=>i=.int .i64 0∧wr=W) (fun _ _=>0)
 case atStart=>exact⟨rfl,rfl⟩
 case round =>
  obtain⟨rfl,rfl⟩:=hrel
  gi_wp2
  go_end0
  exact⟨⟨_,rfl⟩,rfl⟩
set_option maxRecDepth 100000 in
set_option maxHeartbeats 2000000 in
theorem xU (F:Fence) (n:Nat) (h97:F.fn 97) (hro:F.round=none) (hn:1≤n) (l B1 o1 B2 o2 b off len cap:Nat) (W:World) (hlen:1≤len) (hle:len≤9) (hcap:len≤cap)
  (hc1:W.cell? ⟨B1,o1,none⟩=some (.slice (some ⟨b,off,none⟩) len cap)) (hc2:W.cell? ⟨B2,o2,none⟩=some (.int .i64 9)) (R:World→Prop)
  (hY:∃fn tmps assign body,(Instr.yield l #[.slice (some ⟨b,off,none⟩) len len]).run prog W.drew=.ok (.round l fn tmps assign body) W.drew∧RoundIn F (n - 1) prog l fn tmps assign body W.drew fun e W' =>
   e=.returned (.bool true)∧W'.cell? ⟨B1,o1,none⟩=some (.slice (some ⟨b,off,none⟩) len cap)∧W'.cell? ⟨B2,o2,none⟩=some (.int .i64 9)∧R W') :
  CallsIn F n prog 97 #[.func (.yield l) #[] #[],.pointer (some ⟨B1,o1,none⟩),.pointer (some ⟨B2,o2,none⟩)] W fun e W'=>(∃v,e=.returned v)∧R W':=by
 have hmx:prog.follows .mixedOrders=true:=by kernel_rfl
 refine callsIn_of_wp Tryz.func97 rfl h97 ?_ hro
 simp only [Tryz.ntmps97,List.size_toArray,List.length_cons,List.length_nil,Nat.reduceAdd,Nat.reduceSub,Array.replicate_succ,Array.replicate_zero,List.push_toArray,List.append_toArray,List.nil_append,List.cons_append]
 gi_wp2
 gi_loopw [4] (fun i wr=>(i=.int .i64 0∧wr=W)∨(i=.int .i64 9∧wr.cell? ⟨B1,o1,none⟩=some (.slice (some ⟨b,off,none⟩) len cap)∧wr.cell? ⟨B2,o2,none⟩=some (.int .i64 9)∧R wr)) (fun i _=>9 - (intOf i).toNat)
 case atStart=>exact .inl ⟨rfl,rfl⟩
 case round =>
  rcases hrel with ⟨rfl,rfl⟩ | ⟨rfl,k1,k2,k3⟩
  ·obtain⟨fn,tmps,assign,body,hy,hR⟩:=hY
   gi_wp2
   gi_region_with_o fail
   all_goals gi_wp2
   all_goals first
    | (refine hR.mono ?_
       rintro e W3 ⟨rfl,k1,k2,k3⟩
       gi_wp2
       go_roundw
       case rel=>exact .inr ⟨by simp,k1,k2,k3⟩
       case measure=>simp [intOf])
    | (obtain rfl:len=9:=by omega
       rw [hy]
       refine⟨fun _=>hn,hR.mono ?_⟩
       rintro e W3 ⟨rfl,k1,k2,k3⟩
       gi_wp2
       go_roundw
       case rel=>exact .inr ⟨by simp,k1,k2,k3⟩
       case measure=>simp [intOf])
  ·gi_wp2
   go_end0
   exact⟨⟨_,rfl⟩,k3⟩
end Go.Proofs.YtadofgdidhpnpaaGreatDoor
