/-
  BODIES OF FUNCTIONS OF THE PROGRAM AS SMALL OPERATIONS (written by gen.py; checked by the kernel against the program). Conditions: none.
-/
import Derived.Test.YtadofgdidhpnpaaGreatDoorK00
import Derived.Test.YtadofgdidhpnpaaGreatDoorKAmH
set_option linter.all false
namespace Go.Proofs.YtadofgdidhpnpaaGreatDoor
open Go.AM
open Go.Proofs.Tryz (prog)
set_option maxRecDepth 100000
set_option linter.all false
namespace eF
noncomputable section
variable (K : List Item) (s : St)
def b:Code:=(Tryz.f38.body).getD .skip
theorem hf:prog.funcs[38]?=some Tryz.f38:=by kernel_rfl
def r0:=aa b 0
def r1:=aa b 1
def k0:=ax b 0
def l0:=bw k0
def L0 (x0 x1 x5:AV) (m:Mem) (K:List Item):Option Res:=den prog ann 38 (.code l0::.inLoop l0::.inBlock 0::K) ⟨[(0,x0),(1,x1),(5,x5)],41,m⟩
def r2:=aa b 2
def i0:=ak b 0
def i0t:=az i0
def i0e:=aA i0
def k1:=ax b 1
def r4:=aa b 4
def i1:=ak b 1
def i1t:=az i1
def i1e:=aA i1
def r5:=aa b 5
def r3:=aa b 3
def r6:=aa b 6
theorem aV:den prog ann 38 (.code b::K) s=den prog ann 38 (.code r0::.code r1::.code k0::.code r6::.code .ret::K) s:=af hf (l:=[r0,r1,k0,r6,.ret]) (by kernel_rfl) K s
theorem aH:den prog ann 38 (.code r0::K) s=ah prog ann 38 none [] none [] [qF 4 fun s=>some (.bool false)] K s:=(ae hf _ K s).trans (by kernel_rfl)
theorem aI:den prog ann 38 (.code r1::K) s=ah prog ann 38 none [] none [] [qF 5 fun s=>some (.int .i64 0)] K s:=(ae hf _ K s).trans (by kernel_rfl)
theorem bu (K:List Item) (t:List (Nat×AV)) (m:Mem):den prog ann 38 (.code k0::K) ⟨t,41,m⟩=L0 (get t 0) (get t 1) (get t 5) m K:=ar hf (b:=l0) (id:=2) (l:=[0,1,5]) (by kernel_rfl) (by kernel_rfl) (by kernel_rfl) K _
theorem bP (K:List Item) (t:List (Nat×AV)) (m:Mem):den prog ann 38 (.inLoop l0::.inBlock 0::K) ⟨t,41,m⟩=L0 (get t 0) (get t 1) (get t 5) m K:=ay hf (id:=2) (l:=[0,1,5]) (by kernel_rfl) (by kernel_rfl) (.inBlock 0::K) _
theorem aM (x0 x1 x5:AV) (m:Mem) (K:List Item):L0 x0 x1 x5 m K=den prog ann 38 (.code r2::.code i0::.code k1::.code r3::.inLoop l0::.inBlock 0::K) ⟨[(0,x0),(1,x1),(5,x5)],41,m⟩:=af hf (l:=[r2,i0,k1,r3]) (by kernel_rfl) _ _
theorem br:den prog ann 38 (.code r2::K) s=ah prog ann 38 (some [0,1,5]) [] none [] [qC 6 5,qC 7 0,qA 8 lenSl 7,qB 9 (binA prog .lss 3) 6 8,qC 10 9,⟨some 11,some (10,true),.v fun s=>some (s.get 5)⟩,⟨some 12,some (10,true),.v fun s=>some (s.get 1)⟩,⟨some 13,some (10,true),.v fun s=>lenSl (s.get 12)⟩,⟨some 14,some (10,true),.v fun s=>binA prog .lss 3 (s.get 11) (s.get 13)⟩,qF 15 fun s=>pickA (s.get 10) (s.get 14) (.bool false)] K s:=(ae hf _ K s).trans (by kernel_rfl)
theorem aU:den prog ann 38 (.code i0::K) s=ifV prog ann 38 15 i0t i0e K s (s.get 15):=aB hf (by kernel_rfl) K s
theorem aZ:den prog ann 38 (.code i0t::K) s=den prog ann 38 (K) s:=af hf (l:=[]) (by kernel_rfl) K s
theorem aL:den prog ann 38 (.code i0e::K) s=den prog ann 38 (.code (.exit 0)::K) s:=af hf (l:=[(.exit 0)]) (by kernel_rfl) K s
theorem bH:den prog ann 38 (.code k1::K) s=den prog ann 38 (.code r4::.code i1::.inBlock 1::K) s:=aS hf (b:=blkOf k1) (l:=[r4,i1]) (by kernel_rfl) (by kernel_rfl) K s
theorem dM:bh (fun g=>(ann g).pure) (bj (ann 38) (bI r4)) (bN (ann 38) (bI r4)) (opsOf r4)=true:=aQ (an:=[0,0,3,7,0,0,48,112,255]) (by kernel_rfl) (by kernel_rfl)
theorem bg:den prog ann 38 (.code r4::K) s=ah prog ann 38 none [] (some 9) [] [qC 18 0,qC 19 5,qB 20 (idxSl 1) 18 19,qA 21 (loadF false 1) 20,qC 22 1,qC 23 5,qB 24 (idxSl 1) 22 23,qA 25 (loadF false 1) 24,qB 26 (binA prog .neq 3) 21 25] K s:=(aW hf dM K s).trans (by kernel_rfl)
theorem bC:den prog ann 38 (.code i1::K) s=ifV prog ann 38 26 i1t i1e K s (s.get 26):=aB hf (by kernel_rfl) K s
theorem bA:den prog ann 38 (.code i1t::K) s=den prog ann 38 (.code r5::.code .ret::K) s:=af hf (l:=[r5,.ret]) (by kernel_rfl) K s
theorem dm:bh (fun g=>(ann g).pure) (bj (ann 38) (bI r5)) (bN (ann 38) (bI r5)) (opsOf r5)=true:=aQ (an:=[0,0,3,7,0,0,48,112,255,511]) (by kernel_rfl) (by kernel_rfl)
theorem bd:den prog ann 38 (.code r5::K) s=ah prog ann 38 none [] (some 10) [] [qC 27 0,qC 28 5,qB 29 (idxSl 1) 27 28,qA 30 (loadF false 1) 29,qC 31 1,qC 32 5,qB 33 (idxSl 1) 31 32,qA 34 (loadF false 1) 33,qB 35 (binA prog .lss 3) 30 34,qC 4 35] K s:=(aW hf dm K s).trans (by kernel_rfl)
theorem aY:den prog ann 38 (.code i1e::K) s=den prog ann 38 (K) s:=af hf (l:=[]) (by kernel_rfl) K s
theorem aX:den prog ann 38 (.code r3::K) s=ah prog ann 38 (some [0,1,5]) [] none [] [qC 16 5,qF 17 fun s=>binA prog .add 3 (s.get 16) (.int .i64 1),qC 5 17] K s:=(ae hf _ K s).trans (by kernel_rfl)
theorem bo:den prog ann 38 (.code r6::K) s=ah prog ann 38 (some [0,1]) [] none [] [qC 36 0,qA 37 lenSl 36,qC 38 1,qA 39 lenSl 38,qB 40 (binA prog .lss 3) 37 39,qC 4 40] K s:=(ae hf _ K s).trans (by kernel_rfl)
theorem aE:den prog ann 38 (.code .ret::K) s=finM true [fun s=>some (s.get 4)] s:=(aO hf K s).trans (by kernel_rfl)
theorem aC (id:Nat) (K:List Item) (s:St):den prog ann 38 (.inBlock id::K) s=den prog ann 38 K s:=aR hf id K s
theorem aT (id:Nat) (K:List Item) (s:St):den prog ann 38 (.code (.exit id)::K) s=exitV prog ann 38 (exitTo id K) s:=bp hf id K s
theorem al (v0 v1:AV) (m:Mem) (h:closedL [v0,v1]=true):denC prog ann 38 [v0,v1] m=(den prog ann 38 [.code b] ⟨[(0,v0),(1,v1)],41,Mem.empty⟩).bind fun r=>some (r.1,m):=(bD hf (b:=b) (by kernel_rfl) (by kernel_rfl) (by kernel_rfl) h m).trans (by kernel_rfl)
theorem aq:(ann 38).pure=true:=by kernel_rfl
attribute [simp] aV aH aI bu bP br aU aZ aL bH bg bC bA bd aY aX bo aE aC aT aq
end
end eF
namespace sU
noncomputable section
variable (K : List Item) (s : St)
def b:Code:=(Tryz.f15.body).getD .skip
theorem hf:prog.funcs[15]?=some Tryz.f15:=by kernel_rfl
def r0:=aa b 0
def r1:=aa b 1
theorem aV:den prog ann 15 (.code b::K) s=den prog ann 15 (.code r0::.code r1::.code .ret::K) s:=af hf (l:=[r0,r1,.ret]) (by kernel_rfl) K s
theorem aH:den prog ann 15 (.code r0::K) s=ah prog ann 15 none [] none [] [qF 4 fun s=>some (.bool false)] K s:=(ae hf _ K s).trans (by kernel_rfl)
theorem aI:den prog ann 15 (.code r1::K) s=ah prog ann 15 none [] none [] [qC 5 0,qC 6 1,⟨some 7,none,.c 0 (fun s=>(.fn 38 [] [])) fun s=>[(s.get 5),(s.get 6)]⟩,qA 8 (unA .not) 7,qC 9 8,⟨some 10,some (9,true),.v fun s=>some (s.get 1)⟩,⟨some 11,some (9,true),.v fun s=>some (s.get 0)⟩,⟨some 12,some (9,true),.c 0 (fun s=>(.fn 38 [] [])) fun s=>[(s.get 10),(s.get 11)]⟩,⟨some 13,some (9,true),.v fun s=>unA .not (s.get 12)⟩,qF 14 fun s=>pickA (s.get 9) (s.get 13) (.bool false),qC 4 14] K s:=(ae hf _ K s).trans (by kernel_rfl)
theorem aE:den prog ann 15 (.code .ret::K) s=finM true [fun s=>some (s.get 4)] s:=(aO hf K s).trans (by kernel_rfl)
theorem al (v0 v1:AV) (m:Mem) (h:closedL [v0,v1]=true):denC prog ann 15 [v0,v1] m=(den prog ann 15 [.code b] ⟨[(0,v0),(1,v1)],15,Mem.empty⟩).bind fun r=>some (r.1,m):=(bD hf (b:=b) (by kernel_rfl) (by kernel_rfl) (by kernel_rfl) h m).trans (by kernel_rfl)
theorem aq:(ann 15).pure=true:=by kernel_rfl
attribute [simp] aV aH aI aE aq
end
end sU
namespace fO
noncomputable section
variable (K : List Item) (s : St)
def b:Code:=(Tryz.f13.body).getD .skip
theorem hf:prog.funcs[13]?=some Tryz.f13:=by kernel_rfl
def r0:=aa b 0
def r1:=aa b 1
def k0:=ax b 0
def l0:=bw k0
def L0 (x1 x2 x5:AV) (m:Mem) (K:List Item):Option Res:=den prog ann 13 (.code l0::.inLoop l0::.inBlock 0::K) ⟨[(1,x1),(2,x2),(5,x5)],37,m⟩
def r2:=aa b 2
def i0:=ak b 0
def i0t:=az i0
def i0e:=aA i0
def k1:=ax b 1
def r4:=aa b 4
def i1:=ak b 1
def i1t:=az i1
def i1e:=aA i1
def r5:=aa b 5
def r3:=aa b 3
def r6:=aa b 6
theorem aV:den prog ann 13 (.code b::K) s=den prog ann 13 (.code r0::.code r1::.code k0::.code r6::.code .ret::K) s:=af hf (l:=[r0,r1,k0,r6,.ret]) (by kernel_rfl) K s
theorem aH:den prog ann 13 (.code r0::K) s=ah prog ann 13 none [] none [] [qA 2 frozenPtr 0,qF 4 fun s=>some (.bool false)] K s:=(ae hf _ K s).trans (by kernel_rfl)
theorem aI:den prog ann 13 (.code r1::K) s=ah prog ann 13 none [] none [] [qF 5 fun s=>some (.int .i64 0)] K s:=(ae hf _ K s).trans (by kernel_rfl)
theorem bu (K:List Item) (t:List (Nat×AV)) (m:Mem):den prog ann 13 (.code k0::K) ⟨t,37,m⟩=L0 (get t 1) (get t 2) (get t 5) m K:=ar hf (b:=l0) (id:=2) (l:=[1,2,5]) (by kernel_rfl) (by kernel_rfl) (by kernel_rfl) K _
theorem bP (K:List Item) (t:List (Nat×AV)) (m:Mem):den prog ann 13 (.inLoop l0::.inBlock 0::K) ⟨t,37,m⟩=L0 (get t 1) (get t 2) (get t 5) m K:=ay hf (id:=2) (l:=[1,2,5]) (by kernel_rfl) (by kernel_rfl) (.inBlock 0::K) _
theorem aM (x1 x2 x5:AV) (m:Mem) (K:List Item):L0 x1 x2 x5 m K=den prog ann 13 (.code r2::.code i0::.code k1::.code r3::.inLoop l0::.inBlock 0::K) ⟨[(1,x1),(2,x2),(5,x5)],37,m⟩:=af hf (l:=[r2,i0,k1,r3]) (by kernel_rfl) _ _
theorem br:den prog ann 13 (.code r2::K) s=ah prog ann 13 (some [1,2,5]) [] none [] [qC 6 5,qC 7 1,qA 8 lenSl 7,qB 9 (binA prog .lss 3) 6 8,qC 10 9,⟨some 11,some (10,true),.v fun s=>some (s.get 1)⟩,⟨some 12,some (10,true),.v fun s=>lenSl (s.get 11)⟩,⟨some 13,some (10,true),.v fun s=>fieldA 0 (s.get 2)⟩,⟨some 14,some (10,true),.v fun s=>loadF false 1 (s.get 13)⟩,⟨some 15,some (10,true),.v fun s=>lenSl (s.get 14)⟩,⟨some 16,some (10,true),.v fun s=>binA prog .eql 3 (s.get 12) (s.get 15)⟩,qF 17 fun s=>pickA (s.get 10) (s.get 16) (.bool false)] K s:=(ae hf _ K s).trans (by kernel_rfl)
theorem aU:den prog ann 13 (.code i0::K) s=ifV prog ann 13 17 i0t i0e K s (s.get 17):=aB hf (by kernel_rfl) K s
theorem aZ:den prog ann 13 (.code i0t::K) s=den prog ann 13 (K) s:=af hf (l:=[]) (by kernel_rfl) K s
theorem aL:den prog ann 13 (.code i0e::K) s=den prog ann 13 (.code (.exit 0)::K) s:=af hf (l:=[(.exit 0)]) (by kernel_rfl) K s
theorem bH:den prog ann 13 (.code k1::K) s=den prog ann 13 (.code r4::.code i1::.inBlock 1::K) s:=aS hf (b:=blkOf k1) (l:=[r4,i1]) (by kernel_rfl) (by kernel_rfl) K s
theorem dM:bh (fun g=>(ann g).pure) (bj (ann 13) (bI r4)) (bN (ann 13) (bI r4)) (opsOf r4)=true:=aQ (an:=[0,0,3,7,0,16,0,112,240,511,1023]) (by kernel_rfl) (by kernel_rfl)
theorem bg:den prog ann 13 (.code r4::K) s=ah prog ann 13 none [] (some 11) [] [qC 20 1,qC 21 5,qB 22 (idxSl 1) 20 21,qA 23 (loadF false 1) 22,qA 24 (fieldA 0) 2,qA 25 (loadF false 1) 24,qC 26 5,qB 27 (idxSl 1) 25 26,qA 28 (loadF false 1) 27,⟨some 29,none,.c 0 (fun s=>(.fn 16 [] [])) fun s=>[(s.get 23),(.int .i64 0),(s.get 28)]⟩,qA 30 (unA .not) 29] K s:=(aW hf dM K s).trans (by kernel_rfl)
theorem bC:den prog ann 13 (.code i1::K) s=ifV prog ann 13 30 i1t i1e K s (s.get 30):=aB hf (by kernel_rfl) K s
theorem bA:den prog ann 13 (.code i1t::K) s=den prog ann 13 (.code r5::.code .ret::K) s:=af hf (l:=[r5,.ret]) (by kernel_rfl) K s
theorem bd:den prog ann 13 (.code r5::K) s=ah prog ann 13 none [] none [] [qF 4 fun s=>some (.bool false)] K s:=(ae hf _ K s).trans (by kernel_rfl)
theorem aY:den prog ann 13 (.code i1e::K) s=den prog ann 13 (K) s:=af hf (l:=[]) (by kernel_rfl) K s
theorem aX:den prog ann 13 (.code r3::K) s=ah prog ann 13 (some [1,2,5]) [] none [] [qC 18 5,qF 19 fun s=>binA prog .add 3 (s.get 18) (.int .i64 1),qC 5 19] K s:=(ae hf _ K s).trans (by kernel_rfl)
theorem bo:den prog ann 13 (.code r6::K) s=ah prog ann 13 (some [1,2]) [] none [] [qC 31 1,qA 32 lenSl 31,qA 33 (fieldA 0) 2,qA 34 (loadF false 1) 33,qA 35 lenSl 34,qB 36 (binA prog .eql 3) 32 35,qC 4 36] K s:=(ae hf _ K s).trans (by kernel_rfl)
theorem aE:den prog ann 13 (.code .ret::K) s=finM true [fun s=>some (s.get 4)] s:=(aO hf K s).trans (by kernel_rfl)
theorem aC (id:Nat) (K:List Item) (s:St):den prog ann 13 (.inBlock id::K) s=den prog ann 13 K s:=aR hf id K s
theorem aT (id:Nat) (K:List Item) (s:St):den prog ann 13 (.code (.exit id)::K) s=exitV prog ann 13 (exitTo id K) s:=bp hf id K s
theorem al (v0 v1:AV) (m:Mem) (h:closedL [v0,v1]=true):denC prog ann 13 [v0,v1] m=(den prog ann 13 [.code b] ⟨[(0,v0),(1,v1)],37,Mem.empty⟩).bind fun r=>some (r.1,m):=(bD hf (b:=b) (by kernel_rfl) (by kernel_rfl) (by kernel_rfl) h m).trans (by kernel_rfl)
theorem aq:(ann 13).pure=true:=by kernel_rfl
attribute [simp] aV aH aI bu bP br aU aZ aL bH bg bC bA bd aY aX bo aE aC aT aq
end
end fO
namespace aG
noncomputable section
variable (K : List Item) (s : St)
def b:Code:=(Tryz.f4.body).getD .skip
theorem hf:prog.funcs[4]?=some Tryz.f4:=by kernel_rfl
def r0:=aa b 0
def r1:=aa b 1
def k0:=ax b 0
def l0:=bw k0
def L0 (x1 x3:AV) (m:Mem) (K:List Item):Option Res:=den prog ann 4 (.code l0::.inLoop l0::.inBlock 0::K) ⟨[(1,x1),(3,x3)],132,m⟩
def r2:=aa b 2
def i0:=ak b 0
def i0t:=az i0
def i0e:=aA i0
def k1:=ax b 1
def r4:=aa b 4
def i1:=ak b 1
def i1t:=az i1
def i1e:=aA i1
def r5:=aa b 5
def r3:=aa b 3
def r6:=aa b 6
def i2:=ak b 2
def i2t:=az i2
def i2e:=aA i2
def r7:=aa b 7
def r8:=aa b 8
def k2:=ax b 2
def l2:=bw k2
def L2 (x1 x4:AV) (m:Mem) (K:List Item):Option Res:=den prog ann 4 (.code l2::.inLoop l2::.inBlock 2::K) ⟨[(1,x1),(4,x4)],132,m⟩
def r9:=aa b 9
def i3:=ak b 3
def i3t:=az i3
def i3e:=aA i3
def k3:=ax b 3
def r11:=aa b 11
def r12:=aa b 12
def i4:=ak b 4
def i4t:=az i4
def i4e:=aA i4
def r13:=aa b 13
def r10:=aa b 10
def r14:=aa b 14
def r15:=aa b 15
def k4:=ax b 4
def l4:=bw k4
def L4 (x1 x6 x7:AV) (m:Mem) (K:List Item):Option Res:=den prog ann 4 (.code l4::.inLoop l4::.inBlock 4::K) ⟨[(1,x1),(6,x6),(7,x7)],132,m⟩
def r16:=aa b 16
def i5:=ak b 5
def i5t:=az i5
def i5e:=aA i5
def k5:=ax b 5
def r17:=aa b 17
def r18:=aa b 18
def k6:=ax b 6
def l6:=bw k6
def L6 (x1 x6 x7 x8:AV) (m:Mem) (K:List Item):Option Res:=den prog ann 4 (.code l6::.inLoop l6::.inBlock 6::K) ⟨[(1,x1),(6,x6),(7,x7),(8,x8)],132,m⟩
def r19:=aa b 19
def i6:=ak b 6
def i6t:=az i6
def i6e:=aA i6
def k7:=ax b 7
def r21:=aa b 21
def i7:=ak b 7
def i7t:=az i7
def i7e:=aA i7
def r22:=aa b 22
def r23:=aa b 23
def r20:=aa b 20
def r24:=aa b 24
theorem aV:den prog ann 4 (.code b::K) s=den prog ann 4 (.code r0::.code r1::.code k0::.code r6::.code i2::.code r8::.code k2::.code r14::.code r15::.code k4::.code r24::.code .ret::K) s:=af hf (l:=[r0,r1,k0,r6,i2,r8,k2,r14,r15,k4,r24,.ret]) (by kernel_rfl) K s
theorem aH:den prog ann 4 (.code r0::K) s=ah prog ann 4 none [] none [] [qA 1 frozenPtr 0,qF 2 fun s=>some (.bool false)] K s:=(ae hf _ K s).trans (by kernel_rfl)
theorem aI:den prog ann 4 (.code r1::K) s=ah prog ann 4 none [] none [] [qF 3 fun s=>some (.int .i64 0)] K s:=(ae hf _ K s).trans (by kernel_rfl)
theorem bu (K:List Item) (t:List (Nat×AV)) (m:Mem):den prog ann 4 (.code k0::K) ⟨t,132,m⟩=L0 (get t 1) (get t 3) m K:=ar hf (b:=l0) (id:=2) (l:=[1,3]) (by kernel_rfl) (by kernel_rfl) (by kernel_rfl) K _
theorem bP (K:List Item) (t:List (Nat×AV)) (m:Mem):den prog ann 4 (.inLoop l0::.inBlock 0::K) ⟨t,132,m⟩=L0 (get t 1) (get t 3) m K:=ay hf (id:=2) (l:=[1,3]) (by kernel_rfl) (by kernel_rfl) (.inBlock 0::K) _
theorem aM (x1 x3:AV) (m:Mem) (K:List Item):L0 x1 x3 m K=den prog ann 4 (.code r2::.code i0::.code k1::.code r3::.inLoop l0::.inBlock 0::K) ⟨[(1,x1),(3,x3)],132,m⟩:=af hf (l:=[r2,i0,k1,r3]) (by kernel_rfl) _ _
theorem br:den prog ann 4 (.code r2::K) s=ah prog ann 4 (some [1,3]) [] none [] [qC 9 3,qA 10 (fieldA 0) 1,qA 11 (loadF false 1) 10,qA 12 lenSl 11,qB 13 (binA prog .lss 3) 9 12] K s:=(ae hf _ K s).trans (by kernel_rfl)
theorem aU:den prog ann 4 (.code i0::K) s=ifV prog ann 4 13 i0t i0e K s (s.get 13):=aB hf (by kernel_rfl) K s
theorem aZ:den prog ann 4 (.code i0t::K) s=den prog ann 4 (K) s:=af hf (l:=[]) (by kernel_rfl) K s
theorem aL:den prog ann 4 (.code i0e::K) s=den prog ann 4 (.code (.exit 0)::K) s:=af hf (l:=[(.exit 0)]) (by kernel_rfl) K s
theorem bH:den prog ann 4 (.code k1::K) s=den prog ann 4 (.code r4::.code i1::.inBlock 1::K) s:=aS hf (b:=blkOf k1) (l:=[r4,i1]) (by kernel_rfl) (by kernel_rfl) K s
theorem bg:den prog ann 4 (.code r4::K) s=ah prog ann 4 none [] none [] [qA 16 (fieldA 0) 1,qA 17 (loadF false 1) 16,qC 18 3,qB 19 (idxSl 1) 17 18,qA 20 (loadF false 1) 19,⟨some 21,none,.c 0 (fun s=>(.fn 16 [] [])) fun s=>[(s.get 20),(.int .i64 0),(.int .i64 6)]⟩,qA 22 (unA .not) 21] K s:=(ae hf _ K s).trans (by kernel_rfl)
theorem bC:den prog ann 4 (.code i1::K) s=ifV prog ann 4 22 i1t i1e K s (s.get 22):=aB hf (by kernel_rfl) K s
theorem bA:den prog ann 4 (.code i1t::K) s=den prog ann 4 (.code r5::.code .ret::K) s:=af hf (l:=[r5,.ret]) (by kernel_rfl) K s
theorem bd:den prog ann 4 (.code r5::K) s=ah prog ann 4 none [] none [] [qF 2 fun s=>some (.bool false)] K s:=(ae hf _ K s).trans (by kernel_rfl)
theorem aY:den prog ann 4 (.code i1e::K) s=den prog ann 4 (K) s:=af hf (l:=[]) (by kernel_rfl) K s
theorem aX:den prog ann 4 (.code r3::K) s=ah prog ann 4 (some [1,3]) [] none [] [qC 14 3,qF 15 fun s=>binA prog .add 3 (s.get 14) (.int .i64 1),qC 3 15] K s:=(ae hf _ K s).trans (by kernel_rfl)
theorem bo:den prog ann 4 (.code r6::K) s=ah prog ann 4 (some [1]) [] none [] [qA 23 (fieldA 0) 1,qA 24 (loadF false 1) 23,qA 25 lenSl 24,⟨some 26,none,.c 0 (fun s=>(.fn 16 [] [])) fun s=>[(s.get 25),(.int .i64 1),(.int .i64 4)]⟩,qA 27 (unA .not) 26,qC 28 27,⟨some 29,some (28,false),.v fun s=>fieldA 1 (s.get 1)⟩,⟨some 30,some (28,false),.v fun s=>loadF false 1 (s.get 29)⟩,⟨some 31,some (28,false),.v fun s=>lenSl (s.get 30)⟩,⟨some 32,some (28,false),.v fun s=>binA prog .gtr 3 (s.get 31) (.int .i64 24)⟩,qF 33 fun s=>pickA (s.get 28) (.bool true) (s.get 32)] K s:=(ae hf _ K s).trans (by kernel_rfl)
theorem cw:den prog ann 4 (.code i2::K) s=ifV prog ann 4 33 i2t i2e K s (s.get 33):=aB hf (by kernel_rfl) K s
theorem cj:den prog ann 4 (.code i2t::K) s=den prog ann 4 (.code r7::.code .ret::K) s:=af hf (l:=[r7,.ret]) (by kernel_rfl) K s
theorem bM:den prog ann 4 (.code r7::K) s=ah prog ann 4 none [] none [] [qF 2 fun s=>some (.bool false)] K s:=(ae hf _ K s).trans (by kernel_rfl)
theorem bY:den prog ann 4 (.code i2e::K) s=den prog ann 4 (K) s:=af hf (l:=[]) (by kernel_rfl) K s
theorem bQ:den prog ann 4 (.code r8::K) s=ah prog ann 4 none [] none [] [qF 4 fun s=>some (.int .i64 0)] K s:=(ae hf _ K s).trans (by kernel_rfl)
theorem dL (K:List Item) (t:List (Nat×AV)) (m:Mem):den prog ann 4 (.code k2::K) ⟨t,132,m⟩=L2 (get t 1) (get t 4) m K:=ar hf (b:=l2) (id:=9) (l:=[1,4]) (by kernel_rfl) (by kernel_rfl) (by kernel_rfl) K _
theorem ie (K:List Item) (t:List (Nat×AV)) (m:Mem):den prog ann 4 (.inLoop l2::.inBlock 2::K) ⟨t,132,m⟩=L2 (get t 1) (get t 4) m K:=ay hf (id:=9) (l:=[1,4]) (by kernel_rfl) (by kernel_rfl) (.inBlock 2::K) _
theorem dt (x1 x4:AV) (m:Mem) (K:List Item):L2 x1 x4 m K=den prog ann 4 (.code r9::.code i3::.code k3::.code r10::.inLoop l2::.inBlock 2::K) ⟨[(1,x1),(4,x4)],132,m⟩:=af hf (l:=[r9,i3,k3,r10]) (by kernel_rfl) _ _
theorem bU:den prog ann 4 (.code r9::K) s=ah prog ann 4 (some [1,4]) [] none [] [qC 34 4,qA 35 (fieldA 1) 1,qA 36 (loadF false 1) 35,qA 37 lenSl 36,qB 38 (binA prog .lss 3) 34 37] K s:=(ae hf _ K s).trans (by kernel_rfl)
theorem eT:den prog ann 4 (.code i3::K) s=ifV prog ann 4 38 i3t i3e K s (s.get 38):=aB hf (by kernel_rfl) K s
theorem dw:den prog ann 4 (.code i3t::K) s=den prog ann 4 (K) s:=af hf (l:=[]) (by kernel_rfl) K s
theorem ej:den prog ann 4 (.code i3e::K) s=den prog ann 4 (.code (.exit 2)::K) s:=af hf (l:=[(.exit 2)]) (by kernel_rfl) K s
theorem fy:den prog ann 4 (.code k3::K) s=den prog ann 4 (.code r11::.code r12::.code i4::.inBlock 3::K) s:=aS hf (b:=blkOf k3) (l:=[r11,r12,i4]) (by kernel_rfl) (by kernel_rfl) K s
theorem bW:den prog ann 4 (.code r11::K) s=ah prog ann 4 none [] none [5] [qA 41 (fieldA 1) 1,qA 42 (loadF false 1) 41,qC 43 4,qB 44 (idxSl 4) 42 43,qA 45 (loadF true 4) 44,⟨some 5,none,.w false none fun s=>newPtr s.m [.int .i64 0,.int .i64 0,.int .i64 0,.int .i64 0]⟩,⟨none,none,.w false none fun s=>stA true 4 s.m (s.get 5) (s.get 45)⟩] K s:=(ae hf _ K s).trans (by kernel_rfl)
theorem iz:bh (fun g=>(ann g).pure) (bj (ann 4) (bI r12)) (bN (ann 4) (bI r12)) (opsOf r12)=true:=aQ (an:=[0,1,0,4,12,28,63,127,255,511,1023,511,2559,6655,14847,32767,65535,131071,262143,524287,1048575,524287,2621439,8388607,16777215,33554431,67108863,134217727,67108863,335544319,67108863,1140850687,4093640703,8388607999,17179869183,34359738367,68719476735,137438953471,274877906943,549755813887,274877906943,1374389534719,274877906943,4672924418047,16767552323583,34359738367999,70368744177663,140737488355327,281474976710655]) (by kernel_rfl) (by kernel_rfl)
theorem cv:den prog ann 4 (.code r12::K) s=ah prog ann 4 none [] (some 49) [] [qA 46 (fieldA 0) 5,qA 47 (loadF false 1) 46,qA 48 (fieldA 0) 1,qA 49 (loadF false 1) 48,qA 50 lenSl 49,qF 51 fun s=>binA prog .sub 3 (s.get 50) (.int .i64 1),⟨some 52,none,.c 0 (fun s=>(.fn 16 [] [])) fun s=>[(s.get 47),(.int .i64 0),(s.get 51)]⟩,qA 53 (unA .not) 52,qC 54 53,⟨some 55,some (54,false),.v fun s=>fieldA 2 (s.get 5)⟩,⟨some 56,some (54,false),.v fun s=>loadF false 1 (s.get 55)⟩,⟨some 57,some (54,false),.v fun s=>fieldA 0 (s.get 1)⟩,⟨some 58,some (54,false),.v fun s=>loadF false 1 (s.get 57)⟩,⟨some 59,some (54,false),.v fun s=>lenSl (s.get 58)⟩,⟨some 60,some (54,false),.v fun s=>binA prog .sub 3 (s.get 59) (.int .i64 1)⟩,⟨some 61,some (54,false),.c 0 (fun s=>(.fn 16 [] [])) fun s=>[(s.get 56),(.int .i64 0),(s.get 60)]⟩,⟨some 62,some (54,false),.v fun s=>unA .not (s.get 61)⟩,qF 63 fun s=>pickA (s.get 54) (.bool true) (s.get 62),qC 64 63,⟨some 65,some (64,false),.v fun s=>fieldA 0 (s.get 5)⟩,⟨some 66,some (64,false),.v fun s=>loadF false 1 (s.get 65)⟩,⟨some 67,some (64,false),.v fun s=>fieldA 2 (s.get 5)⟩,⟨some 68,some (64,false),.v fun s=>loadF false 1 (s.get 67)⟩,⟨some 69,some (64,false),.v fun s=>binA prog .eql 3 (s.get 66) (s.get 68)⟩,qF 70 fun s=>pickA (s.get 64) (.bool true) (s.get 69),qC 71 70,⟨some 72,some (71,false),.v fun s=>fieldA 1 (s.get 5)⟩,⟨some 73,some (71,false),.v fun s=>loadF false 1 (s.get 72)⟩,⟨some 74,some (71,false),.v fun s=>fieldA 0 (s.get 1)⟩,⟨some 75,some (71,false),.v fun s=>loadF false 1 (s.get 74)⟩,⟨some 76,some (71,false),.v fun s=>fieldA 0 (s.get 5)⟩,⟨some 77,some (71,false),.v fun s=>loadF false 1 (s.get 76)⟩,⟨some 78,some (71,false),.v fun s=>idxSl 1 (s.get 75) (s.get 77)⟩,⟨some 79,some (71,false),.v fun s=>loadF false 1 (s.get 78)⟩,⟨some 80,some (71,false),.c 0 (fun s=>(.fn 16 [] [])) fun s=>[(s.get 73),(.int .i64 1),(s.get 79)]⟩,⟨some 81,some (71,false),.v fun s=>unA .not (s.get 80)⟩,qF 82 fun s=>pickA (s.get 71) (.bool true) (s.get 81),qC 83 82,⟨some 84,some (83,false),.v fun s=>fieldA 3 (s.get 5)⟩,⟨some 85,some (83,false),.v fun s=>loadF false 1 (s.get 84)⟩,⟨some 86,some (83,false),.v fun s=>fieldA 0 (s.get 1)⟩,⟨some 87,some (83,false),.v fun s=>loadF false 1 (s.get 86)⟩,⟨some 88,some (83,false),.v fun s=>fieldA 2 (s.get 5)⟩,⟨some 89,some (83,false),.v fun s=>loadF false 1 (s.get 88)⟩,⟨some 90,some (83,false),.v fun s=>idxSl 1 (s.get 87) (s.get 89)⟩,⟨some 91,some (83,false),.v fun s=>loadF false 1 (s.get 90)⟩,⟨some 92,some (83,false),.c 0 (fun s=>(.fn 16 [] [])) fun s=>[(s.get 85),(.int .i64 1),(s.get 91)]⟩,⟨some 93,some (83,false),.v fun s=>unA .not (s.get 92)⟩,qF 94 fun s=>pickA (s.get 83) (.bool true) (s.get 93)] K s:=(aW hf iz K s).trans (by kernel_rfl)
theorem jZ:den prog ann 4 (.code i4::K) s=ifV prog ann 4 94 i4t i4e K s (s.get 94):=aB hf (by kernel_rfl) K s
theorem ju:den prog ann 4 (.code i4t::K) s=den prog ann 4 (.code r13::.code .ret::K) s:=af hf (l:=[r13,.ret]) (by kernel_rfl) K s
theorem cP:den prog ann 4 (.code r13::K) s=ah prog ann 4 none [] none [] [qF 2 fun s=>some (.bool false)] K s:=(ae hf _ K s).trans (by kernel_rfl)
theorem jx:den prog ann 4 (.code i4e::K) s=den prog ann 4 (K) s:=af hf (l:=[]) (by kernel_rfl) K s
theorem bV:den prog ann 4 (.code r10::K) s=ah prog ann 4 (some [1,4]) [] none [] [qC 39 4,qF 40 fun s=>binA prog .add 3 (s.get 39) (.int .i64 1),qC 4 40] K s:=(ae hf _ K s).trans (by kernel_rfl)
theorem cY:den prog ann 4 (.code r14::K) s=ah prog ann 4 (some [1]) [] none [] [qA 95 (fieldA 0) 1,qA 96 (loadF false 1) 95,qA 97 lenSl 96,⟨some 98,none,.w false none fun s=>makeA 1 8 (.int .i64 0) s.m (s.get 97) (s.get 97)⟩,qC 6 98] K s:=(ae hf _ K s).trans (by kernel_rfl)
theorem eX:den prog ann 4 (.code r15::K) s=ah prog ann 4 none [] none [] [qF 7 fun s=>some (.bool true)] K s:=(ae hf _ K s).trans (by kernel_rfl)
theorem m9 (K:List Item) (t:List (Nat×AV)) (m:Mem):den prog ann 4 (.code k4::K) ⟨t,132,m⟩=L4 (get t 1) (get t 6) (get t 7) m K:=ar hf (b:=l4) (id:=16) (l:=[1,6,7]) (by kernel_rfl) (by kernel_rfl) (by kernel_rfl) K _
theorem sV (K:List Item) (t:List (Nat×AV)) (m:Mem):den prog ann 4 (.inLoop l4::.inBlock 4::K) ⟨t,132,m⟩=L4 (get t 1) (get t 6) (get t 7) m K:=ay hf (id:=16) (l:=[1,6,7]) (by kernel_rfl) (by kernel_rfl) (.inBlock 4::K) _
theorem ir (x1 x6 x7:AV) (m:Mem) (K:List Item):L4 x1 x6 x7 m K=den prog ann 4 (.code r16::.code i5::.code k5::.inLoop l4::.inBlock 4::K) ⟨[(1,x1),(6,x6),(7,x7)],132,m⟩:=af hf (l:=[r16,i5,k5]) (by kernel_rfl) _ _
theorem dg:den prog ann 4 (.code r16::K) s=ah prog ann 4 (some [1,6,7]) [] none [] [qC 99 7] K s:=(ae hf _ K s).trans (by kernel_rfl)
theorem na:den prog ann 4 (.code i5::K) s=ifV prog ann 4 99 i5t i5e K s (s.get 99):=aB hf (by kernel_rfl) K s
theorem uQ:den prog ann 4 (.code i5t::K) s=den prog ann 4 (K) s:=af hf (l:=[]) (by kernel_rfl) K s
theorem jv:den prog ann 4 (.code i5e::K) s=den prog ann 4 (.code (.exit 4)::K) s:=af hf (l:=[(.exit 4)]) (by kernel_rfl) K s
theorem sW:den prog ann 4 (.code k5::K) s=den prog ann 4 (.code r17::.code r18::.code k6::.inBlock 5::K) s:=aS hf (b:=blkOf k5) (l:=[r17,r18,k6]) (by kernel_rfl) (by kernel_rfl) K s
theorem gA:den prog ann 4 (.code r17::K) s=ah prog ann 4 none [] none [] [qF 7 fun s=>some (.bool false)] K s:=(ae hf _ K s).trans (by kernel_rfl)
theorem kW:den prog ann 4 (.code r18::K) s=ah prog ann 4 none [] none [] [qF 8 fun s=>some (.int .i64 0)] K s:=(ae hf _ K s).trans (by kernel_rfl)
theorem sX (K:List Item) (t:List (Nat×AV)) (m:Mem):den prog ann 4 (.code k6::K) ⟨t,132,m⟩=L6 (get t 1) (get t 6) (get t 7) (get t 8) m K:=ar hf (b:=l6) (id:=19) (l:=[1,6,7,8]) (by kernel_rfl) (by kernel_rfl) (by kernel_rfl) K _
theorem sY (K:List Item) (t:List (Nat×AV)) (m:Mem):den prog ann 4 (.inLoop l6::.inBlock 6::K) ⟨t,132,m⟩=L6 (get t 1) (get t 6) (get t 7) (get t 8) m K:=ay hf (id:=19) (l:=[1,6,7,8]) (by kernel_rfl) (by kernel_rfl) (.inBlock 6::K) _
theorem jS (x1 x6 x7 x8:AV) (m:Mem) (K:List Item):L6 x1 x6 x7 x8 m K=den prog ann 4 (.code r19::.code i6::.code k7::.code r20::.inLoop l6::.inBlock 6::K) ⟨[(1,x1),(6,x6),(7,x7),(8,x8)],132,m⟩:=af hf (l:=[r19,i6,k7,r20]) (by kernel_rfl) _ _
theorem fS:den prog ann 4 (.code r19::K) s=ah prog ann 4 (some [1,6,7,8]) [] none [] [qC 100 8,qC 101 6,qA 102 lenSl 101,qB 103 (binA prog .lss 3) 100 102] K s:=(ae hf _ K s).trans (by kernel_rfl)
theorem sZ:den prog ann 4 (.code i6::K) s=ifV prog ann 4 103 i6t i6e K s (s.get 103):=aB hf (by kernel_rfl) K s
theorem nF:den prog ann 4 (.code i6t::K) s=den prog ann 4 (K) s:=af hf (l:=[]) (by kernel_rfl) K s
theorem nG:den prog ann 4 (.code i6e::K) s=den prog ann 4 (.code (.exit 6)::K) s:=af hf (l:=[(.exit 6)]) (by kernel_rfl) K s
theorem s5:den prog ann 4 (.code k7::K) s=den prog ann 4 (.code r21::.code i7::.inBlock 7::K) s:=aS hf (b:=blkOf k7) (l:=[r21,i7]) (by kernel_rfl) (by kernel_rfl) K s
theorem nH:bh (fun g=>(ann g).pure) (bj (ann 4) (bI r21)) (bN (ann 4) (bI r21)) (opsOf r21)=true:=aQ (an:=[0,0,3,7,0,16,0,112,240,511,1023,2047,2047,2047,16383,32767]) (by kernel_rfl) (by kernel_rfl)
theorem nI:den prog ann 4 (.code r21::K) s=ah prog ann 4 none [] (some 16) [] [qC 106 6,qC 107 8,qB 108 (idxSl 1) 106 107,qF 109 fun s=>loadA false 1 s.m (s.get 108),qA 110 (fieldA 0) 1,qA 111 (loadF false 1) 110,qC 112 8,qB 113 (idxSl 1) 111 112,qA 114 (loadF false 1) 113,qB 115 (binA prog .lss 3) 109 114,qC 116 115,⟨some 117,some (116,true),.v fun s=>loadF true 2 (s.get 1)⟩,⟨some 118,some (116,true),.v fun s=>some (s.get 6)⟩,⟨some 119,some (116,true),.v fun s=>some (s.get 8)⟩,⟨some 120,some (116,true),.c 0 (fun s=>(.fn 17 [] [])) fun s=>[(s.get 117),(s.get 118),(s.get 119)]⟩,qF 121 fun s=>pickA (s.get 116) (s.get 120) (.bool false)] K s:=(aW hf nH K s).trans (by kernel_rfl)
theorem s8:den prog ann 4 (.code i7::K) s=ifV prog ann 4 121 i7t i7e K s (s.get 121):=aB hf (by kernel_rfl) K s
theorem uR:den prog ann 4 (.code i7t::K) s=den prog ann 4 (.code r22::.code r23::K) s:=af hf (l:=[r22,r23]) (by kernel_rfl) K s
theorem kS:den prog ann 4 (.code r22::K) s=ah prog ann 4 none [] none [] [qC 122 6,qC 123 8,qB 124 (idxSl 1) 122 123,qF 125 fun s=>loadA false 1 s.m (s.get 124),qF 126 fun s=>binA prog .add 3 (s.get 125) (.int .i64 1),qB 127 (idxSl 1) 122 123,⟨none,none,.w false none fun s=>stA false 1 s.m (s.get 127) (s.get 126)⟩] K s:=(ae hf _ K s).trans (by kernel_rfl)
theorem nJ:den prog ann 4 (.code r23::K) s=ah prog ann 4 none [] none [] [qF 7 fun s=>some (.bool true)] K s:=(ae hf _ K s).trans (by kernel_rfl)
theorem nK:den prog ann 4 (.code i7e::K) s=den prog ann 4 (K) s:=af hf (l:=[]) (by kernel_rfl) K s
theorem nM:den prog ann 4 (.code r20::K) s=ah prog ann 4 (some [1,6,7,8]) [] none [] [qC 104 8,qF 105 fun s=>binA prog .add 3 (s.get 104) (.int .i64 1),qC 8 105] K s:=(ae hf _ K s).trans (by kernel_rfl)
theorem nO:den prog ann 4 (.code r24::K) s=ah prog ann 4 (some [1,6]) [] none [] [qC 128 6,qA 129 (fieldA 0) 1,qA 130 (loadF false 1) 129,⟨some 131,none,.c 0 (fun s=>(.fn 15 [] [])) fun s=>[(s.get 128),(s.get 130)]⟩,qC 2 131] K s:=(ae hf _ K s).trans (by kernel_rfl)
theorem aE:den prog ann 4 (.code .ret::K) s=finM true [fun s=>some (s.get 2)] s:=(aO hf K s).trans (by kernel_rfl)
theorem aC (id:Nat) (K:List Item) (s:St):den prog ann 4 (.inBlock id::K) s=den prog ann 4 K s:=aR hf id K s
theorem aT (id:Nat) (K:List Item) (s:St):den prog ann 4 (.code (.exit id)::K) s=exitV prog ann 4 (exitTo id K) s:=bp hf id K s
theorem al (v0:AV) (m:Mem) (h:closedL [v0]=true):denC prog ann 4 [v0] m=(den prog ann 4 [.code b] ⟨[(0,v0)],132,Mem.empty⟩).bind fun r=>some (r.1,m):=(bD hf (b:=b) (by kernel_rfl) (by kernel_rfl) (by kernel_rfl) h m).trans (by kernel_rfl)
theorem aq:(ann 4).pure=true:=by kernel_rfl
attribute [simp] aV aH aI bu bP br aU aZ aL bH bg bC bA bd aY aX bo cw cj bM bY bQ dL ie bU eT dw ej fy bW cv jZ ju cP jx bV cY eX m9 sV dg na uQ jv sW gA kW sX sY fS sZ nF nG s5 nI s8 uR kS nJ nK nM nO aE aC aT aq
end
end aG
namespace Bj
noncomputable section
variable (K : List Item) (s : St)
def b:Code:=(Tryz.f16.body).getD .skip
theorem hf:prog.funcs[16]?=some Tryz.f16:=by kernel_rfl
def r0:=aa b 0
def r1:=aa b 1
theorem aV:den prog ann 16 (.code b::K) s=den prog ann 16 (.code r0::.code r1::.code .ret::K) s:=af hf (l:=[r0,r1,.ret]) (by kernel_rfl) K s
theorem aH:den prog ann 16 (.code r0::K) s=ah prog ann 16 none [] none [] [qF 6 fun s=>some (.bool false)] K s:=(ae hf _ K s).trans (by kernel_rfl)
theorem aI:den prog ann 16 (.code r1::K) s=ah prog ann 16 none [] none [] [qC 7 0,qC 8 1,qB 9 (binA prog .geq 3) 7 8,qC 10 9,⟨some 11,some (10,true),.v fun s=>some (s.get 0)⟩,⟨some 12,some (10,true),.v fun s=>some (s.get 2)⟩,⟨some 13,some (10,true),.v fun s=>binA prog .leq 3 (s.get 11) (s.get 12)⟩,qF 14 fun s=>pickA (s.get 10) (s.get 13) (.bool false),qC 6 14] K s:=(ae hf _ K s).trans (by kernel_rfl)
theorem aE:den prog ann 16 (.code .ret::K) s=finM true [fun s=>some (s.get 6)] s:=(aO hf K s).trans (by kernel_rfl)
theorem al (v0 v1 v2:AV) (m:Mem) (h:closedL [v0,v1,v2]=true):denC prog ann 16 [v0,v1,v2] m=(den prog ann 16 [.code b] ⟨[(0,v0),(1,v1),(2,v2)],15,Mem.empty⟩).bind fun r=>some (r.1,m):=(bD hf (b:=b) (by kernel_rfl) (by kernel_rfl) (by kernel_rfl) h m).trans (by kernel_rfl)
theorem aq:(ann 16).pure=true:=by kernel_rfl
attribute [simp] aV aH aI aE aq
end
end Bj
namespace eu
noncomputable section
variable (K : List Item) (s : St)
def b:Code:=(Tryz.f17.body).getD .skip
theorem hf:prog.funcs[17]?=some Tryz.f17:=by kernel_rfl
def r0:=aa b 0
def r1:=aa b 1
def k0:=ax b 0
def l0:=bw k0
def L0 (x1 x2 x3 x7:AV) (m:Mem) (K:List Item):Option Res:=den prog ann 17 (.code l0::.inLoop l0::.inBlock 0::K) ⟨[(1,x1),(2,x2),(3,x3),(7,x7)],45,m⟩
def r2:=aa b 2
def i0:=ak b 0
def i0t:=az i0
def i0e:=aA i0
def k1:=ax b 1
def r4:=aa b 4
def r5:=aa b 5
def i1:=ak b 1
def i1t:=az i1
def i1e:=aA i1
def r6:=aa b 6
def r3:=aa b 3
def r7:=aa b 7
theorem aV:den prog ann 17 (.code b::K) s=den prog ann 17 (.code r0::.code r1::.code k0::.code r7::.code .ret::K) s:=af hf (l:=[r0,r1,k0,r7,.ret]) (by kernel_rfl) K s
theorem aH:den prog ann 17 (.code r0::K) s=ah prog ann 17 none [] none [] [qA 3 frozenPtr 0,qF 6 fun s=>some (.bool false)] K s:=(ae hf _ K s).trans (by kernel_rfl)
theorem aI:den prog ann 17 (.code r1::K) s=ah prog ann 17 none [] none [] [qF 7 fun s=>some (.int .i64 0)] K s:=(ae hf _ K s).trans (by kernel_rfl)
theorem bu (K:List Item) (t:List (Nat×AV)) (m:Mem):den prog ann 17 (.code k0::K) ⟨t,45,m⟩=L0 (get t 1) (get t 2) (get t 3) (get t 7) m K:=ar hf (b:=l0) (id:=2) (l:=[1,2,3,7]) (by kernel_rfl) (by kernel_rfl) (by kernel_rfl) K _
theorem bP (K:List Item) (t:List (Nat×AV)) (m:Mem):den prog ann 17 (.inLoop l0::.inBlock 0::K) ⟨t,45,m⟩=L0 (get t 1) (get t 2) (get t 3) (get t 7) m K:=ay hf (id:=2) (l:=[1,2,3,7]) (by kernel_rfl) (by kernel_rfl) (.inBlock 0::K) _
theorem aM (x1 x2 x3 x7:AV) (m:Mem) (K:List Item):L0 x1 x2 x3 x7 m K=den prog ann 17 (.code r2::.code i0::.code k1::.code r3::.inLoop l0::.inBlock 0::K) ⟨[(1,x1),(2,x2),(3,x3),(7,x7)],45,m⟩:=af hf (l:=[r2,i0,k1,r3]) (by kernel_rfl) _ _
theorem br:den prog ann 17 (.code r2::K) s=ah prog ann 17 (some [1,2,3,7]) [] none [] [qC 9 7,qA 10 (fieldA 1) 3,qA 11 (loadF false 1) 10,qA 12 lenSl 11,qB 13 (binA prog .lss 3) 9 12] K s:=(ae hf _ K s).trans (by kernel_rfl)
theorem aU:den prog ann 17 (.code i0::K) s=ifV prog ann 17 13 i0t i0e K s (s.get 13):=aB hf (by kernel_rfl) K s
theorem aZ:den prog ann 17 (.code i0t::K) s=den prog ann 17 (K) s:=af hf (l:=[]) (by kernel_rfl) K s
theorem aL:den prog ann 17 (.code i0e::K) s=den prog ann 17 (.code (.exit 0)::K) s:=af hf (l:=[(.exit 0)]) (by kernel_rfl) K s
theorem bH:den prog ann 17 (.code k1::K) s=den prog ann 17 (.code r4::.code r5::.code i1::.inBlock 1::K) s:=aS hf (b:=blkOf k1) (l:=[r4,r5,i1]) (by kernel_rfl) (by kernel_rfl) K s
theorem bg:den prog ann 17 (.code r4::K) s=ah prog ann 17 none [] none [8] [qA 16 (fieldA 1) 3,qA 17 (loadF false 1) 16,qC 18 7,qB 19 (idxSl 4) 17 18,qA 20 (loadF true 4) 19,⟨some 8,none,.w false none fun s=>newPtr s.m [.int .i64 0,.int .i64 0,.int .i64 0,.int .i64 0]⟩,⟨none,none,.w false none fun s=>stA true 4 s.m (s.get 8) (s.get 20)⟩] K s:=(ae hf _ K s).trans (by kernel_rfl)
theorem dm:bh (fun g=>(ann g).pure) (bj (ann 17) (bI r5)) (bN (ann 17) (bI r5)) (opsOf r5)=true:=aQ (an:=[0,1,0,7,15,31,63,31,31,415,927,1951,4095,8191,16383,32767,32767,98303,262143,524287,32767,1081343,4194303,8388607]) (by kernel_rfl) (by kernel_rfl)
theorem bd:den prog ann 17 (.code r5::K) s=ah prog ann 17 none [] (some 24) [] [qA 21 (fieldA 2) 8,qA 22 (loadF false 1) 21,qC 23 2,qB 24 (binA prog .eql 3) 22 23,qC 25 24,⟨some 26,some (25,true),.v fun s=>fieldA 3 (s.get 8)⟩,⟨some 27,some (25,true),.v fun s=>loadF false 1 (s.get 26)⟩,⟨some 28,some (25,true),.v fun s=>some (s.get 1)⟩,⟨some 29,some (25,true),.v fun s=>some (s.get 2)⟩,⟨some 30,some (25,true),.v fun s=>idxSl 1 (s.get 28) (s.get 29)⟩,⟨some 31,some (25,true),.v fun s=>loadF false 1 (s.get 30)⟩,⟨some 32,some (25,true),.v fun s=>binA prog .add 3 (s.get 31) (.int .i64 1)⟩,⟨some 33,some (25,true),.v fun s=>binA prog .eql 3 (s.get 27) (s.get 32)⟩,qF 34 fun s=>pickA (s.get 25) (s.get 33) (.bool false),qC 35 34,⟨some 36,some (35,true),.v fun s=>some (s.get 1)⟩,⟨some 37,some (35,true),.v fun s=>fieldA 0 (s.get 8)⟩,⟨some 38,some (35,true),.v fun s=>loadF false 1 (s.get 37)⟩,⟨some 39,some (35,true),.v fun s=>idxSl 1 (s.get 36) (s.get 38)⟩,⟨some 40,some (35,true),.v fun s=>loadF false 1 (s.get 39)⟩,⟨some 41,some (35,true),.v fun s=>fieldA 1 (s.get 8)⟩,⟨some 42,some (35,true),.v fun s=>loadF false 1 (s.get 41)⟩,⟨some 43,some (35,true),.v fun s=>binA prog .lss 3 (s.get 40) (s.get 42)⟩,qF 44 fun s=>pickA (s.get 35) (s.get 43) (.bool false)] K s:=(aW hf dm K s).trans (by kernel_rfl)
theorem bC:den prog ann 17 (.code i1::K) s=ifV prog ann 17 44 i1t i1e K s (s.get 44):=aB hf (by kernel_rfl) K s
theorem bA:den prog ann 17 (.code i1t::K) s=den prog ann 17 (.code r6::.code .ret::K) s:=af hf (l:=[r6,.ret]) (by kernel_rfl) K s
theorem bo:den prog ann 17 (.code r6::K) s=ah prog ann 17 none [] none [] [qF 6 fun s=>some (.bool false)] K s:=(ae hf _ K s).trans (by kernel_rfl)
theorem aY:den prog ann 17 (.code i1e::K) s=den prog ann 17 (K) s:=af hf (l:=[]) (by kernel_rfl) K s
theorem aX:den prog ann 17 (.code r3::K) s=ah prog ann 17 (some [1,2,3,7]) [] none [] [qC 14 7,qF 15 fun s=>binA prog .add 3 (s.get 14) (.int .i64 1),qC 7 15] K s:=(ae hf _ K s).trans (by kernel_rfl)
theorem bM:den prog ann 17 (.code r7::K) s=ah prog ann 17 (some []) [] none [] [qF 6 fun s=>some (.bool true)] K s:=(ae hf _ K s).trans (by kernel_rfl)
theorem aE:den prog ann 17 (.code .ret::K) s=finM true [fun s=>some (s.get 6)] s:=(aO hf K s).trans (by kernel_rfl)
theorem aC (id:Nat) (K:List Item) (s:St):den prog ann 17 (.inBlock id::K) s=den prog ann 17 K s:=aR hf id K s
theorem aT (id:Nat) (K:List Item) (s:St):den prog ann 17 (.code (.exit id)::K) s=exitV prog ann 17 (exitTo id K) s:=bp hf id K s
theorem al (v0 v1 v2:AV) (m:Mem) (h:closedL [v0,v1,v2]=true):denC prog ann 17 [v0,v1,v2] m=(den prog ann 17 [.code b] ⟨[(0,v0),(1,v1),(2,v2)],45,Mem.empty⟩).bind fun r=>some (r.1,m):=(bD hf (b:=b) (by kernel_rfl) (by kernel_rfl) (by kernel_rfl) h m).trans (by kernel_rfl)
theorem aq:(ann 17).pure=true:=by kernel_rfl
attribute [simp] aV aH aI bu bP br aU aZ aL bH bg bd bC bA bo aY aX bM aE aC aT aq
end
end eu
namespace fa
noncomputable section
variable (K : List Item) (s : St)
def b:Code:=(Tryz.f63.body).getD .skip
theorem hf:prog.funcs[63]?=some Tryz.f63:=by kernel_rfl
def r0:=aa b 0
def r1:=aa b 1
theorem aV:den prog ann 63 (.code b::K) s=den prog ann 63 (.code r0::.code r1::.code .ret::K) s:=af hf (l:=[r0,r1,.ret]) (by kernel_rfl) K s
theorem aH:den prog ann 63 (.code r0::K) s=ah prog ann 63 none [] none [] [qA 3 frozenPtr 1,qF 4 fun s=>some (.bool false)] K s:=(ae hf _ K s).trans (by kernel_rfl)
theorem aI:den prog ann 63 (.code r1::K) s=ah prog ann 63 none [] none [] [qC 5 0,qA 6 (loadF true 4) 3,⟨some 7,none,.c 0 (fun s=>(.fn 81 [] [])) fun s=>[(s.get 5),(s.get 6)]⟩,qF 8 fun s=>binA prog .geq 3 (s.get 7) (.int .i64 0),qC 4 8] K s:=(ae hf _ K s).trans (by kernel_rfl)
theorem aE:den prog ann 63 (.code .ret::K) s=finM true [fun s=>some (s.get 4)] s:=(aO hf K s).trans (by kernel_rfl)
theorem al (v0 v1:AV) (m:Mem) (h:closedL [v0,v1]=true):denC prog ann 63 [v0,v1] m=(den prog ann 63 [.code b] ⟨[(0,v0),(1,v1)],9,Mem.empty⟩).bind fun r=>some (r.1,m):=(bD hf (b:=b) (by kernel_rfl) (by kernel_rfl) (by kernel_rfl) h m).trans (by kernel_rfl)
theorem aq:(ann 63).pure=true:=by kernel_rfl
attribute [simp] aV aH aI aE aq
end
end fa
namespace cG
noncomputable section
variable (K : List Item) (s : St)
def b:Code:=(Tryz.f81.body).getD .skip
theorem hf:prog.funcs[81]?=some Tryz.f81:=by kernel_rfl
def r0:=aa b 0
def r1:=aa b 1
def k0:=ax b 0
def l0:=bw k0
def L0 (x0 x3 x7 x8:AV) (m:Mem) (K:List Item):Option Res:=den prog ann 81 (.code l0::.inLoop l0::.inBlock 0::K) ⟨[(0,x0),(3,x3),(7,x7),(8,x8)],19,m⟩
def r2:=aa b 2
def i0:=ak b 0
def i0t:=az i0
def i0e:=aA i0
def k1:=ax b 1
def r3:=aa b 3
def r4:=aa b 4
def i1:=ak b 1
def i1t:=az i1
def i1e:=aA i1
def r5:=aa b 5
def r6:=aa b 6
def r7:=aa b 7
theorem aV:den prog ann 81 (.code b::K) s=den prog ann 81 (.code r0::.code r1::.code k0::.code r7::.code .ret::K) s:=af hf (l:=[r0,r1,k0,r7,.ret]) (by kernel_rfl) K s
theorem aH:den prog ann 81 (.code r0::K) s=ah prog ann 81 none [] none [] [qA 3 frozenPtr 1,qF 4 fun s=>some (.int .i64 0)] K s:=(ae hf _ K s).trans (by kernel_rfl)
theorem aI:den prog ann 81 (.code r1::K) s=ah prog ann 81 none [] none [] [qC 6 0,qA 7 lenSl 6,qF 8 fun s=>some (.int .i64 0)] K s:=(ae hf _ K s).trans (by kernel_rfl)
theorem bu (K:List Item) (t:List (Nat×AV)) (m:Mem):den prog ann 81 (.code k0::K) ⟨t,19,m⟩=L0 (get t 0) (get t 3) (get t 7) (get t 8) m K:=ar hf (b:=l0) (id:=2) (l:=[0,3,7,8]) (by kernel_rfl) (by kernel_rfl) (by kernel_rfl) K _
theorem bP (K:List Item) (t:List (Nat×AV)) (m:Mem):den prog ann 81 (.inLoop l0::.inBlock 0::K) ⟨t,19,m⟩=L0 (get t 0) (get t 3) (get t 7) (get t 8) m K:=ay hf (id:=2) (l:=[0,3,7,8]) (by kernel_rfl) (by kernel_rfl) (.inBlock 0::K) _
theorem aM (x0 x3 x7 x8:AV) (m:Mem) (K:List Item):L0 x0 x3 x7 x8 m K=den prog ann 81 (.code r2::.code i0::.code k1::.code r6::.inLoop l0::.inBlock 0::K) ⟨[(0,x0),(3,x3),(7,x7),(8,x8)],19,m⟩:=af hf (l:=[r2,i0,k1,r6]) (by kernel_rfl) _ _
theorem br:den prog ann 81 (.code r2::K) s=ah prog ann 81 (some [0,3,7,8]) [] none [] [qB 9 (binA prog .lss 3) 8 7] K s:=(ae hf _ K s).trans (by kernel_rfl)
theorem aU:den prog ann 81 (.code i0::K) s=ifV prog ann 81 9 i0t i0e K s (s.get 9):=aB hf (by kernel_rfl) K s
theorem aZ:den prog ann 81 (.code i0t::K) s=den prog ann 81 (K) s:=af hf (l:=[]) (by kernel_rfl) K s
theorem aL:den prog ann 81 (.code i0e::K) s=den prog ann 81 (.code (.exit 0)::K) s:=af hf (l:=[(.exit 0)]) (by kernel_rfl) K s
theorem bH:den prog ann 81 (.code k1::K) s=den prog ann 81 (.code r3::.code r4::.code i1::.inBlock 1::K) s:=aS hf (b:=blkOf k1) (l:=[r3,r4,i1]) (by kernel_rfl) (by kernel_rfl) K s
theorem aX:den prog ann 81 (.code r3::K) s=ah prog ann 81 none [] none [] [qC 10 8,qC 5 10] K s:=(ae hf _ K s).trans (by kernel_rfl)
theorem dM:bh (fun g=>(ann g).pure) (bj (ann 81) (bI r4)) (bN (ann 81) (bI r4)) (opsOf r4)=true:=aQ (an:=[0,0,0,6,14,31]) (by kernel_rfl) (by kernel_rfl)
theorem bg:den prog ann 81 (.code r4::K) s=ah prog ann 81 none [] (some 6) [] [qA 11 (loadF true 4) 3,qC 12 0,qC 13 5,qB 14 (idxSl 4) 12 13,qA 15 (loadF true 4) 14,qB 16 (binA prog .eql 62) 11 15] K s:=(aW hf dM K s).trans (by kernel_rfl)
theorem bC:den prog ann 81 (.code i1::K) s=ifV prog ann 81 16 i1t i1e K s (s.get 16):=aB hf (by kernel_rfl) K s
theorem bA:den prog ann 81 (.code i1t::K) s=den prog ann 81 (.code r5::.code .ret::K) s:=af hf (l:=[r5,.ret]) (by kernel_rfl) K s
theorem bd:den prog ann 81 (.code r5::K) s=ah prog ann 81 none [] none [] [qC 17 5,qC 4 17] K s:=(ae hf _ K s).trans (by kernel_rfl)
theorem aY:den prog ann 81 (.code i1e::K) s=den prog ann 81 (K) s:=af hf (l:=[]) (by kernel_rfl) K s
theorem bo:den prog ann 81 (.code r6::K) s=ah prog ann 81 (some [0,3,7,8]) [] none [] [qF 18 fun s=>binA prog .add 3 (s.get 8) (.int .i64 1),qC 8 18] K s:=(ae hf _ K s).trans (by kernel_rfl)
theorem bM:den prog ann 81 (.code r7::K) s=ah prog ann 81 (some []) [] none [] [qF 4 fun s=>some (.int .i64 (-1))] K s:=(ae hf _ K s).trans (by kernel_rfl)
theorem aE:den prog ann 81 (.code .ret::K) s=finM true [fun s=>some (s.get 4)] s:=(aO hf K s).trans (by kernel_rfl)
theorem aC (id:Nat) (K:List Item) (s:St):den prog ann 81 (.inBlock id::K) s=den prog ann 81 K s:=aR hf id K s
theorem aT (id:Nat) (K:List Item) (s:St):den prog ann 81 (.code (.exit id)::K) s=exitV prog ann 81 (exitTo id K) s:=bp hf id K s
theorem al (v0 v1:AV) (m:Mem) (h:closedL [v0,v1]=true):denC prog ann 81 [v0,v1] m=(den prog ann 81 [.code b] ⟨[(0,v0),(1,v1)],19,Mem.empty⟩).bind fun r=>some (r.1,m):=(bD hf (b:=b) (by kernel_rfl) (by kernel_rfl) (by kernel_rfl) h m).trans (by kernel_rfl)
theorem aq:(ann 81).pure=true:=by kernel_rfl
attribute [simp] aV aH aI bu bP br aU aZ aL bH aX bg bC bA bd aY bo bM aE aC aT aq
end
end cG
namespace cJ
noncomputable section
variable (K : List Item) (s : St)
def b:Code:=(Tryz.f59.body).getD .skip
theorem hf:prog.funcs[59]?=some Tryz.f59:=by kernel_rfl
def r0:=aa b 0
def r1:=aa b 1
def i0:=ak b 0
def i0t:=az i0
def i0e:=aA i0
def r3:=aa b 3
def r4:=aa b 4
def k0:=ax b 0
def l0:=bw k0
def L0 (x0 x3 x4:AV) (m:Mem) (K:List Item):Option Res:=den prog ann 59 (.code l0::.inLoop l0::.inBlock 0::K) ⟨[(0,x0),(3,x3),(4,x4)],25,m⟩
def r5:=aa b 5
def i1:=ak b 1
def i1t:=az i1
def i1e:=aA i1
def k1:=ax b 1
def r7:=aa b 7
def r6:=aa b 6
def r8:=aa b 8
theorem aV:den prog ann 59 (.code b::K) s=den prog ann 59 (.code r0::.code r1::.code i0::.code r3::.code r4::.code k0::.code r8::.code .ret::K) s:=af hf (l:=[r0,r1,i0,r3,r4,k0,r8,.ret]) (by kernel_rfl) K s
theorem aH:den prog ann 59 (.code r0::K) s=ah prog ann 59 none [] none [] [qF 2 fun s=>some (.int .i64 0)] K s:=(ae hf _ K s).trans (by kernel_rfl)
theorem aI:den prog ann 59 (.code r1::K) s=ah prog ann 59 none [] none [] [qC 5 0,qA 6 lenSl 5,qF 7 fun s=>binA prog .lss 3 (s.get 6) (.int .i64 1)] K s:=(ae hf _ K s).trans (by kernel_rfl)
theorem aU:den prog ann 59 (.code i0::K) s=ifV prog ann 59 7 i0t i0e K s (s.get 7):=aB hf (by kernel_rfl) K s
theorem aL:den prog ann 59 (.code i0e::K) s=den prog ann 59 (K) s:=af hf (l:=[]) (by kernel_rfl) K s
theorem aX:den prog ann 59 (.code r3::K) s=ah prog ann 59 (some [0]) [] none [] [qC 9 0,qF 10 fun s=>idxSl 1 (s.get 9) (.int .i64 0),qA 11 (loadF false 1) 10,qC 3 11] K s:=(ae hf _ K s).trans (by kernel_rfl)
theorem bg:den prog ann 59 (.code r4::K) s=ah prog ann 59 none [] none [] [qF 4 fun s=>some (.int .i64 1)] K s:=(ae hf _ K s).trans (by kernel_rfl)
theorem bu (K:List Item) (t:List (Nat×AV)) (m:Mem):den prog ann 59 (.code k0::K) ⟨t,25,m⟩=L0 (get t 0) (get t 3) (get t 4) m K:=ar hf (b:=l0) (id:=5) (l:=[0,3,4]) (by kernel_rfl) (by kernel_rfl) (by kernel_rfl) K _
theorem bP (K:List Item) (t:List (Nat×AV)) (m:Mem):den prog ann 59 (.inLoop l0::.inBlock 0::K) ⟨t,25,m⟩=L0 (get t 0) (get t 3) (get t 4) m K:=ay hf (id:=5) (l:=[0,3,4]) (by kernel_rfl) (by kernel_rfl) (.inBlock 0::K) _
theorem aM (x0 x3 x4:AV) (m:Mem) (K:List Item):L0 x0 x3 x4 m K=den prog ann 59 (.code r5::.code i1::.code k1::.code r6::.inLoop l0::.inBlock 0::K) ⟨[(0,x0),(3,x3),(4,x4)],25,m⟩:=af hf (l:=[r5,i1,k1,r6]) (by kernel_rfl) _ _
theorem bd:den prog ann 59 (.code r5::K) s=ah prog ann 59 (some [0,3,4]) [] none [] [qC 12 4,qC 13 0,qA 14 lenSl 13,qB 15 (binA prog .lss 3) 12 14] K s:=(ae hf _ K s).trans (by kernel_rfl)
theorem bC:den prog ann 59 (.code i1::K) s=ifV prog ann 59 15 i1t i1e K s (s.get 15):=aB hf (by kernel_rfl) K s
theorem bA:den prog ann 59 (.code i1t::K) s=den prog ann 59 (K) s:=af hf (l:=[]) (by kernel_rfl) K s
theorem aY:den prog ann 59 (.code i1e::K) s=den prog ann 59 (.code (.exit 0)::K) s:=af hf (l:=[(.exit 0)]) (by kernel_rfl) K s
theorem bH:den prog ann 59 (.code k1::K) s=den prog ann 59 (.code r7::.inBlock 1::K) s:=aS hf (b:=blkOf k1) (l:=[r7]) (by kernel_rfl) (by kernel_rfl) K s
theorem bM:den prog ann 59 (.code r7::K) s=ah prog ann 59 none [] none [] [qC 18 3,qC 19 0,qC 20 4,qB 21 (idxSl 1) 19 20,qA 22 (loadF false 1) 21,qF 23 fun s=>foldA max2A (s.get 18) [(s.get 22)],qC 3 23] K s:=(ae hf _ K s).trans (by kernel_rfl)
theorem bo:den prog ann 59 (.code r6::K) s=ah prog ann 59 (some [0,3,4]) [] none [] [qC 16 4,qF 17 fun s=>binA prog .add 3 (s.get 16) (.int .i64 1),qC 4 17] K s:=(ae hf _ K s).trans (by kernel_rfl)
theorem bQ:den prog ann 59 (.code r8::K) s=ah prog ann 59 (some [3]) [] none [] [qC 24 3,qC 2 24] K s:=(ae hf _ K s).trans (by kernel_rfl)
theorem aE:den prog ann 59 (.code .ret::K) s=finM true [fun s=>some (s.get 2)] s:=(aO hf K s).trans (by kernel_rfl)
theorem aC (id:Nat) (K:List Item) (s:St):den prog ann 59 (.inBlock id::K) s=den prog ann 59 K s:=aR hf id K s
theorem aT (id:Nat) (K:List Item) (s:St):den prog ann 59 (.code (.exit id)::K) s=exitV prog ann 59 (exitTo id K) s:=bp hf id K s
theorem al (v0:AV) (m:Mem) (h:closedL [v0]=true):denC prog ann 59 [v0] m=(den prog ann 59 [.code b] ⟨[(0,v0)],25,Mem.empty⟩).bind fun r=>some (r.1,m):=(bD hf (b:=b) (by kernel_rfl) (by kernel_rfl) (by kernel_rfl) h m).trans (by kernel_rfl)
theorem aq:(ann 59).pure=true:=by kernel_rfl
attribute [simp] aV aH aI aU aL aX bg bu bP bd bC bA aY bH bM bo bQ aE aC aT aq
end
end cJ
namespace cI
noncomputable section
variable (K : List Item) (s : St)
def b:Code:=(Tryz.f58.body).getD .skip
theorem hf:prog.funcs[58]?=some Tryz.f58:=by kernel_rfl
def r0:=aa b 0
def r1:=aa b 1
def i0:=ak b 0
def i0t:=az i0
def i0e:=aA i0
def r3:=aa b 3
def r4:=aa b 4
def k0:=ax b 0
def l0:=bw k0
def L0 (x0 x3 x4:AV) (m:Mem) (K:List Item):Option Res:=den prog ann 58 (.code l0::.inLoop l0::.inBlock 0::K) ⟨[(0,x0),(3,x3),(4,x4)],25,m⟩
def r5:=aa b 5
def i1:=ak b 1
def i1t:=az i1
def i1e:=aA i1
def k1:=ax b 1
def r7:=aa b 7
def r6:=aa b 6
def r8:=aa b 8
theorem aV:den prog ann 58 (.code b::K) s=den prog ann 58 (.code r0::.code r1::.code i0::.code r3::.code r4::.code k0::.code r8::.code .ret::K) s:=af hf (l:=[r0,r1,i0,r3,r4,k0,r8,.ret]) (by kernel_rfl) K s
theorem aH:den prog ann 58 (.code r0::K) s=ah prog ann 58 none [] none [] [qF 2 fun s=>some (.int .i64 0)] K s:=(ae hf _ K s).trans (by kernel_rfl)
theorem aI:den prog ann 58 (.code r1::K) s=ah prog ann 58 none [] none [] [qC 5 0,qA 6 lenSl 5,qF 7 fun s=>binA prog .lss 3 (s.get 6) (.int .i64 1)] K s:=(ae hf _ K s).trans (by kernel_rfl)
theorem aU:den prog ann 58 (.code i0::K) s=ifV prog ann 58 7 i0t i0e K s (s.get 7):=aB hf (by kernel_rfl) K s
theorem aL:den prog ann 58 (.code i0e::K) s=den prog ann 58 (K) s:=af hf (l:=[]) (by kernel_rfl) K s
theorem aX:den prog ann 58 (.code r3::K) s=ah prog ann 58 (some [0]) [] none [] [qC 9 0,qF 10 fun s=>idxSl 1 (s.get 9) (.int .i64 0),qA 11 (loadF false 1) 10,qC 3 11] K s:=(ae hf _ K s).trans (by kernel_rfl)
theorem bg:den prog ann 58 (.code r4::K) s=ah prog ann 58 none [] none [] [qF 4 fun s=>some (.int .i64 1)] K s:=(ae hf _ K s).trans (by kernel_rfl)
theorem bu (K:List Item) (t:List (Nat×AV)) (m:Mem):den prog ann 58 (.code k0::K) ⟨t,25,m⟩=L0 (get t 0) (get t 3) (get t 4) m K:=ar hf (b:=l0) (id:=5) (l:=[0,3,4]) (by kernel_rfl) (by kernel_rfl) (by kernel_rfl) K _
theorem bP (K:List Item) (t:List (Nat×AV)) (m:Mem):den prog ann 58 (.inLoop l0::.inBlock 0::K) ⟨t,25,m⟩=L0 (get t 0) (get t 3) (get t 4) m K:=ay hf (id:=5) (l:=[0,3,4]) (by kernel_rfl) (by kernel_rfl) (.inBlock 0::K) _
theorem aM (x0 x3 x4:AV) (m:Mem) (K:List Item):L0 x0 x3 x4 m K=den prog ann 58 (.code r5::.code i1::.code k1::.code r6::.inLoop l0::.inBlock 0::K) ⟨[(0,x0),(3,x3),(4,x4)],25,m⟩:=af hf (l:=[r5,i1,k1,r6]) (by kernel_rfl) _ _
theorem bd:den prog ann 58 (.code r5::K) s=ah prog ann 58 (some [0,3,4]) [] none [] [qC 12 4,qC 13 0,qA 14 lenSl 13,qB 15 (binA prog .lss 3) 12 14] K s:=(ae hf _ K s).trans (by kernel_rfl)
theorem bC:den prog ann 58 (.code i1::K) s=ifV prog ann 58 15 i1t i1e K s (s.get 15):=aB hf (by kernel_rfl) K s
theorem bA:den prog ann 58 (.code i1t::K) s=den prog ann 58 (K) s:=af hf (l:=[]) (by kernel_rfl) K s
theorem aY:den prog ann 58 (.code i1e::K) s=den prog ann 58 (.code (.exit 0)::K) s:=af hf (l:=[(.exit 0)]) (by kernel_rfl) K s
theorem bH:den prog ann 58 (.code k1::K) s=den prog ann 58 (.code r7::.inBlock 1::K) s:=aS hf (b:=blkOf k1) (l:=[r7]) (by kernel_rfl) (by kernel_rfl) K s
theorem bM:den prog ann 58 (.code r7::K) s=ah prog ann 58 none [] none [] [qC 18 3,qC 19 0,qC 20 4,qB 21 (idxSl 1) 19 20,qA 22 (loadF false 1) 21,qF 23 fun s=>foldA min2A (s.get 18) [(s.get 22)],qC 3 23] K s:=(ae hf _ K s).trans (by kernel_rfl)
theorem bo:den prog ann 58 (.code r6::K) s=ah prog ann 58 (some [0,3,4]) [] none [] [qC 16 4,qF 17 fun s=>binA prog .add 3 (s.get 16) (.int .i64 1),qC 4 17] K s:=(ae hf _ K s).trans (by kernel_rfl)
theorem bQ:den prog ann 58 (.code r8::K) s=ah prog ann 58 (some [3]) [] none [] [qC 24 3,qC 2 24] K s:=(ae hf _ K s).trans (by kernel_rfl)
theorem aE:den prog ann 58 (.code .ret::K) s=finM true [fun s=>some (s.get 2)] s:=(aO hf K s).trans (by kernel_rfl)
theorem aC (id:Nat) (K:List Item) (s:St):den prog ann 58 (.inBlock id::K) s=den prog ann 58 K s:=aR hf id K s
theorem aT (id:Nat) (K:List Item) (s:St):den prog ann 58 (.code (.exit id)::K) s=exitV prog ann 58 (exitTo id K) s:=bp hf id K s
theorem al (v0:AV) (m:Mem) (h:closedL [v0]=true):denC prog ann 58 [v0] m=(den prog ann 58 [.code b] ⟨[(0,v0)],25,Mem.empty⟩).bind fun r=>some (r.1,m):=(bD hf (b:=b) (by kernel_rfl) (by kernel_rfl) (by kernel_rfl) h m).trans (by kernel_rfl)
theorem aq:(ann 58).pure=true:=by kernel_rfl
attribute [simp] aV aH aI aU aL aX bg bu bP bd bC bA aY bH bM bo bQ aE aC aT aq
end
end cI
namespace dq
noncomputable section
variable (K : List Item) (s : St)
def b:Code:=(Tryz.f14.body).getD .skip
theorem hf:prog.funcs[14]?=some Tryz.f14:=by kernel_rfl
def r0:=aa b 0
def r1:=aa b 1
def r2:=aa b 2
def i0:=ak b 0
def i0t:=az i0
def i0e:=aA i0
def r3:=aa b 3
def r4:=aa b 4
def r5:=aa b 5
def i1:=ak b 1
def i1t:=az i1
def i1e:=aA i1
def r6:=aa b 6
def r7:=aa b 7
theorem aV:den prog ann 14 (.code b::K) s=den prog ann 14 (.code r0::.code r1::.code r2::.code i0::.code r4::.code r5::.code i1::.code r7::.code .ret::K) s:=af hf (l:=[r0,r1,r2,i0,r4,r5,i1,r7,.ret]) (by kernel_rfl) K s
theorem aH:den prog ann 14 (.code r0::K) s=ah prog ann 14 none [] none [] [qA 2 frozenPtr 0,qF 4 fun s=>some (.bool false),qF 5 fun s=>some (.int .i64 0)] K s:=(ae hf _ K s).trans (by kernel_rfl)
theorem aI:den prog ann 14 (.code r1::K) s=ah prog ann 14 none [] none [] [qA 10 (loadF true 2) 2,⟨some 11,none,.c 0 (fun s=>(.fn 35 [] [])) fun s=>[(s.get 10)]⟩,qC 9 11,qF 12 fun s=>extA (s.get 9) 0,qF 13 fun s=>extA (s.get 9) 1,qC 6 12,qC 7 13] K s:=(ae hf _ K s).trans (by kernel_rfl)
theorem br:den prog ann 14 (.code r2::K) s=ah prog ann 14 none [] none [] [qC 14 7,qA 15 (unA .not) 14] K s:=(ae hf _ K s).trans (by kernel_rfl)
theorem aU:den prog ann 14 (.code i0::K) s=ifV prog ann 14 15 i0t i0e K s (s.get 15):=aB hf (by kernel_rfl) K s
theorem aZ:den prog ann 14 (.code i0t::K) s=den prog ann 14 (.code r3::.code .ret::K) s:=af hf (l:=[r3,.ret]) (by kernel_rfl) K s
theorem aX:den prog ann 14 (.code r3::K) s=ah prog ann 14 none [] none [] [qF 4 fun s=>some (.bool false),qF 5 fun s=>some (.int .i64 1)] K s:=(ae hf _ K s).trans (by kernel_rfl)
theorem aL:den prog ann 14 (.code i0e::K) s=den prog ann 14 (K) s:=af hf (l:=[]) (by kernel_rfl) K s
theorem bg:den prog ann 14 (.code r4::K) s=ah prog ann 14 none [] none [8] [qC 17 6,qC 18 1,⟨some 19,none,.c 0 (fun s=>(.fn 36 [] [])) fun s=>[(s.get 17),(s.get 18)]⟩,qC 16 19,qF 20 fun s=>extA (s.get 16) 0,qF 21 fun s=>extA (s.get 16) 1,⟨some 8,none,.w false none fun s=>newPtr s.m [.int .i64 0,.int .i64 0,.int .i64 0,.int .i64 0]⟩,⟨none,none,.w false none fun s=>stA true 4 s.m (s.get 8) (s.get 20)⟩,qC 7 21] K s:=(ae hf _ K s).trans (by kernel_rfl)
theorem bd:den prog ann 14 (.code r5::K) s=ah prog ann 14 none [] none [] [qC 22 7,qA 23 (unA .not) 22] K s:=(ae hf _ K s).trans (by kernel_rfl)
theorem bC:den prog ann 14 (.code i1::K) s=ifV prog ann 14 23 i1t i1e K s (s.get 23):=aB hf (by kernel_rfl) K s
theorem bA:den prog ann 14 (.code i1t::K) s=den prog ann 14 (.code r6::.code .ret::K) s:=af hf (l:=[r6,.ret]) (by kernel_rfl) K s
theorem bo:den prog ann 14 (.code r6::K) s=ah prog ann 14 none [] none [] [qF 4 fun s=>some (.bool false),qF 5 fun s=>some (.int .i64 2)] K s:=(ae hf _ K s).trans (by kernel_rfl)
theorem aY:den prog ann 14 (.code i1e::K) s=den prog ann 14 (K) s:=af hf (l:=[]) (by kernel_rfl) K s
theorem bM:den prog ann 14 (.code r7::K) s=ah prog ann 14 none [] none [] [qC 24 6,qA 25 (loadF true 4) 8,⟨some 26,none,.c 0 (fun s=>(.fn 37 [] [])) fun s=>[(s.get 24),(s.get 25)]⟩,qC 4 26,qF 5 fun s=>some (.int .i64 0)] K s:=(ae hf _ K s).trans (by kernel_rfl)
theorem aE:den prog ann 14 (.code .ret::K) s=finM true [fun s=>some (s.get 4),fun s=>some (s.get 5)] s:=(aO hf K s).trans (by kernel_rfl)
theorem al (v0 v1:AV) (m:Mem) (h:closedL [v0,v1]=true):denC prog ann 14 [v0,v1] m=(den prog ann 14 [.code b] ⟨[(0,v0),(1,v1)],27,Mem.empty⟩).bind fun r=>some (r.1,m):=(bD hf (b:=b) (by kernel_rfl) (by kernel_rfl) (by kernel_rfl) h m).trans (by kernel_rfl)
theorem aq:(ann 14).pure=true:=by kernel_rfl
attribute [simp] aV aH aI br aU aZ aX aL bg bd bC bA bo aY bM aE aq
end
end dq
namespace cF
noncomputable section
variable (K : List Item) (s : St)
def b:Code:=(Tryz.f5.body).getD .skip
theorem hf:prog.funcs[5]?=some Tryz.f5:=by kernel_rfl
def r0:=aa b 0
def r1:=aa b 1
def r2:=aa b 2
def i0:=ak b 0
def i0t:=az i0
def i0e:=aA i0
def r3:=aa b 3
def r4:=aa b 4
def r5:=aa b 5
def r6:=aa b 6
def r7:=aa b 7
def r8:=aa b 8
def i1:=ak b 1
def i1t:=az i1
def i1e:=aA i1
def r9:=aa b 9
def r10:=aa b 10
theorem aV:den prog ann 5 (.code b::K) s=den prog ann 5 (.code r0::.code r1::.code r2::.code i0::.code r4::.code r5::.code r6::.code r7::.code r8::.code i1::.code r10::.code .ret::K) s:=af hf (l:=[r0,r1,r2,i0,r4,r5,r6,r7,r8,i1,r10,.ret]) (by kernel_rfl) K s
theorem aH:den prog ann 5 (.code r0::K) s=ah prog ann 5 none [] none [] [qA 2 frozenPtr 0,qF 4 fun s=>some (.nils),qF 5 fun s=>some (.int .i64 0)] K s:=(ae hf _ K s).trans (by kernel_rfl)
theorem aI:den prog ann 5 (.code r1::K) s=ah prog ann 5 none [] none [6,7] [qA 13 (loadF true 2) 2,qC 14 1,⟨some 15,none,.c 0 (fun s=>(.fn 18 [] [])) fun s=>[(s.get 13),(s.get 14)]⟩,qC 12 15,qF 16 fun s=>extA (s.get 12) 0,qF 17 fun s=>extA (s.get 12) 1,qF 18 fun s=>extA (s.get 12) 2,⟨some 6,none,.w false none fun s=>newPtr s.m [.nilp]⟩,⟨some 7,none,.w false none fun s=>newPtr s.m [.nilm]⟩,⟨none,none,.w false none fun s=>stA false 1 s.m (s.get 6) (s.get 16)⟩,⟨none,none,.w false none fun s=>stA false 1 s.m (s.get 7) (s.get 17)⟩,qC 8 18] K s:=(ae hf _ K s).trans (by kernel_rfl)
theorem br:den prog ann 5 (.code r2::K) s=ah prog ann 5 none [] none [] [qC 19 8,qF 20 fun s=>binA prog .neq 33 (s.get 19) (.int .i64 0)] K s:=(ae hf _ K s).trans (by kernel_rfl)
theorem aU:den prog ann 5 (.code i0::K) s=ifV prog ann 5 20 i0t i0e K s (s.get 20):=aB hf (by kernel_rfl) K s
theorem aZ:den prog ann 5 (.code i0t::K) s=den prog ann 5 (.code r3::.code .ret::K) s:=af hf (l:=[r3,.ret]) (by kernel_rfl) K s
theorem aX:den prog ann 5 (.code r3::K) s=ah prog ann 5 none [] none [] [qC 21 8,qF 4 fun s=>some (.nils),qC 5 21] K s:=(ae hf _ K s).trans (by kernel_rfl)
theorem aL:den prog ann 5 (.code i0e::K) s=den prog ann 5 (K) s:=af hf (l:=[]) (by kernel_rfl) K s
theorem bg:den prog ann 5 (.code r4::K) s=ah prog ann 5 none [] none [9] [⟨some 22,none,.w false none fun s=>some (.map s.m.nx,s.m.new (.map 0 [] []))⟩,⟨some 9,none,.w false none fun s=>newPtr s.m [.nilm]⟩,⟨none,none,.w false none fun s=>stA false 1 s.m (s.get 9) (s.get 22)⟩] K s:=(ae hf _ K s).trans (by kernel_rfl)
theorem bd:den prog ann 5 (.code r5::K) s=ah prog ann 5 none [] none [] [⟨some 10,none,.w false none fun s=>newPtr s.m [.nilf]⟩] K s:=(ae hf _ K s).trans (by kernel_rfl)
theorem bo:den prog ann 5 (.code r6::K) s=ah prog ann 5 none [] none [] [qF 23 fun s=>some (.fn 19 [] [(s.get 7),(s.get 9),(s.get 6),(s.get 10)]),⟨none,none,.w false none fun s=>stA false 1 s.m (s.get 10) (s.get 23)⟩] K s:=(ae hf _ K s).trans (by kernel_rfl)
theorem bM:den prog ann 5 (.code r7::K) s=ah prog ann 5 none [] none [] [qF 24 fun s=>loadA false 1 s.m (s.get 10),qF 25 fun s=>bldA (plcA 1) [.int .i64 0,.int .i64 0,.int .i64 0,.int .i64 0] [],⟨some 26,none,.c 0 (fun s=>(s.get 24)) fun s=>[(s.get 25)]⟩,qC 11 26] K s:=(ae hf _ K s).trans (by kernel_rfl)
theorem bQ:den prog ann 5 (.code r8::K) s=ah prog ann 5 none [] none [] [qC 27 11,qF 28 fun s=>binA prog .eql 32 (s.get 27) (.nils)] K s:=(ae hf _ K s).trans (by kernel_rfl)
theorem bC:den prog ann 5 (.code i1::K) s=ifV prog ann 5 28 i1t i1e K s (s.get 28):=aB hf (by kernel_rfl) K s
theorem bA:den prog ann 5 (.code i1t::K) s=den prog ann 5 (.code r9::.code .ret::K) s:=af hf (l:=[r9,.ret]) (by kernel_rfl) K s
theorem bU:den prog ann 5 (.code r9::K) s=ah prog ann 5 none [] none [] [qF 4 fun s=>some (.nils),qF 5 fun s=>some (.int .i64 5)] K s:=(ae hf _ K s).trans (by kernel_rfl)
theorem aY:den prog ann 5 (.code i1e::K) s=den prog ann 5 (K) s:=af hf (l:=[]) (by kernel_rfl) K s
theorem bV:den prog ann 5 (.code r10::K) s=ah prog ann 5 none [] none [] [qC 29 11,qC 4 29,qF 5 fun s=>some (.int .i64 0)] K s:=(ae hf _ K s).trans (by kernel_rfl)
theorem aE:den prog ann 5 (.code .ret::K) s=finM true [fun s=>some (s.get 4),fun s=>some (s.get 5)] s:=(aO hf K s).trans (by kernel_rfl)
theorem al (v0 v1:AV) (m:Mem) (h:closedL [v0,v1]=true):denC prog ann 5 [v0,v1] m=(den prog ann 5 [.code b] ⟨[(0,v0),(1,v1)],30,Mem.empty⟩).bind fun r=>some (r.1,m):=(bD hf (b:=b) (by kernel_rfl) (by kernel_rfl) (by kernel_rfl) h m).trans (by kernel_rfl)
theorem aq:(ann 5).pure=true:=by kernel_rfl
attribute [simp] aV aH aI br aU aZ aX aL bg bd bo bM bQ bC bA bU aY bV aE aq
end
end cF
namespace bK
noncomputable section
variable (K : List Item) (s : St)
def b:Code:=(Tryz.f19.body).getD .skip
theorem hf:prog.funcs[19]?=some Tryz.f19:=by kernel_rfl
def r0:=aa b 0
def r1:=aa b 1
def i0:=ak b 0
def i0t:=az i0
def i0e:=aA i0
def r2:=aa b 2
def r3:=aa b 3
def i1:=ak b 1
def i1t:=az i1
def i1e:=aA i1
def r4:=aa b 4
def r5:=aa b 5
def k0:=ax b 0
def l0:=bw k0
def L0 (x2 x3 x4 x5 x30 x31 x32:AV) (m:Mem) (K:List Item):Option Res:=den prog ann 19 (.code l0::.inLoop l0::.inBlock 0::K) ⟨[(2,x2),(3,x3),(4,x4),(5,x5),(30,x30),(31,x31),(32,x32)],50,m⟩
def r6:=aa b 6
def i2:=ak b 2
def i2t:=az i2
def i2e:=aA i2
def k1:=ax b 1
def r7:=aa b 7
def r8:=aa b 8
def r9:=aa b 9
def i3:=ak b 3
def i3t:=az i3
def i3e:=aA i3
def r10:=aa b 10
def r11:=aa b 11
def r12:=aa b 12
def r13:=aa b 13
theorem aV:den prog ann 19 (.code b::K) s=den prog ann 19 (.code r0::.code r1::.code i0::.code r3::.code i1::.code r5::.code k0::.code r12::.code r13::.code .ret::K) s:=af hf (l:=[r0,r1,i0,r3,i1,r5,k0,r12,r13,.ret]) (by kernel_rfl) K s
theorem aH:den prog ann 19 (.code r0::K) s=ah prog ann 19 none [] none [] [qA 5 frozenPtr 0,qF 6 fun s=>some (.nils)] K s:=(ae hf _ K s).trans (by kernel_rfl)
theorem aI:den prog ann 19 (.code r1::K) s=ah prog ann 19 none [] none [] [qF 10 fun s=>loadA false 1 s.m (s.get 1),qA 11 (loadF true 4) 5,qF 12 fun s=>lookP prog s.m 62 (.bool false) (s.get 10) (s.get 11) false,qC 13 12,⟨some 14,some (13,false),.v fun s=>loadA false 1 s.m (s.get 2)⟩,⟨some 15,some (13,false),.v fun s=>loadF true 4 (s.get 5)⟩,⟨some 16,some (13,false),.v fun s=>lookP prog s.m 62 (.bool false) (s.get 14) (s.get 15) false⟩,qF 17 fun s=>pickA (s.get 13) (.bool true) (s.get 16)] K s:=(ae hf _ K s).trans (by kernel_rfl)
theorem aU:den prog ann 19 (.code i0::K) s=ifV prog ann 19 17 i0t i0e K s (s.get 17):=aB hf (by kernel_rfl) K s
theorem aZ:den prog ann 19 (.code i0t::K) s=den prog ann 19 (.code r2::.code .ret::K) s:=af hf (l:=[r2,.ret]) (by kernel_rfl) K s
theorem br:den prog ann 19 (.code r2::K) s=ah prog ann 19 none [] none [] [qF 6 fun s=>some (.nils)] K s:=(ae hf _ K s).trans (by kernel_rfl)
theorem aL:den prog ann 19 (.code i0e::K) s=den prog ann 19 (K) s:=af hf (l:=[]) (by kernel_rfl) K s
theorem qi:bh (fun g=>(ann g).pure) (bj (ann 19) (bI r3)) (bN (ann 19) (bI r3)) (opsOf r3)=true:=aQ (an:=[0,0,2,6,14,31]) (by kernel_rfl) (by kernel_rfl)
theorem aX:den prog ann 19 (.code r3::K) s=ah prog ann 19 none [] (some 6) [] [qA 18 (loadF true 4) 5,qF 19 fun s=>loadA false 1 s.m (s.get 3),qA 20 nilA 19,qA 21 (fieldA 1) 20,qF 22 fun s=>loadA true 4 s.m (s.get 21),qB 23 (binA prog .eql 62) 18 22] K s:=(aW hf qi K s).trans (by kernel_rfl)
theorem bC:den prog ann 19 (.code i1::K) s=ifV prog ann 19 23 i1t i1e K s (s.get 23):=aB hf (by kernel_rfl) K s
theorem bA:den prog ann 19 (.code i1t::K) s=den prog ann 19 (.code r4::.code .ret::K) s:=af hf (l:=[r4,.ret]) (by kernel_rfl) K s
theorem bg:den prog ann 19 (.code r4::K) s=ah prog ann 19 none [] none [] [qF 24 fun s=>loadA false 1 s.m (s.get 3),qA 25 (loadF true 4) 5,⟨some 26,none,.c 2 (fun s=>(.fn 20 [] [])) fun s=>[(s.get 24),(s.get 25)]⟩,qF 27 fun s=>bslF 1 (bslA 1 1 [.nils] [(0,(s.get 26))]),qC 6 27] K s:=(ae hf _ K s).trans (by kernel_rfl)
theorem aY:den prog ann 19 (.code i1e::K) s=den prog ann 19 (K) s:=af hf (l:=[]) (by kernel_rfl) K s
theorem bd:den prog ann 19 (.code r5::K) s=ah prog ann 19 none [] none [] [qF 28 fun s=>loadA false 1 s.m (s.get 3),qA 29 (loadF true 4) 5,⟨some 30,none,.c 2 (fun s=>(.fn 21 [] [])) fun s=>[(s.get 28),(s.get 29)]⟩,qA 31 lenSl 30,qF 32 fun s=>some (.int .i64 0)] K s:=(ae hf _ K s).trans (by kernel_rfl)
theorem bu (K:List Item) (t:List (Nat×AV)) (m:Mem):den prog ann 19 (.code k0::K) ⟨t,50,m⟩=L0 (get t 2) (get t 3) (get t 4) (get t 5) (get t 30) (get t 31) (get t 32) m K:=ar hf (b:=l0) (id:=6) (l:=[2,3,4,5,30,31,32]) (by kernel_rfl) (by kernel_rfl) (by kernel_rfl) K _
theorem bP (K:List Item) (t:List (Nat×AV)) (m:Mem):den prog ann 19 (.inLoop l0::.inBlock 0::K) ⟨t,50,m⟩=L0 (get t 2) (get t 3) (get t 4) (get t 5) (get t 30) (get t 31) (get t 32) m K:=ay hf (id:=6) (l:=[2,3,4,5,30,31,32]) (by kernel_rfl) (by kernel_rfl) (.inBlock 0::K) _
theorem aM (x2 x3 x4 x5 x30 x31 x32:AV) (m:Mem) (K:List Item):L0 x2 x3 x4 x5 x30 x31 x32 m K=den prog ann 19 (.code r6::.code i2::.code k1::.code r11::.inLoop l0::.inBlock 0::K) ⟨[(2,x2),(3,x3),(4,x4),(5,x5),(30,x30),(31,x31),(32,x32)],50,m⟩:=af hf (l:=[r6,i2,k1,r11]) (by kernel_rfl) _ _
theorem bo:den prog ann 19 (.code r6::K) s=ah prog ann 19 (some [2,3,4,5,30,31,32]) [] none [] [qB 33 (binA prog .lss 3) 32 31] K s:=(ae hf _ K s).trans (by kernel_rfl)
theorem cw:den prog ann 19 (.code i2::K) s=ifV prog ann 19 33 i2t i2e K s (s.get 33):=aB hf (by kernel_rfl) K s
theorem cj:den prog ann 19 (.code i2t::K) s=den prog ann 19 (K) s:=af hf (l:=[]) (by kernel_rfl) K s
theorem bY:den prog ann 19 (.code i2e::K) s=den prog ann 19 (.code (.exit 0)::K) s:=af hf (l:=[(.exit 0)]) (by kernel_rfl) K s
theorem bH:den prog ann 19 (.code k1::K) s=den prog ann 19 (.code r7::.code r8::.code r9::.code i3::.inBlock 1::K) s:=aS hf (b:=blkOf k1) (l:=[r7,r8,r9,i3]) (by kernel_rfl) (by kernel_rfl) K s
theorem bM:den prog ann 19 (.code r7::K) s=ah prog ann 19 none [] none [8] [qB 34 (idxSl 4) 30 32,qA 35 (loadF true 4) 34,⟨some 8,none,.w false none fun s=>newPtr s.m [.int .i64 0,.int .i64 0,.int .i64 0,.int .i64 0]⟩,⟨none,none,.w false none fun s=>stA true 4 s.m (s.get 8) (s.get 35)⟩] K s:=(ae hf _ K s).trans (by kernel_rfl)
theorem bQ:den prog ann 19 (.code r8::K) s=ah prog ann 19 none [] none [] [qF 36 fun s=>loadA false 1 s.m (s.get 4),qA 37 (loadF true 4) 8,⟨some 38,none,.c 0 (fun s=>(s.get 36)) fun s=>[(s.get 37)]⟩,qC 9 38] K s:=(ae hf _ K s).trans (by kernel_rfl)
theorem bU:den prog ann 19 (.code r9::K) s=ah prog ann 19 none [] none [] [qC 39 9,qF 40 fun s=>binA prog .neq 32 (s.get 39) (.nils)] K s:=(ae hf _ K s).trans (by kernel_rfl)
theorem eT:den prog ann 19 (.code i3::K) s=ifV prog ann 19 40 i3t i3e K s (s.get 40):=aB hf (by kernel_rfl) K s
theorem dw:den prog ann 19 (.code i3t::K) s=den prog ann 19 (.code r10::.code .ret::K) s:=af hf (l:=[r10,.ret]) (by kernel_rfl) K s
theorem bV:den prog ann 19 (.code r10::K) s=ah prog ann 19 none [] none [] [qF 41 fun s=>loadA false 1 s.m (s.get 3),qA 42 (loadF true 4) 5,⟨some 43,none,.c 2 (fun s=>(.fn 20 [] [])) fun s=>[(s.get 41),(s.get 42)]⟩,⟨some 44,none,.w false none fun s=>bslM s.m 1 (bslA 1 1 [.nils] [(0,(s.get 43))])⟩,qC 45 9,⟨some 46,none,.w true none fun s=>appendA 1 24 s.m (s.get 44) (s.get 45)⟩,qC 6 46] K s:=(ae hf _ K s).trans (by kernel_rfl)
theorem ej:den prog ann 19 (.code i3e::K) s=den prog ann 19 (K) s:=af hf (l:=[]) (by kernel_rfl) K s
theorem bW:den prog ann 19 (.code r11::K) s=ah prog ann 19 (some [2,3,4,5,30,31,32]) [] none [] [qF 47 fun s=>binA prog .add 3 (s.get 32) (.int .i64 1),qC 32 47] K s:=(ae hf _ K s).trans (by kernel_rfl)
theorem cv:den prog ann 19 (.code r12::K) s=ah prog ann 19 (some [2,5]) [] none [] [qF 48 fun s=>loadA false 1 s.m (s.get 2),qA 49 (loadF true 4) 5,⟨none,none,.w false none fun s=>updM prog s.m 62 (s.get 48) (s.get 49) (.bool true)⟩] K s:=(ae hf _ K s).trans (by kernel_rfl)
theorem cP:den prog ann 19 (.code r13::K) s=ah prog ann 19 none [] none [] [qF 6 fun s=>some (.nils)] K s:=(ae hf _ K s).trans (by kernel_rfl)
theorem aE:den prog ann 19 (.code .ret::K) s=finM false [fun s=>some (s.get 6)] s:=(aO hf K s).trans (by kernel_rfl)
theorem aC (id:Nat) (K:List Item) (s:St):den prog ann 19 (.inBlock id::K) s=den prog ann 19 K s:=aR hf id K s
theorem aT (id:Nat) (K:List Item) (s:St):den prog ann 19 (.code (.exit id)::K) s=exitV prog ann 19 (exitTo id K) s:=bp hf id K s
theorem al (v0 v1 v2 v3 v4:AV) (m:Mem):denC prog ann 19 [v0,v1,v2,v3,v4] m=den prog ann 19 [.code b] ⟨[(0,v0),(1,v1),(2,v2),(3,v3),(4,v4)],50,m⟩:=(aJ hf (b:=b) (by kernel_rfl) (by kernel_rfl) (by kernel_rfl) m).trans (by kernel_rfl)
attribute [simp] aV aH aI aU aZ br aL aX bC bA bg aY bd bu bP bo cw cj bY bH bM bQ bU eT dw bV ej bW cv cP aE aC aT
end
end bK
namespace jA
noncomputable section
variable (K : List Item) (s : St)
def b:Code:=(Tryz.f62.body).getD .skip
theorem hf:prog.funcs[62]?=some Tryz.f62:=by kernel_rfl
def r0:=aa b 0
def r1:=aa b 1
def k0:=ax b 0
def l0:=bw k0
def L0 (x2 x3 x4 x6:AV) (m:Mem) (K:List Item):Option Res:=den prog ann 62 (.code l0::.inLoop l0::.inBlock 0::K) ⟨[(2,x2),(3,x3),(4,x4),(6,x6)],20,m⟩
def r2:=aa b 2
def i0:=ak b 0
def i0t:=az i0
def i0e:=aA i0
def k1:=ax b 1
def r3:=aa b 3
def r4:=aa b 4
def r5:=aa b 5
def r6:=aa b 6
theorem aV:den prog ann 62 (.code b::K) s=den prog ann 62 (.code r0::.code r1::.code k0::.code r6::.code .ret::K) s:=af hf (l:=[r0,r1,k0,r6,.ret]) (by kernel_rfl) K s
theorem aH:den prog ann 62 (.code r0::K) s=ah prog ann 62 none [] none [] [⟨some 2,none,.w false none fun s=>newPtr s.m (AV.cells (s.get 0))⟩,qA 3 frozenPtr 1,⟨some 4,none,.w false none fun s=>newPtr s.m [.int .i64 0,.int .i64 0,.int .i64 0,.int .i64 0]⟩] K s:=(ae hf _ K s).trans (by kernel_rfl)
theorem aI:den prog ann 62 (.code r1::K) s=ah prog ann 62 none [] none [] [qF 6 fun s=>some (.int .i64 0)] K s:=(ae hf _ K s).trans (by kernel_rfl)
theorem bu (K:List Item) (t:List (Nat×AV)) (m:Mem):den prog ann 62 (.code k0::K) ⟨t,20,m⟩=L0 (get t 2) (get t 3) (get t 4) (get t 6) m K:=ar hf (b:=l0) (id:=2) (l:=[2,3,4,6]) (by kernel_rfl) (by kernel_rfl) (by kernel_rfl) K _
theorem bP (K:List Item) (t:List (Nat×AV)) (m:Mem):den prog ann 62 (.inLoop l0::.inBlock 0::K) ⟨t,20,m⟩=L0 (get t 2) (get t 3) (get t 4) (get t 6) m K:=ay hf (id:=2) (l:=[2,3,4,6]) (by kernel_rfl) (by kernel_rfl) (.inBlock 0::K) _
theorem aM (x2 x3 x4 x6:AV) (m:Mem) (K:List Item):L0 x2 x3 x4 x6 m K=den prog ann 62 (.code r2::.code i0::.code k1::.code r5::.inLoop l0::.inBlock 0::K) ⟨[(2,x2),(3,x3),(4,x4),(6,x6)],20,m⟩:=af hf (l:=[r2,i0,k1,r5]) (by kernel_rfl) _ _
theorem br:den prog ann 62 (.code r2::K) s=ah prog ann 62 (some [2,3,4,6]) [] none [] [qF 7 fun s=>binA prog .lss 3 (s.get 6) (.int .i64 4)] K s:=(ae hf _ K s).trans (by kernel_rfl)
theorem aU:den prog ann 62 (.code i0::K) s=ifV prog ann 62 7 i0t i0e K s (s.get 7):=aB hf (by kernel_rfl) K s
theorem aZ:den prog ann 62 (.code i0t::K) s=den prog ann 62 (K) s:=af hf (l:=[]) (by kernel_rfl) K s
theorem aL:den prog ann 62 (.code i0e::K) s=den prog ann 62 (.code (.exit 0)::K) s:=af hf (l:=[(.exit 0)]) (by kernel_rfl) K s
theorem bH:den prog ann 62 (.code k1::K) s=den prog ann 62 (.code r3::.code r4::.inBlock 1::K) s:=aS hf (b:=blkOf k1) (l:=[r3,r4]) (by kernel_rfl) (by kernel_rfl) K s
theorem aX:den prog ann 62 (.code r3::K) s=ah prog ann 62 none [] none [] [qC 8 6,qC 5 8] K s:=(ae hf _ K s).trans (by kernel_rfl)
theorem dM:bh (fun g=>(ann g).pure) (bj (ann 62) (bI r4)) (bN (ann 62) (bI r4)) (opsOf r4)=true:=aQ (an:=[0,0,2,6,0,16,48,126,255,511]) (by kernel_rfl) (by kernel_rfl)
theorem bg:den prog ann 62 (.code r4::K) s=ah prog ann 62 none [] (some 10) [] [qC 9 5,qC 10 5,qB 11 (idxArr 4 1) 2 10,qF 12 fun s=>loadA false 1 s.m (s.get 11),qC 13 5,qB 14 (idxArr 4 1) 3 13,qA 15 (loadF false 1) 14,qF 16 fun s=>foldA max2A (s.get 12) [(s.get 15)],qB 17 (idxArr 4 1) 2 9,⟨none,none,.w false (some 9) fun s=>stA false 1 s.m (s.get 17) (s.get 16)⟩] K s:=(aW hf dM K s).trans (by kernel_rfl)
theorem bd:den prog ann 62 (.code r5::K) s=ah prog ann 62 (some [2,3,4,6]) [] none [] [qF 18 fun s=>binA prog .add 3 (s.get 6) (.int .i64 1),qC 6 18] K s:=(ae hf _ K s).trans (by kernel_rfl)
theorem bo:den prog ann 62 (.code r6::K) s=ah prog ann 62 (some [2,4]) [] none [] [qF 19 fun s=>loadA true 4 s.m (s.get 2),⟨none,none,.w false none fun s=>stA true 4 s.m (s.get 4) (s.get 19)⟩] K s:=(ae hf _ K s).trans (by kernel_rfl)
theorem aE:den prog ann 62 (.code .ret::K) s=finM true [fun s=>loadA true 4 s.m (s.get 4)] s:=(aO hf K s).trans (by kernel_rfl)
theorem aC (id:Nat) (K:List Item) (s:St):den prog ann 62 (.inBlock id::K) s=den prog ann 62 K s:=aR hf id K s
theorem aT (id:Nat) (K:List Item) (s:St):den prog ann 62 (.code (.exit id)::K) s=exitV prog ann 62 (exitTo id K) s:=bp hf id K s
theorem al (v0 v1:AV) (m:Mem) (h:closedL [v0,v1]=true):denC prog ann 62 [v0,v1] m=(den prog ann 62 [.code b] ⟨[(0,v0),(1,v1)],20,Mem.empty⟩).bind fun r=>some (r.1,m):=(bD hf (b:=b) (by kernel_rfl) (by kernel_rfl) (by kernel_rfl) h m).trans (by kernel_rfl)
theorem aq:(ann 62).pure=true:=by kernel_rfl
attribute [simp] aV aH aI bu bP br aU aZ aL bH aX bg bd bo aE aC aT aq
end
end jA
namespace ai
noncomputable section
variable (K : List Item) (s : St)
def b:Code:=(Tryz.f35.body).getD .skip
theorem hf:prog.funcs[35]?=some Tryz.f35:=by kernel_rfl
def r0:=aa b 0
def r1:=aa b 1
def r2:=aa b 2
def i0:=ak b 0
def i0t:=az i0
def i0e:=aA i0
def r3:=aa b 3
def r4:=aa b 4
def r5:=aa b 5
def r6:=aa b 6
def r7:=aa b 7
def k0:=ax b 0
def l0:=bw k0
def L0 (x1 x4 x5 x6 x61 x62 x63:AV) (m:Mem) (K:List Item):Option Res:=den prog ann 35 (.code l0::.inLoop l0::.inBlock 0::K) ⟨[(1,x1),(4,x4),(5,x5),(6,x6),(61,x61),(62,x62),(63,x63)],224,m⟩
def r8:=aa b 8
def i1:=ak b 1
def i1t:=az i1
def i1e:=aA i1
def k1:=ax b 1
def r9:=aa b 9
def r10:=aa b 10
def i2:=ak b 2
def i2t:=az i2
def i2e:=aA i2
def r11:=aa b 11
def r12:=aa b 12
def r13:=aa b 13
def k2:=ax b 2
def l2:=bw k2
def L2 (x1 x4 x5 x91 x92:AV) (m:Mem) (K:List Item):Option Res:=den prog ann 35 (.code l2::.inLoop l2::.inBlock 2::K) ⟨[(1,x1),(4,x4),(5,x5),(91,x91),(92,x92)],224,m⟩
def r14:=aa b 14
def i3:=ak b 3
def i3t:=az i3
def i3e:=aA i3
def k3:=ax b 3
def r15:=aa b 15
def r16:=aa b 16
def k4:=ax b 4
def l4:=bw k4
def L4 (x1 x4 x5 x9 x91 x92 x99 x100:AV) (m:Mem) (K:List Item):Option Res:=den prog ann 35 (.code l4::.inLoop l4::.inBlock 4::K) ⟨[(1,x1),(4,x4),(5,x5),(9,x9),(91,x91),(92,x92),(99,x99),(100,x100)],224,m⟩
def r17:=aa b 17
def i4:=ak b 4
def i4t:=az i4
def i4e:=aA i4
def k5:=ax b 5
def r18:=aa b 18
def r19:=aa b 19
def r20:=aa b 20
def r21:=aa b 21
def r22:=aa b 22
def r23:=aa b 23
def r24:=aa b 24
def k6:=ax b 6
def l6:=bw k6
def L6 (x1 x4 x5 x12:AV) (m:Mem) (K:List Item):Option Res:=den prog ann 35 (.code l6::.inLoop l6::.inBlock 6::K) ⟨[(1,x1),(4,x4),(5,x5),(12,x12)],224,m⟩
def r25:=aa b 25
def i5:=ak b 5
def i5t:=az i5
def i5e:=aA i5
def k7:=ax b 7
def r26:=aa b 26
def r27:=aa b 27
def r28:=aa b 28
def k8:=ax b 8
def l8:=bw k8
def L8 (x1 x4 x5 x12 x13 x125 x126:AV) (m:Mem) (K:List Item):Option Res:=den prog ann 35 (.code l8::.inLoop l8::.inBlock 8::K) ⟨[(1,x1),(4,x4),(5,x5),(12,x12),(13,x13),(125,x125),(126,x126)],224,m⟩
def r29:=aa b 29
def i6:=ak b 6
def i6t:=az i6
def i6e:=aA i6
def k9:=ax b 9
def r30:=aa b 30
def r31:=aa b 31
def k10:=ax b 10
def l10:=bw k10
def L10 (x1 x4 x5 x12 x13 x14 x15 x125 x126:AV) (m:Mem) (K:List Item):Option Res:=den prog ann 35 (.code l10::.inLoop l10::.inBlock 10::K) ⟨[(1,x1),(4,x4),(5,x5),(12,x12),(13,x13),(14,x14),(15,x15),(125,x125),(126,x126)],224,m⟩
def r32:=aa b 32
def i7:=ak b 7
def i7t:=az i7
def i7e:=aA i7
def k11:=ax b 11
def r34:=aa b 34
def r33:=aa b 33
def r35:=aa b 35
def r36:=aa b 36
def k12:=ax b 12
def l12:=bw k12
def L12 (x1 x4 x5 x12 x13 x154 x155 x156:AV) (m:Mem) (K:List Item):Option Res:=den prog ann 35 (.code l12::.inLoop l12::.inBlock 12::K) ⟨[(1,x1),(4,x4),(5,x5),(12,x12),(13,x13),(154,x154),(155,x155),(156,x156)],224,m⟩
def r37:=aa b 37
def i8:=ak b 8
def i8t:=az i8
def i8e:=aA i8
def k13:=ax b 13
def r38:=aa b 38
def r39:=aa b 39
def r40:=aa b 40
def r41:=aa b 41
def r42:=aa b 42
def r43:=aa b 43
def k14:=ax b 14
def l14:=bw k14
def L14 (x4 x5 x181 x182:AV) (m:Mem) (K:List Item):Option Res:=den prog ann 35 (.code l14::.inLoop l14::.inBlock 14::K) ⟨[(4,x4),(5,x5),(181,x181),(182,x182)],224,m⟩
def r44:=aa b 44
def i9:=ak b 9
def i9t:=az i9
def i9e:=aA i9
def k15:=ax b 15
def r45:=aa b 45
def r46:=aa b 46
def k16:=ax b 16
def l16:=bw k16
def L16 (x4 x5 x18 x181 x182 x190 x191 x192:AV) (m:Mem) (K:List Item):Option Res:=den prog ann 35 (.code l16::.inLoop l16::.inBlock 16::K) ⟨[(4,x4),(5,x5),(18,x18),(181,x181),(182,x182),(190,x190),(191,x191),(192,x192)],224,m⟩
def r47:=aa b 47
def i10:=ak b 10
def i10t:=az i10
def i10e:=aA i10
def k17:=ax b 17
def r48:=aa b 48
def r49:=aa b 49
def i11:=ak b 11
def i11t:=az i11
def i11e:=aA i11
def r50:=aa b 50
def r51:=aa b 51
def k18:=ax b 18
def l18:=bw k18
def L18 (x4 x5 x18 x20 x181 x182 x190 x191 x192 x203 x204:AV) (m:Mem) (K:List Item):Option Res:=den prog ann 35 (.code l18::.inLoop l18::.inBlock 18::K) ⟨[(4,x4),(5,x5),(18,x18),(20,x20),(181,x181),(182,x182),(190,x190),(191,x191),(192,x192),(203,x203),(204,x204)],224,m⟩
def r52:=aa b 52
def i12:=ak b 12
def i12t:=az i12
def i12e:=aA i12
def k19:=ax b 19
def r53:=aa b 53
def r54:=aa b 54
def i13:=ak b 13
def i13t:=az i13
def i13e:=aA i13
def r55:=aa b 55
def r56:=aa b 56
def r57:=aa b 57
def r58:=aa b 58
def r59:=aa b 59
theorem aV:den prog ann 35 (.code b::K) s=den prog ann 35 (.code r0::.code r1::.code r2::.code i0::.code r4::.code r5::.code r6::.code r7::.code k0::.code r13::.code k2::.code r24::.code k6::.code r43::.code k14::.code r59::.code .ret::K) s:=af hf (l:=[r0,r1,r2,i0,r4,r5,r6,r7,k0,r13,k2,r24,k6,r43,k14,r59,.ret]) (by kernel_rfl) K s
theorem aH:den prog ann 35 (.code r0::K) s=ah prog ann 35 none [] none [] [qA 1 frozenPtr 0,qF 2 fun s=>some (.nilp),qF 3 fun s=>some (.bool false)] K s:=(ae hf _ K s).trans (by kernel_rfl)
theorem aI:den prog ann 35 (.code r1::K) s=ah prog ann 35 none [] none [4] [qA 22 (fieldA 0) 1,qA 23 (loadF false 1) 22,qA 24 lenSl 23,⟨some 4,none,.w false none fun s=>newPtr s.m [.int .i64 0]⟩,⟨none,none,.w false none fun s=>stA false 1 s.m (s.get 4) (s.get 24)⟩] K s:=(ae hf _ K s).trans (by kernel_rfl)
theorem br:den prog ann 35 (.code r2::K) s=ah prog ann 35 none [] none [] [qA 25 (loadF false 1) 4,qF 26 fun s=>binA prog .lss 3 (s.get 25) (.int .i64 1),qC 27 26,⟨some 28,some (27,false),.v fun s=>loadF false 1 (s.get 4)⟩,⟨some 29,some (27,false),.v fun s=>binA prog .gtr 3 (s.get 28) (.int .i64 4)⟩,qF 30 fun s=>pickA (s.get 27) (.bool true) (s.get 29),qC 31 30,⟨some 32,some (31,false),.v fun s=>fieldA 1 (s.get 1)⟩,⟨some 33,some (31,false),.v fun s=>loadF false 1 (s.get 32)⟩,⟨some 34,some (31,false),.v fun s=>lenSl (s.get 33)⟩,⟨some 35,some (31,false),.v fun s=>binA prog .gtr 3 (s.get 34) (.int .i64 24)⟩,qF 36 fun s=>pickA (s.get 31) (.bool true) (s.get 35),qC 37 36,⟨some 38,some (37,false),.v fun s=>fieldA 0 (s.get 1)⟩,⟨some 39,some (37,false),.v fun s=>loadF false 1 (s.get 38)⟩,⟨some 40,some (37,false),.c 0 (fun s=>(.fn 58 [] [])) fun s=>[(s.get 39)]⟩,⟨some 41,some (37,false),.v fun s=>binA prog .lss 3 (s.get 40) (.int .i64 0)⟩,qF 42 fun s=>pickA (s.get 37) (.bool true) (s.get 41),qC 43 42,⟨some 44,some (43,false),.v fun s=>fieldA 0 (s.get 1)⟩,⟨some 45,some (43,false),.v fun s=>loadF false 1 (s.get 44)⟩,⟨some 46,some (43,false),.c 0 (fun s=>(.fn 59 [] [])) fun s=>[(s.get 45)]⟩,⟨some 47,some (43,false),.v fun s=>binA prog .gtr 3 (s.get 46) (.int .i64 6)⟩,qF 48 fun s=>pickA (s.get 43) (.bool true) (s.get 47)] K s:=(ae hf _ K s).trans (by kernel_rfl)
theorem aU:den prog ann 35 (.code i0::K) s=ifV prog ann 35 48 i0t i0e K s (s.get 48):=aB hf (by kernel_rfl) K s
theorem aZ:den prog ann 35 (.code i0t::K) s=den prog ann 35 (.code r3::.code .ret::K) s:=af hf (l:=[r3,.ret]) (by kernel_rfl) K s
theorem aX:den prog ann 35 (.code r3::K) s=ah prog ann 35 none [] none [] [qF 2 fun s=>some (.nilp),qF 3 fun s=>some (.bool false)] K s:=(ae hf _ K s).trans (by kernel_rfl)
theorem aL:den prog ann 35 (.code i0e::K) s=den prog ann 35 (K) s:=af hf (l:=[]) (by kernel_rfl) K s
theorem bg:den prog ann 35 (.code r4::K) s=ah prog ann 35 none [] none [5] [qA 49 (loadF false 1) 4,qF 50 fun s=>bldA (plc [(0,1),(1,4),(5,4)]) [.int .i64 0,.int .i64 0,.int .i64 0,.int .i64 0,.int .i64 0,.nils,.nils,.nils,.nils] [(0,(s.get 49))],⟨some 51,none,.w false none fun s=>newPtr s.m (AV.cells (s.get 50))⟩,⟨some 5,none,.w false none fun s=>newPtr s.m [.nilp]⟩,⟨none,none,.w false none fun s=>stA false 1 s.m (s.get 5) (s.get 51)⟩] K s:=(ae hf _ K s).trans (by kernel_rfl)
theorem dm:bh (fun g=>(ann g).pure) (bj (ann 35) (bI r5)) (bN (ann 35) (bI r5)) (opsOf r5)=true:=aQ (an:=[0,1,3,7,0,16,63]) (by kernel_rfl) (by kernel_rfl)
theorem bd:den prog ann 35 (.code r5::K) s=ah prog ann 35 none [] (some 7) [] [qA 52 (loadF false 1) 5,qA 53 nilA 52,qA 54 (fieldA 1) 53,qF 55 fun s=>sliceArr 4 1 (s.get 54) none none,qA 56 (fieldA 0) 1,qA 57 (loadF false 1) 56,⟨some 58,none,.w false (some 6) fun s=>copyA 1 s.m (s.get 55) (s.get 57)⟩] K s:=(aW hf dm K s).trans (by kernel_rfl)
theorem bo:den prog ann 35 (.code r6::K) s=ah prog ann 35 none [] none [] [qF 59 fun s=>some (.fn 60 [] [(s.get 4),(s.get 1)]),qC 6 59] K s:=(ae hf _ K s).trans (by kernel_rfl)
theorem bM:den prog ann 35 (.code r7::K) s=ah prog ann 35 none [] none [] [qA 60 (fieldA 1) 1,qA 61 (loadF false 1) 60,qA 62 lenSl 61,qF 63 fun s=>some (.int .i64 0)] K s:=(ae hf _ K s).trans (by kernel_rfl)
theorem bu (K:List Item) (t:List (Nat×AV)) (m:Mem):den prog ann 35 (.code k0::K) ⟨t,224,m⟩=L0 (get t 1) (get t 4) (get t 5) (get t 6) (get t 61) (get t 62) (get t 63) m K:=ar hf (b:=l0) (id:=8) (l:=[1,4,5,6,61,62,63]) (by kernel_rfl) (by kernel_rfl) (by kernel_rfl) K _
theorem bP (K:List Item) (t:List (Nat×AV)) (m:Mem):den prog ann 35 (.inLoop l0::.inBlock 0::K) ⟨t,224,m⟩=L0 (get t 1) (get t 4) (get t 5) (get t 6) (get t 61) (get t 62) (get t 63) m K:=ay hf (id:=8) (l:=[1,4,5,6,61,62,63]) (by kernel_rfl) (by kernel_rfl) (.inBlock 0::K) _
theorem aM (x1 x4 x5 x6 x61 x62 x63:AV) (m:Mem) (K:List Item):L0 x1 x4 x5 x6 x61 x62 x63 m K=den prog ann 35 (.code r8::.code i1::.code k1::.code r12::.inLoop l0::.inBlock 0::K) ⟨[(1,x1),(4,x4),(5,x5),(6,x6),(61,x61),(62,x62),(63,x63)],224,m⟩:=af hf (l:=[r8,i1,k1,r12]) (by kernel_rfl) _ _
theorem bQ:den prog ann 35 (.code r8::K) s=ah prog ann 35 (some [1,4,5,6,61,62,63]) [] none [] [qB 64 (binA prog .lss 3) 63 62] K s:=(ae hf _ K s).trans (by kernel_rfl)
theorem bC:den prog ann 35 (.code i1::K) s=ifV prog ann 35 64 i1t i1e K s (s.get 64):=aB hf (by kernel_rfl) K s
theorem bA:den prog ann 35 (.code i1t::K) s=den prog ann 35 (K) s:=af hf (l:=[]) (by kernel_rfl) K s
theorem aY:den prog ann 35 (.code i1e::K) s=den prog ann 35 (.code (.exit 0)::K) s:=af hf (l:=[(.exit 0)]) (by kernel_rfl) K s
theorem bH:den prog ann 35 (.code k1::K) s=den prog ann 35 (.code r9::.code r10::.code i2::.inBlock 1::K) s:=aS hf (b:=blkOf k1) (l:=[r9,r10,i2]) (by kernel_rfl) (by kernel_rfl) K s
theorem bU:den prog ann 35 (.code r9::K) s=ah prog ann 35 none [] none [8] [qB 65 (idxSl 4) 61 63,qA 66 (loadF true 4) 65,⟨some 8,none,.w false none fun s=>newPtr s.m [.int .i64 0,.int .i64 0,.int .i64 0,.int .i64 0]⟩,⟨none,none,.w false none fun s=>stA true 4 s.m (s.get 8) (s.get 66)⟩] K s:=(ae hf _ K s).trans (by kernel_rfl)
theorem bV:den prog ann 35 (.code r10::K) s=ah prog ann 35 none [] none [] [qC 67 6,qA 68 (fieldA 0) 8,qA 69 (loadF false 1) 68,qA 70 (fieldA 1) 8,qA 71 (loadF false 1) 70,⟨some 72,none,.c 0 (fun s=>(s.get 67)) fun s=>[(s.get 69),(s.get 71)]⟩,qA 73 (unA .not) 72,qC 74 73,⟨some 75,some (74,false),.v fun s=>some (s.get 6)⟩,⟨some 76,some (74,false),.v fun s=>fieldA 2 (s.get 8)⟩,⟨some 77,some (74,false),.v fun s=>loadF false 1 (s.get 76)⟩,⟨some 78,some (74,false),.v fun s=>fieldA 3 (s.get 8)⟩,⟨some 79,some (74,false),.v fun s=>loadF false 1 (s.get 78)⟩,⟨some 80,some (74,false),.c 0 (fun s=>(s.get 75)) fun s=>[(s.get 77),(s.get 79)]⟩,⟨some 81,some (74,false),.v fun s=>unA .not (s.get 80)⟩,qF 82 fun s=>pickA (s.get 74) (.bool true) (s.get 81),qC 83 82,⟨some 84,some (83,false),.v fun s=>fieldA 0 (s.get 8)⟩,⟨some 85,some (83,false),.v fun s=>loadF false 1 (s.get 84)⟩,⟨some 86,some (83,false),.v fun s=>fieldA 2 (s.get 8)⟩,⟨some 87,some (83,false),.v fun s=>loadF false 1 (s.get 86)⟩,⟨some 88,some (83,false),.v fun s=>binA prog .eql 3 (s.get 85) (s.get 87)⟩,qF 89 fun s=>pickA (s.get 83) (.bool true) (s.get 88)] K s:=(ae hf _ K s).trans (by kernel_rfl)
theorem cw:den prog ann 35 (.code i2::K) s=ifV prog ann 35 89 i2t i2e K s (s.get 89):=aB hf (by kernel_rfl) K s
theorem cj:den prog ann 35 (.code i2t::K) s=den prog ann 35 (.code r11::.code .ret::K) s:=af hf (l:=[r11,.ret]) (by kernel_rfl) K s
theorem bW:den prog ann 35 (.code r11::K) s=ah prog ann 35 none [] none [] [qF 2 fun s=>some (.nilp),qF 3 fun s=>some (.bool false)] K s:=(ae hf _ K s).trans (by kernel_rfl)
theorem bY:den prog ann 35 (.code i2e::K) s=den prog ann 35 (K) s:=af hf (l:=[]) (by kernel_rfl) K s
theorem cv:den prog ann 35 (.code r12::K) s=ah prog ann 35 (some [1,4,5,6,61,62,63]) [] none [] [qF 90 fun s=>binA prog .add 3 (s.get 63) (.int .i64 1),qC 63 90] K s:=(ae hf _ K s).trans (by kernel_rfl)
theorem cP:den prog ann 35 (.code r13::K) s=ah prog ann 35 (some [1,4,5]) [] none [] [qA 91 (loadF false 1) 4,qF 92 fun s=>some (.int .i64 0)] K s:=(ae hf _ K s).trans (by kernel_rfl)
theorem dL (K:List Item) (t:List (Nat×AV)) (m:Mem):den prog ann 35 (.code k2::K) ⟨t,224,m⟩=L2 (get t 1) (get t 4) (get t 5) (get t 91) (get t 92) m K:=ar hf (b:=l2) (id:=14) (l:=[1,4,5,91,92]) (by kernel_rfl) (by kernel_rfl) (by kernel_rfl) K _
theorem ie (K:List Item) (t:List (Nat×AV)) (m:Mem):den prog ann 35 (.inLoop l2::.inBlock 2::K) ⟨t,224,m⟩=L2 (get t 1) (get t 4) (get t 5) (get t 91) (get t 92) m K:=ay hf (id:=14) (l:=[1,4,5,91,92]) (by kernel_rfl) (by kernel_rfl) (.inBlock 2::K) _
theorem dt (x1 x4 x5 x91 x92:AV) (m:Mem) (K:List Item):L2 x1 x4 x5 x91 x92 m K=den prog ann 35 (.code r14::.code i3::.code k3::.code r23::.inLoop l2::.inBlock 2::K) ⟨[(1,x1),(4,x4),(5,x5),(91,x91),(92,x92)],224,m⟩:=af hf (l:=[r14,i3,k3,r23]) (by kernel_rfl) _ _
theorem cY:den prog ann 35 (.code r14::K) s=ah prog ann 35 (some [1,4,5,91,92]) [] none [] [qB 93 (binA prog .lss 3) 92 91] K s:=(ae hf _ K s).trans (by kernel_rfl)
theorem eT:den prog ann 35 (.code i3::K) s=ifV prog ann 35 93 i3t i3e K s (s.get 93):=aB hf (by kernel_rfl) K s
theorem dw:den prog ann 35 (.code i3t::K) s=den prog ann 35 (K) s:=af hf (l:=[]) (by kernel_rfl) K s
theorem ej:den prog ann 35 (.code i3e::K) s=den prog ann 35 (.code (.exit 2)::K) s:=af hf (l:=[(.exit 2)]) (by kernel_rfl) K s
theorem fy:den prog ann 35 (.code k3::K) s=den prog ann 35 (.code r15::.code r16::.code k4::.inBlock 3::K) s:=aS hf (b:=blkOf k3) (l:=[r15,r16,k4]) (by kernel_rfl) (by kernel_rfl) K s
theorem eX:den prog ann 35 (.code r15::K) s=ah prog ann 35 none [] none [] [qC 94 92,qC 9 94] K s:=(ae hf _ K s).trans (by kernel_rfl)
theorem dg:den prog ann 35 (.code r16::K) s=ah prog ann 35 none [] none [] [qA 95 (fieldA 0) 1,qA 96 (loadF false 1) 95,qC 97 9,qB 98 (idxSl 1) 96 97,qA 99 (loadF false 1) 98,qF 100 fun s=>some (.int .i64 0)] K s:=(ae hf _ K s).trans (by kernel_rfl)
theorem m9 (K:List Item) (t:List (Nat×AV)) (m:Mem):den prog ann 35 (.code k4::K) ⟨t,224,m⟩=L4 (get t 1) (get t 4) (get t 5) (get t 9) (get t 91) (get t 92) (get t 99) (get t 100) m K:=ar hf (b:=l4) (id:=17) (l:=[1,4,5,9,91,92,99,100]) (by kernel_rfl) (by kernel_rfl) (by kernel_rfl) K _
theorem sV (K:List Item) (t:List (Nat×AV)) (m:Mem):den prog ann 35 (.inLoop l4::.inBlock 4::K) ⟨t,224,m⟩=L4 (get t 1) (get t 4) (get t 5) (get t 9) (get t 91) (get t 92) (get t 99) (get t 100) m K:=ay hf (id:=17) (l:=[1,4,5,9,91,92,99,100]) (by kernel_rfl) (by kernel_rfl) (.inBlock 4::K) _
theorem ir (x1 x4 x5 x9 x91 x92 x99 x100:AV) (m:Mem) (K:List Item):L4 x1 x4 x5 x9 x91 x92 x99 x100 m K=den prog ann 35 (.code r17::.code i4::.code k5::.code r22::.inLoop l4::.inBlock 4::K) ⟨[(1,x1),(4,x4),(5,x5),(9,x9),(91,x91),(92,x92),(99,x99),(100,x100)],224,m⟩:=af hf (l:=[r17,i4,k5,r22]) (by kernel_rfl) _ _
theorem gA:den prog ann 35 (.code r17::K) s=ah prog ann 35 (some [1,4,5,9,91,92,99,100]) [] none [] [qB 101 (binA prog .lss 3) 100 99] K s:=(ae hf _ K s).trans (by kernel_rfl)
theorem jZ:den prog ann 35 (.code i4::K) s=ifV prog ann 35 101 i4t i4e K s (s.get 101):=aB hf (by kernel_rfl) K s
theorem ju:den prog ann 35 (.code i4t::K) s=den prog ann 35 (K) s:=af hf (l:=[]) (by kernel_rfl) K s
theorem jx:den prog ann 35 (.code i4e::K) s=den prog ann 35 (.code (.exit 4)::K) s:=af hf (l:=[(.exit 4)]) (by kernel_rfl) K s
theorem sW:den prog ann 35 (.code k5::K) s=den prog ann 35 (.code r18::.code r19::.code r20::.code r21::.inBlock 5::K) s:=aS hf (b:=blkOf k5) (l:=[r18,r19,r20,r21]) (by kernel_rfl) (by kernel_rfl) K s
theorem kW:den prog ann 35 (.code r18::K) s=ah prog ann 35 none [] none [] [qC 102 100,qC 10 102] K s:=(ae hf _ K s).trans (by kernel_rfl)
theorem fS:den prog ann 35 (.code r19::K) s=ah prog ann 35 none [] none [] [⟨some 11,none,.w false none fun s=>newPtr s.m [.int .i64 0,.int .i64 0,.int .i64 0,.int .i64 0]⟩] K s:=(ae hf _ K s).trans (by kernel_rfl)
theorem nM:den prog ann 35 (.code r20::K) s=ah prog ann 35 none [] none [] [qC 103 9,qC 104 10,qF 105 fun s=>binA prog .add 3 (s.get 104) (.int .i64 1),qB 106 (idxArr 4 1) 11 103,⟨none,none,.w false none fun s=>stA false 1 s.m (s.get 106) (s.get 105)⟩] K s:=(ae hf _ K s).trans (by kernel_rfl)
theorem nH:bh (fun g=>(ann g).pure) (bj (ann 35) (bI r21)) (bN (ann 35) (bI r21)) (opsOf r21)=true:=aQ (an:=[0,0,0,0,4,20,60,124,0,256,1020,1,2049,8191,16383]) (by kernel_rfl) (by kernel_rfl)
theorem nI:den prog ann 35 (.code r21::K) s=ah prog ann 35 none [] (some 15) [] [qA 107 (loadF false 1) 5,qC 108 9,qA 109 (loadF false 1) 5,qC 110 9,qA 111 nilA 109,qA 112 (fieldA 5) 111,qB 113 (idxArr 4 1) 112 110,qF 114 fun s=>loadA false 1 s.m (s.get 113),qF 115 fun s=>loadA true 4 s.m (s.get 11),qF 116 fun s=>bslF 1 (bslA 4 1 [.int .i64 0,.int .i64 0,.int .i64 0,.int .i64 0] [(0,(s.get 115))]),⟨some 117,none,.w false (some 10) fun s=>appendA 4 32 s.m (s.get 114) (s.get 116)⟩,qA 118 nilA 107,qA 119 (fieldA 5) 118,qB 120 (idxArr 4 1) 119 108,⟨none,none,.w false (some 14) fun s=>stA false 1 s.m (s.get 120) (s.get 117)⟩] K s:=(aW hf nH K s).trans (by kernel_rfl)
theorem kS:den prog ann 35 (.code r22::K) s=ah prog ann 35 (some [1,4,5,9,91,92,99,100]) [] none [] [qF 121 fun s=>binA prog .add 3 (s.get 100) (.int .i64 1),qC 100 121] K s:=(ae hf _ K s).trans (by kernel_rfl)
theorem nJ:den prog ann 35 (.code r23::K) s=ah prog ann 35 (some [1,4,5,91,92]) [] none [] [qF 122 fun s=>binA prog .add 3 (s.get 92) (.int .i64 1),qC 92 122] K s:=(ae hf _ K s).trans (by kernel_rfl)
theorem nO:den prog ann 35 (.code r24::K) s=ah prog ann 35 (some [1,4,5]) [] none [] [⟨some 12,none,.w false none fun s=>newPtr s.m [.bool false]⟩,⟨none,none,.w false none fun s=>stA false 1 s.m (s.get 12) (.bool true)⟩] K s:=(ae hf _ K s).trans (by kernel_rfl)
theorem sX (K:List Item) (t:List (Nat×AV)) (m:Mem):den prog ann 35 (.code k6::K) ⟨t,224,m⟩=L6 (get t 1) (get t 4) (get t 5) (get t 12) m K:=ar hf (b:=l6) (id:=25) (l:=[1,4,5,12]) (by kernel_rfl) (by kernel_rfl) (by kernel_rfl) K _
theorem sY (K:List Item) (t:List (Nat×AV)) (m:Mem):den prog ann 35 (.inLoop l6::.inBlock 6::K) ⟨t,224,m⟩=L6 (get t 1) (get t 4) (get t 5) (get t 12) m K:=ay hf (id:=25) (l:=[1,4,5,12]) (by kernel_rfl) (by kernel_rfl) (.inBlock 6::K) _
theorem jS (x1 x4 x5 x12:AV) (m:Mem) (K:List Item):L6 x1 x4 x5 x12 m K=den prog ann 35 (.code r25::.code i5::.code k7::.code r41::.code r42::.inLoop l6::.inBlock 6::K) ⟨[(1,x1),(4,x4),(5,x5),(12,x12)],224,m⟩:=af hf (l:=[r25,i5,k7,r41,r42]) (by kernel_rfl) _ _
theorem Er:den prog ann 35 (.code r25::K) s=ah prog ann 35 (some [1,4,5,12]) [] none [] [qF 123 fun s=>loadA false 1 s.m (s.get 12)] K s:=(ae hf _ K s).trans (by kernel_rfl)
theorem na:den prog ann 35 (.code i5::K) s=ifV prog ann 35 123 i5t i5e K s (s.get 123):=aB hf (by kernel_rfl) K s
theorem uQ:den prog ann 35 (.code i5t::K) s=den prog ann 35 (K) s:=af hf (l:=[]) (by kernel_rfl) K s
theorem jv:den prog ann 35 (.code i5e::K) s=den prog ann 35 (.code (.exit 6)::K) s:=af hf (l:=[(.exit 6)]) (by kernel_rfl) K s
theorem s5:den prog ann 35 (.code k7::K) s=den prog ann 35 (.code r26::.code r27::.code r28::.code k8::.code r36::.code k12::.inBlock 7::K) s:=aS hf (b:=blkOf k7) (l:=[r26,r27,r28,k8,r36,k12]) (by kernel_rfl) (by kernel_rfl) K s
theorem uS:den prog ann 35 (.code r26::K) s=ah prog ann 35 none [] none [] [⟨none,none,.w false none fun s=>stA false 1 s.m (s.get 12) (.bool false)⟩] K s:=(ae hf _ K s).trans (by kernel_rfl)
theorem uT:den prog ann 35 (.code r27::K) s=ah prog ann 35 none [] none [] [qF 124 fun s=>some (.fn 61 [] [(s.get 5),(s.get 12)]),qC 13 124] K s:=(ae hf _ K s).trans (by kernel_rfl)
theorem uU:den prog ann 35 (.code r28::K) s=ah prog ann 35 none [] none [] [qA 125 (loadF false 1) 4,qF 126 fun s=>some (.int .i64 0)] K s:=(ae hf _ K s).trans (by kernel_rfl)
theorem Bl (K:List Item) (t:List (Nat×AV)) (m:Mem):den prog ann 35 (.code k8::K) ⟨t,224,m⟩=L8 (get t 1) (get t 4) (get t 5) (get t 12) (get t 13) (get t 125) (get t 126) m K:=ar hf (b:=l8) (id:=29) (l:=[1,4,5,12,13,125,126]) (by kernel_rfl) (by kernel_rfl) (by kernel_rfl) K _
theorem HE (K:List Item) (t:List (Nat×AV)) (m:Mem):den prog ann 35 (.inLoop l8::.inBlock 8::K) ⟨t,224,m⟩=L8 (get t 1) (get t 4) (get t 5) (get t 12) (get t 13) (get t 125) (get t 126) m K:=ay hf (id:=29) (l:=[1,4,5,12,13,125,126]) (by kernel_rfl) (by kernel_rfl) (.inBlock 8::K) _
theorem Dg (x1 x4 x5 x12 x13 x125 x126:AV) (m:Mem) (K:List Item):L8 x1 x4 x5 x12 x13 x125 x126 m K=den prog ann 35 (.code r29::.code i6::.code k9::.code r35::.inLoop l8::.inBlock 8::K) ⟨[(1,x1),(4,x4),(5,x5),(12,x12),(13,x13),(125,x125),(126,x126)],224,m⟩:=af hf (l:=[r29,i6,k9,r35]) (by kernel_rfl) _ _
theorem uV:den prog ann 35 (.code r29::K) s=ah prog ann 35 (some [1,4,5,12,13,125,126]) [] none [] [qB 127 (binA prog .lss 3) 126 125] K s:=(ae hf _ K s).trans (by kernel_rfl)
theorem sZ:den prog ann 35 (.code i6::K) s=ifV prog ann 35 127 i6t i6e K s (s.get 127):=aB hf (by kernel_rfl) K s
theorem nF:den prog ann 35 (.code i6t::K) s=den prog ann 35 (K) s:=af hf (l:=[]) (by kernel_rfl) K s
theorem nG:den prog ann 35 (.code i6e::K) s=den prog ann 35 (.code (.exit 8)::K) s:=af hf (l:=[(.exit 8)]) (by kernel_rfl) K s
theorem Bn:den prog ann 35 (.code k9::K) s=den prog ann 35 (.code r30::.code r31::.code k10::.inBlock 9::K) s:=aS hf (b:=blkOf k9) (l:=[r30,r31,k10]) (by kernel_rfl) (by kernel_rfl) K s
theorem Es:den prog ann 35 (.code r30::K) s=ah prog ann 35 none [] none [] [qC 128 126,qC 14 128] K s:=(ae hf _ K s).trans (by kernel_rfl)
theorem mY:den prog ann 35 (.code r31::K) s=ah prog ann 35 none [] none [] [qF 15 fun s=>some (.int .i64 1)] K s:=(ae hf _ K s).trans (by kernel_rfl)
theorem uW (K:List Item) (t:List (Nat×AV)) (m:Mem):den prog ann 35 (.code k10::K) ⟨t,224,m⟩=L10 (get t 1) (get t 4) (get t 5) (get t 12) (get t 13) (get t 14) (get t 15) (get t 125) (get t 126) m K:=ar hf (b:=l10) (id:=32) (l:=[1,4,5,12,13,14,15,125,126]) (by kernel_rfl) (by kernel_rfl) (by kernel_rfl) K _
theorem Et (K:List Item) (t:List (Nat×AV)) (m:Mem):den prog ann 35 (.inLoop l10::.inBlock 10::K) ⟨t,224,m⟩=L10 (get t 1) (get t 4) (get t 5) (get t 12) (get t 13) (get t 14) (get t 15) (get t 125) (get t 126) m K:=ay hf (id:=32) (l:=[1,4,5,12,13,14,15,125,126]) (by kernel_rfl) (by kernel_rfl) (.inBlock 10::K) _
theorem uE (x1 x4 x5 x12 x13 x14 x15 x125 x126:AV) (m:Mem) (K:List Item):L10 x1 x4 x5 x12 x13 x14 x15 x125 x126 m K=den prog ann 35 (.code r32::.code i7::.code k11::.code r33::.inLoop l10::.inBlock 10::K) ⟨[(1,x1),(4,x4),(5,x5),(12,x12),(13,x13),(14,x14),(15,x15),(125,x125),(126,x126)],224,m⟩:=af hf (l:=[r32,i7,k11,r33]) (by kernel_rfl) _ _
theorem Eu:den prog ann 35 (.code r32::K) s=ah prog ann 35 (some [1,4,5,12,13,14,15,125,126]) [] none [] [qC 129 15,qA 130 (fieldA 0) 1,qA 131 (loadF false 1) 130,qC 132 14,qB 133 (idxSl 1) 131 132,qA 134 (loadF false 1) 133,qB 135 (binA prog .lss 3) 129 134] K s:=(ae hf _ K s).trans (by kernel_rfl)
theorem s8:den prog ann 35 (.code i7::K) s=ifV prog ann 35 135 i7t i7e K s (s.get 135):=aB hf (by kernel_rfl) K s
theorem uR:den prog ann 35 (.code i7t::K) s=den prog ann 35 (K) s:=af hf (l:=[]) (by kernel_rfl) K s
theorem nK:den prog ann 35 (.code i7e::K) s=den prog ann 35 (.code (.exit 10)::K) s:=af hf (l:=[(.exit 10)]) (by kernel_rfl) K s
theorem uX:den prog ann 35 (.code k11::K) s=den prog ann 35 (.code r34::.inBlock 11::K) s:=aS hf (b:=blkOf k11) (l:=[r34]) (by kernel_rfl) (by kernel_rfl) K s
theorem uY:den prog ann 35 (.code r34::K) s=ah prog ann 35 none [] none [] [qC 138 13,qC 139 14,qC 140 15,qA 141 (loadF false 1) 5,qC 142 14,qA 143 nilA 141,qA 144 (fieldA 5) 143,qB 145 (idxArr 4 1) 144 142,qF 146 fun s=>loadA false 1 s.m (s.get 145),qC 147 15,qF 148 fun s=>binA prog .sub 3 (s.get 147) (.int .i64 1),qB 149 (idxSl 4) 146 148,qF 150 fun s=>loadA true 4 s.m (s.get 149),⟨some 151,none,.c 0 (fun s=>(s.get 138)) fun s=>[(s.get 139),(s.get 140),(s.get 150)]⟩] K s:=(ae hf _ K s).trans (by kernel_rfl)
theorem uZ:den prog ann 35 (.code r33::K) s=ah prog ann 35 (some [1,4,5,12,13,14,15,125,126]) [] none [] [qC 136 15,qF 137 fun s=>binA prog .add 3 (s.get 136) (.int .i64 1),qC 15 137] K s:=(ae hf _ K s).trans (by kernel_rfl)
theorem u5:den prog ann 35 (.code r35::K) s=ah prog ann 35 (some [1,4,5,12,13,125,126]) [] none [] [qF 152 fun s=>binA prog .add 3 (s.get 126) (.int .i64 1),qC 126 152] K s:=(ae hf _ K s).trans (by kernel_rfl)
theorem u6:den prog ann 35 (.code r36::K) s=ah prog ann 35 (some [1,4,5,12,13]) [] none [] [qA 153 (fieldA 1) 1,qA 154 (loadF false 1) 153,qA 155 lenSl 154,qF 156 fun s=>some (.int .i64 0)] K s:=(ae hf _ K s).trans (by kernel_rfl)
theorem u7 (K:List Item) (t:List (Nat×AV)) (m:Mem):den prog ann 35 (.code k12::K) ⟨t,224,m⟩=L12 (get t 1) (get t 4) (get t 5) (get t 12) (get t 13) (get t 154) (get t 155) (get t 156) m K:=ar hf (b:=l12) (id:=37) (l:=[1,4,5,12,13,154,155,156]) (by kernel_rfl) (by kernel_rfl) (by kernel_rfl) K _
theorem Ev (K:List Item) (t:List (Nat×AV)) (m:Mem):den prog ann 35 (.inLoop l12::.inBlock 12::K) ⟨t,224,m⟩=L12 (get t 1) (get t 4) (get t 5) (get t 12) (get t 13) (get t 154) (get t 155) (get t 156) m K:=ay hf (id:=37) (l:=[1,4,5,12,13,154,155,156]) (by kernel_rfl) (by kernel_rfl) (.inBlock 12::K) _
theorem Be (x1 x4 x5 x12 x13 x154 x155 x156:AV) (m:Mem) (K:List Item):L12 x1 x4 x5 x12 x13 x154 x155 x156 m K=den prog ann 35 (.code r37::.code i8::.code k13::.code r40::.inLoop l12::.inBlock 12::K) ⟨[(1,x1),(4,x4),(5,x5),(12,x12),(13,x13),(154,x154),(155,x155),(156,x156)],224,m⟩:=af hf (l:=[r37,i8,k13,r40]) (by kernel_rfl) _ _
theorem u9:den prog ann 35 (.code r37::K) s=ah prog ann 35 (some [1,4,5,12,13,154,155,156]) [] none [] [qB 157 (binA prog .lss 3) 156 155] K s:=(ae hf _ K s).trans (by kernel_rfl)
theorem Bo:den prog ann 35 (.code i8::K) s=ifV prog ann 35 157 i8t i8e K s (s.get 157):=aB hf (by kernel_rfl) K s
theorem ve:den prog ann 35 (.code i8t::K) s=den prog ann 35 (K) s:=af hf (l:=[]) (by kernel_rfl) K s
theorem vg:den prog ann 35 (.code i8e::K) s=den prog ann 35 (.code (.exit 12)::K) s:=af hf (l:=[(.exit 12)]) (by kernel_rfl) K s
theorem Ew:den prog ann 35 (.code k13::K) s=den prog ann 35 (.code r38::.code r39::.inBlock 13::K) s:=aS hf (b:=blkOf k13) (l:=[r38,r39]) (by kernel_rfl) (by kernel_rfl) K s
theorem vk:den prog ann 35 (.code r38::K) s=ah prog ann 35 none [] none [17] [qB 158 (idxSl 4) 154 156,qA 159 (loadF true 4) 158,⟨some 17,none,.w false none fun s=>newPtr s.m [.int .i64 0,.int .i64 0,.int .i64 0,.int .i64 0]⟩,⟨none,none,.w false none fun s=>stA true 4 s.m (s.get 17) (s.get 159)⟩] K s:=(ae hf _ K s).trans (by kernel_rfl)
theorem Bp:bh (fun g=>(ann g).pure) (bj (ann 35) (bI r39)) (bN (ann 35) (bI r39)) (opsOf r39)=true:=aQ (an:=[0,0,2,0,8,24,0,0,128,64,576,1984,4032,0,8192,24576,65472,131008,262143]) (by kernel_rfl) (by kernel_rfl)
theorem vm:den prog ann 35 (.code r39::K) s=ah prog ann 35 none [] (some 19) [] [qC 160 13,qA 161 (fieldA 2) 17,qA 162 (loadF false 1) 161,qA 163 (fieldA 3) 17,qA 164 (loadF false 1) 163,qF 165 fun s=>binA prog .sub 3 (s.get 164) (.int .i64 1),qA 166 (loadF false 1) 5,qA 167 (fieldA 0) 17,qA 168 (loadF false 1) 167,qA 169 nilA 166,qA 170 (fieldA 5) 169,qB 171 (idxArr 4 1) 170 168,qF 172 fun s=>loadA false 1 s.m (s.get 171),qA 173 (fieldA 1) 17,qA 174 (loadF false 1) 173,qF 175 fun s=>binA prog .sub 3 (s.get 174) (.int .i64 1),qB 176 (idxSl 4) 172 175,qF 177 fun s=>loadA true 4 s.m (s.get 176),⟨some 178,none,.c 0 (fun s=>(s.get 160)) fun s=>[(s.get 162),(s.get 165),(s.get 177)]⟩] K s:=(aW hf Bp K s).trans (by kernel_rfl)
theorem Ex:den prog ann 35 (.code r40::K) s=ah prog ann 35 (some [1,4,5,12,13,154,155,156]) [] none [] [qF 179 fun s=>binA prog .add 3 (s.get 156) (.int .i64 1),qC 156 179] K s:=(ae hf _ K s).trans (by kernel_rfl)
theorem vn:den prog ann 35 (.code r41::K) s=ah prog ann 35 (some [1,4,5,12]) [] none [] [qF 180 fun s=>loadA false 1 s.m (s.get 12)] K s:=(ae hf _ K s).trans (by kernel_rfl)
theorem vp:den prog ann 35 (.code r42::K) s=ah prog ann 35 none [] none [] [⟨some 12,none,.w false none fun s=>newPtr s.m [.bool false]⟩,⟨none,none,.w false none fun s=>stA false 1 s.m (s.get 12) (s.get 180)⟩] K s:=(ae hf _ K s).trans (by kernel_rfl)
theorem Ey:den prog ann 35 (.code r43::K) s=ah prog ann 35 (some [4,5]) [] none [] [qA 181 (loadF false 1) 4,qF 182 fun s=>some (.int .i64 0)] K s:=(ae hf _ K s).trans (by kernel_rfl)
theorem Ez (K:List Item) (t:List (Nat×AV)) (m:Mem):den prog ann 35 (.code k14::K) ⟨t,224,m⟩=L14 (get t 4) (get t 5) (get t 181) (get t 182) m K:=ar hf (b:=l14) (id:=44) (l:=[4,5,181,182]) (by kernel_rfl) (by kernel_rfl) (by kernel_rfl) K _
theorem EA (K:List Item) (t:List (Nat×AV)) (m:Mem):den prog ann 35 (.inLoop l14::.inBlock 14::K) ⟨t,224,m⟩=L14 (get t 4) (get t 5) (get t 181) (get t 182) m K:=ay hf (id:=44) (l:=[4,5,181,182]) (by kernel_rfl) (by kernel_rfl) (.inBlock 14::K) _
theorem Bh (x4 x5 x181 x182:AV) (m:Mem) (K:List Item):L14 x4 x5 x181 x182 m K=den prog ann 35 (.code r44::.code i9::.code k15::.code r58::.inLoop l14::.inBlock 14::K) ⟨[(4,x4),(5,x5),(181,x181),(182,x182)],224,m⟩:=af hf (l:=[r44,i9,k15,r58]) (by kernel_rfl) _ _
theorem vq:den prog ann 35 (.code r44::K) s=ah prog ann 35 (some [4,5,181,182]) [] none [] [qB 183 (binA prog .lss 3) 182 181] K s:=(ae hf _ K s).trans (by kernel_rfl)
theorem Bq:den prog ann 35 (.code i9::K) s=ifV prog ann 35 183 i9t i9e K s (s.get 183):=aB hf (by kernel_rfl) K s
theorem vr:den prog ann 35 (.code i9t::K) s=den prog ann 35 (K) s:=af hf (l:=[]) (by kernel_rfl) K s
theorem EB:den prog ann 35 (.code i9e::K) s=den prog ann 35 (.code (.exit 14)::K) s:=af hf (l:=[(.exit 14)]) (by kernel_rfl) K s
theorem EC:den prog ann 35 (.code k15::K) s=den prog ann 35 (.code r45::.code r46::.code k16::.inBlock 15::K) s:=aS hf (b:=blkOf k15) (l:=[r45,r46,k16]) (by kernel_rfl) (by kernel_rfl) K s
theorem vt:den prog ann 35 (.code r45::K) s=ah prog ann 35 none [] none [] [qC 184 182,qC 18 184] K s:=(ae hf _ K s).trans (by kernel_rfl)
theorem vu:den prog ann 35 (.code r46::K) s=ah prog ann 35 none [] none [] [qA 185 (loadF false 1) 5,qC 186 18,qA 187 nilA 185,qA 188 (fieldA 5) 187,qB 189 (idxArr 4 1) 188 186,qF 190 fun s=>loadA false 1 s.m (s.get 189),qA 191 lenSl 190,qF 192 fun s=>some (.int .i64 0)] K s:=(ae hf _ K s).trans (by kernel_rfl)
theorem ED (K:List Item) (t:List (Nat×AV)) (m:Mem):den prog ann 35 (.code k16::K) ⟨t,224,m⟩=L16 (get t 4) (get t 5) (get t 18) (get t 181) (get t 182) (get t 190) (get t 191) (get t 192) m K:=ar hf (b:=l16) (id:=47) (l:=[4,5,18,181,182,190,191,192]) (by kernel_rfl) (by kernel_rfl) (by kernel_rfl) K _
theorem EE (K:List Item) (t:List (Nat×AV)) (m:Mem):den prog ann 35 (.inLoop l16::.inBlock 16::K) ⟨t,224,m⟩=L16 (get t 4) (get t 5) (get t 18) (get t 181) (get t 182) (get t 190) (get t 191) (get t 192) m K:=ay hf (id:=47) (l:=[4,5,18,181,182,190,191,192]) (by kernel_rfl) (by kernel_rfl) (.inBlock 16::K) _
theorem uH (x4 x5 x18 x181 x182 x190 x191 x192:AV) (m:Mem) (K:List Item):L16 x4 x5 x18 x181 x182 x190 x191 x192 m K=den prog ann 35 (.code r47::.code i10::.code k17::.code r57::.inLoop l16::.inBlock 16::K) ⟨[(4,x4),(5,x5),(18,x18),(181,x181),(182,x182),(190,x190),(191,x191),(192,x192)],224,m⟩:=af hf (l:=[r47,i10,k17,r57]) (by kernel_rfl) _ _
theorem vx:den prog ann 35 (.code r47::K) s=ah prog ann 35 (some [4,5,18,181,182,190,191,192]) [] none [] [qB 193 (binA prog .lss 3) 192 191] K s:=(ae hf _ K s).trans (by kernel_rfl)
theorem vy:den prog ann 35 (.code i10::K) s=ifV prog ann 35 193 i10t i10e K s (s.get 193):=aB hf (by kernel_rfl) K s
theorem Ct:den prog ann 35 (.code i10t::K) s=den prog ann 35 (K) s:=af hf (l:=[]) (by kernel_rfl) K s
theorem qj:den prog ann 35 (.code i10e::K) s=den prog ann 35 (.code (.exit 16)::K) s:=af hf (l:=[(.exit 16)]) (by kernel_rfl) K s
theorem EF:den prog ann 35 (.code k17::K) s=den prog ann 35 (.code r48::.code r49::.code i11::.code r51::.code k18::.inBlock 17::K) s:=aS hf (b:=blkOf k17) (l:=[r48,r49,i11,r51,k18]) (by kernel_rfl) (by kernel_rfl) K s
theorem vz:den prog ann 35 (.code r48::K) s=ah prog ann 35 none [] none [20] [qC 194 192,qB 195 (idxSl 4) 190 192,qF 196 fun s=>loadA true 4 s.m (s.get 195),⟨some 20,none,.w false none fun s=>newPtr s.m [.int .i64 0,.int .i64 0,.int .i64 0,.int .i64 0]⟩,qC 19 194,⟨none,none,.w false none fun s=>stA true 4 s.m (s.get 20) (s.get 196)⟩] K s:=(ae hf _ K s).trans (by kernel_rfl)
theorem vA:den prog ann 35 (.code r49::K) s=ah prog ann 35 none [] none [] [qC 197 18,qB 198 (idxArr 4 1) 20 197,qA 199 (loadF false 1) 198,qC 200 19,qF 201 fun s=>binA prog .add 3 (s.get 200) (.int .i64 1),qB 202 (binA prog .neq 3) 199 201] K s:=(ae hf _ K s).trans (by kernel_rfl)
theorem vB:den prog ann 35 (.code i11::K) s=ifV prog ann 35 202 i11t i11e K s (s.get 202):=aB hf (by kernel_rfl) K s
theorem Cu:den prog ann 35 (.code i11t::K) s=den prog ann 35 (.code r50::.code .ret::K) s:=af hf (l:=[r50,.ret]) (by kernel_rfl) K s
theorem vC:den prog ann 35 (.code r50::K) s=ah prog ann 35 none [] none [] [qF 2 fun s=>some (.nilp),qF 3 fun s=>some (.bool false)] K s:=(ae hf _ K s).trans (by kernel_rfl)
theorem qk:den prog ann 35 (.code i11e::K) s=den prog ann 35 (K) s:=af hf (l:=[]) (by kernel_rfl) K s
theorem EG:den prog ann 35 (.code r51::K) s=ah prog ann 35 none [] none [] [qA 203 (loadF false 1) 4,qF 204 fun s=>some (.int .i64 0)] K s:=(ae hf _ K s).trans (by kernel_rfl)
theorem EH (K:List Item) (t:List (Nat×AV)) (m:Mem):den prog ann 35 (.code k18::K) ⟨t,224,m⟩=L18 (get t 4) (get t 5) (get t 18) (get t 20) (get t 181) (get t 182) (get t 190) (get t 191) (get t 192) (get t 203) (get t 204) m K:=ar hf (b:=l18) (id:=52) (l:=[4,5,18,20,181,182,190,191,192,203,204]) (by kernel_rfl) (by kernel_rfl) (by kernel_rfl) K _
theorem EI (K:List Item) (t:List (Nat×AV)) (m:Mem):den prog ann 35 (.inLoop l18::.inBlock 18::K) ⟨t,224,m⟩=L18 (get t 4) (get t 5) (get t 18) (get t 20) (get t 181) (get t 182) (get t 190) (get t 191) (get t 192) (get t 203) (get t 204) m K:=ay hf (id:=52) (l:=[4,5,18,20,181,182,190,191,192,203,204]) (by kernel_rfl) (by kernel_rfl) (.inBlock 18::K) _
theorem uG (x4 x5 x18 x20 x181 x182 x190 x191 x192 x203 x204:AV) (m:Mem) (K:List Item):L18 x4 x5 x18 x20 x181 x182 x190 x191 x192 x203 x204 m K=den prog ann 35 (.code r52::.code i12::.code k19::.code r56::.inLoop l18::.inBlock 18::K) ⟨[(4,x4),(5,x5),(18,x18),(20,x20),(181,x181),(182,x182),(190,x190),(191,x191),(192,x192),(203,x203),(204,x204)],224,m⟩:=af hf (l:=[r52,i12,k19,r56]) (by kernel_rfl) _ _
theorem vE:den prog ann 35 (.code r52::K) s=ah prog ann 35 (some [4,5,18,20,181,182,190,191,192,203,204]) [] none [] [qB 205 (binA prog .lss 3) 204 203] K s:=(ae hf _ K s).trans (by kernel_rfl)
theorem vG:den prog ann 35 (.code i12::K) s=ifV prog ann 35 205 i12t i12e K s (s.get 205):=aB hf (by kernel_rfl) K s
theorem ql:den prog ann 35 (.code i12t::K) s=den prog ann 35 (K) s:=af hf (l:=[]) (by kernel_rfl) K s
theorem qm:den prog ann 35 (.code i12e::K) s=den prog ann 35 (.code (.exit 18)::K) s:=af hf (l:=[(.exit 18)]) (by kernel_rfl) K s
theorem EJ:den prog ann 35 (.code k19::K) s=den prog ann 35 (.code r53::.code r54::.code i13::.inBlock 19::K) s:=aS hf (b:=blkOf k19) (l:=[r53,r54,i13]) (by kernel_rfl) (by kernel_rfl) K s
theorem vH:den prog ann 35 (.code r53::K) s=ah prog ann 35 none [] none [] [qC 206 204,qC 21 206] K s:=(ae hf _ K s).trans (by kernel_rfl)
theorem Br:bh (fun g=>(ann g).pure) (bj (ann 35) (bI r54)) (bN (ann 35) (bI r54)) (opsOf r54)=true:=aQ (an:=[0,0,3,7,15,15,31,95,255,511,15,2047,4095]) (by kernel_rfl) (by kernel_rfl)
theorem EK:den prog ann 35 (.code r54::K) s=ah prog ann 35 none [] (some 13) [] [qC 207 21,qC 208 18,qB 209 (binA prog .neq 3) 207 208,qC 210 209,⟨some 211,some (210,true),.v fun s=>loadF false 1 (s.get 5)⟩,⟨some 212,some (210,true),.v fun s=>some (s.get 21)⟩,⟨some 213,some (210,true),.v fun s=>nilA (s.get 211)⟩,⟨some 214,some (210,true),.v fun s=>fieldA 5 (s.get 213)⟩,⟨some 215,some (210,true),.v fun s=>idxArr 4 1 (s.get 214) (s.get 212)⟩,⟨some 216,some (210,true),.v fun s=>loadA false 1 s.m (s.get 215)⟩,⟨some 217,some (210,true),.v fun s=>loadF true 4 (s.get 20)⟩,⟨some 218,some (210,true),.c 0 (fun s=>(.fn 63 [] [])) fun s=>[(s.get 216),(s.get 217)]⟩,qF 219 fun s=>pickA (s.get 210) (s.get 218) (.bool false)] K s:=(aW hf Br K s).trans (by kernel_rfl)
theorem vI:den prog ann 35 (.code i13::K) s=ifV prog ann 35 219 i13t i13e K s (s.get 219):=aB hf (by kernel_rfl) K s
theorem qo:den prog ann 35 (.code i13t::K) s=den prog ann 35 (.code r55::.code .ret::K) s:=af hf (l:=[r55,.ret]) (by kernel_rfl) K s
theorem vJ:den prog ann 35 (.code r55::K) s=ah prog ann 35 none [] none [] [qF 2 fun s=>some (.nilp),qF 3 fun s=>some (.bool false)] K s:=(ae hf _ K s).trans (by kernel_rfl)
theorem qp:den prog ann 35 (.code i13e::K) s=den prog ann 35 (K) s:=af hf (l:=[]) (by kernel_rfl) K s
theorem vK:den prog ann 35 (.code r56::K) s=ah prog ann 35 (some [4,5,18,20,181,182,190,191,192,203,204]) [] none [] [qF 220 fun s=>binA prog .add 3 (s.get 204) (.int .i64 1),qC 204 220] K s:=(ae hf _ K s).trans (by kernel_rfl)
theorem EL:den prog ann 35 (.code r57::K) s=ah prog ann 35 (some [4,5,18,181,182,190,191,192]) [] none [] [qF 221 fun s=>binA prog .add 3 (s.get 192) (.int .i64 1),qC 192 221] K s:=(ae hf _ K s).trans (by kernel_rfl)
theorem vM:den prog ann 35 (.code r58::K) s=ah prog ann 35 (some [4,5,181,182]) [] none [] [qF 222 fun s=>binA prog .add 3 (s.get 182) (.int .i64 1),qC 182 222] K s:=(ae hf _ K s).trans (by kernel_rfl)
theorem vO:den prog ann 35 (.code r59::K) s=ah prog ann 35 (some [5]) [] none [] [qA 223 (loadF false 1) 5,qC 2 223,qF 3 fun s=>some (.bool true)] K s:=(ae hf _ K s).trans (by kernel_rfl)
theorem aE:den prog ann 35 (.code .ret::K) s=finM true [fun s=>some (s.get 2),fun s=>some (s.get 3)] s:=(aO hf K s).trans (by kernel_rfl)
theorem aC (id:Nat) (K:List Item) (s:St):den prog ann 35 (.inBlock id::K) s=den prog ann 35 K s:=aR hf id K s
theorem aT (id:Nat) (K:List Item) (s:St):den prog ann 35 (.code (.exit id)::K) s=exitV prog ann 35 (exitTo id K) s:=bp hf id K s
theorem al (v0:AV) (m:Mem) (h:closedL [v0]=true):denC prog ann 35 [v0] m=(den prog ann 35 [.code b] ⟨[(0,v0)],224,Mem.empty⟩).bind fun r=>some (r.1,m):=(bD hf (b:=b) (by kernel_rfl) (by kernel_rfl) (by kernel_rfl) h m).trans (by kernel_rfl)
theorem aq:(ann 35).pure=true:=by kernel_rfl
attribute [simp] aV aH aI br aU aZ aX aL bg bd bo bM bu bP bQ bC bA aY bH bU bV cw cj bW bY cv cP dL ie cY eT dw ej fy eX dg m9 sV gA jZ ju jx sW kW fS nM nI kS nJ nO sX sY Er na uQ jv s5 uS uT uU Bl HE uV sZ nF nG Bn Es mY uW Et Eu s8 uR nK uX uY uZ u5 u6 u7 Ev u9 Bo ve vg Ew vk vm Ex vn vp Ey Ez EA vq Bq vr EB EC vt vu ED EE vx vy Ct qj EF vz vA vB Cu vC qk EG EH EI vE vG ql qm EJ vH EK vI qo vJ qp vK EL vM vO aE aC aT aq
end
end ai
namespace ki
noncomputable section
variable (K : List Item) (s : St)
def b:Code:=(Tryz.f60.body).getD .skip
theorem hf:prog.funcs[60]?=some Tryz.f60:=by kernel_rfl
def r0:=aa b 0
def r1:=aa b 1
theorem aV:den prog ann 60 (.code b::K) s=den prog ann 60 (.code r0::.code r1::.code .ret::K) s:=af hf (l:=[r0,r1,.ret]) (by kernel_rfl) K s
theorem aH:den prog ann 60 (.code r0::K) s=ah prog ann 60 none [] none [] [qF 6 fun s=>some (.bool false)] K s:=(ae hf _ K s).trans (by kernel_rfl)
theorem aI:den prog ann 60 (.code r1::K) s=ah prog ann 60 none [] none [] [qC 7 0,qF 8 fun s=>binA prog .geq 3 (s.get 7) (.int .i64 0),qC 9 8,⟨some 10,some (9,true),.v fun s=>some (s.get 0)⟩,⟨some 11,some (9,true),.v fun s=>loadA false 1 s.m (s.get 2)⟩,⟨some 12,some (9,true),.v fun s=>binA prog .lss 3 (s.get 10) (s.get 11)⟩,qF 13 fun s=>pickA (s.get 9) (s.get 12) (.bool false),qC 14 13,⟨some 15,some (14,true),.v fun s=>some (s.get 1)⟩,⟨some 16,some (14,true),.v fun s=>binA prog .geq 3 (s.get 15) (.int .i64 1)⟩,qF 17 fun s=>pickA (s.get 14) (s.get 16) (.bool false),qC 18 17,⟨some 19,some (18,true),.v fun s=>some (s.get 1)⟩,⟨some 20,some (18,true),.v fun s=>fieldA 0 (s.get 3)⟩,⟨some 21,some (18,true),.v fun s=>loadA false 1 s.m (s.get 20)⟩,⟨some 22,some (18,true),.v fun s=>some (s.get 0)⟩,⟨some 23,some (18,true),.v fun s=>idxSl 1 (s.get 21) (s.get 22)⟩,⟨some 24,some (18,true),.v fun s=>loadA false 1 s.m (s.get 23)⟩,⟨some 25,some (18,true),.v fun s=>binA prog .leq 3 (s.get 19) (s.get 24)⟩,qF 26 fun s=>pickA (s.get 18) (s.get 25) (.bool false),qC 6 26] K s:=(ae hf _ K s).trans (by kernel_rfl)
theorem aE:den prog ann 60 (.code .ret::K) s=finM false [fun s=>some (s.get 6)] s:=(aO hf K s).trans (by kernel_rfl)
theorem al (v0 v1 v2 v3:AV) (m:Mem):denC prog ann 60 [v0,v1,v2,v3] m=den prog ann 60 [.code b] ⟨[(0,v0),(1,v1),(2,v2),(3,v3)],27,m⟩:=(aJ hf (b:=b) (by kernel_rfl) (by kernel_rfl) (by kernel_rfl) m).trans (by kernel_rfl)
theorem aq:(ann 60).pure=false:=by kernel_rfl
attribute [simp] aV aH aI aE aq
end
end ki
namespace kj
noncomputable section
variable (K : List Item) (s : St)
def b:Code:=(Tryz.f61.body).getD .skip
theorem hf:prog.funcs[61]?=some Tryz.f61:=by kernel_rfl
def r0:=aa b 0
def r1:=aa b 1
def r2:=aa b 2
def i0:=ak b 0
def i0t:=az i0
def i0e:=aA i0
def r3:=aa b 3
theorem aV:den prog ann 61 (.code b::K) s=den prog ann 61 (.code r0::.code r1::.code r2::.code i0::K) s:=af hf (l:=[r0,r1,r2,i0]) (by kernel_rfl) K s
theorem aH:den prog ann 61 (.code r0::K) s=ah prog ann 61 none [] none [] [qA 7 frozenPtr 2] K s:=(ae hf _ K s).trans (by kernel_rfl)
theorem gz:bh (fun g=>(ann g).pure) (bj (ann 61) (bI r1)) (bN (ann 61) (bI r1)) (opsOf r1)=true:=aQ (an:=[0,0,1,5,15,31,0,127,255,0,1023,0,4095]) (by kernel_rfl) (by kernel_rfl)
theorem aI:den prog ann 61 (.code r1::K) s=ah prog ann 61 none [] (some 13) [8] [qF 9 fun s=>loadA false 1 s.m (s.get 3),qC 10 0,qA 11 nilA 9,qA 12 (fieldA 5) 11,qB 13 (idxArr 4 1) 12 10,qF 14 fun s=>loadA false 1 s.m (s.get 13),qC 15 1,qB 16 (idxSl 4) 14 15,qF 17 fun s=>loadA true 4 s.m (s.get 16),qA 18 (loadF true 4) 7,⟨some 19,none,.c 0 (fun s=>(.fn 62 [] [])) fun s=>[(s.get 17),(s.get 18)]⟩,⟨some 8,none,.w false (some 11) fun s=>newPtr s.m [.int .i64 0,.int .i64 0,.int .i64 0,.int .i64 0]⟩,⟨none,none,.w false (some 12) fun s=>stA true 4 s.m (s.get 8) (s.get 19)⟩] K s:=(aW hf gz K s).trans (by kernel_rfl)
theorem Cv:bh (fun g=>(ann g).pure) (bj (ann 61) (bI r2)) (bN (ann 61) (bI r2)) (opsOf r2)=true:=aQ (an:=[0,0,0,2,10,30,62,0,254,510,1023]) (by kernel_rfl) (by kernel_rfl)
theorem br:den prog ann 61 (.code r2::K) s=ah prog ann 61 none [] (some 11) [] [qA 20 (loadF true 4) 8,qF 21 fun s=>loadA false 1 s.m (s.get 3),qC 22 0,qA 23 nilA 21,qA 24 (fieldA 5) 23,qB 25 (idxArr 4 1) 24 22,qF 26 fun s=>loadA false 1 s.m (s.get 25),qC 27 1,qB 28 (idxSl 4) 26 27,qF 29 fun s=>loadA true 4 s.m (s.get 28),qB 30 (binA prog .neq 62) 20 29] K s:=(aW hf Cv K s).trans (by kernel_rfl)
theorem aU:den prog ann 61 (.code i0::K) s=ifV prog ann 61 30 i0t i0e K s (s.get 30):=aB hf (by kernel_rfl) K s
theorem aZ:den prog ann 61 (.code i0t::K) s=den prog ann 61 (.code r3::K) s:=af hf (l:=[r3]) (by kernel_rfl) K s
theorem qi:bh (fun g=>(ann g).pure) (bj (ann 61) (bI r3)) (bN (ann 61) (bI r3)) (opsOf r3)=true:=aQ (an:=[0,0,1,5,15,31,0,0,255,511,1023]) (by kernel_rfl) (by kernel_rfl)
theorem aX:den prog ann 61 (.code r3::K) s=ah prog ann 61 none [] (some 11) [] [qF 31 fun s=>loadA false 1 s.m (s.get 3),qC 32 0,qA 33 nilA 31,qA 34 (fieldA 5) 33,qB 35 (idxArr 4 1) 34 32,qF 36 fun s=>loadA false 1 s.m (s.get 35),qC 37 1,qA 38 (loadF true 4) 8,qB 39 (idxSl 4) 36 37,⟨none,none,.w false (some 9) fun s=>stA true 4 s.m (s.get 39) (s.get 38)⟩,⟨none,none,.w false (some 10) fun s=>stA false 1 s.m (s.get 4) (.bool true)⟩] K s:=(aW hf qi K s).trans (by kernel_rfl)
theorem aL:den prog ann 61 (.code i0e::K) s=den prog ann 61 (K) s:=af hf (l:=[]) (by kernel_rfl) K s
theorem nil_eq (s:St):den prog ann 61 [] s=finM false [] s:=(gk hf s).trans (by kernel_rfl)
theorem al (v0 v1 v2 v3 v4:AV) (m:Mem):denC prog ann 61 [v0,v1,v2,v3,v4] m=den prog ann 61 [.code b] ⟨[(0,v0),(1,v1),(2,v2),(3,v3),(4,v4)],40,m⟩:=(aJ hf (b:=b) (by kernel_rfl) (by kernel_rfl) (by kernel_rfl) m).trans (by kernel_rfl)
theorem aq:(ann 61).pure=false:=by kernel_rfl
attribute [simp] aV aH aI br aU aZ aX aL nil_eq aq
end
end kj
namespace cO
noncomputable section
variable (K : List Item) (s : St)
def b:Code:=(Tryz.f18.body).getD .skip
theorem hf:prog.funcs[18]?=some Tryz.f18:=by kernel_rfl
def r0:=aa b 0
def r1:=aa b 1
def k0:=ax b 0
def r2:=aa b 2
def i0:=ak b 0
def i0t:=az i0
def i0e:=aA i0
def r3:=aa b 3
def r4:=aa b 4
def i1:=ak b 1
def i1t:=az i1
def i1e:=aA i1
def r5:=aa b 5
def r6:=aa b 6
def r7:=aa b 7
def k1:=ax b 1
def l1:=bw k1
def L1 (x7 x9 x27 x28 x29:AV) (m:Mem) (K:List Item):Option Res:=den prog ann 18 (.code l1::.inLoop l1::.inBlock 1::K) ⟨[(7,x7),(9,x9),(27,x27),(28,x28),(29,x29)],46,m⟩
def r8:=aa b 8
def i2:=ak b 2
def i2t:=az i2
def i2e:=aA i2
def k2:=ax b 2
def r9:=aa b 9
def r10:=aa b 10
def r11:=aa b 11
def i3:=ak b 3
def i3t:=az i3
def i3e:=aA i3
def r12:=aa b 12
def r13:=aa b 13
def r14:=aa b 14
def r15:=aa b 15
theorem aV:den prog ann 18 (.code b::K) s=den prog ann 18 (.code r0::.code r1::.code k0::.code r6::.code r7::.code k1::.code r15::.code .ret::K) s:=af hf (l:=[r0,r1,k0,r6,r7,k1,r15,.ret]) (by kernel_rfl) K s
theorem aH:den prog ann 18 (.code r0::K) s=ah prog ann 18 none [] none [] [qA 2 frozenPtr 0,qF 4 fun s=>some (.nilp),qF 5 fun s=>some (.nilm),qF 6 fun s=>some (.int .i64 0)] K s:=(ae hf _ K s).trans (by kernel_rfl)
theorem aI:den prog ann 18 (.code r1::K) s=ah prog ann 18 none [] none [] [qA 15 (loadF true 2) 2,⟨some 16,none,.c 0 (fun s=>(.fn 35 [] [])) fun s=>[(s.get 15)]⟩,qC 14 16,qF 17 fun s=>extA (s.get 14) 0,qF 18 fun s=>extA (s.get 14) 1,qC 7 17,qC 8 18] K s:=(ae hf _ K s).trans (by kernel_rfl)
theorem bu:den prog ann 18 (.code k0::K) s=den prog ann 18 (.code r2::.code i0::.inBlock 0::K) s:=aS hf (b:=blkOf k0) (l:=[r2,i0]) (by kernel_rfl) (by kernel_rfl) K s
theorem br:den prog ann 18 (.code r2::K) s=ah prog ann 18 none [] none [] [qC 20 8,qA 21 (unA .not) 20,qC 19 21] K s:=(ae hf _ K s).trans (by kernel_rfl)
theorem aU:den prog ann 18 (.code i0::K) s=ifV prog ann 18 19 i0t i0e K s (s.get 19):=aB hf (by kernel_rfl) K s
theorem aZ:den prog ann 18 (.code i0t::K) s=den prog ann 18 (.code r3::.code .ret::K) s:=af hf (l:=[r3,.ret]) (by kernel_rfl) K s
theorem aX:den prog ann 18 (.code r3::K) s=ah prog ann 18 none [] none [] [qF 4 fun s=>some (.nilp),qF 5 fun s=>some (.nilm),qF 6 fun s=>some (.int .i64 1)] K s:=(ae hf _ K s).trans (by kernel_rfl)
theorem aL:den prog ann 18 (.code i0e::K) s=den prog ann 18 (.code r4::.code i1::K) s:=af hf (l:=[r4,i1]) (by kernel_rfl) K s
theorem bg:den prog ann 18 (.code r4::K) s=ah prog ann 18 none [] none [] [qC 23 1,qA 24 lenSl 23,qF 25 fun s=>binA prog .gtr 3 (s.get 24) (.int .i64 2500),qC 22 25] K s:=(ae hf _ K s).trans (by kernel_rfl)
theorem bC:den prog ann 18 (.code i1::K) s=ifV prog ann 18 22 i1t i1e K s (s.get 22):=aB hf (by kernel_rfl) K s
theorem bA:den prog ann 18 (.code i1t::K) s=den prog ann 18 (.code r5::.code .ret::K) s:=af hf (l:=[r5,.ret]) (by kernel_rfl) K s
theorem bd:den prog ann 18 (.code r5::K) s=ah prog ann 18 none [] none [] [qF 4 fun s=>some (.nilp),qF 5 fun s=>some (.nilm),qF 6 fun s=>some (.int .i64 3)] K s:=(ae hf _ K s).trans (by kernel_rfl)
theorem aY:den prog ann 18 (.code i1e::K) s=den prog ann 18 (K) s:=af hf (l:=[]) (by kernel_rfl) K s
theorem bo:den prog ann 18 (.code r6::K) s=ah prog ann 18 (some [1,7]) [] none [] [⟨some 26,none,.w false none fun s=>some (.map s.m.nx,s.m.new (.map 0 [] []))⟩,qC 9 26] K s:=(ae hf _ K s).trans (by kernel_rfl)
theorem bM:den prog ann 18 (.code r7::K) s=ah prog ann 18 none [] none [] [qC 27 1,qA 28 lenSl 27,qF 29 fun s=>some (.int .i64 0)] K s:=(ae hf _ K s).trans (by kernel_rfl)
theorem bH (K:List Item) (t:List (Nat×AV)) (m:Mem):den prog ann 18 (.code k1::K) ⟨t,46,m⟩=L1 (get t 7) (get t 9) (get t 27) (get t 28) (get t 29) m K:=ar hf (b:=l1) (id:=8) (l:=[7,9,27,28,29]) (by kernel_rfl) (by kernel_rfl) (by kernel_rfl) K _
theorem HF (K:List Item) (t:List (Nat×AV)) (m:Mem):den prog ann 18 (.inLoop l1::.inBlock 1::K) ⟨t,46,m⟩=L1 (get t 7) (get t 9) (get t 27) (get t 28) (get t 29) m K:=ay hf (id:=8) (l:=[7,9,27,28,29]) (by kernel_rfl) (by kernel_rfl) (.inBlock 1::K) _
theorem Df (x7 x9 x27 x28 x29:AV) (m:Mem) (K:List Item):L1 x7 x9 x27 x28 x29 m K=den prog ann 18 (.code r8::.code i2::.code k2::.code r14::.inLoop l1::.inBlock 1::K) ⟨[(7,x7),(9,x9),(27,x27),(28,x28),(29,x29)],46,m⟩:=af hf (l:=[r8,i2,k2,r14]) (by kernel_rfl) _ _
theorem bQ:den prog ann 18 (.code r8::K) s=ah prog ann 18 (some [7,9,27,28,29]) [] none [] [qB 30 (binA prog .lss 3) 29 28] K s:=(ae hf _ K s).trans (by kernel_rfl)
theorem cw:den prog ann 18 (.code i2::K) s=ifV prog ann 18 30 i2t i2e K s (s.get 30):=aB hf (by kernel_rfl) K s
theorem cj:den prog ann 18 (.code i2t::K) s=den prog ann 18 (K) s:=af hf (l:=[]) (by kernel_rfl) K s
theorem bY:den prog ann 18 (.code i2e::K) s=den prog ann 18 (.code (.exit 1)::K) s:=af hf (l:=[(.exit 1)]) (by kernel_rfl) K s
theorem dL:den prog ann 18 (.code k2::K) s=den prog ann 18 (.code r9::.code r10::.code r11::.code i3::.code r13::.inBlock 2::K) s:=aS hf (b:=blkOf k2) (l:=[r9,r10,r11,i3,r13]) (by kernel_rfl) (by kernel_rfl) K s
theorem bU:den prog ann 18 (.code r9::K) s=ah prog ann 18 none [] none [] [qB 31 (idxSl 1) 27 29,qA 32 (loadF false 1) 31,qC 11 32] K s:=(ae hf _ K s).trans (by kernel_rfl)
theorem bV:den prog ann 18 (.code r10::K) s=ah prog ann 18 none [] none [12] [qC 34 7,qC 35 11,⟨some 36,none,.c 0 (fun s=>(.fn 36 [] [])) fun s=>[(s.get 34),(s.get 35)]⟩,qC 33 36,qF 37 fun s=>extA (s.get 33) 0,qF 38 fun s=>extA (s.get 33) 1,⟨some 12,none,.w false none fun s=>newPtr s.m [.int .i64 0,.int .i64 0,.int .i64 0,.int .i64 0]⟩,⟨none,none,.w false none fun s=>stA true 4 s.m (s.get 12) (s.get 37)⟩,qC 13 38] K s:=(ae hf _ K s).trans (by kernel_rfl)
theorem bW:den prog ann 18 (.code r11::K) s=ah prog ann 18 none [] none [] [qC 39 13,qA 40 (unA .not) 39] K s:=(ae hf _ K s).trans (by kernel_rfl)
theorem eT:den prog ann 18 (.code i3::K) s=ifV prog ann 18 40 i3t i3e K s (s.get 40):=aB hf (by kernel_rfl) K s
theorem dw:den prog ann 18 (.code i3t::K) s=den prog ann 18 (.code r12::.code .ret::K) s:=af hf (l:=[r12,.ret]) (by kernel_rfl) K s
theorem cv:den prog ann 18 (.code r12::K) s=ah prog ann 18 none [] none [] [qF 4 fun s=>some (.nilp),qF 5 fun s=>some (.nilm),qF 6 fun s=>some (.int .i64 2)] K s:=(ae hf _ K s).trans (by kernel_rfl)
theorem ej:den prog ann 18 (.code i3e::K) s=den prog ann 18 (K) s:=af hf (l:=[]) (by kernel_rfl) K s
theorem cP:den prog ann 18 (.code r13::K) s=ah prog ann 18 none [] none [] [qC 41 9,qA 42 (loadF true 4) 12,⟨none,none,.w false none fun s=>updM prog s.m 62 (s.get 41) (s.get 42) (.bool true)⟩] K s:=(ae hf _ K s).trans (by kernel_rfl)
theorem cY:den prog ann 18 (.code r14::K) s=ah prog ann 18 (some [7,9,27,28,29]) [] none [] [qF 43 fun s=>binA prog .add 3 (s.get 29) (.int .i64 1),qC 29 43] K s:=(ae hf _ K s).trans (by kernel_rfl)
theorem eX:den prog ann 18 (.code r15::K) s=ah prog ann 18 (some [7,9]) [] none [] [qC 44 7,qC 45 9,qC 4 44,qC 5 45,qF 6 fun s=>some (.int .i64 0)] K s:=(ae hf _ K s).trans (by kernel_rfl)
theorem aE:den prog ann 18 (.code .ret::K) s=finM true [fun s=>some (s.get 4),fun s=>some (s.get 5),fun s=>some (s.get 6)] s:=(aO hf K s).trans (by kernel_rfl)
theorem aC (id:Nat) (K:List Item) (s:St):den prog ann 18 (.inBlock id::K) s=den prog ann 18 K s:=aR hf id K s
theorem aT (id:Nat) (K:List Item) (s:St):den prog ann 18 (.code (.exit id)::K) s=exitV prog ann 18 (exitTo id K) s:=bp hf id K s
theorem al (v0 v1:AV) (m:Mem) (h:closedL [v0,v1]=true):denC prog ann 18 [v0,v1] m=(den prog ann 18 [.code b] ⟨[(0,v0),(1,v1)],46,Mem.empty⟩).bind fun r=>some (r.1,m):=(bD hf (b:=b) (by kernel_rfl) (by kernel_rfl) (by kernel_rfl) h m).trans (by kernel_rfl)
theorem aq:(ann 18).pure=true:=by kernel_rfl
attribute [simp] aV aH aI bu br aU aZ aX aL bg bC bA bd aY bo bM bH HF bQ cw cj bY dL bU bV bW eT dw cv ej cP cY eX aE aC aT aq
end
end cO
namespace dT
noncomputable section
variable (K : List Item) (s : St)
def b:Code:=(Tryz.f37.body).getD .skip
theorem hf:prog.funcs[37]?=some Tryz.f37:=by kernel_rfl
def r0:=aa b 0
def r1:=aa b 1
theorem aV:den prog ann 37 (.code b::K) s=den prog ann 37 (.code r0::.code r1::.code .ret::K) s:=af hf (l:=[r0,r1,.ret]) (by kernel_rfl) K s
theorem aH:den prog ann 37 (.code r0::K) s=ah prog ann 37 none [] none [] [qA 3 frozenPtr 1,qF 4 fun s=>some (.bool false)] K s:=(ae hf _ K s).trans (by kernel_rfl)
theorem gz:bh (fun g=>(ann g).pure) (bj (ann 37) (bI r1)) (bN (ann 37) (bI r1)) (opsOf r1)=true:=aQ (an:=[0,0,3,0,15,31]) (by kernel_rfl) (by kernel_rfl)
theorem aI:den prog ann 37 (.code r1::K) s=ah prog ann 37 none [] (some 6) [] [qC 5 0,qA 6 (loadF true 4) 3,⟨some 7,none,.c 0 (fun s=>(.fn 64 [] [])) fun s=>[(s.get 5),(s.get 6)]⟩,qA 8 (loadF true 4) 3,qB 9 (binA prog .eql 62) 7 8,qC 4 9] K s:=(aW hf gz K s).trans (by kernel_rfl)
theorem aE:den prog ann 37 (.code .ret::K) s=finM true [fun s=>some (s.get 4)] s:=(aO hf K s).trans (by kernel_rfl)
theorem al (v0 v1:AV) (m:Mem) (h:closedL [v0,v1]=true):denC prog ann 37 [v0,v1] m=(den prog ann 37 [.code b] ⟨[(0,v0),(1,v1)],10,Mem.empty⟩).bind fun r=>some (r.1,m):=(bD hf (b:=b) (by kernel_rfl) (by kernel_rfl) (by kernel_rfl) h m).trans (by kernel_rfl)
theorem aq:(ann 37).pure=true:=by kernel_rfl
attribute [simp] aV aH aI aE aq
end
end dT
namespace cq
noncomputable section
variable (K : List Item) (s : St)
def b:Code:=(Tryz.f36.body).getD .skip
theorem hf:prog.funcs[36]?=some Tryz.f36:=by kernel_rfl
def r0:=aa b 0
def r1:=aa b 1
def r2:=aa b 2
def i0:=ak b 0
def i0t:=az i0
def i0e:=aA i0
def r3:=aa b 3
def r4:=aa b 4
def r5:=aa b 5
def k0:=ax b 0
def l0:=bw k0
def L0 (x0 x4 x6 x20 x21:AV) (m:Mem) (K:List Item):Option Res:=den prog ann 36 (.code l0::.inLoop l0::.inBlock 0::K) ⟨[(0,x0),(4,x4),(6,x6),(20,x20),(21,x21)],40,m⟩
def r6:=aa b 6
def i1:=ak b 1
def i1t:=az i1
def i1e:=aA i1
def k1:=ax b 1
def r7:=aa b 7
def r8:=aa b 8
def i2:=ak b 2
def i2t:=az i2
def i2e:=aA i2
def r9:=aa b 9
def r10:=aa b 10
def r11:=aa b 11
theorem aV:den prog ann 36 (.code b::K) s=den prog ann 36 (.code r0::.code r1::.code r2::.code i0::.code r4::.code r5::.code k0::.code r11::.code .ret::K) s:=af hf (l:=[r0,r1,r2,i0,r4,r5,k0,r11,.ret]) (by kernel_rfl) K s
theorem aH:den prog ann 36 (.code r0::K) s=ah prog ann 36 none [] none [] [⟨some 4,none,.w false none fun s=>newPtr s.m [.int .i64 0,.int .i64 0,.int .i64 0,.int .i64 0]⟩,qF 5 fun s=>some (.bool false)] K s:=(ae hf _ K s).trans (by kernel_rfl)
theorem aI:den prog ann 36 (.code r1::K) s=ah prog ann 36 none [] none [] [⟨some 6,none,.w false none fun s=>newPtr s.m [.int .i64 0,.int .i64 0,.int .i64 0,.int .i64 0]⟩] K s:=(ae hf _ K s).trans (by kernel_rfl)
theorem br:den prog ann 36 (.code r2::K) s=ah prog ann 36 none [] none [] [qC 9 1,qA 10 lenSl 9,qC 11 0,qA 12 nilA 11,qA 13 (fieldA 0) 12,qA 14 (loadF false 1) 13,qB 15 (binA prog .neq 3) 10 14] K s:=(ae hf _ K s).trans (by kernel_rfl)
theorem aU:den prog ann 36 (.code i0::K) s=ifV prog ann 36 15 i0t i0e K s (s.get 15):=aB hf (by kernel_rfl) K s
theorem aZ:den prog ann 36 (.code i0t::K) s=den prog ann 36 (.code r3::.code .ret::K) s:=af hf (l:=[r3,.ret]) (by kernel_rfl) K s
theorem aX:den prog ann 36 (.code r3::K) s=ah prog ann 36 none [] none [] [qF 16 fun s=>loadA true 4 s.m (s.get 6),⟨none,none,.w false none fun s=>stA true 4 s.m (s.get 4) (s.get 16)⟩,qF 5 fun s=>some (.bool false)] K s:=(ae hf _ K s).trans (by kernel_rfl)
theorem aL:den prog ann 36 (.code i0e::K) s=den prog ann 36 (K) s:=af hf (l:=[]) (by kernel_rfl) K s
theorem bg:den prog ann 36 (.code r4::K) s=ah prog ann 36 none [] none [] [qF 17 fun s=>sliceArr 4 1 (s.get 6) none none,qC 18 1,⟨some 19,none,.w false none fun s=>copyA 1 s.m (s.get 17) (s.get 18)⟩] K s:=(ae hf _ K s).trans (by kernel_rfl)
theorem bd:den prog ann 36 (.code r5::K) s=ah prog ann 36 none [] none [] [qF 20 fun s=>loadA true 4 s.m (s.get 6),qF 21 fun s=>some (.int .i64 0)] K s:=(ae hf _ K s).trans (by kernel_rfl)
theorem bu (K:List Item) (t:List (Nat×AV)) (m:Mem):den prog ann 36 (.code k0::K) ⟨t,40,m⟩=L0 (get t 0) (get t 4) (get t 6) (get t 20) (get t 21) m K:=ar hf (b:=l0) (id:=6) (l:=[0,4,6,20,21]) (by kernel_rfl) (by kernel_rfl) (by kernel_rfl) K _
theorem bP (K:List Item) (t:List (Nat×AV)) (m:Mem):den prog ann 36 (.inLoop l0::.inBlock 0::K) ⟨t,40,m⟩=L0 (get t 0) (get t 4) (get t 6) (get t 20) (get t 21) m K:=ay hf (id:=6) (l:=[0,4,6,20,21]) (by kernel_rfl) (by kernel_rfl) (.inBlock 0::K) _
theorem aM (x0 x4 x6 x20 x21:AV) (m:Mem) (K:List Item):L0 x0 x4 x6 x20 x21 m K=den prog ann 36 (.code r6::.code i1::.code k1::.code r10::.inLoop l0::.inBlock 0::K) ⟨[(0,x0),(4,x4),(6,x6),(20,x20),(21,x21)],40,m⟩:=af hf (l:=[r6,i1,k1,r10]) (by kernel_rfl) _ _
theorem bo:den prog ann 36 (.code r6::K) s=ah prog ann 36 (some [0,4,6,20,21]) [] none [] [qF 22 fun s=>binA prog .lss 3 (s.get 21) (.int .i64 4)] K s:=(ae hf _ K s).trans (by kernel_rfl)
theorem bC:den prog ann 36 (.code i1::K) s=ifV prog ann 36 22 i1t i1e K s (s.get 22):=aB hf (by kernel_rfl) K s
theorem bA:den prog ann 36 (.code i1t::K) s=den prog ann 36 (K) s:=af hf (l:=[]) (by kernel_rfl) K s
theorem aY:den prog ann 36 (.code i1e::K) s=den prog ann 36 (.code (.exit 0)::K) s:=af hf (l:=[(.exit 0)]) (by kernel_rfl) K s
theorem bH:den prog ann 36 (.code k1::K) s=den prog ann 36 (.code r7::.code r8::.code i2::.inBlock 1::K) s:=aS hf (b:=blkOf k1) (l:=[r7,r8,i2]) (by kernel_rfl) (by kernel_rfl) K s
theorem bM:den prog ann 36 (.code r7::K) s=ah prog ann 36 none [] none [] [qC 23 21,qB 24 (idxAgg 4 1 false) 20 21,qC 7 23,qC 8 24] K s:=(ae hf _ K s).trans (by kernel_rfl)
theorem bQ:den prog ann 36 (.code r8::K) s=ah prog ann 36 none [] none [] [qC 25 8,qF 26 fun s=>binA prog .lss 3 (s.get 25) (.int .i64 0),qC 27 26,⟨some 28,some (27,false),.v fun s=>some (s.get 8)⟩,⟨some 29,some (27,false),.v fun s=>some (s.get 0)⟩,⟨some 30,some (27,false),.v fun s=>some (s.get 7)⟩,⟨some 31,some (27,false),.v fun s=>nilA (s.get 29)⟩,⟨some 32,some (27,false),.v fun s=>fieldA 1 (s.get 31)⟩,⟨some 33,some (27,false),.v fun s=>idxArr 4 1 (s.get 32) (s.get 30)⟩,⟨some 34,some (27,false),.v fun s=>loadF false 1 (s.get 33)⟩,⟨some 35,some (27,false),.v fun s=>binA prog .gtr 3 (s.get 28) (s.get 34)⟩,qF 36 fun s=>pickA (s.get 27) (.bool true) (s.get 35)] K s:=(ae hf _ K s).trans (by kernel_rfl)
theorem cw:den prog ann 36 (.code i2::K) s=ifV prog ann 36 36 i2t i2e K s (s.get 36):=aB hf (by kernel_rfl) K s
theorem cj:den prog ann 36 (.code i2t::K) s=den prog ann 36 (.code r9::.code .ret::K) s:=af hf (l:=[r9,.ret]) (by kernel_rfl) K s
theorem bU:den prog ann 36 (.code r9::K) s=ah prog ann 36 none [] none [] [qF 37 fun s=>loadA true 4 s.m (s.get 6),⟨none,none,.w false none fun s=>stA true 4 s.m (s.get 4) (s.get 37)⟩,qF 5 fun s=>some (.bool false)] K s:=(ae hf _ K s).trans (by kernel_rfl)
theorem bY:den prog ann 36 (.code i2e::K) s=den prog ann 36 (K) s:=af hf (l:=[]) (by kernel_rfl) K s
theorem bV:den prog ann 36 (.code r10::K) s=ah prog ann 36 (some [0,4,6,20,21]) [] none [] [qF 38 fun s=>binA prog .add 3 (s.get 21) (.int .i64 1),qC 21 38] K s:=(ae hf _ K s).trans (by kernel_rfl)
theorem bW:den prog ann 36 (.code r11::K) s=ah prog ann 36 (some [4,6]) [] none [] [qF 39 fun s=>loadA true 4 s.m (s.get 6),⟨none,none,.w false none fun s=>stA true 4 s.m (s.get 4) (s.get 39)⟩,qF 5 fun s=>some (.bool true)] K s:=(ae hf _ K s).trans (by kernel_rfl)
theorem aE:den prog ann 36 (.code .ret::K) s=finM true [fun s=>loadA true 4 s.m (s.get 4),fun s=>some (s.get 5)] s:=(aO hf K s).trans (by kernel_rfl)
theorem aC (id:Nat) (K:List Item) (s:St):den prog ann 36 (.inBlock id::K) s=den prog ann 36 K s:=aR hf id K s
theorem aT (id:Nat) (K:List Item) (s:St):den prog ann 36 (.code (.exit id)::K) s=exitV prog ann 36 (exitTo id K) s:=bp hf id K s
theorem al (v0 v1:AV) (m:Mem) (h:closedL [v0,v1]=true):denC prog ann 36 [v0,v1] m=(den prog ann 36 [.code b] ⟨[(0,v0),(1,v1)],40,Mem.empty⟩).bind fun r=>some (r.1,m):=(bD hf (b:=b) (by kernel_rfl) (by kernel_rfl) (by kernel_rfl) h m).trans (by kernel_rfl)
theorem aq:(ann 36).pure=true:=by kernel_rfl
attribute [simp] aV aH aI br aU aZ aX aL bg bd bu bP bo bC bA aY bH bM bQ cw cj bU bY bV bW aE aC aT aq
end
end cq
namespace cB
noncomputable section
variable (K : List Item) (s : St)
def b:Code:=(Tryz.f64.body).getD .skip
theorem hf:prog.funcs[64]?=some Tryz.f64:=by kernel_rfl
def r0:=aa b 0
def r1:=aa b 1
def r2:=aa b 2
def k0:=ax b 0
def l0:=bw k0
def L0 (x0 x3 x4 x5 x11 x12:AV) (m:Mem) (K:List Item):Option Res:=den prog ann 64 (.code l0::.inLoop l0::.inBlock 0::K) ⟨[(0,x0),(3,x3),(4,x4),(5,x5),(11,x11),(12,x12)],35,m⟩
def r3:=aa b 3
def i0:=ak b 0
def i0t:=az i0
def i0e:=aA i0
def k1:=ax b 1
def r4:=aa b 4
def r5:=aa b 5
def i1:=ak b 1
def i1t:=az i1
def i1e:=aA i1
def r6:=aa b 6
def r7:=aa b 7
def r8:=aa b 8
theorem aV:den prog ann 64 (.code b::K) s=den prog ann 64 (.code r0::.code r1::.code r2::.code k0::.code r8::.code .ret::K) s:=af hf (l:=[r0,r1,r2,k0,r8,.ret]) (by kernel_rfl) K s
theorem aH:den prog ann 64 (.code r0::K) s=ah prog ann 64 none [] none [] [qA 3 frozenPtr 1,⟨some 4,none,.w false none fun s=>newPtr s.m [.int .i64 0,.int .i64 0,.int .i64 0,.int .i64 0]⟩] K s:=(ae hf _ K s).trans (by kernel_rfl)
theorem aI:den prog ann 64 (.code r1::K) s=ah prog ann 64 none [] none [] [qA 7 (loadF true 4) 3,⟨some 5,none,.w false none fun s=>newPtr s.m [.int .i64 0,.int .i64 0,.int .i64 0,.int .i64 0]⟩,⟨none,none,.w false none fun s=>stA true 4 s.m (s.get 5) (s.get 7)⟩] K s:=(ae hf _ K s).trans (by kernel_rfl)
theorem br:den prog ann 64 (.code r2::K) s=ah prog ann 64 none [] none [] [qC 8 0,qA 9 nilA 8,qA 10 (fieldA 0) 9,qA 11 (loadF false 1) 10,qF 12 fun s=>some (.int .i64 0)] K s:=(ae hf _ K s).trans (by kernel_rfl)
theorem bu (K:List Item) (t:List (Nat×AV)) (m:Mem):den prog ann 64 (.code k0::K) ⟨t,35,m⟩=L0 (get t 0) (get t 3) (get t 4) (get t 5) (get t 11) (get t 12) m K:=ar hf (b:=l0) (id:=3) (l:=[0,3,4,5,11,12]) (by kernel_rfl) (by kernel_rfl) (by kernel_rfl) K _
theorem bP (K:List Item) (t:List (Nat×AV)) (m:Mem):den prog ann 64 (.inLoop l0::.inBlock 0::K) ⟨t,35,m⟩=L0 (get t 0) (get t 3) (get t 4) (get t 5) (get t 11) (get t 12) m K:=ay hf (id:=3) (l:=[0,3,4,5,11,12]) (by kernel_rfl) (by kernel_rfl) (.inBlock 0::K) _
theorem aM (x0 x3 x4 x5 x11 x12:AV) (m:Mem) (K:List Item):L0 x0 x3 x4 x5 x11 x12 m K=den prog ann 64 (.code r3::.code i0::.code k1::.code r7::.inLoop l0::.inBlock 0::K) ⟨[(0,x0),(3,x3),(4,x4),(5,x5),(11,x11),(12,x12)],35,m⟩:=af hf (l:=[r3,i0,k1,r7]) (by kernel_rfl) _ _
theorem aX:den prog ann 64 (.code r3::K) s=ah prog ann 64 (some [0,3,4,5,11,12]) [] none [] [qB 13 (binA prog .lss 3) 12 11] K s:=(ae hf _ K s).trans (by kernel_rfl)
theorem aU:den prog ann 64 (.code i0::K) s=ifV prog ann 64 13 i0t i0e K s (s.get 13):=aB hf (by kernel_rfl) K s
theorem aZ:den prog ann 64 (.code i0t::K) s=den prog ann 64 (K) s:=af hf (l:=[]) (by kernel_rfl) K s
theorem aL:den prog ann 64 (.code i0e::K) s=den prog ann 64 (.code (.exit 0)::K) s:=af hf (l:=[(.exit 0)]) (by kernel_rfl) K s
theorem bH:den prog ann 64 (.code k1::K) s=den prog ann 64 (.code r4::.code r5::.code i1::.inBlock 1::K) s:=aS hf (b:=blkOf k1) (l:=[r4,r5,i1]) (by kernel_rfl) (by kernel_rfl) K s
theorem bg:den prog ann 64 (.code r4::K) s=ah prog ann 64 none [] none [] [qC 14 12,qC 6 14] K s:=(ae hf _ K s).trans (by kernel_rfl)
theorem bd:den prog ann 64 (.code r5::K) s=ah prog ann 64 none [] none [] [qC 15 6,qB 16 (idxArr 4 1) 3 15,qA 17 (loadF false 1) 16,qF 18 fun s=>binA prog .gtr 3 (s.get 17) (.int .i64 0)] K s:=(ae hf _ K s).trans (by kernel_rfl)
theorem bC:den prog ann 64 (.code i1::K) s=ifV prog ann 64 18 i1t i1e K s (s.get 18):=aB hf (by kernel_rfl) K s
theorem bA:den prog ann 64 (.code i1t::K) s=den prog ann 64 (.code r6::K) s:=af hf (l:=[r6]) (by kernel_rfl) K s
theorem jY:bh (fun g=>(ann g).pure) (bj (ann 64) (bI r6)) (bN (ann 64) (bI r6)) (opsOf r6)=true:=aQ (an:=[0,0,0,2,10,30,62,0,128,384,896,2046,4094,8191,16383]) (by kernel_rfl) (by kernel_rfl)
theorem bo:den prog ann 64 (.code r6::K) s=ah prog ann 64 none [] (some 15) [] [qF 19 fun s=>loadA true 4 s.m (s.get 5),qC 20 0,qC 21 6,qA 22 nilA 20,qA 23 (fieldA 5) 22,qB 24 (idxArr 4 1) 23 21,qA 25 (loadF false 1) 24,qC 26 6,qB 27 (idxArr 4 1) 3 26,qA 28 (loadF false 1) 27,qF 29 fun s=>binA prog .sub 3 (s.get 28) (.int .i64 1),qB 30 (idxSl 4) 25 29,qA 31 (loadF true 4) 30,⟨some 32,none,.c 0 (fun s=>(.fn 62 [] [])) fun s=>[(s.get 19),(s.get 31)]⟩,⟨none,none,.w false (some 14) fun s=>stA true 4 s.m (s.get 5) (s.get 32)⟩] K s:=(aW hf jY K s).trans (by kernel_rfl)
theorem aY:den prog ann 64 (.code i1e::K) s=den prog ann 64 (K) s:=af hf (l:=[]) (by kernel_rfl) K s
theorem bM:den prog ann 64 (.code r7::K) s=ah prog ann 64 (some [0,3,4,5,11,12]) [] none [] [qF 33 fun s=>binA prog .add 3 (s.get 12) (.int .i64 1),qC 12 33] K s:=(ae hf _ K s).trans (by kernel_rfl)
theorem bQ:den prog ann 64 (.code r8::K) s=ah prog ann 64 (some [4,5]) [] none [] [qF 34 fun s=>loadA true 4 s.m (s.get 5),⟨none,none,.w false none fun s=>stA true 4 s.m (s.get 4) (s.get 34)⟩] K s:=(ae hf _ K s).trans (by kernel_rfl)
theorem aE:den prog ann 64 (.code .ret::K) s=finM true [fun s=>loadA true 4 s.m (s.get 4)] s:=(aO hf K s).trans (by kernel_rfl)
theorem aC (id:Nat) (K:List Item) (s:St):den prog ann 64 (.inBlock id::K) s=den prog ann 64 K s:=aR hf id K s
theorem aT (id:Nat) (K:List Item) (s:St):den prog ann 64 (.code (.exit id)::K) s=exitV prog ann 64 (exitTo id K) s:=bp hf id K s
theorem al (v0 v1:AV) (m:Mem) (h:closedL [v0,v1]=true):denC prog ann 64 [v0,v1] m=(den prog ann 64 [.code b] ⟨[(0,v0),(1,v1)],35,Mem.empty⟩).bind fun r=>some (r.1,m):=(bD hf (b:=b) (by kernel_rfl) (by kernel_rfl) (by kernel_rfl) h m).trans (by kernel_rfl)
theorem aq:(ann 64).pure=true:=by kernel_rfl
attribute [simp] aV aH aI br bu bP aX aU aZ aL bH bg bd bC bA bo aY bM bQ aE aC aT aq
end
end cB
namespace cy
noncomputable section
variable (K : List Item) (s : St)
def b:Code:=(Tryz.f21.body).getD .skip
theorem hf:prog.funcs[21]?=some Tryz.f21:=by kernel_rfl
def r0:=aa b 0
def r1:=aa b 1
def r2:=aa b 2
def k0:=ax b 0
def l0:=bw k0
def L0 (x0 x3 x5 x6:AV) (m:Mem) (K:List Item):Option Res:=den prog ann 21 (.code l0::.inLoop l0::.inBlock 0::K) ⟨[(0,x0),(3,x3),(5,x5),(6,x6)],43,m⟩
def r3:=aa b 3
def i0:=ak b 0
def i0t:=az i0
def i0e:=aA i0
def k1:=ax b 1
def r5:=aa b 5
def r6:=aa b 6
def r7:=aa b 7
def i1:=ak b 1
def i1t:=az i1
def i1e:=aA i1
def r8:=aa b 8
def r4:=aa b 4
def r9:=aa b 9
theorem aV:den prog ann 21 (.code b::K) s=den prog ann 21 (.code r0::.code r1::.code r2::.code k0::.code r9::.code .ret::K) s:=af hf (l:=[r0,r1,r2,k0,r9,.ret]) (by kernel_rfl) K s
theorem aH:den prog ann 21 (.code r0::K) s=ah prog ann 21 none [] none [] [qA 3 frozenPtr 1,qF 4 fun s=>some (.nils)] K s:=(ae hf _ K s).trans (by kernel_rfl)
theorem aI:den prog ann 21 (.code r1::K) s=ah prog ann 21 none [] none [] [qF 5 fun s=>some (.nils)] K s:=(ae hf _ K s).trans (by kernel_rfl)
theorem br:den prog ann 21 (.code r2::K) s=ah prog ann 21 none [] none [] [qC 8 0,qA 9 nilA 8,qA 10 (fieldA 0) 9,qA 11 (loadF false 1) 10,qF 12 fun s=>binA prog .sub 3 (s.get 11) (.int .i64 1),qC 6 12] K s:=(ae hf _ K s).trans (by kernel_rfl)
theorem bu (K:List Item) (t:List (Nat×AV)) (m:Mem):den prog ann 21 (.code k0::K) ⟨t,43,m⟩=L0 (get t 0) (get t 3) (get t 5) (get t 6) m K:=ar hf (b:=l0) (id:=3) (l:=[0,3,5,6]) (by kernel_rfl) (by kernel_rfl) (by kernel_rfl) K _
theorem bP (K:List Item) (t:List (Nat×AV)) (m:Mem):den prog ann 21 (.inLoop l0::.inBlock 0::K) ⟨t,43,m⟩=L0 (get t 0) (get t 3) (get t 5) (get t 6) m K:=ay hf (id:=3) (l:=[0,3,5,6]) (by kernel_rfl) (by kernel_rfl) (.inBlock 0::K) _
theorem aM (x0 x3 x5 x6:AV) (m:Mem) (K:List Item):L0 x0 x3 x5 x6 m K=den prog ann 21 (.code r3::.code i0::.code k1::.code r4::.inLoop l0::.inBlock 0::K) ⟨[(0,x0),(3,x3),(5,x5),(6,x6)],43,m⟩:=af hf (l:=[r3,i0,k1,r4]) (by kernel_rfl) _ _
theorem aX:den prog ann 21 (.code r3::K) s=ah prog ann 21 (some [0,3,5,6]) [] none [] [qC 13 6,qF 14 fun s=>binA prog .geq 3 (s.get 13) (.int .i64 0)] K s:=(ae hf _ K s).trans (by kernel_rfl)
theorem aU:den prog ann 21 (.code i0::K) s=ifV prog ann 21 14 i0t i0e K s (s.get 14):=aB hf (by kernel_rfl) K s
theorem aZ:den prog ann 21 (.code i0t::K) s=den prog ann 21 (K) s:=af hf (l:=[]) (by kernel_rfl) K s
theorem aL:den prog ann 21 (.code i0e::K) s=den prog ann 21 (.code (.exit 0)::K) s:=af hf (l:=[(.exit 0)]) (by kernel_rfl) K s
theorem bH:den prog ann 21 (.code k1::K) s=den prog ann 21 (.code r5::.code r6::.code r7::.code i1::.inBlock 1::K) s:=aS hf (b:=blkOf k1) (l:=[r5,r6,r7,i1]) (by kernel_rfl) (by kernel_rfl) K s
theorem bd:den prog ann 21 (.code r5::K) s=ah prog ann 21 none [] none [] [qA 17 (loadF true 4) 3,⟨some 7,none,.w false none fun s=>newPtr s.m [.int .i64 0,.int .i64 0,.int .i64 0,.int .i64 0]⟩,⟨none,none,.w false none fun s=>stA true 4 s.m (s.get 7) (s.get 17)⟩] K s:=(ae hf _ K s).trans (by kernel_rfl)
theorem bo:den prog ann 21 (.code r6::K) s=ah prog ann 21 none [] none [] [qC 18 6,qB 19 (idxArr 4 1) 7 18,qF 20 fun s=>loadA false 1 s.m (s.get 19),qF 21 fun s=>binA prog .add 3 (s.get 20) (.int .i64 1),qB 22 (idxArr 4 1) 7 18,⟨none,none,.w false none fun s=>stA false 1 s.m (s.get 22) (s.get 21)⟩] K s:=(ae hf _ K s).trans (by kernel_rfl)
theorem qe:bh (fun g=>(ann g).pure) (bj (ann 21) (bI r7)) (bN (ann 21) (bI r7)) (opsOf r7)=true:=aQ (an:=[0,1,3,0,0,8,40,120,248,511,1023,2047,2047,8191,16383]) (by kernel_rfl) (by kernel_rfl)
theorem bM:den prog ann 21 (.code r7::K) s=ah prog ann 21 none [] (some 15) [] [qC 23 6,qB 24 (idxArr 4 1) 7 23,qF 25 fun s=>loadA false 1 s.m (s.get 24),qC 26 0,qC 27 6,qA 28 nilA 26,qA 29 (fieldA 1) 28,qB 30 (idxArr 4 1) 29 27,qA 31 (loadF false 1) 30,qB 32 (binA prog .leq 3) 25 31,qC 33 32,⟨some 34,some (33,true),.v fun s=>some (s.get 0)⟩,⟨some 35,some (33,true),.v fun s=>loadA true 4 s.m (s.get 7)⟩,⟨some 36,some (33,true),.c 0 (fun s=>(.fn 37 [] [])) fun s=>[(s.get 34),(s.get 35)]⟩,qF 37 fun s=>pickA (s.get 33) (s.get 36) (.bool false)] K s:=(aW hf qe K s).trans (by kernel_rfl)
theorem bC:den prog ann 21 (.code i1::K) s=ifV prog ann 21 37 i1t i1e K s (s.get 37):=aB hf (by kernel_rfl) K s
theorem bA:den prog ann 21 (.code i1t::K) s=den prog ann 21 (.code r8::K) s:=af hf (l:=[r8]) (by kernel_rfl) K s
theorem bQ:den prog ann 21 (.code r8::K) s=ah prog ann 21 none [] none [] [qC 38 5,qF 39 fun s=>loadA true 4 s.m (s.get 7),qF 40 fun s=>bslF 1 (bslA 4 1 [.int .i64 0,.int .i64 0,.int .i64 0,.int .i64 0] [(0,(s.get 39))]),⟨some 41,none,.w false none fun s=>appendA 4 32 s.m (s.get 38) (s.get 40)⟩,qC 5 41] K s:=(ae hf _ K s).trans (by kernel_rfl)
theorem aY:den prog ann 21 (.code i1e::K) s=den prog ann 21 (K) s:=af hf (l:=[]) (by kernel_rfl) K s
theorem bg:den prog ann 21 (.code r4::K) s=ah prog ann 21 (some [0,3,5,6]) [] none [] [qC 15 6,qF 16 fun s=>binA prog .sub 3 (s.get 15) (.int .i64 1),qC 6 16] K s:=(ae hf _ K s).trans (by kernel_rfl)
theorem bU:den prog ann 21 (.code r9::K) s=ah prog ann 21 (some [5]) [] none [] [qC 42 5,qC 4 42] K s:=(ae hf _ K s).trans (by kernel_rfl)
theorem aE:den prog ann 21 (.code .ret::K) s=finM true [fun s=>some (s.get 4)] s:=(aO hf K s).trans (by kernel_rfl)
theorem aC (id:Nat) (K:List Item) (s:St):den prog ann 21 (.inBlock id::K) s=den prog ann 21 K s:=aR hf id K s
theorem aT (id:Nat) (K:List Item) (s:St):den prog ann 21 (.code (.exit id)::K) s=exitV prog ann 21 (exitTo id K) s:=bp hf id K s
theorem al (v0 v1:AV) (m:Mem) (h:closedL [v0,v1]=true):denC prog ann 21 [v0,v1] m=(den prog ann 21 [.code b] ⟨[(0,v0),(1,v1)],43,Mem.empty⟩).bind fun r=>some (r.1,m):=(bD hf (b:=b) (by kernel_rfl) (by kernel_rfl) (by kernel_rfl) h m).trans (by kernel_rfl)
theorem aq:(ann 21).pure=true:=by kernel_rfl
attribute [simp] aV aH aI br bu bP aX aU aZ aL bH bd bo bM bC bA bQ aY bg bU aE aC aT aq
end
end cy
namespace fZ
noncomputable section
variable (K : List Item) (s : St)
def b:Code:=(Tryz.f20.body).getD .skip
theorem hf:prog.funcs[20]?=some Tryz.f20:=by kernel_rfl
def r0:=aa b 0
def r1:=aa b 1
theorem aV:den prog ann 20 (.code b::K) s=den prog ann 20 (.code r0::.code r1::.code .ret::K) s:=af hf (l:=[r0,r1,.ret]) (by kernel_rfl) K s
theorem aH:den prog ann 20 (.code r0::K) s=ah prog ann 20 none [] none [] [qA 3 frozenPtr 1,qF 4 fun s=>some (.nils)] K s:=(ae hf _ K s).trans (by kernel_rfl)
theorem aI:den prog ann 20 (.code r1::K) s=ah prog ann 20 none [] none [] [qC 5 0,qA 6 nilA 5,qA 7 (fieldA 0) 6,qA 8 (loadF false 1) 7,qF 9 fun s=>sliceArr 4 1 (s.get 3) none (some (s.get 8)),⟨some 10,none,.c 0 (fun s=>(.fn 39 [] [])) fun s=>[(s.get 9)]⟩,qC 4 10] K s:=(ae hf _ K s).trans (by kernel_rfl)
theorem aE:den prog ann 20 (.code .ret::K) s=finM true [fun s=>some (s.get 4)] s:=(aO hf K s).trans (by kernel_rfl)
theorem al (v0 v1:AV) (m:Mem) (h:closedL [v0,v1]=true):denC prog ann 20 [v0,v1] m=(den prog ann 20 [.code b] ⟨[(0,v0),(1,v1)],11,Mem.empty⟩).bind fun r=>some (r.1,m):=(bD hf (b:=b) (by kernel_rfl) (by kernel_rfl) (by kernel_rfl) h m).trans (by kernel_rfl)
theorem aq:(ann 20).pure=true:=by kernel_rfl
attribute [simp] aV aH aI aE aq
end
end fZ
namespace fY
noncomputable section
variable (K : List Item) (s : St)
def b:Code:=(Tryz.f39.body).getD .skip
theorem hf:prog.funcs[39]?=some Tryz.f39:=by kernel_rfl
def r0:=aa b 0
def r1:=aa b 1
def i0:=ak b 0
def i0t:=az i0
def i0e:=aA i0
def r3:=aa b 3
theorem aV:den prog ann 39 (.code b::K) s=den prog ann 39 (.code r0::.code r1::.code i0::.code r3::.code .ret::K) s:=af hf (l:=[r0,r1,i0,r3,.ret]) (by kernel_rfl) K s
theorem aH:den prog ann 39 (.code r0::K) s=ah prog ann 39 none [] none [] [qF 2 fun s=>some (.nils)] K s:=(ae hf _ K s).trans (by kernel_rfl)
theorem aI:den prog ann 39 (.code r1::K) s=ah prog ann 39 none [] none [] [qC 3 0,qF 4 fun s=>binA prog .eql 25 (s.get 3) (.nils)] K s:=(ae hf _ K s).trans (by kernel_rfl)
theorem aU:den prog ann 39 (.code i0::K) s=ifV prog ann 39 4 i0t i0e K s (s.get 4):=aB hf (by kernel_rfl) K s
theorem aL:den prog ann 39 (.code i0e::K) s=den prog ann 39 (K) s:=af hf (l:=[]) (by kernel_rfl) K s
theorem aX:den prog ann 39 (.code r3::K) s=ah prog ann 39 none [] none [] [qF 5 fun s=>bslF 0 (bslA 1 0 [.int .i64 0] []),qC 6 0,qB 7 (appV 1 8) 5 6,qC 2 7] K s:=(ae hf _ K s).trans (by kernel_rfl)
theorem aE:den prog ann 39 (.code .ret::K) s=finM true [fun s=>some (s.get 2)] s:=(aO hf K s).trans (by kernel_rfl)
theorem al (v0:AV) (m:Mem) (h:closedL [v0]=true):denC prog ann 39 [v0] m=(den prog ann 39 [.code b] ⟨[(0,v0)],8,Mem.empty⟩).bind fun r=>some (r.1,m):=(bD hf (b:=b) (by kernel_rfl) (by kernel_rfl) (by kernel_rfl) h m).trans (by kernel_rfl)
theorem aq:(ann 39).pure=true:=by kernel_rfl
attribute [simp] aV aH aI aU aL aX aE aq
end
end fY
end Go.Proofs.YtadofgdidhpnpaaGreatDoor
