/-
  BODIES OF FUNCTIONS OF THE PROGRAM AS SMALL OPERATIONS (written by gen.py; checked by the kernel against the program). Conditions: none.
-/
import Derived.Test.YtadofgdidhpnpaaGreatDoorK00
import Derived.Test.YtadofgdidhpnpaaGreatDoorKAmH
import Derived.Test.YtadofgdidhpnpaaGreatDoorK03
import Derived.Test.YtadofgdidhpnpaaGreatDoorK01
set_option linter.all false
namespace Go.Proofs.YtadofgdidhpnpaaGreatDoor
open Go.AM
open Go.Proofs.Tryz (prog)
set_option maxRecDepth 100000
set_option linter.all false
namespace fC
noncomputable section
variable (K : List Item) (s : St)
def b:Code:=(Tryz.f46.body).getD .skip
theorem hf:prog.funcs[46]?=some Tryz.f46:=by kernel_rfl
def r0:=aa b 0
def r1:=aa b 1
def r2:=aa b 2
theorem aV:den prog ann 46 (.code b::K) s=den prog ann 46 (.code r0::.code r1::.code r2::.code .ret::K) s:=af hf (l:=[r0,r1,r2,.ret]) (by kernel_rfl) K s
theorem aH:den prog ann 46 (.code r0::K) s=ah prog ann 46 none [] none [] [qA 1 frozenPtr 0,qF 2 fun s=>some (.nils)] K s:=(ae hf _ K s).trans (by kernel_rfl)
theorem gz:bh (fun g=>(ann g).pure) (bj (ann 46) (bI r1)) (bN (ann 46) (bI r1)) (opsOf r1)=true:=aQ (an:=[0,1,0,4,15,0,32,96,224,511,1023]) (by kernel_rfl) (by kernel_rfl)
theorem aI:den prog ann 46 (.code r1::K) s=ah prog ann 46 none [] (some 11) [] [⟨some 4,none,.w false (some 0) fun s=>bslM s.m 4 (bslA 1 4 [.int .u8 0] [(0,(.int .u8 67)),(1,(.int .u8 72)),(2,(.int .u8 83)),(3,(.int .u8 84))])⟩,⟨some 5,none,.w false (some 1) fun s=>markA prog s.m 97 97 (s.get 4)⟩,qA 6 (fieldA 0) 1,qA 7 (loadF false 1) 6,⟨some 8,none,.c 0 (fun s=>(.fn 70 [] [])) fun s=>[(s.get 5),(s.get 7)]⟩,qA 9 (fieldA 1) 1,qA 10 (loadF false 1) 9,qA 11 (convInt .u8) 10,qF 12 fun s=>bslF 1 (bslA 1 1 [.int .u8 0] [(0,(s.get 11))]),⟨some 13,none,.w false (some 9) fun s=>appendA 1 1 s.m (s.get 8) (s.get 12)⟩,qC 3 13] K s:=(aW hf gz K s).trans (by kernel_rfl)
theorem br:den prog ann 46 (.code r2::K) s=ah prog ann 46 none [] none [] [qC 14 3,qC 15 3,⟨some 16,none,.c 0 (fun s=>(.fn 71 [] [])) fun s=>[(s.get 15)]⟩,⟨some 17,none,.c 0 (fun s=>(.fn 70 [] [])) fun s=>[(s.get 14),(s.get 16)]⟩,qC 2 17] K s:=(ae hf _ K s).trans (by kernel_rfl)
theorem aE:den prog ann 46 (.code .ret::K) s=finM true [fun s=>some (s.get 2)] s:=(aO hf K s).trans (by kernel_rfl)
theorem al (v0:AV) (m:Mem) (h:closedL [v0]=true):denC prog ann 46 [v0] m=(den prog ann 46 [.code b] ⟨[(0,v0)],18,Mem.empty⟩).bind fun r=>some (r.1,m):=(bD hf (b:=b) (by kernel_rfl) (by kernel_rfl) (by kernel_rfl) h m).trans (by kernel_rfl)
theorem aq:(ann 46).pure=true:=by kernel_rfl
attribute [simp] aV aH aI br aE aq
end
end fC
namespace aD
noncomputable section
variable (K : List Item) (s : St)
def b:Code:=(Tryz.f25.body).getD .skip
theorem hf:prog.funcs[25]?=some Tryz.f25:=by kernel_rfl
def r0:=aa b 0
def r1:=aa b 1
def k0:=ax b 0
def l0:=bw k0
def L0 (x0 x1 x5 x15 x16 x17:AV) (m:Mem) (K:List Item):Option Res:=den prog ann 25 (.code l0::.inLoop l0::.inBlock 0::K) ⟨[(0,x0),(1,x1),(5,x5),(15,x15),(16,x16),(17,x17)],63,m⟩
def r2:=aa b 2
def i0:=ak b 0
def i0t:=az i0
def i0e:=aA i0
def k1:=ax b 1
def r3:=aa b 3
def r4:=aa b 4
def r5:=aa b 5
def r6:=aa b 6
def i1:=ak b 1
def i1t:=az i1
def i1e:=aA i1
def r7:=aa b 7
def r8:=aa b 8
def r9:=aa b 9
def r10:=aa b 10
def i2:=ak b 2
def i2t:=az i2
def i2e:=aA i2
def r11:=aa b 11
def r12:=aa b 12
def r13:=aa b 13
def i3:=ak b 3
def i3t:=az i3
def i3e:=aA i3
def r14:=aa b 14
def r15:=aa b 15
theorem aV:den prog ann 25 (.code b::K) s=den prog ann 25 (.code r0::.code r1::.code k0::.code r9::.code r10::.code i2::.code r12::.code r13::.code i3::.code r15::.code .ret::K) s:=af hf (l:=[r0,r1,k0,r9,r10,i2,r12,r13,i3,r15,.ret]) (by kernel_rfl) K s
theorem aH:den prog ann 25 (.code r0::K) s=ah prog ann 25 none [] none [] [qA 5 frozenPtr 2,qF 6 fun s=>some (.int .i64 0)] K s:=(ae hf _ K s).trans (by kernel_rfl)
theorem aI:den prog ann 25 (.code r1::K) s=ah prog ann 25 none [] none [] [qC 13 1,⟨some 14,none,.c 0 (fun s=>(.fn 48 [] [])) fun s=>[(s.get 13)]⟩,⟨some 15,none,.c 0 (fun s=>(.fn 47 [] [])) fun s=>[(s.get 14)]⟩,qA 16 lenSl 15,qF 17 fun s=>some (.int .i64 0)] K s:=(ae hf _ K s).trans (by kernel_rfl)
theorem bu (K:List Item) (t:List (Nat×AV)) (m:Mem):den prog ann 25 (.code k0::K) ⟨t,63,m⟩=L0 (get t 0) (get t 1) (get t 5) (get t 15) (get t 16) (get t 17) m K:=ar hf (b:=l0) (id:=2) (l:=[0,1,5,15,16,17]) (by kernel_rfl) (by kernel_rfl) (by kernel_rfl) K _
theorem bP (K:List Item) (t:List (Nat×AV)) (m:Mem):den prog ann 25 (.inLoop l0::.inBlock 0::K) ⟨t,63,m⟩=L0 (get t 0) (get t 1) (get t 5) (get t 15) (get t 16) (get t 17) m K:=ay hf (id:=2) (l:=[0,1,5,15,16,17]) (by kernel_rfl) (by kernel_rfl) (.inBlock 0::K) _
theorem aM (x0 x1 x5 x15 x16 x17:AV) (m:Mem) (K:List Item):L0 x0 x1 x5 x15 x16 x17 m K=den prog ann 25 (.code r2::.code i0::.code k1::.code r8::.inLoop l0::.inBlock 0::K) ⟨[(0,x0),(1,x1),(5,x5),(15,x15),(16,x16),(17,x17)],63,m⟩:=af hf (l:=[r2,i0,k1,r8]) (by kernel_rfl) _ _
theorem br:den prog ann 25 (.code r2::K) s=ah prog ann 25 (some [0,1,5,15,16,17]) [] none [] [qB 18 (binA prog .lss 3) 17 16] K s:=(ae hf _ K s).trans (by kernel_rfl)
theorem aU:den prog ann 25 (.code i0::K) s=ifV prog ann 25 18 i0t i0e K s (s.get 18):=aB hf (by kernel_rfl) K s
theorem aZ:den prog ann 25 (.code i0t::K) s=den prog ann 25 (K) s:=af hf (l:=[]) (by kernel_rfl) K s
theorem aL:den prog ann 25 (.code i0e::K) s=den prog ann 25 (.code (.exit 0)::K) s:=af hf (l:=[(.exit 0)]) (by kernel_rfl) K s
theorem bH:den prog ann 25 (.code k1::K) s=den prog ann 25 (.code r3::.code r4::.code r5::.code r6::.code i1::.inBlock 1::K) s:=aS hf (b:=blkOf k1) (l:=[r3,r4,r5,r6,i1]) (by kernel_rfl) (by kernel_rfl) K s
theorem aX:den prog ann 25 (.code r3::K) s=ah prog ann 25 none [] none [] [qB 19 (idxSl 1) 15 17,qF 20 fun s=>loadA false 1 s.m (s.get 19),qC 8 20] K s:=(ae hf _ K s).trans (by kernel_rfl)
theorem bg:den prog ann 25 (.code r4::K) s=ah prog ann 25 none [] none [9] [qC 21 1,qC 22 8,qF 23 fun s=>lookP prog s.m 3 (.agg page0) (s.get 21) (s.get 22) false,⟨some 9,none,.w false none fun s=>newPtr s.m page0⟩,⟨none,none,.w false none fun s=>stA true 256 s.m (s.get 9) (s.get 23)⟩] K s:=(ae hf _ K s).trans (by kernel_rfl)
theorem dm:bh (fun g=>(ann g).pure) (bj (ann 25) (bI r5)) (bN (ann 25) (bI r5)) (opsOf r5)=true:=aQ (an:=[0,1,3,7,0,0,63,127]) (by kernel_rfl) (by kernel_rfl)
theorem bd:den prog ann 25 (.code r5::K) s=ah prog ann 25 none [] (some 8) [] [qC 24 0,qA 25 nilA 24,qA 26 (fieldA 2) 25,qF 27 fun s=>loadA false 1 s.m (s.get 26),qC 28 8,qF 29 fun s=>sliceArr 256 1 (s.get 9) none none,⟨some 30,none,.c 0 (fun s=>(.fn 49 [] [])) fun s=>[(s.get 27),(s.get 28),(s.get 29)]⟩,qC 10 30] K s:=(aW hf dm K s).trans (by kernel_rfl)
theorem bo:den prog ann 25 (.code r6::K) s=ah prog ann 25 none [] none [] [qC 31 10,qF 32 fun s=>binA prog .neq 33 (s.get 31) (.int .i64 0)] K s:=(ae hf _ K s).trans (by kernel_rfl)
theorem bC:den prog ann 25 (.code i1::K) s=ifV prog ann 25 32 i1t i1e K s (s.get 32):=aB hf (by kernel_rfl) K s
theorem bA:den prog ann 25 (.code i1t::K) s=den prog ann 25 (.code r7::.code .ret::K) s:=af hf (l:=[r7,.ret]) (by kernel_rfl) K s
theorem bM:den prog ann 25 (.code r7::K) s=ah prog ann 25 none [] none [] [qC 33 10,qC 6 33] K s:=(ae hf _ K s).trans (by kernel_rfl)
theorem aY:den prog ann 25 (.code i1e::K) s=den prog ann 25 (K) s:=af hf (l:=[]) (by kernel_rfl) K s
theorem bQ:den prog ann 25 (.code r8::K) s=ah prog ann 25 (some [0,1,5,15,16,17]) [] none [] [qF 34 fun s=>binA prog .add 3 (s.get 17) (.int .i64 1),qC 17 34] K s:=(ae hf _ K s).trans (by kernel_rfl)
theorem bU:den prog ann 25 (.code r9::K) s=ah prog ann 25 (some [0,5]) [] none [] [qC 35 0,qA 36 nilA 35,qA 37 (fieldA 2) 36,qF 38 fun s=>loadA false 1 s.m (s.get 37),⟨some 39,none,.c 0 (fun s=>(.fn 50 [] [])) fun s=>[(s.get 38)]⟩,qC 11 39] K s:=(ae hf _ K s).trans (by kernel_rfl)
theorem bV:den prog ann 25 (.code r10::K) s=ah prog ann 25 none [] none [] [qC 40 11,qF 41 fun s=>binA prog .neq 33 (s.get 40) (.int .i64 0)] K s:=(ae hf _ K s).trans (by kernel_rfl)
theorem cw:den prog ann 25 (.code i2::K) s=ifV prog ann 25 41 i2t i2e K s (s.get 41):=aB hf (by kernel_rfl) K s
theorem cj:den prog ann 25 (.code i2t::K) s=den prog ann 25 (.code r11::.code .ret::K) s:=af hf (l:=[r11,.ret]) (by kernel_rfl) K s
theorem bW:den prog ann 25 (.code r11::K) s=ah prog ann 25 none [] none [] [qC 42 11,qC 6 42] K s:=(ae hf _ K s).trans (by kernel_rfl)
theorem bY:den prog ann 25 (.code i2e::K) s=den prog ann 25 (K) s:=af hf (l:=[]) (by kernel_rfl) K s
theorem iz:bh (fun g=>(ann g).pure) (bj (ann 25) (bI r12)) (bN (ann 25) (bI r12)) (opsOf r12)=true:=aQ (an:=[0,1,3,7,0,16,48,112,240,0,512,2047,4095]) (by kernel_rfl) (by kernel_rfl)
theorem cv:den prog ann 25 (.code r12::K) s=ah prog ann 25 none [] (some 13) [] [qC 43 0,qA 44 nilA 43,qA 45 (fieldA 2) 44,qF 46 fun s=>loadA false 1 s.m (s.get 45),qA 47 (fieldA 0) 5,qA 48 (loadF false 1) 47,qF 49 fun s=>binA prog .add 76 (s.get 48) (.int .u64 1),qA 50 (convInt .i64) 49,qF 51 fun s=>binA prog .rem 3 (s.get 50) (.int .i64 2),qA 52 (loadF true 2) 5,⟨some 53,none,.c 0 (fun s=>(.fn 46 [] [])) fun s=>[(s.get 52)]⟩,⟨some 54,none,.c 0 (fun s=>(.fn 49 [] [])) fun s=>[(s.get 46),(s.get 51),(s.get 53)]⟩,qC 12 54] K s:=(aW hf iz K s).trans (by kernel_rfl)
theorem cP:den prog ann 25 (.code r13::K) s=ah prog ann 25 none [] none [] [qC 55 12,qF 56 fun s=>binA prog .neq 33 (s.get 55) (.int .i64 0)] K s:=(ae hf _ K s).trans (by kernel_rfl)
theorem eT:den prog ann 25 (.code i3::K) s=ifV prog ann 25 56 i3t i3e K s (s.get 56):=aB hf (by kernel_rfl) K s
theorem dw:den prog ann 25 (.code i3t::K) s=den prog ann 25 (.code r14::.code .ret::K) s:=af hf (l:=[r14,.ret]) (by kernel_rfl) K s
theorem cY:den prog ann 25 (.code r14::K) s=ah prog ann 25 none [] none [] [qC 57 12,qC 6 57] K s:=(ae hf _ K s).trans (by kernel_rfl)
theorem ej:den prog ann 25 (.code i3e::K) s=den prog ann 25 (K) s:=af hf (l:=[]) (by kernel_rfl) K s
theorem eX:den prog ann 25 (.code r15::K) s=ah prog ann 25 none [] none [] [qC 58 0,qA 59 nilA 58,qA 60 (fieldA 2) 59,qF 61 fun s=>loadA false 1 s.m (s.get 60),⟨some 62,none,.c 0 (fun s=>(.fn 50 [] [])) fun s=>[(s.get 61)]⟩,qC 6 62] K s:=(ae hf _ K s).trans (by kernel_rfl)
theorem aE:den prog ann 25 (.code .ret::K) s=finM false [fun s=>some (s.get 6)] s:=(aO hf K s).trans (by kernel_rfl)
theorem aC (id:Nat) (K:List Item) (s:St):den prog ann 25 (.inBlock id::K) s=den prog ann 25 K s:=aR hf id K s
theorem aT (id:Nat) (K:List Item) (s:St):den prog ann 25 (.code (.exit id)::K) s=exitV prog ann 25 (exitTo id K) s:=bp hf id K s
theorem al (v0 v1 v2:AV) (m:Mem):denC prog ann 25 [v0,v1,v2] m=den prog ann 25 [.code b] ⟨[(0,v0),(1,v1),(2,v2)],63,m⟩:=(aJ hf (b:=b) (by kernel_rfl) (by kernel_rfl) (by kernel_rfl) m).trans (by kernel_rfl)
theorem aq:(ann 25).pure=false:=by kernel_rfl
attribute [simp] aV aH aI bu bP br aU aZ aL bH aX bg bd bo bC bA bM aY bQ bU bV cw cj bW bY cv cP eT dw cY ej eX aE aC aT aq
end
end aD
namespace ct
noncomputable section
variable (K : List Item) (s : St)
def b:Code:=(Tryz.f52.body).getD .skip
theorem hf:prog.funcs[52]?=some Tryz.f52:=by kernel_rfl
def r0:=aa b 0
def r1:=aa b 1
def k0:=ax b 0
def l0:=bw k0
def L0 (x2 x3 x4 x5 x13:AV) (m:Mem) (K:List Item):Option Res:=den prog ann 52 (.code l0::.inLoop l0::.inBlock 0::K) ⟨[(2,x2),(3,x3),(4,x4),(5,x5),(13,x13)],45,m⟩
def r2:=aa b 2
def i0:=ak b 0
def i0t:=az i0
def i0e:=aA i0
def k1:=ax b 1
def r3:=aa b 3
def r4:=aa b 4
def r5:=aa b 5
def i1:=ak b 1
def i1t:=az i1
def i1e:=aA i1
def r8:=aa b 8
def r9:=aa b 9
def r10:=aa b 10
theorem aV:den prog ann 52 (.code b::K) s=den prog ann 52 (.code r0::.code r1::.code k0::.code r8::.code r9::.code r10::.code .ret::K) s:=af hf (l:=[r0,r1,k0,r8,r9,r10,.ret]) (by kernel_rfl) K s
theorem aH:den prog ann 52 (.code r0::K) s=ah prog ann 52 none [] none [] [qA 5 frozenPtr 0,qF 6 fun s=>some (.int .i64 0)] K s:=(ae hf _ K s).trans (by kernel_rfl)
theorem aI:den prog ann 52 (.code r1::K) s=ah prog ann 52 none [] none [] [qF 12 fun s=>loadA false 1 s.m (s.get 1),⟨some 13,none,.r fun s=>(s.get 12)⟩] K s:=(ae hf _ K s).trans (by kernel_rfl)
theorem bu (K:List Item) (t:List (Nat×AV)) (m:Mem):den prog ann 52 (.code k0::K) ⟨t,45,m⟩=L0 (get t 2) (get t 3) (get t 4) (get t 5) (get t 13) m K:=ar hf (b:=l0) (id:=2) (l:=[2,3,4,5,13]) (by kernel_rfl) (by kernel_rfl) (by kernel_rfl) K _
theorem bP (K:List Item) (t:List (Nat×AV)) (m:Mem):den prog ann 52 (.inLoop l0::.inBlock 0::K) ⟨t,45,m⟩=L0 (get t 2) (get t 3) (get t 4) (get t 5) (get t 13) m K:=ay hf (id:=2) (l:=[2,3,4,5,13]) (by kernel_rfl) (by kernel_rfl) (.inBlock 0::K) _
theorem aM (x2 x3 x4 x5 x13:AV) (m:Mem) (K:List Item):L0 x2 x3 x4 x5 x13 m K=den prog ann 52 (.code r2::.code i0::.code k1::.inLoop l0::.inBlock 0::K) ⟨[(2,x2),(3,x3),(4,x4),(5,x5),(13,x13)],45,m⟩:=af hf (l:=[r2,i0,k1]) (by kernel_rfl) _ _
theorem br:den prog ann 52 (.code r2::K) s=ah prog ann 52 (some [2,3,4,5,13]) [] none [] [⟨some 14,none,.n fun s=>(s.get 13)⟩,qF 15 fun s=>extA (s.get 14) 0] K s:=(ae hf _ K s).trans (by kernel_rfl)
theorem aU:den prog ann 52 (.code i0::K) s=ifV prog ann 52 15 i0t i0e K s (s.get 15):=aB hf (by kernel_rfl) K s
theorem aZ:den prog ann 52 (.code i0t::K) s=den prog ann 52 (K) s:=af hf (l:=[]) (by kernel_rfl) K s
theorem aL:den prog ann 52 (.code i0e::K) s=den prog ann 52 (.code (.exit 0)::K) s:=af hf (l:=[(.exit 0)]) (by kernel_rfl) K s
theorem bH:den prog ann 52 (.code k1::K) s=den prog ann 52 (.code r3::.code r4::.code r5::.code i1::.inBlock 1::K) s:=aS hf (b:=blkOf k1) (l:=[r3,r4,r5,i1]) (by kernel_rfl) (by kernel_rfl) K s
theorem aX:den prog ann 52 (.code r3::K) s=ah prog ann 52 none [] none [8] [qF 16 fun s=>curA s.m (s.get 13),qF 17 fun s=>extA (s.get 16) 0,qF 18 fun s=>extA (s.get 16) 1,⟨some 8,none,.w false none fun s=>newPtr s.m page0⟩,qC 7 17,⟨none,none,.w false none fun s=>stA true 256 s.m (s.get 8) (s.get 18)⟩] K s:=(ae hf _ K s).trans (by kernel_rfl)
theorem bg:den prog ann 52 (.code r4::K) s=ah prog ann 52 none [] none [9] [qF 20 fun s=>loadA false 1 s.m (s.get 2),qC 21 7,qF 22 fun s=>lookP prog s.m 3 (.agg page0) (s.get 20) (s.get 21) true,qC 19 22,qF 23 fun s=>extA (s.get 19) 0,qF 24 fun s=>extA (s.get 19) 1,⟨some 9,none,.w false none fun s=>newPtr s.m page0⟩,⟨none,none,.w false none fun s=>stA true 256 s.m (s.get 9) (s.get 23)⟩,qC 10 24] K s:=(ae hf _ K s).trans (by kernel_rfl)
theorem bd:den prog ann 52 (.code r5::K) s=ah prog ann 52 none [] none [] [qA 25 (loadF true 256) 8,qA 26 (loadF true 256) 5,qB 27 (binA prog .eql 71) 25 26,qC 28 27,⟨some 29,some (28,true),.v fun s=>some (s.get 10)⟩,⟨some 30,some (28,true),.v fun s=>unA .not (s.get 29)⟩,qF 31 fun s=>pickA (s.get 28) (s.get 30) (.bool false)] K s:=(ae hf _ K s).trans (by kernel_rfl)
theorem bC:den prog ann 52 (.code i1::K) s=ifV prog ann 52 31 i1t i1e K s (s.get 31):=aB hf (by kernel_rfl) K s
theorem aY:den prog ann 52 (.code i1e::K) s=den prog ann 52 (K) s:=af hf (l:=[]) (by kernel_rfl) K s
theorem bQ:den prog ann 52 (.code r8::K) s=ah prog ann 52 (some [2,3,4,5]) [] none [] [qF 36 fun s=>loadA false 1 s.m (s.get 3),⟨some 37,none,.c 0 (fun s=>(s.get 36)) fun s=>[]⟩,qC 11 37] K s:=(ae hf _ K s).trans (by kernel_rfl)
theorem jX:bh (fun g=>(ann g).pure) (bj (ann 52) (bI r9)) (bN (ann 52) (bI r9)) (opsOf r9)=true:=aQ (an:=[0,0,0,0,0,0,19,127]) (by kernel_rfl) (by kernel_rfl)
theorem bU:den prog ann 52 (.code r9::K) s=ah prog ann 52 none [] (some 8) [3004038] [qF 38 fun s=>loadA false 1 s.m (s.get 2),qC 39 11,qF 40 fun s=>loadA false 1 s.m (s.get 4),qC 41 11,qA 42 (loadF true 256) 5,qA 43 (loadF true 256) 5,⟨none,none,.w false (some 6) fun s=>updM prog s.m 3 (s.get 38) (s.get 39) (s.get 42)⟩,⟨none,none,.w false (some 7) fun s=>updM prog s.m 3 (s.get 40) (s.get 41) (s.get 43)⟩] K s:=(aW hf jX K s).trans (by kernel_rfl)
theorem bV:den prog ann 52 (.code r10::K) s=ah prog ann 52 none [] none [] [qC 44 11,qC 6 44] K s:=(ae hf _ K s).trans (by kernel_rfl)
theorem aE:den prog ann 52 (.code .ret::K) s=finM false [fun s=>some (s.get 6)] s:=(aO hf K s).trans (by kernel_rfl)
theorem aC (id:Nat) (K:List Item) (s:St):den prog ann 52 (.inBlock id::K) s=den prog ann 52 K s:=aR hf id K s
theorem aT (id:Nat) (K:List Item) (s:St):den prog ann 52 (.code (.exit id)::K) s=exitV prog ann 52 (exitTo id K) s:=bp hf id K s
theorem al (v0 v1 v2 v3 v4:AV) (m:Mem):denC prog ann 52 [v0,v1,v2,v3,v4] m=den prog ann 52 [.code b] ⟨[(0,v0),(1,v1),(2,v2),(3,v3),(4,v4)],45,m⟩:=(aJ hf (b:=b) (by kernel_rfl) (by kernel_rfl) (by kernel_rfl) m).trans (by kernel_rfl)
theorem aq:(ann 52).pure=false:=by kernel_rfl
attribute [simp] aV aH aI bu bP br aU aZ aL bH aX bg bd bC aY bQ bU bV aE aC aT aq
end
end ct
namespace bR
noncomputable section
variable (K : List Item) (s : St)
def b:Code:=(Tryz.f30.body).getD .skip
theorem hf:prog.funcs[30]?=some Tryz.f30:=by kernel_rfl
def r0:=aa b 0
def r1:=aa b 1
def k0:=ax b 0
def l0:=bw k0
def L0 (x0 x1:AV) (m:Mem) (K:List Item):Option Res:=den prog ann 30 (.code l0::.inLoop l0::.inBlock 0::K) ⟨[(0,x0),(1,x1)],18,m⟩
def k1:=ax b 1
def r3:=aa b 3
def r4:=aa b 4
def i0:=ak b 0
def i0t:=az i0
def i0e:=aA i0
def r5:=aa b 5
def r2:=aa b 2
theorem aV:den prog ann 30 (.code b::K) s=den prog ann 30 (.code r0::.code r1::.code k0::K) s:=af hf (l:=[r0,r1,k0]) (by kernel_rfl) K s
theorem aH:den prog ann 30 (.code r0::K) s=ah prog ann 30 none [] none [] [qF 2 fun s=>some (.int .i64 0)] K s:=(ae hf _ K s).trans (by kernel_rfl)
theorem aI:den prog ann 30 (.code r1::K) s=ah prog ann 30 none [] none [] [qF 5 fun s=>loadA false 1 s.m (s.get 0),qF 6 fun s=>binA prog .add 3 (s.get 5) (.int .i64 1),⟨none,none,.w false none fun s=>stA false 1 s.m (s.get 0) (s.get 6)⟩] K s:=(ae hf _ K s).trans (by kernel_rfl)
theorem bu (K:List Item) (t:List (Nat×AV)) (m:Mem):den prog ann 30 (.code k0::K) ⟨t,18,m⟩=L0 (get t 0) (get t 1) m K:=ar hf (b:=l0) (id:=3) (l:=[0,1]) (by kernel_rfl) (by kernel_rfl) (by kernel_rfl) K _
theorem bP (K:List Item) (t:List (Nat×AV)) (m:Mem):den prog ann 30 (.inLoop l0::.inBlock 0::K) ⟨t,18,m⟩=L0 (get t 0) (get t 1) m K:=ay hf (id:=3) (l:=[0,1]) (by kernel_rfl) (by kernel_rfl) (.inBlock 0::K) _
theorem aM (x0 x1:AV) (m:Mem) (K:List Item):L0 x0 x1 m K=den prog ann 30 (.code k1::.code r2::.inLoop l0::.inBlock 0::K) ⟨[(0,x0),(1,x1)],18,m⟩:=af hf (l:=[k1,r2]) (by kernel_rfl) _ _
theorem bH:den prog ann 30 (.code k1::K) s=den prog ann 30 (.code r3::.code r4::.code i0::.inBlock 1::K) s:=aS hf (b:=blkOf k1) (l:=[r3,r4,i0]) (by kernel_rfl) (by kernel_rfl) K s
theorem aX:den prog ann 30 (.code r3::K) s=ah prog ann 30 (some [0,1]) [] none [3] [qF 10 fun s=>loadA false 1 s.m (s.get 1),qF 11 fun s=>loadA false 1 s.m (s.get 0),qF 12 fun s=>lookP prog s.m 3 (.agg page0) (s.get 10) (s.get 11) true,qC 9 12,qF 13 fun s=>extA (s.get 9) 0,qF 14 fun s=>extA (s.get 9) 1,⟨some 3,none,.w false none fun s=>newPtr s.m page0⟩,⟨none,none,.w false none fun s=>stA true 256 s.m (s.get 3) (s.get 13)⟩,qC 4 14] K s:=(ae hf _ K s).trans (by kernel_rfl)
theorem bg:den prog ann 30 (.code r4::K) s=ah prog ann 30 none [] none [] [qC 15 4,qA 16 (unA .not) 15] K s:=(ae hf _ K s).trans (by kernel_rfl)
theorem aU:den prog ann 30 (.code i0::K) s=ifV prog ann 30 16 i0t i0e K s (s.get 16):=aB hf (by kernel_rfl) K s
theorem aZ:den prog ann 30 (.code i0t::K) s=den prog ann 30 (.code r5::.code .ret::K) s:=af hf (l:=[r5,.ret]) (by kernel_rfl) K s
theorem bd:den prog ann 30 (.code r5::K) s=ah prog ann 30 none [] none [] [qF 17 fun s=>loadA false 1 s.m (s.get 0),qC 2 17] K s:=(ae hf _ K s).trans (by kernel_rfl)
theorem aL:den prog ann 30 (.code i0e::K) s=den prog ann 30 (K) s:=af hf (l:=[]) (by kernel_rfl) K s
theorem br:den prog ann 30 (.code r2::K) s=ah prog ann 30 (some [0,1]) [] none [] [qF 7 fun s=>loadA false 1 s.m (s.get 0),qF 8 fun s=>binA prog .add 3 (s.get 7) (.int .i64 1),⟨none,none,.w false none fun s=>stA false 1 s.m (s.get 0) (s.get 8)⟩] K s:=(ae hf _ K s).trans (by kernel_rfl)
theorem aE:den prog ann 30 (.code .ret::K) s=finM false [fun s=>some (s.get 2)] s:=(aO hf K s).trans (by kernel_rfl)
theorem aC (id:Nat) (K:List Item) (s:St):den prog ann 30 (.inBlock id::K) s=den prog ann 30 K s:=aR hf id K s
theorem al (v0 v1:AV) (m:Mem):denC prog ann 30 [v0,v1] m=den prog ann 30 [.code b] ⟨[(0,v0),(1,v1)],18,m⟩:=(aJ hf (b:=b) (by kernel_rfl) (by kernel_rfl) (by kernel_rfl) m).trans (by kernel_rfl)
theorem aq:(ann 30).pure=false:=by kernel_rfl
attribute [simp] aV aH aI bu bP bH aX bg aU aZ bd aL br aE aC aq
end
end bR
namespace eh
noncomputable section
variable (K : List Item) (s : St)
def b:Code:=(Tryz.f31.body).getD .skip
theorem hf:prog.funcs[31]?=some Tryz.f31:=by kernel_rfl
def r0:=aa b 0
def r1:=aa b 1
def r2:=aa b 2
def r3:=aa b 3
def k0:=ax b 0
def l0:=bw k0
def L0 (x9 x10 x11 x12:AV) (m:Mem) (K:List Item):Option Res:=den prog ann 31 (.code l0::.inLoop l0::.inBlock 0::K) ⟨[(9,x9),(10,x10),(11,x11),(12,x12)],75,m⟩
def r4:=aa b 4
def i0:=ak b 0
def i0t:=az i0
def i0e:=aA i0
def k1:=ax b 1
def r5:=aa b 5
def r6:=aa b 6
def k2:=ax b 2
def l2:=bw k2
def L2 (x9 x10 x11 x12 x13 x28 x29 x30:AV) (m:Mem) (K:List Item):Option Res:=den prog ann 31 (.code l2::.inLoop l2::.inBlock 2::K) ⟨[(9,x9),(10,x10),(11,x11),(12,x12),(13,x13),(28,x28),(29,x29),(30,x30)],75,m⟩
def r7:=aa b 7
def i1:=ak b 1
def i1t:=az i1
def i1e:=aA i1
def k3:=ax b 3
def r8:=aa b 8
def r9:=aa b 9
def r10:=aa b 10
def r11:=aa b 11
def i2:=ak b 2
def i2t:=az i2
def i2e:=aA i2
def r12:=aa b 12
def r13:=aa b 13
def r14:=aa b 14
def k4:=ax b 4
def r23:=aa b 23
theorem aV:den prog ann 31 (.code b::K) s=den prog ann 31 (.code r0::.code r1::.code r2::.code r3::.code k0::.code r23::.code .ret::K) s:=af hf (l:=[r0,r1,r2,r3,k0,r23,.ret]) (by kernel_rfl) K s
theorem aH:den prog ann 31 (.code r0::K) s=ah prog ann 31 none [] none [] [qA 4 frozenPtr 1,qA 5 frozenPtr 2,qF 6 fun s=>some (.int .i64 0),qF 7 fun s=>some (.nilm),qF 8 fun s=>some (.nilm)] K s:=(ae hf _ K s).trans (by kernel_rfl)
theorem aI:den prog ann 31 (.code r1::K) s=ah prog ann 31 none [] none [9,10] [⟨some 20,none,.w false none fun s=>some (.map s.m.nx,s.m.new (.map 0 [] []))⟩,⟨some 21,none,.w false none fun s=>some (.map s.m.nx,s.m.new (.map 0 [] []))⟩,⟨some 9,none,.w false none fun s=>newPtr s.m [.nilm]⟩,⟨some 10,none,.w false none fun s=>newPtr s.m [.nilm]⟩,⟨none,none,.w false none fun s=>stA false 1 s.m (s.get 9) (s.get 20)⟩,⟨none,none,.w false none fun s=>stA false 1 s.m (s.get 10) (s.get 21)⟩] K s:=(ae hf _ K s).trans (by kernel_rfl)
theorem br:den prog ann 31 (.code r2::K) s=ah prog ann 31 none [] none [] [qF 22 fun s=>some (.fn 52 [] [(s.get 4),(s.get 9),(s.get 5),(s.get 10)]),qC 11 22] K s:=(ae hf _ K s).trans (by kernel_rfl)
theorem aX:den prog ann 31 (.code r3::K) s=ah prog ann 31 none [] none [] [qC 23 0,⟨some 24,none,.c 0 (fun s=>(.fn 53 [] [])) fun s=>[(s.get 23)]⟩,⟨some 12,none,.w false none fun s=>newPtr s.m [.nils]⟩,⟨none,none,.w false none fun s=>stA false 1 s.m (s.get 12) (s.get 24)⟩] K s:=(ae hf _ K s).trans (by kernel_rfl)
theorem bu (K:List Item) (t:List (Nat×AV)) (m:Mem):den prog ann 31 (.code k0::K) ⟨t,75,m⟩=L0 (get t 9) (get t 10) (get t 11) (get t 12) m K:=ar hf (b:=l0) (id:=4) (l:=[9,10,11,12]) (by kernel_rfl) (by kernel_rfl) (by kernel_rfl) K _
theorem aM (x9 x10 x11 x12:AV) (m:Mem) (K:List Item):L0 x9 x10 x11 x12 m K=den prog ann 31 (.code r4::.code i0::.code k1::.inLoop l0::.inBlock 0::K) ⟨[(9,x9),(10,x10),(11,x11),(12,x12)],75,m⟩:=af hf (l:=[r4,i0,k1]) (by kernel_rfl) _ _
theorem bg:den prog ann 31 (.code r4::K) s=ah prog ann 31 (some [9,10,11,12]) [] none [] [qF 25 fun s=>loadA false 1 s.m (s.get 12),qA 26 lenSl 25,qF 27 fun s=>binA prog .gtr 3 (s.get 26) (.int .i64 0)] K s:=(ae hf _ K s).trans (by kernel_rfl)
theorem aU:den prog ann 31 (.code i0::K) s=ifV prog ann 31 27 i0t i0e K s (s.get 27):=aB hf (by kernel_rfl) K s
theorem aZ:den prog ann 31 (.code i0t::K) s=den prog ann 31 (K) s:=af hf (l:=[]) (by kernel_rfl) K s
theorem bH:den prog ann 31 (.code k1::K) s=den prog ann 31 (.code r5::.code r6::.code k2::.code r11::.code i2::.code r13::.code r14::.code k4::.inBlock 1::K) s:=aS hf (b:=blkOf k1) (l:=[r5,r6,k2,r11,i2,r13,r14,k4]) (by kernel_rfl) (by kernel_rfl) K s
theorem bd:den prog ann 31 (.code r5::K) s=ah prog ann 31 none [] none [] [qF 13 fun s=>some (.nils)] K s:=(ae hf _ K s).trans (by kernel_rfl)
theorem bo:den prog ann 31 (.code r6::K) s=ah prog ann 31 none [] none [] [qF 28 fun s=>loadA false 1 s.m (s.get 12),qA 29 lenSl 28,qF 30 fun s=>some (.int .i64 0)] K s:=(ae hf _ K s).trans (by kernel_rfl)
theorem dL (K:List Item) (t:List (Nat×AV)) (m:Mem):den prog ann 31 (.code k2::K) ⟨t,75,m⟩=L2 (get t 9) (get t 10) (get t 11) (get t 12) (get t 13) (get t 28) (get t 29) (get t 30) m K:=ar hf (b:=l2) (id:=7) (l:=[9,10,11,12,13,28,29,30]) (by kernel_rfl) (by kernel_rfl) (by kernel_rfl) K _
theorem ie (K:List Item) (t:List (Nat×AV)) (m:Mem):den prog ann 31 (.inLoop l2::.inBlock 2::K) ⟨t,75,m⟩=L2 (get t 9) (get t 10) (get t 11) (get t 12) (get t 13) (get t 28) (get t 29) (get t 30) m K:=ay hf (id:=7) (l:=[9,10,11,12,13,28,29,30]) (by kernel_rfl) (by kernel_rfl) (.inBlock 2::K) _
theorem dt (x9 x10 x11 x12 x13 x28 x29 x30:AV) (m:Mem) (K:List Item):L2 x9 x10 x11 x12 x13 x28 x29 x30 m K=den prog ann 31 (.code r7::.code i1::.code k3::.code r10::.inLoop l2::.inBlock 2::K) ⟨[(9,x9),(10,x10),(11,x11),(12,x12),(13,x13),(28,x28),(29,x29),(30,x30)],75,m⟩:=af hf (l:=[r7,i1,k3,r10]) (by kernel_rfl) _ _
theorem bM:den prog ann 31 (.code r7::K) s=ah prog ann 31 (some [9,10,11,12,13,28,29,30]) [] none [] [qB 31 (binA prog .lss 3) 30 29] K s:=(ae hf _ K s).trans (by kernel_rfl)
theorem bC:den prog ann 31 (.code i1::K) s=ifV prog ann 31 31 i1t i1e K s (s.get 31):=aB hf (by kernel_rfl) K s
theorem bA:den prog ann 31 (.code i1t::K) s=den prog ann 31 (K) s:=af hf (l:=[]) (by kernel_rfl) K s
theorem aY:den prog ann 31 (.code i1e::K) s=den prog ann 31 (.code (.exit 2)::K) s:=af hf (l:=[(.exit 2)]) (by kernel_rfl) K s
theorem fy:den prog ann 31 (.code k3::K) s=den prog ann 31 (.code r8::.code r9::.inBlock 3::K) s:=aS hf (b:=blkOf k3) (l:=[r8,r9]) (by kernel_rfl) (by kernel_rfl) K s
theorem bQ:den prog ann 31 (.code r8::K) s=ah prog ann 31 none [] none [15] [qB 32 (idxSl 256) 28 30,qF 33 fun s=>loadA true 256 s.m (s.get 32),⟨some 15,none,.w false none fun s=>newPtr s.m page0⟩,⟨none,none,.w false none fun s=>stA true 256 s.m (s.get 15) (s.get 33)⟩] K s:=(ae hf _ K s).trans (by kernel_rfl)
theorem bU:den prog ann 31 (.code r9::K) s=ah prog ann 31 none [] none [] [qC 34 13,qC 35 11,qA 36 (loadF true 256) 15,⟨some 37,none,.c 0 (fun s=>(s.get 35)) fun s=>[(s.get 36)]⟩,qF 38 fun s=>bslF 1 (bslA 1 1 [.int .i64 0] [(0,(s.get 37))]),⟨some 39,none,.w false none fun s=>appendA 1 8 s.m (s.get 34) (s.get 38)⟩,qC 13 39] K s:=(ae hf _ K s).trans (by kernel_rfl)
theorem bV:den prog ann 31 (.code r10::K) s=ah prog ann 31 (some [9,10,11,12,13,28,29,30]) [] none [] [qF 40 fun s=>binA prog .add 3 (s.get 30) (.int .i64 1),qC 30 40] K s:=(ae hf _ K s).trans (by kernel_rfl)
theorem bW:den prog ann 31 (.code r11::K) s=ah prog ann 31 (some [9,10,11,12,13]) [] none [] [qC 41 13,qA 42 lenSl 41,qF 43 fun s=>binA prog .eql 3 (s.get 42) (.int .i64 1)] K s:=(ae hf _ K s).trans (by kernel_rfl)
theorem cw:den prog ann 31 (.code i2::K) s=ifV prog ann 31 43 i2t i2e K s (s.get 43):=aB hf (by kernel_rfl) K s
theorem cj:den prog ann 31 (.code i2t::K) s=den prog ann 31 (.code r12::.code .ret::K) s:=af hf (l:=[r12,.ret]) (by kernel_rfl) K s
theorem iz:bh (fun g=>(ann g).pure) (bj (ann 31) (bI r12)) (bN (ann 31) (bI r12)) (opsOf r12)=true:=aQ (an:=[0,1,3,0,0,7,47,127]) (by kernel_rfl) (by kernel_rfl)
theorem cv:den prog ann 31 (.code r12::K) s=ah prog ann 31 none [] (some 8) [] [qC 44 13,qF 45 fun s=>idxSl 1 (s.get 44) (.int .i64 0),qF 46 fun s=>loadA false 1 s.m (s.get 45),qA 47 (loadF false 1) 9,qA 48 (loadF false 1) 10,qC 6 46,qC 7 47,qC 8 48] K s:=(aW hf iz K s).trans (by kernel_rfl)
theorem aE:den prog ann 31 (.code .ret::K) s=finM false [fun s=>some (s.get 6),fun s=>some (s.get 7),fun s=>some (s.get 8)] s:=(aO hf K s).trans (by kernel_rfl)
theorem aC (id:Nat) (K:List Item) (s:St):den prog ann 31 (.inBlock id::K) s=den prog ann 31 K s:=aR hf id K s
theorem aT (id:Nat) (K:List Item) (s:St):den prog ann 31 (.code (.exit id)::K) s=exitV prog ann 31 (exitTo id K) s:=bp hf id K s
theorem al (v0 v1 v2:AV) (m:Mem):denC prog ann 31 [v0,v1,v2] m=den prog ann 31 [.code b] ⟨[(0,v0),(1,v1),(2,v2)],75,m⟩:=(aJ hf (b:=b) (by kernel_rfl) (by kernel_rfl) (by kernel_rfl) m).trans (by kernel_rfl)
theorem aq:(ann 31).pure=false:=by kernel_rfl
attribute [simp] aV aH aI br aX bu bg aU aZ bH bd bo dL ie bM bC bA aY fy bQ bU bV bW cw cj cv aE aC aT aq
end
end eh
namespace bq
noncomputable section
variable (K : List Item) (s : St)
def b:Code:=(Tryz.f10.body).getD .skip
theorem hf:prog.funcs[10]?=some Tryz.f10:=by kernel_rfl
def r0:=aa b 0
def r1:=aa b 1
def i0:=ak b 0
def i0t:=az i0
def i0e:=aA i0
def r3:=aa b 3
def r4:=aa b 4
def k0:=ax b 0
def l0:=bw k0
def L0 (x0 x3 x26:AV) (m:Mem) (K:List Item):Option Res:=den prog ann 10 (.code l0::.inLoop l0::.inBlock 0::K) ⟨[(0,x0),(3,x3),(26,x26)],83,m⟩
def r5:=aa b 5
def i1:=ak b 1
def i1t:=az i1
def i1e:=aA i1
def k1:=ax b 1
def r8:=aa b 8
def r9:=aa b 9
def r10:=aa b 10
def r11:=aa b 11
def r12:=aa b 12
def r13:=aa b 13
def i2:=ak b 2
def i2t:=az i2
def i2e:=aA i2
def r14:=aa b 14
def r15:=aa b 15
def r16:=aa b 16
def r17:=aa b 17
theorem aV:den prog ann 10 (.code b::K) s=den prog ann 10 (.code r0::.code r1::.code i0::.code r3::.code r4::.code k0::.code r8::.code r9::.code r10::.code r11::.code r12::.code r13::.code i2::.code r16::.code r17::.code .ret::K) s:=af hf (l:=[r0,r1,i0,r3,r4,k0,r8,r9,r10,r11,r12,r13,i2,r16,r17,.ret]) (by kernel_rfl) K s
theorem aH:den prog ann 10 (.code r0::K) s=ah prog ann 10 none [] none [] [qF 2 fun s=>some (.int .i64 0)] K s:=(ae hf _ K s).trans (by kernel_rfl)
theorem aI:den prog ann 10 (.code r1::K) s=ah prog ann 10 none [] none [] [qC 13 0,⟨some 14,none,.c 0 (fun s=>(.fn 27 [] [])) fun s=>[(s.get 13)]⟩,qA 15 (unA .not) 14] K s:=(ae hf _ K s).trans (by kernel_rfl)
theorem aU:den prog ann 10 (.code i0::K) s=ifV prog ann 10 15 i0t i0e K s (s.get 15):=aB hf (by kernel_rfl) K s
theorem aL:den prog ann 10 (.code i0e::K) s=den prog ann 10 (K) s:=af hf (l:=[]) (by kernel_rfl) K s
theorem aX:den prog ann 10 (.code r3::K) s=ah prog ann 10 none [608000,610000] none [3] [qC 16 0,qA 17 nilA 16,qA 18 (fieldA 7) 17,qA 19 (fieldA 1) 18,qF 20 fun s=>loadA false 1 s.m (s.get 19),⟨some 21,none,.c 0 (fun s=>(.fn 28 [] [])) fun s=>[(s.get 20)]⟩,⟨some 3,none,.w false none fun s=>newPtr s.m [.nilm]⟩,⟨none,none,.w false none fun s=>stA false 1 s.m (s.get 3) (s.get 21)⟩] K s:=(ae hf _ K s).trans (by kernel_rfl)
theorem bg:den prog ann 10 (.code r4::K) s=ah prog ann 10 none [] none [] [qC 22 0,qA 23 nilA 22,qA 24 (fieldA 10) 23,qF 25 fun s=>loadA false 1 s.m (s.get 24),⟨some 26,none,.r fun s=>(s.get 25)⟩] K s:=(ae hf _ K s).trans (by kernel_rfl)
theorem bu (K:List Item) (t:List (Nat×AV)) (m:Mem):den prog ann 10 (.code k0::K) ⟨t,83,m⟩=L0 (get t 0) (get t 3) (get t 26) m K:=ar hf (b:=l0) (id:=5) (l:=[0,3,26]) (by kernel_rfl) (by kernel_rfl) (by kernel_rfl) K _
theorem aM (x0 x3 x26:AV) (m:Mem) (K:List Item):L0 x0 x3 x26 m K=den prog ann 10 (.code r5::.code i1::.code k1::.inLoop l0::.inBlock 0::K) ⟨[(0,x0),(3,x3),(26,x26)],83,m⟩:=af hf (l:=[r5,i1,k1]) (by kernel_rfl) _ _
theorem bd:den prog ann 10 (.code r5::K) s=ah prog ann 10 (some [0,3,26]) [] none [] [⟨some 27,none,.n fun s=>(s.get 26)⟩,qF 28 fun s=>extA (s.get 27) 0] K s:=(ae hf _ K s).trans (by kernel_rfl)
theorem bC:den prog ann 10 (.code i1::K) s=ifV prog ann 10 28 i1t i1e K s (s.get 28):=aB hf (by kernel_rfl) K s
theorem aY:den prog ann 10 (.code i1e::K) s=den prog ann 10 (.code (.exit 0)::K) s:=af hf (l:=[(.exit 0)]) (by kernel_rfl) K s
theorem bQ:den prog ann 10 (.code r8::K) s=ah prog ann 10 (some [0,3]) [] none [] [⟨some 6,none,.w false none fun s=>newPtr s.m [.int .i64 0]⟩,⟨none,none,.w false none fun s=>stA false 1 s.m (s.get 6) (.int .i64 1)⟩] K s:=(ae hf _ K s).trans (by kernel_rfl)
theorem bU:den prog ann 10 (.code r9::K) s=ah prog ann 10 none [] none [] [qF 35 fun s=>some (.fn 30 [] [(s.get 6),(s.get 3)]),qC 7 35] K s:=(ae hf _ K s).trans (by kernel_rfl)
theorem fA:bh (fun g=>(ann g).pure) (bj (ann 10) (bI r10)) (bN (ann 10) (bI r10)) (opsOf r10)=true:=aQ (an:=[0,1,3,7,0,16,48,112,240,0,1023,2047,4095,4095,4095,8191,49151,131071]) (by kernel_rfl) (by kernel_rfl)
theorem bV:den prog ann 10 (.code r10::K) s=ah prog ann 10 none [] (some 18) [] [qC 37 0,qA 38 nilA 37,qA 39 (fieldA 9) 38,qF 40 fun s=>loadA false 1 s.m (s.get 39),qC 41 0,qA 42 nilA 41,qA 43 (fieldA 7) 42,qA 44 (fieldA 1) 43,qF 45 fun s=>loadA false 1 s.m (s.get 44),qC 46 7,⟨some 47,none,.c 0 (fun s=>(.fn 31 [] [])) fun s=>[(s.get 40),(s.get 45),(s.get 46)]⟩,qC 36 47,qF 48 fun s=>extA (s.get 36) 0,qF 49 fun s=>extA (s.get 36) 1,qF 50 fun s=>extA (s.get 36) 2,qC 8 48,qC 9 49,qC 10 50] K s:=(aW hf fA K s).trans (by kernel_rfl)
theorem bW:den prog ann 10 (.code r11::K) s=ah prog ann 10 none [] none [11] [qC 51 0,qA 52 nilA 51,qA 53 (fieldA 5) 52,qA 54 (fieldA 0) 53,qF 55 fun s=>loadA false 1 s.m (s.get 54),qF 56 fun s=>binA prog .add 76 (s.get 55) (.int .u64 1),qC 57 8,qF 58 fun s=>bldA (plc [(0,1),(1,1)]) [.int .u64 0,.int .i64 0] [(0,(s.get 56)),(1,(s.get 57))],⟨some 11,none,.w false none fun s=>newPtr s.m [.int .u64 0,.int .i64 0]⟩,⟨none,none,.w false none fun s=>stA true 2 s.m (s.get 11) (s.get 58)⟩] K s:=(ae hf _ K s).trans (by kernel_rfl)
theorem cv:den prog ann 10 (.code r12::K) s=ah prog ann 10 none [] none [] [qC 59 0,qC 60 10,qA 61 (loadF true 2) 11,⟨some 62,none,.c 0 (fun s=>(.fn 25 [] [])) fun s=>[(s.get 59),(s.get 60),(s.get 61)]⟩,qC 12 62] K s:=(ae hf _ K s).trans (by kernel_rfl)
theorem cP:den prog ann 10 (.code r13::K) s=ah prog ann 10 none [] none [] [qC 63 12,qF 64 fun s=>binA prog .neq 33 (s.get 63) (.int .i64 0)] K s:=(ae hf _ K s).trans (by kernel_rfl)
theorem cw:den prog ann 10 (.code i2::K) s=ifV prog ann 10 64 i2t i2e K s (s.get 64):=aB hf (by kernel_rfl) K s
theorem cj:den prog ann 10 (.code i2t::K) s=den prog ann 10 (.code r14::.code r15::.code .ret::K) s:=af hf (l:=[r14,r15,.ret]) (by kernel_rfl) K s
theorem cY:den prog ann 10 (.code r14::K) s=ah prog ann 10 none [] none [] [qC 65 0,qA 66 nilA 65,qA 67 (fieldA 1) 66,⟨none,none,.w false none fun s=>stA false 1 s.m (s.get 67) (.bool true)⟩] K s:=(ae hf _ K s).trans (by kernel_rfl)
theorem eX:den prog ann 10 (.code r15::K) s=ah prog ann 10 none [] none [] [qC 68 12,qC 2 68] K s:=(ae hf _ K s).trans (by kernel_rfl)
theorem bY:den prog ann 10 (.code i2e::K) s=den prog ann 10 (K) s:=af hf (l:=[]) (by kernel_rfl) K s
theorem AJ:bh (fun g=>(ann g).pure) (bj (ann 10) (bI r16)) (bN (ann 10) (bI r16)) (opsOf r16)=true:=aQ (an:=[0,0,0,0,8,24,56,120,0,504,253,1277,3325,8191,16383,32767]) (by kernel_rfl) (by kernel_rfl)
theorem dg:den prog ann 10 (.code r16::K) s=ah prog ann 10 none [] (some 16) [] [qC 69 0,qC 70 0,qA 71 (loadF true 2) 11,qC 72 0,qA 73 nilA 72,qA 74 (fieldA 9) 73,qF 75 fun s=>loadA false 1 s.m (s.get 74),⟨some 76,none,.c 0 (fun s=>(.fn 26 [] [])) fun s=>[(s.get 75)]⟩,qC 77 9,qF 78 fun s=>bldA (plc [(0,1),(1,1)]) [.nilm,.nilm] [(0,(s.get 76)),(1,(s.get 77))],qA 79 nilA 69,qA 80 (fieldA 5) 79,⟨none,none,.w false (some 12) fun s=>stA true 2 s.m (s.get 80) (s.get 71)⟩,qA 81 nilA 70,qA 82 (fieldA 7) 81,⟨none,none,.w false (some 15) fun s=>stA true 2 s.m (s.get 82) (s.get 78)⟩] K s:=(aW hf AJ K s).trans (by kernel_rfl)
theorem gA:den prog ann 10 (.code r17::K) s=ah prog ann 10 none [] none [] [qF 2 fun s=>some (.int .i64 0)] K s:=(ae hf _ K s).trans (by kernel_rfl)
theorem aE:den prog ann 10 (.code .ret::K) s=finM false [fun s=>some (s.get 2)] s:=(aO hf K s).trans (by kernel_rfl)
theorem aT (id:Nat) (K:List Item) (s:St):den prog ann 10 (.code (.exit id)::K) s=exitV prog ann 10 (exitTo id K) s:=bp hf id K s
theorem al (v0:AV) (m:Mem):denC prog ann 10 [v0] m=den prog ann 10 [.code b] ⟨[(0,v0)],83,m⟩:=(aJ hf (b:=b) (by kernel_rfl) (by kernel_rfl) (by kernel_rfl) m).trans (by kernel_rfl)
theorem aq:(ann 10).pure=false:=by kernel_rfl
attribute [simp] aV aH aI aU aL aX bg bu bd bC aY bQ bU bV bW cv cP cw cj cY eX bY dg gA aE aT aq
end
end bq
namespace ck
noncomputable section
variable (K : List Item) (s : St)
def b:Code:=(Tryz.f7.body).getD .skip
theorem hf:prog.funcs[7]?=some Tryz.f7:=by kernel_rfl
def r0:=aa b 0
def k0:=ax b 0
def r1:=aa b 1
def i0:=ak b 0
def i0t:=az i0
def i0e:=aA i0
def r3:=aa b 3
def i1:=ak b 1
def i1t:=az i1
def i1e:=aA i1
def r5:=aa b 5
def r6:=aa b 6
def r7:=aa b 7
def i2:=ak b 2
def i2t:=az i2
def i2e:=aA i2
def r9:=aa b 9
def r10:=aa b 10
def r11:=aa b 11
def i3:=ak b 3
def i3t:=az i3
def i3e:=aA i3
def r12:=aa b 12
def r13:=aa b 13
def r14:=aa b 14
def i4:=ak b 4
def i4t:=az i4
def i4e:=aA i4
def r16:=aa b 16
def r17:=aa b 17
theorem aV:den prog ann 7 (.code b::K) s=den prog ann 7 (.code r0::.code k0::.code r5::.code r6::.code r7::.code i2::.code r9::.code r10::.code r11::.code i3::.code r16::.code r17::.code .ret::K) s:=af hf (l:=[r0,k0,r5,r6,r7,i2,r9,r10,r11,i3,r16,r17,.ret]) (by kernel_rfl) K s
theorem aH:den prog ann 7 (.code r0::K) s=ah prog ann 7 none [] none [] [qF 2 fun s=>some (.nilp),qF 3 fun s=>some (.int .i64 0)] K s:=(ae hf _ K s).trans (by kernel_rfl)
theorem bu:den prog ann 7 (.code k0::K) s=den prog ann 7 (.code r1::.code i0::.inBlock 0::K) s:=aS hf (b:=blkOf k0) (l:=[r1,i0]) (by kernel_rfl) (by kernel_rfl) K s
theorem aI:den prog ann 7 (.code r1::K) s=ah prog ann 7 none [] none [] [qC 11 0,⟨some 12,none,.c 0 (fun s=>(.fn 22 [] [])) fun s=>[(s.get 11)]⟩,qA 13 (unA .not) 12,qC 10 13] K s:=(ae hf _ K s).trans (by kernel_rfl)
theorem aU:den prog ann 7 (.code i0::K) s=ifV prog ann 7 10 i0t i0e K s (s.get 10):=aB hf (by kernel_rfl) K s
theorem aL:den prog ann 7 (.code i0e::K) s=den prog ann 7 (.code r3::.code i1::K) s:=af hf (l:=[r3,i1]) (by kernel_rfl) K s
theorem aX:den prog ann 7 (.code r3::K) s=ah prog ann 7 none [] none [] [qC 15 0,qA 16 nilA 15,qA 17 (fieldA 1) 16,qF 18 fun s=>loadA false 1 s.m (s.get 17),qC 14 18] K s:=(ae hf _ K s).trans (by kernel_rfl)
theorem bC:den prog ann 7 (.code i1::K) s=ifV prog ann 7 14 i1t i1e K s (s.get 14):=aB hf (by kernel_rfl) K s
theorem aY:den prog ann 7 (.code i1e::K) s=den prog ann 7 (K) s:=af hf (l:=[]) (by kernel_rfl) K s
theorem bd:den prog ann 7 (.code r5::K) s=ah prog ann 7 (some [0]) [] none [4,5] [qC 20 0,⟨some 21,none,.c 0 (fun s=>(.fn 23 [] [])) fun s=>[(s.get 20)]⟩,qC 19 21,qF 22 fun s=>extA (s.get 19) 0,qF 23 fun s=>extA (s.get 19) 1,qF 24 fun s=>extA (s.get 19) 2,⟨some 4,none,.w false none fun s=>newPtr s.m [.int .u64 0,.int .i64 0]⟩,⟨some 5,none,.w false none fun s=>newPtr s.m [.nilm,.nilm]⟩,⟨none,none,.w false none fun s=>stA true 2 s.m (s.get 4) (s.get 22)⟩,⟨none,none,.w false none fun s=>stA true 2 s.m (s.get 5) (s.get 23)⟩,qC 6 24] K s:=(ae hf _ K s).trans (by kernel_rfl)
theorem bo:den prog ann 7 (.code r6::K) s=ah prog ann 7 none [] none [] [qC 25 6,qA 26 (unA .not) 25,qC 27 26,⟨some 28,some (27,true),.v fun s=>some (s.get 0)⟩,⟨some 29,some (27,true),.c 0 (fun s=>(.fn 24 [] [])) fun s=>[(s.get 28)]⟩,qF 30 fun s=>pickA (s.get 27) (s.get 29) (.bool false),qC 7 30] K s:=(ae hf _ K s).trans (by kernel_rfl)
theorem bM:den prog ann 7 (.code r7::K) s=ah prog ann 7 none [] none [] [qC 31 6,qA 32 (unA .not) 31,qC 33 32,⟨some 34,some (33,true),.v fun s=>some (s.get 7)⟩,⟨some 35,some (33,true),.v fun s=>unA .not (s.get 34)⟩,qF 36 fun s=>pickA (s.get 33) (s.get 35) (.bool false)] K s:=(ae hf _ K s).trans (by kernel_rfl)
theorem cw:den prog ann 7 (.code i2::K) s=ifV prog ann 7 36 i2t i2e K s (s.get 36):=aB hf (by kernel_rfl) K s
theorem bY:den prog ann 7 (.code i2e::K) s=den prog ann 7 (K) s:=af hf (l:=[]) (by kernel_rfl) K s
theorem bU:den prog ann 7 (.code r9::K) s=ah prog ann 7 none [] none [] [qC 37 0,qA 38 nilA 37,qA 39 (fieldA 4) 38,qF 40 fun s=>loadA false 1 s.m (s.get 39),qF 41 fun s=>binA prog .add 3 (s.get 40) (.int .i64 1),qA 42 nilA 37,qA 43 (fieldA 4) 42,⟨none,none,.w false none fun s=>stA false 1 s.m (s.get 43) (s.get 41)⟩] K s:=(ae hf _ K s).trans (by kernel_rfl)
theorem fA:bh (fun g=>(ann g).pure) (bj (ann 7) (bI r10)) (bN (ann 7) (bI r10)) (opsOf r10)=true:=aQ (an:=[0,0,2,6,14,0,32,96,224,0,0,0,4095,8191,16383]) (by kernel_rfl) (by kernel_rfl)
theorem bV:den prog ann 7 (.code r10::K) s=ah prog ann 7 none [] (some 15) [] [qC 44 0,qC 45 0,qA 46 nilA 45,qA 47 (fieldA 3) 46,qF 48 fun s=>loadA false 1 s.m (s.get 47),qC 49 0,qA 50 nilA 49,qA 51 (fieldA 4) 50,qF 52 fun s=>loadA false 1 s.m (s.get 51),qA 53 (loadF true 2) 4,qA 54 (loadF true 2) 5,⟨some 55,none,.w false (some 11) fun s=>some (.map s.m.nx,s.m.new (.map 0 [] []))⟩,qF 56 fun s=>bldA (plc [(0,1),(1,1),(2,1),(3,1),(4,1),(5,2),(7,2),(9,1),(10,1),(11,1)]) [.bool false,.bool false,.nilp,.int .i64 0,.int .i64 0,.int .u64 0,.int .i64 0,.nilm,.nilm,.nilm,.nilm,.int .i64 0] [(0,(.bool true)),(2,(s.get 44)),(3,(s.get 48)),(4,(s.get 52)),(5,(s.get 53)),(6,(s.get 54)),(8,(s.get 55))],⟨some 57,none,.w false (some 13) fun s=>newPtr s.m (AV.cells (s.get 56))⟩,qC 8 57] K s:=(aW hf fA K s).trans (by kernel_rfl)
theorem bW:den prog ann 7 (.code r11::K) s=ah prog ann 7 none [] none [] [qC 58 7] K s:=(ae hf _ K s).trans (by kernel_rfl)
theorem eT:den prog ann 7 (.code i3::K) s=ifV prog ann 7 58 i3t i3e K s (s.get 58):=aB hf (by kernel_rfl) K s
theorem dw:den prog ann 7 (.code i3t::K) s=den prog ann 7 (.code r12::.code r13::.code r14::.code i4::K) s:=af hf (l:=[r12,r13,r14,i4]) (by kernel_rfl) K s
theorem cv:den prog ann 7 (.code r12::K) s=ah prog ann 7 none [] none [] [qC 59 8,qF 60 fun s=>bldA (plc [(0,1),(1,1)]) [.int .u64 0,.int .i64 0] [(0,(.int .u64 1))],qA 61 nilA 59,qA 62 (fieldA 5) 61,⟨none,none,.w false none fun s=>stA true 2 s.m (s.get 62) (s.get 60)⟩] K s:=(ae hf _ K s).trans (by kernel_rfl)
theorem cP:den prog ann 7 (.code r13::K) s=ah prog ann 7 none [] none [] [qC 63 8,⟨some 64,none,.w false none fun s=>some (.map s.m.nx,s.m.new (.map 0 [] []))⟩,qC 65 8,qA 66 nilA 65,qA 67 (fieldA 5) 66,qF 68 fun s=>loadA true 2 s.m (s.get 67),⟨some 69,none,.c 0 (fun s=>(.fn 25 [] [])) fun s=>[(s.get 63),(s.get 64),(s.get 68)]⟩,qC 9 69] K s:=(ae hf _ K s).trans (by kernel_rfl)
theorem cY:den prog ann 7 (.code r14::K) s=ah prog ann 7 none [] none [] [qC 70 9,qF 71 fun s=>binA prog .neq 33 (s.get 70) (.int .i64 0)] K s:=(ae hf _ K s).trans (by kernel_rfl)
theorem jZ:den prog ann 7 (.code i4::K) s=ifV prog ann 7 71 i4t i4e K s (s.get 71):=aB hf (by kernel_rfl) K s
theorem jx:den prog ann 7 (.code i4e::K) s=den prog ann 7 (K) s:=af hf (l:=[]) (by kernel_rfl) K s
theorem ej:den prog ann 7 (.code i3e::K) s=den prog ann 7 (K) s:=af hf (l:=[]) (by kernel_rfl) K s
theorem dg:den prog ann 7 (.code r16::K) s=ah prog ann 7 (some [8]) [] none [] [qC 73 8,qC 74 8,qA 75 nilA 74,qA 76 (fieldA 7) 75,qA 77 (fieldA 0) 76,qF 78 fun s=>loadA false 1 s.m (s.get 77),⟨some 79,none,.c 0 (fun s=>(.fn 26 [] [])) fun s=>[(s.get 78)]⟩,qA 80 nilA 73,qA 81 (fieldA 9) 80,⟨none,none,.w false none fun s=>stA false 1 s.m (s.get 81) (s.get 79)⟩] K s:=(ae hf _ K s).trans (by kernel_rfl)
theorem gA:den prog ann 7 (.code r17::K) s=ah prog ann 7 none [] none [] [qC 82 8,qC 2 82,qF 3 fun s=>some (.int .i64 0)] K s:=(ae hf _ K s).trans (by kernel_rfl)
theorem aE:den prog ann 7 (.code .ret::K) s=finM false [fun s=>some (s.get 2),fun s=>some (s.get 3)] s:=(aO hf K s).trans (by kernel_rfl)
theorem aC (id:Nat) (K:List Item) (s:St):den prog ann 7 (.inBlock id::K) s=den prog ann 7 K s:=aR hf id K s
theorem al (v0:AV) (m:Mem):denC prog ann 7 [v0] m=den prog ann 7 [.code b] ⟨[(0,v0)],83,m⟩:=(aJ hf (b:=b) (by kernel_rfl) (by kernel_rfl) (by kernel_rfl) m).trans (by kernel_rfl)
theorem aq:(ann 7).pure=false:=by kernel_rfl
attribute [simp] aV aH bu aI aU aL aX bC aY bd bo bM cw bY bU bV bW eT dw cv cP cY jZ jx ej dg gA aE aC aq
end
end ck
namespace lL
noncomputable section
variable (K : List Item) (s : St)
def b:Code:=(Tryz.f44.body).getD .skip
theorem hf:prog.funcs[44]?=some Tryz.f44:=by kernel_rfl
def r0:=aa b 0
def r1:=aa b 1
theorem aV:den prog ann 44 (.code b::K) s=den prog ann 44 (.code r0::.code r1::.code .ret::K) s:=af hf (l:=[r0,r1,.ret]) (by kernel_rfl) K s
theorem aH:den prog ann 44 (.code r0::K) s=ah prog ann 44 none [] none [] [⟨some 0,none,.w false none fun s=>newPtr s.m [.nilm,.nilm]⟩] K s:=(ae hf _ K s).trans (by kernel_rfl)
theorem aI:den prog ann 44 (.code r1::K) s=ah prog ann 44 none [] none [] [⟨some 1,none,.w false none fun s=>some (.map s.m.nx,s.m.new (.map 0 [] []))⟩,⟨some 2,none,.w false none fun s=>some (.map s.m.nx,s.m.new (.map 0 [] []))⟩,qF 3 fun s=>bldA (plc [(0,1),(1,1)]) [.nilm,.nilm] [(0,(s.get 1)),(1,(s.get 2))],⟨none,none,.w false none fun s=>stA true 2 s.m (s.get 0) (s.get 3)⟩] K s:=(ae hf _ K s).trans (by kernel_rfl)
theorem aE:den prog ann 44 (.code .ret::K) s=finM false [fun s=>loadA true 2 s.m (s.get 0)] s:=(aO hf K s).trans (by kernel_rfl)
theorem al (m:Mem):denC prog ann 44 [] m=den prog ann 44 [.code b] ⟨[],4,m⟩:=(aJ hf (b:=b) (by kernel_rfl) (by kernel_rfl) (by kernel_rfl) m).trans (by kernel_rfl)
theorem aq:(ann 44).pure=false:=by kernel_rfl
attribute [simp] aV aH aI aE aq
end
end lL
namespace jW
noncomputable section
variable (K : List Item) (s : St)
def b:Code:=(Tryz.f45.body).getD .skip
theorem hf:prog.funcs[45]?=some Tryz.f45:=by kernel_rfl
def r0:=aa b 0
def r1:=aa b 1
def r2:=aa b 2
def r3:=aa b 3
theorem aV:den prog ann 45 (.code b::K) s=den prog ann 45 (.code r0::.code r1::.code r2::.code r3::.code .ret::K) s:=af hf (l:=[r0,r1,r2,r3,.ret]) (by kernel_rfl) K s
theorem aH:den prog ann 45 (.code r0::K) s=ah prog ann 45 none [] none [] [⟨some 2,none,.w false none fun s=>newPtr s.m page0⟩] K s:=(ae hf _ K s).trans (by kernel_rfl)
theorem aI:den prog ann 45 (.code r1::K) s=ah prog ann 45 none [] none [] [⟨some 3,none,.w false none fun s=>newPtr s.m page0⟩] K s:=(ae hf _ K s).trans (by kernel_rfl)
theorem br:den prog ann 45 (.code r2::K) s=ah prog ann 45 none [] none [] [qF 4 fun s=>sliceArr 256 1 (s.get 3) none none,qC 5 0,⟨some 6,none,.w false none fun s=>copyA 1 s.m (s.get 4) (s.get 5)⟩] K s:=(ae hf _ K s).trans (by kernel_rfl)
theorem aX:den prog ann 45 (.code r3::K) s=ah prog ann 45 none [] none [] [qF 7 fun s=>loadA true 256 s.m (s.get 3),⟨none,none,.w false none fun s=>stA true 256 s.m (s.get 2) (s.get 7)⟩] K s:=(ae hf _ K s).trans (by kernel_rfl)
theorem aE:den prog ann 45 (.code .ret::K) s=finM true [fun s=>loadA true 256 s.m (s.get 2)] s:=(aO hf K s).trans (by kernel_rfl)
theorem al (v0:AV) (m:Mem) (h:closedL [v0]=true):denC prog ann 45 [v0] m=(den prog ann 45 [.code b] ⟨[(0,v0)],8,Mem.empty⟩).bind fun r=>some (r.1,m):=(bD hf (b:=b) (by kernel_rfl) (by kernel_rfl) (by kernel_rfl) h m).trans (by kernel_rfl)
theorem aq:(ann 45).pure=true:=by kernel_rfl
attribute [simp] aV aH aI br aX aE aq
end
end jW
end Go.Proofs.YtadofgdidhpnpaaGreatDoor

/-
  THE CHEST's ROOTS AS BYTES: lowFirst, sum, written, Equal, rootAt. Conditions: none.
-/
namespace Go.Proofs.YtadofgdidhpnpaaGreatDoor
open Go.AM
open Go.Proofs
open Go.Proofs.Tryz (prog)
set_option linter.all false
set_option maxRecDepth 100000
def leN:Nat→Nat→List UInt8
 | 0,_=>[]
 | k+1,n=>UInt8.ofNat n::leN k (n / 256)
theorem fN:∀(k n:Nat),(leN k n).length=k
 | 0,_=>rfl
 | k+1,n=>by simp [leN,fN k]
theorem Dd (n:Nat):IntKind.wrap .u8 (n:Int)=((UInt8.ofNat n).toNat:Int):=by
 have:(UInt8.ofNat n).toNat=n % 256:=by simp
 rw [this]
 simp [IntKind.wrap,IntKind.signed,IntKind.bits]
theorem IZ (n:Nat):(n:Int).fdiv (2 ^ min 8 IntKind.u64.bits)=((n / 256:Nat):Int):=by
 have e:(2:Int) ^ min 8 IntKind.u64.bits=256:=by decide
 rw [e]
 rw [Int.fdiv_eq_ediv_of_nonneg _ (by omega)];rfl
theorem sC (A:Nat) (x8:AV):∀(k j n:Nat) (bs:List UInt8) (m:Mem),j+k=8→bs.length+k≤1000→m.h A=some (.cells (u8L bs)) →
  cV.L0 (.sl A 1 0 bs.length bs.length) (.int .u64 n) (.int .i64 j) m [.code cV.r6,.code .ret]=some (.sl A 1 0 (bs++leN k n).length (bs++leN k n).length,⟨upd m.h A (some (.cells (u8L (bs++leN k n)))),m.nx⟩)
 | 0,j,n,bs,m,hj,hb,hA=>by
  have:j=8:=by omega
  subst this
  rw [cV.aM]
  simp [leN,tL hA]
 | k+1,j,n,bs,m,hj,hb,hA=>by
  have hj8:decide ((j:Int) < 8)=true:=by simp;omega
  obtain⟨x,hx⟩:∃x,UInt8.ofNat n=x:=⟨_,rfl⟩
  have w:IntKind.wrap .i64 ((j:Int)+1)=((j+1:Nat):Int):=by simp [IntKind.wrap,IntKind.signed,IntKind.bits];omega
  have ih:=sC A x8 k (j+1) (n / 256) (bs++[x]) ⟨upd m.h A (some (.cells (u8L (bs++[x])))),m.nx⟩ (by omega) (by simp;omega) (by simp)
  have a1:=iM m A bs.length bs.length 1 bs [x] rfl rfl rfl hA (by omega)
  have e1:u8L [x]=[.int .u8 x.toNat]:=rfl
  rw [e1] at a1
  rw [cV.aM]
  simp [hj8,Dd,hx,hA,-jO,a1,IZ,w]
  simpa [leN,hx,fN,Nat.add_assoc,Nat.add_comm 1 k] using ih
theorem sD (A n:Nat) (bs:List UInt8) (m:Mem) (l:Nat) (hl:l=bs.length) (hb:bs.length≤900) (hA:m.h A=some (.cells (u8L bs))) :
  denC prog ann 70 [.sl A 1 0 l l,.int .u64 n] m=some (.sl A 1 0 (bs++leN 8 n).length (bs++leN 8 n).length,⟨upd m.h A (some (.cells (u8L (bs++leN 8 n)))),m.nx⟩):=by
 subst hl
 rw [cV.al]
 have h:=sC A .undef 8 0 n bs m (by omega) (by omega) hA
 simp only [Int.ofNat_zero,Int.natCast_zero] at h
 simpa using h
def sumN (l:List UInt8):Nat:=l.foldl (fun n c=>((n ^^^ c.toNat)*1099511628211) % 18446744073709551616) 14695981039346656037
theorem I0 {a b:Nat} (ha:a < 18446744073709551616) (hb:b < 18446744073709551616):binA prog .xor 76 (.int .u64 a) (.int .u64 b)=some (.int .u64 ((a ^^^ b:Nat):Int)):=by
 have hx:a ^^^ b < 2 ^ 64:=Nat.xor_lt_two_pow (by omega) (by omega)
 have e:(BitVec.ofInt IntKind.u64.bits (a:Int) ^^^ BitVec.ofInt IntKind.u64.bits (b:Int)).toNat=a ^^^ b:=by
  show(BitVec.ofInt 64 (a:Int) ^^^ BitVec.ofInt 64 (b:Int)).toNat=a ^^^ b
  rw [BitVec.toNat_xor,BitVec.toNat_ofInt,BitVec.toNat_ofInt]
  have h1:((a:Int) % ((2 ^ 64:Nat):Int)).toNat=a:=by omega
  have h2:((b:Int) % ((2 ^ 64:Nat):Int)).toNat=b:=by omega
  rw [h1,h2]
 have w:IntKind.u64.wrap ((a ^^^ b:Nat):Int)=((a ^^^ b:Nat):Int):=by
  generalize a ^^^ b=c at hx
  simp [IntKind.wrap,IntKind.signed,IntKind.bits]
  omega
 simp only [binA,kk,beq_self_eq_true,cond_true,arithA,bitsA,e,w]
 rfl
theorem sE (A:Nat) (l:List UInt8) (m:Mem) (hl:l.length≤1000) (hA:m.h A=some (.cells (u8L l))):∀(k i n:Nat),i+k=l.length→n < 18446744073709551616 →
  fj.L0 (.int .u64 n) (.sl A 1 0 l.length l.length) (.int .i64 l.length) (.int .i64 i) m [.code fj.r7,.code .ret]=some (.int .u64 (((l.drop i).foldl (fun n c=>((n ^^^ c.toNat)*1099511628211) % 18446744073709551616) n:Nat):Int),m)
 | 0,i,n,hi,hn=>by
  have:i=l.length:=by omega
  subst this
  rw [fj.aM]
  simp
 | k+1,i,n,hi,hn=>by
  have hlt:i < l.length:=by omega
  have e:l.drop i=l[i]::l.drop (i+1):=List.drop_eq_getElem_cons hlt
  have w:IntKind.wrap .i64 ((i:Int)+1)=((i+1:Nat):Int):=by simp [IntKind.wrap,IntKind.signed,IntKind.bits];omega
  have w2:IntKind.wrap .u64 ((l[i].toNat:Nat):Int)=((l[i].toNat:Nat):Int):=by
   have:=l[i].toNat_lt
   simp [IntKind.wrap,IntKind.signed,IntKind.bits];omega
  have ih:=sE A l m hl hA k (i+1) (((n ^^^ l[i].toNat)*1099511628211) % 18446744073709551616) (by omega) (Nat.mod_lt _ (by omega))
  rw [fj.aM]
  have hg:(u8L l)[i]'(by rw [aN];exact hlt)=.int .u8 l[i].toNat:=by simp [u8L]
  have w3:IntKind.wrap .u64 (((n ^^^ l[i].toNat:Nat):Int)*1099511628211)=((((n ^^^ l[i].toNat)*1099511628211) % 18446744073709551616:Nat):Int):=by
   simp [IntKind.wrap,IntKind.signed,IntKind.bits]
  have xx:=I0 (a:=n) (b:=l[i].toNat) hn (by have:=l[i].toNat_lt;omega)
  rw [e,List.foldl_cons]
  simp [hlt,hA,aN,hg,w2,xx,w3,w]
  simpa using ih
theorem AH (A:Nat) (l:List UInt8) (m:Mem) (n:Nat) (hn:n=l.length) (hl:l.length≤1000) (hA:m.h A=some (.cells (u8L l))):denC prog ann 71 [.sl A 1 0 n n] m=some (.int .u64 (sumN l:Nat),m):=by
 subst hn
 rw [fj.al]
 have h:=sE A l m hl hA l.length 0 14695981039346656037 (by omega) (by omega)
 simp only [Int.ofNat_zero,Int.natCast_zero,List.drop_zero] at h
 simpa [sumN] using h
def rootP (n t:Nat):List UInt8:=[67,72,83,84]++leN 8 n++[UInt8.ofNat t]
def rootW (n t:Nat):List UInt8:=rootP n t++leN 8 (sumN (rootP n t))
theorem yA (n t:Nat):(rootP n t).length=13:=by simp [rootP,fN]
theorem fi (n t:Nat):(rootW n t).length=21:=by simp [rootW,yA,fN]
theorem dN (n t:Nat) (m:Mem):denC prog ann 46 [.agg [.int .u64 n,.int .i64 t]] m=some (.fsl false 21 (u8L (rootW n t)),m):=by
 rw [fC.al _ _ (by simp)]
 obtain⟨x,hx⟩:∃x,UInt8.ofNat t=x:=⟨_,rfl⟩
 obtain⟨B,hB⟩:∃B,[67,72,83,84]++leN 8 n=B:=⟨_,rfl⟩
 have hBl:B.length=12:=by rw [← hB];simp [fN]
 have hP:rootP n t=B++[x]:=by rw [rootP,hB,hx]
 obtain⟨S,hS⟩:∃S,sumN (B++[x])=S:=⟨_,rfl⟩
 have hW:rootW n t=B++[x]++leN 8 S:=by rw [rootW,hP,hS]
 have e4:u8L [67,72,83,84]=[.int .u8 67,.int .u8 72,.int .u8 83,.int .u8 84]:=rfl
 have t1:=sD 0 n [67,72,83,84] ⟨upd Mem.empty.h 0 (some (.cells [.int .u8 67,.int .u8 72,.int .u8 83,.int .u8 84])),11⟩ 4 rfl (by simp) (by simp [e4])
 rw [hB,hBl] at t1
 have t2:∀(h:Nat→Option AObj) nx,h 0=some (.cells (u8L B))→appO 1 1 ⟨h,nx⟩ 0 1 0 12 12 1 [AV.int .u8 x.toNat] (some (.cells (u8L B)))=some (.sl 0 1 0 13 13,⟨upd h 0 (some (.cells (u8L (B++[x])))),nx⟩) :=
  fun h nx hA=>iM ⟨h,nx⟩ 0 12 12 1 B [x] hBl.symm hBl.symm rfl hA (by omega)
 have t3:∀(h:Nat→Option AObj) nx,h 0=some (.cells (u8L (B++[x])))→denC prog ann 71 [.sl 0 1 0 13 13] ⟨h,nx⟩=some (.int .u64 (S:Nat),⟨h,nx⟩) :=
  fun h nx hA=>by rw [AH 0 (B++[x]) ⟨h,nx⟩ 13 (by simp [hBl]) (by simp [hBl]) hA,hS]
 have t4:∀(h:Nat→Option AObj) nx,h 0=some (.cells (u8L (B++[x])))→denC prog ann 70 [.sl 0 1 0 13 13,.int .u64 S] ⟨h,nx⟩=some (.sl 0 1 0 21 21,⟨upd h 0 (some (.cells (u8L (B++[x]++leN 8 S)))),nx⟩):=fun h nx hA=>by
  have:=sD 0 S (B++[x]) ⟨h,nx⟩ 13 (by simp [hBl]) (by simp [hBl]) hA
  rw [this]
  simp [hBl,fN]
 have w8:IntKind.wrap .u8 (t:Int)=(x.toNat:Int):=by rw [Dd,hx]
 rw [hW]
 have h7:List.take 21 (u8L (B++x::leN 8 S))=u8L (B++x::leN 8 S):=List.take_of_length_le (by rw [aN];simp [hBl,fN])
 simp [markA,t1,t2,t3,t4,w8,-jO,aN,gY,cQ,hBl,fN,h7]
theorem m8 (x y:Bool) (a b:List UInt8) (hab:a.length=b.length) (hl:a.length≤1000):∀(k i:Nat) (m:Mem),i+k=a.length →
  cA.L0 (.fsl x a.length (u8L a)) (.fsl y b.length (u8L b)) (.int .i64 a.length) (.int .i64 i) m [.code cA.r9,.code .ret]=some (.bool (decide (a.drop i=b.drop i)),Mem.empty)
 | 0,i,m,hi=>by
  have:i=a.length:=by omega
  subst this
  rw [cA.aM]
  have e1:a.drop a.length=[]:=List.drop_length
  have e2:b.drop a.length=[]:=List.drop_of_length_le (by omega)
  simp [e1,e2]
 | k+1,i,m,hi=>by
  have hlt:i < a.length:=by omega
  have hlt2:i < b.length:=by omega
  have ea:a.drop i=a[i]::a.drop (i+1):=List.drop_eq_getElem_cons hlt
  have eb:b.drop i=b[i]::b.drop (i+1):=List.drop_eq_getElem_cons hlt2
  have w:IntKind.wrap .i64 ((i:Int)+1)=((i+1:Nat):Int):=by simp [IntKind.wrap,IntKind.signed,IntKind.bits];omega
  have ih:=fun m=>m8 x y a b hab hl k (i+1) m (by omega)
  have ha:(u8L a).drop i=.int .u8 a[i].toNat::(u8L a).drop (i+1):=by rw [u8L,← List.map_drop,ea,List.map_cons,List.map_drop]
  have hb:(u8L b).drop i=.int .u8 b[i].toNat::(u8L b).drop (i+1):=by rw [u8L,← List.map_drop,eb,List.map_cons,List.map_drop]
  have dec:decide (a.drop i=b.drop i)=(decide (a[i]=b[i])&&decide (a.drop (i+1)=b.drop (i+1))):=by
   rw [ea,eb]
   by_cases q:a[i]=b[i]
   ·by_cases q2:a.drop (i+1)=b.drop (i+1)
    ·rw [q,q2];simp
    ·simp only [List.cons.injEq,q,q2];rfl
   ·simp only [List.cons.injEq,q];simp
  rw [cA.aM,dec]
  by_cases q:a[i]=b[i]
  ·simp [hlt,hlt2,ha,hb,q,w]
   simpa using ih _
  ·have q':decide ((a[i].toNat:Int)=(b[i].toNat:Int))=false:=by
    rw [decide_eq_false_iff_not];exact fun e=>q (UInt8.toNat_inj.1 (by omega))
   simp [hlt,hlt2,ha,hb,q,q',w]
theorem uo (x y:Bool) (a b:List UInt8) (n k:Nat) (hn:n=a.length) (hk:k=b.length) (hab:a.length=b.length) (hl:a.length≤1000) (m:Mem) :
  denC prog ann 65 [.fsl x n (u8L a),.fsl y k (u8L b)] m=some (.bool (decide (a=b)),m):=by
 subst hn hk
 rw [cA.al _ _ _ (by simp [bZ])]
 have h:=m8 x y a b hab hl a.length 0 Mem.empty (by omega)
 simp only [Int.ofNat_zero,Int.natCast_zero,List.drop_zero] at h
 simp [hab] at h ⊢
 simp [h]
end Go.Proofs.YtadofgdidhpnpaaGreatDoor

/-
  THE EMPTY DISK's CELLS. Conditions: none.
-/
namespace Go.Proofs.YtadofgdidhpnpaaGreatDoor
open Go.AM
open Go.Proofs
open Go.Proofs.Tryz (prog)
set_option linter.all false
set_option maxRecDepth 100000
def tailB:Nat→List Value→Bool
 | 0,[.map none]=>true
 | n+1,.int .u8 (.ofNat 0)::r=>tailB n r
 | _,_=>false
def headB (n:Nat):List Value→Bool
 | .bool false::.bool false::.int .i64 (.ofNat 0)::.int .i64 (.ofNat 0)::.int .i64 (.ofNat 0)::r=>tailB n r
 | _=>false
def disk0:List AV:=[.bool false,.bool false,.int .i64 0,.int .i64 0,.int .i64 0]++(List.replicate 65536 (.int .u8 0)++[.nilm])
theorem lO:∀(n:Nat) (l:List Value),tailB n l=true→ofCells l=some (List.replicate n (.int .u8 0)++[.nilm])
 | 0,l,h=>by
  unfold tailB at h
  split at h
  ·rfl
  ·omega
  ·cases h
 | n+1,l,h=>by
  unfold tailB at h
  split at h
  ·rename_i heq;cases heq
  ·rename_i m r heq
   cases heq
   rw [ofCells,lO n r h]
   rfl
  ·cases h
theorem sF {n:Nat} {l:List Value} (h:headB n l=true):ofCells l=some ([.bool false,.bool false,.int .i64 0,.int .i64 0,.int .i64 0]++(List.replicate n (.int .u8 0)++[.nilm])):=by
 unfold headB at h
 split at h
 ·rename_i r
  simp only [ofCells,lO n r h]
  rfl
 ·cases h
def zeroL (P:Program) (t:TypeId):List Value:=((P.info? t).bind fun i=>i.zero.bind fun v=>match v with
 | .agg cs=>some cs.toList
 | _=>none).getD []
theorem sG {P:Program} {t:TypeId} {n:Nat} (h:headB n (zeroL P t)=true):zeroT P t=some (.agg ([.bool false,.bool false,.int .i64 0,.int .i64 0,.int .i64 0]++(List.replicate n (.int .u8 0)++[.nilm]))):=by
 unfold zeroL at h
 unfold zeroT
 cases hi:P.info? t with
 | none=>rw [hi] at h;simp [headB] at h
 | some i =>
  rw [hi] at h
  simp only [Option.bind_some] at h ⊢
  cases hz:i.zero with
  | none=>rw [hz] at h;simp [headB] at h
  | some v =>
   rw [hz] at h
   simp only [Option.bind_some] at h ⊢
   cases v<;>simp only [Option.getD_none,Option.getD_some] at h<;>try (simp [headB] at h;done)
   simp only [ofConst,sF h,Option.map_some]
theorem Ek:zeroT prog 74=some (.agg disk0):=sG (by kernel_rfl)
end Go.Proofs.YtadofgdidhpnpaaGreatDoor

/-
  THE CHEST's ROOTS AS BYTES (2): rootAt. Conditions: none.
-/
namespace Go.Proofs.YtadofgdidhpnpaaGreatDoor
open Go.AM
open Go.Proofs
open Go.Proofs.Tryz (prog)
set_option linter.all false
set_option maxRecDepth 100000
def Keep (m m':Mem):Prop:=m.nx≤m'.nx∧∀x,x < m.nx→m'.h x=m.h x
theorem Keep.refl (m:Mem):Keep m m:=⟨Nat.le_refl _,fun _ _=>rfl⟩
theorem Keep.trans {a b c:Mem} (h:Keep a b) (k:Keep b c):Keep a c:=⟨Nat.le_trans h.1 k.1,fun x hx=>(k.2 x (Nat.lt_of_lt_of_le hx h.1)).trans (h.2 x hx)⟩
def numStep (b:List UInt8) (n i:Nat):Nat:=n ||| ((b.getD (4+i) 0).toNat*2 ^ (8*i))
def numL (b:List UInt8):Nat:=(List.range 8).foldl (numStep b) 0
def rootOf (b:List UInt8):Bool:=decide (0 < numL b)&&decide (rootW (numL b) (b.getD 12 0).toNat=b.take 21)
theorem orA {a b:Nat} (ha:a < 18446744073709551616) (hb:b < 18446744073709551616):binA prog .or 76 (.int .u64 a) (.int .u64 b)=some (.int .u64 ((a ||| b:Nat):Int)):=by
 have hx:a ||| b < 2 ^ 64:=Nat.or_lt_two_pow (by omega) (by omega)
 have e:(BitVec.ofInt IntKind.u64.bits (a:Int) ||| BitVec.ofInt IntKind.u64.bits (b:Int)).toNat=a ||| b:=by
  show(BitVec.ofInt 64 (a:Int) ||| BitVec.ofInt 64 (b:Int)).toNat=a ||| b
  rw [BitVec.toNat_or,BitVec.toNat_ofInt,BitVec.toNat_ofInt]
  have h1:((a:Int) % ((2 ^ 64:Nat):Int)).toNat=a:=by omega
  have h2:((b:Int) % ((2 ^ 64:Nat):Int)).toNat=b:=by omega
  rw [h1,h2]
 have w:IntKind.u64.wrap ((a ||| b:Nat):Int)=((a ||| b:Nat):Int):=by
  generalize a ||| b=c at hx
  simp [IntKind.wrap,IntKind.signed,IntKind.bits]
  omega
 rw [wu,e,w]
theorem IY {a i:Nat} (ha:a < 256) (hi:i < 8):binA prog .shl 76 (.int .u64 a) (.int .i64 (8*i:Nat))=some (.int .u64 ((a*2 ^ (8*i):Nat):Int)):=by
 have h:i=0∨i=1∨i=2∨i=3∨i=4∨i=5∨i=6∨i=7:=by omega
 have w:IntKind.u64.wrap ((a*2 ^ (8*i):Nat):Int)=((a*2 ^ (8*i):Nat):Int):=by
  rcases h with rfl | rfl | rfl | rfl | rfl | rfl | rfl | rfl<;>simp [IntKind.wrap,IntKind.signed,IntKind.bits]<;>omega
 have e:(a:Int)*2 ^ min ((8*i:Nat):Int).toNat IntKind.u64.bits=((a*2 ^ (8*i):Nat):Int):=by
  have:min ((8*i:Nat):Int).toNat IntKind.u64.bits=8*i:=by
   show min ((8*i:Nat):Int).toNat 64=8*i
   omega
  rw [this];simp
 rw [rG,e,w]
 have:decide (((8*i:Nat):Int) < 0)=false:=by rw [decide_eq_false_iff_not];omega
 rw [this]
 rfl
theorem uc (b:Bool):(AV.bool b).flat=true:=rfl
section
variable (dk off top : Nat) (xs : List AV) (b : List UInt8) (hb : b.length = 256) (hx : (xs.drop off).take 256 = u8L b) (hl : xs.length = top) (ho : off + 256 ≤ top)
include hb hx hl ho
theorem sB {i:Nat} (hi:i < 256):xs[off+i]?=some (.int .u8 (b.getD i 0).toNat):=by
 have h1:((xs.drop off).take 256)[i]?=(u8L b)[i]?:=by rw [hx]
 rw [List.getElem?_take_of_lt hi,List.getElem?_drop] at h1
 rw [h1]
 simp [u8L,List.getElem?_eq_getElem (show i < b.length by omega),List.getD]
theorem um (P2 P4 n t:Nat) (m:Mem) (hn:n < 18446744073709551616) (h2:m.h P2=some (.cells [.int .u64 0,.int .i64 0])) (h4:m.h P4=some (.cells [.int .u64 n,.int .i64 t])) (hd:m.h dk=some (.cells xs)) (h24:P2≠P4) (hd2:dk≠P2) (hd4:dk≠P4) :
  cN.L0 (.sl dk 1 off 256 top) (.ptr P2 0 2) (.ptr P4 0 2) (.int .i64 8) m [.code cN.r7,.code .ret]=some (.tup [.agg [.int .u64 n,.int .i64 t],.bool (decide (0 < n)&&decide (rootW n t=b.take 21))],⟨upd (upd m.h P4 none) P2 (some (.cells [.int .u64 n,.int .i64 t])),m.nx+13⟩):=by
 have q1:(P2==P4)=false:=by simpa using h24
 have q2:(dk==P4)=false:=by simpa using hd4
 have q3:(dk==P2)=false:=by simpa using hd2
 rw [cN.aM]
 by_cases hn0:0 < n
 ·have bl:(b.take 21).length=21:=by simp [hb]
  have d21:List.take 21 (List.drop off xs)=u8L (b.take 21):=by
   have:List.take 21 (List.take 256 (List.drop off xs))=List.take 21 (List.drop off xs):=by rw [List.take_take];rfl
   rw [← this,hx,u8L,← List.map_take];rfl
  have eq:=fun m=>uo false false (rootW n t) (b.take 21) 21 21 (fi n t).symm bl.symm (by rw [fi,bl]) (by rw [fi];omega) m
  have s21:sliceSl 1 (.sl dk 1 off 256 top) none (some (.int .i64 21))=some (.sl dk 1 off 21 top):=by simp [sliceSl,bnds,bnd]
  have e6:deepNo=6:=rfl
  have o21:off+21≤top:=by omega
  simp [h4,h2,hd,q1,q2,q3,hn0,dN,s21,bZ,gY,e6,hl,o21,d21,eq,uc]
 ·simp [h4,h2,hd,q1,q2,q3,hn0]
theorem lN (P2 P4 t:Nat) (h24:P2≠P4) (hd2:dk≠P2) (hd4:dk≠P4):∀(k i n:Nat) (m:Mem),i+k=8→n < 18446744073709551616→m.h P2=some (.cells [.int .u64 0,.int .i64 0])→m.h P4=some (.cells [.int .u64 n,.int .i64 t])→m.h dk=some (.cells xs) →
  cN.L0 (.sl dk 1 off 256 top) (.ptr P2 0 2) (.ptr P4 0 2) (.int .i64 i) m [.code cN.r7,.code .ret] =
   (let N:=((List.range' i k).foldl (numStep b) n);some (.tup [.agg [.int .u64 N,.int .i64 t],.bool (decide (0 < N)&&decide (rootW N t=b.take 21))],⟨upd (upd m.h P4 none) P2 (some (.cells [.int .u64 N,.int .i64 t])),m.nx+13+14*k⟩))
 | 0,i,n,m,hi,hn,h2,h4,hd=>by
  have:i=8:=by omega
  subst this
  exact um dk off top xs b hb hx hl ho P2 P4 n t m hn h2 h4 hd h24 hd2 hd4
 | k+1,i,n,m,hi,hn,h2,h4,hd=>by
  have q1:(P2==P4)=false:=by simpa using h24
  have q2:(dk==P4)=false:=by simpa using hd4
  have q3:(dk==P2)=false:=by simpa using hd2
  have hlt:decide ((i:Int) < 8)=true:=by simp;omega
  have c8:=(b.getD (4+i) 0).toNat_lt
  have w1:IntKind.wrap .i64 (4+(i:Int))=((4+i:Nat):Int):=by simp [IntKind.wrap,IntKind.signed,IntKind.bits];omega
  have w3:IntKind.wrap .i64 (8*(i:Int))=((8*i:Nat):Int):=by simp [IntKind.wrap,IntKind.signed,IntKind.bits];omega
  have w4:IntKind.wrap .i64 ((i:Int)+1)=((i+1:Nat):Int):=by simp [IntKind.wrap,IntKind.signed,IntKind.bits];omega
  obtain⟨c,hc⟩:∃c,(b.getD (4+i) 0).toNat=c:=⟨_,rfl⟩
  rw [hc] at c8
  have w2:IntKind.wrap .u64 (c:Int)=(c:Int):=by simp [IntKind.wrap,IntKind.signed,IntKind.bits];omega
  have hg:=sB off top xs b hb hx hl ho (i:=4+i) (by omega)
  rw [hc] at hg
  have sh:=IY (a:=c) (i:=i) (by omega) (by omega)
  have hlt2:c*2 ^ (8*i) < 18446744073709551616:=by
   have h:i=0∨i=1∨i=2∨i=3∨i=4∨i=5∨i=6∨i=7:=by omega
   rcases h with rfl | rfl | rfl | rfl | rfl | rfl | rfl | rfl<;>omega
  have orr:=orA (a:=n) (b:=c*2 ^ (8*i)) hn hlt2
  have hn':n ||| c*2 ^ (8*i) < 18446744073709551616:=Nat.or_lt_two_pow (x:=n) (y:=c*2 ^ (8*i)) (n:=64) (by omega) (by omega)
  have ih:=lN P2 P4 t h24 hd2 hd4 k (i+1) (n ||| c*2 ^ (8*i)) ⟨upd m.h P4 (some (.cells [.int .u64 (n ||| c*2 ^ (8*i):Nat),.int .i64 t])),m.nx+14⟩ (by omega) hn' (by simp [q1,h2]) (by simp) (by simp [q2,hd])
  rw [cN.aM]
  obtain⟨sv,hsv⟩:∃sv,c*2 ^ (8*i)=sv:=⟨_,rfl⟩
  obtain⟨ov,hov⟩:∃ov,n ||| sv=ov:=⟨_,rfl⟩
  rw [hsv] at sh orr ih
  rw [hov] at orr ih
  rw [show((8*i:Nat):Int)=8*(i:Int) by omega] at sh w3
  have x1:decide (0≤4+(i:Int))=true:=by simp;omega
  have x2:decide (4+(i:Int) < 256)=true:=by simp;omega
  have x3:(4+(i:Int)).toNat=4+i:=by omega
  have x4:numStep b n i=ov:=by rw [numStep,hc,hsv,hov]
  have x5:off+(4+i) < top:=by omega
  rw [List.range'_succ,List.foldl_cons,x4]
  obtain⟨hlt3,hg'⟩:=List.getElem?_eq_some_iff.1 hg
  simp [hlt,h4,h2,hd,q1,q2,q3,w1,w2,w3,w4,x1,x2,x3,hg,hg',sh,orr,hl,-rG,-wu]
  rw [show m.nx+13+14*(k+1)=m.nx+14+13+14*k by omega]
  simpa using ih
theorem sg (m:Mem) (hd:m.h dk=some (.cells xs)) (hdx:dk < m.nx):∃m',denC prog ann 40 [.sl dk 1 off 256 top] m=some (.tup [.agg [.int .u64 (numL b:Nat),.int .i64 ((b.getD 12 0).toNat:Nat)],.bool (rootOf b)],m')∧Keep m m':=by
 rw [cN.al]
 have hg:=sB off top xs b hb hx hl ho (i:=12) (by omega)
 obtain⟨t,ht⟩:∃t,(b.getD 12 0).toNat=t:=⟨_,rfl⟩
 have t8:=(b.getD 12 0).toNat_lt
 rw [ht] at hg t8
 obtain⟨hlt3,hg'⟩:=List.getElem?_eq_some_iff.1 hg
 have w:IntKind.wrap .i64 (t:Int)=(t:Int):=by simp [IntKind.wrap,IntKind.signed,IntKind.bits];omega
 have x5:off+12 < top:=by omega
 have q1:(dk==m.nx)=false:=by simp;omega
 have q2:(dk==m.nx+1)=false:=by simp;omega
 have q3:(m.nx+1==m.nx)=false:=by simp
 have q4:(m.nx==m.nx+1)=false:=by simp
 have L:=lN dk off top xs b hb hx hl ho m.nx (m.nx+1) t (by omega) (by omega) (by omega) 8 0 0 ⟨upd (upd m.h m.nx (some (.cells [.int .u64 0,.int .i64 0]))) (m.nx+1) (some (.cells [.int .u64 0,.int .i64 t])),m.nx+1+1⟩ (by omega) (by omega) (by simp [q4]) (by simp) (by simp [q1,q2,hd])
 have hN:(List.range' 0 8).foldl (numStep b) 0=numL b:=by rw [numL,List.range_eq_range']
 rw [hN] at L
 simp only [Int.ofNat_zero,Int.natCast_zero] at L
 have ht':(b[12]?.getD 0).toNat=t:=by rw [← ht];simp
 have eR:rootOf b=(decide (0 < numL b)&&decide (rootW (numL b) t=b.take 21)):=by rw [rootOf,ht]
 rw [eR,ht]
 simp [hd,q1,q2,q3,q4,hg',hg,hl,w]
 refine⟨_,L.trans (by simp;rfl),by simp;omega,fun x hx=>?_⟩
 have r1:(x==m.nx)=false:=by simp;omega
 have r2:(x==m.nx+1)=false:=by simp;omega
 simp [r1,r2]
end
end Go.Proofs.YtadofgdidhpnpaaGreatDoor

/-
  BODIES OF FUNCTIONS OF THE PROGRAM AS SMALL OPERATIONS (written by gen.py; checked by the kernel against the program). Conditions: none.
-/
namespace Go.Proofs.YtadofgdidhpnpaaGreatDoor
open Go.AM
open Go.Proofs.Tryz (prog)
set_option maxRecDepth 100000
set_option linter.all false
namespace cz
noncomputable section
variable (K : List Item) (s : St)
def b:Code:=(Tryz.f67.body).getD .skip
theorem hf:prog.funcs[67]?=some Tryz.f67:=by kernel_rfl
def r0:=aa b 0
def i0:=ak b 0
def r2:=aa b 2
theorem aV:den prog ann 67 (.code b::K) s=den prog ann 67 (.code r0::.code i0::.code r2::.code .ret::K) s:=af hf (l:=[r0,i0,r2,.ret]) (by kernel_rfl) K s
theorem aH:den prog ann 67 (.code r0::K) s=ah prog ann 67 none [] none [] [qF 2 fun s=>some (.int .i64 0)] K s:=(ae hf _ K s).trans (by kernel_rfl)
theorem br:den prog ann 67 (.code r2::K) s=ah prog ann 67 none [] none [] [qC 6 0,⟨some 7,none,.c 0 (fun s=>(.fn 91 [] [])) fun s=>[(s.get 6)]⟩,qC 2 7] K s:=(ae hf _ K s).trans (by kernel_rfl)
theorem aE:den prog ann 67 (.code .ret::K) s=finM true [fun s=>some (s.get 2)] s:=(aO hf K s).trans (by kernel_rfl)
theorem al (v0:AV) (m:Mem) (h:closedL [v0]=true):denC prog ann 67 [v0] m=(den prog ann 67 [.code b] ⟨[(0,v0)],8,Mem.empty⟩).bind fun r=>some (r.1,m):=(bD hf (b:=b) (by kernel_rfl) (by kernel_rfl) (by kernel_rfl) h m).trans (by kernel_rfl)
theorem aq:(ann 67).pure=true:=by kernel_rfl
attribute [simp] aV aH br aE aq
end
end cz
namespace dv
noncomputable section
variable (K : List Item) (s : St)
def b:Code:=(Tryz.f91.body).getD .skip
theorem hf:prog.funcs[91]?=some Tryz.f91:=by kernel_rfl
def r0:=aa b 0
def r1:=aa b 1
def i0:=ak b 0
def i0t:=az i0
def i0e:=aA i0
def r4:=aa b 4
def i1:=ak b 1
def i1t:=az i1
def i1e:=aA i1
def r7:=aa b 7
def i2:=ak b 2
def i2t:=az i2
def i2e:=aA i2
def r10:=aa b 10
theorem aV:den prog ann 91 (.code b::K) s=den prog ann 91 (.code r0::.code r1::.code i0::.code r4::.code i1::.code r7::.code i2::.code r10::.code .ret::K) s:=af hf (l:=[r0,r1,i0,r4,i1,r7,i2,r10,.ret]) (by kernel_rfl) K s
theorem aH:den prog ann 91 (.code r0::K) s=ah prog ann 91 none [] none [] [qF 2 fun s=>some (.int .i64 0)] K s:=(ae hf _ K s).trans (by kernel_rfl)
theorem aI:den prog ann 91 (.code r1::K) s=ah prog ann 91 none [] none [] [qC 3 0,qF 4 fun s=>binA prog .geq 76 (s.get 3) (.int .u64 4294967296)] K s:=(ae hf _ K s).trans (by kernel_rfl)
theorem aU:den prog ann 91 (.code i0::K) s=ifV prog ann 91 4 i0t i0e K s (s.get 4):=aB hf (by kernel_rfl) K s
theorem aL:den prog ann 91 (.code i0e::K) s=den prog ann 91 (K) s:=af hf (l:=[]) (by kernel_rfl) K s
theorem bg:den prog ann 91 (.code r4::K) s=ah prog ann 91 (some [0,2]) [] none [] [qC 7 0,qF 8 fun s=>binA prog .geq 76 (s.get 7) (.int .u64 65536)] K s:=(ae hf _ K s).trans (by kernel_rfl)
theorem bC:den prog ann 91 (.code i1::K) s=ifV prog ann 91 8 i1t i1e K s (s.get 8):=aB hf (by kernel_rfl) K s
theorem aY:den prog ann 91 (.code i1e::K) s=den prog ann 91 (K) s:=af hf (l:=[]) (by kernel_rfl) K s
theorem bM:den prog ann 91 (.code r7::K) s=ah prog ann 91 (some [0,2]) [] none [] [qC 13 0,qF 14 fun s=>binA prog .geq 76 (s.get 13) (.int .u64 256)] K s:=(ae hf _ K s).trans (by kernel_rfl)
theorem cw:den prog ann 91 (.code i2::K) s=ifV prog ann 91 14 i2t i2e K s (s.get 14):=aB hf (by kernel_rfl) K s
theorem bY:den prog ann 91 (.code i2e::K) s=den prog ann 91 (K) s:=af hf (l:=[]) (by kernel_rfl) K s
theorem bV:den prog ann 91 (.code r10::K) s=ah prog ann 91 (some [0,2]) [] none [] [qC 19 2,qC 20 0,qA 21 (convInt .u8) 20,qA 22 (idxStr (.str [0,1,2,2,3,3,3,3,4,4,4,4,4,4,4,4,5,5,5,5,5,5,5,5,5,5,5,5,5,5,5,5,6,6,6,6,6,6,6,6,6,6,6,6,6,6,6,6,6,6,6,6,6,6,6,6,6,6,6,6,6,6,6,6,7,7,7,7,7,7,7,7,7,7,7,7,7,7,7,7,7,7,7,7,7,7,7,7,7,7,7,7,7,7,7,7,7,7,7,7,7,7,7,7,7,7,7,7,7,7,7,7,7,7,7,7,7,7,7,7,7,7,7,7,7,7,7,7,8,8,8,8,8,8,8,8,8,8,8,8,8,8,8,8,8,8,8,8,8,8,8,8,8,8,8,8,8,8,8,8,8,8,8,8,8,8,8,8,8,8,8,8,8,8,8,8,8,8,8,8,8,8,8,8,8,8,8,8,8,8,8,8,8,8,8,8,8,8,8,8,8,8,8,8,8,8,8,8,8,8,8,8,8,8,8,8,8,8,8,8,8,8,8,8,8,8,8,8,8,8,8,8,8,8,8,8,8,8,8,8,8,8,8,8,8,8,8,8,8,8,8,8,8,8,8,8])) 21,qA 23 (convInt .i64) 22,qB 24 (binA prog .add 3) 19 23,qC 2 24] K s:=(ae hf _ K s).trans (by kernel_rfl)
theorem aE:den prog ann 91 (.code .ret::K) s=finM true [fun s=>some (s.get 2)] s:=(aO hf K s).trans (by kernel_rfl)
theorem al (v0:AV) (m:Mem) (h:closedL [v0]=true):denC prog ann 91 [v0] m=(den prog ann 91 [.code b] ⟨[(0,v0)],25,Mem.empty⟩).bind fun r=>some (r.1,m):=(bD hf (b:=b) (by kernel_rfl) (by kernel_rfl) (by kernel_rfl) h m).trans (by kernel_rfl)
theorem aq:(ann 91).pure=true:=by kernel_rfl
attribute [simp] aV aH aI aU aL bg bC aY bM cw bY bV aE aq
end
end dv
end Go.Proofs.YtadofgdidhpnpaaGreatDoor

/-
  THE SORT OF AT MOST TWO ROOTS. Conditions: none.
-/
namespace Go.Proofs.YtadofgdidhpnpaaGreatDoor
open Go.AM
open Go.Proofs
open Go.Proofs.Tryz (prog)
set_option linter.all false
set_option maxRecDepth 100000
theorem wi0:IntKind.wrap .i64 0=0:=by decide
theorem wi1:IntKind.wrap .i64 1=1:=by decide
theorem wi2:IntKind.wrap .i64 2=2:=by decide
theorem wi3:IntKind.wrap .i64 3=3:=by decide
theorem AE (m:Mem):denC prog ann 82 [.nils,.int .i64 0,.int .i64 0,.fn 42 [] []] m=some (.tup [],m):=by
 rw [aP.al]
 simp [aP.aM,wi1]
theorem Ci (x:AV) (m:Mem):denC prog ann 82 [x,.int .i64 0,.int .i64 1,.fn 42 [] []] m=some (.tup [],m):=by
 rw [aP.al]
 simp [aP.aM,wi1]
theorem AF (n1 n2 t1 t2:Nat) (h1:n1 < 1000) (h2:n2 < 1000) (m:Mem):denC prog ann 42 [.agg [.int .u64 n2,.int .i64 t2],.agg [.int .u64 n1,.int .i64 t1]] m=some (.int .i64 ((n1:Int) - n2),m):=by
 rw [iy.al]
 have w1:IntKind.wrap .i64 (n1:Int)=(n1:Int):=by simp [IntKind.wrap,IntKind.signed,IntKind.bits];omega
 have w2:IntKind.wrap .i64 (n2:Int)=(n2:Int):=by simp [IntKind.wrap,IntKind.signed,IntKind.bits];omega
 have w3:IntKind.wrap .i64 ((n1:Int) - n2)=(n1:Int) - n2:=by simp [IntKind.wrap,IntKind.signed,IntKind.bits];omega
 simp [frozenPtr,w1,w2,w3]
theorem Cj (L n1 n2 t1 t2:Nat) (h1:n1 < 1000) (h2:n2 < 1000) (m:Mem) (hL:m.h L=some (.cells [.int .u64 n1,.int .i64 t1,.int .u64 n2,.int .i64 t2])) :
  ∃m',denC prog ann 82 [.sl L 2 0 2 4,.int .i64 0,.int .i64 2,.fn 42 [] []] m=some (.tup [],m')∧m.nx≤m'.nx∧(∀x,x≠L→m'.h x=m.h x) ∧
   m'.h L=some (.cells (if n1 < n2 then [.int .u64 n2,.int .i64 t2,.int .u64 n1,.int .i64 t1] else [.int .u64 n1,.int .i64 t1,.int .u64 n2,.int .i64 t2])):=by
 rw [aP.al]
 have c:=AF n1 n2 t1 t2 h1 h2
 by_cases h:n1 < n2
 ·have d:decide ((n1:Int) - n2 < 0)=true:=by simp;omega
  simp [aP.aM,aP.dt,wi0,wi1,wi2,hL,c,d,h]
  refine⟨by omega,fun x hx=>?_⟩
  have:(x==L)=false:=by simpa using hx
  simp [this]
 ·have d:decide ((n1:Int) - n2 < 0)=false:=by simp;omega
  simp [aP.aM,aP.dt,wi0,wi1,wi2,hL,c,d,h]
theorem AG (K:List Item) (s:St):den prog ann 67 (.code cz.i0::K) s=den prog ann 67 K s:=by
 have h:cz.i0=.cond (.const (.bool false)) (az cz.i0) .skip:=by kernel_rfl
 rw [h,cT,cz.hf]
 exact af cz.hf (c:=.skip) (l:=[]) (by kernel_rfl) K s
theorem IV (m:Mem):denC prog ann 67 [.int .u64 0] m=some (.int .i64 0,m):=by
 rw [cz.al _ _ (by simp)]
 have:∀m,denC prog ann 91 [.int .u64 0] m=some (.int .i64 0,m):=fun m=>by
  rw [dv.al _ _ (by simp)]
  simp [idxStr,inR,IntKind.wrap,IntKind.signed,IntKind.bits]
 simp [this,AG]
theorem IW (m:Mem):denC prog ann 67 [.int .u64 1] m=some (.int .i64 1,m):=by
 rw [cz.al _ _ (by simp)]
 have:∀m,denC prog ann 91 [.int .u64 1] m=some (.int .i64 1,m):=fun m=>by
  rw [dv.al _ _ (by simp)]
  simp [idxStr,inR,IntKind.wrap,IntKind.signed,IntKind.bits]
 simp [this,AG]
theorem IX (m:Mem):denC prog ann 67 [.int .u64 2] m=some (.int .i64 2,m):=by
 rw [cz.al _ _ (by simp)]
 have:∀m,denC prog ann 91 [.int .u64 2] m=some (.int .i64 2,m):=fun m=>by
  rw [dv.al _ _ (by simp)]
  simp [idxStr,inR,IntKind.wrap,IntKind.signed,IntKind.bits]
 simp [this,AG]
theorem wu0:IntKind.wrap .u64 0=0:=by decide
theorem wu1:IntKind.wrap .u64 1=1:=by decide
theorem wu2:IntKind.wrap .u64 2=2:=by decide
theorem yu (m:Mem):denC prog ann 41 [.nils,.fn 42 [] []] m=some (.tup [],m):=by
 rw [cM.al]
 have h:denC prog ann 66 [.nils,.int .i64 0,.int .i64 0,.int .i64 0,.fn 42 [] []] m=some (.tup [],m):=by
  rw [bJ.al]
  simp [bJ.aM,wi0,AE]
 simp [wu0,IV,h]
theorem rZ (L:Nat) (m:Mem):denC prog ann 41 [.sl L 2 0 1 2,.fn 42 [] []] m=some (.tup [],m):=by
 rw [cM.al]
 have h:denC prog ann 66 [.sl L 2 0 1 2,.int .i64 0,.int .i64 1,.int .i64 1,.fn 42 [] []] m=some (.tup [],m):=by
  rw [bJ.al]
  simp [bJ.aM,wi1,Ci]
 simp [wu1,IW,h]
theorem AB (L n1 n2 t1 t2:Nat) (h1:n1 < 1000) (h2:n2 < 1000) (m:Mem) (hL:m.h L=some (.cells [.int .u64 n1,.int .i64 t1,.int .u64 n2,.int .i64 t2])) :
  ∃m',denC prog ann 41 [.sl L 2 0 2 4,.fn 42 [] []] m=some (.tup [],m')∧m.nx≤m'.nx∧(∀x,x≠L→m'.h x=m.h x) ∧
   m'.h L=some (.cells (if n1 < n2 then [.int .u64 n2,.int .i64 t2,.int .u64 n1,.int .i64 t1] else [.int .u64 n1,.int .i64 t1,.int .u64 n2,.int .i64 t2])):=by
 obtain⟨m',k1,k2⟩:=Cj L n1 n2 t1 t2 h1 h2 m hL
 refine⟨m',?_,k2⟩
 rw [cM.al]
 have h:denC prog ann 66 [.sl L 2 0 2 4,.int .i64 0,.int .i64 2,.int .i64 2,.fn 42 [] []] m=some (.tup [],m'):=by
  rw [bJ.al]
  simp [bJ.aM,wi2,k1]
 simp [wu2,IX,h]
end Go.Proofs.YtadofgdidhpnpaaGreatDoor

/-
  A DISK's CELLS. Conditions: none.
-/
namespace Go.Proofs.YtadofgdidhpnpaaGreatDoor
open Go.AM
open Go.Proofs
open Go.Proofs.Tryz (prog)
set_option linter.all false
set_option maxRecDepth 100000
def pgF (p:Nat→List UInt8):Nat→Nat→List AV
 | _,0=>[]
 | s,c+1=>u8L (p s)++pgF p (s+1) c
theorem dj {p:Nat→List UInt8} (hp:∀i,(p i).length=256):∀(c s:Nat),(pgF p s c).length=c*256
 | 0,_=>by simp [pgF]
 | c+1,s=>by simp [pgF,dj hp c,aN,hp];omega
theorem qa (p:Nat→List UInt8):∀(a s b:Nat),pgF p s (a+b)=pgF p s a++pgF p (s+a) b
 | 0,s,b=>by simp [pgF]
 | a+1,s,b=>by
  rw [show a+1+b=(a+b)+1 by omega,pgF,pgF,qa p a (s+1) b,List.append_assoc,show s+1+a=s+(a+1) by omega]
theorem kX {p q:Nat→List UInt8}:∀(c s:Nat),(∀i,s≤i→i < s+c→p i=q i)→pgF p s c=pgF q s c
 | 0,_,_=>rfl
 | c+1,s,h=>by
  rw [pgF,pgF,h s (Nat.le_refl _) (by omega),kX c (s+1) fun i h1 h2=>h i (by omega) (by omega)]
def updP (p:Nat→List UInt8) (k:Nat) (b:List UInt8):Nat→List UInt8:=fun i=>if i=k then b else p i
theorem sA {p:Nat→List UInt8} (hp:∀i,(p i).length=256) {k:Nat} {b:List UInt8} (hb:b.length=256) (i:Nat):(updP p k b i).length=256:=by
 unfold updP;split
 ·exact hb
 ·exact hp i
theorem jt {A B C new:List AV} (hn:new.length≤B.length):splice (A++(B++C)) A.length new=A++((new++B.drop new.length)++C):=by
 rw [splice,List.take_left,List.drop_length_add_append,List.drop_append_of_le_length hn,List.append_assoc,List.append_assoc]
structure Tail (T:List AV) (p:Nat→List UInt8) (sf:AV):Prop where
 eq:T=pgF p 0 256++[sf]
 hp:∀i,(p i).length=256
section
variable {T : List AV} {p : Nat → List UInt8} {sf : AV} (h : Tail T p sf)
include h
theorem Tail.len:T.length=65537:=by rw [h.eq];simp [dj h.hp]
theorem Tail.cut {k:Nat} (hk:k < 256):T=pgF p 0 k++(u8L (p k)++(pgF p (k+1) (255 - k)++[sf])):=by
 rw [h.eq,show 256=k+((255 - k)+1) by omega,qa,pgF,Nat.zero_add,List.append_assoc,List.append_assoc]
theorem Tail.Ej {k:Nat} (hk:k < 256):(T.drop (k*256)).take 256=u8L (p k):=by
 rw [h.cut hk,List.drop_left' (dj h.hp k 0),List.take_left' (by rw [aN,h.hp])]
theorem Tail.safe:T[65536]?=some sf:=by
 rw [h.eq,List.getElem?_append_right (by rw [dj h.hp];omega),dj h.hp];rfl
theorem Tail.Hq:T.take 65536=pgF p 0 256:=by
 rw [h.eq,List.take_left' (by rw [dj h.hp])]
theorem Tail.gw (sf':AV):Tail (T.set 65536 sf') p sf':=by
 refine⟨?_,h.hp⟩
 rw [h.eq,List.set_append_right _ _ (by rw [dj h.hp];omega),dj h.hp]
 rfl
theorem Tail.write {k:Nat} (hk:k < 256) {b:List UInt8} (hb:b.length=256):Tail (splice T (k*256) (u8L b)) (updP p k b) sf:=by
 refine⟨?_,sA h.hp hb⟩
 have e:pgF (updP p k b) 0 256++[sf]=pgF p 0 k++(u8L b++(pgF p (k+1) (255 - k)++[sf])):=by
  have h2:Tail (pgF (updP p k b) 0 256++[sf]) (updP p k b) sf:=⟨rfl,sA h.hp hb⟩
  rw [h2.cut hk]
  have e1:updP p k b k=b:=by simp [updP]
  rw [e1,kX k 0 (p:=updP p k b) (q:=p) (fun i _ hi=>by simp [updP];omega),kX (255 - k) (k+1) (p:=updP p k b) (q:=p) (fun i hi _=>by simp [updP];omega)]
 have hm:=jt (A:=pgF p 0 k) (B:=u8L (p k)) (C:=pgF p (k+1) (255 - k)++[sf]) (new:=u8L b) (by rw [aN,aN,h.hp,hb];exact Nat.le_refl _)
 rw [dj h.hp k 0] at hm
 rw [e,h.cut hk,hm,List.drop_of_length_le (by rw [aN,aN,h.hp,hb];exact Nat.le_refl _),List.append_nil]
theorem Tail.copy {k:Nat} (hk:k < 256) {b:List UInt8} (hb:b.length≤256) {c:Nat} (hc:c+b.length≤256):Tail (splice T (k*256+c) (u8L b)) (updP p k ((p k).take c++(b++(p k).drop (c+b.length)))) sf:=by
 have hq:((p k).take c++(b++(p k).drop (c+b.length))).length=256:=by simp [h.hp];omega
 have h1:=h.write hk hq
 have e:splice T (k*256+c) (u8L b)=splice T (k*256) (u8L ((p k).take c++(b++(p k).drop (c+b.length)))):=by
  have hB1:(u8L ((p k).take c)).length=c:=by rw [aN];simp [h.hp];omega
  have hsp:u8L (p k)=u8L ((p k).take c)++u8L ((p k).drop c):=by rw [pK,List.take_append_drop]
  have eq:u8L ((p k).take c++(b++(p k).drop (c+b.length)))=u8L ((p k).take c)++(u8L b++u8L ((p k).drop (c+b.length))):=by rw [pK,pK]
  obtain⟨q,hqq⟩:∃q,(p k).take c++(b++(p k).drop (c+b.length))=q:=⟨_,rfl⟩
  rw [hqq] at hq eq ⊢
  have hm:=jt (A:=pgF p 0 k) (B:=u8L (p k)) (C:=pgF p (k+1) (255 - k)++[sf]) (new:=u8L q) (by rw [aN,aN,h.hp,hq];exact Nat.le_refl _)
  have hm2:=jt (A:=pgF p 0 k++u8L ((p k).take c)) (B:=u8L ((p k).drop c)) (C:=pgF p (k+1) (255 - k)++[sf]) (new:=u8L b) (by rw [aN,aN];simp [h.hp];omega)
  rw [List.length_append,hB1,dj h.hp k 0] at hm2
  rw [dj h.hp k 0,List.drop_of_length_le (by rw [aN,aN,h.hp,hq];exact Nat.le_refl _),List.append_nil] at hm
  have ed:List.drop (u8L b).length (u8L ((p k).drop c))=u8L ((p k).drop (c+b.length)):=by
   rw [aN,u8L,← List.map_drop,List.drop_drop];rfl
  rw [ed] at hm2
  rw [h.cut hk,hm,eq]
  have e0:pgF p 0 k++(u8L (p k)++(pgF p (k+1) (255 - k)++[sf]))=pgF p 0 k++u8L ((p k).take c)++(u8L ((p k).drop c)++(pgF p (k+1) (255 - k)++[sf])):=by
   rw [hsp];simp only [List.append_assoc]
  rw [e0,hm2]
  simp only [List.append_assoc]
 rw [e];exact h1
end
end Go.Proofs.YtadofgdidhpnpaaGreatDoor

/-
  A DISK: acts, writes, syncs. Conditions: none.
-/
namespace Go.Proofs.YtadofgdidhpnpaaGreatDoor
open Go.AM
open Go.Proofs
open Go.Proofs.Tryz (prog)
set_option linter.all false
set_option maxRecDepth 100000
def dkc (dn:Bool) (lf tn op:Nat) (T:List AV):List AV:=.bool true::.bool dn::.int .i64 lf::.int .i64 tn::.int .i64 op::T
theorem p7 (dn:Bool) (lf tn op:Nat) (T:List AV):(dkc dn lf tn op T).length=T.length+5:=rfl
section
variable {dk : Nat} {dn : Bool} {lf tn op : Nat} {T : List AV} (hT : T.length = 65537)
include hT
theorem fW (m:Mem) (hd:m.h dk=some (.cells (dkc dn lf tn op T))):denC prog ann 22 [.ptr dk 0 65542] m=some (.bool true,m):=by
 rw [gM.al]
 have q:binA prog .neq 36 (.ptr dk 0 65542) .nilp=some (.bool true):=by kernel_rfl
 simp [q,hd,dkc,hT]
theorem wL (m:Mem) (hlf:lf≤1000) (hd:m.h dk=some (.cells (dkc dn lf tn op T))) :
  denC prog ann 75 [.ptr dk 0 65542] m=some (.int .i64 (if lf=1 then 8 else 0),⟨upd m.h dk (some (.cells (dkc (dn||decide (lf=1)) (lf - 1) tn op T))),m.nx⟩):=by
 rw [iw.al]
 have w:IntKind.wrap .i64 ((lf:Int) - 1)=(lf:Int) - 1:=by simp [IntKind.wrap,IntKind.signed,IntKind.bits];omega
 rcases(by omega:lf=0∨lf=1∨2≤lf) with rfl | rfl | h2
 ·have e:(⟨upd m.h dk (some (.cells (dkc dn 0 tn op T))),m.nx⟩:Mem)=m:=by rw [tL hd]
  simp [hd,dkc,hT]
  simpa [dkc] using e.symm
 ·simp [hd,dkc,hT,wi0]
 ·have c1:decide ((0:Int) < lf)=true:=by simp;omega
  have c2:decide ((lf:Int) - 1=0)=false:=by simp;omega
  have c3:¬lf=1:=by omega
  have c4:((lf - 1:Nat):Int)=(lf:Int) - 1:=by omega
  have c5:decide (lf=1)=false:=by simp;omega
  have c6:decide (0 < lf)=true:=by simp;omega
  simp [hd,dkc,hT,w,c1,c2,c3,c4,c5,c6]
theorem sw (m:Mem) (hlf:lf≤1000) (hd:m.h dk=some (.cells (dkc false lf tn op T))) (hdx:dk < m.nx) :
  ∃m',denC prog ann 50 [.ptr dk 0 65542] m=some (.int .i64 (if lf=1 then 8 else 0),m')∧m.nx≤m'.nx∧(∀x,x < m.nx→x≠dk→m'.h x=m.h x) ∧
   (lf=1→m'.h dk=some (.cells (dkc true 0 tn op T)))∧(lf≠1→m'.h dk=some (.cells (dkc false (lf - 1) tn op (T.set 65536 (.map m.nx))))∧m'.h m.nx=some (.map 0 [] [])∧m.nx < m'.nx):=by
 rw [gN.al]
 have g:=fW hT m hd
 have a:=wL hT m hlf hd
 have q1:(dk==m.nx)=false:=by simp;omega
 have q2:(m.nx==dk)=false:=by simp;omega
 by_cases h1:lf=1
 ·subst h1
  simp at a
  simp [g,a,hd,dkc,hT]
  intro x hx hxd
  have:(x==dk)=false:=by simpa using hxd
  simp [this]
 ·have h2:decide (lf=1)=false:=by simp [h1]
  simp [h1] at a
  simp [g,a,h1,hd,dkc,hT,q1,q2]
  intro x hx hxd
  have r1:(x==dk)=false:=by simpa using hxd
  have r2:(x==m.nx)=false:=by simp;omega
  simp [r1,r2]
theorem yy {p:Nat→List UInt8} {S g:Nat} (hTl:Tail T p (.map S)) (m:Mem) (hlf:lf≤1000) (hd:m.h dk=some (.cells (dkc false lf tn op T))) (hdx:dk < m.nx) (hS:m.h S=some (.map g [] [])) (hSx:S < m.nx) (hSd:S≠dk) (k:Nat) (hk:k < 256) (x:Bool) (b:List UInt8) (hb:b.length≤256) :
  ∃m' T',denC prog ann 49 [.ptr dk 0 65542,.int .i64 k,.fsl x b.length (u8L b)] m=some (.int .i64 (if lf=1 then 8 else 0),m')∧m.nx≤m'.nx∧(∀x,x < m.nx→x≠dk→x≠S→m'.h x=m.h x) ∧
   m'.h dk=some (.cells (dkc (decide (lf=1)) (lf - 1) tn op T'))∧Tail T' (updP p k (padB b)) (.map S)∧m'.h S=some (.map (g+1) [.int .i64 k] [.agg (u8L (p k))]):=by
 rw [fX.al]
 have g0:=fW hT m hd
 have d1:decide ((k:Int) < 0)=false:=by simp
 have d2:decide ((256:Int)≤(k:Int))=false:=by simp;omega
 have d3:decide ((256:Int) < (b.length:Int))=false:=by simp;omega
 have d4:decide (256≤k)=false:=by simp;omega
 have d5:decide (256 < b.length)=false:=by simp;omega
 have d6:decide (k < 256)=true:=by simp;omega
 obtain⟨Z,hZ⟩:∃Z,page0=Z:=⟨_,rfl⟩
 have h1:Z.length=256:=by rw [← hZ,cE]
 have h2:oneL Z=true:=by rw [← hZ];exact cR
 have h3:closedL Z=true:=by rw [← hZ];rfl
 have e2:List.take 256 Z=Z:=List.take_of_length_le (by omega)
 have lk:=fun z n=>jQ (m:=m) z n hS
 have sfe:=hTl.safe
 obtain⟨sl,sfe'⟩:=List.getElem?_eq_some_iff.1 sfe
 have dr:∀(A:List AV) (a b c d e:AV) (n:Nat),List.drop (5+n) (a::b::c::d::e::A)=List.drop n A:=fun A a b c d e n=>by rw [show 5+n=n+5 by omega];rfl
 have pg:=hTl.Ej hk
 have t5:5+k*256+256≤65542:=by omega
 have q1:(dk==m.nx)=false:=by simp;omega
 have q2:(S==m.nx)=false:=by simp;omega
 have q3:(S==dk)=false:=by simpa using hSd
 have q4:(dk==S)=false:=by simpa using fun h=>hSd h.symm
 have u1:∀h:Nat→Option AObj,h S=some (.map g [] [])→∀(nx:Nat) (n:Int) (v:AV),updM prog ⟨h,nx⟩ 3 (.map S) (.int .i64 n) v=some (.tup [],⟨upd h S (some (.map (g+1) [.int .i64 n] [v])),nx⟩):=fun h hP nx n v=>pR n v hP
 have tk:∀(A:List AV) (a b c d e:AV) (n:Nat),List.take (5+n) (a::b::c::d::e::A)=a::b::c::d::e::List.take n A:=fun A a b c d e n=>by rw [show 5+n=n+5 by omega];rfl
 obtain⟨T1,hT1⟩:∃T1,splice T (k*256) Z=T1:=⟨_,rfl⟩
 have hZu:Z=u8L (List.replicate 256 0):=by rw [← hZ,gZ]
 have l1:Tail T1 (updP p k (List.replicate 256 0)) (.map S):=by rw [← hT1,hZu];exact hTl.write hk (by simp)
 have n1:=l1.len
 have f1:List.take (k*256) T++(Z++List.drop (5+k*256+251) T)=T1:=by
  rw [← hT1,splice,h1,List.append_assoc,show 5+k*256+251=k*256+256 by omega]
 have f1':List.take (k*256) T++(Z++List.drop (k*256+256) T)=T1:=by
  rw [← hT1,splice,h1,List.append_assoc]
 have sa:sliceArr 256 1 (.ptr dk (5+k*256) 65542) none none=some (.sl dk 1 (5+k*256) 256 65542):=by simp [sliceArr,bnds,bnd,t5]
 have tb:List.take (min b.length 256) (u8L b)=u8L b:=List.take_of_length_le (by rw [aN];omega)
 have dr2:∀(A:List AV) (a b c d e:AV) (n j:Nat),List.drop (5+n+j) (a::b::c::d::e::A)=List.drop (n+j) A:=fun A a b c d e n j=>by rw [show 5+n+j=(n+j)+5 by omega];rfl
 obtain⟨T2,hT2⟩:∃T2,splice T1 (k*256) (u8L b)=T2:=⟨_,rfl⟩
 have l2:Tail T2 (updP p k (padB b)) (.map S):=by
  have:=l1.copy hk hb (c:=0) (by omega)
  have e1:(List.take 0 (updP p k (List.replicate 256 0) k)++(b++List.drop (0+b.length) (updP p k (List.replicate 256 0) k)))=padB b:=by
   rw [pJ,List.take_zero,List.nil_append,List.take_of_length_le hb,Nat.zero_add]
   have e0:updP p k (List.replicate 256 0) k=List.replicate 256 0:=by simp only [updP,if_true]
   rw [e0,List.drop_replicate]
  have e3:updP (updP p k (List.replicate 256 0)) k (padB b)=updP p k (padB b):=by
   funext i;simp only [updP];split<;>rfl
  rw [e1,e3,Nat.add_zero,hT2] at this
  exact this
 have n2:=l2.len
 have f2:List.take (k*256) T1++(u8L b++List.drop (k*256+b.length) T1)=T2:=by
  rw [← hT2,splice,aN,List.append_assoc]
 have ac:∀(h:Nat→Option AObj) (nx:Nat),h dk=some (.cells (.bool true::.bool false::.int .i64 lf::.int .i64 tn::.int .i64 op::T2))→denC prog ann 75 [.ptr dk 0 65542] ⟨h,nx⟩=some (.int .i64 (if lf=1 then 8 else 0),⟨upd h dk (some (.cells (dkc (decide (lf=1)) (lf - 1) tn op T2))),nx⟩):=fun h nx hh=>by
  have:=wL n2 (dk:=dk) (dn:=false) (tn:=tn) (op:=op) ⟨h,nx⟩ hlf hh
  simpa using this
 simp [g0,d1,d2,d3,d4,d5,d6,hd,dkc,hT,hZ,h1,h2,h3,e2,sfe,sfe',lk,dr,pg,t5,q1,q2,q3,q4,hS,u1,tk,f1',sa,fU,aN,tb,n1,dr2,f2,ac]
 refine⟨by omega,fun x hx h1 h2=>?_,l2⟩
 have r1:(x==dk)=false:=by simpa using h1
 have r2:(x==S)=false:=by simpa using h2
 have r3:(x==m.nx)=false:=by simp;omega
 simp [r1,r2,r3]
end
end Go.Proofs.YtadofgdidhpnpaaGreatDoor

/-
  A DISK: new, armed, restarted. Conditions: none.
-/
namespace Go.Proofs.YtadofgdidhpnpaaGreatDoor
open Go.AM
open Go.Proofs
open Go.Proofs.Tryz (prog)
set_option linter.all false
set_option maxRecDepth 100000
theorem Ch {dk:Nat} {dn:Bool} {lf tn op:Nat} {T:List AV} (hT:T.length=65537) (m:Mem) (hd:m.h dk=some (.cells (dkc dn lf tn op T))) (n:Nat) :
  denC prog ann 8 [.ptr dk 0 65542,.int .i64 n] m=some (.tup [],⟨upd m.h dk (some (.cells (dkc dn n tn op T))),m.nx⟩):=by
 rw [iv.al]
 have g:=fW hT m hd
 have d:decide ((n:Int) < 0)=false:=by simp
 have d2:(if (n:Int) < 0 then(0:Int) else n)=n:=by split<;>omega
 simp [g,hd,dkc,hT,foldA,max2A,kk,d2]
theorem sy {t:List (Nat×AV)} {nt:Nat} {dk:Nat} {dn:Bool} {lf tn op S g:Nat} {T:List AV} {p:Nat→List UInt8} {ks vs:List AV} (hT:Tail T p (.map S)) {h:Nat→Option AObj} {nx:Nat} (h0:AM.get t 0=.ptr dk 0 65542) (hd:h dk=some (.cells (dkc dn lf tn op T))) (hS:h S=some (.map g ks vs)) (hc:(closedL ks&&closedL vs)=true) (hSd:S≠dk) :
  frz1 ⟨t,nt,⟨h,nx⟩⟩ 700000=some ⟨t,nt,⟨upd (upd h S none) dk (some (.cells (dkc dn lf tn op (T.set 65536 (.fmap ks vs))))),nx⟩⟩:=by
 have hl:=hT.len
 have q3:(S==dk)=false:=by simpa using hSd
 have e1:(dkc dn lf tn op T)[65541]?=some (.map S):=hT.safe
 have e2:(dkc dn lf tn op T).length=65542:=by rw [p7,hl]
 have b1:Nat.blt 700000 1000=false:=rfl
 have b2:Nat.ble 1000000 700000=false:=rfl
 have b3:Nat.ble 900000 700000=false:=rfl
 have b4:(Nat.blt 700000 800000&&Nat.ble 700000 700000)=true:=rfl
 have b5:700000 % 1000=0:=rfl
 simp only [frz1,b1,b2,b3,b4,b5,cond_false,cond_true,St.get,h0,frzMC,hd,e2,beq_self_eq_true,cellJ,frzMJ,e1,Option.bind_some,q3,frzM,hS,hc]
 rfl
theorem yz {R:Type} (F:Nat→Option R):allOf 1 F=F 0:=by
 unfold allOf
 split
 ·rename_i h
  exact(h.choose_spec.2 0 (by omega)).symm
 ·rename_i h
  cases hF:F 0 with
  | none=>rfl
  | some r=>exact(h ⟨r,by omega,fun i hi=>by rw [show i=0 by omega];exact hF⟩).elim
theorem oW {R:Type} {s:St} {d:Option Nat} {id:Nat} {c:List AV} {a v:AV} {k:St→Option R} (h:s.m.h id=some (.iter c [a] [v])):nextM s d (.iter id) k=((s.mem (s.m.set id (some (.iter [a,v] [] [])))).put d (.tup [.bool true,a,v])).bind k:=by
 simp only [nextM,h]
 exact yz _
theorem lM {dk I:Nat} {dn:Bool} {lf tn op:Nat} {T c:List AV} (hl:T.length=65537) (x4:AV) (m:Mem) (hd:m.h dk=some (.cells (dkc dn lf tn op T))) (hI:m.h I=some (.iter c [] [])) (hdx:dk < m.nx) (htn:tn < 1000) :
  ∃m',bS.L0 (.ptr dk 0 65542) x4 (.iter I) m [.code bS.r6,.code bS.r7,.code bS.r8]=some (.tup [],m')∧m.nx < m'.nx∧m'.h dk=some (.cells (dkc false 0 (tn+1) op (T.set 65536 (.map m.nx))))∧m'.h m.nx=some (.map 0 [] []):=by
 have q1:(dk==m.nx)=false:=by simp;omega
 have q2:(m.nx==dk)=false:=by simp;omega
 have w:IntKind.wrap .i64 ((tn:Int)+1)=(tn:Int)+1:=by simp [IntKind.wrap,IntKind.signed,IntKind.bits];omega
 rw [bS.aM]
 simp [kN (s:=⟨[(0,.ptr dk 0 65542),(4,x4),(17,.iter I)],50,m⟩) hI,hd,dkc,hl,q1,q2,w]
theorem qd {dk:Nat} {dn:Bool} {lf tn op S g:Nat} {T:List AV} {p:Nat→List UInt8} (hT:Tail T p (.map S)) (m:Mem) (hd:m.h dk=some (.cells (dkc dn lf tn op T))) (hS:m.h S=some (.map g [] [])) (hdx:dk < m.nx) (hSx:S < m.nx) (hSd:S≠dk) (n:Nat) (hn:n < 1000) (htn:tn < 1000) :
  ∃m' T',denC prog ann 11 [.ptr dk 0 65542,.int .i64 n] m=some (.tup [],m')∧m.nx≤m'.nx∧m'.h dk=some (.cells (dkc false 0 (tn+1) op T'))∧∃S',Tail T' p (.map S')∧m'.h S'=some (.map 0 [] [])∧S' < m'.nx∧S'≠dk:=by
 rw [bS.al]
 have g0:=fW hT.len m hd
 have hl:=hT.len
 obtain⟨sl,sfe'⟩:=List.getElem?_eq_some_iff.1 hT.safe
 have q3:(S==dk)=false:=by simpa using hSd
 have q4:(dk==S)=false:=by simpa using fun h=>hSd h.symm
 have q5:(dk==m.nx)=false:=by simp;omega
 have d2:(if (n:Int) < 0 then(0:Int) else n)=n:=by split<;>omega
 have fz:=fun t (h0:AM.get t 0=.ptr dk 0 65542)=>sy (t:=t) (nt:=50) (nx:=m.nx) hT h0 hd hS rfl hSd
 obtain⟨H,hH⟩:∃H,upd (upd (upd m.h S none) dk (some (.cells (.bool true::.bool dn::.int .i64 lf::.int .i64 tn::.int .i64 op::T.set 65536 (.fmap [] []))))) m.nx (some (.iter [] [] []))=H:=⟨_,rfl⟩
 obtain⟨m',k1,k2,k3,k4⟩:=lM (dk:=dk) (I:=m.nx) (dn:=dn) (lf:=lf) (tn:=tn) (op:=op) (T:=T.set 65536 (.fmap [] [])) (by simp [hl]) (.int .i64 ((n:Int).tmod 257)) ⟨H,m.nx+1⟩ (by simp [← hH,q5,dkc]) (c:=[]) (by simp [← hH]) (by simp;omega) htn
 have l1:=(hT.gw (.fmap [] [])).gw (.map (m.nx+1))
 simp [g0,hd,dkc,hl,foldA,max2A,kk,d2,hT.safe,sfe',hS,q3,q4,fz,rangeA,hH,k1]
 simp at k2 k3 k4
 refine⟨by omega,_,by simpa [dkc] using k3,m.nx+1,by simpa using l1,by simpa using k4,by omega,by omega⟩
theorem sx {dk:Nat} {dn:Bool} {lf tn op S g k:Nat} {T:List AV} {p:Nat→List UInt8} {old:List UInt8} (hk:k < 256) (hold:old.length=256) (hT:Tail T p (.map S)) (m:Mem) (hd:m.h dk=some (.cells (dkc dn lf tn op T))) (hS:m.h S=some (.map g [.int .i64 k] [.agg (u8L old)])) (hdx:dk < m.nx) (hSx:S < m.nx) (hSd:S≠dk) (n:Nat) (hn:n < 1000) (htn:tn < 1000) :
  ∃m' T',denC prog ann 11 [.ptr dk 0 65542,.int .i64 n] m=some (.tup [],m')∧m.nx≤m'.nx∧m'.h dk=some (.cells (dkc false 0 (tn+1) op T'))∧∃S',Tail T' (updP p k ((p k).take (n % 257)++old.drop (n % 257))) (.map S')∧m'.h S'=some (.map 0 [] [])∧S' < m'.nx∧S'≠dk:=by
 rw [bS.al]
 have g0:=fW hT.len m hd
 have hl:=hT.len
 obtain⟨sl,sfe'⟩:=List.getElem?_eq_some_iff.1 hT.safe
 have q3:(S==dk)=false:=by simpa using hSd
 have q4:(dk==S)=false:=by simpa using fun h=>hSd h.symm
 have q5:(dk==m.nx)=false:=by simp;omega
 have d2:(if (n:Int) < 0 then(0:Int) else n)=n:=by split<;>omega
 have fz:=fun t (h0:AM.get t 0=.ptr dk 0 65542)=>sy (t:=t) (nt:=50) (nx:=m.nx) hT h0 hd hS (by simp [closedL,AV.closed,bZ]) hSd
 obtain⟨c,hc⟩:∃c,n % 257=c:=⟨_,rfl⟩
 have hc':c≤256:=by omega
 have ht:(n:Int).tmod 257=(c:Int):=by rw [Int.tmod_eq_emod_of_nonneg (by omega)];omega
 obtain⟨H,hH⟩:∃H,upd (upd (upd m.h S none) dk (some (.cells (.bool true::.bool dn::.int .i64 lf::.int .i64 tn::.int .i64 op::T.set 65536 (.fmap [.int .i64 k] [.agg (u8L old)]))))) m.nx (some (.iter [] [.int .i64 k] [.agg (u8L old)]))=H:=⟨_,rfl⟩
 simp [g0,hd,dkc,hl,foldA,max2A,kk,d2,hT.safe,sfe',hS,q3,q4,fz,rangeA,hH,ht,hc]
 rw [bS.aM]
 have hHI:H m.nx=some (.iter [] [.int .i64 k] [.agg (u8L old)]):=by simp [← hH]
 obtain⟨Z,hZ⟩:∃Z,page0=Z:=⟨_,rfl⟩
 have h1:Z.length=256:=by rw [← hZ,cE]
 have h2:oneL Z=true:=by rw [← hZ];exact cR
 have e2:List.take 256 (u8L old)=u8L old:=List.take_of_length_le (by rw [aN];omega)
 have e3:List.drop 256 Z=[]:=List.drop_of_length_le (by omega)
 have l0:=hT.gw (.fmap [.int .i64 k] [.agg (u8L old)])
 obtain⟨T1,hT1⟩:∃T1,T.set 65536 (.fmap [.int .i64 k] [.agg (u8L old)])=T1:=⟨_,rfl⟩
 rw [hT1] at l0 hH
 have n1:=l0.len
 have hod:(old.drop c).length=256 - c:=by simp [hold]
 have l2:=l0.copy hk (b:=old.drop c) (by omega) (c:=c) (by omega)
 have ep:List.take c (p k)++(List.drop c old++List.drop (c+(List.drop c old).length) (p k))=List.take c (p k)++List.drop c old:=by
  have:List.drop (c+(256 - c)) (p k)=[]:=List.drop_of_length_le (by rw [hT.hp];omega)
  rw [hod,this,List.append_nil]
 rw [ep] at l2
 obtain⟨T2,hT2⟩:∃T2,splice T1 (k*256+c) (u8L (old.drop c))=T2:=⟨_,rfl⟩
 rw [hT2] at l2
 have n2:=l2.len
 have dr2:∀(A:List AV) (a b c d e:AV) (n j:Nat),List.drop (5+n+j) (a::b::c::d::e::A)=List.drop (n+j) A:=fun A a b c d e n j=>by rw [show 5+n+j=(n+j)+5 by omega];rfl
 have tk2:∀(A:List AV) (a b c d e:AV) (n j:Nat),List.take (5+n+j) (a::b::c::d::e::A)=a::b::c::d::e::List.take (n+j) A:=fun A a b c d e n j=>by rw [show 5+n+j=(n+j)+5 by omega];rfl
 have dr3:∀(A:List AV) (a b c d e:AV) (n j i:Nat),List.drop (5+n+j+i) (a::b::c::d::e::A)=List.drop (n+j+i) A:=fun A a b c d e n j i=>by rw [show 5+n+j+i=(n+j+i)+5 by omega];rfl
 have eo:List.drop c (u8L old)=u8L (List.drop c old):=by rw [u8L,← List.map_drop];rfl
 have f2:List.take (k*256+c) T1++(u8L (List.drop c old)++List.drop (k*256+c+(256 - c)) T1)=T2:=by
  rw [← hT2,splice,aN,hod,List.append_assoc]
 have d6:decide (k < 256)=true:=by simp;omega
 have t5:5+k*256+256≤65542:=by omega
 have dc:decide ((c:Int)≤256)=true:=by simp;omega
 have sa:sliceArr 256 1 (.ptr dk (5+k*256) 65542) (some (.int .i64 c)) none=some (.sl dk 1 (5+k*256+c) (256 - c) 65542):=by
  simp [sliceArr,bnds,bnd,t5,hc',dc]
 have sb:sliceArr 256 1 (.fptr (u8L old)) (some (.int .i64 c)) none=some (.fsl true (256 - c) (u8L (List.drop c old))):=by
  have:List.take (256 - c) (u8L (List.drop c old))=u8L (List.drop c old):=List.take_of_length_le (by rw [aN,hod];exact Nat.le_refl _)
  simp [sliceArr,bnds,bnd,hc',dc,aN,hold,eo,this]
 have q6:(dk==m.nx+1)=false:=by simp;omega
 have hHd:H dk=some (.cells (.bool true::.bool dn::.int .i64 lf::.int .i64 tn::.int .i64 op::T1)):=by simp [← hH,q5]
 have t6:5+k*256+c+(256 - c)≤65542:=by omega
 have tke:List.take (256 - c) (u8L (List.drop c old))=u8L (List.drop c old):=List.take_of_length_le (by rw [aN,hod];exact Nat.le_refl _)
 simp [oW (s:=⟨[(0,.ptr dk 0 65542),(4,.int .i64 c),(17,.iter m.nx)],50,⟨H,m.nx+1⟩⟩) hHI,curA,hZ,h1,h2,e2,e3,bZ,cQ,aN,hold,d6,sa,sb,fU,hod,q5,q6,hHd,n1,tk2,dr3,tke,f2,t6]
 have q7:(m.nx==dk)=false:=by simp;omega
 obtain⟨m',k1,k2,k3,k4⟩:=lM (dk:=dk) (I:=m.nx) (dn:=dn) (lf:=lf) (tn:=tn) (op:=op) (T:=T2) (c:=[.int .i64 k,.agg (u8L old)]) n2 (.int .i64 c)
  ⟨upd (upd (upd H m.nx (some (.iter [.int .i64 k,.agg (u8L old)] [] []))) (m.nx+1) none) dk (some (.cells (.bool true::.bool dn::.int .i64 lf::.int .i64 tn::.int .i64 op::T2))),m.nx+1+1+10⟩ (by simp [dkc]) (by have q8:(m.nx==m.nx+1)=false:=(by simp);simp [q7,q8]) (by simp;omega) htn
 simp at k2 k3 k4
 refine⟨m',k1,by omega,_,by simpa [dkc] using k3,m.nx+1+1+10,l2.gw _,by simpa using k4,by omega,by omega⟩
end Go.Proofs.YtadofgdidhpnpaaGreatDoor

/-
  A DISK's STATES. Conditions: none.
-/
namespace Go.Proofs.YtadofgdidhpnpaaGreatDoor
open Go.AM
open Go.Proofs
open Go.Proofs.Tryz (prog)
set_option linter.all false
set_option maxRecDepth 100000
def Fr (m m':Mem) (dk S:Nat):Prop:=m.nx≤m'.nx∧∀x,x < m.nx→x≠dk→x≠S→m'.h x=m.h x
theorem Fr.refl (m:Mem) (dk S:Nat):Fr m m dk S:=⟨Nat.le_refl _,fun _ _ _ _=>rfl⟩
theorem Fr.trans {a b c:Mem} {dk S S':Nat} (h:Fr a b dk S) (k:Fr b c dk S') (hS:S'=S∨a.nx≤S'):Fr a c dk S :=
 ⟨Nat.le_trans h.1 k.1,fun x hx h1 h2=>(k.2 x (Nat.lt_of_lt_of_le hx h.1) h1 (by rcases hS with rfl | h3<;>omega)).trans (h.2 x hx h1 h2)⟩
theorem Keep.fr {a b:Mem} (h:Keep a b) (dk S:Nat):Fr a b dk S:=⟨h.1,fun x hx _ _=>h.2 x hx⟩
structure DSt (m:Mem) (dk S:Nat) (dn:Bool) (lf tn op:Nat) (p:Nat→List UInt8) (ks vs:List AV):Prop where
 st:∃T g,m.h dk=some (.cells (dkc dn lf tn op T))∧Tail T p (.map S)∧m.h S=some (.map g ks vs)
 Sx:S < m.nx
 dx:dk < m.nx
 ne:S≠dk
section
variable {m : Mem} {dk S lf tn op : Nat} {dn : Bool} {p : Nat → List UInt8} {ks vs : List AV}
theorem DSt.keep (d:DSt m dk S dn lf tn op p ks vs) {m':Mem} (k:Keep m m'):DSt m' dk S dn lf tn op p ks vs:=by
 obtain⟨T,g,h1,h2,h3⟩:=d.st
 exact⟨⟨T,g,(k.2 _ d.dx).trans h1,h2,(k.2 _ d.Sx).trans h3⟩,Nat.lt_of_lt_of_le d.Sx k.1,Nat.lt_of_lt_of_le d.dx k.1,d.ne⟩
theorem DSt.hp (d:DSt m dk S dn lf tn op p ks vs):∀i,(p i).length=256:=by
 obtain⟨T,g,h1,h2,h3⟩:=d.st;exact h2.hp
theorem oZ (d:DSt m dk S false 1 tn op p ks vs):∃m',denC prog ann 50 [.ptr dk 0 65542] m=some (.int .i64 8,m')∧Fr m m' dk S∧DSt m' dk S true 0 tn op p ks vs:=by
 obtain⟨T,g,h1,h2,h3⟩:=d.st
 obtain⟨m',k1,k2,k3,k4,_⟩:=sw h2.len m (by omega) h1 d.dx
 exact⟨m',k1,⟨k2,fun x hx a b=>k3 x hx a⟩,⟨T,g,k4 rfl,h2,(k3 S d.Sx d.ne).trans h3⟩,Nat.lt_of_lt_of_le d.Sx k2,Nat.lt_of_lt_of_le d.dx k2,d.ne⟩
theorem wK (d:DSt m dk S false lf tn op p ks vs) (hl:lf≤1000) (h1:lf≠1):∃m' S',denC prog ann 50 [.ptr dk 0 65542] m=some (.int .i64 0,m')∧Fr m m' dk S∧m.nx≤S'∧DSt m' dk S' false (lf - 1) tn op p [] []:=by
 obtain⟨T,g,e1,h2,h3⟩:=d.st
 obtain⟨m',k1,k2,k3,_,k4⟩:=sw h2.len m hl e1 d.dx
 obtain⟨k5,k6,k7⟩:=k4 h1
 rw [if_neg h1] at k1
 have dx:=d.dx
 exact⟨m',m.nx,k1,⟨k2,fun x hx a b=>k3 x hx a⟩,Nat.le_refl _,⟨_,0,k5,h2.gw _,k6⟩,k7,Nat.lt_of_lt_of_le d.dx k2,by omega⟩
theorem sr (d:DSt m dk S false lf tn op p [] []) (hl:lf≤1000) {k:Nat} (hk:k < 256) (x:Bool) {b:List UInt8} (hb:b.length≤256) {n:Nat} (hn:n=b.length) :
  ∃m',denC prog ann 49 [.ptr dk 0 65542,.int .i64 k,.fsl x n (u8L b)] m=some (.int .i64 (if lf=1 then 8 else 0),m')∧Fr m m' dk S∧DSt m' dk S (decide (lf=1)) (lf - 1) tn op (updP p k (padB b)) [.int .i64 k] [.agg (u8L (p k))]:=by
 subst hn
 obtain⟨T,g,e1,h2,h3⟩:=d.st
 obtain⟨m',T',k1,k2,k3,k4,k5,k6⟩:=yy h2.len h2 m hl e1 d.dx h3 d.Sx d.ne k hk x b hb
 exact⟨m',k1,⟨k2,k3⟩,⟨T',g+1,k4,k5,k6⟩,Nat.lt_of_lt_of_le d.Sx k2,Nat.lt_of_lt_of_le d.dx k2,d.ne⟩
theorem nV (d:DSt m dk S dn lf tn op p [] []) {n:Nat} (hn:n < 1000) (ht:tn < 1000):∃m' S',denC prog ann 11 [.ptr dk 0 65542,.int .i64 n] m=some (.tup [],m')∧DSt m' dk S' false 0 (tn+1) op p [] []:=by
 obtain⟨T,g,e1,h2,h3⟩:=d.st
 obtain⟨m',T',k1,k2,k3,S',k4,k5,k6,k7⟩:=qd h2 m e1 h3 d.dx d.Sx d.ne n hn ht
 exact⟨m',S',k1,⟨T',0,k3,k4,k5⟩,k6,Nat.lt_of_lt_of_le d.dx k2,k7⟩
theorem pT {k:Nat} {old:List UInt8} (d:DSt m dk S dn lf tn op p [.int .i64 k] [.agg (u8L old)]) (hk:k < 256) (ho:old.length=256) {n:Nat} (hn:n < 1000) (ht:tn < 1000) :
  ∃m' S',denC prog ann 11 [.ptr dk 0 65542,.int .i64 n] m=some (.tup [],m')∧DSt m' dk S' false 0 (tn+1) op (updP p k ((p k).take (n % 257)++old.drop (n % 257))) [] []:=by
 obtain⟨T,g,e1,h2,h3⟩:=d.st
 obtain⟨m',T',k1,k2,k3,S',k4,k5,k6,k7⟩:=sx hk ho h2 m e1 h3 d.dx d.Sx d.ne n hn ht
 exact⟨m',S',k1,⟨T',0,k3,k4,k5⟩,k6,Nat.lt_of_lt_of_le d.dx k2,k7⟩
theorem wI (d:DSt m dk S dn lf tn op p ks vs):denC prog ann 22 [.ptr dk 0 65542] m=some (.bool true,m):=by
 obtain⟨T,g,e1,h2,h3⟩:=d.st
 exact fW h2.len m e1
theorem Ed (d:DSt m dk S dn lf tn op p ks vs) (n:Nat):∃m',denC prog ann 8 [.ptr dk 0 65542,.int .i64 n] m=some (.tup [],m')∧Fr m m' dk S∧DSt m' dk S dn n tn op p ks vs:=by
 obtain⟨T,g,e1,h2,h3⟩:=d.st
 have q:(S==dk)=false:=by simpa using d.ne
 refine⟨_,Ch h2.len m e1 n,⟨Nat.le_refl _,fun x hx a b=>?_⟩,⟨T,g,by simp,h2,by simp [q,h3]⟩,d.Sx,d.dx,d.ne⟩
 have:(x==dk)=false:=by simpa using a
 simp [this]
end
end Go.Proofs.YtadofgdidhpnpaaGreatDoor

/-
  A CHEST WRITES. Conditions: none.
-/
namespace Go.Proofs.YtadofgdidhpnpaaGreatDoor
open Go.AM
open Go.Proofs
open Go.Proofs.Tryz (prog)
set_option linter.all false
set_option maxRecDepth 100000
theorem js (pg:Nat) (m:Mem):denC prog ann 48 [.map pg] m=some (.fn 74 [] [.sptr [.map pg]],m):=by
 rw [fM.al]
 simp [frozenPtr]
@[simp] theorem IL:(ann 47).pure=false:=by kernel_rfl
@[simp] theorem Au:(ann 33).pure=false:=by kernel_rfl
@[simp] theorem IM:(ann 26).pure=false:=by kernel_rfl
@[simp] theorem IP:(ann 28).pure=false:=by kernel_rfl
@[simp] theorem IQ:(ann 43).pure=false:=by kernel_rfl
@[simp] theorem IU:(ann 53).pure=false:=by kernel_rfl
theorem f47:prog.funcs[47]?=some Tryz.f47:=by kernel_rfl
theorem su (args:List AV) (m:Mem):denC prog ann 47 args m=sortedI 74 args m:=by
 rw [dY f47 (b:=(Tryz.f47.body).getD .skip) (by kernel_rfl) (by kernel_rfl)]
 have e:(ann 47).ext=true:=by kernel_rfl
 simp only [libA,e,cond_true,extF]
 rfl
theorem xa (k:Nat) (h2:(k:Int) < 1000000):([(k:Int)].all fun k=>decide (0≤k)&&decide (k < 1000000))=true:=by
  rw [List.all_cons,List.all_nil,decide_eq_true h2]
  have h1:(0:Int)≤(k:Int):=by omega
  rw [decide_eq_true h1];rfl
theorem xb (k:Nat) (hk:k < 256):(k:Int) < 1000000:=by omega
theorem xc (k:Nat) (m:Mem):sortedV [(k:Int)].length ((sortI [(k:Int)]).map fun k=>AV.int .i64 k)=AV.fsl false 1 [.int .i64 k]:=rfl
theorem xd {pg g k:Nat} {vs:List AV} (hk:k < 256) (m:Mem) (hP:m.h pg=some (.map g [.int .i64 k] vs)):sortedI 74 [.fn 74 [] [.sptr [.map pg]]] m=some (.fsl false 1 [.int .i64 k],m):=by
 have h3:=xa k (xb k hk)
 have e1:seqKeys 74 m [.fn 74 [] [.sptr [.map pg]]]=some [.int .i64 k]:=by
  simp only [seqKeys,hP,beq_self_eq_true,cond_true]
 have e2:intsO [AV.int .i64 (k:Int)]=some [(k:Int)]:=rfl
 have h4:decide ([(k:Int)].Nodup)=true:=decide_eq_true (by simp)
 have h5:Nat.ble [(k:Int)].length 1000=true:=rfl
 rw [sortedI,e1,Option.bind_some,e2,Option.bind_some,h3,h4,h5,← xc k m]
 simp only [Bool.and_self,cond_true]
theorem uk {pg g k:Nat} {vs:List AV} (hk:k < 256) (m:Mem) (hP:m.h pg=some (.map g [.int .i64 k] vs)):denC prog ann 47 [.fn 74 [] [.sptr [.map pg]]] m=some (.fsl false 1 [.int .i64 k],m):=(su _ m).trans (xd hk m hP)
theorem sq {pg g:Nat} (m:Mem) (hP:m.h pg=some (.map g [] [])):denC prog ann 47 [.fn 74 [] [.sptr [.map pg]]] m=some (.nils,m):=by
 rw [su]
 simp [sortedI,seqKeys,hP,intsO,sortI,sortedV]
section
variable {m : Mem} {ch dk S lf tn op n t : Nat} {p : Nat → List UInt8} {ks vs : List AV} {xs : List AV} {T : List (Nat × AV)}
variable (h0 : AM.get T 0 = .ptr ch 0 12) (h5 : AM.get T 5 = .fptr [.int .u64 n, .int .i64 t]) (hn : n < 1000)
 (hc:m.h ch=some (.cells xs)) (hx:xs.length=12) (hxd:xs[2]?=some (.ptr dk 0 65542)) (hch:ch < m.nx) (hcd:ch≠dk) (hcS:ch≠S)
include h0 h5 hn hc hx hxd hch hcd hcS
theorem yx (d:DSt m dk S false 1 tn op p ks vs):∃m',den prog ann 25 [.code aD.r9,.code aD.r10,.code aD.i2,.code aD.r12,.code aD.r13,.code aD.i3,.code aD.r15,.code .ret] ⟨T,63,m⟩=some (.int .i64 8,m')∧Fr m m' dk S∧DSt m' dk S true 0 tn op p ks vs:=by
 obtain⟨m',k1,k2,k3⟩:=oZ d
 obtain⟨q1,q2⟩:=List.getElem?_eq_some_iff.1 hxd
 refine⟨m',?_,k2,k3⟩
 simp [h0,h5,hc,hx,hxd,q2,k1]
theorem oY {r:Nat} (hr:(n+1) % 2=r) (d:DSt m dk S false lf tn op p ks vs) (hl:lf≤1000) (hlf:lf≠1) :
  ∃m' S' dn' ks' vs',den prog ann 25 [.code aD.r9,.code aD.r10,.code aD.i2,.code aD.r12,.code aD.r13,.code aD.i3,.code aD.r15,.code .ret] ⟨T,63,m⟩=some (.int .i64 (if lf=2∨lf=3 then 8 else 0),m')∧Fr m m' dk S∧m.nx≤S' ∧
   DSt m' dk S' dn' (lf - 3) tn op (updP p r (padB (rootW n t))) ks' vs'∧(lf=2∨lf=3→dn'=true∧ks'=[.int .i64 r]∧vs'=[.agg (u8L (p r))])∧(¬(lf=2∨lf=3)→dn'=false∧ks'=[]∧vs'=[]):=by
 obtain⟨m1,S1,k1,k2,k3,d1⟩:=wK d hl hlf
 have d1':=d1.keep (m':=⟨m1.h,m1.nx+13⟩) ⟨Nat.le_add_right _ _,fun _ _=>rfl⟩
 have hr2:r < 256:=by omega
 obtain⟨m2,k4,k5,d2⟩:=sr d1' (by omega) hr2 false (b:=rootW n t) (by rw [fi];omega) (fi n t).symm
 obtain⟨q1,q2⟩:=List.getElem?_eq_some_iff.1 hxd
 have c1:m1.h ch=some (.cells xs):=(k2.2 ch hch hcd hcS).trans hc
 have w1:IntKind.wrap .u64 ((n:Int)+1)=(n:Int)+1:=by simp [IntKind.wrap,IntKind.signed,IntKind.bits];omega
 have w2:IntKind.wrap .i64 ((n:Int)+1)=(n:Int)+1:=by simp [IntKind.wrap,IntKind.signed,IntKind.bits];omega
 have w3:((n:Int)+1).tmod 2=(r:Int):=by rw [Int.tmod_eq_emod_of_nonneg (by omega)];omega
 have f12:Fr m m2 dk S:=(k2.trans (Keep.fr (b:=⟨m1.h,m1.nx+13⟩) ⟨Nat.le_add_right _ _,fun _ _=>rfl⟩ dk S1) (.inr k3)).trans k5 (.inr k3)
 have c2:m2.h ch=some (.cells xs):=(f12.2 ch hch hcd hcS).trans hc
 by_cases h2:lf=2
 ·subst h2
  simp at k4 d2
  refine⟨m2,S1,true,_,_,?_,f12,k3,d2,fun _=>⟨rfl,rfl,rfl⟩,fun h=>(h (.inl rfl)).elim⟩
  simp [h0,h5,hc,hx,hxd,q2,k1,c1,w1,w2,w3,dN,k4]
 ·have e2:decide (lf - 1=1)=false:=by simp;omega
  have e3:¬lf - 1=1:=by omega
  rw [e2] at d2
  rw [if_neg e3] at k4
  by_cases h3:lf=3
  ·subst h3
   obtain⟨m3,k6,k7,d3⟩:=oZ d2
   refine⟨m3,S1,true,_,_,?_,f12.trans k7 (.inr k3),k3,d3,fun _=>⟨rfl,rfl,rfl⟩,fun h=>(h (.inr rfl)).elim⟩
   simp [h0,h5,hc,hx,hxd,q2,k1,c1,w1,w2,w3,dN,k4,c2,k6]
  ·obtain⟨m3,S3,k6,k7,k8,d3⟩:=wK d2 (by omega) (by omega)
   have e4:lf - 1 - 1 - 1=lf - 3:=by omega
   rw [e4] at d3
   have hS3:m.nx≤S3:=Nat.le_trans f12.1 k8
   refine⟨m3,S3,false,_,_,?_,f12.trans k7 (.inr k3),hS3,d3,fun h=>by omega,fun _=>⟨rfl,rfl,rfl⟩⟩
   have e5:¬(lf=2∨lf=3):=by omega
   simp [h0,h5,hc,hx,hxd,q2,k1,c1,w1,w2,w3,dN,k4,c2,k6,h2,h3]
end
end Go.Proofs.YtadofgdidhpnpaaGreatDoor
