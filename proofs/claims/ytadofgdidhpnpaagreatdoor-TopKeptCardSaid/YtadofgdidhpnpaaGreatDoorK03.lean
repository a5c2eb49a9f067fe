/-
  BODIES OF FUNCTIONS OF THE PROGRAM AS SMALL OPERATIONS (written by gen.py; checked by the kernel against the program). Conditions: none.
-/
import Derived.Test.YtadofgdidhpnpaaGreatDoorK00
import Derived.Test.YtadofgdidhpnpaaGreatDoorKAmH
set_option linter.all false
namespace Go.Proofs.YtadofgdidhpnpaaGreatDoor
open Go.AM
open Go.Proofs.Tryz (prog)
set_option maxRecDepth 100000
set_option linter.all false
namespace gM
noncomputable section
variable (K : List Item) (s : St)
def b:Code:=(Tryz.f22.body).getD .skip
theorem hf:prog.funcs[22]?=some Tryz.f22:=by kernel_rfl
def r0:=aa b 0
def r1:=aa b 1
theorem aV:den prog ann 22 (.code b::K) s=den prog ann 22 (.code r0::.code r1::.code .ret::K) s:=af hf (l:=[r0,r1,.ret]) (by kernel_rfl) K s
theorem aH:den prog ann 22 (.code r0::K) s=ah prog ann 22 none [] none [] [qF 2 fun s=>some (.bool false)] K s:=(ae hf _ K s).trans (by kernel_rfl)
theorem aI:den prog ann 22 (.code r1::K) s=ah prog ann 22 none [] none [] [qC 3 0,qF 4 fun s=>binA prog .neq 36 (s.get 3) (.nilp),qC 5 4,⟨some 6,some (5,true),.v fun s=>some (s.get 0)⟩,⟨some 7,some (5,true),.v fun s=>nilA (s.get 6)⟩,⟨some 8,some (5,true),.v fun s=>fieldA 0 (s.get 7)⟩,⟨some 9,some (5,true),.v fun s=>loadA false 1 s.m (s.get 8)⟩,qF 10 fun s=>pickA (s.get 5) (s.get 9) (.bool false),qC 2 10] K s:=(ae hf _ K s).trans (by kernel_rfl)
theorem aE:den prog ann 22 (.code .ret::K) s=finM false [fun s=>some (s.get 2)] s:=(aO hf K s).trans (by kernel_rfl)
theorem al (v0:AV) (m:Mem):denC prog ann 22 [v0] m=den prog ann 22 [.code b] ⟨[(0,v0)],11,m⟩:=(aJ hf (b:=b) (by kernel_rfl) (by kernel_rfl) (by kernel_rfl) m).trans (by kernel_rfl)
theorem aq:(ann 22).pure=false:=by kernel_rfl
attribute [simp] aV aH aI aE aq
end
end gM
namespace iY
noncomputable section
variable (K : List Item) (s : St)
def b:Code:=(Tryz.f6.body).getD .skip
theorem hf:prog.funcs[6]?=some Tryz.f6:=by kernel_rfl
def r0:=aa b 0
def r1:=aa b 1
theorem aV:den prog ann 6 (.code b::K) s=den prog ann 6 (.code r0::.code r1::.code .ret::K) s:=af hf (l:=[r0,r1,.ret]) (by kernel_rfl) K s
theorem aH:den prog ann 6 (.code r0::K) s=ah prog ann 6 none [] none [] [qF 0 fun s=>some (.nilp)] K s:=(ae hf _ K s).trans (by kernel_rfl)
theorem aI:den prog ann 6 (.code r1::K) s=ah prog ann 6 none [] none [] [⟨some 1,none,.w false none fun s=>some (.map s.m.nx,s.m.new (.map 0 [] []))⟩,qF 2 fun s=>(zeroT prog 74).bind fun z=>bldA (plc [(0,1),(1,1),(2,1),(3,1),(4,1),(5,65536),(65541,1)]) z.cells [(0,(.bool true)),(6,(s.get 1))],⟨some 3,none,.w false none fun s=>newPtr s.m (AV.cells (s.get 2))⟩,qC 0 3] K s:=(ae hf _ K s).trans (by kernel_rfl)
theorem aE:den prog ann 6 (.code .ret::K) s=finM false [fun s=>some (s.get 0)] s:=(aO hf K s).trans (by kernel_rfl)
theorem al (m:Mem):denC prog ann 6 [] m=den prog ann 6 [.code b] ⟨[],4,m⟩:=(aJ hf (b:=b) (by kernel_rfl) (by kernel_rfl) (by kernel_rfl) m).trans (by kernel_rfl)
theorem aq:(ann 6).pure=false:=by kernel_rfl
attribute [simp] aV aH aI aE aq
end
end iY
namespace iv
noncomputable section
variable (K : List Item) (s : St)
def b:Code:=(Tryz.f8.body).getD .skip
theorem hf:prog.funcs[8]?=some Tryz.f8:=by kernel_rfl
def r0:=aa b 0
def i0:=ak b 0
def i0t:=az i0
def i0e:=aA i0
def r1:=aa b 1
theorem aV:den prog ann 8 (.code b::K) s=den prog ann 8 (.code r0::.code i0::K) s:=af hf (l:=[r0,i0]) (by kernel_rfl) K s
theorem aH:den prog ann 8 (.code r0::K) s=ah prog ann 8 none [] none [] [qC 4 0,⟨some 5,none,.c 0 (fun s=>(.fn 22 [] [])) fun s=>[(s.get 4)]⟩] K s:=(ae hf _ K s).trans (by kernel_rfl)
theorem aU:den prog ann 8 (.code i0::K) s=ifV prog ann 8 5 i0t i0e K s (s.get 5):=aB hf (by kernel_rfl) K s
theorem aZ:den prog ann 8 (.code i0t::K) s=den prog ann 8 (.code r1::K) s:=af hf (l:=[r1]) (by kernel_rfl) K s
theorem aI:den prog ann 8 (.code r1::K) s=ah prog ann 8 none [] none [] [qC 6 0,qC 7 1,qF 8 fun s=>foldA max2A (s.get 7) [(.int .i64 0)],qA 9 nilA 6,qA 10 (fieldA 2) 9,⟨none,none,.w false none fun s=>stA false 1 s.m (s.get 10) (s.get 8)⟩] K s:=(ae hf _ K s).trans (by kernel_rfl)
theorem nil_eq (s:St):den prog ann 8 [] s=finM false [] s:=(gk hf s).trans (by kernel_rfl)
theorem al (v0 v1:AV) (m:Mem):denC prog ann 8 [v0,v1] m=den prog ann 8 [.code b] ⟨[(0,v0),(1,v1)],11,m⟩:=(aJ hf (b:=b) (by kernel_rfl) (by kernel_rfl) (by kernel_rfl) m).trans (by kernel_rfl)
theorem aq:(ann 8).pure=false:=by kernel_rfl
attribute [simp] aV aH aU aZ aI nil_eq aq
end
end iv
namespace fX
noncomputable section
variable (K : List Item) (s : St)
def b:Code:=(Tryz.f49.body).getD .skip
theorem hf:prog.funcs[49]?=some Tryz.f49:=by kernel_rfl
def r0:=aa b 0
def k0:=ax b 0
def r1:=aa b 1
def i0:=ak b 0
def i0t:=az i0
def i0e:=aA i0
def r3:=aa b 3
def i1:=ak b 1
def i1t:=az i1
def i1e:=aA i1
def r5:=aa b 5
def i2:=ak b 2
def i2t:=az i2
def i2e:=aA i2
def r7:=aa b 7
def r8:=aa b 8
def i3:=ak b 3
def i3t:=az i3
def i3e:=aA i3
def r9:=aa b 9
def r10:=aa b 10
def r11:=aa b 11
def r12:=aa b 12
theorem aV:den prog ann 49 (.code b::K) s=den prog ann 49 (.code r0::.code k0::.code r7::.code r8::.code i3::.code r10::.code r11::.code r12::.code .ret::K) s:=af hf (l:=[r0,k0,r7,r8,i3,r10,r11,r12,.ret]) (by kernel_rfl) K s
theorem aH:den prog ann 49 (.code r0::K) s=ah prog ann 49 none [] none [] [qF 6 fun s=>some (.int .i64 0)] K s:=(ae hf _ K s).trans (by kernel_rfl)
theorem bu:den prog ann 49 (.code k0::K) s=den prog ann 49 (.code r1::.code i0::.inBlock 0::K) s:=aS hf (b:=blkOf k0) (l:=[r1,i0]) (by kernel_rfl) (by kernel_rfl) K s
theorem aI:den prog ann 49 (.code r1::K) s=ah prog ann 49 none [] none [] [qC 10 0,⟨some 11,none,.c 0 (fun s=>(.fn 22 [] [])) fun s=>[(s.get 10)]⟩,qA 12 (unA .not) 11,qC 9 12] K s:=(ae hf _ K s).trans (by kernel_rfl)
theorem aU:den prog ann 49 (.code i0::K) s=ifV prog ann 49 9 i0t i0e K s (s.get 9):=aB hf (by kernel_rfl) K s
theorem aL:den prog ann 49 (.code i0e::K) s=den prog ann 49 (.code r3::.code i1::K) s:=af hf (l:=[r3,i1]) (by kernel_rfl) K s
theorem aX:den prog ann 49 (.code r3::K) s=ah prog ann 49 none [] none [] [qC 14 1,qF 15 fun s=>binA prog .lss 3 (s.get 14) (.int .i64 0),qC 16 15,⟨some 17,some (16,false),.v fun s=>some (s.get 1)⟩,⟨some 18,some (16,false),.v fun s=>binA prog .geq 3 (s.get 17) (.int .i64 256)⟩,qF 19 fun s=>pickA (s.get 16) (.bool true) (s.get 18),qC 20 19,⟨some 21,some (20,false),.v fun s=>some (s.get 2)⟩,⟨some 22,some (20,false),.v fun s=>lenSl (s.get 21)⟩,⟨some 23,some (20,false),.v fun s=>binA prog .gtr 3 (s.get 22) (.int .i64 256)⟩,qF 24 fun s=>pickA (s.get 20) (.bool true) (s.get 23),qC 13 24] K s:=(ae hf _ K s).trans (by kernel_rfl)
theorem bC:den prog ann 49 (.code i1::K) s=ifV prog ann 49 13 i1t i1e K s (s.get 13):=aB hf (by kernel_rfl) K s
theorem aY:den prog ann 49 (.code i1e::K) s=den prog ann 49 (.code r5::.code i2::K) s:=af hf (l:=[r5,i2]) (by kernel_rfl) K s
theorem bd:den prog ann 49 (.code r5::K) s=ah prog ann 49 none [] none [] [qC 26 0,qA 27 nilA 26,qA 28 (fieldA 1) 27,qF 29 fun s=>loadA false 1 s.m (s.get 28),qC 25 29] K s:=(ae hf _ K s).trans (by kernel_rfl)
theorem cw:den prog ann 49 (.code i2::K) s=ifV prog ann 49 25 i2t i2e K s (s.get 25):=aB hf (by kernel_rfl) K s
theorem bY:den prog ann 49 (.code i2e::K) s=den prog ann 49 (K) s:=af hf (l:=[]) (by kernel_rfl) K s
theorem bM:den prog ann 49 (.code r7::K) s=ah prog ann 49 (some [0,1,2]) [] none [7] [qC 31 0,qA 32 nilA 31,qA 33 (fieldA 65541) 32,qF 34 fun s=>loadA false 1 s.m (s.get 33),qC 35 1,qF 36 fun s=>lookP prog s.m 3 (.agg page0) (s.get 34) (s.get 35) true,qC 30 36,qF 37 fun s=>extA (s.get 30) 0,qF 38 fun s=>extA (s.get 30) 1,⟨some 7,none,.w false none fun s=>newPtr s.m page0⟩,⟨none,none,.w false none fun s=>stA true 256 s.m (s.get 7) (s.get 37)⟩,qC 8 38] K s:=(ae hf _ K s).trans (by kernel_rfl)
theorem bQ:den prog ann 49 (.code r8::K) s=ah prog ann 49 none [] none [] [qC 39 8,qA 40 (unA .not) 39] K s:=(ae hf _ K s).trans (by kernel_rfl)
theorem eT:den prog ann 49 (.code i3::K) s=ifV prog ann 49 40 i3t i3e K s (s.get 40):=aB hf (by kernel_rfl) K s
theorem dw:den prog ann 49 (.code i3t::K) s=den prog ann 49 (.code r9::K) s:=af hf (l:=[r9]) (by kernel_rfl) K s
theorem jX:bh (fun g=>(ann g).pure) (bj (ann 49) (bI r9)) (bN (ann 49) (bI r9)) (opsOf r9)=true:=aQ (an:=[0,1,3,7,0,0,0,32,160,480,992,2047]) (by kernel_rfl) (by kernel_rfl)
theorem bU:den prog ann 49 (.code r9::K) s=ah prog ann 49 none [] (some 12) [] [qC 41 0,qA 42 nilA 41,qA 43 (fieldA 65541) 42,qF 44 fun s=>loadA false 1 s.m (s.get 43),qC 45 1,qC 46 0,qC 47 1,qA 48 nilA 46,qA 49 (fieldA 5) 48,qB 50 (idxArr 256 256) 49 47,qF 51 fun s=>loadA true 256 s.m (s.get 50),⟨none,none,.w false (some 11) fun s=>updM prog s.m 3 (s.get 44) (s.get 45) (s.get 51)⟩] K s:=(aW hf jX K s).trans (by kernel_rfl)
theorem bV:den prog ann 49 (.code r10::K) s=ah prog ann 49 none [] none [] [qC 52 0,qC 53 1,qF 54 fun s=>bldA (plcA 1) page0 [],qA 55 nilA 52,qA 56 (fieldA 5) 55,qB 57 (idxArr 256 256) 56 53,⟨none,none,.w false none fun s=>stA true 256 s.m (s.get 57) (s.get 54)⟩] K s:=(ae hf _ K s).trans (by kernel_rfl)
theorem bW:den prog ann 49 (.code r11::K) s=ah prog ann 49 none [] none [] [qC 58 0,qC 59 1,qA 60 nilA 58,qA 61 (fieldA 5) 60,qB 62 (idxArr 256 256) 61 59,qF 63 fun s=>sliceArr 256 1 (s.get 62) none none,qC 64 2,⟨some 65,none,.w false none fun s=>copyA 1 s.m (s.get 63) (s.get 64)⟩] K s:=(ae hf _ K s).trans (by kernel_rfl)
theorem cv:den prog ann 49 (.code r12::K) s=ah prog ann 49 none [] none [] [qC 66 0,⟨some 67,none,.c 0 (fun s=>(.fn 75 [] [])) fun s=>[(s.get 66)]⟩,qC 6 67] K s:=(ae hf _ K s).trans (by kernel_rfl)
theorem aE:den prog ann 49 (.code .ret::K) s=finM false [fun s=>some (s.get 6)] s:=(aO hf K s).trans (by kernel_rfl)
theorem aC (id:Nat) (K:List Item) (s:St):den prog ann 49 (.inBlock id::K) s=den prog ann 49 K s:=aR hf id K s
theorem al (v0 v1 v2:AV) (m:Mem):denC prog ann 49 [v0,v1,v2] m=den prog ann 49 [.code b] ⟨[(0,v0),(1,v1),(2,v2)],68,m⟩:=(aJ hf (b:=b) (by kernel_rfl) (by kernel_rfl) (by kernel_rfl) m).trans (by kernel_rfl)
theorem aq:(ann 49).pure=false:=by kernel_rfl
attribute [simp] aV aH bu aI aU aL aX bC aY bd cw bY bM bQ eT dw bU bV bW cv aE aC aq
end
end fX
namespace gN
noncomputable section
variable (K : List Item) (s : St)
def b:Code:=(Tryz.f50.body).getD .skip
theorem hf:prog.funcs[50]?=some Tryz.f50:=by kernel_rfl
def r0:=aa b 0
def k0:=ax b 0
def r1:=aa b 1
def i0:=ak b 0
def i0t:=az i0
def i0e:=aA i0
def r3:=aa b 3
def i1:=ak b 1
def i1t:=az i1
def i1e:=aA i1
def r5:=aa b 5
def r6:=aa b 6
def i2:=ak b 2
def i2t:=az i2
def i2e:=aA i2
def r7:=aa b 7
def r8:=aa b 8
theorem aV:den prog ann 50 (.code b::K) s=den prog ann 50 (.code r0::.code k0::.code r5::.code r6::.code i2::.code r8::.code .ret::K) s:=af hf (l:=[r0,k0,r5,r6,i2,r8,.ret]) (by kernel_rfl) K s
theorem aH:den prog ann 50 (.code r0::K) s=ah prog ann 50 none [] none [] [qF 2 fun s=>some (.int .i64 0)] K s:=(ae hf _ K s).trans (by kernel_rfl)
theorem bu:den prog ann 50 (.code k0::K) s=den prog ann 50 (.code r1::.code i0::.inBlock 0::K) s:=aS hf (b:=blkOf k0) (l:=[r1,i0]) (by kernel_rfl) (by kernel_rfl) K s
theorem aI:den prog ann 50 (.code r1::K) s=ah prog ann 50 none [] none [] [qC 5 0,⟨some 6,none,.c 0 (fun s=>(.fn 22 [] [])) fun s=>[(s.get 5)]⟩,qA 7 (unA .not) 6,qC 4 7] K s:=(ae hf _ K s).trans (by kernel_rfl)
theorem aU:den prog ann 50 (.code i0::K) s=ifV prog ann 50 4 i0t i0e K s (s.get 4):=aB hf (by kernel_rfl) K s
theorem aL:den prog ann 50 (.code i0e::K) s=den prog ann 50 (.code r3::.code i1::K) s:=af hf (l:=[r3,i1]) (by kernel_rfl) K s
theorem aX:den prog ann 50 (.code r3::K) s=ah prog ann 50 none [] none [] [qC 9 0,qA 10 nilA 9,qA 11 (fieldA 1) 10,qF 12 fun s=>loadA false 1 s.m (s.get 11),qC 8 12] K s:=(ae hf _ K s).trans (by kernel_rfl)
theorem bC:den prog ann 50 (.code i1::K) s=ifV prog ann 50 8 i1t i1e K s (s.get 8):=aB hf (by kernel_rfl) K s
theorem aY:den prog ann 50 (.code i1e::K) s=den prog ann 50 (K) s:=af hf (l:=[]) (by kernel_rfl) K s
theorem bd:den prog ann 50 (.code r5::K) s=ah prog ann 50 (some [0]) [] none [] [qC 13 0,⟨some 14,none,.c 0 (fun s=>(.fn 75 [] [])) fun s=>[(s.get 13)]⟩,qC 3 14] K s:=(ae hf _ K s).trans (by kernel_rfl)
theorem bo:den prog ann 50 (.code r6::K) s=ah prog ann 50 none [] none [] [qC 15 3,qF 16 fun s=>binA prog .eql 33 (s.get 15) (.int .i64 0)] K s:=(ae hf _ K s).trans (by kernel_rfl)
theorem cw:den prog ann 50 (.code i2::K) s=ifV prog ann 50 16 i2t i2e K s (s.get 16):=aB hf (by kernel_rfl) K s
theorem cj:den prog ann 50 (.code i2t::K) s=den prog ann 50 (.code r7::K) s:=af hf (l:=[r7]) (by kernel_rfl) K s
theorem bM:den prog ann 50 (.code r7::K) s=ah prog ann 50 none [] none [] [qC 17 0,⟨some 18,none,.w false none fun s=>some (.map s.m.nx,s.m.new (.map 0 [] []))⟩,qA 19 nilA 17,qA 20 (fieldA 65541) 19,⟨none,none,.w false none fun s=>stA false 1 s.m (s.get 20) (s.get 18)⟩] K s:=(ae hf _ K s).trans (by kernel_rfl)
theorem bY:den prog ann 50 (.code i2e::K) s=den prog ann 50 (K) s:=af hf (l:=[]) (by kernel_rfl) K s
theorem bQ:den prog ann 50 (.code r8::K) s=ah prog ann 50 (some [3]) [] none [] [qC 21 3,qC 2 21] K s:=(ae hf _ K s).trans (by kernel_rfl)
theorem aE:den prog ann 50 (.code .ret::K) s=finM false [fun s=>some (s.get 2)] s:=(aO hf K s).trans (by kernel_rfl)
theorem aC (id:Nat) (K:List Item) (s:St):den prog ann 50 (.inBlock id::K) s=den prog ann 50 K s:=aR hf id K s
theorem al (v0:AV) (m:Mem):denC prog ann 50 [v0] m=den prog ann 50 [.code b] ⟨[(0,v0)],22,m⟩:=(aJ hf (b:=b) (by kernel_rfl) (by kernel_rfl) (by kernel_rfl) m).trans (by kernel_rfl)
theorem aq:(ann 50).pure=false:=by kernel_rfl
attribute [simp] aV aH bu aI aU aL aX bC aY bd bo cw cj bM bY bQ aE aC aq
end
end gN
namespace iw
noncomputable section
variable (K : List Item) (s : St)
def b:Code:=(Tryz.f75.body).getD .skip
theorem hf:prog.funcs[75]?=some Tryz.f75:=by kernel_rfl
def r0:=aa b 0
def r1:=aa b 1
def i0:=ak b 0
def i0t:=az i0
def i0e:=aA i0
def r2:=aa b 2
def r3:=aa b 3
def i1:=ak b 1
def i1t:=az i1
def i1e:=aA i1
def r4:=aa b 4
def r5:=aa b 5
def r6:=aa b 6
theorem aV:den prog ann 75 (.code b::K) s=den prog ann 75 (.code r0::.code r1::.code i0::.code r6::.code .ret::K) s:=af hf (l:=[r0,r1,i0,r6,.ret]) (by kernel_rfl) K s
theorem aH:den prog ann 75 (.code r0::K) s=ah prog ann 75 none [] none [] [qF 2 fun s=>some (.int .i64 0)] K s:=(ae hf _ K s).trans (by kernel_rfl)
theorem aI:den prog ann 75 (.code r1::K) s=ah prog ann 75 none [] none [] [qC 3 0,qA 4 nilA 3,qA 5 (fieldA 2) 4,qF 6 fun s=>loadA false 1 s.m (s.get 5),qF 7 fun s=>binA prog .gtr 3 (s.get 6) (.int .i64 0)] K s:=(ae hf _ K s).trans (by kernel_rfl)
theorem aU:den prog ann 75 (.code i0::K) s=ifV prog ann 75 7 i0t i0e K s (s.get 7):=aB hf (by kernel_rfl) K s
theorem aZ:den prog ann 75 (.code i0t::K) s=den prog ann 75 (.code r2::.code r3::.code i1::K) s:=af hf (l:=[r2,r3,i1]) (by kernel_rfl) K s
theorem br:den prog ann 75 (.code r2::K) s=ah prog ann 75 none [] none [] [qC 8 0,qA 9 nilA 8,qA 10 (fieldA 2) 9,qF 11 fun s=>loadA false 1 s.m (s.get 10),qF 12 fun s=>binA prog .sub 3 (s.get 11) (.int .i64 1),qA 13 nilA 8,qA 14 (fieldA 2) 13,⟨none,none,.w false none fun s=>stA false 1 s.m (s.get 14) (s.get 12)⟩] K s:=(ae hf _ K s).trans (by kernel_rfl)
theorem aX:den prog ann 75 (.code r3::K) s=ah prog ann 75 none [] none [] [qC 15 0,qA 16 nilA 15,qA 17 (fieldA 2) 16,qF 18 fun s=>loadA false 1 s.m (s.get 17),qF 19 fun s=>binA prog .eql 3 (s.get 18) (.int .i64 0)] K s:=(ae hf _ K s).trans (by kernel_rfl)
theorem bC:den prog ann 75 (.code i1::K) s=ifV prog ann 75 19 i1t i1e K s (s.get 19):=aB hf (by kernel_rfl) K s
theorem bA:den prog ann 75 (.code i1t::K) s=den prog ann 75 (.code r4::.code r5::.code .ret::K) s:=af hf (l:=[r4,r5,.ret]) (by kernel_rfl) K s
theorem bg:den prog ann 75 (.code r4::K) s=ah prog ann 75 none [] none [] [qC 20 0,qA 21 nilA 20,qA 22 (fieldA 1) 21,⟨none,none,.w false none fun s=>stA false 1 s.m (s.get 22) (.bool true)⟩] K s:=(ae hf _ K s).trans (by kernel_rfl)
theorem bd:den prog ann 75 (.code r5::K) s=ah prog ann 75 none [] none [] [qF 2 fun s=>some (.int .i64 8)] K s:=(ae hf _ K s).trans (by kernel_rfl)
theorem aY:den prog ann 75 (.code i1e::K) s=den prog ann 75 (K) s:=af hf (l:=[]) (by kernel_rfl) K s
theorem aL:den prog ann 75 (.code i0e::K) s=den prog ann 75 (K) s:=af hf (l:=[]) (by kernel_rfl) K s
theorem bo:den prog ann 75 (.code r6::K) s=ah prog ann 75 (some []) [] none [] [qF 2 fun s=>some (.int .i64 0)] K s:=(ae hf _ K s).trans (by kernel_rfl)
theorem aE:den prog ann 75 (.code .ret::K) s=finM false [fun s=>some (s.get 2)] s:=(aO hf K s).trans (by kernel_rfl)
theorem al (v0:AV) (m:Mem):denC prog ann 75 [v0] m=den prog ann 75 [.code b] ⟨[(0,v0)],23,m⟩:=(aJ hf (b:=b) (by kernel_rfl) (by kernel_rfl) (by kernel_rfl) m).trans (by kernel_rfl)
theorem aq:(ann 75).pure=false:=by kernel_rfl
attribute [simp] aV aH aI aU aZ br aX bC bA bg bd aY aL bo aE aq
end
end iw
namespace bS
noncomputable section
variable (K : List Item) (s : St)
def b:Code:=(Tryz.f11.body).getD .skip
theorem hf:prog.funcs[11]?=some Tryz.f11:=by kernel_rfl
def r0:=aa b 0
def i0:=ak b 0
def i0t:=az i0
def i0e:=aA i0
def r1:=aa b 1
def r2:=aa b 2
def k0:=ax b 0
def l0:=bw k0
def L0 (x0 x4 x17:AV) (m:Mem) (K:List Item):Option Res:=den prog ann 11 (.code l0::.inLoop l0::.inBlock 0::K) ⟨[(0,x0),(4,x4),(17,x17)],50,m⟩
def r3:=aa b 3
def i1:=ak b 1
def i1t:=az i1
def i1e:=aA i1
def k1:=ax b 1
def r4:=aa b 4
def r5:=aa b 5
def r6:=aa b 6
def r7:=aa b 7
def r8:=aa b 8
theorem aV:den prog ann 11 (.code b::K) s=den prog ann 11 (.code r0::.code i0::.code r1::.code r2::.code k0::.code r6::.code r7::.code r8::K) s:=af hf (l:=[r0,i0,r1,r2,k0,r6,r7,r8]) (by kernel_rfl) K s
theorem aH:den prog ann 11 (.code r0::K) s=ah prog ann 11 none [] none [] [qC 7 0,⟨some 8,none,.c 0 (fun s=>(.fn 22 [] [])) fun s=>[(s.get 7)]⟩,qA 9 (unA .not) 8] K s:=(ae hf _ K s).trans (by kernel_rfl)
theorem aU:den prog ann 11 (.code i0::K) s=ifV prog ann 11 9 i0t i0e K s (s.get 9):=aB hf (by kernel_rfl) K s
theorem aL:den prog ann 11 (.code i0e::K) s=den prog ann 11 (K) s:=af hf (l:=[]) (by kernel_rfl) K s
theorem aI:den prog ann 11 (.code r1::K) s=ah prog ann 11 none [] none [] [qC 10 1,qF 11 fun s=>foldA max2A (s.get 10) [(.int .i64 0)],qF 12 fun s=>binA prog .rem 3 (s.get 11) (.int .i64 257),qC 4 12] K s:=(ae hf _ K s).trans (by kernel_rfl)
theorem br:den prog ann 11 (.code r2::K) s=ah prog ann 11 none [700000] none [] [qC 13 0,qA 14 nilA 13,qA 15 (fieldA 65541) 14,qF 16 fun s=>loadA false 1 s.m (s.get 15),⟨some 17,none,.r fun s=>(s.get 16)⟩] K s:=(ae hf _ K s).trans (by kernel_rfl)
theorem bu (K:List Item) (t:List (Nat×AV)) (m:Mem):den prog ann 11 (.code k0::K) ⟨t,50,m⟩=L0 (get t 0) (get t 4) (get t 17) m K:=ar hf (b:=l0) (id:=3) (l:=[0,4,17]) (by kernel_rfl) (by kernel_rfl) (by kernel_rfl) K _
theorem bP (K:List Item) (t:List (Nat×AV)) (m:Mem):den prog ann 11 (.inLoop l0::.inBlock 0::K) ⟨t,50,m⟩=L0 (get t 0) (get t 4) (get t 17) m K:=ay hf (id:=3) (l:=[0,4,17]) (by kernel_rfl) (by kernel_rfl) (.inBlock 0::K) _
theorem aM (x0 x4 x17:AV) (m:Mem) (K:List Item):L0 x0 x4 x17 m K=den prog ann 11 (.code r3::.code i1::.code k1::.inLoop l0::.inBlock 0::K) ⟨[(0,x0),(4,x4),(17,x17)],50,m⟩:=af hf (l:=[r3,i1,k1]) (by kernel_rfl) _ _
theorem aX:den prog ann 11 (.code r3::K) s=ah prog ann 11 (some [0,4,17]) [] none [] [⟨some 18,none,.n fun s=>(s.get 17)⟩,qF 19 fun s=>extA (s.get 18) 0] K s:=(ae hf _ K s).trans (by kernel_rfl)
theorem bC:den prog ann 11 (.code i1::K) s=ifV prog ann 11 19 i1t i1e K s (s.get 19):=aB hf (by kernel_rfl) K s
theorem bA:den prog ann 11 (.code i1t::K) s=den prog ann 11 (K) s:=af hf (l:=[]) (by kernel_rfl) K s
theorem aY:den prog ann 11 (.code i1e::K) s=den prog ann 11 (.code (.exit 0)::K) s:=af hf (l:=[(.exit 0)]) (by kernel_rfl) K s
theorem bH:den prog ann 11 (.code k1::K) s=den prog ann 11 (.code r4::.code r5::.inBlock 1::K) s:=aS hf (b:=blkOf k1) (l:=[r4,r5]) (by kernel_rfl) (by kernel_rfl) K s
theorem bg:den prog ann 11 (.code r4::K) s=ah prog ann 11 none [] none [6] [qF 20 fun s=>curA s.m (s.get 17),qF 21 fun s=>extA (s.get 20) 0,qF 22 fun s=>extA (s.get 20) 1,⟨some 6,none,.w false none fun s=>newPtr s.m page0⟩,qC 5 21,⟨none,none,.w false none fun s=>stA true 256 s.m (s.get 6) (s.get 22)⟩] K s:=(ae hf _ K s).trans (by kernel_rfl)
theorem dm:bh (fun g=>(ann g).pure) (bj (ann 11) (bI r5)) (bN (ann 11) (bI r5)) (opsOf r5)=true:=aQ (an:=[0,0,1,5,15,0,63,0,128,511]) (by kernel_rfl) (by kernel_rfl)
theorem bd:den prog ann 11 (.code r5::K) s=ah prog ann 11 none [] (some 10) [] [qC 23 0,qC 24 5,qA 25 nilA 23,qA 26 (fieldA 5) 25,qB 27 (idxArr 256 256) 26 24,qC 28 4,qF 29 fun s=>sliceArr 256 1 (s.get 27) (some (s.get 28)) none,qC 30 4,qF 31 fun s=>sliceArr 256 1 (s.get 6) (some (s.get 30)) none,⟨some 32,none,.w false (some 9) fun s=>copyA 1 s.m (s.get 29) (s.get 31)⟩] K s:=(aW hf dm K s).trans (by kernel_rfl)
theorem bo:den prog ann 11 (.code r6::K) s=ah prog ann 11 (some [0]) [] none [] [qC 33 0,⟨some 34,none,.w false none fun s=>some (.map s.m.nx,s.m.new (.map 0 [] []))⟩,qA 35 nilA 33,qA 36 (fieldA 65541) 35,⟨none,none,.w false none fun s=>stA false 1 s.m (s.get 36) (s.get 34)⟩] K s:=(ae hf _ K s).trans (by kernel_rfl)
theorem bM:den prog ann 11 (.code r7::K) s=ah prog ann 11 none [] none [] [qC 37 0,qC 38 0,qA 39 nilA 37,qA 40 (fieldA 1) 39,⟨none,none,.w false none fun s=>stA false 1 s.m (s.get 40) (.bool false)⟩,qA 41 nilA 38,qA 42 (fieldA 2) 41,⟨none,none,.w false none fun s=>stA false 1 s.m (s.get 42) (.int .i64 0)⟩] K s:=(ae hf _ K s).trans (by kernel_rfl)
theorem bQ:den prog ann 11 (.code r8::K) s=ah prog ann 11 none [] none [] [qC 43 0,qA 44 nilA 43,qA 45 (fieldA 3) 44,qF 46 fun s=>loadA false 1 s.m (s.get 45),qF 47 fun s=>binA prog .add 3 (s.get 46) (.int .i64 1),qA 48 nilA 43,qA 49 (fieldA 3) 48,⟨none,none,.w false none fun s=>stA false 1 s.m (s.get 49) (s.get 47)⟩] K s:=(ae hf _ K s).trans (by kernel_rfl)
theorem nil_eq (s:St):den prog ann 11 [] s=finM false [] s:=(gk hf s).trans (by kernel_rfl)
theorem aC (id:Nat) (K:List Item) (s:St):den prog ann 11 (.inBlock id::K) s=den prog ann 11 K s:=aR hf id K s
theorem aT (id:Nat) (K:List Item) (s:St):den prog ann 11 (.code (.exit id)::K) s=exitV prog ann 11 (exitTo id K) s:=bp hf id K s
theorem al (v0 v1:AV) (m:Mem):denC prog ann 11 [v0,v1] m=den prog ann 11 [.code b] ⟨[(0,v0),(1,v1)],50,m⟩:=(aJ hf (b:=b) (by kernel_rfl) (by kernel_rfl) (by kernel_rfl) m).trans (by kernel_rfl)
theorem aq:(ann 11).pure=false:=by kernel_rfl
attribute [simp] aV aH aU aL aI br bu bP aX bC bA aY bH bg bd bo bM bQ nil_eq aC aT aq
end
end bS
namespace fL
noncomputable section
variable (K : List Item) (s : St)
def b:Code:=(Tryz.f27.body).getD .skip
theorem hf:prog.funcs[27]?=some Tryz.f27:=by kernel_rfl
def r0:=aa b 0
def r1:=aa b 1
theorem aV:den prog ann 27 (.code b::K) s=den prog ann 27 (.code r0::.code r1::.code .ret::K) s:=af hf (l:=[r0,r1,.ret]) (by kernel_rfl) K s
theorem aH:den prog ann 27 (.code r0::K) s=ah prog ann 27 none [] none [] [qF 2 fun s=>some (.bool false)] K s:=(ae hf _ K s).trans (by kernel_rfl)
theorem gz:bh (fun g=>(ann g).pure) (bj (ann 27) (bI r1)) (bN (ann 27) (bI r1)) (opsOf r1)=true:=aQ (an:=[0,1,3,7,15,31,63,127,255,511,1023,2047,4095,8191,16383,32767,65535,131071,262143,524287,65535,1114111,3211263,7405567,15794175,32571391,66125823,134217727,268435455,536870911,1073741823,2147483647,4294967295,8589934591,1073741823,18253611007,52613349375,121332826111,258771779583,533649686527,1083405500415,2199023255551,4398046511103,8796093022207]) (by kernel_rfl) (by kernel_rfl)
theorem aI:den prog ann 27 (.code r1::K) s=ah prog ann 27 none [] (some 44) [] [qC 3 0,qF 4 fun s=>binA prog .neq 38 (s.get 3) (.nilp),qC 5 4,⟨some 6,some (5,true),.v fun s=>some (s.get 0)⟩,⟨some 7,some (5,true),.v fun s=>nilA (s.get 6)⟩,⟨some 8,some (5,true),.v fun s=>fieldA 0 (s.get 7)⟩,⟨some 9,some (5,true),.v fun s=>loadA false 1 s.m (s.get 8)⟩,qF 10 fun s=>pickA (s.get 5) (s.get 9) (.bool false),qC 11 10,⟨some 12,some (11,true),.v fun s=>some (s.get 0)⟩,⟨some 13,some (11,true),.v fun s=>nilA (s.get 12)⟩,⟨some 14,some (11,true),.v fun s=>fieldA 1 (s.get 13)⟩,⟨some 15,some (11,true),.v fun s=>loadA false 1 s.m (s.get 14)⟩,⟨some 16,some (11,true),.v fun s=>unA .not (s.get 15)⟩,qF 17 fun s=>pickA (s.get 11) (s.get 16) (.bool false),qC 18 17,⟨some 19,some (18,true),.v fun s=>some (s.get 0)⟩,⟨some 20,some (18,true),.v fun s=>nilA (s.get 19)⟩,⟨some 21,some (18,true),.v fun s=>fieldA 3 (s.get 20)⟩,⟨some 22,some (18,true),.v fun s=>loadA false 1 s.m (s.get 21)⟩,⟨some 23,some (18,true),.v fun s=>some (s.get 0)⟩,⟨some 24,some (18,true),.v fun s=>nilA (s.get 23)⟩,⟨some 25,some (18,true),.v fun s=>fieldA 2 (s.get 24)⟩,⟨some 26,some (18,true),.v fun s=>loadA false 1 s.m (s.get 25)⟩,⟨some 27,some (18,true),.v fun s=>nilA (s.get 26)⟩,⟨some 28,some (18,true),.v fun s=>fieldA 3 (s.get 27)⟩,⟨some 29,some (18,true),.v fun s=>loadA false 1 s.m (s.get 28)⟩,⟨some 30,some (18,true),.v fun s=>binA prog .eql 3 (s.get 22) (s.get 29)⟩,qF 31 fun s=>pickA (s.get 18) (s.get 30) (.bool false),qC 32 31,⟨some 33,some (32,true),.v fun s=>some (s.get 0)⟩,⟨some 34,some (32,true),.v fun s=>nilA (s.get 33)⟩,⟨some 35,some (32,true),.v fun s=>fieldA 4 (s.get 34)⟩,⟨some 36,some (32,true),.v fun s=>loadA false 1 s.m (s.get 35)⟩,⟨some 37,some (32,true),.v fun s=>some (s.get 0)⟩,⟨some 38,some (32,true),.v fun s=>nilA (s.get 37)⟩,⟨some 39,some (32,true),.v fun s=>fieldA 2 (s.get 38)⟩,⟨some 40,some (32,true),.v fun s=>loadA false 1 s.m (s.get 39)⟩,⟨some 41,some (32,true),.v fun s=>nilA (s.get 40)⟩,⟨some 42,some (32,true),.v fun s=>fieldA 4 (s.get 41)⟩,⟨some 43,some (32,true),.v fun s=>loadA false 1 s.m (s.get 42)⟩,⟨some 44,some (32,true),.v fun s=>binA prog .eql 3 (s.get 36) (s.get 43)⟩,qF 45 fun s=>pickA (s.get 32) (s.get 44) (.bool false),qC 2 45] K s:=(aW hf gz K s).trans (by kernel_rfl)
theorem aE:den prog ann 27 (.code .ret::K) s=finM false [fun s=>some (s.get 2)] s:=(aO hf K s).trans (by kernel_rfl)
theorem al (v0:AV) (m:Mem):denC prog ann 27 [v0] m=den prog ann 27 [.code b] ⟨[(0,v0)],46,m⟩:=(aJ hf (b:=b) (by kernel_rfl) (by kernel_rfl) (by kernel_rfl) m).trans (by kernel_rfl)
theorem aq:(ann 27).pure=false:=by kernel_rfl
attribute [simp] aV aH aI aE aq
end
end fL
namespace gL
noncomputable section
variable (K : List Item) (s : St)
def b:Code:=(Tryz.f9.body).getD .skip
theorem hf:prog.funcs[9]?=some Tryz.f9:=by kernel_rfl
def r0:=aa b 0
def k0:=ax b 0
def r1:=aa b 1
def i0:=ak b 0
def i0t:=az i0
def i0e:=aA i0
def r3:=aa b 3
def i1:=ak b 1
def i1t:=az i1
def i1e:=aA i1
def r5:=aa b 5
def r6:=aa b 6
def i2:=ak b 2
def i2t:=az i2
def i2e:=aA i2
def r8:=aa b 8
def r9:=aa b 9
theorem aV:den prog ann 9 (.code b::K) s=den prog ann 9 (.code r0::.code k0::.code r5::.code r6::.code i2::.code r8::.code r9::.code .ret::K) s:=af hf (l:=[r0,k0,r5,r6,i2,r8,r9,.ret]) (by kernel_rfl) K s
theorem aH:den prog ann 9 (.code r0::K) s=ah prog ann 9 none [] none [] [qF 6 fun s=>some (.int .i64 0)] K s:=(ae hf _ K s).trans (by kernel_rfl)
theorem bu:den prog ann 9 (.code k0::K) s=den prog ann 9 (.code r1::.code i0::.inBlock 0::K) s:=aS hf (b:=blkOf k0) (l:=[r1,i0]) (by kernel_rfl) (by kernel_rfl) K s
theorem aI:den prog ann 9 (.code r1::K) s=ah prog ann 9 none [] none [] [qC 10 0,⟨some 11,none,.c 0 (fun s=>(.fn 27 [] [])) fun s=>[(s.get 10)]⟩,qA 12 (unA .not) 11,qC 9 12] K s:=(ae hf _ K s).trans (by kernel_rfl)
theorem aU:den prog ann 9 (.code i0::K) s=ifV prog ann 9 9 i0t i0e K s (s.get 9):=aB hf (by kernel_rfl) K s
theorem aL:den prog ann 9 (.code i0e::K) s=den prog ann 9 (.code r3::.code i1::K) s:=af hf (l:=[r3,i1]) (by kernel_rfl) K s
theorem aX:den prog ann 9 (.code r3::K) s=ah prog ann 9 none [] none [] [qC 14 1,qF 15 fun s=>binA prog .eql 9 (s.get 14) (.str []),qC 16 15,⟨some 17,some (16,false),.v fun s=>some (s.get 1)⟩,⟨some 18,some (16,false),.v fun s=>lenStr (s.get 17)⟩,⟨some 19,some (16,false),.v fun s=>binA prog .gtr 3 (s.get 18) (.int .i64 8)⟩,qF 20 fun s=>pickA (s.get 16) (.bool true) (s.get 19),qC 21 20,⟨some 22,some (21,false),.v fun s=>some (s.get 2)⟩,⟨some 23,some (21,false),.v fun s=>lenStr (s.get 22)⟩,⟨some 24,some (21,false),.v fun s=>binA prog .gtr 3 (s.get 23) (.int .i64 16)⟩,qF 25 fun s=>pickA (s.get 21) (.bool true) (s.get 24),qC 13 25] K s:=(ae hf _ K s).trans (by kernel_rfl)
theorem bC:den prog ann 9 (.code i1::K) s=ifV prog ann 9 13 i1t i1e K s (s.get 13):=aB hf (by kernel_rfl) K s
theorem aY:den prog ann 9 (.code i1e::K) s=den prog ann 9 (K) s:=af hf (l:=[]) (by kernel_rfl) K s
theorem bd:den prog ann 9 (.code r5::K) s=ah prog ann 9 (some [0,1,2]) [] none [] [qC 27 0,qA 28 nilA 27,qA 29 (fieldA 9) 28,qF 30 fun s=>loadA false 1 s.m (s.get 29),qC 31 1,qF 32 fun s=>lookP prog s.m 9 (.str []) (s.get 30) (s.get 31) true,qC 26 32,qF 33 fun s=>extA (s.get 26) 0,qF 34 fun s=>extA (s.get 26) 1,qC 7 33,qC 8 34] K s:=(ae hf _ K s).trans (by kernel_rfl)
theorem bo:den prog ann 9 (.code r6::K) s=ah prog ann 9 none [] none [] [qC 35 8,qA 36 (unA .not) 35,qC 37 36,⟨some 38,some (37,true),.v fun s=>some (s.get 0)⟩,⟨some 39,some (37,true),.v fun s=>nilA (s.get 38)⟩,⟨some 40,some (37,true),.v fun s=>fieldA 9 (s.get 39)⟩,⟨some 41,some (37,true),.v fun s=>loadA false 1 s.m (s.get 40)⟩,⟨some 42,some (37,true),.v fun s=>mapLenA s.m (s.get 41)⟩,⟨some 43,some (37,true),.v fun s=>binA prog .eql 3 (s.get 42) (.int .i64 200)⟩,qF 44 fun s=>pickA (s.get 37) (s.get 43) (.bool false)] K s:=(ae hf _ K s).trans (by kernel_rfl)
theorem cw:den prog ann 9 (.code i2::K) s=ifV prog ann 9 44 i2t i2e K s (s.get 44):=aB hf (by kernel_rfl) K s
theorem bY:den prog ann 9 (.code i2e::K) s=den prog ann 9 (K) s:=af hf (l:=[]) (by kernel_rfl) K s
theorem bQ:den prog ann 9 (.code r8::K) s=ah prog ann 9 none [] none [] [qC 45 0,qA 46 nilA 45,qA 47 (fieldA 9) 46,qF 48 fun s=>loadA false 1 s.m (s.get 47),qC 49 1,qC 50 2,⟨none,none,.w false none fun s=>updM prog s.m 9 (s.get 48) (s.get 49) (s.get 50)⟩] K s:=(ae hf _ K s).trans (by kernel_rfl)
theorem bU:den prog ann 9 (.code r9::K) s=ah prog ann 9 none [] none [] [qF 6 fun s=>some (.int .i64 0)] K s:=(ae hf _ K s).trans (by kernel_rfl)
theorem aE:den prog ann 9 (.code .ret::K) s=finM false [fun s=>some (s.get 6)] s:=(aO hf K s).trans (by kernel_rfl)
theorem aC (id:Nat) (K:List Item) (s:St):den prog ann 9 (.inBlock id::K) s=den prog ann 9 K s:=aR hf id K s
theorem al (v0 v1 v2:AV) (m:Mem):denC prog ann 9 [v0,v1,v2] m=den prog ann 9 [.code b] ⟨[(0,v0),(1,v1),(2,v2)],51,m⟩:=(aJ hf (b:=b) (by kernel_rfl) (by kernel_rfl) (by kernel_rfl) m).trans (by kernel_rfl)
theorem aq:(ann 9).pure=false:=by kernel_rfl
attribute [simp] aV aH bu aI aU aL aX bC aY bd bo cw bY bQ bU aE aC aq
end
end gL
namespace iu
noncomputable section
variable (K : List Item) (s : St)
def b:Code:=(Tryz.f32.body).getD .skip
theorem hf:prog.funcs[32]?=some Tryz.f32:=by kernel_rfl
def r0:=aa b 0
def k0:=ax b 0
def r1:=aa b 1
def i0:=ak b 0
def i0t:=az i0
def i0e:=aA i0
def r3:=aa b 3
def i1:=ak b 1
def i1t:=az i1
def i1e:=aA i1
def r4:=aa b 4
def r5:=aa b 5
def r6:=aa b 6
def i2:=ak b 2
def r8:=aa b 8
theorem aV:den prog ann 32 (.code b::K) s=den prog ann 32 (.code r0::.code k0::.code r5::.code r6::.code i2::.code r8::.code .ret::K) s:=af hf (l:=[r0,k0,r5,r6,i2,r8,.ret]) (by kernel_rfl) K s
theorem aH:den prog ann 32 (.code r0::K) s=ah prog ann 32 none [] none [] [qF 4 fun s=>some (.nilm),qF 5 fun s=>some (.int .i64 0)] K s:=(ae hf _ K s).trans (by kernel_rfl)
theorem bu:den prog ann 32 (.code k0::K) s=den prog ann 32 (.code r1::.code i0::.inBlock 0::K) s:=aS hf (b:=blkOf k0) (l:=[r1,i0]) (by kernel_rfl) (by kernel_rfl) K s
theorem aI:den prog ann 32 (.code r1::K) s=ah prog ann 32 none [] none [] [qC 9 0,qF 10 fun s=>binA prog .eql 38 (s.get 9) (.nilp),qC 11 10,⟨some 12,some (11,false),.v fun s=>some (s.get 0)⟩,⟨some 13,some (11,false),.v fun s=>nilA (s.get 12)⟩,⟨some 14,some (11,false),.v fun s=>fieldA 0 (s.get 13)⟩,⟨some 15,some (11,false),.v fun s=>loadA false 1 s.m (s.get 14)⟩,⟨some 16,some (11,false),.v fun s=>unA .not (s.get 15)⟩,qF 17 fun s=>pickA (s.get 11) (.bool true) (s.get 16),qC 8 17] K s:=(ae hf _ K s).trans (by kernel_rfl)
theorem aU:den prog ann 32 (.code i0::K) s=ifV prog ann 32 8 i0t i0e K s (s.get 8):=aB hf (by kernel_rfl) K s
theorem aL:den prog ann 32 (.code i0e::K) s=den prog ann 32 (.code r3::.code i1::K) s:=af hf (l:=[r3,i1]) (by kernel_rfl) K s
theorem aX:den prog ann 32 (.code r3::K) s=ah prog ann 32 none [] none [] [qC 19 1,qF 20 fun s=>binA prog .eql 3 (s.get 19) (.int .i64 (-1)),qC 18 20] K s:=(ae hf _ K s).trans (by kernel_rfl)
theorem bC:den prog ann 32 (.code i1::K) s=ifV prog ann 32 18 i1t i1e K s (s.get 18):=aB hf (by kernel_rfl) K s
theorem bA:den prog ann 32 (.code i1t::K) s=den prog ann 32 (.code r4::.code .ret::K) s:=af hf (l:=[r4,.ret]) (by kernel_rfl) K s
theorem bg:den prog ann 32 (.code r4::K) s=ah prog ann 32 none [] none [] [qC 21 0,qA 22 nilA 21,qA 23 (fieldA 9) 22,qF 24 fun s=>loadA false 1 s.m (s.get 23),qC 4 24,qF 5 fun s=>some (.int .i64 0)] K s:=(ae hf _ K s).trans (by kernel_rfl)
theorem aE:den prog ann 32 (.code .ret::K) s=finM false [fun s=>some (s.get 4),fun s=>some (s.get 5)] s:=(aO hf K s).trans (by kernel_rfl)
theorem al (v0 v1:AV) (m:Mem):denC prog ann 32 [v0,v1] m=den prog ann 32 [.code b] ⟨[(0,v0),(1,v1)],38,m⟩:=(aJ hf (b:=b) (by kernel_rfl) (by kernel_rfl) (by kernel_rfl) m).trans (by kernel_rfl)
theorem aq:(ann 32).pure=false:=by kernel_rfl
attribute [simp] aV aH bu aI aU aL aX bC bA bg aE aq
end
end iu
namespace bz
noncomputable section
variable (K : List Item) (s : St)
def b:Code:=(Tryz.f12.body).getD .skip
theorem hf:prog.funcs[12]?=some Tryz.f12:=by kernel_rfl
def r0:=aa b 0
def r1:=aa b 1
def r2:=aa b 2
def i0:=ak b 0
def i0t:=az i0
def i0e:=aA i0
def r4:=aa b 4
def r5:=aa b 5
def k0:=ax b 0
def l0:=bw k0
def L0 (x2 x3 x10 x12 x26 x27 x28:AV) (m:Mem) (K:List Item):Option Res:=den prog ann 12 (.code l0::.inLoop l0::.inBlock 0::K) ⟨[(2,x2),(3,x3),(10,x10),(12,x12),(26,x26),(27,x27),(28,x28)],54,m⟩
def r6:=aa b 6
def i1:=ak b 1
def i1t:=az i1
def i1e:=aA i1
def k1:=ax b 1
def r7:=aa b 7
def r8:=aa b 8
def i2:=ak b 2
def i2t:=az i2
def i2e:=aA i2
def r9:=aa b 9
def r10:=aa b 10
def r11:=aa b 11
theorem aV:den prog ann 12 (.code b::K) s=den prog ann 12 (.code r0::.code r1::.code r2::.code i0::.code r4::.code r5::.code k0::.code r11::.code .ret::K) s:=af hf (l:=[r0,r1,r2,i0,r4,r5,k0,r11,.ret]) (by kernel_rfl) K s
theorem aH:den prog ann 12 (.code r0::K) s=ah prog ann 12 none [] none [] [qF 8 fun s=>some (.nils),qF 9 fun s=>some (.int .i64 0)] K s:=(ae hf _ K s).trans (by kernel_rfl)
theorem aI:den prog ann 12 (.code r1::K) s=ah prog ann 12 none [] none [] [qC 16 0,qC 17 1,⟨some 18,none,.c 0 (fun s=>(.fn 32 [] [])) fun s=>[(s.get 16),(s.get 17)]⟩,qC 15 18,qF 19 fun s=>extA (s.get 15) 0,qF 20 fun s=>extA (s.get 15) 1,qC 10 19,qC 11 20] K s:=(ae hf _ K s).trans (by kernel_rfl)
theorem br:den prog ann 12 (.code r2::K) s=ah prog ann 12 none [] none [] [qC 21 11,qF 22 fun s=>binA prog .neq 33 (s.get 21) (.int .i64 0)] K s:=(ae hf _ K s).trans (by kernel_rfl)
theorem aU:den prog ann 12 (.code i0::K) s=ifV prog ann 12 22 i0t i0e K s (s.get 22):=aB hf (by kernel_rfl) K s
theorem aL:den prog ann 12 (.code i0e::K) s=den prog ann 12 (K) s:=af hf (l:=[]) (by kernel_rfl) K s
theorem bg:den prog ann 12 (.code r4::K) s=ah prog ann 12 none [] none [] [qF 12 fun s=>some (.nils)] K s:=(ae hf _ K s).trans (by kernel_rfl)
theorem bd:den prog ann 12 (.code r5::K) s=ah prog ann 12 none [] none [] [qC 24 10,⟨some 25,none,.c 0 (fun s=>(.fn 34 [] [])) fun s=>[(s.get 24)]⟩,⟨some 26,none,.c 0 (fun s=>(.fn 33 [] [])) fun s=>[(s.get 25)]⟩,qA 27 lenSl 26,qF 28 fun s=>some (.int .i64 0)] K s:=(ae hf _ K s).trans (by kernel_rfl)
theorem bu (K:List Item) (t:List (Nat×AV)) (m:Mem):den prog ann 12 (.code k0::K) ⟨t,54,m⟩=L0 (get t 2) (get t 3) (get t 10) (get t 12) (get t 26) (get t 27) (get t 28) m K:=ar hf (b:=l0) (id:=6) (l:=[2,3,10,12,26,27,28]) (by kernel_rfl) (by kernel_rfl) (by kernel_rfl) K _
theorem bP (K:List Item) (t:List (Nat×AV)) (m:Mem):den prog ann 12 (.inLoop l0::.inBlock 0::K) ⟨t,54,m⟩=L0 (get t 2) (get t 3) (get t 10) (get t 12) (get t 26) (get t 27) (get t 28) m K:=ay hf (id:=6) (l:=[2,3,10,12,26,27,28]) (by kernel_rfl) (by kernel_rfl) (.inBlock 0::K) _
theorem aM (x2 x3 x10 x12 x26 x27 x28:AV) (m:Mem) (K:List Item):L0 x2 x3 x10 x12 x26 x27 x28 m K=den prog ann 12 (.code r6::.code i1::.code k1::.code r10::.inLoop l0::.inBlock 0::K) ⟨[(2,x2),(3,x3),(10,x10),(12,x12),(26,x26),(27,x27),(28,x28)],54,m⟩:=af hf (l:=[r6,i1,k1,r10]) (by kernel_rfl) _ _
theorem bo:den prog ann 12 (.code r6::K) s=ah prog ann 12 (some [2,3,10,12,26,27,28]) [] none [] [qB 29 (binA prog .lss 3) 28 27] K s:=(ae hf _ K s).trans (by kernel_rfl)
theorem bC:den prog ann 12 (.code i1::K) s=ifV prog ann 12 29 i1t i1e K s (s.get 29):=aB hf (by kernel_rfl) K s
theorem bA:den prog ann 12 (.code i1t::K) s=den prog ann 12 (K) s:=af hf (l:=[]) (by kernel_rfl) K s
theorem aY:den prog ann 12 (.code i1e::K) s=den prog ann 12 (.code (.exit 0)::K) s:=af hf (l:=[(.exit 0)]) (by kernel_rfl) K s
theorem bH:den prog ann 12 (.code k1::K) s=den prog ann 12 (.code r7::.code r8::.code i2::.inBlock 1::K) s:=aS hf (b:=blkOf k1) (l:=[r7,r8,i2]) (by kernel_rfl) (by kernel_rfl) K s
theorem bM:den prog ann 12 (.code r7::K) s=ah prog ann 12 none [] none [] [qB 30 (idxSl 1) 26 28,qF 31 fun s=>loadA false 1 s.m (s.get 30),qC 14 31] K s:=(ae hf _ K s).trans (by kernel_rfl)
theorem bQ:den prog ann 12 (.code r8::K) s=ah prog ann 12 none [] none [] [qC 32 14,qC 33 2,qB 34 (binA prog .geq 9) 32 33,qC 35 34,⟨some 36,some (35,true),.v fun s=>some (s.get 3)⟩,⟨some 37,some (35,true),.v fun s=>binA prog .eql 9 (s.get 36) (.str [])⟩,⟨some 38,some (35,true),.v fun s=>some (s.get 37)⟩,⟨some 39,some (38,false),.v fun s=>some (s.get 14)⟩,⟨some 40,some (38,false),.v fun s=>some (s.get 3)⟩,⟨some 41,some (38,false),.v fun s=>binA prog .lss 9 (s.get 39) (s.get 40)⟩,⟨some 42,some (35,true),.v fun s=>pickA (s.get 38) (.bool true) (s.get 41)⟩,qF 43 fun s=>pickA (s.get 35) (s.get 42) (.bool false)] K s:=(ae hf _ K s).trans (by kernel_rfl)
theorem cw:den prog ann 12 (.code i2::K) s=ifV prog ann 12 43 i2t i2e K s (s.get 43):=aB hf (by kernel_rfl) K s
theorem cj:den prog ann 12 (.code i2t::K) s=den prog ann 12 (.code r9::K) s:=af hf (l:=[r9]) (by kernel_rfl) K s
theorem bU:den prog ann 12 (.code r9::K) s=ah prog ann 12 none [] none [] [qC 44 12,qC 45 14,qC 46 10,qC 47 14,qF 48 fun s=>lookP prog s.m 9 (.str []) (s.get 46) (s.get 47) false,qF 49 fun s=>bldA (plc [(0,1),(1,1)]) [.str [],.str []] [(0,(s.get 45)),(1,(s.get 48))],qF 50 fun s=>bslF 1 (bslA 2 1 [.str [],.str []] [(0,(s.get 49))]),⟨some 51,none,.w false none fun s=>appendA 2 32 s.m (s.get 44) (s.get 50)⟩,qC 12 51] K s:=(ae hf _ K s).trans (by kernel_rfl)
theorem bV:den prog ann 12 (.code r10::K) s=ah prog ann 12 (some [2,3,10,12,26,27,28]) [] none [] [qF 52 fun s=>binA prog .add 3 (s.get 28) (.int .i64 1),qC 28 52] K s:=(ae hf _ K s).trans (by kernel_rfl)
theorem bW:den prog ann 12 (.code r11::K) s=ah prog ann 12 (some [12]) [] none [] [qC 53 12,qC 8 53,qF 9 fun s=>some (.int .i64 0)] K s:=(ae hf _ K s).trans (by kernel_rfl)
theorem aE:den prog ann 12 (.code .ret::K) s=finM false [fun s=>some (s.get 8),fun s=>some (s.get 9)] s:=(aO hf K s).trans (by kernel_rfl)
theorem aC (id:Nat) (K:List Item) (s:St):den prog ann 12 (.inBlock id::K) s=den prog ann 12 K s:=aR hf id K s
theorem aT (id:Nat) (K:List Item) (s:St):den prog ann 12 (.code (.exit id)::K) s=exitV prog ann 12 (exitTo id K) s:=bp hf id K s
theorem al (v0 v1 v2 v3:AV) (m:Mem):denC prog ann 12 [v0,v1,v2,v3] m=den prog ann 12 [.code b] ⟨[(0,v0),(1,v1),(2,v2),(3,v3)],54,m⟩:=(aJ hf (b:=b) (by kernel_rfl) (by kernel_rfl) (by kernel_rfl) m).trans (by kernel_rfl)
theorem aq:(ann 12).pure=false:=by kernel_rfl
attribute [simp] aV aH aI br aU aL bg bd bu bP bo bC bA aY bH bM bQ cw cj bU bV bW aE aC aT aq
end
end bz
namespace eS
noncomputable section
variable (K : List Item) (s : St)
def b:Code:=(Tryz.f34.body).getD .skip
theorem hf:prog.funcs[34]?=some Tryz.f34:=by kernel_rfl
def r0:=aa b 0
def r1:=aa b 1
theorem aV:den prog ann 34 (.code b::K) s=den prog ann 34 (.code r0::.code r1::.code .ret::K) s:=af hf (l:=[r0,r1,.ret]) (by kernel_rfl) K s
theorem aH:den prog ann 34 (.code r0::K) s=ah prog ann 34 none [] none [] [qA 1 frozenPtr 0,qF 2 fun s=>some (.nilf)] K s:=(ae hf _ K s).trans (by kernel_rfl)
theorem aI:den prog ann 34 (.code r1::K) s=ah prog ann 34 none [] none [] [qF 3 fun s=>some (.fn 57 [] [(s.get 1)]),qC 2 3] K s:=(ae hf _ K s).trans (by kernel_rfl)
theorem aE:den prog ann 34 (.code .ret::K) s=finM false [fun s=>some (s.get 2)] s:=(aO hf K s).trans (by kernel_rfl)
theorem al (v0:AV) (m:Mem):denC prog ann 34 [v0] m=den prog ann 34 [.code b] ⟨[(0,v0)],4,m⟩:=(aJ hf (b:=b) (by kernel_rfl) (by kernel_rfl) (by kernel_rfl) m).trans (by kernel_rfl)
theorem aq:(ann 34).pure=false:=by kernel_rfl
attribute [simp] aV aH aI aE aq
end
end eS
namespace fM
noncomputable section
variable (K : List Item) (s : St)
def b:Code:=(Tryz.f48.body).getD .skip
theorem hf:prog.funcs[48]?=some Tryz.f48:=by kernel_rfl
def r0:=aa b 0
def r1:=aa b 1
theorem aV:den prog ann 48 (.code b::K) s=den prog ann 48 (.code r0::.code r1::.code .ret::K) s:=af hf (l:=[r0,r1,.ret]) (by kernel_rfl) K s
theorem aH:den prog ann 48 (.code r0::K) s=ah prog ann 48 none [] none [] [qA 1 frozenPtr 0,qF 2 fun s=>some (.nilf)] K s:=(ae hf _ K s).trans (by kernel_rfl)
theorem aI:den prog ann 48 (.code r1::K) s=ah prog ann 48 none [] none [] [qF 3 fun s=>some (.fn 74 [] [(s.get 1)]),qC 2 3] K s:=(ae hf _ K s).trans (by kernel_rfl)
theorem aE:den prog ann 48 (.code .ret::K) s=finM false [fun s=>some (s.get 2)] s:=(aO hf K s).trans (by kernel_rfl)
theorem al (v0:AV) (m:Mem):denC prog ann 48 [v0] m=den prog ann 48 [.code b] ⟨[(0,v0)],4,m⟩:=(aJ hf (b:=b) (by kernel_rfl) (by kernel_rfl) (by kernel_rfl) m).trans (by kernel_rfl)
theorem aq:(ann 48).pure=false:=by kernel_rfl
attribute [simp] aV aH aI aE aq
end
end fM
namespace cA
noncomputable section
variable (K : List Item) (s : St)
def b:Code:=(Tryz.f65.body).getD .skip
theorem hf:prog.funcs[65]?=some Tryz.f65:=by kernel_rfl
def r0:=aa b 0
def r1:=aa b 1
def i0:=ak b 0
def i0t:=az i0
def i0e:=aA i0
def r3:=aa b 3
def k0:=ax b 0
def l0:=bw k0
def L0 (x0 x1 x12 x13:AV) (m:Mem) (K:List Item):Option Res:=den prog ann 65 (.code l0::.inLoop l0::.inBlock 0::K) ⟨[(0,x0),(1,x1),(12,x12),(13,x13)],26,m⟩
def r4:=aa b 4
def i1:=ak b 1
def i1t:=az i1
def i1e:=aA i1
def k1:=ax b 1
def r5:=aa b 5
def r6:=aa b 6
def i2:=ak b 2
def i2t:=az i2
def i2e:=aA i2
def r7:=aa b 7
def r8:=aa b 8
def r9:=aa b 9
theorem aV:den prog ann 65 (.code b::K) s=den prog ann 65 (.code r0::.code r1::.code i0::.code r3::.code k0::.code r9::.code .ret::K) s:=af hf (l:=[r0,r1,i0,r3,k0,r9,.ret]) (by kernel_rfl) K s
theorem aH:den prog ann 65 (.code r0::K) s=ah prog ann 65 none [] none [] [qF 4 fun s=>some (.bool false)] K s:=(ae hf _ K s).trans (by kernel_rfl)
theorem aI:den prog ann 65 (.code r1::K) s=ah prog ann 65 none [] none [] [qC 6 0,qA 7 lenSl 6,qC 8 1,qA 9 lenSl 8,qB 10 (binA prog .neq 3) 7 9] K s:=(ae hf _ K s).trans (by kernel_rfl)
theorem aU:den prog ann 65 (.code i0::K) s=ifV prog ann 65 10 i0t i0e K s (s.get 10):=aB hf (by kernel_rfl) K s
theorem aL:den prog ann 65 (.code i0e::K) s=den prog ann 65 (K) s:=af hf (l:=[]) (by kernel_rfl) K s
theorem aX:den prog ann 65 (.code r3::K) s=ah prog ann 65 none [] none [] [qC 11 0,qA 12 lenSl 11,qF 13 fun s=>some (.int .i64 0)] K s:=(ae hf _ K s).trans (by kernel_rfl)
theorem bu (K:List Item) (t:List (Nat×AV)) (m:Mem):den prog ann 65 (.code k0::K) ⟨t,26,m⟩=L0 (get t 0) (get t 1) (get t 12) (get t 13) m K:=ar hf (b:=l0) (id:=4) (l:=[0,1,12,13]) (by kernel_rfl) (by kernel_rfl) (by kernel_rfl) K _
theorem bP (K:List Item) (t:List (Nat×AV)) (m:Mem):den prog ann 65 (.inLoop l0::.inBlock 0::K) ⟨t,26,m⟩=L0 (get t 0) (get t 1) (get t 12) (get t 13) m K:=ay hf (id:=4) (l:=[0,1,12,13]) (by kernel_rfl) (by kernel_rfl) (.inBlock 0::K) _
theorem aM (x0 x1 x12 x13:AV) (m:Mem) (K:List Item):L0 x0 x1 x12 x13 m K=den prog ann 65 (.code r4::.code i1::.code k1::.code r8::.inLoop l0::.inBlock 0::K) ⟨[(0,x0),(1,x1),(12,x12),(13,x13)],26,m⟩:=af hf (l:=[r4,i1,k1,r8]) (by kernel_rfl) _ _
theorem bg:den prog ann 65 (.code r4::K) s=ah prog ann 65 (some [0,1,12,13]) [] none [] [qB 14 (binA prog .lss 3) 13 12] K s:=(ae hf _ K s).trans (by kernel_rfl)
theorem bC:den prog ann 65 (.code i1::K) s=ifV prog ann 65 14 i1t i1e K s (s.get 14):=aB hf (by kernel_rfl) K s
theorem bA:den prog ann 65 (.code i1t::K) s=den prog ann 65 (K) s:=af hf (l:=[]) (by kernel_rfl) K s
theorem aY:den prog ann 65 (.code i1e::K) s=den prog ann 65 (.code (.exit 0)::K) s:=af hf (l:=[(.exit 0)]) (by kernel_rfl) K s
theorem bH:den prog ann 65 (.code k1::K) s=den prog ann 65 (.code r5::.code r6::.code i2::.inBlock 1::K) s:=aS hf (b:=blkOf k1) (l:=[r5,r6,i2]) (by kernel_rfl) (by kernel_rfl) K s
theorem bd:den prog ann 65 (.code r5::K) s=ah prog ann 65 none [] none [] [qC 15 13,qC 5 15] K s:=(ae hf _ K s).trans (by kernel_rfl)
theorem jY:bh (fun g=>(ann g).pure) (bj (ann 65) (bI r6)) (bN (ann 65) (bI r6)) (opsOf r6)=true:=aQ (an:=[0,0,3,7,0,0,48,112,255]) (by kernel_rfl) (by kernel_rfl)
theorem bo:den prog ann 65 (.code r6::K) s=ah prog ann 65 none [] (some 9) [] [qC 16 0,qC 17 5,qB 18 (idxSl 1) 16 17,qA 19 (loadF false 1) 18,qC 20 1,qC 21 5,qB 22 (idxSl 1) 20 21,qA 23 (loadF false 1) 22,qB 24 (binA prog .neq 5) 19 23] K s:=(aW hf jY K s).trans (by kernel_rfl)
theorem cw:den prog ann 65 (.code i2::K) s=ifV prog ann 65 24 i2t i2e K s (s.get 24):=aB hf (by kernel_rfl) K s
theorem cj:den prog ann 65 (.code i2t::K) s=den prog ann 65 (.code r7::.code .ret::K) s:=af hf (l:=[r7,.ret]) (by kernel_rfl) K s
theorem bM:den prog ann 65 (.code r7::K) s=ah prog ann 65 none [] none [] [qF 4 fun s=>some (.bool false)] K s:=(ae hf _ K s).trans (by kernel_rfl)
theorem bY:den prog ann 65 (.code i2e::K) s=den prog ann 65 (K) s:=af hf (l:=[]) (by kernel_rfl) K s
theorem bQ:den prog ann 65 (.code r8::K) s=ah prog ann 65 (some [0,1,12,13]) [] none [] [qF 25 fun s=>binA prog .add 3 (s.get 13) (.int .i64 1),qC 13 25] K s:=(ae hf _ K s).trans (by kernel_rfl)
theorem bU:den prog ann 65 (.code r9::K) s=ah prog ann 65 (some []) [] none [] [qF 4 fun s=>some (.bool true)] K s:=(ae hf _ K s).trans (by kernel_rfl)
theorem aE:den prog ann 65 (.code .ret::K) s=finM true [fun s=>some (s.get 4)] s:=(aO hf K s).trans (by kernel_rfl)
theorem aC (id:Nat) (K:List Item) (s:St):den prog ann 65 (.inBlock id::K) s=den prog ann 65 K s:=aR hf id K s
theorem aT (id:Nat) (K:List Item) (s:St):den prog ann 65 (.code (.exit id)::K) s=exitV prog ann 65 (exitTo id K) s:=bp hf id K s
theorem al (v0 v1:AV) (m:Mem) (h:closedL [v0,v1]=true):denC prog ann 65 [v0,v1] m=(den prog ann 65 [.code b] ⟨[(0,v0),(1,v1)],26,Mem.empty⟩).bind fun r=>some (r.1,m):=(bD hf (b:=b) (by kernel_rfl) (by kernel_rfl) (by kernel_rfl) h m).trans (by kernel_rfl)
theorem aq:(ann 65).pure=true:=by kernel_rfl
attribute [simp] aV aH aI aU aL aX bu bP bg bC bA aY bH bd bo cw cj bM bY bQ bU aE aC aT aq
end
end cA
namespace cV
noncomputable section
variable (K : List Item) (s : St)
def b:Code:=(Tryz.f70.body).getD .skip
theorem hf:prog.funcs[70]?=some Tryz.f70:=by kernel_rfl
def r0:=aa b 0
def r1:=aa b 1
def k0:=ax b 0
def l0:=bw k0
def L0 (x0 x1 x5:AV) (m:Mem) (K:List Item):Option Res:=den prog ann 70 (.code l0::.inLoop l0::.inBlock 0::K) ⟨[(0,x0),(1,x1),(5,x5)],16,m⟩
def r2:=aa b 2
def i0:=ak b 0
def i0t:=az i0
def i0e:=aA i0
def k1:=ax b 1
def r3:=aa b 3
def r4:=aa b 4
def r5:=aa b 5
def r6:=aa b 6
theorem aV:den prog ann 70 (.code b::K) s=den prog ann 70 (.code r0::.code r1::.code k0::.code r6::.code .ret::K) s:=af hf (l:=[r0,r1,k0,r6,.ret]) (by kernel_rfl) K s
theorem aH:den prog ann 70 (.code r0::K) s=ah prog ann 70 none [] none [] [qF 4 fun s=>some (.nils)] K s:=(ae hf _ K s).trans (by kernel_rfl)
theorem aI:den prog ann 70 (.code r1::K) s=ah prog ann 70 none [] none [] [qF 5 fun s=>some (.int .i64 0)] K s:=(ae hf _ K s).trans (by kernel_rfl)
theorem bu (K:List Item) (t:List (Nat×AV)) (m:Mem):den prog ann 70 (.code k0::K) ⟨t,16,m⟩=L0 (get t 0) (get t 1) (get t 5) m K:=ar hf (b:=l0) (id:=2) (l:=[0,1,5]) (by kernel_rfl) (by kernel_rfl) (by kernel_rfl) K _
theorem bP (K:List Item) (t:List (Nat×AV)) (m:Mem):den prog ann 70 (.inLoop l0::.inBlock 0::K) ⟨t,16,m⟩=L0 (get t 0) (get t 1) (get t 5) m K:=ay hf (id:=2) (l:=[0,1,5]) (by kernel_rfl) (by kernel_rfl) (.inBlock 0::K) _
theorem aM (x0 x1 x5:AV) (m:Mem) (K:List Item):L0 x0 x1 x5 m K=den prog ann 70 (.code r2::.code i0::.code k1::.code r5::.inLoop l0::.inBlock 0::K) ⟨[(0,x0),(1,x1),(5,x5)],16,m⟩:=af hf (l:=[r2,i0,k1,r5]) (by kernel_rfl) _ _
theorem br:den prog ann 70 (.code r2::K) s=ah prog ann 70 (some [0,1,5]) [] none [] [qF 6 fun s=>binA prog .lss 3 (s.get 5) (.int .i64 8)] K s:=(ae hf _ K s).trans (by kernel_rfl)
theorem aU:den prog ann 70 (.code i0::K) s=ifV prog ann 70 6 i0t i0e K s (s.get 6):=aB hf (by kernel_rfl) K s
theorem aZ:den prog ann 70 (.code i0t::K) s=den prog ann 70 (K) s:=af hf (l:=[]) (by kernel_rfl) K s
theorem aL:den prog ann 70 (.code i0e::K) s=den prog ann 70 (.code (.exit 0)::K) s:=af hf (l:=[(.exit 0)]) (by kernel_rfl) K s
theorem bH:den prog ann 70 (.code k1::K) s=den prog ann 70 (.code r3::.code r4::.inBlock 1::K) s:=aS hf (b:=blkOf k1) (l:=[r3,r4]) (by kernel_rfl) (by kernel_rfl) K s
theorem aX:den prog ann 70 (.code r3::K) s=ah prog ann 70 none [] none [] [qC 7 0,qC 8 1,qA 9 (convInt .u8) 8,qF 10 fun s=>bslF 1 (bslA 1 1 [.int .u8 0] [(0,(s.get 9))]),⟨some 11,none,.w false none fun s=>appendA 1 1 s.m (s.get 7) (s.get 10)⟩,qC 0 11] K s:=(ae hf _ K s).trans (by kernel_rfl)
theorem bg:den prog ann 70 (.code r4::K) s=ah prog ann 70 none [] none [] [qC 12 1,qF 13 fun s=>binA prog .shr 76 (s.get 12) (.int .u64 8),qC 1 13] K s:=(ae hf _ K s).trans (by kernel_rfl)
theorem bd:den prog ann 70 (.code r5::K) s=ah prog ann 70 (some [0,1,5]) [] none [] [qF 14 fun s=>binA prog .add 3 (s.get 5) (.int .i64 1),qC 5 14] K s:=(ae hf _ K s).trans (by kernel_rfl)
theorem bo:den prog ann 70 (.code r6::K) s=ah prog ann 70 (some [0]) [] none [] [qC 15 0,qC 4 15] K s:=(ae hf _ K s).trans (by kernel_rfl)
theorem aE:den prog ann 70 (.code .ret::K) s=finM false [fun s=>some (s.get 4)] s:=(aO hf K s).trans (by kernel_rfl)
theorem aC (id:Nat) (K:List Item) (s:St):den prog ann 70 (.inBlock id::K) s=den prog ann 70 K s:=aR hf id K s
theorem aT (id:Nat) (K:List Item) (s:St):den prog ann 70 (.code (.exit id)::K) s=exitV prog ann 70 (exitTo id K) s:=bp hf id K s
theorem al (v0 v1:AV) (m:Mem):denC prog ann 70 [v0,v1] m=den prog ann 70 [.code b] ⟨[(0,v0),(1,v1)],16,m⟩:=(aJ hf (b:=b) (by kernel_rfl) (by kernel_rfl) (by kernel_rfl) m).trans (by kernel_rfl)
theorem aq:(ann 70).pure=false:=by kernel_rfl
attribute [simp] aV aH aI bu bP br aU aZ aL bH aX bg bd bo aE aC aT aq
end
end cV
namespace fj
noncomputable section
variable (K : List Item) (s : St)
def b:Code:=(Tryz.f71.body).getD .skip
theorem hf:prog.funcs[71]?=some Tryz.f71:=by kernel_rfl
def r0:=aa b 0
def r1:=aa b 1
def r2:=aa b 2
def k0:=ax b 0
def l0:=bw k0
def L0 (x3 x6 x7 x8:AV) (m:Mem) (K:List Item):Option Res:=den prog ann 71 (.code l0::.inLoop l0::.inBlock 0::K) ⟨[(3,x3),(6,x6),(7,x7),(8,x8)],19,m⟩
def r3:=aa b 3
def i0:=ak b 0
def i0t:=az i0
def i0e:=aA i0
def k1:=ax b 1
def r4:=aa b 4
def r5:=aa b 5
def r6:=aa b 6
def r7:=aa b 7
theorem aV:den prog ann 71 (.code b::K) s=den prog ann 71 (.code r0::.code r1::.code r2::.code k0::.code r7::.code .ret::K) s:=af hf (l:=[r0,r1,r2,k0,r7,.ret]) (by kernel_rfl) K s
theorem aH:den prog ann 71 (.code r0::K) s=ah prog ann 71 none [] none [] [qF 2 fun s=>some (.int .u64 0)] K s:=(ae hf _ K s).trans (by kernel_rfl)
theorem aI:den prog ann 71 (.code r1::K) s=ah prog ann 71 none [] none [] [qF 3 fun s=>some (.int .u64 14695981039346656037)] K s:=(ae hf _ K s).trans (by kernel_rfl)
theorem br:den prog ann 71 (.code r2::K) s=ah prog ann 71 none [] none [] [qC 6 0,qA 7 lenSl 6,qF 8 fun s=>some (.int .i64 0)] K s:=(ae hf _ K s).trans (by kernel_rfl)
theorem bu (K:List Item) (t:List (Nat×AV)) (m:Mem):den prog ann 71 (.code k0::K) ⟨t,19,m⟩=L0 (get t 3) (get t 6) (get t 7) (get t 8) m K:=ar hf (b:=l0) (id:=3) (l:=[3,6,7,8]) (by kernel_rfl) (by kernel_rfl) (by kernel_rfl) K _
theorem bP (K:List Item) (t:List (Nat×AV)) (m:Mem):den prog ann 71 (.inLoop l0::.inBlock 0::K) ⟨t,19,m⟩=L0 (get t 3) (get t 6) (get t 7) (get t 8) m K:=ay hf (id:=3) (l:=[3,6,7,8]) (by kernel_rfl) (by kernel_rfl) (.inBlock 0::K) _
theorem aM (x3 x6 x7 x8:AV) (m:Mem) (K:List Item):L0 x3 x6 x7 x8 m K=den prog ann 71 (.code r3::.code i0::.code k1::.code r6::.inLoop l0::.inBlock 0::K) ⟨[(3,x3),(6,x6),(7,x7),(8,x8)],19,m⟩:=af hf (l:=[r3,i0,k1,r6]) (by kernel_rfl) _ _
theorem aX:den prog ann 71 (.code r3::K) s=ah prog ann 71 (some [3,6,7,8]) [] none [] [qB 9 (binA prog .lss 3) 8 7] K s:=(ae hf _ K s).trans (by kernel_rfl)
theorem aU:den prog ann 71 (.code i0::K) s=ifV prog ann 71 9 i0t i0e K s (s.get 9):=aB hf (by kernel_rfl) K s
theorem aZ:den prog ann 71 (.code i0t::K) s=den prog ann 71 (K) s:=af hf (l:=[]) (by kernel_rfl) K s
theorem aL:den prog ann 71 (.code i0e::K) s=den prog ann 71 (.code (.exit 0)::K) s:=af hf (l:=[(.exit 0)]) (by kernel_rfl) K s
theorem bH:den prog ann 71 (.code k1::K) s=den prog ann 71 (.code r4::.code r5::.inBlock 1::K) s:=aS hf (b:=blkOf k1) (l:=[r4,r5]) (by kernel_rfl) (by kernel_rfl) K s
theorem bg:den prog ann 71 (.code r4::K) s=ah prog ann 71 none [] none [] [qB 10 (idxSl 1) 6 8,qF 11 fun s=>loadA false 1 s.m (s.get 10),qC 5 11] K s:=(ae hf _ K s).trans (by kernel_rfl)
theorem bd:den prog ann 71 (.code r5::K) s=ah prog ann 71 none [] none [] [qC 12 3,qC 13 5,qA 14 (convInt .u64) 13,qB 15 (binA prog .xor 76) 12 14,qF 16 fun s=>binA prog .mul 76 (s.get 15) (.int .u64 1099511628211),qC 3 16] K s:=(ae hf _ K s).trans (by kernel_rfl)
theorem bo:den prog ann 71 (.code r6::K) s=ah prog ann 71 (some [3,6,7,8]) [] none [] [qF 17 fun s=>binA prog .add 3 (s.get 8) (.int .i64 1),qC 8 17] K s:=(ae hf _ K s).trans (by kernel_rfl)
theorem bM:den prog ann 71 (.code r7::K) s=ah prog ann 71 (some [3]) [] none [] [qC 18 3,qC 2 18] K s:=(ae hf _ K s).trans (by kernel_rfl)
theorem aE:den prog ann 71 (.code .ret::K) s=finM false [fun s=>some (s.get 2)] s:=(aO hf K s).trans (by kernel_rfl)
theorem aC (id:Nat) (K:List Item) (s:St):den prog ann 71 (.inBlock id::K) s=den prog ann 71 K s:=aR hf id K s
theorem aT (id:Nat) (K:List Item) (s:St):den prog ann 71 (.code (.exit id)::K) s=exitV prog ann 71 (exitTo id K) s:=bp hf id K s
theorem al (v0:AV) (m:Mem):denC prog ann 71 [v0] m=den prog ann 71 [.code b] ⟨[(0,v0)],19,m⟩:=(aJ hf (b:=b) (by kernel_rfl) (by kernel_rfl) (by kernel_rfl) m).trans (by kernel_rfl)
theorem aq:(ann 71).pure=false:=by kernel_rfl
attribute [simp] aV aH aI br bu bP aX aU aZ aL bH bg bd bo bM aE aC aT aq
end
end fj
namespace iy
noncomputable section
variable (K : List Item) (s : St)
def b:Code:=(Tryz.f42.body).getD .skip
theorem hf:prog.funcs[42]?=some Tryz.f42:=by kernel_rfl
def r0:=aa b 0
def r1:=aa b 1
theorem aV:den prog ann 42 (.code b::K) s=den prog ann 42 (.code r0::.code r1::.code .ret::K) s:=af hf (l:=[r0,r1,.ret]) (by kernel_rfl) K s
theorem aH:den prog ann 42 (.code r0::K) s=ah prog ann 42 none [] none [] [qA 2 frozenPtr 0,qA 3 frozenPtr 1,qF 4 fun s=>some (.int .i64 0)] K s:=(ae hf _ K s).trans (by kernel_rfl)
theorem aI:den prog ann 42 (.code r1::K) s=ah prog ann 42 none [] none [] [qA 5 (fieldA 0) 3,qA 6 (loadF false 1) 5,qA 7 (convInt .i64) 6,qA 8 (fieldA 0) 2,qA 9 (loadF false 1) 8,qA 10 (convInt .i64) 9,qB 11 (binA prog .sub 3) 7 10,qC 4 11] K s:=(ae hf _ K s).trans (by kernel_rfl)
theorem aE:den prog ann 42 (.code .ret::K) s=finM false [fun s=>some (s.get 4)] s:=(aO hf K s).trans (by kernel_rfl)
theorem al (v0 v1:AV) (m:Mem):denC prog ann 42 [v0,v1] m=den prog ann 42 [.code b] ⟨[(0,v0),(1,v1)],12,m⟩:=(aJ hf (b:=b) (by kernel_rfl) (by kernel_rfl) (by kernel_rfl) m).trans (by kernel_rfl)
theorem aq:(ann 42).pure=false:=by kernel_rfl
attribute [simp] aV aH aI aE aq
end
end iy
namespace aP
noncomputable section
variable (K : List Item) (s : St)
def b:Code:=(Tryz.f82.body).getD .skip
theorem hf:prog.funcs[82]?=some Tryz.f82:=by kernel_rfl
def r0:=aa b 0
def k0:=ax b 0
def l0:=bw k0
def L0 (x0 x1 x2 x3 x8:AV) (m:Mem) (K:List Item):Option Res:=den prog ann 82 (.code l0::.inLoop l0::.inBlock 0::K) ⟨[(0,x0),(1,x1),(2,x2),(3,x3),(8,x8)],53,m⟩
def r1:=aa b 1
def i0:=ak b 0
def i0t:=az i0
def i0e:=aA i0
def k1:=ax b 1
def r3:=aa b 3
def k2:=ax b 2
def l2:=bw k2
def L2 (x0 x1 x2 x3 x8 x9:AV) (m:Mem) (K:List Item):Option Res:=den prog ann 82 (.code l2::.inLoop l2::.inBlock 2::K) ⟨[(0,x0),(1,x1),(2,x2),(3,x3),(8,x8),(9,x9)],53,m⟩
def r4:=aa b 4
def i1:=ak b 1
def i1t:=az i1
def i1e:=aA i1
def k3:=ax b 3
def r6:=aa b 6
def r5:=aa b 5
def r2:=aa b 2
theorem aV:den prog ann 82 (.code b::K) s=den prog ann 82 (.code r0::.code k0::K) s:=af hf (l:=[r0,k0]) (by kernel_rfl) K s
theorem aH:den prog ann 82 (.code r0::K) s=ah prog ann 82 none [] none [] [qC 10 1,qF 11 fun s=>binA prog .add 3 (s.get 10) (.int .i64 1),qC 8 11] K s:=(ae hf _ K s).trans (by kernel_rfl)
theorem bu (K:List Item) (t:List (Nat×AV)) (m:Mem):den prog ann 82 (.code k0::K) ⟨t,53,m⟩=L0 (get t 0) (get t 1) (get t 2) (get t 3) (get t 8) m K:=ar hf (b:=l0) (id:=1) (l:=[0,1,2,3,8]) (by kernel_rfl) (by kernel_rfl) (by kernel_rfl) K _
theorem bP (K:List Item) (t:List (Nat×AV)) (m:Mem):den prog ann 82 (.inLoop l0::.inBlock 0::K) ⟨t,53,m⟩=L0 (get t 0) (get t 1) (get t 2) (get t 3) (get t 8) m K:=ay hf (id:=1) (l:=[0,1,2,3,8]) (by kernel_rfl) (by kernel_rfl) (.inBlock 0::K) _
theorem aM (x0 x1 x2 x3 x8:AV) (m:Mem) (K:List Item):L0 x0 x1 x2 x3 x8 m K=den prog ann 82 (.code r1::.code i0::.code k1::.code r2::.inLoop l0::.inBlock 0::K) ⟨[(0,x0),(1,x1),(2,x2),(3,x3),(8,x8)],53,m⟩:=af hf (l:=[r1,i0,k1,r2]) (by kernel_rfl) _ _
theorem aI:den prog ann 82 (.code r1::K) s=ah prog ann 82 (some [0,1,2,3,8]) [] none [] [qC 12 8,qC 13 2,qB 14 (binA prog .lss 3) 12 13] K s:=(ae hf _ K s).trans (by kernel_rfl)
theorem aU:den prog ann 82 (.code i0::K) s=ifV prog ann 82 14 i0t i0e K s (s.get 14):=aB hf (by kernel_rfl) K s
theorem aZ:den prog ann 82 (.code i0t::K) s=den prog ann 82 (K) s:=af hf (l:=[]) (by kernel_rfl) K s
theorem aL:den prog ann 82 (.code i0e::K) s=den prog ann 82 (.code (.exit 0)::K) s:=af hf (l:=[(.exit 0)]) (by kernel_rfl) K s
theorem bH:den prog ann 82 (.code k1::K) s=den prog ann 82 (.code r3::.code k2::.inBlock 1::K) s:=aS hf (b:=blkOf k1) (l:=[r3,k2]) (by kernel_rfl) (by kernel_rfl) K s
theorem aX:den prog ann 82 (.code r3::K) s=ah prog ann 82 none [] none [] [qC 17 8,qC 9 17] K s:=(ae hf _ K s).trans (by kernel_rfl)
theorem dL (K:List Item) (t:List (Nat×AV)) (m:Mem):den prog ann 82 (.code k2::K) ⟨t,53,m⟩=L2 (get t 0) (get t 1) (get t 2) (get t 3) (get t 8) (get t 9) m K:=ar hf (b:=l2) (id:=4) (l:=[0,1,2,3,8,9]) (by kernel_rfl) (by kernel_rfl) (by kernel_rfl) K _
theorem ie (K:List Item) (t:List (Nat×AV)) (m:Mem):den prog ann 82 (.inLoop l2::.inBlock 2::K) ⟨t,53,m⟩=L2 (get t 0) (get t 1) (get t 2) (get t 3) (get t 8) (get t 9) m K:=ay hf (id:=4) (l:=[0,1,2,3,8,9]) (by kernel_rfl) (by kernel_rfl) (.inBlock 2::K) _
theorem dt (x0 x1 x2 x3 x8 x9:AV) (m:Mem) (K:List Item):L2 x0 x1 x2 x3 x8 x9 m K=den prog ann 82 (.code r4::.code i1::.code k3::.code r5::.inLoop l2::.inBlock 2::K) ⟨[(0,x0),(1,x1),(2,x2),(3,x3),(8,x8),(9,x9)],53,m⟩:=af hf (l:=[r4,i1,k3,r5]) (by kernel_rfl) _ _
theorem dM:bh (fun g=>(ann g).pure) (bj (ann 82) (bI r4)) (bN (ann 82) (bI r4)) (opsOf r4)=true:=aQ (an:=[0,0,3,7,15,15,15,111,239,15,15,1039,3599,7695,16383,32767,65535]) (by kernel_rfl) (by kernel_rfl)
theorem bg:den prog ann 82 (.code r4::K) s=ah prog ann 82 (some [0,1,2,3,8,9]) [] (some 17) [] [qC 18 9,qC 19 1,qB 20 (binA prog .gtr 3) 18 19,qC 21 20,⟨some 22,some (21,true),.v fun s=>some (s.get 3)⟩,⟨some 23,some (21,true),.v fun s=>some (s.get 0)⟩,⟨some 24,some (21,true),.v fun s=>some (s.get 9)⟩,⟨some 25,some (21,true),.v fun s=>idxSl 2 (s.get 23) (s.get 24)⟩,⟨some 26,some (21,true),.v fun s=>loadA true 2 s.m (s.get 25)⟩,⟨some 27,some (21,true),.v fun s=>some (s.get 0)⟩,⟨some 28,some (21,true),.v fun s=>some (s.get 9)⟩,⟨some 29,some (21,true),.v fun s=>binA prog .sub 3 (s.get 28) (.int .i64 1)⟩,⟨some 30,some (21,true),.v fun s=>idxSl 2 (s.get 27) (s.get 29)⟩,⟨some 31,some (21,true),.v fun s=>loadA true 2 s.m (s.get 30)⟩,⟨some 32,some (21,true),.c 0 (fun s=>(s.get 22)) fun s=>[(s.get 26),(s.get 31)]⟩,⟨some 33,some (21,true),.v fun s=>binA prog .lss 3 (s.get 32) (.int .i64 0)⟩,qF 34 fun s=>pickA (s.get 21) (s.get 33) (.bool false)] K s:=(aW hf dM K s).trans (by kernel_rfl)
theorem bC:den prog ann 82 (.code i1::K) s=ifV prog ann 82 34 i1t i1e K s (s.get 34):=aB hf (by kernel_rfl) K s
theorem bA:den prog ann 82 (.code i1t::K) s=den prog ann 82 (K) s:=af hf (l:=[]) (by kernel_rfl) K s
theorem aY:den prog ann 82 (.code i1e::K) s=den prog ann 82 (.code (.exit 2)::K) s:=af hf (l:=[(.exit 2)]) (by kernel_rfl) K s
theorem fy:den prog ann 82 (.code k3::K) s=den prog ann 82 (.code r6::.inBlock 3::K) s:=aS hf (b:=blkOf k3) (l:=[r6]) (by kernel_rfl) (by kernel_rfl) K s
theorem jY:bh (fun g=>(ann g).pure) (bj (ann 82) (bI r6)) (bN (ann 82) (bI r6)) (opsOf r6)=true:=aQ (an:=[0,0,0,0,8,0,0,64,224,480,0,0,3072,7168,16355,32739,65535,131071]) (by kernel_rfl) (by kernel_rfl)
theorem bo:den prog ann 82 (.code r6::K) s=ah prog ann 82 none [] (some 18) [] [qC 37 0,qC 38 9,qC 39 0,qC 40 9,qF 41 fun s=>binA prog .sub 3 (s.get 40) (.int .i64 1),qC 42 0,qC 43 9,qF 44 fun s=>binA prog .sub 3 (s.get 43) (.int .i64 1),qB 45 (idxSl 2) 42 44,qF 46 fun s=>loadA true 2 s.m (s.get 45),qC 47 0,qC 48 9,qB 49 (idxSl 2) 47 48,qF 50 fun s=>loadA true 2 s.m (s.get 49),qB 51 (idxSl 2) 37 38,⟨none,none,.w false (some 15) fun s=>stA true 2 s.m (s.get 51) (s.get 46)⟩,qB 52 (idxSl 2) 39 41,⟨none,none,.w false (some 17) fun s=>stA true 2 s.m (s.get 52) (s.get 50)⟩] K s:=(aW hf jY K s).trans (by kernel_rfl)
theorem bd:den prog ann 82 (.code r5::K) s=ah prog ann 82 (some [0,1,2,3,8,9]) [] none [] [qC 35 9,qF 36 fun s=>binA prog .sub 3 (s.get 35) (.int .i64 1),qC 9 36] K s:=(ae hf _ K s).trans (by kernel_rfl)
theorem br:den prog ann 82 (.code r2::K) s=ah prog ann 82 (some [0,1,2,3,8]) [] none [] [qC 15 8,qF 16 fun s=>binA prog .add 3 (s.get 15) (.int .i64 1),qC 8 16] K s:=(ae hf _ K s).trans (by kernel_rfl)
theorem nil_eq (s:St):den prog ann 82 [] s=finM false [] s:=(gk hf s).trans (by kernel_rfl)
theorem aC (id:Nat) (K:List Item) (s:St):den prog ann 82 (.inBlock id::K) s=den prog ann 82 K s:=aR hf id K s
theorem aT (id:Nat) (K:List Item) (s:St):den prog ann 82 (.code (.exit id)::K) s=exitV prog ann 82 (exitTo id K) s:=bp hf id K s
theorem al (v0 v1 v2 v3:AV) (m:Mem):denC prog ann 82 [v0,v1,v2,v3] m=den prog ann 82 [.code b] ⟨[(0,v0),(1,v1),(2,v2),(3,v3)],53,m⟩:=(aJ hf (b:=b) (by kernel_rfl) (by kernel_rfl) (by kernel_rfl) m).trans (by kernel_rfl)
theorem aq:(ann 82).pure=false:=by kernel_rfl
attribute [simp] aV aH bu bP aI aU aZ aL bH aX dL ie bg bC bA aY fy bo bd br nil_eq aC aT aq
end
end aP
namespace bJ
noncomputable section
variable (K : List Item) (s : St)
def b:Code:=(Tryz.f66.body).getD .skip
theorem hf:prog.funcs[66]?=some Tryz.f66:=by kernel_rfl
def r0:=aa b 0
def r1:=aa b 1
def k0:=ax b 0
def l0:=bw k0
def L0 (x0 x1 x2 x3 x4 x10 x11:AV) (m:Mem) (K:List Item):Option Res:=den prog ann 66 (.code l0::.inLoop l0::.inBlock 0::K) ⟨[(0,x0),(1,x1),(2,x2),(3,x3),(4,x4),(10,x10),(11,x11)],148,m⟩
def k1:=ax b 1
def r2:=aa b 2
def r3:=aa b 3
def i0:=ak b 0
def i0t:=az i0
def i0e:=aA i0
def r4:=aa b 4
def r5:=aa b 5
def i1:=ak b 1
def r7:=aa b 7
def i2:=ak b 2
def r10:=aa b 10
def r11:=aa b 11
def i3:=ak b 3
def r15:=aa b 15
def i4:=ak b 4
def r17:=aa b 17
def i6:=ak b 6
def r20:=aa b 20
def r21:=aa b 21
def r22:=aa b 22
def r23:=aa b 23
def r24:=aa b 24
def i7:=ak b 7
theorem aV:den prog ann 66 (.code b::K) s=den prog ann 66 (.code r0::.code r1::.code k0::K) s:=af hf (l:=[r0,r1,k0]) (by kernel_rfl) K s
theorem aH:den prog ann 66 (.code r0::K) s=ah prog ann 66 none [] none [] [qF 10 fun s=>some (.bool true)] K s:=(ae hf _ K s).trans (by kernel_rfl)
theorem aI:den prog ann 66 (.code r1::K) s=ah prog ann 66 none [] none [] [qF 11 fun s=>some (.bool true)] K s:=(ae hf _ K s).trans (by kernel_rfl)
theorem bu (K:List Item) (t:List (Nat×AV)) (m:Mem):den prog ann 66 (.code k0::K) ⟨t,148,m⟩=L0 (get t 0) (get t 1) (get t 2) (get t 3) (get t 4) (get t 10) (get t 11) m K:=ar hf (b:=l0) (id:=2) (l:=[0,1,2,3,4,10,11]) (by kernel_rfl) (by kernel_rfl) (by kernel_rfl) K _
theorem aM (x0 x1 x2 x3 x4 x10 x11:AV) (m:Mem) (K:List Item):L0 x0 x1 x2 x3 x4 x10 x11 m K=den prog ann 66 (.code k1::.inLoop l0::.inBlock 0::K) ⟨[(0,x0),(1,x1),(2,x2),(3,x3),(4,x4),(10,x10),(11,x11)],148,m⟩:=af hf (l:=[k1]) (by kernel_rfl) _ _
theorem bH:den prog ann 66 (.code k1::K) s=den prog ann 66 (.code r2::.code r3::.code i0::.code r5::.code i1::.code r7::.code i2::.code r10::.code r11::.code i3::.code r15::.code i4::.code r17::.code i6::.code r20::.code r21::.code r22::.code r23::.code r24::.code i7::.inBlock 1::K) s:=aS hf (b:=blkOf k1) (l:=[r2,r3,i0,r5,i1,r7,i2,r10,r11,i3,r15,i4,r17,i6,r20,r21,r22,r23,r24,i7]) (by kernel_rfl) (by kernel_rfl) K s
theorem br:den prog ann 66 (.code r2::K) s=ah prog ann 66 (some [0,1,2,3,4,10,11]) [] none [] [qC 21 2,qC 22 1,qB 23 (binA prog .sub 3) 21 22,qC 12 23] K s:=(ae hf _ K s).trans (by kernel_rfl)
theorem aX:den prog ann 66 (.code r3::K) s=ah prog ann 66 none [] none [] [qC 24 12,qF 25 fun s=>binA prog .leq 3 (s.get 24) (.int .i64 12)] K s:=(ae hf _ K s).trans (by kernel_rfl)
theorem aU:den prog ann 66 (.code i0::K) s=ifV prog ann 66 25 i0t i0e K s (s.get 25):=aB hf (by kernel_rfl) K s
theorem aZ:den prog ann 66 (.code i0t::K) s=den prog ann 66 (.code r4::.code .ret::K) s:=af hf (l:=[r4,.ret]) (by kernel_rfl) K s
theorem bg:den prog ann 66 (.code r4::K) s=ah prog ann 66 none [] none [] [qC 26 0,qC 27 1,qC 28 2,qC 29 4,⟨some 30,none,.c 0 (fun s=>(.fn 82 [] [])) fun s=>[(s.get 26),(s.get 27),(s.get 28),(s.get 29)]⟩] K s:=(ae hf _ K s).trans (by kernel_rfl)
theorem aE:den prog ann 66 (.code .ret::K) s=finM false [] s:=(aO hf K s).trans (by kernel_rfl)
theorem al (v0 v1 v2 v3 v4:AV) (m:Mem):denC prog ann 66 [v0,v1,v2,v3,v4] m=den prog ann 66 [.code b] ⟨[(0,v0),(1,v1),(2,v2),(3,v3),(4,v4)],148,m⟩:=(aJ hf (b:=b) (by kernel_rfl) (by kernel_rfl) (by kernel_rfl) m).trans (by kernel_rfl)
theorem aq:(ann 66).pure=false:=by kernel_rfl
attribute [simp] aV aH aI bu bH br aX aU aZ bg aE aq
end
end bJ
namespace cM
noncomputable section
variable (K : List Item) (s : St)
def b:Code:=(Tryz.f41.body).getD .skip
theorem hf:prog.funcs[41]?=some Tryz.f41:=by kernel_rfl
def r0:=aa b 0
def r1:=aa b 1
theorem aV:den prog ann 41 (.code b::K) s=den prog ann 41 (.code r0::.code r1::K) s:=af hf (l:=[r0,r1]) (by kernel_rfl) K s
theorem aH:den prog ann 41 (.code r0::K) s=ah prog ann 41 none [] none [] [qC 5 0,qA 6 lenSl 5,qC 4 6] K s:=(ae hf _ K s).trans (by kernel_rfl)
theorem aI:den prog ann 41 (.code r1::K) s=ah prog ann 41 none [] none [] [qC 7 0,qC 8 4,qC 9 4,qA 10 (convInt .u64) 9,⟨some 11,none,.c 0 (fun s=>(.fn 67 [] [])) fun s=>[(s.get 10)]⟩,qC 12 1,⟨some 13,none,.c 0 (fun s=>(.fn 66 [] [])) fun s=>[(s.get 7),(.int .i64 0),(s.get 8),(s.get 11),(s.get 12)]⟩] K s:=(ae hf _ K s).trans (by kernel_rfl)
theorem nil_eq (s:St):den prog ann 41 [] s=finM false [] s:=(gk hf s).trans (by kernel_rfl)
theorem al (v0 v1:AV) (m:Mem):denC prog ann 41 [v0,v1] m=den prog ann 41 [.code b] ⟨[(0,v0),(1,v1)],14,m⟩:=(aJ hf (b:=b) (by kernel_rfl) (by kernel_rfl) (by kernel_rfl) m).trans (by kernel_rfl)
theorem aq:(ann 41).pure=false:=by kernel_rfl
attribute [simp] aV aH aI nil_eq aq
end
end cM
namespace cN
noncomputable section
variable (K : List Item) (s : St)
def b:Code:=(Tryz.f40.body).getD .skip
theorem hf:prog.funcs[40]?=some Tryz.f40:=by kernel_rfl
def r0:=aa b 0
def r1:=aa b 1
def r2:=aa b 2
def k0:=ax b 0
def l0:=bw k0
def L0 (x0 x2 x4 x11:AV) (m:Mem) (K:List Item):Option Res:=den prog ann 40 (.code l0::.inLoop l0::.inBlock 0::K) ⟨[(0,x0),(2,x2),(4,x4),(11,x11)],39,m⟩
def r3:=aa b 3
def i0:=ak b 0
def i0t:=az i0
def i0e:=aA i0
def k1:=ax b 1
def r4:=aa b 4
def r5:=aa b 5
def r6:=aa b 6
def r7:=aa b 7
theorem aV:den prog ann 40 (.code b::K) s=den prog ann 40 (.code r0::.code r1::.code r2::.code k0::.code r7::.code .ret::K) s:=af hf (l:=[r0,r1,r2,k0,r7,.ret]) (by kernel_rfl) K s
theorem aH:den prog ann 40 (.code r0::K) s=ah prog ann 40 none [] none [] [⟨some 2,none,.w false none fun s=>newPtr s.m [.int .u64 0,.int .i64 0]⟩,qF 3 fun s=>some (.bool false)] K s:=(ae hf _ K s).trans (by kernel_rfl)
theorem aI:den prog ann 40 (.code r1::K) s=ah prog ann 40 none [] none [] [qC 6 0,qF 7 fun s=>idxSl 1 (s.get 6) (.int .i64 12),qF 8 fun s=>loadA false 1 s.m (s.get 7),qA 9 (convInt .i64) 8,qF 10 fun s=>bldA (plc [(0,1),(1,1)]) [.int .u64 0,.int .i64 0] [(1,(s.get 9))],⟨some 4,none,.w false none fun s=>newPtr s.m [.int .u64 0,.int .i64 0]⟩,⟨none,none,.w false none fun s=>stA true 2 s.m (s.get 4) (s.get 10)⟩] K s:=(ae hf _ K s).trans (by kernel_rfl)
theorem br:den prog ann 40 (.code r2::K) s=ah prog ann 40 none [] none [] [qF 11 fun s=>some (.int .i64 0)] K s:=(ae hf _ K s).trans (by kernel_rfl)
theorem bu (K:List Item) (t:List (Nat×AV)) (m:Mem):den prog ann 40 (.code k0::K) ⟨t,39,m⟩=L0 (get t 0) (get t 2) (get t 4) (get t 11) m K:=ar hf (b:=l0) (id:=3) (l:=[0,2,4,11]) (by kernel_rfl) (by kernel_rfl) (by kernel_rfl) K _
theorem bP (K:List Item) (t:List (Nat×AV)) (m:Mem):den prog ann 40 (.inLoop l0::.inBlock 0::K) ⟨t,39,m⟩=L0 (get t 0) (get t 2) (get t 4) (get t 11) m K:=ay hf (id:=3) (l:=[0,2,4,11]) (by kernel_rfl) (by kernel_rfl) (.inBlock 0::K) _
theorem aM (x0 x2 x4 x11:AV) (m:Mem) (K:List Item):L0 x0 x2 x4 x11 m K=den prog ann 40 (.code r3::.code i0::.code k1::.code r6::.inLoop l0::.inBlock 0::K) ⟨[(0,x0),(2,x2),(4,x4),(11,x11)],39,m⟩:=af hf (l:=[r3,i0,k1,r6]) (by kernel_rfl) _ _
theorem aX:den prog ann 40 (.code r3::K) s=ah prog ann 40 (some [0,2,4,11]) [] none [] [qF 12 fun s=>binA prog .lss 3 (s.get 11) (.int .i64 8)] K s:=(ae hf _ K s).trans (by kernel_rfl)
theorem aU:den prog ann 40 (.code i0::K) s=ifV prog ann 40 12 i0t i0e K s (s.get 12):=aB hf (by kernel_rfl) K s
theorem aZ:den prog ann 40 (.code i0t::K) s=den prog ann 40 (K) s:=af hf (l:=[]) (by kernel_rfl) K s
theorem aL:den prog ann 40 (.code i0e::K) s=den prog ann 40 (.code (.exit 0)::K) s:=af hf (l:=[(.exit 0)]) (by kernel_rfl) K s
theorem bH:den prog ann 40 (.code k1::K) s=den prog ann 40 (.code r4::.code r5::.inBlock 1::K) s:=aS hf (b:=blkOf k1) (l:=[r4,r5]) (by kernel_rfl) (by kernel_rfl) K s
theorem bg:den prog ann 40 (.code r4::K) s=ah prog ann 40 none [] none [] [qC 13 11,qC 5 13] K s:=(ae hf _ K s).trans (by kernel_rfl)
theorem dm:bh (fun g=>(ann g).pure) (bj (ann 40) (bI r5)) (bN (ann 40) (bI r5)) (opsOf r5)=true:=aQ (an:=[0,1,0,0,8,28,60,124,0,256,1020,2047,4095,8191]) (by kernel_rfl) (by kernel_rfl)
theorem bd:den prog ann 40 (.code r5::K) s=ah prog ann 40 none [] (some 14) [] [qA 14 (fieldA 0) 4,qF 15 fun s=>loadA false 1 s.m (s.get 14),qC 16 0,qC 17 5,qA 18 (binA prog .add 3 (.int .i64 4)) 17,qB 19 (idxSl 1) 16 18,qF 20 fun s=>loadA false 1 s.m (s.get 19),qA 21 (convInt .u64) 20,qC 22 5,qA 23 (binA prog .mul 3 (.int .i64 8)) 22,qB 24 (binA prog .shl 76) 21 23,qB 25 (binA prog .or 76) 15 24,qA 26 (fieldA 0) 4,⟨none,none,.w false (some 13) fun s=>stA false 1 s.m (s.get 26) (s.get 25)⟩] K s:=(aW hf dm K s).trans (by kernel_rfl)
theorem bo:den prog ann 40 (.code r6::K) s=ah prog ann 40 (some [0,2,4,11]) [] none [] [qF 27 fun s=>binA prog .add 3 (s.get 11) (.int .i64 1),qC 11 27] K s:=(ae hf _ K s).trans (by kernel_rfl)
theorem qe:bh (fun g=>(ann g).pure) (bj (ann 40) (bI r7)) (bN (ann 40) (bI r7)) (opsOf r7)=true:=aQ (an:=[0,0,2,6,14,30,62,30,158,510,1022,1023,4095]) (by kernel_rfl) (by kernel_rfl)
theorem bM:den prog ann 40 (.code r7::K) s=ah prog ann 40 (some [0,2,4]) [4] (some 13) [] [qA 28 (loadF true 2) 4,qA 29 (fieldA 0) 4,qA 30 (loadF false 1) 29,qF 31 fun s=>binA prog .gtr 76 (s.get 30) (.int .u64 0),qC 32 31,⟨some 33,some (32,true),.v fun s=>loadF true 2 (s.get 4)⟩,⟨some 34,some (32,true),.c 0 (fun s=>(.fn 46 [] [])) fun s=>[(s.get 33)]⟩,⟨some 35,some (32,true),.v fun s=>some (s.get 0)⟩,⟨some 36,some (32,true),.v fun s=>sliceSl 1 (s.get 35) none (some (.int .i64 21))⟩,⟨some 37,some (32,true),.c 0 (fun s=>(.fn 65 [] [])) fun s=>[(s.get 34),(s.get 36)]⟩,qF 38 fun s=>pickA (s.get 32) (s.get 37) (.bool false),⟨none,none,.w false (some 11) fun s=>stA true 2 s.m (s.get 2) (s.get 28)⟩,qC 3 38] K s:=(aW hf qe K s).trans (by kernel_rfl)
theorem aE:den prog ann 40 (.code .ret::K) s=finM false [fun s=>loadA true 2 s.m (s.get 2),fun s=>some (s.get 3)] s:=(aO hf K s).trans (by kernel_rfl)
theorem aC (id:Nat) (K:List Item) (s:St):den prog ann 40 (.inBlock id::K) s=den prog ann 40 K s:=aR hf id K s
theorem aT (id:Nat) (K:List Item) (s:St):den prog ann 40 (.code (.exit id)::K) s=exitV prog ann 40 (exitTo id K) s:=bp hf id K s
theorem al (v0:AV) (m:Mem):denC prog ann 40 [v0] m=den prog ann 40 [.code b] ⟨[(0,v0)],39,m⟩:=(aJ hf (b:=b) (by kernel_rfl) (by kernel_rfl) (by kernel_rfl) m).trans (by kernel_rfl)
theorem aq:(ann 40).pure=false:=by kernel_rfl
attribute [simp] aV aH aI br bu bP aX aU aZ aL bH bg bd bo bM aE aC aT aq
end
end cN
namespace au
noncomputable section
variable (K : List Item) (s : St)
def b:Code:=(Tryz.f23.body).getD .skip
theorem hf:prog.funcs[23]?=some Tryz.f23:=by kernel_rfl
def r0:=aa b 0
def r1:=aa b 1
def r2:=aa b 2
def k0:=ax b 0
def l0:=bw k0
def L0 (x0 x2 x3 x5 x13:AV) (m:Mem) (K:List Item):Option Res:=den prog ann 23 (.code l0::.inLoop l0::.inBlock 0::K) ⟨[(0,x0),(2,x2),(3,x3),(5,x5),(13,x13)],52,m⟩
def r3:=aa b 3
def i0:=ak b 0
def i0t:=az i0
def i0e:=aA i0
def k1:=ax b 1
def r4:=aa b 4
def r5:=aa b 5
def r6:=aa b 6
def i1:=ak b 1
def i1t:=az i1
def i1e:=aA i1
def r7:=aa b 7
def r8:=aa b 8
def r9:=aa b 9
def r10:=aa b 10
def k2:=ax b 2
def l2:=bw k2
def L2 (x0 x2 x3 x34 x35 x36:AV) (m:Mem) (K:List Item):Option Res:=den prog ann 23 (.code l2::.inLoop l2::.inBlock 2::K) ⟨[(0,x0),(2,x2),(3,x3),(34,x34),(35,x35),(36,x36)],52,m⟩
def r11:=aa b 11
def i2:=ak b 2
def i2t:=az i2
def i2e:=aA i2
def k3:=ax b 3
def r12:=aa b 12
def r13:=aa b 13
def r14:=aa b 14
def r15:=aa b 15
def r16:=aa b 16
theorem aV:den prog ann 23 (.code b::K) s=den prog ann 23 (.code r0::.code r1::.code r2::.code k0::.code r9::.code r10::.code k2::.code r16::.code .ret::K) s:=af hf (l:=[r0,r1,r2,k0,r9,r10,k2,r16,.ret]) (by kernel_rfl) K s
theorem aH:den prog ann 23 (.code r0::K) s=ah prog ann 23 none [] none [] [⟨some 2,none,.w false none fun s=>newPtr s.m [.int .u64 0,.int .i64 0]⟩,⟨some 3,none,.w false none fun s=>newPtr s.m [.nilm,.nilm]⟩,qF 4 fun s=>some (.bool false)] K s:=(ae hf _ K s).trans (by kernel_rfl)
theorem aI:den prog ann 23 (.code r1::K) s=ah prog ann 23 none [] none [] [qF 5 fun s=>some (.nils)] K s:=(ae hf _ K s).trans (by kernel_rfl)
theorem br:den prog ann 23 (.code r2::K) s=ah prog ann 23 none [] none [] [qF 13 fun s=>some (.int .i64 0)] K s:=(ae hf _ K s).trans (by kernel_rfl)
theorem bu (K:List Item) (t:List (Nat×AV)) (m:Mem):den prog ann 23 (.code k0::K) ⟨t,52,m⟩=L0 (get t 0) (get t 2) (get t 3) (get t 5) (get t 13) m K:=ar hf (b:=l0) (id:=3) (l:=[0,2,3,5,13]) (by kernel_rfl) (by kernel_rfl) (by kernel_rfl) K _
theorem bP (K:List Item) (t:List (Nat×AV)) (m:Mem):den prog ann 23 (.inLoop l0::.inBlock 0::K) ⟨t,52,m⟩=L0 (get t 0) (get t 2) (get t 3) (get t 5) (get t 13) m K:=ay hf (id:=3) (l:=[0,2,3,5,13]) (by kernel_rfl) (by kernel_rfl) (.inBlock 0::K) _
theorem aM (x0 x2 x3 x5 x13:AV) (m:Mem) (K:List Item):L0 x0 x2 x3 x5 x13 m K=den prog ann 23 (.code r3::.code i0::.code k1::.code r8::.inLoop l0::.inBlock 0::K) ⟨[(0,x0),(2,x2),(3,x3),(5,x5),(13,x13)],52,m⟩:=af hf (l:=[r3,i0,k1,r8]) (by kernel_rfl) _ _
theorem aX:den prog ann 23 (.code r3::K) s=ah prog ann 23 (some [0,2,3,5,13]) [] none [] [qF 14 fun s=>binA prog .lss 3 (s.get 13) (.int .i64 2)] K s:=(ae hf _ K s).trans (by kernel_rfl)
theorem aU:den prog ann 23 (.code i0::K) s=ifV prog ann 23 14 i0t i0e K s (s.get 14):=aB hf (by kernel_rfl) K s
theorem aZ:den prog ann 23 (.code i0t::K) s=den prog ann 23 (K) s:=af hf (l:=[]) (by kernel_rfl) K s
theorem aL:den prog ann 23 (.code i0e::K) s=den prog ann 23 (.code (.exit 0)::K) s:=af hf (l:=[(.exit 0)]) (by kernel_rfl) K s
theorem bH:den prog ann 23 (.code k1::K) s=den prog ann 23 (.code r4::.code r5::.code r6::.code i1::.inBlock 1::K) s:=aS hf (b:=blkOf k1) (l:=[r4,r5,r6,i1]) (by kernel_rfl) (by kernel_rfl) K s
theorem bg:den prog ann 23 (.code r4::K) s=ah prog ann 23 none [] none [] [qC 15 13,qC 6 15] K s:=(ae hf _ K s).trans (by kernel_rfl)
theorem bd:den prog ann 23 (.code r5::K) s=ah prog ann 23 none [] none [7] [qC 17 0,qC 18 6,qA 19 nilA 17,qA 20 (fieldA 5) 19,qB 21 (idxArr 256 256) 20 18,qF 22 fun s=>sliceArr 256 1 (s.get 21) none none,⟨some 23,none,.c 0 (fun s=>(.fn 40 [] [])) fun s=>[(s.get 22)]⟩,qC 16 23,qF 24 fun s=>extA (s.get 16) 0,qF 25 fun s=>extA (s.get 16) 1,⟨some 7,none,.w false none fun s=>newPtr s.m [.int .u64 0,.int .i64 0]⟩,⟨none,none,.w false none fun s=>stA true 2 s.m (s.get 7) (s.get 24)⟩,qC 8 25] K s:=(ae hf _ K s).trans (by kernel_rfl)
theorem bo:den prog ann 23 (.code r6::K) s=ah prog ann 23 none [] none [] [qC 26 8] K s:=(ae hf _ K s).trans (by kernel_rfl)
theorem bC:den prog ann 23 (.code i1::K) s=ifV prog ann 23 26 i1t i1e K s (s.get 26):=aB hf (by kernel_rfl) K s
theorem bA:den prog ann 23 (.code i1t::K) s=den prog ann 23 (.code r7::K) s:=af hf (l:=[r7]) (by kernel_rfl) K s
theorem bM:den prog ann 23 (.code r7::K) s=ah prog ann 23 none [] none [] [qC 27 5,qA 28 (loadF true 2) 7,qF 29 fun s=>bslF 1 (bslA 2 1 [.int .u64 0,.int .i64 0] [(0,(s.get 28))]),⟨some 30,none,.w false none fun s=>appendA 2 16 s.m (s.get 27) (s.get 29)⟩,qC 5 30] K s:=(ae hf _ K s).trans (by kernel_rfl)
theorem aY:den prog ann 23 (.code i1e::K) s=den prog ann 23 (K) s:=af hf (l:=[]) (by kernel_rfl) K s
theorem bQ:den prog ann 23 (.code r8::K) s=ah prog ann 23 (some [0,2,3,5,13]) [] none [] [qF 31 fun s=>binA prog .add 3 (s.get 13) (.int .i64 1),qC 13 31] K s:=(ae hf _ K s).trans (by kernel_rfl)
theorem bU:den prog ann 23 (.code r9::K) s=ah prog ann 23 (some [0,2,3,5]) [] none [] [qC 32 5,⟨some 33,none,.c 0 (fun s=>(.fn 41 [] [])) fun s=>[(s.get 32),(.fn 42 [] [])]⟩] K s:=(ae hf _ K s).trans (by kernel_rfl)
theorem bV:den prog ann 23 (.code r10::K) s=ah prog ann 23 none [] none [] [qC 34 5,qA 35 lenSl 34,qF 36 fun s=>some (.int .i64 0)] K s:=(ae hf _ K s).trans (by kernel_rfl)
theorem dL (K:List Item) (t:List (Nat×AV)) (m:Mem):den prog ann 23 (.code k2::K) ⟨t,52,m⟩=L2 (get t 0) (get t 2) (get t 3) (get t 34) (get t 35) (get t 36) m K:=ar hf (b:=l2) (id:=11) (l:=[0,2,3,34,35,36]) (by kernel_rfl) (by kernel_rfl) (by kernel_rfl) K _
theorem dt (x0 x2 x3 x34 x35 x36:AV) (m:Mem) (K:List Item):L2 x0 x2 x3 x34 x35 x36 m K=den prog ann 23 (.code r11::.code i2::.code k3::.code r15::.inLoop l2::.inBlock 2::K) ⟨[(0,x0),(2,x2),(3,x3),(34,x34),(35,x35),(36,x36)],52,m⟩:=af hf (l:=[r11,i2,k3,r15]) (by kernel_rfl) _ _
theorem bW:den prog ann 23 (.code r11::K) s=ah prog ann 23 (some [0,2,3,34,35,36]) [] none [] [qB 37 (binA prog .lss 3) 36 35] K s:=(ae hf _ K s).trans (by kernel_rfl)
theorem cw:den prog ann 23 (.code i2::K) s=ifV prog ann 23 37 i2t i2e K s (s.get 37):=aB hf (by kernel_rfl) K s
theorem cj:den prog ann 23 (.code i2t::K) s=den prog ann 23 (K) s:=af hf (l:=[]) (by kernel_rfl) K s
theorem bY:den prog ann 23 (.code i2e::K) s=den prog ann 23 (.code (.exit 2)::K) s:=af hf (l:=[(.exit 2)]) (by kernel_rfl) K s
theorem fy:den prog ann 23 (.code k3::K) s=den prog ann 23 (.code r12::.code r13::.code r14::.code .ret::.inBlock 3::K) s:=aS hf (b:=blkOf k3) (l:=[r12,r13,r14,.ret]) (by kernel_rfl) (by kernel_rfl) K s
theorem cv:den prog ann 23 (.code r12::K) s=ah prog ann 23 none [] none [10] [qB 38 (idxSl 2) 34 36,qF 39 fun s=>loadA true 2 s.m (s.get 38),⟨some 10,none,.w false none fun s=>newPtr s.m [.int .u64 0,.int .i64 0]⟩,⟨none,none,.w false none fun s=>stA true 2 s.m (s.get 10) (s.get 39)⟩] K s:=(ae hf _ K s).trans (by kernel_rfl)
theorem cP:den prog ann 23 (.code r13::K) s=ah prog ann 23 none [] none [11] [qC 41 0,qA 42 (loadF true 2) 10,⟨some 43,none,.c 0 (fun s=>(.fn 43 [] [])) fun s=>[(s.get 41),(s.get 42)]⟩,qC 40 43,qF 44 fun s=>extA (s.get 40) 0,qF 45 fun s=>extA (s.get 40) 1,⟨some 11,none,.w false none fun s=>newPtr s.m [.nilm,.nilm]⟩,⟨none,none,.w false none fun s=>stA true 2 s.m (s.get 11) (s.get 44)⟩,qC 12 45] K s:=(ae hf _ K s).trans (by kernel_rfl)
theorem AI:bh (fun g=>(ann g).pure) (bj (ann 23) (bI r14)) (bN (ann 23) (bI r14)) (opsOf r14)=true:=aQ (an:=[0,0,0,1,11,31]) (by kernel_rfl) (by kernel_rfl)
theorem cY:den prog ann 23 (.code r14::K) s=ah prog ann 23 none [] (some 6) [] [qA 46 (loadF true 2) 10,qA 47 (loadF true 2) 11,qC 48 12,⟨none,none,.w false (some 3) fun s=>stA true 2 s.m (s.get 2) (s.get 46)⟩,⟨none,none,.w false (some 4) fun s=>stA true 2 s.m (s.get 3) (s.get 47)⟩,qC 4 48] K s:=(aW hf AI K s).trans (by kernel_rfl)
theorem dg:den prog ann 23 (.code r16::K) s=ah prog ann 23 (some [2,3]) [] none [] [qF 50 fun s=>bldA (plc [(0,1),(1,1)]) [.int .u64 0,.int .i64 0] [],⟨some 51,none,.c 0 (fun s=>(.fn 44 [] [])) fun s=>[]⟩,⟨none,none,.w false none fun s=>stA true 2 s.m (s.get 2) (s.get 50)⟩,⟨none,none,.w false none fun s=>stA true 2 s.m (s.get 3) (s.get 51)⟩,qF 4 fun s=>some (.bool false)] K s:=(ae hf _ K s).trans (by kernel_rfl)
theorem aE:den prog ann 23 (.code .ret::K) s=finM false [fun s=>loadA true 2 s.m (s.get 2),fun s=>loadA true 2 s.m (s.get 3),fun s=>some (s.get 4)] s:=(aO hf K s).trans (by kernel_rfl)
theorem aC (id:Nat) (K:List Item) (s:St):den prog ann 23 (.inBlock id::K) s=den prog ann 23 K s:=aR hf id K s
theorem aT (id:Nat) (K:List Item) (s:St):den prog ann 23 (.code (.exit id)::K) s=exitV prog ann 23 (exitTo id K) s:=bp hf id K s
theorem al (v0:AV) (m:Mem):denC prog ann 23 [v0] m=den prog ann 23 [.code b] ⟨[(0,v0)],52,m⟩:=(aJ hf (b:=b) (by kernel_rfl) (by kernel_rfl) (by kernel_rfl) m).trans (by kernel_rfl)
theorem aq:(ann 23).pure=false:=by kernel_rfl
attribute [simp] aV aH aI br bu bP aX aU aZ aL bH bg bd bo bC bA bM aY bQ bU bV dL bW cw cj bY fy cv cP cY dg aE aC aT aq
end
end au
namespace bX
noncomputable section
variable (K : List Item) (s : St)
def b:Code:=(Tryz.f24.body).getD .skip
theorem hf:prog.funcs[24]?=some Tryz.f24:=by kernel_rfl
def r0:=aa b 0
def r1:=aa b 1
def r2:=aa b 2
def k0:=ax b 0
def l0:=bw k0
def L0 (x3 x14 x15:AV) (m:Mem) (K:List Item):Option Res:=den prog ann 24 (.code l0::.inLoop l0::.inBlock 0::K) ⟨[(3,x3),(14,x14),(15,x15)],48,m⟩
def r3:=aa b 3
def i0:=ak b 0
def i0t:=az i0
def i0e:=aA i0
def k1:=ax b 1
def r4:=aa b 4
def k2:=ax b 2
def r5:=aa b 5
def i1:=ak b 1
def i1t:=az i1
def i1e:=aA i1
def r7:=aa b 7
def i2:=ak b 2
def i2t:=az i2
def i2e:=aA i2
def r8:=aa b 8
def r9:=aa b 9
def k3:=ax b 3
def l3:=bw k3
def L3 (x3 x5 x6 x14 x15 x31:AV) (m:Mem) (K:List Item):Option Res:=den prog ann 24 (.code l3::.inLoop l3::.inBlock 3::K) ⟨[(3,x3),(5,x5),(6,x6),(14,x14),(15,x15),(31,x31)],48,m⟩
def r10:=aa b 10
def i3:=ak b 3
def i3t:=az i3
def i3e:=aA i3
def k4:=ax b 4
def r11:=aa b 11
def r12:=aa b 12
def r13:=aa b 13
def r14:=aa b 14
def i4:=ak b 4
def i4t:=az i4
def i4e:=aA i4
def r15:=aa b 15
def r16:=aa b 16
def i5:=ak b 5
def i5t:=az i5
def i5e:=aA i5
def r18:=aa b 18
def r19:=aa b 19
theorem aV:den prog ann 24 (.code b::K) s=den prog ann 24 (.code r0::.code r1::.code r2::.code k0::.code r19::.code .ret::K) s:=af hf (l:=[r0,r1,r2,k0,r19,.ret]) (by kernel_rfl) K s
theorem aH:den prog ann 24 (.code r0::K) s=ah prog ann 24 none [] none [] [qF 2 fun s=>some (.bool false)] K s:=(ae hf _ K s).trans (by kernel_rfl)
theorem aI:den prog ann 24 (.code r1::K) s=ah prog ann 24 none [] none [3] [qF 8 fun s=>bldA (plc [(0,1),(1,1)]) [.int .u64 0,.int .i64 0] [(0,(.int .u64 1))],⟨some 9,none,.c 0 (fun s=>(.fn 46 [] [])) fun s=>[(s.get 8)]⟩,⟨some 10,none,.c 0 (fun s=>(.fn 45 [] [])) fun s=>[(s.get 9)]⟩,⟨some 3,none,.w false none fun s=>newPtr s.m page0⟩,⟨none,none,.w false none fun s=>stA true 256 s.m (s.get 3) (s.get 10)⟩] K s:=(ae hf _ K s).trans (by kernel_rfl)
theorem br:den prog ann 24 (.code r2::K) s=ah prog ann 24 none [] none [] [qC 11 0,qA 12 nilA 11,qA 13 (fieldA 5) 12,qF 14 fun s=>loadA true 65536 s.m (s.get 13),qF 15 fun s=>some (.int .i64 0)] K s:=(ae hf _ K s).trans (by kernel_rfl)
theorem bu (K:List Item) (t:List (Nat×AV)) (m:Mem):den prog ann 24 (.code k0::K) ⟨t,48,m⟩=L0 (get t 3) (get t 14) (get t 15) m K:=ar hf (b:=l0) (id:=3) (l:=[3,14,15]) (by kernel_rfl) (by kernel_rfl) (by kernel_rfl) K _
theorem bP (K:List Item) (t:List (Nat×AV)) (m:Mem):den prog ann 24 (.inLoop l0::.inBlock 0::K) ⟨t,48,m⟩=L0 (get t 3) (get t 14) (get t 15) m K:=ay hf (id:=3) (l:=[3,14,15]) (by kernel_rfl) (by kernel_rfl) (.inBlock 0::K) _
theorem aM (x3 x14 x15:AV) (m:Mem) (K:List Item):L0 x3 x14 x15 m K=den prog ann 24 (.code r3::.code i0::.code k1::.code r18::.inLoop l0::.inBlock 0::K) ⟨[(3,x3),(14,x14),(15,x15)],48,m⟩:=af hf (l:=[r3,i0,k1,r18]) (by kernel_rfl) _ _
theorem aX:den prog ann 24 (.code r3::K) s=ah prog ann 24 (some [3,14,15]) [] none [] [qF 16 fun s=>binA prog .lss 3 (s.get 15) (.int .i64 256)] K s:=(ae hf _ K s).trans (by kernel_rfl)
theorem aU:den prog ann 24 (.code i0::K) s=ifV prog ann 24 16 i0t i0e K s (s.get 16):=aB hf (by kernel_rfl) K s
theorem aZ:den prog ann 24 (.code i0t::K) s=den prog ann 24 (K) s:=af hf (l:=[]) (by kernel_rfl) K s
theorem aL:den prog ann 24 (.code i0e::K) s=den prog ann 24 (.code (.exit 0)::K) s:=af hf (l:=[(.exit 0)]) (by kernel_rfl) K s
theorem bH:den prog ann 24 (.code k1::K) s=den prog ann 24 (.code r4::.code k2::.inBlock 1::K) s:=aS hf (b:=blkOf k1) (l:=[r4,k2]) (by kernel_rfl) (by kernel_rfl) K s
theorem bg:den prog ann 24 (.code r4::K) s=ah prog ann 24 none [] none [5] [qC 17 15,qB 18 (idxAgg 256 256 true) 14 15,⟨some 5,none,.w false none fun s=>newPtr s.m page0⟩,qC 4 17,⟨none,none,.w false none fun s=>stA true 256 s.m (s.get 5) (s.get 18)⟩] K s:=(ae hf _ K s).trans (by kernel_rfl)
theorem dL:den prog ann 24 (.code k2::K) s=den prog ann 24 (.code r5::.code i1::.inBlock 2::K) s:=aS hf (b:=blkOf k2) (l:=[r5,i1]) (by kernel_rfl) (by kernel_rfl) K s
theorem bd:den prog ann 24 (.code r5::K) s=ah prog ann 24 none [] none [] [qC 20 4,qF 21 fun s=>binA prog .gtr 3 (s.get 20) (.int .i64 0),qC 22 21,⟨some 23,some (22,true),.v fun s=>loadF true 256 (s.get 5)⟩,⟨some 24,some (22,true),.v fun s=>bldA (plcA 1) page0 []⟩,⟨some 25,some (22,true),.v fun s=>binA prog .neq 71 (s.get 23) (s.get 24)⟩,qF 26 fun s=>pickA (s.get 22) (s.get 25) (.bool false),qC 19 26] K s:=(ae hf _ K s).trans (by kernel_rfl)
theorem bC:den prog ann 24 (.code i1::K) s=ifV prog ann 24 19 i1t i1e K s (s.get 19):=aB hf (by kernel_rfl) K s
theorem aY:den prog ann 24 (.code i1e::K) s=den prog ann 24 (.code r7::.code i2::K) s:=af hf (l:=[r7,i2]) (by kernel_rfl) K s
theorem bM:den prog ann 24 (.code r7::K) s=ah prog ann 24 none [] none [] [qC 28 4,qF 29 fun s=>binA prog .eql 3 (s.get 28) (.int .i64 0),qC 27 29] K s:=(ae hf _ K s).trans (by kernel_rfl)
theorem cw:den prog ann 24 (.code i2::K) s=ifV prog ann 24 27 i2t i2e K s (s.get 27):=aB hf (by kernel_rfl) K s
theorem cj:den prog ann 24 (.code i2t::K) s=den prog ann 24 (.code r8::.code r9::.code k3::.code r16::.code i5::K) s:=af hf (l:=[r8,r9,k3,r16,i5]) (by kernel_rfl) K s
theorem bQ:den prog ann 24 (.code r8::K) s=ah prog ann 24 none [] none [] [qA 30 (loadF true 256) 5,⟨some 6,none,.w false none fun s=>newPtr s.m page0⟩,⟨none,none,.w false none fun s=>stA true 256 s.m (s.get 6) (s.get 30)⟩] K s:=(ae hf _ K s).trans (by kernel_rfl)
theorem bU:den prog ann 24 (.code r9::K) s=ah prog ann 24 none [] none [] [qF 31 fun s=>some (.int .i64 0)] K s:=(ae hf _ K s).trans (by kernel_rfl)
theorem fy (K:List Item) (t:List (Nat×AV)) (m:Mem):den prog ann 24 (.code k3::K) ⟨t,48,m⟩=L3 (get t 3) (get t 5) (get t 6) (get t 14) (get t 15) (get t 31) m K:=ar hf (b:=l3) (id:=10) (l:=[3,5,6,14,15,31]) (by kernel_rfl) (by kernel_rfl) (by kernel_rfl) K _
theorem Hr (x3 x5 x6 x14 x15 x31:AV) (m:Mem) (K:List Item):L3 x3 x5 x6 x14 x15 x31 m K=den prog ann 24 (.code r10::.code i3::.code k4::.code r15::.inLoop l3::.inBlock 3::K) ⟨[(3,x3),(5,x5),(6,x6),(14,x14),(15,x15),(31,x31)],48,m⟩:=af hf (l:=[r10,i3,k4,r15]) (by kernel_rfl) _ _
theorem bV:den prog ann 24 (.code r10::K) s=ah prog ann 24 (some [3,5,6,14,15,31]) [] none [] [qF 32 fun s=>binA prog .lss 3 (s.get 31) (.int .i64 257)] K s:=(ae hf _ K s).trans (by kernel_rfl)
theorem eT:den prog ann 24 (.code i3::K) s=ifV prog ann 24 32 i3t i3e K s (s.get 32):=aB hf (by kernel_rfl) K s
theorem dw:den prog ann 24 (.code i3t::K) s=den prog ann 24 (K) s:=af hf (l:=[]) (by kernel_rfl) K s
theorem m9:den prog ann 24 (.code k4::K) s=den prog ann 24 (.code r11::.code r12::.code r13::.code r14::.code i4::.inBlock 4::K) s:=aS hf (b:=blkOf k4) (l:=[r11,r12,r13,r14,i4]) (by kernel_rfl) (by kernel_rfl) K s
theorem bW:den prog ann 24 (.code r11::K) s=ah prog ann 24 none [] none [] [qC 33 31,qC 7 33] K s:=(ae hf _ K s).trans (by kernel_rfl)
theorem cv:den prog ann 24 (.code r12::K) s=ah prog ann 24 none [] none [] [qF 34 fun s=>bldA (plcA 1) page0 [],⟨none,none,.w false none fun s=>stA true 256 s.m (s.get 6) (s.get 34)⟩] K s:=(ae hf _ K s).trans (by kernel_rfl)
theorem mK:bh (fun g=>(ann g).pure) (bj (ann 24) (bI r13)) (bN (ann 24) (bI r13)) (opsOf r13)=true:=aQ (an:=[0,1,0,4,15]) (by kernel_rfl) (by kernel_rfl)
theorem cP:den prog ann 24 (.code r13::K) s=ah prog ann 24 none [] (some 5) [] [qC 35 7,qF 36 fun s=>sliceArr 256 1 (s.get 6) none (some (s.get 35)),qC 37 7,qF 38 fun s=>sliceArr 256 1 (s.get 3) none (some (s.get 37)),⟨some 39,none,.w false (some 4) fun s=>copyA 1 s.m (s.get 36) (s.get 38)⟩] K s:=(aW hf mK K s).trans (by kernel_rfl)
theorem cY:den prog ann 24 (.code r14::K) s=ah prog ann 24 none [] none [] [qF 40 fun s=>loadA true 256 s.m (s.get 6),qA 41 (loadF true 256) 5,qB 42 (binA prog .eql 71) 40 41] K s:=(ae hf _ K s).trans (by kernel_rfl)
theorem jZ:den prog ann 24 (.code i4::K) s=ifV prog ann 24 42 i4t i4e K s (s.get 42):=aB hf (by kernel_rfl) K s
theorem ju:den prog ann 24 (.code i4t::K) s=den prog ann 24 (.code (.exit 3)::K) s:=af hf (l:=[(.exit 3)]) (by kernel_rfl) K s
theorem dg:den prog ann 24 (.code r16::K) s=ah prog ann 24 (some [3,5,6,14,15]) [] none [] [qF 44 fun s=>loadA true 256 s.m (s.get 6),qA 45 (loadF true 256) 5,qB 46 (binA prog .neq 71) 44 45] K s:=(ae hf _ K s).trans (by kernel_rfl)
theorem na:den prog ann 24 (.code i5::K) s=ifV prog ann 24 46 i5t i5e K s (s.get 46):=aB hf (by kernel_rfl) K s
theorem jv:den prog ann 24 (.code i5e::K) s=den prog ann 24 (K) s:=af hf (l:=[]) (by kernel_rfl) K s
theorem bY:den prog ann 24 (.code i2e::K) s=den prog ann 24 (K) s:=af hf (l:=[]) (by kernel_rfl) K s
theorem kW:den prog ann 24 (.code r18::K) s=ah prog ann 24 (some [3,14,15]) [] none [] [qF 47 fun s=>binA prog .add 3 (s.get 15) (.int .i64 1),qC 15 47] K s:=(ae hf _ K s).trans (by kernel_rfl)
theorem fS:den prog ann 24 (.code r19::K) s=ah prog ann 24 (some []) [] none [] [qF 2 fun s=>some (.bool true)] K s:=(ae hf _ K s).trans (by kernel_rfl)
theorem aE:den prog ann 24 (.code .ret::K) s=finM false [fun s=>some (s.get 2)] s:=(aO hf K s).trans (by kernel_rfl)
theorem aC (id:Nat) (K:List Item) (s:St):den prog ann 24 (.inBlock id::K) s=den prog ann 24 K s:=aR hf id K s
theorem aT (id:Nat) (K:List Item) (s:St):den prog ann 24 (.code (.exit id)::K) s=exitV prog ann 24 (exitTo id K) s:=bp hf id K s
theorem al (v0:AV) (m:Mem):denC prog ann 24 [v0] m=den prog ann 24 [.code b] ⟨[(0,v0)],48,m⟩:=(aJ hf (b:=b) (by kernel_rfl) (by kernel_rfl) (by kernel_rfl) m).trans (by kernel_rfl)
theorem aq:(ann 24).pure=false:=by kernel_rfl
attribute [simp] aV aH aI br bu bP aX aU aZ aL bH bg dL bd bC aY bM cw cj bQ bU fy bV eT dw m9 bW cv cP cY jZ ju dg na jv bY kW fS aE aC aT aq
end
end bX
end Go.Proofs.YtadofgdidhpnpaaGreatDoor
