/-
  BODIES OF FUNCTIONS OF THE PROGRAM AS SMALL OPERATIONS (written by gen.py; checked by the kernel against the program). Conditions: none.
-/
import Derived.Test.YtadofgdidhpnpaaGreatDoorK00
import Derived.Test.YtadofgdidhpnpaaGreatDoorKAmH
import Derived.Test.YtadofgdidhpnpaaGreatDoorK08
import Derived.Test.YtadofgdidhpnpaaGreatDoorKAmF
set_option linter.all false
namespace Go.Proofs.YtadofgdidhpnpaaGreatDoor
open Go.AM
open Go.Proofs.Tryz (prog)
set_option maxRecDepth 100000
set_option linter.all false
namespace aj
noncomputable section
variable (K : List Item) (s : St)
def b:Code:=(Tryz.f3.body).getD .skip
theorem hf:prog.funcs[3]?=some Tryz.f3:=by kernel_rfl
def r0:=aa b 0
def r1:=aa b 1
def r2:=aa b 2
def k0:=ax b 0
def l0:=bw k0
def L0 (x1 x3 x5 x7 x8:AV) (m:Mem) (K:List Item):Option Res:=den prog ann 3 (.code l0::.inLoop l0::.inBlock 0::K) ⟨[(1,x1),(3,x3),(5,x5),(7,x7),(8,x8)],309,m⟩
def r3:=aa b 3
def i0:=ak b 0
def i0t:=az i0
def i0e:=aA i0
def k1:=ax b 1
def r5:=aa b 5
def r4:=aa b 4
def r6:=aa b 6
def k2:=ax b 2
def l2:=bw k2
def L2 (x1 x5 x7 x9:AV) (m:Mem) (K:List Item):Option Res:=den prog ann 3 (.code l2::.inLoop l2::.inBlock 2::K) ⟨[(1,x1),(5,x5),(7,x7),(9,x9)],309,m⟩
def r7:=aa b 7
def i1:=ak b 1
def i1t:=az i1
def i1e:=aA i1
def k3:=ax b 3
def r9:=aa b 9
def r10:=aa b 10
def r11:=aa b 11
def r12:=aa b 12
def i2:=ak b 2
def i2t:=az i2
def i2e:=aA i2
def r13:=aa b 13
def r8:=aa b 8
def r14:=aa b 14
def r15:=aa b 15
def r16:=aa b 16
def r17:=aa b 17
def i3:=ak b 3
def i3t:=az i3
def i3e:=aA i3
def r19:=aa b 19
def r20:=aa b 20
def r21:=aa b 21
def k4:=ax b 4
def l4:=bw k4
def L4 (x5 x7 x12 x14 x15 x17 x18 x19:AV) (m:Mem) (K:List Item):Option Res:=den prog ann 3 (.code l4::.inLoop l4::.inBlock 4::K) ⟨[(5,x5),(7,x7),(12,x12),(14,x14),(15,x15),(17,x17),(18,x18),(19,x19)],309,m⟩
def r22:=aa b 22
def i4:=ak b 4
def i4t:=az i4
def i4e:=aA i4
def k5:=ax b 5
def r24:=aa b 24
def i5:=ak b 5
def i5t:=az i5
def i5e:=aA i5
def r26:=aa b 26
def k6:=ax b 6
def l6:=bw k6
def L6 (x5 x7 x12 x14 x15 x17 x19 x20:AV) (m:Mem) (K:List Item):Option Res:=den prog ann 3 (.code l6::.inLoop l6::.inBlock 6::K) ⟨[(5,x5),(7,x7),(12,x12),(14,x14),(15,x15),(17,x17),(19,x19),(20,x20)],309,m⟩
def r27:=aa b 27
def i6:=ak b 6
def i6t:=az i6
def i6e:=aA i6
def k7:=ax b 7
def r29:=aa b 29
def i7:=ak b 7
def i7t:=az i7
def i7e:=aA i7
def r28:=aa b 28
def r31:=aa b 31
def k8:=ax b 8
def r33:=aa b 33
def i8:=ak b 8
def i8t:=az i8
def i8e:=aA i8
def r34:=aa b 34
def r35:=aa b 35
def i9:=ak b 9
def i9t:=az i9
def i9e:=aA i9
def r36:=aa b 36
def r23:=aa b 23
def r37:=aa b 37
def r38:=aa b 38
def r39:=aa b 39
def i10:=ak b 10
def i10t:=az i10
def i10e:=aA i10
def r41:=aa b 41
def r42:=aa b 42
def i11:=ak b 11
def i11t:=az i11
def i11e:=aA i11
def r44:=aa b 44
def r45:=aa b 45
def i12:=ak b 12
def i12t:=az i12
def i12e:=aA i12
def r46:=aa b 46
def r47:=aa b 47
def k9:=ax b 9
def l9:=bw k9
def L9 (x7 x12 x17 x18 x24 x26 x27 x28:AV) (m:Mem) (K:List Item):Option Res:=den prog ann 3 (.code l9::.inLoop l9::.inBlock 9::K) ⟨[(7,x7),(12,x12),(17,x17),(18,x18),(24,x24),(26,x26),(27,x27),(28,x28)],309,m⟩
def r48:=aa b 48
def i13:=ak b 13
def i13t:=az i13
def i13e:=aA i13
def k10:=ax b 10
def r50:=aa b 50
def i14:=ak b 14
def i14t:=az i14
def i14e:=aA i14
def r52:=aa b 52
def r49:=aa b 49
def r53:=aa b 53
def i15:=ak b 15
def i15t:=az i15
def i15e:=aA i15
def r55:=aa b 55
def r56:=aa b 56
def i16:=ak b 16
def i16t:=az i16
def i16e:=aA i16
def r58:=aa b 58
def k11:=ax b 11
def l11:=bw k11
def L11 (x12 x17 x18 x26 x27 x31:AV) (m:Mem) (K:List Item):Option Res:=den prog ann 3 (.code l11::.inLoop l11::.inBlock 11::K) ⟨[(12,x12),(17,x17),(18,x18),(26,x26),(27,x27),(31,x31)],309,m⟩
def r59:=aa b 59
def i17:=ak b 17
def i17t:=az i17
def i17e:=aA i17
def k12:=ax b 12
def r61:=aa b 61
def i18:=ak b 18
def i18t:=az i18
def i18e:=aA i18
def r62:=aa b 62
def r60:=aa b 60
def r63:=aa b 63
def i19:=ak b 19
def i19t:=az i19
def i19e:=aA i19
def r65:=aa b 65
theorem aV:den prog ann 3 (.code b::K) s=den prog ann 3 (.code r0::.code r1::.code r2::.code k0::.code r6::.code k2::.code r14::.code r15::.code r16::.code r17::.code i3::.code r19::.code r20::.code r21::.code k4::.code r37::.code r38::.code r39::.code i10::.code r41::.code r42::.code i11::.code r44::.code r45::.code i12::.code r65::.code .ret::K) s:=af hf (l:=[r0,r1,r2,k0,r6,k2,r14,r15,r16,r17,i3,r19,r20,r21,k4,r37,r38,r39,i10,r41,r42,i11,r44,r45,i12,r65,.ret]) (by kernel_rfl) K s
theorem aH:den prog ann 3 (.code r0::K) s=ah prog ann 3 none [] none [] [qA 3 frozenPtr 0,qA 5 frozenPtr 2,qF 6 fun s=>some (.bool false)] K s:=(ae hf _ K s).trans (by kernel_rfl)
theorem aI:den prog ann 3 (.code r1::K) s=ah prog ann 3 none [] none [] [qF 32 fun s=>bldA (plc [(0,1),(1,1)]) [.nils,.nils] [],⟨some 7,none,.w false none fun s=>newPtr s.m [.nils,.nils]⟩,⟨none,none,.w false none fun s=>stA true 2 s.m (s.get 7) (s.get 32)⟩] K s:=(ae hf _ K s).trans (by kernel_rfl)
theorem br:den prog ann 3 (.code r2::K) s=ah prog ann 3 none [] none [] [qF 8 fun s=>some (.int .i64 0)] K s:=(ae hf _ K s).trans (by kernel_rfl)
theorem bu (K:List Item) (t:List (Nat×AV)) (m:Mem):den prog ann 3 (.code k0::K) ⟨t,309,m⟩=L0 (get t 1) (get t 3) (get t 5) (get t 7) (get t 8) m K:=ar hf (b:=l0) (id:=3) (l:=[1,3,5,7,8]) (by kernel_rfl) (by kernel_rfl) (by kernel_rfl) K _
theorem bP (K:List Item) (t:List (Nat×AV)) (m:Mem):den prog ann 3 (.inLoop l0::.inBlock 0::K) ⟨t,309,m⟩=L0 (get t 1) (get t 3) (get t 5) (get t 7) (get t 8) m K:=ay hf (id:=3) (l:=[1,3,5,7,8]) (by kernel_rfl) (by kernel_rfl) (.inBlock 0::K) _
theorem aM (x1 x3 x5 x7 x8:AV) (m:Mem) (K:List Item):L0 x1 x3 x5 x7 x8 m K=den prog ann 3 (.code r3::.code i0::.code k1::.code r4::.inLoop l0::.inBlock 0::K) ⟨[(1,x1),(3,x3),(5,x5),(7,x7),(8,x8)],309,m⟩:=af hf (l:=[r3,i0,k1,r4]) (by kernel_rfl) _ _
theorem aX:den prog ann 3 (.code r3::K) s=ah prog ann 3 (some [1,3,5,7,8]) [] none [] [qC 33 8,qF 34 fun s=>binA prog .lss 3 (s.get 33) (.int .i64 4)] K s:=(ae hf _ K s).trans (by kernel_rfl)
theorem aU:den prog ann 3 (.code i0::K) s=ifV prog ann 3 34 i0t i0e K s (s.get 34):=aB hf (by kernel_rfl) K s
theorem aZ:den prog ann 3 (.code i0t::K) s=den prog ann 3 (K) s:=af hf (l:=[]) (by kernel_rfl) K s
theorem aL:den prog ann 3 (.code i0e::K) s=den prog ann 3 (.code (.exit 0)::K) s:=af hf (l:=[(.exit 0)]) (by kernel_rfl) K s
theorem bH:den prog ann 3 (.code k1::K) s=den prog ann 3 (.code r5::.inBlock 1::K) s:=aS hf (b:=blkOf k1) (l:=[r5]) (by kernel_rfl) (by kernel_rfl) K s
theorem dm:bh (fun g=>(ann g).pure) (bj (ann 3) (bI r5)) (bN (ann 3) (bI r5)) (opsOf r5)=true:=aQ (an:=[0,1,0,4,12,28,60,124,255,511,1023]) (by kernel_rfl) (by kernel_rfl)
theorem bd:den prog ann 3 (.code r5::K) s=ah prog ann 3 none [] (some 11) [] [qA 37 (fieldA 0) 7,qF 38 fun s=>loadA false 1 s.m (s.get 37),qC 39 8,qB 40 (idxArr 4 1) 3 39,qA 41 (loadF false 1) 40,qA 42 (convInt .i64) 41,qF 43 fun s=>binA prog .rem 3 (s.get 42) (.int .i64 4),qF 44 fun s=>bslF 1 (bslA 1 1 [.int .i64 0] [(0,(s.get 43))]),⟨some 45,none,.w false (some 8) fun s=>appendA 1 8 s.m (s.get 38) (s.get 44)⟩,qA 46 (fieldA 0) 7,⟨none,none,.w false (some 10) fun s=>stA false 1 s.m (s.get 46) (s.get 45)⟩] K s:=(aW hf dm K s).trans (by kernel_rfl)
theorem bg:den prog ann 3 (.code r4::K) s=ah prog ann 3 (some [1,3,5,7,8]) [] none [] [qC 35 8,qF 36 fun s=>binA prog .add 3 (s.get 35) (.int .i64 1),qC 8 36] K s:=(ae hf _ K s).trans (by kernel_rfl)
theorem bo:den prog ann 3 (.code r6::K) s=ah prog ann 3 (some [1,5,7]) [1007] none [] [qF 9 fun s=>some (.int .i64 0)] K s:=(ae hf _ K s).trans (by kernel_rfl)
theorem dL (K:List Item) (t:List (Nat×AV)) (m:Mem):den prog ann 3 (.code k2::K) ⟨t,309,m⟩=L2 (get t 1) (get t 5) (get t 7) (get t 9) m K:=ar hf (b:=l2) (id:=7) (l:=[1,5,7,9]) (by kernel_rfl) (by kernel_rfl) (by kernel_rfl) K _
theorem ie (K:List Item) (t:List (Nat×AV)) (m:Mem):den prog ann 3 (.inLoop l2::.inBlock 2::K) ⟨t,309,m⟩=L2 (get t 1) (get t 5) (get t 7) (get t 9) m K:=ay hf (id:=7) (l:=[1,5,7,9]) (by kernel_rfl) (by kernel_rfl) (.inBlock 2::K) _
theorem dt (x1 x5 x7 x9:AV) (m:Mem) (K:List Item):L2 x1 x5 x7 x9 m K=den prog ann 3 (.code r7::.code i1::.code k3::.code r8::.inLoop l2::.inBlock 2::K) ⟨[(1,x1),(5,x5),(7,x7),(9,x9)],309,m⟩:=af hf (l:=[r7,i1,k3,r8]) (by kernel_rfl) _ _
theorem bM:den prog ann 3 (.code r7::K) s=ah prog ann 3 (some [1,5,7,9]) [] none [] [qC 47 9,qC 48 1,qA 49 lenSl 48,qB 50 (binA prog .lss 3) 47 49,qC 51 50,⟨some 52,some (51,true),.v fun s=>some (s.get 9)⟩,⟨some 53,some (51,true),.v fun s=>binA prog .lss 3 (s.get 52) (.int .i64 8)⟩,qF 54 fun s=>pickA (s.get 51) (s.get 53) (.bool false)] K s:=(ae hf _ K s).trans (by kernel_rfl)
theorem bC:den prog ann 3 (.code i1::K) s=ifV prog ann 3 54 i1t i1e K s (s.get 54):=aB hf (by kernel_rfl) K s
theorem bA:den prog ann 3 (.code i1t::K) s=den prog ann 3 (K) s:=af hf (l:=[]) (by kernel_rfl) K s
theorem aY:den prog ann 3 (.code i1e::K) s=den prog ann 3 (.code (.exit 2)::K) s:=af hf (l:=[(.exit 2)]) (by kernel_rfl) K s
theorem fy:den prog ann 3 (.code k3::K) s=den prog ann 3 (.code r9::.code r10::.code r11::.code r12::.code i2::.inBlock 3::K) s:=aS hf (b:=blkOf k3) (l:=[r9,r10,r11,r12,i2]) (by kernel_rfl) (by kernel_rfl) K s
theorem jX:bh (fun g=>(ann g).pure) (bj (ann 3) (bI r9)) (bN (ann 3) (bI r9)) (opsOf r9)=true:=aQ (an:=[0,0,3,7,15,31,63,0,0,384,896,1920,3968,8064,16383,0,65535]) (by kernel_rfl) (by kernel_rfl)
theorem bU:den prog ann 3 (.code r9::K) s=ah prog ann 3 none [] (some 17) [] [qC 57 1,qC 58 9,qB 59 (idxSl 4) 57 58,qF 60 fun s=>idxArr 4 1 (s.get 59) (.int .i64 0),qA 61 (loadF false 1) 60,qA 62 (convInt .i64) 61,qF 63 fun s=>binA prog .rem 3 (s.get 62) (.int .i64 4),qC 64 1,qC 65 9,qB 66 (idxSl 4) 64 65,qF 67 fun s=>idxArr 4 1 (s.get 66) (.int .i64 2),qA 68 (loadF false 1) 67,qA 69 (convInt .i64) 68,qF 70 fun s=>binA prog .rem 3 (s.get 69) (.int .i64 4),qF 71 fun s=>bldA (plc [(0,1),(1,1),(2,1),(3,1)]) [.int .i64 0,.int .i64 0,.int .i64 0,.int .i64 0] [(0,(s.get 63)),(2,(s.get 70))],⟨some 10,none,.w false (some 15) fun s=>newPtr s.m [.int .i64 0,.int .i64 0,.int .i64 0,.int .i64 0]⟩,⟨none,none,.w false (some 16) fun s=>stA true 4 s.m (s.get 10) (s.get 71)⟩] K s:=(aW hf jX K s).trans (by kernel_rfl)
theorem fA:bh (fun g=>(ann g).pure) (bj (ann 3) (bI r10)) (bN (ann 3) (bI r10)) (opsOf r10)=true:=aQ (an:=[0,0,3,7,15,31,63,127,0,0,768,1792,3840,7936,16128,32512,255,65791,262143,524287]) (by kernel_rfl) (by kernel_rfl)
theorem bV:den prog ann 3 (.code r10::K) s=ah prog ann 3 none [] (some 20) [10] [qC 72 1,qC 73 9,qB 74 (idxSl 4) 72 73,qF 75 fun s=>idxArr 4 1 (s.get 74) (.int .i64 1),qA 76 (loadF false 1) 75,qA 77 (convInt .i64) 76,qF 78 fun s=>binA prog .rem 3 (s.get 77) (.int .i64 3),qF 79 fun s=>binA prog .add 3 (s.get 78) (.int .i64 1),qC 80 1,qC 81 9,qB 82 (idxSl 4) 80 81,qF 83 fun s=>idxArr 4 1 (s.get 82) (.int .i64 3),qA 84 (loadF false 1) 83,qA 85 (convInt .i64) 84,qF 86 fun s=>binA prog .rem 3 (s.get 85) (.int .i64 3),qF 87 fun s=>binA prog .add 3 (s.get 86) (.int .i64 1),qA 88 (fieldA 1) 10,⟨none,none,.w false (some 17) fun s=>stA false 1 s.m (s.get 88) (s.get 79)⟩,qA 89 (fieldA 3) 10,⟨none,none,.w false (some 19) fun s=>stA false 1 s.m (s.get 89) (s.get 87)⟩] K s:=(aW hf fA K s).trans (by kernel_rfl)
theorem Bs:bh (fun g=>(ann g).pure) (bj (ann 3) (bI r11)) (bN (ann 3) (bI r11)) (opsOf r11)=true:=aQ (an:=[0,1,0,0,8,28,0,64,252,511,0,2047]) (by kernel_rfl) (by kernel_rfl)
theorem bW:den prog ann 3 (.code r11::K) s=ah prog ann 3 none [] (some 12) [1090092,1090095,2011,11] [qA 90 (fieldA 0) 7,qF 91 fun s=>loadA false 1 s.m (s.get 90),⟨some 92,none,.w false (some 2) fun s=>bslM s.m 0 (bslA 4 0 [.int .i64 0,.int .i64 0,.int .i64 0,.int .i64 0] [])⟩,qA 93 (fieldA 1) 7,qF 94 fun s=>loadA false 1 s.m (s.get 93),⟨some 95,none,.w false (some 5) fun s=>appendA 4 32 s.m (s.get 92) (s.get 94)⟩,qA 96 (loadF true 4) 10,qF 97 fun s=>bslF 1 (bslA 4 1 [.int .i64 0,.int .i64 0,.int .i64 0,.int .i64 0] [(0,(s.get 96))]),⟨some 98,none,.w false (some 8) fun s=>appendA 4 32 s.m (s.get 95) (s.get 97)⟩,qF 99 fun s=>bldA (plc [(0,1),(1,1)]) [.nils,.nils] [(0,(s.get 91)),(1,(s.get 98))],⟨some 11,none,.w false (some 10) fun s=>newPtr s.m [.nils,.nils]⟩,⟨none,none,.w false (some 11) fun s=>stA true 2 s.m (s.get 11) (s.get 99)⟩] K s:=(aW hf Bs K s).trans (by kernel_rfl)
theorem cv:den prog ann 3 (.code r12::K) s=ah prog ann 3 none [] none [] [qA 100 (loadF true 2) 11,⟨some 101,none,.c 0 (fun s=>(.fn 4 [] [])) fun s=>[(s.get 100)]⟩] K s:=(ae hf _ K s).trans (by kernel_rfl)
theorem cw:den prog ann 3 (.code i2::K) s=ifV prog ann 3 101 i2t i2e K s (s.get 101):=aB hf (by kernel_rfl) K s
theorem cj:den prog ann 3 (.code i2t::K) s=den prog ann 3 (.code r13::K) s:=af hf (l:=[r13]) (by kernel_rfl) K s
theorem cP:den prog ann 3 (.code r13::K) s=ah prog ann 3 none [] none [] [qA 102 (loadF true 2) 11,⟨none,none,.w false none fun s=>stA true 2 s.m (s.get 7) (s.get 102)⟩] K s:=(ae hf _ K s).trans (by kernel_rfl)
theorem bY:den prog ann 3 (.code i2e::K) s=den prog ann 3 (K) s:=af hf (l:=[]) (by kernel_rfl) K s
theorem bQ:den prog ann 3 (.code r8::K) s=ah prog ann 3 (some [1,5,7,9]) [] none [] [qC 55 9,qF 56 fun s=>binA prog .add 3 (s.get 55) (.int .i64 1),qC 9 56] K s:=(ae hf _ K s).trans (by kernel_rfl)
theorem cY:den prog ann 3 (.code r14::K) s=ah prog ann 3 (some [5,7]) [7] none [] [qA 104 (loadF true 2) 7,⟨some 105,none,.c 2 (fun s=>(.fn 5 [] [])) fun s=>[(s.get 104),(.nils)]⟩,qC 103 105,qF 106 fun s=>extA (s.get 103) 0,qF 107 fun s=>extA (s.get 103) 1,qC 12 106,qC 13 107] K s:=(ae hf _ K s).trans (by kernel_rfl)
theorem eX:den prog ann 3 (.code r15::K) s=ah prog ann 3 none [] none [] [⟨some 108,none,.c 0 (fun s=>(.fn 6 [] [])) fun s=>[]⟩,qC 14 108] K s:=(ae hf _ K s).trans (by kernel_rfl)
theorem dg:den prog ann 3 (.code r16::K) s=ah prog ann 3 none [] none [] [qC 110 14,⟨some 111,none,.c 0 (fun s=>(.fn 7 [] [])) fun s=>[(s.get 110)]⟩,qC 109 111,qF 112 fun s=>extA (s.get 109) 0,qF 113 fun s=>extA (s.get 109) 1,qC 15 112,qC 16 113] K s:=(ae hf _ K s).trans (by kernel_rfl)
theorem gA:den prog ann 3 (.code r17::K) s=ah prog ann 3 none [] none [] [qC 114 13,qF 115 fun s=>binA prog .neq 33 (s.get 114) (.int .i64 0),qC 116 115,⟨some 117,some (116,false),.v fun s=>some (s.get 15)⟩,⟨some 118,some (116,false),.v fun s=>binA prog .eql 38 (s.get 117) (.nilp)⟩,qF 119 fun s=>pickA (s.get 116) (.bool true) (s.get 118),qC 120 119,⟨some 121,some (120,false),.v fun s=>some (s.get 16)⟩,⟨some 122,some (120,false),.v fun s=>binA prog .neq 33 (s.get 121) (.int .i64 0)⟩,qF 123 fun s=>pickA (s.get 120) (.bool true) (s.get 122),qC 124 123,⟨some 125,some (124,false),.v fun s=>some (s.get 12)⟩,⟨some 126,some (124,false),.v fun s=>lenSl (s.get 125)⟩,⟨some 127,some (124,false),.v fun s=>binA prog .eql 3 (s.get 126) (.int .i64 0)⟩,qF 128 fun s=>pickA (s.get 124) (.bool true) (s.get 127)] K s:=(ae hf _ K s).trans (by kernel_rfl)
theorem eT:den prog ann 3 (.code i3::K) s=ifV prog ann 3 128 i3t i3e K s (s.get 128):=aB hf (by kernel_rfl) K s
theorem ej:den prog ann 3 (.code i3e::K) s=den prog ann 3 (K) s:=af hf (l:=[]) (by kernel_rfl) K s
theorem fS:den prog ann 3 (.code r19::K) s=ah prog ann 3 none [] none [] [qC 129 14,qF 130 fun s=>idxArr 3 1 (s.get 5) (.int .i64 0),qA 131 (loadF false 1) 130,qA 132 (convInt .i64) 131,qF 133 fun s=>binA prog .rem 3 (s.get 132) (.int .i64 40),⟨some 134,none,.c 0 (fun s=>(.fn 8 [] [])) fun s=>[(s.get 129),(s.get 133)]⟩] K s:=(ae hf _ K s).trans (by kernel_rfl)
theorem nM:den prog ann 3 (.code r20::K) s=ah prog ann 3 none [] none [] [qF 17 fun s=>some (.int .i64 (-1)),qF 18 fun s=>some (.int .i64 (-1))] K s:=(ae hf _ K s).trans (by kernel_rfl)
theorem nI:den prog ann 3 (.code r21::K) s=ah prog ann 3 none [] none [] [qF 19 fun s=>some (.int .i64 0)] K s:=(ae hf _ K s).trans (by kernel_rfl)
theorem m9 (K:List Item) (t:List (Nat×AV)) (m:Mem):den prog ann 3 (.code k4::K) ⟨t,309,m⟩=L4 (get t 5) (get t 7) (get t 12) (get t 14) (get t 15) (get t 17) (get t 18) (get t 19) m K:=ar hf (b:=l4) (id:=22) (l:=[5,7,12,14,15,17,18,19]) (by kernel_rfl) (by kernel_rfl) (by kernel_rfl) K _
theorem sV (K:List Item) (t:List (Nat×AV)) (m:Mem):den prog ann 3 (.inLoop l4::.inBlock 4::K) ⟨t,309,m⟩=L4 (get t 5) (get t 7) (get t 12) (get t 14) (get t 15) (get t 17) (get t 18) (get t 19) m K:=ay hf (id:=22) (l:=[5,7,12,14,15,17,18,19]) (by kernel_rfl) (by kernel_rfl) (.inBlock 4::K) _
theorem ir (x5 x7 x12 x14 x15 x17 x18 x19:AV) (m:Mem) (K:List Item):L4 x5 x7 x12 x14 x15 x17 x18 x19 m K=den prog ann 3 (.code r22::.code i4::.code k5::.code r23::.inLoop l4::.inBlock 4::K) ⟨[(5,x5),(7,x7),(12,x12),(14,x14),(15,x15),(17,x17),(18,x18),(19,x19)],309,m⟩:=af hf (l:=[r22,i4,k5,r23]) (by kernel_rfl) _ _
theorem kS:den prog ann 3 (.code r22::K) s=ah prog ann 3 (some [5,7,12,14,15,17,18,19]) [] none [] [qC 135 19,qC 136 12,qA 137 lenSl 136,qB 138 (binA prog .lss 3) 135 137,qC 139 138,⟨some 140,some (139,true),.v fun s=>some (s.get 19)⟩,⟨some 141,some (139,true),.v fun s=>some (s.get 17)⟩,⟨some 142,some (139,true),.v fun s=>binA prog .add 3 (s.get 141) (.int .i64 1)⟩,⟨some 143,some (139,true),.v fun s=>binA prog .eql 3 (s.get 140) (s.get 142)⟩,qF 144 fun s=>pickA (s.get 139) (s.get 143) (.bool false)] K s:=(ae hf _ K s).trans (by kernel_rfl)
theorem jZ:den prog ann 3 (.code i4::K) s=ifV prog ann 3 144 i4t i4e K s (s.get 144):=aB hf (by kernel_rfl) K s
theorem ju:den prog ann 3 (.code i4t::K) s=den prog ann 3 (K) s:=af hf (l:=[]) (by kernel_rfl) K s
theorem jx:den prog ann 3 (.code i4e::K) s=den prog ann 3 (.code (.exit 4)::K) s:=af hf (l:=[(.exit 4)]) (by kernel_rfl) K s
theorem sW:den prog ann 3 (.code k5::K) s=den prog ann 3 (.code r24::.code i5::.code r26::.code k6::.code r31::.code k8::.inBlock 5::K) s:=aS hf (b:=blkOf k5) (l:=[r24,i5,r26,k6,r31,k8]) (by kernel_rfl) (by kernel_rfl) K s
theorem nO:den prog ann 3 (.code r24::K) s=ah prog ann 3 none [] none [] [qC 147 12,qC 148 19,qB 149 (idxSl 1) 147 148,qA 150 (loadF false 1) 149,qA 151 lenSl 150,qF 152 fun s=>binA prog .neq 3 (s.get 151) (.int .i64 4)] K s:=(ae hf _ K s).trans (by kernel_rfl)
theorem na:den prog ann 3 (.code i5::K) s=ifV prog ann 3 152 i5t i5e K s (s.get 152):=aB hf (by kernel_rfl) K s
theorem jv:den prog ann 3 (.code i5e::K) s=den prog ann 3 (K) s:=af hf (l:=[]) (by kernel_rfl) K s
theorem uS:den prog ann 3 (.code r26::K) s=ah prog ann 3 none [] none [] [qF 20 fun s=>some (.int .i64 0)] K s:=(ae hf _ K s).trans (by kernel_rfl)
theorem sX (K:List Item) (t:List (Nat×AV)) (m:Mem):den prog ann 3 (.code k6::K) ⟨t,309,m⟩=L6 (get t 5) (get t 7) (get t 12) (get t 14) (get t 15) (get t 17) (get t 19) (get t 20) m K:=ar hf (b:=l6) (id:=27) (l:=[5,7,12,14,15,17,19,20]) (by kernel_rfl) (by kernel_rfl) (by kernel_rfl) K _
theorem sY (K:List Item) (t:List (Nat×AV)) (m:Mem):den prog ann 3 (.inLoop l6::.inBlock 6::K) ⟨t,309,m⟩=L6 (get t 5) (get t 7) (get t 12) (get t 14) (get t 15) (get t 17) (get t 19) (get t 20) m K:=ay hf (id:=27) (l:=[5,7,12,14,15,17,19,20]) (by kernel_rfl) (by kernel_rfl) (.inBlock 6::K) _
theorem jS (x5 x7 x12 x14 x15 x17 x19 x20:AV) (m:Mem) (K:List Item):L6 x5 x7 x12 x14 x15 x17 x19 x20 m K=den prog ann 3 (.code r27::.code i6::.code k7::.code r28::.inLoop l6::.inBlock 6::K) ⟨[(5,x5),(7,x7),(12,x12),(14,x14),(15,x15),(17,x17),(19,x19),(20,x20)],309,m⟩:=af hf (l:=[r27,i6,k7,r28]) (by kernel_rfl) _ _
theorem uT:den prog ann 3 (.code r27::K) s=ah prog ann 3 (some [5,7,12,14,15,17,19,20]) [] none [] [qC 153 20,qF 154 fun s=>binA prog .lss 3 (s.get 153) (.int .i64 4)] K s:=(ae hf _ K s).trans (by kernel_rfl)
theorem sZ:den prog ann 3 (.code i6::K) s=ifV prog ann 3 154 i6t i6e K s (s.get 154):=aB hf (by kernel_rfl) K s
theorem nF:den prog ann 3 (.code i6t::K) s=den prog ann 3 (K) s:=af hf (l:=[]) (by kernel_rfl) K s
theorem nG:den prog ann 3 (.code i6e::K) s=den prog ann 3 (.code (.exit 6)::K) s:=af hf (l:=[(.exit 6)]) (by kernel_rfl) K s
theorem s5:den prog ann 3 (.code k7::K) s=den prog ann 3 (.code r29::.code i7::.inBlock 7::K) s:=aS hf (b:=blkOf k7) (l:=[r29,i7]) (by kernel_rfl) (by kernel_rfl) K s
theorem Bt:bh (fun g=>(ann g).pure) (bj (ann 3) (bI r29)) (bN (ann 3) (bI r29)) (opsOf r29)=true:=aQ (an:=[0,0,0,4,14,30,0,0,192,448,0,1984,4032,8128,0,0,49152,114688,0,507904,1032192,2080768,4177920,8388544,16777215,33554431]) (by kernel_rfl) (by kernel_rfl)
theorem uV:den prog ann 3 (.code r29::K) s=ah prog ann 3 none [] (some 26) [] [qC 157 15,qC 158 20,qC 159 20,qF 160 fun s=>binA prog .add 3 (s.get 159) (.int .i64 1),qF 161 fun s=>sliceStr (.str [48,49,50,51]) (some (s.get 158)) (some (s.get 160)),qA 162 (binA prog .add 9 (.str [104,97,110,100])) 161,qC 163 12,qC 164 19,qB 165 (idxSl 1) 163 164,qA 166 (loadF false 1) 165,qC 167 20,qB 168 (idxSl 1) 166 167,qA 169 (loadF false 1) 168,qF 170 fun s=>binA prog .rem 3 (s.get 169) (.int .i64 7),qC 171 12,qC 172 19,qB 173 (idxSl 1) 171 172,qA 174 (loadF false 1) 173,qC 175 20,qB 176 (idxSl 1) 174 175,qA 177 (loadF false 1) 176,qF 178 fun s=>binA prog .rem 3 (s.get 177) (.int .i64 7),qF 179 fun s=>binA prog .add 3 (s.get 178) (.int .i64 1),qF 180 fun s=>sliceStr (.str [48,49,50,51,52,53,54]) (some (s.get 170)) (some (s.get 179)),⟨some 181,none,.c 0 (fun s=>(.fn 9 [] [])) fun s=>[(s.get 157),(s.get 162),(s.get 180)]⟩,qF 182 fun s=>binA prog .neq 33 (s.get 181) (.int .i64 0)] K s:=(aW hf Bt K s).trans (by kernel_rfl)
theorem s8:den prog ann 3 (.code i7::K) s=ifV prog ann 3 182 i7t i7e K s (s.get 182):=aB hf (by kernel_rfl) K s
theorem nK:den prog ann 3 (.code i7e::K) s=den prog ann 3 (K) s:=af hf (l:=[]) (by kernel_rfl) K s
theorem uU:den prog ann 3 (.code r28::K) s=ah prog ann 3 (some [5,7,12,14,15,17,19,20]) [] none [] [qC 155 20,qF 156 fun s=>binA prog .add 3 (s.get 155) (.int .i64 1),qC 20 156] K s:=(ae hf _ K s).trans (by kernel_rfl)
theorem mY:den prog ann 3 (.code r31::K) s=ah prog ann 3 (some [5,7,12,14,15,17,19]) [] none [] [qC 183 15,⟨some 184,none,.c 0 (fun s=>(.fn 10 [] [])) fun s=>[(s.get 183)]⟩,qC 21 184] K s:=(ae hf _ K s).trans (by kernel_rfl)
theorem Bl:den prog ann 3 (.code k8::K) s=den prog ann 3 (.code r33::.code i8::.inBlock 8::K) s:=aS hf (b:=blkOf k8) (l:=[r33,i8]) (by kernel_rfl) (by kernel_rfl) K s
theorem uZ:den prog ann 3 (.code r33::K) s=ah prog ann 3 none [] none [] [qC 186 21,qF 187 fun s=>binA prog .eql 33 (s.get 186) (.int .i64 0),qC 185 187] K s:=(ae hf _ K s).trans (by kernel_rfl)
theorem Bo:den prog ann 3 (.code i8::K) s=ifV prog ann 3 185 i8t i8e K s (s.get 185):=aB hf (by kernel_rfl) K s
theorem ve:den prog ann 3 (.code i8t::K) s=den prog ann 3 (.code r34::K) s:=af hf (l:=[r34]) (by kernel_rfl) K s
theorem uY:den prog ann 3 (.code r34::K) s=ah prog ann 3 none [] none [] [qC 188 19,qC 189 19,qC 17 188,qC 18 189] K s:=(ae hf _ K s).trans (by kernel_rfl)
theorem vg:den prog ann 3 (.code i8e::K) s=den prog ann 3 (.code r35::.code i9::K) s:=af hf (l:=[r35,i9]) (by kernel_rfl) K s
theorem u5:den prog ann 3 (.code r35::K) s=ah prog ann 3 none [] none [] [qC 191 21,qF 192 fun s=>binA prog .eql 33 (s.get 191) (.int .i64 8),qC 190 192] K s:=(ae hf _ K s).trans (by kernel_rfl)
theorem Bq:den prog ann 3 (.code i9::K) s=ifV prog ann 3 190 i9t i9e K s (s.get 190):=aB hf (by kernel_rfl) K s
theorem vr:den prog ann 3 (.code i9t::K) s=den prog ann 3 (.code r36::K) s:=af hf (l:=[r36]) (by kernel_rfl) K s
theorem u6:den prog ann 3 (.code r36::K) s=ah prog ann 3 none [] none [] [qC 193 19,qC 18 193] K s:=(ae hf _ K s).trans (by kernel_rfl)
theorem nJ:den prog ann 3 (.code r23::K) s=ah prog ann 3 (some [5,7,12,14,15,17,18,19]) [] none [] [qC 145 19,qF 146 fun s=>binA prog .add 3 (s.get 145) (.int .i64 1),qC 19 146] K s:=(ae hf _ K s).trans (by kernel_rfl)
theorem u9:den prog ann 3 (.code r37::K) s=ah prog ann 3 (some [5,7,12,14,17,18]) [] none [] [qC 194 14,qF 195 fun s=>idxArr 3 1 (s.get 5) (.int .i64 1),qA 196 (loadF false 1) 195,qA 197 (convInt .i64) 196,qF 198 fun s=>idxArr 3 1 (s.get 5) (.int .i64 2),qA 199 (loadF false 1) 198,qA 200 (convInt .i64) 199,qB 201 (binA prog .add 3) 197 200,⟨some 202,none,.c 0 (fun s=>(.fn 11 [] [])) fun s=>[(s.get 194),(s.get 201)]⟩] K s:=(ae hf _ K s).trans (by kernel_rfl)
theorem vk:den prog ann 3 (.code r38::K) s=ah prog ann 3 none [] none [] [qC 204 14,⟨some 205,none,.c 0 (fun s=>(.fn 7 [] [])) fun s=>[(s.get 204)]⟩,qC 203 205,qF 206 fun s=>extA (s.get 203) 0,qF 207 fun s=>extA (s.get 203) 1,qC 22 206,qC 23 207] K s:=(ae hf _ K s).trans (by kernel_rfl)
theorem vm:den prog ann 3 (.code r39::K) s=ah prog ann 3 none [] none [] [qC 208 22,qF 209 fun s=>binA prog .eql 38 (s.get 208) (.nilp),qC 210 209,⟨some 211,some (210,false),.v fun s=>some (s.get 23)⟩,⟨some 212,some (210,false),.v fun s=>binA prog .neq 33 (s.get 211) (.int .i64 0)⟩,qF 213 fun s=>pickA (s.get 210) (.bool true) (s.get 212)] K s:=(ae hf _ K s).trans (by kernel_rfl)
theorem vy:den prog ann 3 (.code i10::K) s=ifV prog ann 3 213 i10t i10e K s (s.get 213):=aB hf (by kernel_rfl) K s
theorem qj:den prog ann 3 (.code i10e::K) s=den prog ann 3 (K) s:=af hf (l:=[]) (by kernel_rfl) K s
theorem vn:den prog ann 3 (.code r41::K) s=ah prog ann 3 none [] none [] [qC 215 22,⟨some 216,none,.c 0 (fun s=>(.fn 12 [] [])) fun s=>[(s.get 215),(.int .i64 (-1)),(.str []),(.str [])]⟩,qC 214 216,qF 217 fun s=>extA (s.get 214) 0,qF 218 fun s=>extA (s.get 214) 1,qC 24 217,qC 25 218] K s:=(ae hf _ K s).trans (by kernel_rfl)
theorem vp:den prog ann 3 (.code r42::K) s=ah prog ann 3 none [] none [] [qC 219 25,qF 220 fun s=>binA prog .neq 33 (s.get 219) (.int .i64 0),qC 221 220,⟨some 222,some (221,false),.v fun s=>some (s.get 24)⟩,⟨some 223,some (221,false),.v fun s=>lenSl (s.get 222)⟩,⟨some 224,some (221,false),.v fun s=>binA prog .neq 3 (s.get 223) (.int .i64 0)⟩,⟨some 225,some (221,false),.v fun s=>some (s.get 224)⟩,⟨some 226,some (225,true),.v fun s=>some (s.get 24)⟩,⟨some 227,some (225,true),.v fun s=>lenSl (s.get 226)⟩,⟨some 228,some (225,true),.v fun s=>binA prog .neq 3 (s.get 227) (.int .i64 4)⟩,⟨some 229,some (221,false),.v fun s=>pickA (s.get 225) (s.get 228) (.bool false)⟩,qF 230 fun s=>pickA (s.get 221) (.bool true) (s.get 229)] K s:=(ae hf _ K s).trans (by kernel_rfl)
theorem vB:den prog ann 3 (.code i11::K) s=ifV prog ann 3 230 i11t i11e K s (s.get 230):=aB hf (by kernel_rfl) K s
theorem qk:den prog ann 3 (.code i11e::K) s=den prog ann 3 (K) s:=af hf (l:=[]) (by kernel_rfl) K s
theorem vq:den prog ann 3 (.code r44::K) s=ah prog ann 3 none [] none [] [qF 26 fun s=>some (.int .i64 (-1))] K s:=(ae hf _ K s).trans (by kernel_rfl)
theorem vt:den prog ann 3 (.code r45::K) s=ah prog ann 3 none [] none [] [qC 231 24,qA 232 lenSl 231,qF 233 fun s=>binA prog .eql 3 (s.get 232) (.int .i64 4)] K s:=(ae hf _ K s).trans (by kernel_rfl)
theorem vG:den prog ann 3 (.code i12::K) s=ifV prog ann 3 233 i12t i12e K s (s.get 233):=aB hf (by kernel_rfl) K s
theorem ql:den prog ann 3 (.code i12t::K) s=den prog ann 3 (.code r46::.code r47::.code k9::.code r53::.code i15::.code r55::.code r56::.code i16::.code r58::.code k11::.code r63::.code i19::K) s:=af hf (l:=[r46,r47,k9,r53,i15,r55,r56,i16,r58,k11,r63,i19]) (by kernel_rfl) K s
theorem vu:den prog ann 3 (.code r46::K) s=ah prog ann 3 none [] none [] [⟨some 234,none,.w false none fun s=>bslM s.m 0 (bslA 1 0 [.int .i64 0] [])⟩,qC 27 234] K s:=(ae hf _ K s).trans (by kernel_rfl)
theorem vx:den prog ann 3 (.code r47::K) s=ah prog ann 3 none [] none [] [qF 28 fun s=>some (.int .i64 0)] K s:=(ae hf _ K s).trans (by kernel_rfl)
theorem Bn (K:List Item) (t:List (Nat×AV)) (m:Mem):den prog ann 3 (.code k9::K) ⟨t,309,m⟩=L9 (get t 7) (get t 12) (get t 17) (get t 18) (get t 24) (get t 26) (get t 27) (get t 28) m K:=ar hf (b:=l9) (id:=48) (l:=[7,12,17,18,24,26,27,28]) (by kernel_rfl) (by kernel_rfl) (by kernel_rfl) K _
theorem HG (K:List Item) (t:List (Nat×AV)) (m:Mem):den prog ann 3 (.inLoop l9::.inBlock 9::K) ⟨t,309,m⟩=L9 (get t 7) (get t 12) (get t 17) (get t 18) (get t 24) (get t 26) (get t 27) (get t 28) m K:=ay hf (id:=48) (l:=[7,12,17,18,24,26,27,28]) (by kernel_rfl) (by kernel_rfl) (.inBlock 9::K) _
theorem rN (x7 x12 x17 x18 x24 x26 x27 x28:AV) (m:Mem) (K:List Item):L9 x7 x12 x17 x18 x24 x26 x27 x28 m K=den prog ann 3 (.code r48::.code i13::.code k10::.code r49::.inLoop l9::.inBlock 9::K) ⟨[(7,x7),(12,x12),(17,x17),(18,x18),(24,x24),(26,x26),(27,x27),(28,x28)],309,m⟩:=af hf (l:=[r48,i13,k10,r49]) (by kernel_rfl) _ _
theorem vz:den prog ann 3 (.code r48::K) s=ah prog ann 3 (some [7,12,17,18,24,26,27,28]) [] none [] [qC 235 28,qF 236 fun s=>binA prog .lss 3 (s.get 235) (.int .i64 4)] K s:=(ae hf _ K s).trans (by kernel_rfl)
theorem vI:den prog ann 3 (.code i13::K) s=ifV prog ann 3 236 i13t i13e K s (s.get 236):=aB hf (by kernel_rfl) K s
theorem qo:den prog ann 3 (.code i13t::K) s=den prog ann 3 (K) s:=af hf (l:=[]) (by kernel_rfl) K s
theorem qp:den prog ann 3 (.code i13e::K) s=den prog ann 3 (.code (.exit 9)::K) s:=af hf (l:=[(.exit 9)]) (by kernel_rfl) K s
theorem uW:den prog ann 3 (.code k10::K) s=den prog ann 3 (.code r50::.code i14::.code r52::.inBlock 10::K) s:=aS hf (b:=blkOf k10) (l:=[r50,i14,r52]) (by kernel_rfl) (by kernel_rfl) K s
theorem Bu:bh (fun g=>(ann g).pure) (bj (ann 3) (bI r50)) (bN (ann 3) (bI r50)) (opsOf r50)=true:=aQ (an:=[0,0,3,7,15,0,0,64,224,480,1023,2047,4095,4095,16383,32767,65535,131071,262143,524287]) (by kernel_rfl) (by kernel_rfl)
theorem vC:den prog ann 3 (.code r50::K) s=ah prog ann 3 none [] (some 20) [] [qC 239 24,qC 240 28,qB 241 (idxSl 2) 239 240,qA 242 (fieldA 0) 241,qF 243 fun s=>loadA false 1 s.m (s.get 242),qC 244 28,qC 245 28,qF 246 fun s=>binA prog .add 3 (s.get 245) (.int .i64 1),qF 247 fun s=>sliceStr (.str [48,49,50,51]) (some (s.get 244)) (some (s.get 246)),qA 248 (binA prog .add 9 (.str [104,97,110,100])) 247,qB 249 (binA prog .neq 9) 243 248,qC 250 249,⟨some 251,some (250,false),.v fun s=>some (s.get 24)⟩,⟨some 252,some (250,false),.v fun s=>some (s.get 28)⟩,⟨some 253,some (250,false),.v fun s=>idxSl 2 (s.get 251) (s.get 252)⟩,⟨some 254,some (250,false),.v fun s=>fieldA 1 (s.get 253)⟩,⟨some 255,some (250,false),.v fun s=>loadA false 1 s.m (s.get 254)⟩,⟨some 256,some (250,false),.v fun s=>lenStr (s.get 255)⟩,⟨some 257,some (250,false),.v fun s=>binA prog .neq 3 (s.get 256) (.int .i64 1)⟩,qF 258 fun s=>pickA (s.get 250) (.bool true) (s.get 257)] K s:=(aW hf Bu K s).trans (by kernel_rfl)
theorem EM:den prog ann 3 (.code i14::K) s=ifV prog ann 3 258 i14t i14e K s (s.get 258):=aB hf (by kernel_rfl) K s
theorem Cw:den prog ann 3 (.code i14e::K) s=den prog ann 3 (K) s:=af hf (l:=[]) (by kernel_rfl) K s
theorem vE:den prog ann 3 (.code r52::K) s=ah prog ann 3 none [] none [] [qC 259 27,qC 260 24,qC 261 28,qB 262 (idxSl 2) 260 261,qA 263 (fieldA 1) 262,qF 264 fun s=>loadA false 1 s.m (s.get 263),qF 265 fun s=>idxStr (s.get 264) (.int .i64 0),qF 266 fun s=>binA prog .sub 5 (s.get 265) (.int .u8 48),qA 267 (convInt .i64) 266,qF 268 fun s=>bslF 1 (bslA 1 1 [.int .i64 0] [(0,(s.get 267))]),⟨some 269,none,.w false none fun s=>appendA 1 8 s.m (s.get 259) (s.get 268)⟩,qC 27 269] K s:=(ae hf _ K s).trans (by kernel_rfl)
theorem vA:den prog ann 3 (.code r49::K) s=ah prog ann 3 (some [7,12,17,18,24,26,27,28]) [] none [] [qC 237 28,qF 238 fun s=>binA prog .add 3 (s.get 237) (.int .i64 1),qC 28 238] K s:=(ae hf _ K s).trans (by kernel_rfl)
theorem vH:den prog ann 3 (.code r53::K) s=ah prog ann 3 (some [7,12,17,18,26,27]) [] none [] [qF 270 fun s=>loadA true 2 s.m (s.get 7),qC 271 27,⟨some 272,none,.c 0 (fun s=>(.fn 13 [] [])) fun s=>[(s.get 270),(s.get 271)]⟩,qA 273 (unA .not) 272] K s:=(ae hf _ K s).trans (by kernel_rfl)
theorem EN:den prog ann 3 (.code i15::K) s=ifV prog ann 3 273 i15t i15e K s (s.get 273):=aB hf (by kernel_rfl) K s
theorem Cx:den prog ann 3 (.code i15e::K) s=den prog ann 3 (K) s:=af hf (l:=[]) (by kernel_rfl) K s
theorem vJ:den prog ann 3 (.code r55::K) s=ah prog ann 3 none [] none [] [qF 275 fun s=>loadA true 2 s.m (s.get 7),qC 276 27,⟨some 277,none,.c 0 (fun s=>(.fn 14 [] [])) fun s=>[(s.get 275),(s.get 276)]⟩,qC 274 277,qF 278 fun s=>extA (s.get 274) 0,qF 279 fun s=>extA (s.get 274) 1,qC 29 278,qC 30 279] K s:=(ae hf _ K s).trans (by kernel_rfl)
theorem vK:den prog ann 3 (.code r56::K) s=ah prog ann 3 none [] none [] [qC 280 29,qA 281 (unA .not) 280,qC 282 281,⟨some 283,some (282,false),.v fun s=>some (s.get 30)⟩,⟨some 284,some (282,false),.v fun s=>binA prog .neq 33 (s.get 283) (.int .i64 0)⟩,qF 285 fun s=>pickA (s.get 282) (.bool true) (s.get 284)] K s:=(ae hf _ K s).trans (by kernel_rfl)
theorem EO:den prog ann 3 (.code i16::K) s=ifV prog ann 3 285 i16t i16e K s (s.get 285):=aB hf (by kernel_rfl) K s
theorem Cy:den prog ann 3 (.code i16e::K) s=den prog ann 3 (K) s:=af hf (l:=[]) (by kernel_rfl) K s
theorem vM:den prog ann 3 (.code r58::K) s=ah prog ann 3 none [] none [] [qF 31 fun s=>some (.int .i64 0)] K s:=(ae hf _ K s).trans (by kernel_rfl)
theorem uX (K:List Item) (t:List (Nat×AV)) (m:Mem):den prog ann 3 (.code k11::K) ⟨t,309,m⟩=L11 (get t 12) (get t 17) (get t 18) (get t 26) (get t 27) (get t 31) m K:=ar hf (b:=l11) (id:=59) (l:=[12,17,18,26,27,31]) (by kernel_rfl) (by kernel_rfl) (by kernel_rfl) K _
theorem EP (K:List Item) (t:List (Nat×AV)) (m:Mem):den prog ann 3 (.inLoop l11::.inBlock 11::K) ⟨t,309,m⟩=L11 (get t 12) (get t 17) (get t 18) (get t 26) (get t 27) (get t 31) m K:=ay hf (id:=59) (l:=[12,17,18,26,27,31]) (by kernel_rfl) (by kernel_rfl) (.inBlock 11::K) _
theorem Ac (x12 x17 x18 x26 x27 x31:AV) (m:Mem) (K:List Item):L11 x12 x17 x18 x26 x27 x31 m K=den prog ann 3 (.code r59::.code i17::.code k12::.code r60::.inLoop l11::.inBlock 11::K) ⟨[(12,x12),(17,x17),(18,x18),(26,x26),(27,x27),(31,x31)],309,m⟩:=af hf (l:=[r59,i17,k12,r60]) (by kernel_rfl) _ _
theorem vO:den prog ann 3 (.code r59::K) s=ah prog ann 3 (some [12,17,18,26,27,31]) [] none [] [qC 286 31,qC 287 12,qA 288 lenSl 287,qB 289 (binA prog .lss 3) 286 288] K s:=(ae hf _ K s).trans (by kernel_rfl)
theorem ER:den prog ann 3 (.code i17::K) s=ifV prog ann 3 289 i17t i17e K s (s.get 289):=aB hf (by kernel_rfl) K s
theorem Cz:den prog ann 3 (.code i17t::K) s=den prog ann 3 (K) s:=af hf (l:=[]) (by kernel_rfl) K s
theorem CA:den prog ann 3 (.code i17e::K) s=den prog ann 3 (.code (.exit 11)::K) s:=af hf (l:=[(.exit 11)]) (by kernel_rfl) K s
theorem u7:den prog ann 3 (.code k12::K) s=den prog ann 3 (.code r61::.code i18::.inBlock 12::K) s:=aS hf (b:=blkOf k12) (l:=[r61,i18]) (by kernel_rfl) (by kernel_rfl) K s
theorem ES:den prog ann 3 (.code r61::K) s=ah prog ann 3 none [] none [] [qC 292 12,qC 293 31,qB 294 (idxSl 1) 292 293,qA 295 (loadF false 1) 294,qC 296 27,⟨some 297,none,.c 0 (fun s=>(.fn 15 [] [])) fun s=>[(s.get 295),(s.get 296)]⟩] K s:=(ae hf _ K s).trans (by kernel_rfl)
theorem ET:den prog ann 3 (.code i18::K) s=ifV prog ann 3 297 i18t i18e K s (s.get 297):=aB hf (by kernel_rfl) K s
theorem CB:den prog ann 3 (.code i18t::K) s=den prog ann 3 (.code r62::K) s:=af hf (l:=[r62]) (by kernel_rfl) K s
theorem EU:den prog ann 3 (.code r62::K) s=ah prog ann 3 none [] none [] [qC 298 31,qC 26 298] K s:=(ae hf _ K s).trans (by kernel_rfl)
theorem CC:den prog ann 3 (.code i18e::K) s=den prog ann 3 (K) s:=af hf (l:=[]) (by kernel_rfl) K s
theorem EV:den prog ann 3 (.code r60::K) s=ah prog ann 3 (some [12,17,18,26,27,31]) [] none [] [qC 290 31,qF 291 fun s=>binA prog .add 3 (s.get 290) (.int .i64 1),qC 31 291] K s:=(ae hf _ K s).trans (by kernel_rfl)
theorem Ab:den prog ann 3 (.code r63::K) s=ah prog ann 3 (some [17,18,26]) [] none [] [qC 299 26,qF 300 fun s=>binA prog .lss 3 (s.get 299) (.int .i64 0)] K s:=(ae hf _ K s).trans (by kernel_rfl)
theorem EW:den prog ann 3 (.code i19::K) s=ifV prog ann 3 300 i19t i19e K s (s.get 300):=aB hf (by kernel_rfl) K s
theorem CD:den prog ann 3 (.code i19e::K) s=den prog ann 3 (K) s:=af hf (l:=[]) (by kernel_rfl) K s
theorem qm:den prog ann 3 (.code i12e::K) s=den prog ann 3 (K) s:=af hf (l:=[]) (by kernel_rfl) K s
theorem z8:den prog ann 3 (.code r65::K) s=ah prog ann 3 (some [17,18,26]) [] none [] [qC 301 26,qC 302 17,qB 303 (binA prog .eql 3) 301 302,qC 304 303,⟨some 305,some (304,false),.v fun s=>some (s.get 26)⟩,⟨some 306,some (304,false),.v fun s=>some (s.get 18)⟩,⟨some 307,some (304,false),.v fun s=>binA prog .eql 3 (s.get 305) (s.get 306)⟩,qF 308 fun s=>pickA (s.get 304) (.bool true) (s.get 307),qC 6 308] K s:=(ae hf _ K s).trans (by kernel_rfl)
theorem aE:den prog ann 3 (.code .ret::K) s=finM true [fun s=>some (s.get 6)] s:=(aO hf K s).trans (by kernel_rfl)
theorem aC (id:Nat) (K:List Item) (s:St):den prog ann 3 (.inBlock id::K) s=den prog ann 3 K s:=aR hf id K s
theorem aT (id:Nat) (K:List Item) (s:St):den prog ann 3 (.code (.exit id)::K) s=exitV prog ann 3 (exitTo id K) s:=bp hf id K s
theorem al (v0 v1 v2:AV) (m:Mem) (h:closedL [v0,v1,v2]=true):denC prog ann 3 [v0,v1,v2] m=(den prog ann 3 [.code b] ⟨[(0,v0),(1,v1),(2,v2)],309,Mem.empty⟩).bind fun r=>some (r.1,m):=(bD hf (b:=b) (by kernel_rfl) (by kernel_rfl) (by kernel_rfl) h m).trans (by kernel_rfl)
attribute [simp] aV aH aI br bu bP aX aU aZ aL bH bd bg bo dL ie bM bC bA aY fy bU bV bW cv cw cj cP bY bQ cY eX dg gA eT ej fS nM nI m9 sV kS jZ ju jx sW nO na jv uS sX sY uT sZ nF nG s5 uV s8 nK uU mY Bl uZ Bo ve uY vg u5 Bq vr u6 nJ u9 vk vm vy qj vn vp vB qk vq vt vG ql vu vx Bn HG vz vI qo qp uW vC EM Cw vE vA vH EN Cx vJ vK EO Cy vM uX EP vO ER Cz CA u7 ES ET CB EU CC EV Ab EW CD qm z8 aE aC aT
end
end aj
end Go.Proofs.YtadofgdidhpnpaaGreatDoor

/-
  TopKept (1): the deeds. Conditions: none.
-/
namespace Go.Proofs.YtadofgdidhpnpaaGreatDoor
open Go.AM
open Go.Proofs
open Go.Proofs.Tryz (prog)
set_option linter.all false
set_option maxRecDepth 100000
set_option maxHeartbeats 4000000
noncomputable def restA:List Item:=[.code aj.r14,.code aj.r15,.code aj.r16,.code aj.r17,.code aj.i3,.code aj.r19,.code aj.r20,.code aj.r21,.code aj.k4,.code aj.r37,.code aj.r38,.code aj.r39,.code aj.i10,.code aj.r41,.code aj.r42,.code aj.i11,.code aj.r44,.code aj.r45,.code aj.i12,.code aj.r65,.code .ret]
theorem Ao {t:List (Nat×AV)} {n:Nat} {m m':Mem} {id:Nat} {x y x':AV} (h7:AM.get t 7=.ptr id 0 2) (h:m.h id=some (.cells [x,y])) (hf:frzV x m=some (x',m')) (h':m'.h id=some (.cells [x,y])) (h1:x'.one=true) :
  frz1 ⟨t,n,m⟩ 1007=some ⟨t,n,⟨upd m'.h id (some (.cells [x',y])),m'.nx⟩⟩:=by
 have b1:Nat.blt 1007 1000=false:=rfl
 have b2:Nat.ble 1000000 1007=false:=rfl
 have b3:Nat.ble 900000 1007=false:=rfl
 have b4:(Nat.blt 1007 800000&&Nat.ble 700000 1007)=false:=rfl
 have b5:(Nat.blt 1007 700000&&Nat.ble 600000 1007)=false:=rfl
 have b8:Nat.ble 800000 1007=false:=rfl
 have b6:1007 % 1000=7:=rfl
 have b7:1007 / 1000 - 1=0:=rfl
 simp only [frz1,b1,b2,b3,b4,b5,b6,b7,b8,cond_false,cond_true,St.get,h7,h]
 simp [hf,h',h1]
theorem IH {a:Nat} (h:a < 256):(IntKind.wrap .i64 (a:Int)).tmod 4=((a % 4:Nat):Int):=by
 rw [bc (by omega) (by omega),Int.tmod_eq_emod_of_nonneg (by omega)];omega
def topH (A B C D:Nat):Nat→Option AObj:=upd (upd (upd (upd (upd (upd (upd (upd (upd Mem.empty.h 0 (some (.cells [.nils,.nils]))) 9 (some (.cells (ints [A])))) 0 (some (.cells [.sl 9 1 0 1 1,.nils]))) 9 (some (.cells (ints [A,B])))) 0 (some (.cells [.sl 9 1 0 2 2,.nils]))) 9 (some (.cells (ints [A,B,C])))) 0 (some (.cells [.sl 9 1 0 3 3,.nils]))) 9 (some (.cells (ints [A,B,C,D])))) 0 (some (.cells [.sl 9 1 0 4 4,.nils]))
theorem oU {a:Nat} (h:a < 256):∃A:Nat,A < 4∧(IntKind.wrap .i64 (a:Int)).tmod 4=(A:Int):=⟨a % 4,by omega,IH h⟩
theorem xV {a b c d x y z:Nat} (ha:a < 256) (hb:b < 256) (hc:c < 256) (hd:d < 256) {v0 v1 v2:AV} (e0:v0=.agg [.int .u8 a,.int .u8 b,.int .u8 c,.int .u8 d]) (e2:v2=.agg [.int .u8 x,.int .u8 y,.int .u8 z]) (h1:v1.closed=true) (m:Mem) :
  ∃(A B C D:Nat) (m':Mem),A < 4∧B < 4∧C < 4∧D < 4∧m'.h 0=some (.cells [.fsl false 4 (ints [A,B,C,D]),.nils])∧0 < m'.nx∧∀R,aj.L2 v1 (.fptr [.int .u8 x,.int .u8 y,.int .u8 z]) (.ptr 0 0 2) (.int .i64 0) m' restA=R→denC prog ann 3 [v0,v1,v2] m=R.bind fun r=>some (r.1,m):=by
 subst e0 e2
 obtain⟨A,hA,eA⟩:=oU ha
 obtain⟨B,hB,eB⟩:=oU hb
 obtain⟨C,hC,eC⟩:=oU hc
 obtain⟨D,hD,eD⟩:=oU hd
 refine⟨A,B,C,D,⟨upd (upd (topH A B C D) 9 none) 0 (some (.cells [.fsl false 4 (ints [A,B,C,D]),.nils])),45⟩,hA,hB,hC,hD,by simp,by simp,fun R hR=>?run⟩
 case run =>
  rw [← hR]
  clear hR
  obtain⟨M,hM⟩:∃M:Mem,(⟨upd (upd (topH A B C D) 9 none) 0 (some (.cells [.fsl false 4 (ints [A,B,C,D]),.nils])),45⟩:Mem)=M:=⟨_,rfl⟩
  rw [hM,aj.al _ _ _ _ (by simp [h1])]
  simp [-aj.bo]
  rw [aj.aM]
  simp [-aj.bo,eA]
  rw [aj.aM]
  simp [-aj.bo,eB]
  rw [aj.aM]
  simp [-aj.bo,eC]
  rw [aj.aM]
  simp [-aj.bo,eD]
  rw [aj.aM]
  simp [-aj.bo]
  obtain⟨H,hH⟩:∃H:Nat→Option AObj,topH A B C D=H:=⟨_,rfl⟩
  rw [hH] at hM
  simp only [topH] at hH
  have H0:H 0=some (.cells [.sl 9 1 0 4 4,.nils]):=by rw [← hH];simp
  have H9:H 9=some (.cells (ints [A,B,C,D])):=by rw [← hH];simp
  simp only [ints,List.map] at hH
  rw [hH]
  have fz:=fun t (h:AM.get t 7=.ptr 0 0 2)=>Ao (t:=t) (n:=309) (m:=⟨H,45⟩) (m':=⟨upd H 9 none,45⟩) (x':=.fsl false 4 (ints [A,B,C,D])) h H0 (by simp [H9]) (by simp [H0]) rfl
  simp [fz,-aj.bM]
  rw [← hM]
  rfl
end Go.Proofs.YtadofgdidhpnpaaGreatDoor

/-
  TopKept (2): the notes. Conditions: none.
-/
namespace Go.Proofs.YtadofgdidhpnpaaGreatDoor
open Go.AM
open Go.Proofs
open Go.Proofs.Tryz (prog)
set_option linter.all false
set_option maxRecDepth 100000
set_option maxHeartbeats 4000000
structure Row where
 a:Nat
 b:Nat
 c:Nat
 d:Nat
deriving Inhabited
def rowU (x:Row):List AV:=[.int .u8 x.a,.int .u8 x.b,.int .u8 x.c,.int .u8 x.d]
def RowOk (x:Row):Prop:=x.a < 256∧x.b < 256∧x.c < 256∧x.d < 256
theorem Al (l:List Row):∀x∈l,(rowU x).length=4:=fun _ _=>rfl
theorem C9 {a:Nat} (h:a < 256):∃A:Nat,A < 3∧(IntKind.wrap .i64 (a:Int)).tmod 3=(A:Int):=⟨a % 3,by omega,by
 rw [bc (by omega) (by omega),Int.tmod_eq_emod_of_nonneg (by omega)];omega⟩
structure TInv (m:Mem) (D:List Int) (vN:AV) (N:List Note):Prop where
 h:m.h 0=some (.cells [.fsl false 4 (ints D),vN])
 v:IsSl noteC vN N
 val:ValidS D N
 n:0 < m.nx
theorem Hk (s:St):frz1 s 1090092=bif apartD s 90 92 then some s else none:=by
 have b1:Nat.blt 1090092 1000=false:=rfl
 have b2:Nat.ble 1000000 1090092=true:=rfl
 have b3:Nat.blt 1090092 2000000=true:=rfl
 have b4:(1090092 - 1000000) / 1000=90:=rfl
 have b5:(1090092 - 1000000) % 1000=92:=rfl
 simp only [frz1,b1,b2,tst,b3,b4,b5,cond_true,cond_false]
theorem Hl (s:St):frz1 s 1090095=bif apartD s 90 95 then some s else none:=by
 have b1:Nat.blt 1090095 1000=false:=rfl
 have b2:Nat.ble 1000000 1090095=true:=rfl
 have b3:Nat.blt 1090095 2000000=true:=rfl
 have b4:(1090095 - 1000000) / 1000=90:=rfl
 have b5:(1090095 - 1000000) % 1000=95:=rfl
 simp only [frz1,b1,b2,tst,b3,b4,b5,cond_true,cond_false]
theorem Am {t:List (Nat×AV)} {n:Nat} {m m':Mem} {id:Nat} {x y x':AV} (h7:AM.get t 11=.ptr id 0 2) (h:m.h id=some (.cells [y,x])) (hf:frzV x m=some (x',m')) (h':m'.h id=some (.cells [y,x])) (h1:x'.one=true) :
  frz1 ⟨t,n,m⟩ 2011=some ⟨t,n,⟨upd m'.h id (some (.cells [y,x'])),m'.nx⟩⟩:=by
 have b1:Nat.blt 2011 1000=false:=rfl
 have b2:Nat.ble 1000000 2011=false:=rfl
 have b3:Nat.ble 900000 2011=false:=rfl
 have b4:(Nat.blt 2011 800000&&Nat.ble 700000 2011)=false:=rfl
 have b5:(Nat.blt 2011 700000&&Nat.ble 600000 2011)=false:=rfl
 have b8:Nat.ble 800000 2011=false:=rfl
 have b6:2011 % 1000=11:=rfl
 have b7:2011 / 1000 - 1=1:=rfl
 simp only [frz1,b1,b2,b3,b4,b5,b6,b7,b8,cond_false,cond_true,St.get,h7,h]
 simp [hf,h',h1]
theorem An {t:List (Nat×AV)} {H:Nat→Option AObj} {nx S R n:Nat} {vD:AV} {k:Nat} {N:List Note} (hn:n=N.length) (h90:AM.get t 90=.ptr 0 0 2) (h92:AM.get t 92=.sl S 4 0 0 0) (h95:AM.get t 95=.sl S 4 0 k (k*4)) (h11:AM.get t 11=.ptr R 0 2)
  (hR:H R=some (.cells [vD,.sl S 4 0 n (n*4)])) (hS:H S=some (.cells (flatC noteC N))) (hRS:R≠S) (hS0:0≠S) (hD:vD.closed=true) (hD1:vD.one=true) :
  (frz1 ⟨t,309,⟨H,nx⟩⟩ 1090092).bind (frzL [1090095,2011,11])=St.put ⟨t,309,⟨upd (upd (upd H S none) R (some (.cells [vD,.fsl false n (flatC noteC N)]))) R none,nx⟩⟩ (some 11) (.fptr [vD,.fsl false n (flatC noteC N)]):=by
 have q:(0==S)=false:=beq_eq_false_iff_ne.2 hS0
 have qR:(R==S)=false:=beq_eq_false_iff_ne.2 hRS
 have fl:=cK (f:=noteC) (k:=4) (l:=N) (cr N)
 have fc:=fR (f:=noteC) (fun a=>pX a) N
 have ft:(flatC noteC N).take (N.length*4)=flatC noteC N:=List.take_of_length_le (by omega)
 have e:=Am (t:=t) (n:=309) (m:=⟨H,nx⟩) (m':=⟨upd H S none,nx⟩) (x':=.fsl false n (flatC noteC N)) h11 hR (by subst hn;simp [hS,fl,fc,ft]) (by simp [qR,hR]) rfl
 have hc:closedL [vD,.fsl false n (flatC noteC N)]=true:=by simp [hD]
 rw [Hk]
 simp only [apartD,St.get,h90,h92,q,Bool.not_false,cond_true,Option.bind_some,oO,zU,Hl,h95,e]
 simp [h11,hc,hD]
theorem B9 {H:Nat→Option AObj} {id nx:Nat} {N:List Note} (hN:N.length≤8):(bif N.length==0 then some (AV.sl id 4 0 0 0,(⟨upd H id (some (.cells [])),nx⟩:Mem)) else
  bif decide (N.length≤4611686018427387904)&&decide (N.length*32≤70368744177664) then some (AV.sl id 4 0 N.length (N.length*4),⟨upd H id (some (.cells (flatC noteC N))),nx⟩) else none)=some (AV.sl id 4 0 N.length (N.length*4),⟨upd H id (some (.cells (flatC noteC N))),nx⟩):=by
 cases N with
 | nil=>rfl
 | cons a N =>
  simp only [List.length_cons] at hN ⊢
  have h1:decide (N.length+1≤4611686018427387904)=true:=decide_eq_true (by omega)
  have h2:decide ((N.length+1)*32≤70368744177664)=true:=decide_eq_true (by omega)
  have h3:(N.length+1==0)=false:=by rw [beq_eq_false_iff_ne];omega
  rw [h1,h2,h3];rfl
section
variable {v1 x5 : AV} {xs : List Row} {D : List Int}
theorem yj (hx:IsSl rowU v1 xs) (hxr:∀x∈xs,RowOk x) (hD:D.length=4) {i:Nat} (hi:i < xs.length) (h8:i < 8) {m:Mem} {vN:AV} {N:List Note} (inv:TInv m D vN N) (hN:N.length≤i) :
  ∃m' vN' N',TInv m' D vN' N'∧N'.length≤i+1∧aj.L2 v1 x5 (.ptr 0 0 2) (.int .i64 i) m restA=aj.L2 v1 x5 (.ptr 0 0 2) (.int .i64 ((i:Int)+1)) m' restA:=by
 have hi':(i:Int) < xs.length:=by omega
 have h8':(i:Int) < 8:=by omega
 obtain⟨a1,a2,a3,a4⟩:=hxr _ (Ca hi)
 have hix:idxSl 4 v1 (.int .i64 (i:Int))=some (.fptr (.int .u8 (gth xs i).a::.int .u8 (gth xs i).b::.int .u8 (gth xs i).c::.int .u8 (gth xs i).d::flatC rowU (xs.drop (i+1)))):=by
  rw [hx.idx (Al xs) hi,m5 hi,cC];rfl
 generalize gth xs i=q at *
 obtain⟨A,hA,eA⟩:=oU a1
 obtain⟨B,hB,eB⟩:=C9 a2
 obtain⟨C,hC,eC⟩:=oU a3
 obtain⟨E,hE,eE⟩:=C9 a4
 have wB:IntKind.wrap .i64 ((B:Int)+1)=(B:Int)+1:=bc (by omega) (by omega)
 have wE:IntKind.wrap .i64 ((E:Int)+1)=(E:Int)+1:=bc (by omega) (by omega)
 have h0:=inv.h
 have hn:=inv.n
 have q0:(0==m.nx+15)=false:=by rw [beq_eq_false_iff_ne];omega
 have src:=fun m=>inv.v.src (cr N) m
 have fl:=cK (f:=noteC) (k:=4) (l:=N) (cr N)
 have ap:=fun(H:Nat→Option AObj) (id nx:Nat)=>B9 (H:=H) (id:=id) (nx:=nx) (N:=N) (by omega)
 have r1:N.length≤4611686018427387903:=by omega
 have r2:(N.length+1)*32≤70368744177664:=by omega
 have q1:(m.nx+17+20+2==m.nx+17+20+10)=false:=by rw [beq_eq_false_iff_ne];omega
 obtain⟨N',hN'⟩:∃N',N++[(⟨A,(B:Int)+1,C,(E:Int)+1⟩:Note)]=N':=⟨_,rfl⟩
 have lN':N.length+1=N'.length:=by rw [← hN'];simp
 have lN4:N.length*4+4=N'.length*4:=by omega
 have fN':flatC noteC N++[.int .i64 A,.int .i64 ((B:Int)+1),.int .i64 C,.int .i64 ((E:Int)+1)]=flatC noteC N':=by rw [← hN',fg,fV];rfl
 have r3:N'.length≤4611686018427387904:=by omega
 have r4:N'.length*32≤70368744177664:=by omega
 have fl':=cK (f:=noteC) (k:=4) (l:=N') (cr N')
 obtain⟨H,hH⟩:∃H,upd (upd (upd m.h (m.nx+15) none) (m.nx+17+20+2) (some (.cells (flatC noteC N')))) (m.nx+17+20+10) (some (.cells [.fsl false 4 (ints D),.sl (m.nx+17+20+2) 4 0 N'.length (N'.length*4)]))=H:=⟨_,rfl⟩
 have hR:H (m.nx+17+20+10)=some (.cells [.fsl false 4 (ints D),.sl (m.nx+17+20+2) 4 0 N'.length (N'.length*4)]):=by rw [← hH];simp
 have hS:H (m.nx+17+20+2)=some (.cells (flatC noteC N')):=by rw [← hH];simp [q1]
 have H0:H 0=some (.cells [.fsl false 4 (ints D),vN]):=by
  rw [← hH]
  simp only [aK,show(0==m.nx+17+20+10)=false from beq_eq_false_iff_ne.2 (by omega),show(0==m.nx+17+20+2)=false from beq_eq_false_iff_ne.2 (by omega),q0,cond_false,h0]
 have fz:=fun t nx h90 h92 h95 h11=>An (t:=t) (H:=H) (nx:=nx) (S:=m.nx+17+20+2) (R:=m.nx+17+20+10) (vD:=.fsl false 4 (ints D)) (k:=N.length) rfl h90 h92 h95 h11 hR hS (by omega) (by omega) rfl rfl
 have tale:IsTale (.agg [.fsl false 4 (ints D),.fsl false N'.length (flatC noteC N')]) D N':=⟨_,_,rfl,by rw [← hD];exact IsInts.fsl false D,IsSl.fsl false N'⟩
 obtain⟨b,hb,eb⟩:=uf tale (by omega) (by omega)
 have w1:IntKind.wrap .i64 ((i:Int)+1)=(i:Int)+1:=bc (by omega) (by omega)
 have z1:(0==m.nx+17+20+10)=false:=beq_eq_false_iff_ne.2 (by omega)
 have z2:(0==m.nx+17+20+2)=false:=beq_eq_false_iff_ne.2 (by omega)
 cases b with
 | false =>
  refine⟨?mm,vN,N,?inv,by omega,?run⟩
  case run =>
   rw [aj.dt]
   simp [hx.len,hi',h8',hix,eA,eC,eB,eE,wB,wE,h0,q0,src,fl,ap,r1,r2,r3,r4,fl',lN',lN4,fN',-aj.cv]
   rw [hH]
   simp [fz,eb,w1]
   rfl
  case inv=>exact⟨by simp [z1,z2,H0],inv.v,inv.val,by simp⟩
 | true =>
  refine⟨⟨upd (upd (upd H (m.nx+17+20+2) none) (m.nx+17+20+10) none) 0 (some (.cells [.fsl false 4 (ints D),.fsl false N'.length (flatC noteC N')])),m.nx+17+20+12⟩,.fsl false N'.length (flatC noteC N'),N',?inv,by omega,?run⟩
  case run =>
   rw [aj.dt]
   simp [hx.len,hi',h8',hix,eA,eC,eB,eE,wB,wE,h0,q0,src,fl,ap,r1,r2,r3,r4,fl',lN',lN4,fN',-aj.cv]
   rw [hH]
   simp [fz,eb,w1,H0,z1,z2]
  case inv=>exact⟨by simp,IsSl.fsl false N',hb.1 rfl,by simp⟩
end
end Go.Proofs.YtadofgdidhpnpaaGreatDoor

/-
  TopKept (3): the story is a valid one. Conditions: none.
-/
namespace Go.Proofs.YtadofgdidhpnpaaGreatDoor
open Go.AM
open Go.Proofs
open Go.Proofs.Tryz (prog)
set_option linter.all false
set_option maxRecDepth 100000
set_option maxHeartbeats 4000000
theorem ue {A B C E:Nat}:Reach [(A:Int),B,C,E] [] [(A:Int),B,C,E]:=by
 have go:∀ {c:List Int} {h:Nat},Reach [(A:Int),B,C,E] [] c→h < 4→nth c h < nth [(A:Int),B,C,E] h→Reach [(A:Int),B,C,E] [] (c.set h (nth c h+1)):=fun r h1 h2=>.step r ⟨h1,h2,rfl⟩
 have h0:Reach [(A:Int),B,C,E] [] [0,0,0,0]:=.zero
 have h1:∀k:Nat,k≤A→Reach [(A:Int),B,C,E] [] [(k:Int),0,0,0]:=by
  intro k
  induction k with
  | zero=>intro _;exact h0
  | succ k ih =>
   intro hk
   have:=go (h:=0) (ih (by omega)) (by omega) (by show(k:Int) < A;omega)
   simpa [nth] using this
 have h2:∀k:Nat,k≤B→Reach [(A:Int),B,C,E] [] [(A:Int),k,0,0]:=by
  intro k
  induction k with
  | zero=>intro _;exact h1 A (Nat.le_refl _)
  | succ k ih =>
   intro hk
   have:=go (h:=1) (ih (by omega)) (by omega) (by show(k:Int) < B;omega)
   simpa [nth] using this
 have h3:∀k:Nat,k≤C→Reach [(A:Int),B,C,E] [] [(A:Int),B,k,0]:=by
  intro k
  induction k with
  | zero=>intro _;exact h2 B (Nat.le_refl _)
  | succ k ih =>
   intro hk
   have:=go (h:=2) (ih (by omega)) (by omega) (by show(k:Int) < C;omega)
   simpa [nth] using this
 have h4:∀k:Nat,k≤E→Reach [(A:Int),B,C,E] [] [(A:Int),B,C,k]:=by
  intro k
  induction k with
  | zero=>intro _;exact h3 C (Nat.le_refl _)
  | succ k ih =>
   intro hk
   have:=go (h:=3) (ih (by omega)) (by omega) (by show(k:Int) < E;omega)
   simpa [nth] using this
 exact h4 E (Nat.le_refl _)
theorem mX {A B C E:Nat} (hA:A < 4) (hB:B < 4) (hC:C < 4) (hE:E < 4) (i:Nat):0≤nth [(A:Int),B,C,E] i∧nth [(A:Int),B,C,E] i≤3:=by
 match i with
 | 0=>exact⟨by show(0:Int)≤A;omega,by show(A:Int)≤3;omega⟩
 | 1=>exact⟨by show(0:Int)≤B;omega,by show(B:Int)≤3;omega⟩
 | 2=>exact⟨by show(0:Int)≤C;omega,by show(C:Int)≤3;omega⟩
 | 3=>exact⟨by show(0:Int)≤E;omega,by show(E:Int)≤3;omega⟩
 | n+4=>exact⟨by show(0:Int)≤0;omega,by show(0:Int)≤3;omega⟩
theorem tZ {A B C E:Nat} (hA:A < 4) (hB:B < 4) (hC:C < 4) (hE:E < 4):ValidS [(A:Int),B,C,E] [] :=
 ⟨by simp,by simp,fun i=>(mX hA hB hC hE i).1,fun i=>by have:=(mX hA hB hC hE i).2;omega,by simp,fun x hx=>(by cases hx),ue⟩
section
variable {v1 x5 : AV} {xs : List Row} {D : List Int}
theorem xW (hx:IsSl rowU v1 xs) (hxr:∀x∈xs,RowOk x) (hD:D.length=4) {R:Option Res} (hR:∀t m' vN' N',AM.get t 5=x5→AM.get t 7=.ptr 0 0 2→TInv m' D vN' N'→N'.length≤8→den prog ann 3 restA ⟨t,309,m'⟩=R) :
  ∀(k i:Nat) (m:Mem) (vN:AV) (N:List Note),i+k=8→i≤xs.length→TInv m D vN N→N.length≤i→aj.L2 v1 x5 (.ptr 0 0 2) (.int .i64 i) m restA=R:=by
 have stop:∀(i:Nat) (m:Mem) (vN:AV) (N:List Note),¬(i < xs.length∧i < 8)→i≤8→TInv m D vN N→N.length≤i→aj.L2 v1 x5 (.ptr 0 0 2) (.int .i64 i) m restA=R:=by
  intro i m vN N h h8 inv hN
  have e:=fun t m' h5 h7 inv'=>hR t m' vN N h5 h7 inv' (by omega)
  have inv':TInv ⟨m.h,m.nx⟩ D vN N:=inv
  rw [aj.dt]
  by_cases q:i < xs.length
  ·have q1:(i:Int) < xs.length:=by omega
   have q2:¬(i:Int) < 8:=by omega
   simp [hx.len,q1,q2]
   exact e _ _ (by simp) (by simp) inv'
  ·have q1:¬(i:Int) < xs.length:=by omega
   simp [hx.len,q1]
   exact e _ _ (by simp) (by simp) inv'
 intro k
 induction k with
 | zero =>
  intro i m vN N h1 h2 inv hN
  exact stop i m vN N (by omega) (by omega) inv hN
 | succ k ih =>
  intro i m vN N h1 h2 inv hN
  by_cases q:i < xs.length
  ·obtain⟨m',vN',N',inv',hN',e⟩:=yj (x5:=x5) hx hxr hD q (by omega) inv hN
   rw [e]
   have:=ih (i+1) m' vN' N' (by omega) (by omega) inv' hN'
   simpa using this
  ·exact stop i m vN N (by omega) (by omega) inv hN
end
end Go.Proofs.YtadofgdidhpnpaaGreatDoor

/-
  TopKept (4): the course. Conditions: none.
-/
namespace Go.Proofs.YtadofgdidhpnpaaGreatDoor
open Go.AM
open Go.Proofs
open Go.Proofs.Tryz (prog)
set_option linter.all false
set_option maxRecDepth 100000
set_option maxHeartbeats 4000000
theorem pU {D:List Int} {N:List Note} (v:ValidS D N):Pre D N :=
 ⟨⟨v.n1,v.n4,v.lo,v.hi,v.N24,fun x hx=>⟨(v.notes x hx).f0,(v.notes x hx).f1,(v.notes x hx).t0,(v.notes x hx).t1⟩⟩,v.notes⟩
theorem B6 {c:List Int} (hl:c.length=4) (h:∀i,0≤nth c i∧nth c i≤3):isC c:=by
 refine⟨hl,fun x hx=>?_⟩
 obtain⟨i,hi,rfl⟩:=List.getElem_of_mem hx
 have e:=mZ hi
 rw [List.getElem?_eq_getElem hi] at e
 have:=h i
 have e2:=Option.some.inj e
 omega
theorem B7 {c:List Int} (h:isC c):c.sum≤12:=by
 obtain⟨hl,h⟩:=h
 match c,hl with
 | [a,b,c,d],_ =>
  have h1:=h a (by simp)
  have h2:=h b (by simp)
  have h3:=h c (by simp)
  have h4:=h d (by simp)
  simp
  omega
structure CrsOk (D:List Int) (N:List Note) (l:List (List Int)):Prop where
 crs:Crs l
 pos:0 < l.length
 cut:∀i,i < l.length→gth l i∈cutsL D N
 inj:∀i j,i < l.length→j < l.length→gth l i=gth l j→i=j
section
variable {D : List Int} {N : List Note}
theorem B8 {c:List Int} (h:Can D N [] c):c∈cutsL D N:=by
 cases h with
 | last h h2=>exact h
 | step hc h2 hh r=>exact hc
theorem Ee (v:ValidS D N) (hD:D.length=4) (h3:∀i,nth D i≤3) {l:List (List Int)} (w:Way D N [] (List.replicate D.length 0) l):CrsOk D N l:=by
 have P:=pU v
 have cut:∀i,i < l.length→gth l i∈cutsL D N:=fun i hi=>B8 (w.all i hi)
 have one:∀i,i < l.length→isC (gth l i):=fun i hi=>by
  obtain⟨h1,_⟩:=(da P.L).1 (cut i hi)
  exact B6 (h1.len.trans hD) fun j=>⟨h1.lo j,Int.le_trans (h1.hi j) (h3 j)⟩
 have sum:∀i,i < l.length→(gth l i).sum=i:=by
  intro i
  induction i with
  | zero=>intro _;rw [w.first,hD];rfl
  | succ i ih =>
   intro hi
   obtain⟨h,hh,e⟩:=w.step i hi
   rw [e,jV (by rw [(one i (by omega)).1];omega),ih (by omega)]
   rfl
 have inj:∀i j,i < l.length→j < l.length→gth l i=gth l j→i=j:=fun i j hi hj e=>by
  have h1:=sum i hi
  have h2:=sum j hj
  rw [e,h2] at h1
  omega
 refine⟨⟨one,fun i hi e=>by have:=inj _ _ (by omega) hi e;omega,?_⟩,w.pos,cut,inj⟩
 have hp:=w.pos
 have h1:=sum (l.length - 1) (by omega)
 have h2:=B7 (one (l.length - 1) (by omega))
 omega
theorem rP {vD vN:AV} (v:ValidS D N) (hD:D.length=4) (h3:∀i,nth D i≤3) (hN:N.length≤8) (hs:IsTale (.agg [vD,vN]) D N) :
  ∃ex l,CrsOk D N l∧∀m,denC prog ann 5 [.agg [vD,vN],.nils] m=some (.tup [.fsl ex l.length (flatC rowC l),.int .i64 0],m):=by
 obtain⟨x,e,h,hm⟩:=yi (vL:=.nils) (cs:=[]) (L:=[]) hs (by omega) (by omega) ⟨rfl,fun i hi=>by simp at hi,rfl,.inl ⟨rfl,rfl⟩⟩ (by simp) fun i hi=>by simp at hi
 have P:=pU v
 have can:=Ak (S:=[]) P v.all fun c _ h=>by simp at h
 cases h with
 | bad h=>exact(h v).elim
 | long v h=>simp at h
 | form v h h2=>simp at h2
 | none v h h2 e=>exact(e can).elim
 | @ok ex l v h h2 e p=>exact⟨ex,l,Ee v hD h3 (p.way can),hm⟩
end
end Go.Proofs.YtadofgdidhpnpaaGreatDoor

/-
  TopKept (5): the chest is opened, the disk armed. Conditions: none.
-/
namespace Go.Proofs.YtadofgdidhpnpaaGreatDoor
open Go.AM
open Go.Proofs
open Go.Proofs.Tryz (prog)
set_option linter.all false
set_option maxRecDepth 100000
set_option maxHeartbeats 4000000
noncomputable def restB:List Item:=[.code aj.r37,.code aj.r38,.code aj.r39,.code aj.i10,.code aj.r41,.code aj.r42,.code aj.i11,.code aj.r44,.code aj.r45,.code aj.i12,.code aj.r65,.code .ret]
theorem ChSt.fr {m m':Mem} {ch dk S S' tn op num top:Nat} {pk pv nk nv:List AV} (c:ChSt m ch dk S tn op num top pk pv nk nv) (f:Fr m m' dk S) (hS:S'=S∨m.nx≤S'):ChSt m' ch dk S' tn op num top pk pv nk nv:=by
 obtain⟨E,Pg,Nw,g1,g2,vw,h1,h2,h3,h4,h5,b1,b2,b3,b4,b5,b6,b7,b8,b9⟩:=c.st
 have cx:=c.cx
 have cd:=c.cd
 have cS:=c.cS
 have fx:=f.1
 have ne:∀ {x:Nat},x < m.nx→x≠S→x≠S':=fun hx h=>by rcases hS with rfl | h2<;>omega
 refine⟨⟨E,Pg,Nw,g1,g2,vw,(f.2 ch cx cd cS).trans h1,(f.2 Pg b1 b3 b4).trans h2,(f.2 Nw b2 b5 b6).trans h3,?_,h5,by omega,by omega,b3,ne b1 b4,b5,ne b2 b6,b7,b8,b9⟩,by omega,cd,ne cx cS⟩
 rcases h4 with h | ⟨Vw,g,e1,e2,e3,e4,e5,e6⟩
 ·exact .inl h
 ·exact .inr ⟨Vw,g,e1,(f.2 Vw e3 e4 e5).trans e2,by omega,e4,ne e3 e5,e6⟩
theorem Hj {a:Nat} (h:a < 256):∃A:Nat,A < 40∧(IntKind.wrap .i64 (a:Int)).tmod 40=(A:Int):=⟨a % 40,by omega,by
 rw [bc (by omega) (by omega),Int.tmod_eq_emod_of_nonneg (by omega)];omega⟩
theorem xX {D:List Int} {N:List Note} {vN:AV} {m:Mem} {t:List (Nat×AV)} {x y z:Nat} (hx:x < 256) (h5:AM.get t 5=.fptr [.int .u8 x,.int .u8 y,.int .u8 z]) (h7:AM.get t 7=.ptr 0 0 2) (inv:TInv m D vN N) (hN:N.length≤8) (hD:D.length=4) (h3:∀i,nth D i≤3) :
  ∃ex l m' dk S ch lf,CrsOk D N l∧lf < 40∧DSt m' dk S false lf 0 1 (updP (fun _=>zp) 0 (padB (rootW 1 0))) [] []∧ChSt m' ch dk S 0 1 1 0 [] [] [] [] ∧
   den prog ann 3 restA ⟨t,309,m⟩=aj.L4 (.fptr [.int .u8 x,.int .u8 y,.int .u8 z]) (.fptr [.fsl false 4 (ints D),vN]) (.fsl ex l.length (flatC rowC l)) (.ptr dk 0 65542) (.ptr ch 0 12) (.int .i64 (-1)) (.int .i64 (-1)) (.int .i64 0) m' restB:=by
 obtain⟨lf,hlf,elf⟩:=Hj hx
 have hfl:IsInts (.fsl false 4 (ints D)) D:=by rw [← hD];exact IsInts.fsl false D
 obtain⟨ex,l,hl,ecrs⟩:=rP inv.val hD h3 hN ⟨_,_,rfl,hfl,inv.v⟩
 obtain⟨m1,e1,k1,d1⟩:=pW ⟨upd m.h 0 none,m.nx⟩
 obtain⟨m2,ch,S2,e2,d2,c2⟩:=Aj d1
 obtain⟨m3,e3,f3,d3⟩:=Ed d2 lf
 refine⟨ex,l,m3,_,_,ch,lf,hl,hlf,d3,c2.fr f3 (.inl rfl),?run⟩
 case run =>
  have h0:=inv.h
  have vc:=inv.v.closed
  have vo:=inv.v.one
  have vcl:=inv.v.cells
  have hp:=hl.pos
  have q:binA prog .eql 38 (.ptr ch 0 12) .nilp=some (.bool false):=by kernel_rfl
  have z':l≠[]:=fun e=>by rw [e] at hp;simp at hp
  obtain⟨M0,hM0⟩:∃M0:Mem,(⟨upd m.h 0 none,m.nx⟩:Mem)=M0:=⟨_,rfl⟩
  rw [hM0] at e1 e2 e3 ⊢
  simp [restA,h5,h7,h0,vc,vo,vcl,ecrs,-aj.eX]
  rw [hM0]
  simp [e1,e2,q,z',elf,e3,-aj.kS]
  rfl
end Go.Proofs.YtadofgdidhpnpaaGreatDoor

/-
  TopKept (6): four entries are put. Conditions: none.
-/
namespace Go.Proofs.YtadofgdidhpnpaaGreatDoor
open Go.AM
open Go.Proofs
open Go.Proofs.Tryz (prog)
set_option linter.all false
set_option maxRecDepth 100000
set_option maxHeartbeats 4000000
def keyH (h:Nat):List UInt8:=[104,97,110,100,UInt8.ofNat (48+h)]
def valH (e:Nat):List UInt8:=[UInt8.ofNat (48+e)]
theorem Ah {h:Nat} (hh:h < 4):sliceStr (.str [48,49,50,51]) (some (.int .i64 (h:Int))) (some (.int .i64 ((h:Int)+1)))=some (.str [UInt8.ofNat (48+h)]):=by
 have:h=0∨h=1∨h=2∨h=3:=by omega
 rcases this with rfl | rfl | rfl | rfl<;>rfl
theorem B5 {h:Nat} (hh:h < 4):sliceStr (.str [48,49,50,51,52,53,54]) (some (.int .i64 (h:Int))) (some (.int .i64 ((h:Int)+1)))=some (.str (valH h)):=by
 have:h=0∨h=1∨h=2∨h=3:=by omega
 rcases this with rfl | rfl | rfl | rfl<;>rfl
theorem pV {l:List (List Int)} {i:Nat} (ex:Bool) (hi:i < l.length):idxSl 1 (.fsl ex l.length (flatC rowC l)) (.int .i64 (i:Int))=some (.fptr (.fsl false (gth l i).length (ints (gth l i))::flatC rowC (l.drop (i+1)))):=by
 have hs:IsSl rowC (.fsl ex l.length (flatC rowC l)) l:=.inr ⟨ex,rfl⟩
 rw [hs.idx (k:=1) (fun _ _=>rfl) hi,m5 hi,cC];rfl
section
variable {l : List (List Int)} {ex : Bool} {x5 x7 : AV} {dk ch S lf tn op num top i : Nat} {dn mb : Int} {pk pv : List AV} {p : Nat → List UInt8} {K V : List (List UInt8)} {m : Mem}
theorem jU (hl:Crs l) (hi:i < l.length) {h e:Nat} (hh:h < 4) (he:e < 4) (hce:nth (gth l i) h=e) (c:ChSt m ch dk S tn op num top pk pv (K.map .str) (V.map .str)) (d:DSt m dk S false lf tn op p [] []) (hKV:K.length=V.length) (hK:K.length < 200) (Kc:List Item) :
  ∃m',ChSt m' ch dk S tn op num top pk pv ((putL (keyH h) (valH e) K V).1.map .str) ((putL (keyH h) (valH e) K V).2.map .str)∧DSt m' dk S false lf tn op p [] [] ∧
   aj.L6 x5 x7 (.fsl ex l.length (flatC rowC l)) (.ptr dk 0 65542) (.ptr ch 0 12) (.int .i64 dn) (.int .i64 i) (.int .i64 h) m Kc=aj.L6 x5 x7 (.fsl ex l.length (flatC rowC l)) (.ptr dk 0 65542) (.ptr ch 0 12) (.int .i64 dn) (.int .i64 i) (.int .i64 ((h:Int)+1)) m' Kc:=by
 obtain⟨c4,c5⟩:=hl.one i hi
 have hr:=pV ex hi
 generalize gth l i=q at *
 have hq:IsInts (.fsl false q.length (ints q)) q:=IsInts.fsl false q
 have hqi:idxSl 1 (.fsl false q.length (ints q)) (.int .i64 (h:Int))=some (.fptr (.int .i64 (e:Int)::ints (q.drop (h+1)))):=by
  rw [hq.idx (i:=h) (by omega) .i64]
  obtain⟨q1,q2⟩:=List.getElem?_eq_some_iff.1 (mZ (l:=q) (i:=h) (by omega))
  rw [List.drop_eq_getElem_cons q1,q2,hce];rfl
 have hh':(h:Int) < 4:=by omega
 have wh:IntKind.wrap .i64 ((h:Int)+1)=(h:Int)+1:=bc (by omega) (by omega)
 have we:IntKind.wrap .i64 ((e:Int)+1)=(e:Int)+1:=bc (by omega) (by omega)
 have te:((e:Int)).tmod 7=(e:Int):=by rw [Int.tmod_eq_emod_of_nonneg (by omega)];omega
 have k0:Keep m ⟨m.h,m.nx+26⟩:=⟨Nat.le_add_right _ _,fun _ _=>rfl⟩
 obtain⟨m',e1,d',c'⟩:=Ai (c.fr (k0.fr dk S) (.inl rfl)) (d.keep k0) hKV hK (keyH h) (valH e) (by simp [keyH]) (by simp [keyH]) (by simp [valH])
 refine⟨m',c',d',?run⟩
 case run =>
  have s1:=Ah hh
  have s2:=B5 he
  clear c' d' c d k0
  rw [keyH] at e1
  obtain⟨kb,hkb⟩:∃kb,UInt8.ofNat (48+h)=kb:=⟨_,rfl⟩
  obtain⟨vb,hvb⟩:∃vb,valH e=vb:=⟨_,rfl⟩
  rw [hkb] at s1 e1
  rw [hvb] at s2 e1
  rw [aj.jS]
  simp [hh',wh,we,te,s1,s2,hr,hqi,e1]
end
end Go.Proofs.YtadofgdidhpnpaaGreatDoor

/-
  TopKept (7): one cut is committed. Conditions: none.
-/
namespace Go.Proofs.YtadofgdidhpnpaaGreatDoor
open Go.AM
open Go.Proofs
open Go.Proofs.Tryz (prog)
set_option linter.all false
set_option maxRecDepth 100000
set_option maxHeartbeats 4000000
theorem Af (e0 e1 e2 e3:Nat):(fun a:List (List UInt8)×List (List UInt8)=>(fun b:List (List UInt8)×List (List UInt8)=>(fun c:List (List UInt8)×List (List UInt8)=>putL (keyH 3) (valH e3) c.1 c.2) (putL (keyH 2) (valH e2) b.1 b.2)) (putL (keyH 1) (valH e1) a.1 a.2)) (putL (keyH 0) (valH e0) [] [])=(K0,[valH e0,valH e1,valH e2,valH e3]):=by
 have h:∀v0 v1 v2 v3:List UInt8,(fun a:List (List UInt8)×List (List UInt8)=>(fun b:List (List UInt8)×List (List UInt8)=>(fun c:List (List UInt8)×List (List UInt8)=>putL (keyH 3) v3 c.1 c.2) (putL (keyH 2) v2 b.1 b.2)) (putL (keyH 1) v1 a.1 a.2)) (putL (keyH 0) v0 [] [])=(K0,[v0,v1,v2,v3]):=fun v0 v1 v2 v3=>by
  simp only [putL,keyH]
  rfl
 exact h _ _ _ _
theorem Ag (e0 e1 e2 e3:Nat) {V:List (List UInt8)} (hV:V.length=4):(fun a:List (List UInt8)×List (List UInt8)=>(fun b:List (List UInt8)×List (List UInt8)=>(fun c:List (List UInt8)×List (List UInt8)=>putL (keyH 3) (valH e3) c.1 c.2) (putL (keyH 2) (valH e2) b.1 b.2)) (putL (keyH 1) (valH e1) a.1 a.2)) (putL (keyH 0) (valH e0) K0 V)=(K0,[valH e0,valH e1,valH e2,valH e3]):=by
 match V,hV with
 | [w0,w1,w2,w3],_ =>
  have h:∀v0 v1 v2 v3:List UInt8,(fun a:List (List UInt8)×List (List UInt8)=>(fun b:List (List UInt8)×List (List UInt8)=>(fun c:List (List UInt8)×List (List UInt8)=>putL (keyH 3) v3 c.1 c.2) (putL (keyH 2) v2 b.1 b.2)) (putL (keyH 1) v1 a.1 a.2)) (putL (keyH 0) v0 K0 [w0,w1,w2,w3])=(K0,[v0,v1,v2,v3]):=fun v0 v1 v2 v3=>by
   simp only [putL,keyH,K0]
   rfl
  exact h _ _ _ _
theorem jT (k v:List UInt8):∀(K V:List (List UInt8)),K.length=V.length→(putL k v K V).1.length=(putL k v K V).2.length∧(putL k v K V).1.length≤K.length+1
 | [],[],_=>⟨rfl,by simp [putL]⟩
 | [],_::_,h=>by simp at h
 | _::_,[],h=>by simp at h
 | a::K,b::V,h=>by
  have:=jT k v K V (by simpa using h)
  rw [putL]
  split
  ·simp at h ⊢;omega
  ·simp;omega
theorem oR {c:List Int} {e0 e1 e2 e3:Nat} (h:c.length=4) (h0:nth c 0=e0) (h1:nth c 1=e1) (h2:nth c 2=e2) (h3:nth c 3=e3):valC c=[valH e0,valH e1,valH e2,valH e3]:=by
 match c,h with
 | [a,b,c,d],_ =>
  have a0:a=e0:=h0
  have a1:b=e1:=h1
  have a2:c=e2:=h2
  have a3:d=e3:=h3
  subst a0 a1 a2 a3
  rfl
theorem fK {c:List Int} (h:isC c) {i:Nat} (hi:i < 4):∃e:Nat,e < 4∧nth c i=e:=by
 have:=h.2 _ (List.mem_of_getElem? (mZ (l:=c) (i:=i) (by rw [h.1];exact hi)))
 exact⟨(nth c i).toNat,by omega,by omega⟩
section
variable {l : List (List Int)} {ex : Bool} {x5 x7 : AV} {dk ch S lf tn op num top i : Nat} {dn mb : Int} {pk pv : List AV} {p : Nat → List UInt8} {K V : List (List UInt8)} {m : Mem}
theorem Ae (hl:Crs l) (hi:i < l.length) (c:ChSt m ch dk S tn op num top pk pv (K.map .str) (V.map .str)) (d:DSt m dk S false lf tn op p [] []) (hKV:(K=[]∧V=[])∨(K=K0∧V.length=4)) (Kc:List Item) :
  ∃m',ChSt m' ch dk S tn op num top pk pv (K0.map .str) ((valC (gth l i)).map .str)∧DSt m' dk S false lf tn op p [] [] ∧
   aj.L6 x5 x7 (.fsl ex l.length (flatC rowC l)) (.ptr dk 0 65542) (.ptr ch 0 12) (.int .i64 dn) (.int .i64 i) (.int .i64 0) m Kc=aj.L6 x5 x7 (.fsl ex l.length (flatC rowC l)) (.ptr dk 0 65542) (.ptr ch 0 12) (.int .i64 dn) (.int .i64 i) (.int .i64 4) m' Kc:=by
 have ic:=hl.one i hi
 obtain⟨e0,he0,h0⟩:=fK ic (i:=0) (by omega)
 obtain⟨e1,he1,h1⟩:=fK ic (i:=1) (by omega)
 obtain⟨e2,he2,h2⟩:=fK ic (i:=2) (by omega)
 obtain⟨e3,he3,h3⟩:=fK ic (i:=3) (by omega)
 have kl:K.length=V.length∧K.length≤4:=by
  rcases hKV with ⟨rfl,rfl⟩ | ⟨rfl,h⟩
  ·exact⟨rfl,by simp⟩
  ·rw [h];exact⟨rfl,by simp [K0]⟩
 obtain⟨m1,c1,d1,r1⟩:=jU (ex:=ex) (x5:=x5) (x7:=x7) (dn:=dn) hl hi (h:=0) (by omega) he0 h0 c d kl.1 (by omega) Kc
 have p1:=jT (keyH 0) (valH e0) K V kl.1
 obtain⟨m2,c2,d2,r2⟩:=jU (ex:=ex) (x5:=x5) (x7:=x7) (dn:=dn) hl hi (h:=1) (by omega) he1 h1 c1 d1 p1.1 (by omega) Kc
 have p2:=jT (keyH 1) (valH e1) _ _ p1.1
 obtain⟨m3,c3,d3,r3⟩:=jU (ex:=ex) (x5:=x5) (x7:=x7) (dn:=dn) hl hi (h:=2) (by omega) he2 h2 c2 d2 p2.1 (by omega) Kc
 have p3:=jT (keyH 2) (valH e2) _ _ p2.1
 obtain⟨m4,c4,d4,r4⟩:=jU (ex:=ex) (x5:=x5) (x7:=x7) (dn:=dn) hl hi (h:=3) (by omega) he3 h3 c3 d3 p3.1 (by omega) Kc
 have hv:=oR ic.1 h0 h1 h2 h3
 have fin:((putL (keyH 3) (valH e3) (putL (keyH 2) (valH e2) (putL (keyH 1) (valH e1) (putL (keyH 0) (valH e0) K V).1 (putL (keyH 0) (valH e0) K V).2).1 (putL (keyH 1) (valH e1) (putL (keyH 0) (valH e0) K V).1 (putL (keyH 0) (valH e0) K V).2).2).1
   (putL (keyH 2) (valH e2) (putL (keyH 1) (valH e1) (putL (keyH 0) (valH e0) K V).1 (putL (keyH 0) (valH e0) K V).2).1 (putL (keyH 1) (valH e1) (putL (keyH 0) (valH e0) K V).1 (putL (keyH 0) (valH e0) K V).2).2).2))=(K0,valC (gth l i)):=by
  rw [hv]
  rcases hKV with ⟨rfl,rfl⟩ | ⟨rfl,h⟩
  ·exact Af e0 e1 e2 e3
  ·exact Ag e0 e1 e2 e3 h
 rw [fin] at c4
 refine⟨m4,c4,d4,?_⟩
 have r1':=r1
 simp only [Int.natCast_zero,Int.ofNat_zero,Int.cast_ofNat_Int,Int.natCast_one,Int.ofNat_one,Int.zero_add] at r1 r2 r3 r4
 refine r1.trans (r2.trans (r3.trans r4))
end
end Go.Proofs.YtadofgdidhpnpaaGreatDoor

/-
  TopKept (8): the course is committed, until the power is cut. Conditions: none.
-/
namespace Go.Proofs.YtadofgdidhpnpaaGreatDoor
open Go.AM
open Go.Proofs
open Go.Proofs.Tryz (prog)
set_option linter.all false
set_option maxRecDepth 100000
set_option maxHeartbeats 4000000
def pkN (n:Nat):List AV:=if n=0 then [] else [.int .i64 (tt n)]
def pvN (l:List (List Int)) (n:Nat):List AV:=if n=0 then [] else [.agg (u8L (leafP (gth l (n - 1))))]
structure Good (m:Mem) (l:List (List Int)) (dk S ch lf n:Nat) (p:Nat→List UInt8):Prop where
 c:ChSt m ch dk S 0 1 (n+1) (tt n) (pkN n) (pvN l n) ((keyN n).map .str) ((vlN l n).map .str)
 d:DSt m dk S false lf 0 1 p [] []
 p:Pg p l n
 lf:lf < 40
structure Cutd (m:Mem) (l:List (List Int)) (dk S:Nat) (a b:Int):Prop where
 ex:∃dn lf p ks vs,DSt m dk S dn lf 0 1 p ks vs ∧
  ((ks=[]∧vs=[]∧∃n,n≤l.length∧Reads p l n∧((n:Int) - 1=a∨(n:Int) - 1=b)) ∨
   ∃k old,ks=[.int .i64 (k:Nat)]∧vs=[.agg (u8L old)]∧k < 256∧old.length=256∧∀c,∃n,n≤l.length∧Reads (updP p k ((p k).take c++old.drop c)) l n∧((n:Int) - 1=a∨(n:Int) - 1=b))
theorem ud (p:Nat→List UInt8) (k:Nat) (a b:List UInt8):updP (updP p k a) k b=updP p k b:=by
 funext i
 by_cases h:i=k
 ·subst h;rw [dE,dE]
 ·rw [cX _ _ h,cX _ _ h,cX _ _ h]
section
variable {l : List (List Int)} {ex : Bool} {x5 x7 : AV} {dk ch S lf n : Nat} {p : Nat → List UInt8} {m : Mem}
theorem B4 (hl:Crs l) (hn:n < l.length):Free (pkN n) (pvN l n) (padB (leafB K0 (valC (gth l n)))) (tt (n+1)):=by
 by_cases h:n=0
 ·subst h;exact .inl ⟨rfl,rfl,rfl⟩
 ·obtain⟨k,rfl⟩:∃k,n=k+1:=⟨n - 1,by omega⟩
  obtain⟨a1,a2⟩:=hl.one k (by omega)
  obtain⟨b1,b2⟩:=hl.one (k+1) hn
  refine .inr ⟨tt (k+1),leafP (gth l k),by rw [pkN,if_neg h],by rw [pvN,if_neg h];rfl,dK _,Ad a1 a2 b1 b2 (hl.ne k hn),?_⟩
  unfold tt
  repeat' split
  all_goals omega
theorem yh (n:Nat):(closedL (pkN n)&&closedL (pvN l n))=true:=by
 unfold pkN pvN
 split
 ·rfl
 ·have:=bZ (leafP (gth l (n - 1)))
  simp [this]
theorem yg (hl:Crs l) (hn:n < l.length) (g:Good m l dk S ch lf n p) (x18:AV) (Kc:List Item) :
  (∃m' S' lf' p',Good m' l dk S' ch lf' (n+1) p'∧aj.L4 x5 x7 (.fsl ex l.length (flatC rowC l)) (.ptr dk 0 65542) (.ptr ch 0 12) (.int .i64 ((n:Int) - 1)) x18 (.int .i64 n) m Kc =
   aj.L4 x5 x7 (.fsl ex l.length (flatC rowC l)) (.ptr dk 0 65542) (.ptr ch 0 12) (.int .i64 n) (.int .i64 n) (.int .i64 ((n:Int)+1)) m' Kc) ∨
  (∃m' S',Cutd m' l dk S' ((n:Int) - 1) n∧aj.L4 x5 x7 (.fsl ex l.length (flatC rowC l)) (.ptr dk 0 65542) (.ptr ch 0 12) (.int .i64 ((n:Int) - 1)) x18 (.int .i64 n) m Kc =
   aj.L4 x5 x7 (.fsl ex l.length (flatC rowC l)) (.ptr dk 0 65542) (.ptr ch 0 12) (.int .i64 ((n:Int) - 1)) (.int .i64 n) (.int .i64 ((n:Int)+1)) m' Kc):=by
 have ll:=hl.len
 have hlf:=g.lf
 have kv:(keyN n=[]∧vlN l n=[])∨(keyN n=K0∧(vlN l n).length=4):=by
  unfold keyN vlN
  by_cases h:n=0
  ·rw [if_pos h,if_pos h];exact .inl ⟨rfl,rfl⟩
  ·rw [if_neg h,if_neg h];exact .inr ⟨rfl,by rw [valC,List.length_map];exact(hl.one _ (by omega)).1⟩
 obtain⟨m1,c1,d1,r1⟩:=Ae (ex:=ex) (x5:=x5) (x7:=x7) (dn:=(n:Int) - 1) hl hn g.c g.d kv (.code aj.r31::.code aj.k8::.inBlock 5::.code aj.r23::.inLoop aj.l4::.inBlock 4::Kc)
 obtain⟨m2,S2,dn2,p2,ks2,vs2,e2,d2,o1,o2,o3⟩:=rO (k:=tt (n+1)) (r:=(n+1) % 2) c1 d1 (yh n) (by simp [K0]) (by simp [K0]) (by decide) (by intro k hk;simp [K0] at hk;rcases hk with rfl | rfl | rfl | rfl<;>decide)
  (by intro v hv;simp only [valC,List.mem_map] at hv;obtain⟨x,_,rfl⟩:=hv;simp) (B4 hl hn) (by omega) (by omega) (by omega)
 have cn:((n:Int)) < l.length:=by omega
 have wn:IntKind.wrap .i64 (n:Int)=(n:Int):=bc (by omega) (by omega)
 have wn':IntKind.wrap .i64 ((n:Int)+1)=(n:Int)+1:=bc (by omega) (by omega)
 have hr:=pV ex hn
 have c4:=(hl.one n hn).1
 have hp:=g.d.hp
 have ht:=kR (n:=n+1) (by omega)
 by_cases hb:lf=1∨lf=2∨lf=3∨lf=4
 ·refine .inr ⟨m2,S2,⟨dn2,lf - 4,p2,ks2,vs2,d2,.inr ?_⟩,?_⟩
  ·by_cases hb2:lf=1∨lf=2
   ·obtain⟨rfl,rfl,rfl⟩:=o1 hb2
    refine⟨_,_,rfl,rfl,by omega,hp _,fun c=>⟨n,by omega,?_,.inl rfl⟩⟩
    exact((g.p.wD _).wD _).reads hl (by omega)
   ·obtain⟨rfl,rfl,rfl⟩:=o2 (by omega)
    refine⟨_,_,rfl,rfl,by omega,hp _,fun c=>?_⟩
    rw [ud,dE]
    rcases g.p.Hi hl hn c (b:=(rtp (n+1)).take c++(p ((n+1) % 2)).drop c) rfl with h | h
    ·exact⟨n,by omega,h,.inl rfl⟩
    ·exact⟨n+1,by omega,h,.inr (by omega)⟩
  ·rw [if_pos hb] at e2
   rw [aj.ir]
   simp [cn,wn,hr,c4,-aj.mY]
   rw [r1,aj.jS]
   simp [e2,wn']
 ·obtain⟨rfl,rfl,rfl,rfl,c2⟩:=o3 hb
  refine .inl ⟨m2,S2,lf - 4,_,⟨?_,d2,g.p.step,by omega⟩,?_⟩
  ·have a1:pkN (n+1)=[.int .i64 (tt (n+1):Nat)]:=rfl
   have a2:pvN l (n+1)=[.agg (u8L (padB (leafB K0 (valC (gth l n)))))]:=rfl
   have a3:keyN (n+1)=K0:=rfl
   have a4:vlN l (n+1)=valC (gth l n):=rfl
   rw [a1,a2,a3,a4]
   exact c2
  ·rw [if_neg hb] at e2
   rw [aj.ir]
   simp [cn,wn,hr,c4,-aj.mY]
   rw [r1,aj.jS]
   simp [e2,wn']
end
end Go.Proofs.YtadofgdidhpnpaaGreatDoor

/-
  TopKept (9): the whole course. Conditions: none.
-/
namespace Go.Proofs.YtadofgdidhpnpaaGreatDoor
open Go.AM
open Go.Proofs
open Go.Proofs.Tryz (prog)
set_option linter.all false
set_option maxRecDepth 100000
set_option maxHeartbeats 4000000
section
variable {l : List (List Int)} {ex : Bool} {x5 x7 : AV} {dk ch : Nat}
theorem Good.IG {m:Mem} {S lf n:Nat} {p:Nat→List UInt8} (hl:Crs l) (hn:n≤l.length) (g:Good m l dk S ch lf n p):Cutd m l dk S ((n:Int) - 1) ((n:Int) - 1) :=
 ⟨false,lf,p,[],[],g.d,.inl ⟨rfl,rfl,n,hn,g.p.reads hl hn,.inl rfl⟩⟩
theorem ua (hl:Crs l) {R:Option Res} (hR:∀t m' S' (a b:Int),AM.get t 5=x5→AM.get t 7=x7→AM.get t 12=.fsl ex l.length (flatC rowC l)→AM.get t 14=.ptr dk 0 65542→AM.get t 17=.int .i64 a→AM.get t 18=.int .i64 b→Cutd m' l dk S' a b→den prog ann 3 restB ⟨t,309,m'⟩=R) :
  ∀(k n:Nat) (m:Mem) (S lf:Nat) (p:Nat→List UInt8),n+k=l.length→Good m l dk S ch lf n p →
   aj.L4 x5 x7 (.fsl ex l.length (flatC rowC l)) (.ptr dk 0 65542) (.ptr ch 0 12) (.int .i64 ((n:Int) - 1)) (.int .i64 ((n:Int) - 1)) (.int .i64 n) m restB=R:=by
 have ll:=hl.len
 intro k
 induction k with
 | zero =>
  intro n m S lf p h g
  have e:¬(n:Int) < l.length:=by omega
  have cu:=g.IG hl (by omega)
  have cu':Cutd ⟨m.h,m.nx⟩ l dk S ((n:Int) - 1) ((n:Int) - 1):=cu
  rw [aj.ir]
  simp [e]
  exact hR _ _ S _ _ (by simp) (by simp) (by simp) (by simp) (by simp) (by simp) cu'
 | succ k ih =>
  intro n m S lf p h g
  rcases yg (ex:=ex) (x5:=x5) (x7:=x7) hl (by omega) g (.int .i64 ((n:Int) - 1)) restB with ⟨m',S',lf',p',g',e⟩ | ⟨m',S',cu,e⟩
  ·rw [e]
   have:=ih (n+1) m' S' lf' p' (by omega) g'
   have z:((n+1:Nat):Int) - 1=n:=by omega
   rw [z] at this
   simpa using this
  ·rw [e,aj.ir]
   have cu':Cutd ⟨m'.h,m'.nx⟩ l dk S' ((n:Int) - 1) n:=cu
   have wn:IntKind.wrap .i64 (n:Int)=(n:Int):=bc (by omega) (by omega)
   by_cases q:(n:Int)+1 < l.length
   ·have q2:¬((n:Int)+1=n):=by omega
    simp [q,wn,q2]
    exact hR _ _ S' _ _ (by simp) (by simp) (by simp) (by simp) (by simp) (by simp) cu'
   ·simp [q]
    exact hR _ _ S' _ _ (by simp) (by simp) (by simp) (by simp) (by simp) (by simp) cu'
end
end Go.Proofs.YtadofgdidhpnpaaGreatDoor

/-
  TopKept (10): what was read is a cut. Conditions: none.
-/
namespace Go.Proofs.YtadofgdidhpnpaaGreatDoor
open Go.AM
open Go.Proofs
open Go.Proofs.Tryz (prog)
set_option linter.all false
set_option maxRecDepth 100000
set_option maxHeartbeats 4000000
noncomputable def restD:List Item:=[.code aj.r53,.code aj.i15,.code aj.r55,.code aj.r56,.code aj.i16,.code aj.r58,.code aj.k11,.code aj.r63,.code aj.i19,.code aj.r65,.code .ret]
section
variable {x7 x12 x17 x18 x26 : AV} {o : Nat} {m : Mem}
theorem Aa {b0 b1 b2 b3:UInt8} {e0 e1 e2 e3:Nat} (h0:b0.toNat=48+e0) (h1:b1.toNat=48+e1) (h2:b2.toNat=48+e2) (h3:b3.toNat=48+e3) (q0:e0 < 4) (q1:e1 < 4) (q2:e2 < 4) (q3:e3 < 4)
  (ho:m.h o=some (.cells [.str [104,97,110,100,48],.str [b0],.str [104,97,110,100,49],.str [b1],.str [104,97,110,100,50],.str [b2],.str [104,97,110,100,51],.str [b3]])) (hox:o < m.nx) {id:Nat} (hi:m.h id=some (.cells [])) (hid:id < m.nx) (hoi:o≠id) :
  ∃m',m'.h id=some (.cells (ints [e0,e1,e2,e3]))∧∀R,(∀t,AM.get t 7=x7→AM.get t 12=x12→AM.get t 17=x17→AM.get t 18=x18→AM.get t 26=x26→AM.get t 27=.sl id 1 0 4 4→den prog ann 3 restD ⟨t,309,m'⟩=R) →
   aj.L9 x7 x12 x17 x18 (.sl o 2 0 4 8) x26 (.sl id 1 0 0 0) (.int .i64 0) m restD=R:=by
 have k0:sliceStr (.str [48,49,50,51]) (some (.int .i64 0)) (some (.int .i64 1))=some (.str [48]):=rfl
 have k1:sliceStr (.str [48,49,50,51]) (some (.int .i64 1)) (some (.int .i64 2))=some (.str [49]):=rfl
 have k2:sliceStr (.str [48,49,50,51]) (some (.int .i64 2)) (some (.int .i64 3))=some (.str [50]):=rfl
 have k3:sliceStr (.str [48,49,50,51]) (some (.int .i64 3)) (some (.int .i64 4))=some (.str [51]):=rfl
 have u:∀ {b:UInt8} {e:Nat},b.toNat=48+e→e < 4→IntKind.wrap .u8 ((b.toNat:Int) - 48)=(e:Int):=fun {b e} h q=>by
  rw [h];simp [IntKind.wrap,IntKind.signed,IntKind.bits];omega
 have u0:=u h0 q0
 have u1:=u h1 q1
 have u2:=u h2 q2
 have u3:=u h3 q3
 have v:∀ {e:Nat},e < 4→IntKind.wrap .i64 (e:Int)=(e:Int):=fun q=>bc (by omega) (by omega)
 have v0:=v q0
 have v1:=v q1
 have v2:=v q2
 have v3:=v q3
 have z1:(id==o)=false:=by rw [beq_eq_false_iff_ne];exact fun e=>hoi e.symm
 have z2:(o==id)=false:=by rw [beq_eq_false_iff_ne];exact hoi
 refine⟨⟨upd m.h id (some (.cells (ints [e0,e1,e2,e3]))),m.nx+20+20+20+20⟩,by simp,fun R hR=>?run⟩
 case run =>
  rw [aj.rN]
  simp [ho,hi,k0,u0,v0,z1,z2]
  rw [aj.rN]
  simp [ho,hi,k1,u1,v1,z1,z2]
  rw [aj.rN]
  simp [ho,hi,k2,u2,v2,z1,z2]
  rw [aj.rN]
  simp [ho,hi,k3,u3,v3,z1,z2]
  rw [aj.rN]
  simp
  exact hR _ (by simp) (by simp) (by simp) (by simp) (by simp) (by simp)
end
end Go.Proofs.YtadofgdidhpnpaaGreatDoor

/-
  TopKept (11): the cut is one of the course. Conditions: none.
-/
namespace Go.Proofs.YtadofgdidhpnpaaGreatDoor
open Go.AM
open Go.Proofs
open Go.Proofs.Tryz (prog)
set_option linter.all false
set_option maxRecDepth 100000
set_option maxHeartbeats 4000000
noncomputable def restE:List Item:=[.code aj.r63,.code aj.i19,.code aj.r65,.code .ret]
section
variable {D : List Int} {N : List Note} {l : List (List Int)} {ex : Bool} {x17 x18 : AV} {id j : Nat}
theorem fq (hl:CrsOk D N l) (hj:j < l.length) {R:Option Res} (hR:∀t m',AM.get t 17=x17→AM.get t 18=x18→AM.get t 26=.int .i64 j→den prog ann 3 restE ⟨t,309,m'⟩=R) :
  ∀(r k:Nat) (m:Mem),k+r=l.length→m.h id=some (.cells (ints (gth l j))) →
   aj.L11 (.fsl ex l.length (flatC rowC l)) x17 x18 (.int .i64 (if j < k then(j:Int) else -1)) (.sl id 1 0 4 4) (.int .i64 k) m restE=R:=by
 have ll:=hl.crs.len
 have jc:=(hl.crs.one j hj).1
 intro r
 induction r with
 | zero =>
  intro k m h hi
  have e:¬(k:Int) < l.length:=by omega
  rw [if_pos (by omega),aj.Ac]
  simp [e]
  exact hR _ _ (by simp) (by simp) (by simp)
 | succ r ih =>
  intro k m h hi
  have hk:k < l.length:=by omega
  have hk':(k:Int) < l.length:=by omega
  have hr:=pV ex hk
  have kc:=(hl.crs.one k hk).1
  have hd:=fun d=>oS hi jc d
  have wk:IntKind.wrap .i64 ((k:Int)+1)=(k:Int)+1:=bc (by omega) (by omega)
  have i1:IsInts (.fsl false 4 (ints (gth l k))) (gth l k):=by
   have:=IsInts.fsl false (gth l k)
   rwa [kc] at this
  have i2:IsInts (.fsl false 4 (ints (gth l j))) (gth l j):=by
   have:=IsInts.fsl false (gth l j)
   rwa [jc] at this
  have sm:=fun m=>oT i1 i2 (by omega) (by omega) m
  have next:=fun m' hm'=>ih (k+1) m' (by omega) hm'
  rw [kc] at hr
  rw [aj.Ac]
  by_cases q:gth l k=gth l j
  ·have e:=hl.inj k j hk hj q
   subst e
   have next':=next m hi
   rw [if_pos (by omega)] at next'
   simp at next'
   simp [hk',hr,hd,sm,wk,uc,next']
  ·have ne:k≠j:=fun e=>q (by rw [e])
   have e:(if j < k+1 then(j:Int) else -1)=if j < k then(j:Int) else -1:=by
    by_cases h:j < k
    ·rw [if_pos h,if_pos (by omega)]
    ·rw [if_neg h,if_neg (by omega)]
   have next':=next m hi
   rw [e] at next'
   simp at next'
   simp [hk',hr,hd,sm,wk,q,uc,next']
end
end Go.Proofs.YtadofgdidhpnpaaGreatDoor

/-
  TopKept (12): the cut is consistent; the answer. Conditions: none.
-/
namespace Go.Proofs.YtadofgdidhpnpaaGreatDoor
open Go.AM
open Go.Proofs
open Go.Proofs.Tryz (prog)
set_option linter.all false
set_option maxRecDepth 100000
set_option maxHeartbeats 4000000
section
variable {D : List Int} {N : List Note} {l : List (List Int)} {ex : Bool} {id j : Nat} {vD vN : AV} {a b : Int} {m : Mem} {t : List (Nat × AV)}
theorem B3 (hab:(j:Int)=a∨(j:Int)=b) (h17:AM.get t 17=.int .i64 a) (h18:AM.get t 18=.int .i64 b) (h26:AM.get t 26=.int .i64 j):den prog ann 3 restE ⟨t,309,m⟩=some (.bool true,Mem.empty):=by
 have h0:¬(j:Int) < 0:=by omega
 by_cases q:a=(j:Int)
 ·subst q
  simp [restE,h17,h18,h26,h0]
 ·have q1:¬(j:Int)=a:=fun e=>q e.symm
  have q2:b=(j:Int):=by omega
  subst q2
  simp [restE,h17,h18,h26,h0,q1]
theorem ye (hl:CrsOk D N l) (v:ValidS D N) (hD:D.length=4) (hN:N.length≤8) (tale:IsTale (.agg [vD,vN]) D N) (hj:j < l.length) (hi:m.h id=some (.cells (ints (gth l j)))) (hab:(j:Int)=a∨(j:Int)=b)
  (h7:AM.get t 7=.fptr [vD,vN]) (h12:AM.get t 12=.fsl ex l.length (flatC rowC l)) (h17:AM.get t 17=.int .i64 a) (h18:AM.get t 18=.int .i64 b) (h26:AM.get t 26=.int .i64 (-1)) (h27:AM.get t 27=.sl id 1 0 4 4):den prog ann 3 restD ⟨t,309,m⟩=some (.bool true,Mem.empty):=by
 obtain⟨c1,c2⟩:=(da (pU v).L).1 (hl.cut j hj)
 have jc:=(hl.crs.one j hj).1
 have i2:IsInts (.fsl false 4 (ints (gth l j))) (gth l j):=by
  have:=IsInts.fsl false (gth l j)
  rwa [jc] at this
 have cb:=iq.2 c1
 have e1:=fun m=>yf tale i2 (by omega) m
 obtain⟨b',e',hr,e2⟩:=kQ tale (by omega) (by omega) i2 (by omega)
 obtain⟨rfl,rfl⟩:=hr.ok v cb
 rw [cb] at e1
 rw [c2] at e2
 have hd:=fun d=>oS hi jc d
 obtain⟨_,_,ee,t1,t2⟩:=tale.ex
 cases ee
 have hd1:=fun d=>t1.deep m.h d
 have hd2:=fun d=>t2.deep m.h d
 have o1:=t1.one
 have o2:=t2.one
 have o3:=t1.cells
 have o4:=t2.cells
 have cl1:=t1.closed
 have cl2:=t2.closed
 have fin:=fq (id:=id) (ex:=ex) (x17:=.int .i64 a) (x18:=.int .i64 b) hl hj (R:=some (.bool true,Mem.empty)) (fun t m' h17 h18 h26=>B3 hab h17 h18 h26) l.length 0 m (by omega) hi
 rw [if_neg (by omega)] at fin
 simp [restE] at fin
 simp [restD,h7,h12,h17,h18,h26,h27,e1,e2,hd,hd1,hd2,o1,o2,o3,o4,cl1,cl2,AV.flat,flatL,AV.flat1,fin,-aj.Ab]
end
end Go.Proofs.YtadofgdidhpnpaaGreatDoor

/-
  TopKept (13): behind the restart. Conditions: none.
-/
namespace Go.Proofs.YtadofgdidhpnpaaGreatDoor
open Go.AM
open Go.Proofs
open Go.Proofs.Tryz (prog)
set_option linter.all false
set_option maxRecDepth 100000
set_option maxHeartbeats 4000000
section
variable {D : List Int} {N : List Note} {l : List (List Int)} {ex : Bool} {vD vN : AV} {a b : Int} {m : Mem} {t : List (Nat × AV)} {dk S : Nat}
theorem zZ {e:Int} (hab:e=a∨e=b) (h17:AM.get t 17=.int .i64 a) (h18:AM.get t 18=.int .i64 b) (h26:AM.get t 26=.int .i64 e):den prog ann 3 [.code aj.r65,.code .ret] ⟨t,309,m⟩=some (.bool true,Mem.empty):=by
 by_cases q:a=e
 ·subst q
  simp [h17,h18,h26]
 ·have q1:¬e=a:=fun e=>q e.symm
  have q2:b=e:=by
   rcases hab with h | h
   ·exact(q1 h).elim
   ·exact h.symm
  subst q2
  simp [h17,h18,h26,q1]
theorem xZ (cu:Cutd m l dk S a b) {n:Nat} (hn:n < 1000):∃m' S' p k,denC prog ann 11 [.ptr dk 0 65542,.int .i64 n] m=some (.tup [],m')∧DSt m' dk S' false 0 1 1 p [] []∧k≤l.length∧Reads p l k∧((k:Int) - 1=a∨(k:Int) - 1=b):=by
 obtain⟨dn,lf,p,ks,vs,d,h⟩:=cu.ex
 rcases h with ⟨rfl,rfl,k,hk,hr,hab⟩ | ⟨k,old,rfl,rfl,hk,ho,h⟩
 ·obtain⟨m',S',e,d'⟩:=nV d hn (by omega)
  exact⟨m',S',p,k,e,d',hk,hr,hab⟩
 ·obtain⟨m',S',e,d'⟩:=pT d hk ho hn (by omega)
  obtain⟨k',hk',hr,hab⟩:=h (n % 257)
  exact⟨m',S',_,k',e,d',hk',hr,hab⟩
theorem ub {p:Nat→List UInt8} {k:Nat} (d:DSt m dk S false 0 1 1 p [] []) (hr:Reads p l k) :
  ∃m' ch Nw xs,denC prog ann 7 [.ptr dk 0 65542] m=some (.tup [.ptr ch 0 12,.int .i64 0],m')∧m'.h ch=some (.cells xs)∧xs.length=12∧xs[0]?=some (.bool true)∧xs[9]?=some (.map Nw)∧m'.h Nw=some (.map 0 ((keyN k).map .str) ((vlN l k).map .str))∧Nw < m'.nx:=by
 obtain⟨hp,ks2,vs2,ht⟩:=hr
 exact z7 d (by omega) (rM d hp ht)
theorem xY (hl:CrsOk D N l) (v:ValidS D N) (hD:D.length=4) (hN:N.length≤8) (tale:IsTale (.agg [vD,vN]) D N) {x y z:Nat} (hy:y < 256) (hz:z < 256) (cu:Cutd m l dk S a b)
  (h5:AM.get t 5=.fptr [.int .u8 x,.int .u8 y,.int .u8 z]) (h7:AM.get t 7=.fptr [vD,vN]) (h12:AM.get t 12=.fsl ex l.length (flatC rowC l)) (h14:AM.get t 14=.ptr dk 0 65542) (h17:AM.get t 17=.int .i64 a) (h18:AM.get t 18=.int .i64 b):den prog ann 3 restB ⟨t,309,m⟩=some (.bool true,Mem.empty):=by
 have wy:IntKind.wrap .i64 (y:Int)=y:=bc (by omega) (by omega)
 have wz:IntKind.wrap .i64 (z:Int)=z:=bc (by omega) (by omega)
 have wyz:IntKind.wrap .i64 ((y:Int)+z)=(y:Int)+z:=bc (by omega) (by omega)
 obtain⟨m1,S1,p1,k,e1,d1,hk,hr,hab⟩:=xZ cu (n:=y+z) (by omega)
 obtain⟨m2,ch,Nw,xs,e2,x1,x2,x3,x4,x5,x6⟩:=ub d1 hr
 have q:binA prog .eql 38 (.ptr ch 0 12) .nilp=some (.bool false):=by kernel_rfl
 simp only [Int.natCast_add] at e1
 by_cases h0:k=0
 ·subst h0
  have sc:=yb x1 x2 x3 x4 x5
  have hm:(-1:Int)=a∨(-1:Int)=b:=by omega
  simp [restB,h5,h7,h12,h14,h17,h18,wy,wz,wyz,e1,e2,q,sc,-aj.z8]
  exact zZ hm (by simp) (by simp) (by simp)
 ·obtain⟨j,rfl⟩:∃j,k=j+1:=⟨k - 1,by omega⟩
  have hj:j < l.length:=by omega
  have ic:=hl.crs.one j hj
  obtain⟨f0,q0,n0⟩:=fK ic (i:=0) (by omega)
  obtain⟨f1,q1,n1⟩:=fK ic (i:=1) (by omega)
  obtain⟨f2,q2,n2⟩:=fK ic (i:=2) (by omega)
  obtain⟨f3,q3,n3⟩:=fK ic (i:=3) (by omega)
  have hv:vlN l (j+1)=[valH f0,valH f1,valH f2,valH f3]:=oR ic.1 n0 n1 n2 n3
  have hc:gth l j=[(f0:Int),f1,f2,f3]:=by
   obtain⟨il,_⟩:=ic
   generalize gth l j=c at *
   match c,il with
   | [a,b,c,d],_ =>
    have a0:a=f0:=n0
    have a1:b=f1:=n1
    have a2:c=f2:=n2
    have a3:d=f3:=n3
    rw [a0,a1,a2,a3]
  obtain⟨o,m3,e3,ho,hox,kp,hon⟩:=yc x1 x2 x3 x4 hv x5 x6
  have bn:∀ {e:Nat},e < 4→(UInt8.ofNat (48+e)).toNat=48+e:=fun h=>by rw [UInt8.toNat_ofNat'];omega
  simp only [valH] at ho
  obtain⟨m4,hi,rd⟩:=Aa (x7:=.fptr [vD,vN]) (x12:=.fsl ex l.length (flatC rowC l)) (x17:=.int .i64 a) (x18:=.int .i64 b) (x26:=.int .i64 (-1)) (m:=⟨upd m3.h m3.nx (some (.cells [])),m3.nx+1⟩) (o:=o) (id:=m3.nx) (bn q0) (bn q1) (bn q2) (bn q3) q0 q1 q2 q3
   (by simp only [aK,show(o==m3.nx)=false from beq_eq_false_iff_ne.2 (by omega),cond_false];exact ho) (by show o < m3.nx+1;omega) (by simp) (Nat.lt_succ_self _) (by omega)
  rw [← hc] at hi
  have fin:=rd _ fun t' g7 g12 g17 g18 g26 g27=>ye hl v hD hN tale hj hi (by omega) g7 g12 g17 g18 g26 g27
  simp only [restD] at fin
  simp [restB,h5,h7,h12,h14,h17,h18,wy,wz,wyz,e1,e2,q,e3,fin]
end
end Go.Proofs.YtadofgdidhpnpaaGreatDoor

/-
  TopKept RETURNS TRUE. Conditions: none.
-/
namespace Go.Proofs.YtadofgdidhpnpaaGreatDoor
open Go.AM
open Go.Proofs
open Go.Proofs.Tryz (prog)
set_option linter.all false
set_option maxRecDepth 100000
set_option maxHeartbeats 4000000
theorem u5k:prog.underlying 5=some (.int .u8):=by kernel_rfl
theorem Hf:prog.underlying 22=some (.array 4 5):=by kernel_rfl
theorem Hg:prog.underlying 23=some (.slice 22):=by kernel_rfl
theorem Hh:prog.underlying 24=some (.array 3 5):=by kernel_rfl
theorem mW {d:Nat} {cs:List AV} (h:Dat prog (d+1) 5 cs):∃n:Nat,cs=[.int .u8 n]∧n < 256:=by
 simp only [Dat,u5k] at h
 obtain⟨n,rfl,hw⟩:=h
 simp only [Lit.wf,Bool.and_eq_true,decide_eq_true_eq] at hw
 have e1:IntKind.min .u8=0:=by decide
 have e2:IntKind.max .u8=255:=by decide
 rw [e1,e2] at hw
 exact⟨n.toNat,by rw [Int.toNat_of_nonneg hw.1],by omega⟩
theorem zY {d:Nat} {cs:List AV} (h:Dat prog (d+2) 22 cs):∃x:Row,cs=rowU x∧RowOk x:=by
 rw [Dat] at h
 simp only [Hf] at h
 obtain⟨parts,rfl,hl,hp⟩:=h
 match parts,hl with
 | [a,b,c,e],_ =>
  obtain⟨n0,rfl,h0⟩:=mW (hp a (by simp)).2
  obtain⟨n1,rfl,h1⟩:=mW (hp b (by simp)).2
  obtain⟨n2,rfl,h2⟩:=mW (hp c (by simp)).2
  obtain⟨n3,rfl,h3⟩:=mW (hp e (by simp)).2
  exact⟨⟨n0,n1,n2,n3⟩,rfl,h0,h1,h2,h3⟩
theorem Eb {d:Nat} {a:AV} (h:Dat prog (d+3) 23 [a]):∃xs:List Row,IsSl rowU a xs∧∀x∈xs,RowOk x:=by
 rw [Dat] at h
 simp only [Hg] at h
 rcases h with e | ⟨parts,e,hl,hp⟩
 ·simp at e
  subst e
  exact⟨[],.inl ⟨rfl,rfl⟩,fun x h=>by cases h⟩
 ·simp at e
  subst e
  have key:∀ps:List (List AV),(∀p∈ps,Dat prog (d+2) 22 p)→∃T:List Row,T.length=ps.length∧ps.flatten=flatC rowU T∧∀x∈T,RowOk x:=by
   intro ps
   induction ps with
   | nil=>exact fun _=>⟨[],rfl,rfl,fun x h=>by cases h⟩
   | cons p ps ih =>
    intro h
    obtain⟨x,e,h4⟩:=zY (h p (by simp))
    obtain⟨T,k1,k2,k3⟩:=ih (fun q hq=>h q (by simp [hq]))
    refine⟨x::T,by simp [k1],by rw [List.flatten_cons,cC,e,k2],fun y hy=>?_⟩
    rcases List.mem_cons.1 hy with rfl | hy
    ·exact h4
    ·exact k3 y hy
  obtain⟨T,k1,k2,k3⟩:=key parts fun p hp'=>(hp p hp').2
  exact⟨T,.inr ⟨false,by rw [k1,k2]⟩,k3⟩
theorem wT {d:Nat} (a0 a1 a2:AV) (h0:DatV prog (d+4) 22 a0) (h1:DatV prog (d+4) 23 a1) (h2:DatV prog (d+4) 24 a2):∃m',denC prog ann 3 [a0,a1,a2] Mem.empty=some (.bool true,m'):=by
 simp only [DatV,Hf] at h0
 simp only [DatV,Hg] at h1
 simp only [DatV,Hh] at h2
 obtain⟨cs,rfl,h0⟩:=h0
 obtain⟨x,rfl,x0,x1,x2,x3⟩:=zY (d:=d+2) h0
 obtain⟨xs,hx,hxr⟩:=Eb (d:=d+1) h1
 obtain⟨cs2,rfl,h2⟩:=h2
 rw [Dat] at h2
 simp only [Hh] at h2
 obtain⟨parts,rfl,hl,hp⟩:=h2
 match parts,hl with
 | [pa,pb,pc],_ =>
  obtain⟨y0,rfl,z0⟩:=mW (hp pa (by simp)).2
  obtain⟨y1,rfl,z1⟩:=mW (hp pb (by simp)).2
  obtain⟨y2,rfl,z2⟩:=mW (hp pc (by simp)).2
  obtain⟨A,B,C,E,m1,hA,hB,hC,hE,i1,i2,run⟩:=xV (x:=y0) (y:=y1) (z:=y2) x0 x1 x2 x3 (v0:=.agg (rowU x)) (v1:=a1) rfl rfl hx.closed Mem.empty
  have hv:=tZ hA hB hC hE
  have inv:TInv m1 [(A:Int),B,C,E] .nils []:=⟨i1,.inl ⟨rfl,rfl⟩,hv,i2⟩
  have fn:=mX hA hB hC hE
  have hD:([(A:Int),B,C,E]).length=4:=rfl
  generalize [(A:Int),B,C,E]=D at *
  refine⟨Mem.empty,(run (some (.bool true,Mem.empty)) ?_).trans rfl⟩
  refine xW hx hxr hD (R:=some (.bool true,Mem.empty)) ?_ 8 0 m1 .nils [] (by omega) (by omega) inv (by simp)
  intro t m' vN' N' g5 g7 inv' hN'
  obtain⟨ex,l,m2,dk,S,ch,lf,hc,hlf,hd,hch,e⟩:=xX z0 g5 g7 inv' hN' hD fun i=>(fn i).2
  rw [e]
  have tale:IsTale (.agg [.fsl false 4 (ints D),vN']) D N':=⟨_,_,rfl,by rw [← hD];exact IsInts.fsl false D,inv'.v⟩
  have g:Good m2 l dk S ch lf 0 (updP (fun _=>zp) 0 (padB (rootW 1 0))):=⟨hch,hd,Ec l,hlf⟩
  exact ua hc.crs (fun t m' S' a b g5 g7 g12 g14 g17 g18 cu=>xY hc inv'.val hD hN' tale z1 z2 cu g5 g7 g12 g14 g17 g18) l.length 0 m2 S lf _ (by omega) g
end Go.Proofs.YtadofgdidhpnpaaGreatDoor
