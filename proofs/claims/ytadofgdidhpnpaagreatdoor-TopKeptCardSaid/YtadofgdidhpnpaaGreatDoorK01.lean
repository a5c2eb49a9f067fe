/-
  THE ROUND OF leaves. Conditions: none.
-/
import Derived.Test.YtadofgdidhpnpaaGreatDoorRows
import Derived.RangeFuncLeaves
import Derived.RecoverIn
import Derived.Shelf.Abstract
import Derived.WalkKit
import Derived.LaidEql
import Derived.Test.YtadofgdidhpnpaaGreatDoorProg
import Derived.RangeFuncIn
import Derived.RangeFuncRecord
import Derived.Test.YtadofgdidhpnpaaGreatDoorK00
set_option linter.all false
namespace Go.Proofs.YtadofgdidhpnpaaGreatDoor
open Go.AM
open Go.Proofs
open Go.Proofs.Tryz (prog)
set_option linter.all false
set_option maxRecDepth 100000
theorem ri (k:List UInt8):keyT prog 9 (.str k)=true:=by kernel_rfl
theorem Ip:prog.underlying 9=some .string:=by kernel_rfl
theorem zK (a b:List UInt8):(a==b)=decide (a=b):=by
 cases h:(a==b) with
 | true=>rw [eq_comm,decide_eq_true_eq];exact eq_of_beq h
 | false=>rw [eq_comm,decide_eq_false_iff_not];exact fun e=>by rw [beq_eq_false_iff_ne] at h;exact h e
theorem mJ (a b:List UInt8):keyEq prog 9 (.str a) (.str b)=some (a==b):=by
 simp [keyEq,scV,Ip,eqSc,zK]
theorem rj {k:List UInt8}:∀ {ks vs:List (List UInt8)},ks.length=vs.length→k∈ks→findK prog 9 (.str k) (ks.map .str) (vs.map .str)=some (some (.str (AM.valOf k ks vs)))
 | [],_,_,h=>by simp at h
 | k'::ks,[],h,_=>by simp at h
 | k'::ks,v::vs,h,hk=>by
  simp only [List.map_cons,findK,mJ,Option.bind_some,AM.valOf]
  cases e:(k==k') with
  | true =>
   have:(k'==k)=true:=by rw [beq_iff_eq] at e ⊢;exact e.symm
   rw [this];rfl
  | false =>
   have e2:(k'==k)=false:=by
    rw [beq_eq_false_iff_ne] at e ⊢;exact fun h=>e h.symm
   rw [e2,cond_false,cond_false]
   refine rj (by simpa using h) ?_
   rcases List.mem_cons.1 hk with rfl | h'
   ·simp at e
   ·exact h'
theorem zM {k:List UInt8} {ks vs:List (List UInt8)} (h:ks.length=vs.length) (hk:k∈ks) (m:Mem):lookP prog m 9 (.str []) (.fmap (ks.map .str) (vs.map .str)) (.str k) false=some (.str (AM.valOf k ks vs)):=by
 simp [lookP,ri,lookA,rj h hk]
theorem kL {k:List UInt8}:∀ {ks vs:List (List UInt8)},(∀v∈vs,v.length≤100)→(AM.valOf k ks vs).length≤100
 | [],_,_=>by simp [AM.valOf]
 | _::_,[],_=>by simp [AM.valOf]
 | k'::ks,v::vs,h=>by
  simp only [AM.valOf]
  cases (k'==k) with
  | true=>exact h v (by simp)
  | false=>exact kL (fun v hv=>h v (by simp [hv]))
def entB (ks vs:List (List UInt8)) (k:List UInt8):List UInt8:=textB k++textB (AM.valOf k ks vs)
theorem F7 {n:Nat} (h:n≤1000):IntKind.wrap .i64 ((n:Int)+1)=((n+1:Nat):Int):=by
 simp [IntKind.wrap,IntKind.signed,IntKind.bits]
 omega
theorem rk {ks vs:List (List UInt8)} (hl:ks.length=vs.length) (hv:∀v∈vs,v.length≤100) (A O:Nat) (hAO:A≠O) (S pre rest:List (List UInt8)) (k:List UInt8) (hS:S=pre++k::rest) (hk:k∈ks) (hkl:k.length≤100) (hSl:S.length≤9) (bs:List UInt8) (m:Mem) (hA:m.h A=some (.cells (u8L bs))) (hO:m.h O=some (.cells [.nils])) (hAx:A < m.nx) (hOx:O < m.nx) (hb:bs.length≤100000) (K:List Item) :
  ∃m':Mem,m.nx≤m'.nx∧m'.h A=some (.cells (u8L (bs++entB ks vs k)))∧m'.h O=some (.cells [.nils]) ∧
   aF.L2 (.fptr [.fmap (ks.map .str) (vs.map .str)]) (.ptr O 0 1) (.sl A 1 0 bs.length bs.length) (.fsl false S.length (S.map .str)) (.int .i64 S.length) (.int .i64 pre.length) m K =
   aF.L2 (.fptr [.fmap (ks.map .str) (vs.map .str)]) (.ptr O 0 1) (.sl A 1 0 (bs++entB ks vs k).length (bs++entB ks vs k).length) (.fsl false S.length (S.map .str)) (.int .i64 S.length) (.int .i64 ((pre++[k]).length:Nat)) m' K:=by
 have hlt:pre.length < S.length:=by rw [hS];simp
 have hget:S[pre.length]?=some k:=by rw [hS];simp
 have hgt:S[pre.length]=k:=by rw [List.getElem?_eq_getElem hlt] at hget;exact Option.some.inj hget
 have hne:A≠m.nx:=by omega
 have q1:(O==A)=false:=by simpa using hAO.symm
 have q2:(O==m.nx)=false:=by simp;omega
 have q3:(A==m.nx)=false:=by simp;omega
 have q4:(m.nx==A)=false:=by simp;omega
 have hnO:O≠m.nx:=by omega
 have hT:=rm A m.nx hne bs k (AM.valOf k ks vs) ⟨upd m.h m.nx (some (.cells [.str k,.str (AM.valOf k ks vs)])),m.nx+1⟩ (by simp [q3,hA]) (by simp) hb hkl (kL hv)
 refine⟨⟨upd (upd m.h m.nx (some (.cells [.str k,.str (AM.valOf k ks vs)]))) A (some (.cells (u8L (bs++entB ks vs k)))),m.nx+1⟩,Nat.le_succ _,by simp,by simp [q1,q2,hO],?_⟩
 have hp:pre.length≤1000:=by omega
 have hpi:((pre.length:Int) < (S.length:Int)):=by omega
 rw [aF.dt]
 simp [hlt,hgt,zM hl hk,hT,F7 hp,entB]
theorem zN {ks vs:List (List UInt8)} (hv:∀v∈vs,v.length≤100) {k:List UInt8} (hk:k.length≤100):(entB ks vs k).length≤202:=by
 have:=kL (k:=k) (ks:=ks) hv
 simp only [entB,textB,List.length_append,List.length_cons]
 omega
theorem lG {ks vs:List (List UInt8)} (hl:ks.length=vs.length) (hv:∀v∈vs,v.length≤100) (A O:Nat) (hAO:A≠O) (S:List (List UInt8)) (hSk:∀k∈S,k∈ks∧k.length≤100) (hSl:S.length≤9) (K:List Item):∀(rest pre:List (List UInt8)) (bs:List UInt8) (m:Mem),S=pre++rest→m.h A=some (.cells (u8L bs))→m.h O=some (.cells [.nils])→A < m.nx→O < m.nx→bs.length+rest.length*202≤100000 →
  ∃m':Mem,m.nx≤m'.nx∧m'.h A=some (.cells (u8L (bs++(rest.map (entB ks vs)).flatten)))∧m'.h O=some (.cells [.nils]) ∧
   aF.L2 (.fptr [.fmap (ks.map .str) (vs.map .str)]) (.ptr O 0 1) (.sl A 1 0 bs.length bs.length) (.fsl false S.length (S.map .str)) (.int .i64 S.length) (.int .i64 pre.length) m K =
   aF.L2 (.fptr [.fmap (ks.map .str) (vs.map .str)]) (.ptr O 0 1) (.sl A 1 0 (bs++(rest.map (entB ks vs)).flatten).length (bs++(rest.map (entB ks vs)).flatten).length) (.fsl false S.length (S.map .str)) (.int .i64 S.length) (.int .i64 S.length) m' K
 | [],pre,bs,m,hS,hA,hO,hAx,hOx,hb=>⟨m,Nat.le_refl _,by simpa using hA,hO,by simp [hS]⟩
 | k::rest,pre,bs,m,hS,hA,hO,hAx,hOx,hb=>by
  have hk:=hSk k (by rw [hS];simp)
  have he:=zN (ks:=ks) hv hk.2
  simp only [List.length_cons] at hb
  obtain⟨m1,n1,a1,o1,e1⟩:=rk hl hv A O hAO S pre rest k hS hk.1 hk.2 hSl bs m hA hO hAx hOx (by omega) K
  obtain⟨m2,n2,a2,o2,e2⟩:=lG hl hv A O hAO S hSk hSl K rest (pre++[k]) (bs++entB ks vs k) m1 (by rw [hS];simp) a1 o1 (by omega) (by omega) (by simp only [List.length_append];omega)
  refine⟨m2,Nat.le_trans n1 n2,by simpa using a2,o2,?_⟩
  rw [e1,e2]
  simp
theorem zO (l:List UInt8):flatL (u8L l)=true:=by
 induction l with
 | nil=>rfl
 | cons a l ih=>simp only [u8L,List.map_cons,flatL,AV.flat1,Bool.true_and];exact ih
theorem pH {ks vs:List (List UInt8)} (hl:ks.length=vs.length) (hv:∀v∈vs,v.length≤100) (O:Nat) (S:List (List UInt8)) (hSk:∀k∈S,k∈ks∧k.length≤100) (hSl:S.length≤9) (t:List (Nat×AV)) (m:Mem) (h1:AM.get t 1=.fptr [.fmap (ks.map .str) (vs.map .str)]) (h3:AM.get t 3=.ptr O 0 1) (h4:AM.get t 4=.fsl false S.length (S.map .str)) (hO:m.h O=some (.cells [.nils])) (hOx:O < m.nx) :
  ∃(m':Mem) (P:Nat),den prog aw 53 [.code aF.b] ⟨t,37,m⟩=some (.undef,m')∧O≠P∧m'.h O=some (.cells [.sl P 256 0 1 256])∧m'.h P=some (.cells (u8L (padB (1::UInt8.ofNat S.length::(S.map (entB ks vs)).flatten)))):=by
 have hne:m.nx≠O:=by omega
 have q1:(O==m.nx)=false:=by simp;omega
 obtain⟨xc,hxc⟩:∃x,UInt8.ofNat S.length=x:=⟨_,rfl⟩
 have ec:IntKind.wrap .u8 (S.length:Int)=(xc.toNat:Int):=by rw [pI _ (by omega),hxc]
 have eb:[AV.int .u8 1,AV.int .u8 (xc.toNat:Int)]=u8L [1,xc]:=rfl
 obtain⟨m2,n2,a2,o2,e2⟩:=lG hl hv m.nx O hne S hSk hSl [.code aF.r10,.inBlock 1] S [] [1,xc] ⟨upd m.h m.nx (some (.cells (u8L [1,xc]))),m.nx+1⟩ rfl (by simp) (by simp [q1,hO]) (Nat.lt_succ_self _) (by show O < m.nx+1;omega) (by simp;omega)
 have key:den prog aw 53 [.code aF.b] ⟨t,37,m⟩=aF.L2 (.fptr [.fmap (ks.map .str) (vs.map .str)]) (.ptr O 0 1) (.sl m.nx 1 0 [1,xc].length [1,xc].length) (.fsl false S.length (S.map .str)) (.int .i64 S.length) (.int .i64 ([]:List (List UInt8)).length) ⟨upd m.h m.nx (some (.cells (u8L [1,xc]))),m.nx+1⟩ [.code aF.r10,.inBlock 1]:=by
  simp [h1,h3,h4,ec,eb,cQ,aN,bslM]
 obtain⟨D,hD⟩:∃D,[1,xc]++(S.map (entB ks vs)).flatten=D:=⟨_,rfl⟩
 have hD':(1::xc::(S.map (entB ks vs)).flatten)=D:=by rw [← hD];rfl
 rw [hD] at a2 e2
 have hOx2:O < m2.nx:=Nat.lt_of_lt_of_le hOx (Nat.le_trans (Nat.le_succ _) n2)
 have q2:(m.nx==O)=false:=by simp;omega
 have q3:(O==m2.nx+4)=false:=by simp;omega
 have hF:=lH false D Mem.empty
 have hF2:=lH false D
 have hpl:(u8L (padB D)).length=256:=by rw [aN,dK]
 refine⟨⟨upd (upd m2.h O (some (.cells [.sl (m2.nx+4) 256 0 1 256]))) (m2.nx+4) (some (.cells (u8L (padB D)))),m2.nx+6⟩,m2.nx+4,?_,by omega,by simp [q3],by rw [hxc,hD'];simp⟩
 rw [key,e2,aF.dt]
 have q5:O < m2.nx+4:=by omega
 have hdp:∀h,mapO (deep h 5) (u8L D)=some (u8L D):=fun h=>gY h 4 D
 have htk:List.take D.length (u8L D)=u8L D:=List.take_of_length_le (by rw [aN];exact Nat.le_refl _)
 have hfl:(AV.agg (u8L (padB D))).flat=true:=zO _
 have hr1:repl 1 page0=page0:=by kernel_rfl
 have hpd:=dK D
 have hdr:List.drop 256 page0=[]:=List.drop_of_length_le (by rw [cE];exact Nat.le_refl _)
 simp [a2,o2,aN,hdp,htk,hF2,hfl,hr1,cE,hpd,hdr,cQ,bZ,q3,q5]
 exact⟨rfl,rq _ (by omega) _ _⟩
end Go.Proofs.YtadofgdidhpnpaaGreatDoor

/-
  WHAT leaves DOES AHEAD OF ITS LOOP. Conditions: none.
-/
namespace Go.Proofs.YtadofgdidhpnpaaGreatDoor
open Go.AM
open Go.Proofs
open Go.Proofs.Tryz (prog)
set_option linter.all false
set_option maxRecDepth 100000
theorem zG (ks vs:List AV) (m:Mem):denC prog aw 34 [.fmap ks vs] m=some (.fn 57 [] [.fptr [.fmap ks vs]],m):=by
 rw [dJ.al]
 simp
theorem wg (x:AV) (hc:x.closed=true) (h1:x.cells=[x]) (ho:x.one=true) (m:Mem):denC prog aw 76 [x,.int .i64 9] m=some (.fn 97 [] [.fptr [x],.fptr [.int .i64 9]],m):=by
 rw [dU.al]
 simp [hc,h1,ho]
theorem f33:prog.funcs[33]?=some Tryz.f33:=by kernel_rfl
theorem re (args:List AV) (m:Mem):denC prog aw 33 args m=sortedS 57 args m:=by
 rw [dY f33 (b:=(Tryz.f33.body).getD .skip) (by kernel_rfl) (by kernel_rfl)]
 have e:(aw 33).ext=true:=by kernel_rfl
 simp only [libA,e,cond_true,extF]
 rfl
theorem lF {l:List (List UInt8)} {vs:List AV} (h1:l.length≤1000) (h2:l.Nodup) (h3:∀k∈l,k.length≤1000) (m:Mem):sortedS 57 [.fn 57 [] [.fptr [.fmap (l.map .str) vs]]] m=some (sortedV l.length ((sortS l).map .str),m):=by
 have e:strsO (l.map .str)=some l:=by
  clear h1 h2 h3
  induction l with
  | nil=>rfl
  | cons a l ih=>simp only [List.map_cons,strsO,ih];rfl
 have h3':(l.all fun k=>Nat.ble k.length 1000)=true:=List.all_eq_true.2 fun k hk=>by rw [Nat.ble_eq];exact h3 k hk
 have h1':Nat.ble l.length 1000=true:=by rw [Nat.ble_eq];exact h1
 simp only [sortedS,seqKeys,beq_self_eq_true,cond_true,Option.bind_some,e,h1',h3',decide_eq_true h2,Bool.and_self]
section
variable (ks vs : List (List UInt8)) (t : List (Nat × AV)) (m : Mem)
theorem Il (h:AM.get t 0=.fmap (ks.map .str) (vs.map .str)):regS prog aw 53 aF.s0 ⟨t,37,m⟩=some ⟨(2,.nils)::(1,.fptr [.fmap (ks.map .str) (vs.map .str)])::t,37,m⟩:=by
 rw [aF.rh]
 simp [mregS,mrunS,mb,h]
theorem Im:regS prog aw 53 aF.s1 ⟨t,37,m⟩=some ⟨(3,.ptr m.nx 0 1)::t,37,⟨upd m.h m.nx (some (.cells [.nils])),m.nx+1⟩⟩:=by
 rw [aF.CH]
 simp [mregS,mrunS,mb]
theorem Io (h:AM.get t 1=.fptr [.fmap (ks.map .str) (vs.map .str)]) (h1:ks.length≤9) (h2:ks.Nodup) (h3:∀k∈ks,k.length≤100) (hne:ks≠[]) :
  regS prog aw 53 aF.s2 ⟨t,37,m⟩=some ⟨(11,.fn 97 [] [.fptr [.fsl false ks.length ((sortS ks).map .str)],.fptr [.int .i64 9]])::(10,.fsl false ks.length ((sortS ks).map .str))::(9,.fn 57 [] [.fptr [.fmap (ks.map .str) (vs.map .str)]])::(8,.fmap (ks.map .str) (vs.map .str))::t,37,m⟩:=by
 have hs:=lF (l:=ks) (vs:=vs.map .str) (by omega) h2 (fun k hk=>Nat.le_trans (h3 k hk) (by decide)) m
 have e:sortedV ks.length ((sortS ks).map .str)=.fsl false ks.length ((sortS ks).map .str):=by
  cases e2:(sortS ks).map AV.str with
  | nil =>
   have:(sortS ks).length=0:=by simpa using congrArg List.length e2
   rw [dD] at this
   exact(hne (List.length_eq_zero_iff.1 this)).elim
  | cons a l=>rfl
 rw [e] at hs
 have hc:=wg (.fsl false ks.length ((sortS ks).map .str)) rfl rfl rfl m
 rw [aF.zH]
 have e33:(aw 33).pure=false:=by kernel_rfl
 simp [mregS,mrunS,mb,h,callA,zG,re,hs,hc,e33]
theorem zI (h:AM.get t 1=.fptr [.fmap [] []]) :
  regS prog aw 53 aF.s2 ⟨t,37,m⟩=some ⟨(11,.fn 97 [] [.fptr [.nils],.fptr [.int .i64 9]])::(10,.nils)::(9,.fn 57 [] [.fptr [.fmap [] []]])::(8,.fmap [] [])::t,37,m⟩:=by
 have hs:=lF (l:=[]) (vs:=[]) (by simp) (by simp) (by simp) m
 have e:sortedV ([]:List (List UInt8)).length ((sortS []).map .str)=.nils:=rfl
 rw [e] at hs
 have hc:=wg .nils rfl rfl rfl m
 rw [aF.zH]
 have e33:(aw 33).pure=false:=by kernel_rfl
 simp only [List.map_nil] at hs
 simp [mregS,mrunS,mb,h,callA,zG,re,hs,hc,e33]
theorem Dk (h:AM.get t 3=.ptr 0 0 1) {v:AV} (ho:m.h 0=some (.cells [v])):regS prog aw 53 aF.s11 ⟨t,37,m⟩=some ⟨[(2,v),(36,v),(3,.ptr 0 0 1)],37,m⟩:=by
 rw [aF.zJ]
 simp [mregS,mrunS,mb,h,ho]
end
end Go.Proofs.YtadofgdidhpnpaaGreatDoor

/-
  THE PACKAGE'S VARIABLE IS AN ERROR. Conditions: none.
-/
namespace Go.Proofs.YtadofgdidhpnpaaGreatDoor
open Go.AM
open Go.Proofs
open Go.Proofs.Tryz (prog)
set_option linter.all false
set_option maxRecDepth 100000
def errN:String:=match (Rows.laid_pommel_chest_errPage:DataW Unit) with
 | .iface n _=>n
 | _=> ""
def errV:String:=(Rows.topKeptRow.laid.map Prod.fst).headD ""
theorem Bx {u:TypeId} (h:prog.typeName? 3 u=some errN):u=206 :=
 typeName_ptr_named (P:=prog) (nm:= "errors.errorString") (tp:=206) (by kernel_rfl) (by kernel_rfl) (by decide) u h
theorem yX:prog.globalNamed errV=some 0:=by kernel_rfl
def isIface (P:Program) (t:TypeId):Bool:=match P.underlying t with
 | some (.interface _)=>true
 | _=>false
noncomputable def gtypeB:Bool:=match prog.globals[0]? with
 | some g=>isIface prog g.type
 | none=>false
theorem yY:gtypeB=true:=by kernel_rfl
theorem yZ {t:TypeId} (h:(prog.globals[0]?).map (·.type)=some t):∃ms,prog.underlying t=some (.interface ms):=by
 have:=yY
 unfold gtypeB at this
 cases hg:prog.globals[0]? with
 | none=>rw [hg] at h;cases h
 | some g =>
  rw [hg] at h this
  simp only [Option.map_some,Option.some.injEq] at h
  subst h
  simp only [isIface] at this
  split at this
  ·rename_i ms e;exact⟨ms,e⟩
  ·cases this
theorem yW {w:World} (h:laidMet prog Rows.topKeptRow.laid w):Rep w (fun b=>b < w.heap.size) P0 (.fptr [.iface 206 .undef]) (.pointer (some ⟨0,0,none⟩)):=by
 obtain⟨ps,⟨g',t',cs,fuel,p,q,hg',ht',hvar,hd,_,_⟩,_⟩:=h
 obtain rfl:=Option.some.inj (yX.symm.trans hg')
 obtain⟨ms,hu⟩:=yZ ht'
 have hcs:∃v,cs.toList=[.iface 206 v]:=by
  cases fuel with
  | zero=>simp [DataW.trod] at hd
  | succ fuel =>
   unfold DataW.trod at hd
   rw [hu] at hd
   generalize cs.toList=l at hd
   split at hd
   all_goals try (rename_i h;cases h;done)
   all_goals first
    | (simp [Rows.laid_pommel_chest_errPage] at hd;done)
    | skip
   rename_i u v _
   cases hn:prog.typeName? 3 u with
   | none=>rw [hn] at hd;cases hd
   | some n =>
    rw [hn] at hd
    simp only [Option.map_eq_some_iff] at hd
    obtain⟨y,_,e⟩:=hd
    simp only [Rows.laid_pommel_chest_errPage,Prod.mk.injEq,DataW.iface.injEq] at e
    rw [e.1.1] at hn
    obtain rfl:=Bx hn
    exact⟨v,rfl⟩
 obtain⟨v,hv⟩:=hcs
 have hrep:RepL w (fun b=>b < w.heap.size) P0 [.iface 206 .undef] cs.toList:=by
  rw [hv]
  exact RepL.cons ⟨v,rfl,trivial⟩ RepL.nil
 refine⟨0,0,cs.toList,?_,rfl,fun j v hj=>?_,RepL.oneL rfl hrep,hrep⟩
 ·simp only [World.var?,hg',Option.bind_some] at hvar
  split at hvar
  ·rename_i hh
   exact(Array.getElem?_eq_some_iff.1 hh).1
  ·cases hvar
 ·rw [Nat.zero_add,World.var?_cell hg' hvar j]
  simpa using hj
end Go.Proofs.YtadofgdidhpnpaaGreatDoor

/-
  THE PARTS OF load: Read, take, text. Conditions: none.
-/
namespace Go.Proofs.YtadofgdidhpnpaaGreatDoor
open Go.AM
open Go.Proofs
open Go.Proofs.Tryz (prog)
set_option linter.all false
set_option maxRecDepth 100000
theorem Hb (C:List AV):binA prog .neq 36 (.fptr C) .nilp=some (.bool true):=by kernel_rfl
theorem Hc (x:Bool) (n:Nat) (C:List AV):binA prog .eql 97 (.fsl x n C) .nils=some (.bool false):=by kernel_rfl
theorem xT (C:List AV) (h:C.head?=some (.bool true)) (m:Mem):denC prog aw 22 [.fptr C] m=some (.bool true,m):=by
 rw [fJ.al]
 simp [h,Hb]
theorem tV (x:Bool) (l:List UInt8) (hl:l.length=256) (m:Mem):denC prog aw 112 [.fsl x 256 (u8L l)] m=some (.fsl false 256 (u8L l),⟨upd m.h m.nx none,m.nx+1⟩):=by
 rw [e8.al]
 have h1:(u8L l).take 256=u8L l:=List.take_of_length_le (by rw [aN];omega)
 simp [aN,hl,Hc,bZ,h1]
theorem tU (C:List AV) (h:C.head?=some (.bool true)) (top:Nat) (ht:top < 256) (b:List UInt8) (hb:b.length=256) (hc:(C.drop (5+256*top)).take 256=u8L b) (hl:5+256*top+256≤C.length) (m:Mem) :
  denC prog aw 92 [.fptr C,.int .i64 top] m=some (.fsl false 256 (u8L b),⟨upd m.h m.nx none,m.nx+1⟩):=by
 rw [fI.al]
 have t1:¬((top:Int) < 0):=by omega
 have t2:¬((top:Int) ≥ 256):=by omega
 have t3:decide ((top:Int) < 0)=false:=by simp
 have t4:decide ((256:Int)≤(top:Int))=false:=by simp;omega
 have hc':(C.drop (5+top*256)).take 256=u8L b:=by rw [Nat.mul_comm top 256];exact hc
 have t5:256≤C.length - (5+top*256):=by omega
 simp [xT C h,t3,t4,ht,-Int.natCast_nonneg,sliceArr,bnds,bnd,hc',t5,tV true b hb]
theorem kO (R:Nat) (C:List AV) (n k:Nat) (m:Mem) (hR:m.h R=some (.cells [.fsl false n C])) (hk:k≤n) (hn:n≤1000) :
  denC prog aw 93 [.ptr R 0 1,.int .i64 k] m=some (.fsl false k (C.take k),⟨upd m.h R (some (.cells [.fsl false (n - k) ((C.drop k).take (n - k))])),m.nx⟩):=by
 rw [eY.al]
 have t3:decide (n < k)=false:=by simp;omega
 simp [hR,t3,sliceSl,bnds,bnd,hk]
theorem mU:∀l:List UInt8,bytesOf (u8L l)=some l
 | []=>rfl
 | a::l=>by
  have e:u8L (a::l)=.int .u8 a.toNat::u8L l:=rfl
  rw [e]
  simp [bytesOf,mU l]
theorem tW (m:Mem) (x:Bool) (l:List UInt8):convStr m (.fsl x l.length (u8L l))=some (.str l):=by
 simp [convStr,srcA,aN,mU]
theorem oP (R:Nat) (k:List UInt8) (rest:List UInt8) (a:UInt8) (n:Nat) (m:Mem) (hn:n=(a::(k++rest)).length) (ha:a.toNat=k.length) (hR:m.h R=some (.cells [.fsl false n (u8L (a::(k++rest)))])) (hn':n≤1000) :
  denC prog aw 94 [.ptr R 0 1] m=some (.str k,⟨upd m.h R (some (.cells [.fsl false rest.length (u8L rest)])),m.nx⟩):=by
 rw [eZ.al]
 have h1:=kO R _ n 1 m hR (by simp at hn;omega) hn'
 have e0:u8L (a::(k++rest))=.int .u8 a.toNat::u8L (k++rest):=rfl
 have e1:n - 1=(k++rest).length:=by simp at hn ⊢;omega
 have e2:(u8L (k++rest)).take (k++rest).length=u8L (k++rest):=List.take_of_length_le (by rw [aN];exact Nat.le_refl _)
 rw [e1,e0,List.take_succ_cons,List.take_zero,List.drop_succ_cons,List.drop_zero,e2] at h1
 have h2:=kO R (u8L (k++rest)) (k++rest).length k.length ⟨upd m.h R (some (.cells [.fsl false (k++rest).length (u8L (k++rest))])),m.nx⟩ (by simp) (by simp) (by simp at hn ⊢;omega)
 have e3:(u8L (k++rest)).take k.length=u8L k:=by rw [u8L,← List.map_take];simp [u8L]
 have e4:((u8L (k++rest)).drop k.length).take ((k++rest).length - k.length)=u8L rest:=by
  have:(u8L (k++rest)).drop k.length=u8L rest:=by rw [u8L,← List.map_drop];simp [u8L]
  rw [this]
  exact List.take_of_length_le (by rw [aN];simp)
 have e5:(k++rest).length - k.length=rest.length:=by simp
 rw [e3,e4,e5] at h2
 simp only [Int.natCast_one,List.length_append] at h1 h2
 have w:IntKind.wrap .i64 (a.toNat:Int)=(k.length:Int):=by
  have:a.toNat < 256:=a.toNat_lt
  rw [ha] at this ⊢;simp [IntKind.wrap,IntKind.signed,IntKind.bits];omega
 simp [h1,w,h2,tW]
end Go.Proofs.YtadofgdidhpnpaaGreatDoor

/-
  grow ON A LEAF. Conditions: none.
-/
namespace Go.Proofs.YtadofgdidhpnpaaGreatDoor
open Go.AM
open Go.Proofs
open Go.Proofs.Tryz (prog)
set_option linter.all false
set_option maxRecDepth 100000
theorem wx {k v:List UInt8}:∀ {ks vs:List (List UInt8)},ks.length=vs.length→k ∉ ks→setK prog 9 (.str k) (.str v) (ks.map .str) (vs.map .str)=some ((ks++[k]).map .str,(vs++[v]).map .str)
 | [],[],_,h=>rfl
 | k'::ks,[],h,_=>by simp at h
 | [],_::_,h,_=>by simp at h
 | k'::ks,v'::vs,h,hk=>by
  have e:(k==k')=false:=by rw [beq_eq_false_iff_ne];exact fun e=>hk (by simp [e])
  simp only [List.map_cons,setK,mJ,Option.bind_some,e,cond_false]
  rw [wx (by simpa using h) (fun h=>hk (by simp [h]))]
  rfl
theorem BZ {m:Mem} {E g:Nat} {k v:List UInt8} {ks vs:List (List UInt8)} (h:ks.length=vs.length) (hk:k ∉ ks) (hE:m.h E=some (.map g (ks.map .str) (vs.map .str))) :
  updM prog m 9 (.map E) (.str k) (.str v)=some (.tup [],⟨upd m.h E (some (.map (g+1) ((ks++[k]).map .str) ((vs++[v]).map .str))),m.nx⟩):=by
 simp only [updM,updP,ri,cond_true,hE,wx h hk,Option.bind_some,Option.map_some]
 rfl
theorem grow_step (C:List AV) (E Pg R g j:Nat) (n8:UInt8) (hER:E≠R) (hj:j < n8.toNat) (ks vs:List (List UInt8)) (hl:ks.length=vs.length) (k v rest:List UInt8) (a c:UInt8) (ha:a.toNat=k.length) (hc:c.toNat=v.length) (hk:k ∉ ks)
  (m:Mem) (hE:m.h E=some (.map g (ks.map .str) (vs.map .str))) (nn:Nat) (hnn:nn=(a::(k++c::(v++rest))).length) (hn:nn≤1000) (hR:m.h R=some (.cells [.fsl false nn (u8L (a::(k++c::(v++rest))))])) (K:List Item) :
   cg.L0 (.fptr C) (.int .i64 3) (.sptr [.map E,.map Pg]) (.ptr R 0 1) (.fsl false 2 [.int .u8 1,.int .u8 n8.toNat]) (.int .u8 n8.toNat) (.int .u8 j) m K =
   cg.L0 (.fptr C) (.int .i64 3) (.sptr [.map E,.map Pg]) (.ptr R 0 1) (.fsl false 2 [.int .u8 1,.int .u8 n8.toNat]) (.int .u8 n8.toNat) (.int .u8 (j+1:Nat))
    ⟨upd (upd m.h R (some (.cells [.fsl false rest.length (u8L rest)]))) E (some (.map (g+1) ((ks++[k]).map .str) ((vs++[v]).map .str))),m.nx+6⟩ K:=by
 have q1:(R==E)=false:=by simp;omega
 have q2:(E==R)=false:=by simp;omega
 have t1:=oP R k (c::(v++rest)) a nn m hnn ha hR hn
 have t2:=oP R v rest c (c::(v++rest)).length ⟨upd m.h R (some (.cells [.fsl false (c::(v++rest)).length (u8L (c::(v++rest)))])),m.nx+6⟩ rfl hc (by simp) (by simp at hnn ⊢;omega)
 simp only [List.length_cons,List.length_append] at t1 t2
 have u1:∀h:Nat→Option AObj,h E=some (.map g (ks.map .str) (vs.map .str))→∀n,updM prog ⟨h,n⟩ 9 (.map E) (.str k) (.str v)=some (.tup [],⟨upd h E (some (.map (g+1) ((ks++[k]).map .str) ((vs++[v]).map .str))),n⟩):=fun h h1 n=>BZ (m:=⟨h,n⟩) hl hk h1
 have w:IntKind.wrap .u8 ((j:Int)+1)=((j+1:Nat):Int):=by
  have:n8.toNat < 256:=n8.toNat_lt
  simp [IntKind.wrap,IntKind.signed,IntKind.bits];omega
 rw [cg.aM]
 simp [t1,t2,hj,u1,hE,hER,q1,q2,w]
theorem tT {n:Nat} {b:List UInt8} {ks vs:List (List UInt8)} (h:readK (n+1) b=some (ks,vs)):∃(a:UInt8) (k:List UInt8) (c:UInt8) (v rest:List UInt8) (ks' vs':List (List UInt8)),
  b=a::(k++c::(v++rest))∧a.toNat=k.length∧c.toNat=v.length∧readK n rest=some (ks',vs')∧ks=k::ks'∧vs=v::vs':=by
 unfold readK at h
 split at h
 ·cases h
 ·rename_i a b
  cases h1:Nat.ble a.toNat b.length with
  | false=>rw [h1] at h;cases h
  | true =>
   rw [h1,cond_true] at h
   rw [Nat.ble_eq] at h1
   split at h
   ·cases h
   ·rename_i c b' hd
    cases h2:Nat.ble c.toNat b'.length with
    | false=>rw [h2] at h;cases h
    | true =>
     rw [h2,cond_true] at h
     rw [Nat.ble_eq] at h2
     simp only [Option.map_eq_some_iff] at h
     obtain⟨⟨ks',vs'⟩,h3,h4⟩:=h
     cases h4
     refine⟨a,b.take a.toNat,c,b'.take c.toNat,b'.drop c.toNat,ks',vs',?_,by simp;omega,by simp;omega,h3,rfl,rfl⟩
     rw [List.take_append_drop,← hd,List.take_append_drop]
theorem oQ (C:List AV) (E Pg R:Nat) (n8:UInt8) (hER:E≠R):∀(cnt j g:Nat) (b:List UInt8) (ks vs ks' vs':List (List UInt8)) (m:Mem),j+cnt=n8.toNat→readK cnt b=some (ks',vs')→(ks++ks').Nodup→ks.length=vs.length →
  m.h E=some (.map g (ks.map .str) (vs.map .str))→b.length≤1000→m.h R=some (.cells [.fsl false b.length (u8L b)]) →
  ∃m':Mem,cg.L0 (.fptr C) (.int .i64 3) (.sptr [.map E,.map Pg]) (.ptr R 0 1) (.fsl false 2 [.int .u8 1,.int .u8 n8.toNat]) (.int .u8 n8.toNat) (.int .u8 j) m []=some (.tup [],m')∧m.nx≤m'.nx ∧
   (∃g',m'.h E=some (.map g' ((ks++ks').map .str) ((vs++vs').map .str)))∧∀x,x≠R→x≠E→m'.h x=m.h x
 | 0,j,g,b,ks,vs,ks',vs',m,hj,hr,hnd,hl,hE,hb,hR=>by
  have:ks'=[]∧vs'=[]:=by
   unfold readK at hr
   simp only [Option.some.injEq,Prod.mk.injEq] at hr
   exact⟨hr.1.symm,hr.2.symm⟩
  obtain⟨rfl,rfl⟩:=this
  have hj':decide (j < n8.toNat)=false:=by simp;omega
  refine⟨m,?_,Nat.le_refl _,⟨g,by simpa using hE⟩,fun _ _ _=>rfl⟩
  rw [cg.aM]
  simp [hj']
 | cnt+1,j,g,b,ks,vs,ks',vs',m,hj,hr,hnd,hl,hE,hb,hR=>by
  obtain⟨a,k,c,v,rest,ks2,vs2,rfl,ha,hc,hr2,rfl,rfl⟩:=tT hr
  have hk:k ∉ ks:=fun h=>by
   rw [List.nodup_append] at hnd
   exact hnd.2.2 k h k (by simp) rfl
  have hE':(E==R)=false:=by simpa using hER
  have hR':(R==E)=false:=by simpa using fun h=>hER h.symm
  rw [grow_step C E Pg R g j n8 hER (by omega) ks vs hl k v rest a c ha hc hk m hE _ rfl hb hR]
  obtain⟨m',k1,k2,k3,k4⟩:=oQ C E Pg R n8 hER cnt (j+1) (g+1) rest (ks++[k]) (vs++[v]) ks2 vs2
   ⟨upd (upd m.h R (some (.cells [.fsl false rest.length (u8L rest)]))) E (some (.map (g+1) ((ks++[k]).map .str) ((vs++[v]).map .str))),m.nx+6⟩ (by omega) hr2 (by simpa using hnd) (by simp [hl]) (by simp) (by simp at hb;omega) (by simp [hR'])
  refine⟨m',k1,by simp at k2;omega,by simpa using k3,fun x h1 h2=>?_⟩
  rw [k4 x h1 h2]
  have e1:(x==E)=false:=by simpa using h2
  have e2:(x==R)=false:=by simpa using h1
  simp [e1,e2]
theorem jQ {m:Mem} {Pg g:Nat} (z:AV) (n:Int) (hP:m.h Pg=some (.map g [] [])):lookP prog m 3 z (.map Pg) (.int .i64 n) true=some (.tup [z,.bool false]):=by
 have:keyT prog 3 (.int .i64 n)=true:=by kernel_rfl
 simp only [lookP,this,cond_true,lookA,hP,findK]
 rfl
theorem pR {h:Nat→Option AObj} {nx Pg g:Nat} (n:Int) (v:AV) (hP:h Pg=some (.map g [] [])):updM prog ⟨h,nx⟩ 3 (.map Pg) (.int .i64 n) v=some (.tup [],⟨upd h Pg (some (.map (g+1) [.int .i64 n] [v])),nx⟩):=by
 have:keyT prog 3 (.int .i64 n)=true:=by kernel_rfl
 simp only [updM,updP,this,cond_true,hP,setK]
 rfl
theorem xS (C:List AV) (h:C.head?=some (.bool true)) (top:Nat) (ht:top < 256) (ht2:2≤top) (n8:UInt8) (b:List UInt8) (hb:(1::n8::b).length=256) (hc:(C.drop (5+256*top)).take 256=u8L (1::n8::b)) (hl:5+256*top+256≤C.length)
  (ks vs:List (List UInt8)) (hr:readK n8.toNat b=some (ks,vs)) (hnd:ks.Nodup) (E Pg:Nat) (hEP:E≠Pg) (m:Mem) (hE:m.h E=some (.map 0 [] [])) (hP:m.h Pg=some (.map 0 [] [])) (hEx:E < m.nx) (hPx:Pg < m.nx) :
  ∃m':Mem,denC prog aw 69 [.agg [.map E,.map Pg],.fptr C,.int .i64 top,.int .i64 3] m=some (.tup [],m')∧m.nx≤m'.nx∧(∃g',m'.h E=some (.map g' (ks.map .str) (vs.map .str)))∧m'.h Pg=some (.map 1 [.int .i64 top] [.agg (u8L (1::n8::b))])∧∀x,x < m.nx→x≠E→x≠Pg→m'.h x=m.h x:=by
 rw [cg.al]
 have hrd:=tU C h top ht (1::n8::b) hb hc hl
 have d1:decide ((top:Int) < 2)=false:=by simp;omega
 obtain⟨Z,hZ⟩:∃Z,page0=Z:=⟨_,rfl⟩
 have h1:Z.length=256:=by rw [← hZ,cE]
 have h2:oneL Z=true:=by rw [← hZ];exact cR
 have h3:closedL Z=true:=by rw [← hZ];rfl
 have lk:=fun z n=>jQ (m:=m) z n hP
 have q1:(Pg==m.nx)=false:=by simp;omega
 have q2:(E==m.nx)=false:=by simp;omega
 have q3:(E==Pg)=false:=by simpa using hEP
 have q4:(m.nx==Pg)=false:=by simp;omega
 have q5:(m.nx==E)=false:=by simp;omega
 have e2:List.take 256 Z=Z:=List.take_of_length_le (by omega)
 have hc':(C.drop (5+top*256)).take 256=u8L (1::n8::b):=by rw [Nat.mul_comm top 256];exact hc
 have t5:256≤C.length - (5+top*256):=by omega
 have u1:∀h:Nat→Option AObj,h Pg=some (.map 0 [] [])→∀(nx:Nat) (n:Int) (v:AV),updM prog ⟨h,nx⟩ 3 (.map Pg) (.int .i64 n) v=some (.tup [],⟨upd h Pg (some (.map (0+1) [.int .i64 n] [v])),nx⟩):=fun h hP nx n v=>pR n v hP
 have hbl:b.length=254:=by simp at hb;omega
 have tk:∀(h:Nat→Option AObj) (nx R:Nat),h R=some (.cells [.fsl false 256 (u8L (1::n8::b))])→denC prog aw 93 [.ptr R 0 1,.int .i64 2] ⟨h,nx⟩=some (.fsl false 2 [.int .u8 1,.int .u8 n8.toNat],⟨upd h R (some (.cells [.fsl false b.length (u8L b)])),nx⟩):=fun h nx R hR=>by
  have t:=kO R (u8L (1::n8::b)) 256 2 ⟨h,nx⟩ hR (by omega) (by omega)
  have e1:(u8L (1::n8::b)).take 2=[.int .u8 1,.int .u8 n8.toNat]:=rfl
  have e3:((u8L (1::n8::b)).drop 2).take (256 - 2)=u8L b:=by
   show(u8L b).take 254=u8L b
   exact List.take_of_length_le (by rw [aN];omega)
  rw [e1,e3] at t
  rw [hbl]
  exact t
 simp [hZ,h1,h2,h3,e2,hP,hE,lk,d1,hrd,q1,q2,q3,ht,hc',t5,u1,tk]
 have p1:(Pg==m.nx+1+10+1)=false:=by simp;omega
 have p2:(Pg==m.nx+1+10)=false:=by simp;omega
 have p3:(E==m.nx+1+10+1)=false:=by simp;omega
 have p4:(E==m.nx+1+10)=false:=by simp;omega
 obtain⟨m',k1,k2,k3,k4⟩:=oQ C E Pg (m.nx+1+10+1) n8 (by omega) n8.toNat 0 0 b [] [] ks vs
  ⟨upd (upd (upd (upd m.h m.nx none) Pg (some (.map 1 [.int .i64 top] [.agg (u8L (1::n8::b))]))) (m.nx+1+10) none) (m.nx+1+10+1) (some (.cells [.fsl false b.length (u8L b)])),m.nx+1+10+1+1⟩
  (by omega) hr (by simpa using hnd) rfl (by simp [p3,p4,q3,q2,hE]) (by omega) (by simp)
 refine⟨m',k1,by simp at k2;omega,by simpa using k3,?_,fun x hx h1 h2=>?_⟩
 ·rw [k4 Pg (by omega) (by omega)]
  simp [p1,p2]
 ·rw [k4 x (by omega) h1]
  have r1:(x==m.nx)=false:=by simp;omega
  have r2:(x==m.nx+1+10)=false:=by simp;omega
  have r3:(x==m.nx+1+10+1)=false:=by simp;omega
  have r4:(x==Pg)=false:=by simpa using h2
  simp [r1,r2,r3,r4]
end Go.Proofs.YtadofgdidhpnpaaGreatDoor

/-
  load's BODY. Conditions: none.
-/
namespace Go.Proofs.YtadofgdidhpnpaaGreatDoor
open Go.AM
open Go.Proofs
open Go.Proofs.Tryz (prog)
set_option linter.all false
set_option maxRecDepth 100000
theorem mT (m:Mem):denC prog aw 44 [] m=some (.agg [.map (m.nx+1),.map (m.nx+2)],⟨upd (upd (upd (upd m.h m.nx (some (.cells [.nilm,.nilm]))) (m.nx+1) (some (.map 0 [] []))) (m.nx+1+1) (some (.map 0 [] []))) m.nx (some (.cells [.map (m.nx+1),.map (m.nx+2)])),m.nx+3⟩):=by
 rw [iX.al]
 have q1:(m.nx==m.nx+1+1)=false:=by simp;omega
 have q2:(m.nx==m.nx+1)=false:=by simp
 simp [q1,q2]
theorem tR (C:List AV) (n:Int) (t:List (Nat×AV)) (h:Nat→Option AObj) (h0:AM.get t 0=.fptr C) (h3:AM.get t 3=.fptr [.int .u64 n,.int .i64 0]) (h4:AM.get t 4=.ptr 0 0 2) (h5:AM.get t 5=.ptr 1 0 1) (o0:h 0=some (.cells [.nilm,.nilm])) (o1:h 1=some (.cells [.bool false])) :
  ∃m':Mem,den prog aw 43 [.code cf.b] ⟨t,17,⟨h,2⟩⟩=some (.tup [.agg [.map 3,.map 4],.bool true],m')∧m'.h 3=some (.map 0 [] [])∧m'.h 4=some (.map 0 [] []):=by
 have em:=fun h:Nat→Option AObj=>mT ⟨h,2⟩
 simp [h0,h3,h4,h5,em,o0,o1]
theorem tS (C:List AV) (n:Int) (h:C.head?=some (.bool true)) (top:Nat) (ht:top < 256) (ht2:2≤top) (n8:UInt8) (b:List UInt8) (hb:(1::n8::b).length=256) (hc:(C.drop (5+256*top)).take 256=u8L (1::n8::b)) (hl:5+256*top+256≤C.length)
  (ks vs:List (List UInt8)) (hr:readK n8.toNat b=some (ks,vs)) (hnd:ks.Nodup)
  (t:List (Nat×AV)) (hh:Nat→Option AObj) (h0:AM.get t 0=.fptr C) (h3:AM.get t 3=.fptr [.int .u64 n,.int .i64 top]) (h4:AM.get t 4=.ptr 0 0 2) (h5:AM.get t 5=.ptr 1 0 1) (o0:hh 0=some (.cells [.nilm,.nilm])) (o1:hh 1=some (.cells [.bool false])) :
  ∃(m':Mem) (g':Nat),den prog aw 43 [.code cf.b] ⟨t,17,⟨hh,2⟩⟩=some (.tup [.agg [.map 3,.map 4],.bool true],m')∧m'.h 3=some (.map g' (ks.map .str) (vs.map .str))∧m'.h 4=some (.map 1 [.int .i64 top] [.agg (u8L (1::n8::b))]):=by
 have em:=fun h:Nat→Option AObj=>mT ⟨h,2⟩
 have d1:decide (top=0)=false:=by simp;omega
 obtain⟨H,hH⟩:∃H,(upd (upd (upd (upd (upd hh 2 (some (AObj.cells [AV.nilm,AV.nilm]))) 3 (some (AObj.map 0 [] []))) 4 (some (AObj.map 0 [] []))) 0 (some (AObj.cells [AV.map 3,AV.map 4]))) 2 (some (AObj.cells [AV.map 3,AV.map 4])))=H:=⟨_,rfl⟩
 obtain⟨m',k1,k2,⟨g',k3⟩,k4,k5⟩:=xS C h top ht ht2 n8 b hb hc hl ks vs hr hnd 3 4 (by decide) ⟨H,5⟩ (by simp [← hH]) (by simp [← hH]) (by simp) (by simp)
 have e0:m'.h 0=some (.cells [.map 3,.map 4]):=by rw [k5 0 (by simp) (by simp) (by simp)];simp [← hH]
 have e1:m'.h 1=some (.cells [.bool false]):=by rw [k5 1 (by simp) (by simp) (by simp)];simp [← hH,o1]
 have eH:H 0=some (.cells [.map 3,.map 4]):=by simp [← hH]
 simp [h0,h3,h4,h5,em,o0,o1,d1,hH,eH,k1,e0,e1,k3,k4]
end Go.Proofs.YtadofgdidhpnpaaGreatDoor

/-
  load's DEFERRED CLOSURE, WHERE NOTHING PANICKED. Conditions: none.
-/
namespace Go.Proofs.YtadofgdidhpnpaaGreatDoor
open Go.Proofs Go.RowKit Go.Shelf
open Go.Proofs.Tryz (prog)
set_option linter.all false
set_option maxRecDepth 100000 in
set_option maxHeartbeats 2000000 in
theorem zW (n:Nat) (p4 p5:Value) (T:TypeId) (u:Value) (W:World) (h:W.cell? ⟨0,0,none⟩=some (.iface T u)) :
  CallsDIn Fence.wide n prog 68 #[p4,p5] .returning W fun e u' w'=>u'=.returning∧e=.returned (.tuple #[])∧w'=W:=by
 refine callsDIn_of_wpSIn Tryz.func68 rfl trivial fun c0 cs hu=>?_
 apply wpSIn_seq
 apply wpSIn_region
 simp [wpOpsSIn,go_sem,recoverD,hu,Tryz.ntmps68,Exit.thenS]
 apply wpSIn_seq
 apply wpSIn_region
 have he:=run_eql_iface_nil_left (P:=prog) (w:=W) (ti:=20) (ms:=#[]) T u (by kernel_rfl)
 simp [wpOpsSIn,go_sem,h,he,Exit.thenS]
 refine wpSIn_cond (t:=false) (by simp [Act.eval]) ?_
 apply wpSIn_seq
 apply wpSIn_region
 simp [wpOpsSIn,go_sem,Exit.thenS]
 refine wpSIn_cond (t:=false) (by simp [Act.eval]) ?_
 show Code.skip.wpSIn _ _ _ _ _ _ _
 refine wpSIn_of_wpIn rfl (wpIn_skip ?_)
 simp [bodyPostS,results,Tryz.results68,hu]
 cases c0
 simp at hu
 subst hu
 rfl
end Go.Proofs.YtadofgdidhpnpaaGreatDoor

/-
  A ROUND OF leaves, AS THE MACHINE ASKS FOR IT. Conditions: none.
-/
namespace Go.Proofs.YtadofgdidhpnpaaGreatDoor
open Go.AM
open Go.Proofs
open Go.Proofs.Tryz (prog)
set_option linter.all false
set_option maxRecDepth 100000
theorem ndb:ndC false aF.b=true:=by kernel_rfl
theorem He:aF.ba=aF.s3:=by kernel_rfl
theorem cU (w:World) (l:Nat) (o:Obj) {b:Nat} (h:b≠l):(w.putObj l o).heap[b]?=w.heap[b]?:=World.putObj_heap_other h
theorem B0 {n:Nat} {g:FuncId} {m:Mem} {w:World} {N:Nat→Prop} {i:Pl} {s:St} {a:Act} {l:Nat} {r:Loop} {ks vs S:List (List UInt8)} {O:Nat} {v:Value} (hl:ks.length=vs.length) (hv:∀v∈vs,v.length≤100) (hSk:∀k∈S,k∈ks∧k.length≤100) (hSl:S.length≤9)
  (hs:Sim m w N i) (hf:Fresh m i) (hst:bG w N i s a) (hsm:s.m=m) (hnt:s.nt=37) (h1:s.get 1=.fptr [.fmap (ks.map .str) (vs.map .str)]) (h3:s.get 3=.ptr O 0 1) (hO:m.h O=some (.cells [.nils])) (hOx:O < m.nx) (hval:Rep w N i (.fsl false S.length (S.map .str)) v)
  (hrec:w.heap[l]?=some (.loop r)) (hrs:r.state=.ready) (hrp:r.pending=none) (hlN:¬N l) (hlL:¬Live m i l) :
  RoundIn Fence.wide n prog l g (a.tmps.setIfInBounds 12 v) aF.ba aF.b w fun e w'=>e=.returned (.bool true) ∧
   ∃(m':Mem) (P:Nat) (N':Nat→Prop) (i':Pl),Sim m' w' N' i'∧Ext m w N i m' (w'.putObj l (.loop r)) N' i'∧w'.heap[l]?=some (.loop { r with state:=.ready,pending:=none })∧O≠P∧m'.h O=some (.cells [.sl P 256 0 1 256])∧m'.h P=some (.cells (u8L (padB (1::UInt8.ofNat S.length::(S.map (entB ks vs)).flatten)))):=by
 have hll:l < w.heap.size:=(Array.getElem?_eq_some_iff.1 hrec).1
 have hF:Free (Fence.wide.inRound l):=.inr ⟨l,rfl⟩
 refine roundIn_of_wpIn trivial ?_
 have hp:=hst.put (d:=some 12) (s':=⟨(12,.fsl false S.length (S.map .str))::s.t,s.nt,s.m⟩) (by simp [St.put,hnt]) hval
 rw [He]
 have act:({ tmps:=a.tmps.setIfInBounds 12 v,defers:=[] }:Act)=more (a.put (some 12) v) []:=by
  simp [more,Act.put,hst.dfr]
 rw [act]
 have hg0:AM.Good m w N i ⟨(12,.fsl false S.length (S.map .str))::s.t,s.nt,s.m⟩ (a.put (some 12) v) w:=⟨N,i,by rw [hsm];exact hs,by rw [hsm];exact Ext.refl _ _ _ _,hp⟩
 have hr3:regS prog aw 53 aF.s3 ⟨(12,.fsl false S.length (S.map .str))::s.t,s.nt,s.m⟩=some ⟨(4,.fsl false S.length (S.map .str))::(12,.fsl false S.length (S.map .str))::s.t,37,m⟩:=by
  rw [aF.CJ]
  simp [mregS,mrunS,mb,hnt,hsm]
 refine gl mixed gI gr hF hf (f:=53) (by kernel_rfl) hr3 hg0 ?_
 rintro a1 w1 ⟨N1,i1,s1,e1,t1⟩
 have hN1:¬N1 l:=fun h=>by
  rcases e1.iV l h with h | h | h
  ·exact hlN h
  ·exact hlL h
  ·omega
 have hL1:¬Live m i1 l:=fun h=>by
  rcases e1.grow l h with h | h
  ·exact hlL h
  ·omega
 have hr1:w1.heap[l]?=some (.loop r):=(e1.keep l hll hlL).trans hrec
 have hl1:l < w1.heap.size:=(Array.getElem?_eq_some_iff.1 hr1).1
 refine⟨_,run_beginRound hr1 hrs,?_⟩
 obtain⟨w2,hw2⟩:∃w2,w1.putObj l (.loop { r with state:=.busy })=w2:=⟨_,rfl⟩
 rw [hw2]
 have ho2:∀b,b≠l→w2.heap[b]?=w1.heap[b]?:=fun b hb=>by rw [← hw2];exact cU _ _ _ hb
 have hz2:w2.heap.size=w1.heap.size:=by rw [← hw2];simp
 have s2:Sim m w2 N1 i1:=s1.other (Nat.le_of_eq hz2.symm) (fun b hb=>ho2 b fun e=>hN1 (e ▸ hb)) (fun b hb=>ho2 b fun e=>hL1 (e ▸ hb))
 have t2:bG w2 N1 i1 _ a1:=t1.mono (w':=w2) (N':=N1) (i':=i1) ⟨fun _ h=>h,fun b hb=>ho2 b fun e=>hN1 (e ▸ hb),fun _ _ _ h=>h⟩
 have hrec2:w2.heap[l]?=some (.loop { r with state:=.busy }):=by rw [← hw2];exact World.putObj_heap_same hl1
 have g1:AM.get ((4,.fsl false S.length (S.map .str))::(12,.fsl false S.length (S.map .str))::s.t) 1=.fptr [.fmap (ks.map .str) (vs.map .str)]:=by simp;exact h1
 have g3:AM.get ((4,.fsl false S.length (S.map .str))::(12,.fsl false S.length (S.map .str))::s.t) 3=.ptr O 0 1:=by simp;exact h3
 obtain⟨M,P,k1,k2,k3,k4⟩:=pH hl hv O S hSk hSl _ m g1 g3 (by simp) hO hOx
 refine wi mixed gI gr hF (hf.ext e1) (f:=53) (fn:=Tryz.f53) (by kernel_rfl) ndb k1 ⟨N1,i1,s2,Ext.refl _ _ _ _,t2⟩ ?_
 rintro s' a' w' ⟨N3,i3,s3,e3,t3⟩ hfin
 refine⟨?_,fun h=>by cases h⟩
 have hsm':s'.m=M:=by
  have hp0:(aw 53).pure=false:=by kernel_rfl
  simp only [finA,hp0,cond_false,Option.bind_eq_some_iff] at hfin
  obtain⟨vs',_,h9⟩:=hfin
  exact congrArg (fun r:Option Res=>(r.map (·.2)).getD Mem.empty) h9
 rw [hsm'] at s3 e3
 have hl2:l < w2.heap.size:=by rw [hz2];exact hl1
 have hr3':w'.heap[l]?=some (.loop { r with state:=.busy }):=(e3.keep l hl2 hL1).trans hrec2
 have hN3:¬N3 l:=fun h=>by
  rcases e3.iV l h with h | h | h
  ·exact hN1 h
  ·exact hL1 h
  ·omega
 have hL3:¬Live M i3 l:=fun h=>by
  rcases e3.grow l h with h | h
  ·exact hL1 h
  ·omega
 refine⟨_,_,run_endRound none hr3',rfl,M,P,N3,i3,?_,?_,?_,k2,k3,k4⟩
 ·exact s3.other (by simp) (fun b hb=>cU _ _ _ fun e=>hN3 (e ▸ hb)) (fun b hb=>cU _ _ _ fun e=>hL3 (e ▸ hb))
 ·have e3':Ext m w1 N1 i1 M ((w'.putObj l (.loop { ({ r with state:=.busy }:Loop) with state:=.ready,pending:=none })).putObj l (.loop r)) N3 i3:=by
   have hos:w2.os=w1.os∧w2.tape=w1.tape∧w2.output=w1.output:=by rw [← hw2];exact⟨rfl,rfl,rfl⟩
   refine⟨e3.os.trans hos.1,e3.tape.trans hos.2.1,e3.output.trans hos.2.2,by simp;rw [← hz2];exact e3.size,e3.hN,e3.hi,fun b hb hnl=>?_,fun b hb=>(e3.grow b hb).imp_right fun h=>by rwa [← hz2],fun b hb=>(e3.iV b hb).imp_right fun h=>h.imp_right fun h=>by rwa [← hz2],e3.nx,e3.pl⟩
   by_cases hbl:b=l
   ·subst hbl
    rw [hr1]
    exact World.putObj_heap_same (by simp;exact(Array.getElem?_eq_some_iff.1 hr3').1)
   ·rw [cU _ _ _ hbl,cU _ _ _ hbl,e3.keep b (by rw [hz2];exact hb) hnl,ho2 b hbl]
  exact e1.trans e3'
 ·exact World.putObj_heap_same (Array.getElem?_eq_some_iff.1 hr3').1
end Go.Proofs.YtadofgdidhpnpaaGreatDoor
