/-
  A CHEST WRITES (2). Conditions: none.
-/
import Derived.Test.YtadofgdidhpnpaaGreatDoorK04
import Derived.Test.YtadofgdidhpnpaaGreatDoorKAmG
set_option linter.all false
namespace Go.Proofs.YtadofgdidhpnpaaGreatDoor
open Go.AM
open Go.Proofs
open Go.Proofs.Tryz (prog)
set_option linter.all false
set_option maxRecDepth 100000
section
variable {m : Mem} {ch dk S lf tn op n t pg g : Nat} {p : Nat → List UInt8} {xs : List AV}
variable (hn : n < 1000) (hc : m.h ch = some (.cells xs)) (hx : xs.length = 12) (hxd : xs[2]? = some (.ptr dk 0 65542)) (hch : ch < m.nx) (hcd : ch ≠ dk) (hcS : ch ≠ S)
include hn hc hx hxd hch hcd hcS
theorem Eg {r:Nat} (hr:(n+1) % 2=r) (d:DSt m dk S false 0 tn op p [] []) (hP:m.h pg=some (.map g [] [])) :
  ∃m' S',denC prog ann 25 [.ptr ch 0 12,.map pg,.agg [.int .u64 n,.int .i64 t]] m=some (.int .i64 0,m')∧Fr m m' dk S∧m.nx≤S'∧DSt m' dk S' false 0 tn op (updP p r (padB (rootW n t))) [] []:=by
 rw [aD.al]
 obtain⟨m',S',dn',ks',vs',k1,k2,k3,k4,_,k5⟩:=oY (m:=m) (t:=t) (T:=[(18,.bool false),(18,.bool false),(0,.ptr ch 0 12),(1,.map pg),(5,.fptr [.int .u64 n,.int .i64 t]),(15,.nils),(16,.int .i64 0),(17,.int .i64 0)]) (by simp) (by simp) hn hc hx hxd hch hcd hcS hr d (by omega) (by omega)
 obtain⟨rfl,rfl,rfl⟩:=k5 (by omega)
 refine⟨m',S',?_,k2,k3,k4⟩
 have z:=sq m hP
 simp [frozenPtr,js,z,-aD.bU]
 rw [aD.aM]
 simp [-aD.bU]
 exact k1
theorem write1 {k r:Nat} (hr:(n+1) % 2=r) (hk:k < 256) (hkr:k≠r) {b:List UInt8} (hb:b.length=256) (hl:lf≤1000) (d:DSt m dk S false lf tn op p [] []) (hP:m.h pg=some (.map g [.int .i64 k] [.agg (u8L b)])) (hpx:pg < m.nx) (hpd:pg≠dk) (hpS:pg≠S) :
  ∃m' S' dn' p' ks' vs',denC prog ann 25 [.ptr ch 0 12,.map pg,.agg [.int .u64 n,.int .i64 t]] m=some (.int .i64 (if lf=1∨lf=2∨lf=3∨lf=4 then 8 else 0),m')∧Fr m m' dk S∧(S'=S∨m.nx≤S')∧DSt m' dk S' dn' (lf - 4) tn op p' ks' vs' ∧
   (lf=1∨lf=2→dn'=true∧p'=updP p k b∧ks'=[.int .i64 k]∧vs'=[.agg (u8L (p k))]) ∧
   (lf=3∨lf=4→dn'=true∧p'=updP (updP p k b) r (padB (rootW n t))∧ks'=[.int .i64 r]∧vs'=[.agg (u8L (p r))]) ∧
   (¬(lf=1∨lf=2∨lf=3∨lf=4)→dn'=false∧p'=updP (updP p k b) r (padB (rootW n t))∧ks'=[]∧vs'=[]):=by
 rw [aD.al]
 have z:=uk hk m hP
 have hpad:padB b=b:=by rw [pJ,hb,List.take_of_length_le (by omega)];simp
 obtain⟨Z,hZ⟩:∃Z,page0=Z:=⟨_,rfl⟩
 have h1:Z.length=256:=by rw [← hZ,cE]
 have h2:oneL Z=true:=by rw [← hZ];exact cR
 have e2:List.take 256 (u8L b)=u8L b:=List.take_of_length_le (by rw [aN];omega)
 have e3:List.drop 256 Z=[]:=List.drop_of_length_le (by omega)
 have lk:∀z,lookP prog m 3 z (.map pg) (.int .i64 k) false=some (.agg (u8L b)):=fun z=>by
  have:keyT prog 3 (.int .i64 k)=true:=by kernel_rfl
  have e:keyEq prog 3 (.int .i64 k) (.int .i64 k)=some true:=by simp [keyEq,scV,eqSc,show prog.underlying 3=some (.int .i64) from by kernel_rfl]
  simp only [lookP,this,cond_true,lookA,hP,findK,e,Option.bind_some]
  rfl
 have d1:=d.keep (m':=⟨upd m.h m.nx none,m.nx+1+8⟩) ⟨by simp;omega,fun x hx=>by
  have:(x==m.nx)=false:=by simp;omega
  simp [this]⟩
 obtain⟨m1,k1,k2,d2⟩:=sr d1 hl hk true (b:=b) (by omega) hb.symm
 rw [hpad] at d2
 obtain⟨q1,q2⟩:=List.getElem?_eq_some_iff.1 hxd
 have qn:(ch==m.nx)=false:=by simp;omega
 have sa:sliceArr 256 1 (.fptr (u8L b)) none none=some (.fsl true 256 (u8L b)):=by simp [sliceArr,bnds,bnd,aN,hb,e2]
 have f1:Fr m m1 dk S:=(Keep.fr (b:=⟨upd m.h m.nx none,m.nx+1+8⟩) ⟨by simp;omega,fun x hx=>by
  have:(x==m.nx)=false:=by simp;omega
  simp [this]⟩ dk S).trans k2 (.inl rfl)
 by_cases l1:lf=1
 ·subst l1
  simp at k1 d2
  refine⟨m1,S,true,_,_,_,?_,f1,.inl rfl,d2,fun _=>⟨rfl,rfl,rfl,rfl⟩,fun h=>by omega,fun h=>by omega⟩
  simp [frozenPtr,js,z,-aD.bU]
  rw [aD.aM]
  simp [lk,hZ,h1,h2,aN,cQ,bZ,hb,e2,e3,qn,hc,hx,hxd,q2,sa,k1,-aD.bU]
 ·have l1':decide (lf=1)=false:=by simp [l1]
  rw [l1'] at d2
  rw [if_neg l1] at k1
  have c1:m1.h ch=some (.cells xs):=(f1.2 ch hch hcd hcS).trans hc
  have run:∀R,den prog ann 25 [.code aD.r9,.code aD.r10,.code aD.i2,.code aD.r12,.code aD.r13,.code aD.i3,.code aD.r15,.code .ret] ⟨[(18,.bool false),(18,.bool false),(0,.ptr ch 0 12),(1,.map pg),(5,.fptr [.int .u64 n,.int .i64 t]),(15,.fsl false 1 [.int .i64 k]),(16,.int .i64 1),(17,.int .i64 1)],63,m1⟩=R →
    den prog ann 25 [.code aD.b] ⟨[(0,.ptr ch 0 12),(1,.map pg),(2,.agg [.int .u64 n,.int .i64 t])],63,m⟩=R:=by
   intro R hR
   rw [← hR]
   simp [frozenPtr,js,z,-aD.bU]
   rw [aD.aM]
   simp [lk,hZ,h1,h2,aN,cQ,bZ,hb,e2,e3,qn,hc,hx,hxd,q2,sa,k1,wi1,-aD.bU]
   rw [aD.aM]
   simp [-aD.bU]
  by_cases l2:lf=2
  ·subst l2
   obtain⟨m2,k3,k4,d3⟩:=yx (m:=m1) (t:=t) (T:=[(18,.bool false),(18,.bool false),(0,.ptr ch 0 12),(1,.map pg),(5,.fptr [.int .u64 n,.int .i64 t]),(15,.fsl false 1 [.int .i64 k]),(16,.int .i64 1),(17,.int .i64 1)]) (by simp) (by simp) hn c1 hx hxd (Nat.lt_of_lt_of_le hch f1.1) hcd hcS d2
   exact⟨m2,S,true,_,_,_,run _ k3,f1.trans k4 (.inl rfl),.inl rfl,d3,fun _=>⟨rfl,rfl,rfl,rfl⟩,fun h=>by omega,fun h=>by omega⟩
  ·obtain⟨m2,S2,dn2,ks2,vs2,k3,k4,k5,d3,o1,o2⟩:=oY (m:=m1) (t:=t) (T:=[(18,.bool false),(18,.bool false),(0,.ptr ch 0 12),(1,.map pg),(5,.fptr [.int .u64 n,.int .i64 t]),(15,.fsl false 1 [.int .i64 k]),(16,.int .i64 1),(17,.int .i64 1)]) (by simp) (by simp) hn c1 hx hxd (Nat.lt_of_lt_of_le hch f1.1) hcd hcS hr d2 (by omega) (by omega)
   have el:lf - 1 - 3=lf - 4:=by omega
   rw [el] at d3
   have er:updP p k b r=p r:=by simp only [updP];rw [if_neg (fun h=>hkr h.symm)]
   rw [er] at o1
   have k3':=run _ k3
   have ec:(if lf - 1=2∨lf - 1=3 then(8:Int) else 0)=if lf=1∨lf=2∨lf=3∨lf=4 then 8 else 0:=by
    by_cases h:lf=3∨lf=4
    ·rw [if_pos (by omega),if_pos (by omega)]
    ·rw [if_neg (by omega),if_neg (by omega)]
   rw [ec] at k3'
   refine⟨m2,S2,dn2,_,ks2,vs2,k3',f1.trans k4 (.inl rfl),.inr (Nat.le_trans f1.1 k5),d3,fun h=>by omega,fun h=>?_,fun h=>?_⟩
   ·obtain⟨a1,a2,a3⟩:=o1 (by omega);exact⟨a1,rfl,a2,a3⟩
   ·obtain⟨a1,a2,a3⟩:=o2 (by omega);exact⟨a1,rfl,a2,a3⟩
end
end Go.Proofs.YtadofgdidhpnpaaGreatDoor

/-
  A NEW DISK; IS A DISK NEW? Conditions: none.
-/
namespace Go.Proofs.YtadofgdidhpnpaaGreatDoor
open Go.AM
open Go.Proofs
open Go.Proofs.Tryz (prog)
set_option linter.all false
set_option maxRecDepth 100000
def zp:List UInt8:=List.replicate 256 0
theorem gv:zp.length=256:=by simp [zp]
theorem wJ (p:Nat→List UInt8):∀(c s:Nat),oneL (pgF p s c)=true
 | 0,_=>rfl
 | c+1,s=>by rw [pgF,fE,cQ,wJ p c (s+1)];rfl
theorem si:∀(c s:Nat),pgF (fun _=>zp) s c=List.replicate (c*256) (.int .u8 0)
 | 0,s=>by rw [Nat.zero_mul];rfl
 | c+1,s=>by
  rw [pgF,si c (s+1),show(c+1)*256=256+c*256 by omega,← List.replicate_append_replicate]
  congr 1
theorem Hp:Tail (List.replicate 65536 (.int .u8 0)++[.nilm]) (fun _=>zp) .nilm:=⟨by rw [si],fun _=>gv⟩
theorem pW (m:Mem):∃m',denC prog ann 6 [] m=some (.ptr (m.nx+1) 0 65542,m')∧Keep m m'∧DSt m' (m.nx+1) m.nx false 0 0 0 (fun _=>zp) [] []:=by
 rw [iY.al]
 obtain⟨T,hT⟩:∃T,(List.replicate 65536 (AV.int .u8 0)++[AV.nilm])=T:=⟨_,rfl⟩
 have t0:=Hp
 rw [hT] at t0
 have hl:=t0.len
 have z74:zeroT prog 74=some (.agg (.bool false::.bool false::.int .i64 0::.int .i64 0::.int .i64 0::T)):=by
  rw [Ek,disk0,hT];rfl
 have es:List.take 65536 T++(.map m.nx::List.drop 65537 T)=T.set 65536 (.map m.nx):=by
  rw [List.set_eq_take_append_cons_drop,if_pos (by omega)]
 have one:oneL (T.set 65536 (.map m.nx))=true:=by
  rw [(t0.gw (.map m.nx)).eq,fE,wJ];rfl
 have t1:=t0.gw (.map m.nx)
 have hl1:=t1.len
 simp [z74,hl,es,one,hl1]
 refine⟨⟨by simp;omega,fun x hx=>?_⟩,⟨⟨_,0,by simp [dkc],t1,by have q:(m.nx==m.nx+1)=false:=(by simp);simp [q]⟩,by simp;omega,by simp,by omega⟩⟩
 have r1:(x==m.nx)=false:=by simp;omega
 have r2:(x==m.nx+1)=false:=by simp;omega
 simp [r1,r2]
theorem AD:flatT prog 71=some (List.replicate 256 5):=by kernel_rfl
theorem IK:prog.underlying 5=some (.int .u8):=by kernel_rfl
theorem p9:∀(n:Nat) (a b:List UInt8),a.length=n→b.length=n→eqCs prog (List.replicate n 5) (u8L a) (u8L b)=some (decide (a=b))
 | 0,a,b,ha,hb=>by
  have:a=[]:=by simpa using ha
  have:b=[]:=by simpa using hb
  subst a b;rfl
 | n+1,a,b,ha,hb=>by
  match a,b,ha,hb with
  | x::a,y::b,ha,hb =>
   have ih:=p9 n a b (by simpa using ha) (by simpa using hb)
   show eqCs prog (5::List.replicate n 5) (.int .u8 x.toNat::u8L a) (.int .u8 y.toNat::u8L b)=_
   simp only [eqCs,scV,IK,eqSc]
   by_cases h:x=y
   ·subst h;simp [ih]
   ·have h':¬x.toNat=y.toNat:=fun e=>h (UInt8.toNat_inj.1 e)
    have:((x.toNat:Int)==(y.toNat:Int))=false:=by rw [beq_eq_false_iff_ne];exact fun e=>h' (by omega)
    simp [this,h]
theorem Db {a b:List UInt8} (ha:a.length=256) (hb:b.length=256):binA prog .eql 71 (.agg (u8L a)) (.agg (u8L b))=some (.bool (decide (a=b))):=by
 have h:=p9 256 a b ha hb
 simp only [binA,eqT,eqA,AD,Option.bind_some,cond_true,aN,ha,hb,h]
 rfl
theorem Dc {a b:List UInt8} (ha:a.length=256) (hb:b.length=256):binA prog .neq 71 (.agg (u8L a)) (.agg (u8L b))=some (.bool (!decide (a=b))):=by
 have h:=p9 256 a b ha hb
 simp only [binA,eqT,eqA,AD,Option.bind_some,cond_true,aN,ha,hb,h]
 rfl
theorem sn {p:Nat→List UInt8} (hp:∀i,(p i).length=256) {k:Nat} (hk:k < 256):idxAgg 256 256 true (.agg (pgF p 0 256)) (.int .i64 k)=some (.agg (u8L (p k))):=by
 have e:pgF p 0 256=pgF p 0 k++(u8L (p k)++pgF p (k+1) (255 - k)):=by
  conv=>lhs;rw [show 256=k+((255 - k)+1) by omega,qa,pgF,Nat.zero_add]
 have e1:((pgF p 0 256).drop (k*256)).take 256=u8L (p k):=by
  rw [e,List.drop_left' (dj hp k 0),List.take_left' (by rw [aN,hp])]
 have h1:inR (k:Int) 256=true:=by simp [inR];omega
 have h2:Nat.ble (k*256+256) (pgF p 0 256).length=true:=by rw [dj hp,Nat.ble_eq];omega
 simp only [idxAgg,h1,cond_true,partA,Int.toNat_natCast,h2,e1]
theorem oX (R:List UInt8) (hR:R.length=256):∀(k i:Nat) (m:Mem),i+k=256→0 < i →
  ∃m',bX.L0 (.fptr (u8L R)) (.agg (pgF (fun _=>zp) 0 256)) (.int .i64 i) m [.code bX.r19,.code .ret]=some (.bool true,m')∧Keep m m'
 | 0,i,m,hi,h0=>by
  have:i=256:=by omega
  subst this
  refine⟨m,?_,Keep.refl m⟩
  rw [bX.aM]
  simp
 | k+1,i,m,hi,h0=>by
  have d1:decide ((i:Int) < 256)=true:=by simp;omega
  have d2:decide ((0:Int) < (i:Int))=true:=by simp;omega
  have d3:decide ((i:Int)=0)=false:=by simp;omega
  have w:IntKind.wrap .i64 ((i:Int)+1)=((i+1:Nat):Int):=by simp [IntKind.wrap,IntKind.signed,IntKind.bits];omega
  obtain⟨Z,hZ⟩:∃Z,page0=Z:=⟨_,rfl⟩
  have h1:Z.length=256:=by rw [← hZ,cE]
  have h2:oneL Z=true:=by rw [← hZ];exact cR
  have h3:closedL Z=true:=by rw [← hZ];rfl
  have hZu:u8L zp=Z:=by rw [← hZ,gZ,zp]
  have e2:List.take 256 Z=Z:=List.take_of_length_le (by omega)
  have e3:List.drop 256 Z=[]:=List.drop_of_length_le (by omega)
  have ix:idxAgg 256 256 true (.agg (pgF (fun _=>zp) 0 256)) (.int .i64 i)=some (.agg Z):=by
   rw [sn (fun _=>gv) (by omega),hZu]
  have d4:decide (0 < i)=true:=by simp;omega
  have d5:decide (i=0)=false:=by simp;omega
  have nq:=Dc gv gv
  rw [hZu] at nq
  obtain⟨m',k1,k2⟩:=oX R hR k (i+1) ⟨upd m.h m.nx none,m.nx+1⟩ (by omega) (by omega)
  refine⟨m',?_,Keep.trans ⟨by simp,fun x hx=>by
   have:(x==m.nx)=false:=by simp;omega
   simp [this]⟩ k2⟩
  rw [bX.aM]
  simp [d1,d2,d3,hZ,h1,h2,h3,e2,e3,ix,nq,w,d4,d5]
  simpa using k1
theorem qb (x:Bool) (l:List UInt8) (m:Mem):denC prog ann 45 [.fsl x l.length (u8L l)] m=some (.agg (u8L (padB l)),m):=by
 rw [jW.al _ _ (by simp)]
 obtain⟨Z,hZ⟩:∃Z,page0=Z:=⟨_,rfl⟩
 have h1:Z.length=256:=by rw [← hZ,cE]
 have h2:oneL Z=true:=by rw [← hZ];exact cR
 have h3:List.take (min l.length 256) (u8L l)++List.drop (min l.length 256) Z=u8L (padB l):=by
  have:=lI l
  rw [← gZ,hZ,splice,List.take_zero,List.nil_append,List.length_take,aN,Nat.zero_add] at this
  rw [← this]
  congr 2
  omega
 have h4:=dK l
 have h6:min l.length 256+(256 - min l.length 256)=256:=by omega
 have h7:List.take 256 (u8L (padB l))=u8L (padB l):=List.take_of_length_le (by rw [aN,h4];exact Nat.le_refl _)
 have h8:List.drop 256 Z=[]:=List.drop_of_length_le (by omega)
 simp [hZ,h1,h2,aN,cQ,jN,fU,h3,h4,h6,h7,h8,gY]
theorem p6 {m:Mem} {dk S lf tn op:Nat} {dn:Bool} {ks vs:List AV} (d:DSt m dk S dn lf tn op (fun _=>zp) ks vs):∃m',denC prog ann 24 [.ptr dk 0 65542] m=some (.bool true,m')∧Keep m m':=by
 rw [bX.al]
 obtain⟨T,g,e1,e2,e3⟩:=d.st
 have hl:=e2.len
 have hpg:=e2.Hq
 obtain⟨R,hR⟩:∃R,padB (rootW 1 0)=R:=⟨_,rfl⟩
 have hRl:R.length=256:=by rw [← hR,dK]
 have ws:∀m,denC prog ann 46 [.agg [.int .u64 1,.int .i64 0]] m=some (.fsl false 21 (u8L (rootW 1 0)),m):=fun m=>dN 1 0 m
 have fs:∀m,denC prog ann 45 [.fsl false 21 (u8L (rootW 1 0))] m=some (.agg (u8L R),m):=fun m=>by
  have:=qb false (rootW 1 0) m
  rw [fi,hR] at this
  exact this
 obtain⟨Z,hZ⟩:∃Z,page0=Z:=⟨_,rfl⟩
 have h1:Z.length=256:=by rw [← hZ,cE]
 have h2:oneL Z=true:=by rw [← hZ];exact cR
 have h3:closedL Z=true:=by rw [← hZ];rfl
 have hZu:u8L zp=Z:=by rw [← hZ,gZ,zp]
 have f2:List.take 256 Z=Z:=List.take_of_length_le (by omega)
 have f3:List.drop 256 Z=[]:=List.drop_of_length_le (by omega)
 have f4:List.take 256 (u8L R)=u8L R:=List.take_of_length_le (by rw [aN];omega)
 have ix:idxAgg 256 256 true (.agg (pgF (fun _=>zp) 0 256)) (.int .i64 0)=some (.agg Z):=by
  have:=sn (p:=fun _=>zp) (fun _=>gv) (k:=0) (by omega)
  rw [hZu] at this;exact this
 have eq:=Db gv gv
 have nq:=Dc gv gv
 rw [hZu] at nq eq
 have sa:∀P,sliceArr 256 1 (.ptr P 0 256) none (some (.int .i64 0))=some (.sl P 1 0 0 256):=fun P=>by simp [sliceArr,bnds,bnd]
 have sb:sliceArr 256 1 (.fptr (u8L R)) none (some (.int .i64 0))=some (.fsl false 0 []):=by simp [sliceArr,bnds,bnd,aN,hRl]
 have cp:∀m P,copyA 1 m (.sl P 1 0 0 256) (.fsl false 0 [])=copyO m P 0 0 256 0 [] (m.h P):=fun m P=>fU m P 0 0 256 0 false [] rfl
 have q0:(dk==m.nx)=false:=by have:=d.dx;simp;omega
 simp [q0,ws,fs,hZ,h1,h2,h3,f2,f3,f4,e1,dkc,hl,hpg,aN,cQ,bZ,hRl,-bX.fS]
 rw [bX.aM]
 simp [hZ,h1,h2,h3,f2,f3,ix,wi0,wi1,-bX.fS,-bX.kW]
 rw [bX.Hr]
 simp [hZ,h1,h2,h3,f2,f3,ix,wi0,wi1,sa,sb,cp,eq,nq,-bX.fS]
 obtain⟨m',k1,k2⟩:=oX R hRl 255 1 ⟨upd (upd (upd m.h m.nx none) (m.nx+1) none) (m.nx+1+1) (some (.cells Z)),m.nx+1+1+1+5⟩ (by omega) (by omega)
 refine⟨m',k1,Keep.trans ⟨by simp;omega,fun x hx=>?_⟩ k2⟩
 have r1:(x==m.nx)=false:=by simp;omega
 have r2:(x==m.nx+1)=false:=by simp;omega
 have r3:(x==m.nx+1+1)=false:=by simp;omega
 simp [r1,r2,r3]
end Go.Proofs.YtadofgdidhpnpaaGreatDoor

/-
  THE NEWEST ROOT (1): reading the roots. Conditions: none.
-/
namespace Go.Proofs.YtadofgdidhpnpaaGreatDoor
open Go.AM
open Go.Proofs
open Go.Proofs.Tryz (prog)
set_option linter.all false
set_option maxRecDepth 100000
def tp (b:List UInt8):Nat:=(b.getD 12 0).toNat
theorem cH (m:Mem) (o:Option AObj) (n:Nat):Keep m ⟨upd m.h m.nx o,m.nx+1+n⟩:=⟨by simp;omega,fun x hx=>by
 have:(x==m.nx)=false:=by simp;omega
 simp [this]⟩
section
variable {dk : Nat} {dn : Bool} {lf tn op : Nat} {T : List AV} {p : Nat → List UInt8} {sf : AV} (hT : Tail T p sf) {at_ : Nat} (ha : at_ < 2)
include hT ha
theorem p8 (m:Mem) (hd:m.h dk=some (.cells (dkc dn lf tn op T))) (hdx:dk < m.nx):∃m',denC prog ann 40 [.sl dk 1 (5+at_*256) 256 65542] m=some (.tup [.agg [.int .u64 (numL (p at_):Nat),.int .i64 (tp (p at_):Nat)],.bool (rootOf (p at_))],m')∧Keep m m':=by
 have hp:=hT.Ej (k:=at_) (by omega)
 refine sg dk (5+at_*256) 65542 (dkc dn lf tn op T) (p at_) (hT.hp _) ?_ (by rw [p7,hT.len]) (by omega) m hd hdx
 rw [show 5+at_*256=at_*256+5 by omega]
 exact hp
theorem iQ (m:Mem) (hd:m.h dk=some (.cells (dkc dn lf tn op T))) (hdx:dk < m.nx) (hr:rootOf (p at_)=false) (x2 x3 l:AV) (K:List Item) :
  ∃m',au.L0 (.ptr dk 0 65542) x2 x3 l (.int .i64 at_) m K=au.L0 (.ptr dk 0 65542) x2 x3 l (.int .i64 (at_+1:Nat)) m' K∧Keep m m':=by
 obtain⟨m1,k1,k2⟩:=p8 hT ha m hd hdx
 rw [hr] at k1
 have d1:decide ((at_:Int) < 2)=true:=by simp;omega
 have d2:decide (at_ < 256)=true:=by simp;omega
 have w:IntKind.wrap .i64 ((at_:Int)+1)=((at_+1:Nat):Int):=by simp [IntKind.wrap,IntKind.signed,IntKind.bits];omega
 have t5:5+at_*256+256≤65542:=by omega
 have sa:sliceArr 256 1 (.ptr dk (5+at_*256) 65542) none none=some (.sl dk 1 (5+at_*256) 256 65542):=by simp [sliceArr,bnds,bnd,t5]
 refine⟨⟨upd m1.h m1.nx none,m1.nx+1⟩,?_,k2.trans (cH m1 none 0)⟩
 rw [au.aM]
 simp [d1,d2,sa,k1,w]
theorem gu (m:Mem) (hd:m.h dk=some (.cells (dkc dn lf tn op T))) (hdx:dk < m.nx) (hr:rootOf (p at_)=true) (x2 x3:AV) (K:List Item) :
  ∃m' a,au.L0 (.ptr dk 0 65542) x2 x3 .nils (.int .i64 at_) m K=au.L0 (.ptr dk 0 65542) x2 x3 (.sl a 2 0 1 2) (.int .i64 (at_+1:Nat)) m' K∧Keep m m'∧m.nx≤a∧a < m'.nx∧m'.h a=some (.cells [.int .u64 (numL (p at_):Nat),.int .i64 (tp (p at_):Nat)]):=by
 obtain⟨m1,k1,k2⟩:=p8 hT ha m hd hdx
 rw [hr] at k1
 have d1:decide ((at_:Int) < 2)=true:=by simp;omega
 have d2:decide (at_ < 256)=true:=by simp;omega
 have w:IntKind.wrap .i64 ((at_:Int)+1)=((at_+1:Nat):Int):=by simp [IntKind.wrap,IntKind.signed,IntKind.bits];omega
 have t5:5+at_*256+256≤65542:=by omega
 have sa:sliceArr 256 1 (.ptr dk (5+at_*256) 65542) none none=some (.sl dk 1 (5+at_*256) 256 65542):=by simp [sliceArr,bnds,bnd,t5]
 refine⟨⟨upd (upd m1.h m1.nx none) (m1.nx+1) (some (.cells [.int .u64 (numL (p at_):Nat),.int .i64 (tp (p at_):Nat)])),m1.nx+1+1⟩,m1.nx+1,?_,(k2.trans (cH m1 none 0)).trans (cH _ _ 0),by have:=k2.1;omega,by simp,by simp⟩
 rw [au.aM]
 simp [d1,d2,sa,k1,w]
theorem nW (m:Mem) (hd:m.h dk=some (.cells (dkc dn lf tn op T))) (hdx:dk < m.nx) (hr:rootOf (p at_)=true) (x2 x3:AV) (a n0 t0:Nat) (hax:a < m.nx) (had:a≠dk) (ha0:m.h a=some (.cells [.int .u64 n0,.int .i64 t0])) (K:List Item) :
  ∃m',au.L0 (.ptr dk 0 65542) x2 x3 (.sl a 2 0 1 2) (.int .i64 at_) m K=au.L0 (.ptr dk 0 65542) x2 x3 (.sl a 2 0 2 4) (.int .i64 (at_+1:Nat)) m' K∧m.nx≤m'.nx∧(∀x,x < m.nx→x≠a→m'.h x=m.h x)∧m'.h a=some (.cells [.int .u64 n0,.int .i64 t0,.int .u64 (numL (p at_):Nat),.int .i64 (tp (p at_):Nat)]):=by
 obtain⟨m1,k1,k2⟩:=p8 hT ha m hd hdx
 rw [hr] at k1
 have d1:decide ((at_:Int) < 2)=true:=by simp;omega
 have d2:decide (at_ < 256)=true:=by simp;omega
 have w:IntKind.wrap .i64 ((at_:Int)+1)=((at_+1:Nat):Int):=by simp [IntKind.wrap,IntKind.signed,IntKind.bits];omega
 have t5:5+at_*256+256≤65542:=by omega
 have sa:sliceArr 256 1 (.ptr dk (5+at_*256) 65542) none none=some (.sl dk 1 (5+at_*256) 256 65542):=by simp [sliceArr,bnds,bnd,t5]
 have hA:m1.h a=some (.cells [.int .u64 n0,.int .i64 t0]):=(k2.2 a hax).trans ha0
 have q1:(a==m1.nx)=false:=by have:=k2.1;simp;omega
 refine⟨⟨upd (upd m1.h m1.nx none) a (some (.cells [.int .u64 n0,.int .i64 t0,.int .u64 (numL (p at_):Nat),.int .i64 (tp (p at_):Nat)])),m1.nx+1⟩,?_,by have:=k2.1;simp;omega,fun x hx h1=>?_,by simp⟩
 ·rw [au.aM]
  simp [d1,d2,sa,k1,w,q1,hA]
 ·have r1:(x==m1.nx)=false:=by have:=k2.1;simp;omega
  have r2:(x==a)=false:=by simpa using h1
  simp [r1,r2]
  exact k2.2 x hx
end
end Go.Proofs.YtadofgdidhpnpaaGreatDoor

/-
  THE NEWEST ROOT (2): its tree. Conditions: none.
-/
namespace Go.Proofs.YtadofgdidhpnpaaGreatDoor
open Go.AM
open Go.Proofs
open Go.Proofs.Tryz (prog)
set_option linter.all false
set_option maxRecDepth 100000
theorem sd:∀l:List UInt8,allU8 (u8L l)=true
 | []=>rfl
 | a::l=>by
  have h:=a.toNat_lt
  show(decide (0≤(a.toNat:Int))&&decide ((a.toNat:Int) < 256)&&allU8 (u8L l))=true
  rw [decide_eq_true (by omega),decide_eq_true (by omega),sd l];rfl
def Tree (p:Nat→List UInt8) (t:Nat) (ks vs ks2 vs2:List AV):Prop :=
 (t=0∧ks=[]∧vs=[]∧ks2=[]∧vs2=[])∨(2≤t∧t≤255∧∃K V,leafOf (p t)=some (K,V)∧K.Nodup∧ks=K.map .str∧vs=V.map .str∧ks2=[.int .i64 t]∧vs2=[.agg (u8L (p t))])
theorem f43:prog.funcs[43]?=some Tryz.f43:=by kernel_rfl
theorem Ei (args:List AV) (m:Mem):denC prog ann 43 args m=loadR m args:=by
 rw [dY f43 (b:=(Tryz.f43.body).getD .skip) (by kernel_rfl) (by kernel_rfl)]
 have e:(ann 43).ext=true:=by kernel_rfl
 simp only [libA,e,cond_true,extF]
 rfl
section
variable {m : Mem} {dk S lf tn op : Nat} {dn : Bool} {p : Nat → List UInt8} {sk sv ks vs ks2 vs2 : List AV}
theorem yw (d:DSt m dk S dn lf tn op p sk sv) {n t:Nat} (ht:Tree p t ks vs ks2 vs2):denC prog ann 43 [.ptr dk 0 65542,.agg [.int .u64 n,.int .i64 t]] m=some (.tup [.agg [.map m.nx,.map (m.nx+1)],.bool true],(m.new (.map 0 ks vs)).new (.map 0 ks2 vs2)):=by
 obtain⟨T,g,h1,h2,h3⟩:=d.st
 rw [Ei]
 have hl:(dkc dn lf tn op T).length=65542:=by rw [p7,h2.len]
 simp only [loadR,h1,hl,beq_self_eq_true,Bool.not_true,cond_false]
 rcases ht with ⟨rfl,rfl,rfl,rfl,rfl⟩ | ⟨t2,t3,K,V,hlf,hnd,rfl,rfl,rfl,rfl⟩
 ·rfl
 ·have x1:decide ((t:Int)=0)=false:=decide_eq_false (by omega)
  have x2:decide ((0:Int) < (t:Int))=true:=decide_eq_true (by omega)
  simp only [x1,x2,cond_false,cond_true,Int.toNat_natCast]
  have hc:(List.drop (5+256*t) (dkc dn lf tn op T)).take 256=u8L (p t):=by
   have dr:∀(A:List AV) (a b c d e:AV) (n:Nat),List.drop (5+n) (a::b::c::d::e::A)=List.drop n A:=fun A a b c d e n=>by rw [show 5+n=n+5 by omega];rfl
   rw [dkc,dr,Nat.mul_comm]
   exact h2.Ej (by omega)
  have b1:Nat.ble 2 t=true:=by rw [Nat.ble_eq];exact t2
  have b2:Nat.ble t 255=true:=by rw [Nat.ble_eq];exact t3
  have b3:((p t).length==256)=true:=by rw [h2.hp];rfl
  have b4:madeB (dkc dn lf tn op T)=true:=rfl
  simp only [loadT,hc,mU,Option.bind_some,hlf,sd,b1,b2,b3,b4,hl,decide_eq_true hnd,beq_self_eq_true,Bool.and_self,cond_true]
theorem uh (d:DSt m dk S dn lf tn op p sk sv) {n t:Nat} (ht:Tree p t ks vs ks2 vs2) {R2 R3 a len:Nat} {xs:List AV} (hlen:0 < len) (hla:len≤2) (hx:xs.length=2*len) (hxs:xs.take 2=[.int .u64 n,.int .i64 t]) (hax:m.h a=some (.cells xs)) (hal:a < m.nx)
  (h2:m.h R2=some (.cells [.int .u64 0,.int .i64 0])) (h3:m.h R3=some (.cells [.nilm,.nilm])) (h23:R2≠R3) (hR2:R2 < m.nx) (hR3:R3 < m.nx) :
  ∃m' E,au.L2 (.ptr dk 0 65542) (.ptr R2 0 2) (.ptr R3 0 2) (.sl a 2 0 len (2*len)) (.int .i64 len) (.int .i64 0) m [.code au.r16,.code .ret]=some (.tup [.agg [.int .u64 n,.int .i64 t],.agg [.map E,.map (E+1)],.bool true],m') ∧
   m.nx≤m'.nx∧(∀x,x < m.nx→x≠R2→x≠R3→m'.h x=m.h x)∧m.nx≤E∧E+1 < m'.nx∧m'.h E=some (.map 0 ks vs)∧m'.h (E+1)=some (.map 0 ks2 vs2):=by
 have d1:=d.keep (cH m none 0)
 have L:=yw d1 (n:=n) ht
 have q1:(R2==m.nx)=false:=by simp;omega
 have c1:decide ((0:Int) < len)=true:=by simp;omega
 have c2:decide (0 < len)=true:=by simp;omega
 have c3:decide (2≤2*len)=true:=by simp;omega
 rw [au.dt]
 simp at L
 have q1:(R2==m.nx)=false:=by simp;omega
 have q2:(R2==m.nx+1)=false:=by simp;omega
 have q3:(R2==m.nx+1+1)=false:=by simp;omega
 have q4:(R2==m.nx+1+1+1)=false:=by simp;omega
 have q5:(R3==m.nx)=false:=by simp;omega
 have q6:(R3==m.nx+1)=false:=by simp;omega
 have q7:(R3==m.nx+1+1)=false:=by simp;omega
 have q8:(R3==m.nx+1+1+1)=false:=by simp;omega
 have q9:(R3==R2)=false:=by simp;omega
 have q10:(R2==R3)=false:=by simp;omega
 have f1:(m.nx+1==R2)=false:=by simp;omega
 have f2:(m.nx+1==R3)=false:=by simp;omega
 have f3:(m.nx+1+1==R2)=false:=by simp;omega
 have f4:(m.nx+1+1==R3)=false:=by simp;omega
 refine⟨⟨upd (upd (upd (upd (upd (upd m.h m.nx none) (m.nx+1) (some (.map 0 ks vs))) (m.nx+1+1) (some (.map 0 ks2 vs2))) (m.nx+1+1+1) none) R2 (some (.cells [.int .u64 n,.int .i64 t]))) R3 (some (.cells [.map (m.nx+1),.map (m.nx+1+1)])),m.nx+1+1+1+1+6⟩,m.nx+1,?_,by simp;omega,fun x hx a b=>?_,by omega,by simp,?_,?_⟩
 ·simp [hlen,hax,hx,hxs,c1,c2,c3,L,h2,h3,q1,q2,q3,q4,q5,q6,q7,q8,q9,q10]
 ·have r1:(x==R2)=false:=by simpa using a
  have r2:(x==R3)=false:=by simpa using b
  have r3:(x==m.nx)=false:=by simp;omega
  have r4:(x==m.nx+1)=false:=by simp;omega
  have r5:(x==m.nx+1+1)=false:=by simp;omega
  have r6:(x==m.nx+1+1+1)=false:=by simp;omega
  simp [r1,r2,r3,r4,r5,r6]
 ·have z1:(m.nx+1==m.nx+1+1+1)=false:=by simp
  have z2:(m.nx+1==m.nx+1+1)=false:=by simp
  simp [f1,f2,z1,z2]
 ·have z1:(m.nx+1+1==m.nx+1+1+1)=false:=by simp
  simp [f3,f4,z1]
end
end Go.Proofs.YtadofgdidhpnpaaGreatDoor

/-
  THE NEWEST ROOT (3). Conditions: none.
-/
namespace Go.Proofs.YtadofgdidhpnpaaGreatDoor
open Go.AM
open Go.Proofs
open Go.Proofs.Tryz (prog)
set_option linter.all false
set_option maxRecDepth 100000
def Pick (p:Nat→List UInt8) (n t:Nat):Prop :=
 (rootOf (p 0)=true∧rootOf (p 1)=false∧n=numL (p 0)∧t=tp (p 0)) ∨
 (rootOf (p 0)=false∧rootOf (p 1)=true∧n=numL (p 1)∧t=tp (p 1)) ∨
 (rootOf (p 0)=true∧rootOf (p 1)=true∧numL (p 0) < 1000∧numL (p 1) < 1000∧((numL (p 0) < numL (p 1)∧n=numL (p 1)∧t=tp (p 1))∨(¬numL (p 0) < numL (p 1)∧n=numL (p 0)∧t=tp (p 0))))
theorem Eh (m:Mem):denC prog ann 44 [] m=some (.agg [.map (m.nx+1),.map (m.nx+1+1)],⟨upd (upd (upd (upd m.h m.nx (some (.cells [.nilm,.nilm]))) (m.nx+1) (some (.map 0 [] []))) (m.nx+1+1) (some (.map 0 [] []))) m.nx (some (.cells [.map (m.nx+1),.map (m.nx+1+1)])),m.nx+3⟩):=by
 rw [lL.al]
 have q1:(m.nx==m.nx+1+1)=false:=by simp;omega
 have q2:(m.nx==m.nx+1)=false:=by simp
 simp [q1,q2]
section
variable {m : Mem} {dk S lf tn op : Nat} {dn : Bool} {p : Nat → List UInt8} {sk sv ks vs ks2 vs2 : List AV}
def Newest (m:Mem) (dk n t:Nat) (ks vs ks2 vs2:List AV):Prop :=
 ∃m' E,denC prog ann 23 [.ptr dk 0 65542] m=some (.tup [.agg [.int .u64 n,.int .i64 t],.agg [.map E,.map (E+1)],.bool true],m')∧Keep m m'∧m.nx≤E∧E+1 < m'.nx∧m'.h E=some (.map 0 ks vs)∧m'.h (E+1)=some (.map 0 ks2 vs2)
theorem yv {n t:Nat} (d:DSt m dk S dn lf tn op p sk sv) (ht:Tree p t ks vs ks2 vs2)
  (h:∃(m2:Mem) (a len:Nat) (xs:List AV),0 < len∧len≤2∧xs.length=2*len∧xs.take 2=[.int .u64 n,.int .i64 t]∧m2.h a=some (.cells xs)∧a < m2.nx∧m.nx+2≤a∧Keep ⟨upd (upd m.h m.nx (some (.cells [.int .u64 0,.int .i64 0]))) (m.nx+1) (some (.cells [.nilm,.nilm])),m.nx+1+1⟩ m2 ∧
   au.L0 (.ptr dk 0 65542) (.ptr m.nx 0 2) (.ptr (m.nx+1) 0 2) .nils (.int .i64 0) ⟨upd (upd m.h m.nx (some (.cells [.int .u64 0,.int .i64 0]))) (m.nx+1) (some (.cells [.nilm,.nilm])),m.nx+1+1⟩ [.code au.r9,.code au.r10,.code au.k2,.code au.r16,.code .ret] =
    au.L2 (.ptr dk 0 65542) (.ptr m.nx 0 2) (.ptr (m.nx+1) 0 2) (.sl a 2 0 len (2*len)) (.int .i64 len) (.int .i64 0) m2 [.code au.r16,.code .ret]):Newest m dk n t ks vs ks2 vs2:=by
 obtain⟨m2,a,len,xs,e1,e2,e3,e4,e5,e6,e7,k,hL⟩:=h
 have k0:Keep m ⟨upd (upd m.h m.nx (some (.cells [.int .u64 0,.int .i64 0]))) (m.nx+1) (some (.cells [.nilm,.nilm])),m.nx+1+1⟩:=(cH m (some (.cells [.int .u64 0,.int .i64 0])) 0).trans (cH _ _ 0)
 have hz:(m.nx==m.nx+1)=false:=by simp
 have kn:=k.1
 simp at kn
 obtain⟨m',E,k1,k2,k3,k4,k5,k6,k7⟩:=uh ((d.keep k0).keep k) ht e1 e2 e3 e4 e5 e6 (R2:=m.nx) (R3:=m.nx+1) ((k.2 m.nx (by simp;omega)).trans (by simp [hz])) ((k.2 (m.nx+1) (by simp)).trans (by simp)) (by omega) (by omega) (by omega)
 refine⟨m',E,?_,⟨by omega,fun x hx=>?_⟩,by omega,k5,k6,k7⟩
 ·rw [au.al]
  simp [-au.bU]
  rw [hL,k1]
 ·rw [k3 x (by omega) (by omega) (by omega)]
  exact(k0.trans k).2 x hx
theorem rM {n t:Nat} (d:DSt m dk S dn lf tn op p sk sv) (hp:Pick p n t) (ht:Tree p t ks vs ks2 vs2):Newest m dk n t ks vs ks2 vs2:=by
 obtain⟨T,g,h1,h2,h3⟩:=d.st
 refine yv d ht ?_
 have k0:Keep m ⟨upd (upd m.h m.nx (some (.cells [.int .u64 0,.int .i64 0]))) (m.nx+1) (some (.cells [.nilm,.nilm])),m.nx+1+1⟩:=(cH m (some (.cells [.int .u64 0,.int .i64 0])) 0).trans (cH _ _ 0)
 obtain⟨M,hM⟩:∃M:Mem,(⟨upd (upd m.h m.nx (some (.cells [.int .u64 0,.int .i64 0]))) (m.nx+1) (some (.cells [.nilm,.nilm])),m.nx+1+1⟩:Mem)=M:=⟨_,rfl⟩
 have hMn:M.nx=m.nx+2:=by rw [← hM]
 rw [hM] at k0 ⊢
 have hdM:M.h dk=some (.cells (dkc dn lf tn op T)):=(k0.2 _ d.dx).trans h1
 have dx:=d.dx
 have K:=[Item.code au.r9,Item.code au.r10,Item.code au.k2,Item.code au.r16,Item.code Code.ret]
 rcases hp with ⟨a1,a2,rfl,rfl⟩ | ⟨a1,a2,rfl,rfl⟩ | ⟨a1,a2,a3,a4,a5⟩
 ·obtain⟨m1,a,k1,k2,k3,k4,k5⟩:=gu h2 (at_:=0) (by omega) M hdM (by omega) a1 (.ptr m.nx 0 2) (.ptr (m.nx+1) 0 2) [.code au.r9,.code au.r10,.code au.k2,.code au.r16,.code .ret]
  obtain⟨m2,k6,k7⟩:=iQ h2 (at_:=1) (by omega) m1 ((k2.2 _ (by omega)).trans hdM) (by have:=k2.1;omega) a2 (.ptr m.nx 0 2) (.ptr (m.nx+1) 0 2) (.sl a 2 0 1 2) [.code au.r9,.code au.r10,.code au.k2,.code au.r16,.code .ret]
  refine⟨m2,a,1,_,by omega,by omega,by simp,rfl,(k7.2 a k4).trans k5,Nat.lt_of_lt_of_le k4 k7.1,by omega,k2.trans k7,?_⟩
  have k1':=k1
  simp only [Int.ofNat_zero,Int.natCast_zero,Nat.zero_add] at k1'
  rw [k1',k6,au.aM]
  simp [rZ]
 ·obtain⟨m1,k1,k2⟩:=iQ h2 (at_:=0) (by omega) M hdM (by omega) a1 (.ptr m.nx 0 2) (.ptr (m.nx+1) 0 2) .nils [.code au.r9,.code au.r10,.code au.k2,.code au.r16,.code .ret]
  obtain⟨m2,a,k3,k4,k5,k6,k7⟩:=gu h2 (at_:=1) (by omega) m1 ((k2.2 _ (by omega)).trans hdM) (by have:=k2.1;omega) a2 (.ptr m.nx 0 2) (.ptr (m.nx+1) 0 2) [.code au.r9,.code au.r10,.code au.k2,.code au.r16,.code .ret]
  refine⟨m2,a,1,_,by omega,by omega,by simp,rfl,k7,k6,by have:=k2.1;omega,k2.trans k4,?_⟩
  have k1':=k1
  simp only [Int.ofNat_zero,Int.natCast_zero,Nat.zero_add] at k1'
  rw [k1',k3,au.aM]
  simp [rZ]
 ·obtain⟨m1,a,k1,k2,k3,k4,k5⟩:=gu h2 (at_:=0) (by omega) M hdM (by omega) a1 (.ptr m.nx 0 2) (.ptr (m.nx+1) 0 2) [.code au.r9,.code au.r10,.code au.k2,.code au.r16,.code .ret]
  obtain⟨m2,k6,k7,k8,k9⟩:=nW h2 (at_:=1) (by omega) m1 ((k2.2 _ (by omega)).trans hdM) (by have:=k2.1;omega) a2 (.ptr m.nx 0 2) (.ptr (m.nx+1) 0 2) a _ _ k4 (by omega) k5 [.code au.r9,.code au.r10,.code au.k2,.code au.r16,.code .ret]
  obtain⟨m3,s1,s2,s3,s4⟩:=AB a (numL (p 0)) (numL (p 1)) (tp (p 0)) (tp (p 1)) a3 a4 m2 k9
  refine⟨m3,a,2,_,by omega,by omega,?_,?_,s4,by omega,by omega,⟨by have:=k2.1;omega,fun x hx=>?_⟩,?_⟩
  ·split<;>rfl
  ·rcases a5 with ⟨b1,rfl,rfl⟩ | ⟨b1,rfl,rfl⟩
   ·rw [if_pos b1];rfl
   ·rw [if_neg b1];rfl
  ·rw [s3 x (by omega),k8 x (by have:=k2.1;omega) (by omega),k2.2 x hx]
  ·have k1':=k1
   simp only [Int.ofNat_zero,Int.natCast_zero,Nat.zero_add] at k1'
   rw [k1',k6,au.aM]
   simp [s1]
end
end Go.Proofs.YtadofgdidhpnpaaGreatDoor

/-
  THE NEWEST ROOT (4): there is none. Conditions: none.
-/
namespace Go.Proofs.YtadofgdidhpnpaaGreatDoor
open Go.AM
open Go.Proofs
open Go.Proofs.Tryz (prog)
set_option linter.all false
set_option maxRecDepth 100000
section
variable {m : Mem} {dk S lf tn op : Nat} {dn : Bool} {p : Nat → List UInt8} {sk sv : List AV}
theorem rX (d:DSt m dk S dn lf tn op p sk sv) (a1:rootOf (p 0)=false) (a2:rootOf (p 1)=false) :
  ∃m' E,denC prog ann 23 [.ptr dk 0 65542] m=some (.tup [.agg [.int .u64 0,.int .i64 0],.agg [.map E,.map (E+1)],.bool false],m')∧Keep m m'∧m.nx≤E∧E+1 < m'.nx∧m'.h E=some (.map 0 [] [])∧m'.h (E+1)=some (.map 0 [] []):=by
 obtain⟨T,g,h1,h2,h3⟩:=d.st
 have k0:Keep m ⟨upd (upd m.h m.nx (some (.cells [.int .u64 0,.int .i64 0]))) (m.nx+1) (some (.cells [.nilm,.nilm])),m.nx+1+1⟩:=(cH m (some (.cells [.int .u64 0,.int .i64 0])) 0).trans (cH _ _ 0)
 have hz:(m.nx==m.nx+1)=false:=by simp
 obtain⟨M,hM⟩:∃M:Mem,(⟨upd (upd m.h m.nx (some (.cells [.int .u64 0,.int .i64 0]))) (m.nx+1) (some (.cells [.nilm,.nilm])),m.nx+1+1⟩:Mem)=M:=⟨_,rfl⟩
 have hMn:M.nx=m.nx+2:=by rw [← hM]
 have hMa:M.h m.nx=some (.cells [.int .u64 0,.int .i64 0]):=by rw [← hM];simp [hz]
 have hMb:M.h (m.nx+1)=some (.cells [.nilm,.nilm]):=by rw [← hM];simp
 rw [hM] at k0
 have hdM:M.h dk=some (.cells (dkc dn lf tn op T)):=(k0.2 _ d.dx).trans h1
 have dx:=d.dx
 obtain⟨m1,k1,k2⟩:=iQ h2 (at_:=0) (by omega) M hdM (by omega) a1 (.ptr m.nx 0 2) (.ptr (m.nx+1) 0 2) .nils [.code au.r9,.code au.r10,.code au.k2,.code au.r16,.code .ret]
 obtain⟨m2,k3,k4⟩:=iQ h2 (at_:=1) (by omega) m1 ((k2.2 _ (by omega)).trans hdM) (by have:=k2.1;omega) a2 (.ptr m.nx 0 2) (.ptr (m.nx+1) 0 2) .nils [.code au.r9,.code au.r10,.code au.k2,.code au.r16,.code .ret]
 simp only [Int.ofNat_zero,Int.natCast_zero,Nat.zero_add] at k1
 have kk:=k2.trans k4
 have kn:=kk.1
 have c1:=(kk.2 m.nx (by omega)).trans hMa
 have c2:=(kk.2 (m.nx+1) (by omega)).trans hMb
 have em:=Eh m2
 have q1:(m.nx==m2.nx)=false:=by simp;omega
 have q2:(m.nx==m2.nx+1)=false:=by simp;omega
 have q3:(m.nx==m2.nx+1+1)=false:=by simp;omega
 have q4:(m.nx+1==m2.nx)=false:=by simp;omega
 have q5:(m.nx+1==m2.nx+1)=false:=by simp;omega
 have q6:(m.nx+1==m2.nx+1+1)=false:=by simp;omega
 have q7:(m.nx+1==m.nx)=false:=by simp
 refine⟨⟨upd (upd (upd (upd (upd (upd m2.h m2.nx (some (.cells [.nilm,.nilm]))) (m2.nx+1) (some (.map 0 [] []))) (m2.nx+1+1) (some (.map 0 [] []))) m2.nx (some (.cells [.map (m2.nx+1),.map (m2.nx+1+1)]))) m.nx (some (.cells [.int .u64 0,.int .i64 0]))) (m.nx+1) (some (.cells [.map (m2.nx+1),.map (m2.nx+1+1)])),m2.nx+3⟩,m2.nx+1,?_,⟨by simp;omega,fun x hx=>?_⟩,by omega,by simp,?_,?_⟩
 ·rw [au.al]
  simp [-au.bU]
  rw [hM,k1,k3,au.aM]
  simp [yu]
  rw [au.dt]
  simp [em,c1,c2,q1,q2,q3,q4,q5,q6,q7,hz]
 ·have r1:(x==m.nx)=false:=by simp;omega
  have r2:(x==m.nx+1)=false:=by simp;omega
  have r3:(x==m2.nx)=false:=by simp;omega
  have r4:(x==m2.nx+1)=false:=by simp;omega
  have r5:(x==m2.nx+1+1)=false:=by simp;omega
  simp [r1,r2,r3,r4,r5]
  exact(k0.trans kk).2 x hx
 ·have r1:(m2.nx+1==m.nx)=false:=by simp;omega
  have r2:(m2.nx==m.nx)=false:=by simp;omega
  have r3:(m2.nx+1==m2.nx)=false:=by simp
  have r4:(m2.nx+1==m2.nx+1+1)=false:=by simp
  simp [r1,r2,r3,r4]
 ·have r1:(m2.nx+1+1==m.nx)=false:=by simp;omega
  have r2:(m2.nx+1==m.nx)=false:=by simp;omega
  have r3:(m2.nx+1+1==m2.nx)=false:=by simp;omega
  simp [r1,r2,r3]
end
end Go.Proofs.YtadofgdidhpnpaaGreatDoor

/-
  A CHEST IS OPENED (1): on a disk that has a root. Conditions: none.
-/
namespace Go.Proofs.YtadofgdidhpnpaaGreatDoor
open Go.AM
open Go.Proofs
open Go.Proofs.Tryz (prog)
set_option linter.all false
set_option maxRecDepth 100000
set_option maxHeartbeats 4000000
@[simp] theorem I3 (a:Nat):(a==a+1)=false:=by simp;try omega
@[simp] theorem I4 (a:Nat):(a+1==a)=false:=by simp;try omega
@[simp] theorem I5 (a:Nat):(a==a+1+1)=false:=by simp;try omega
@[simp] theorem I6 (a:Nat):(a+1+1==a)=false:=by simp;try omega
@[simp] theorem I7 (a:Nat):(a==a+1+1+1)=false:=by simp;try omega
@[simp] theorem I8 (a:Nat):(a+1+1+1==a)=false:=by simp;try omega
@[simp] theorem I9 (a:Nat):(a==a+1+1+1+1)=false:=by simp;try omega
@[simp] theorem Ja (a:Nat):(a+1+1+1+1==a)=false:=by simp;try omega
@[simp] theorem Jb (a:Nat):(a==a+1+1+1+1+1)=false:=by simp;try omega
@[simp] theorem Jc (a:Nat):(a+1+1+1+1+1==a)=false:=by simp;try omega
@[simp] theorem Jd (a:Nat):(a==a+1+1+1+1+1+1)=false:=by simp;try omega
@[simp] theorem Je (a:Nat):(a+1+1+1+1+1+1==a)=false:=by simp;try omega
@[simp] theorem Jf (a:Nat):(a==a+1+1+1+1+1+1+1)=false:=by simp;try omega
@[simp] theorem Jg (a:Nat):(a+1+1+1+1+1+1+1==a)=false:=by simp;try omega
@[simp] theorem Jh (a:Nat):(a==a+1+1+1+1+1+1+1+1)=false:=by simp;try omega
@[simp] theorem Ji (a:Nat):(a+1+1+1+1+1+1+1+1==a)=false:=by simp;try omega
@[simp] theorem Jj (a:Nat):(a==a+1+15)=false:=by simp;try omega
@[simp] theorem Jk (a:Nat):(a+1+15==a)=false:=by simp;try omega
@[simp] theorem Jl (a:Nat):(a==a+1+1+15)=false:=by simp;try omega
@[simp] theorem Jm (a:Nat):(a+1+1+15==a)=false:=by simp;try omega
@[simp] theorem Jn (a:Nat):(a==a+1+1+1+15)=false:=by simp;try omega
@[simp] theorem Jo (a:Nat):(a+1+1+1+15==a)=false:=by simp;try omega
@[simp] theorem Jp (a:Nat):(a==a+1+1+1+1+15)=false:=by simp;try omega
@[simp] theorem Jq (a:Nat):(a+1+1+1+1+15==a)=false:=by simp;try omega
@[simp] theorem Jr (a:Nat):(a==a+1+1+1+1+1+15)=false:=by simp;try omega
@[simp] theorem Js (a:Nat):(a+1+1+1+1+1+15==a)=false:=by simp;try omega
@[simp] theorem Jt (a:Nat):(a==a+1+1+1+1+1+1+15)=false:=by simp;try omega
@[simp] theorem Ju (a:Nat):(a+1+1+1+1+1+1+15==a)=false:=by simp;try omega
theorem f26:prog.funcs[26]?=some Tryz.f26:=by kernel_rfl
theorem Cg (args:List AV) (m:Mem):denC prog ann 26 args m=cloneA m args:=by
 rw [dY f26 (b:=(Tryz.f26.body).getD .skip) (by kernel_rfl) (by kernel_rfl)]
 have e:(ann 26).ext=true:=by kernel_rfl
 simp only [libA,e,cond_true,extF]
 rfl
theorem oV {E g:Nat} {ks vs:List AV} (m:Mem) (h:m.h E=some (.map g ks vs)):denC prog ann 26 [.map E] m=some (.map m.nx,⟨upd m.h m.nx (some (.map 0 ks vs)),m.nx+1⟩):=by
 rw [Cg,cloneA,h];rfl
theorem rY {m:Mem} {ch E g:Nat} {ks vs xs:List AV} {t:List (Nat×AV)} (h8:AM.get t 8=.ptr ch 0 12) (hc:m.h ch=some (.cells xs)) (hx:xs.length=12) (h7:xs[7]?=some (.map E)) (hE:m.h E=some (.map g ks vs)) (hch:ch < m.nx) :
  den prog ann 7 [.code ck.r16,.code ck.r17,.code .ret] ⟨t,83,m⟩=some (.tup [.ptr ch 0 12,.int .i64 0],⟨upd (upd m.h m.nx (some (.map 0 ks vs))) ch (some (.cells (xs.set 9 (.map m.nx)))),m.nx+1⟩):=by
 have cl:=oV m hE
 have q:(ch==m.nx)=false:=by simp;omega
 obtain⟨a1,a2⟩:=List.getElem?_eq_some_iff.1 h7
 simp [h8,hc,hx,h7,a2,cl,q]
section
variable {m : Mem} {dk S tn op : Nat} {p : Nat → List UInt8} {ks vs ks2 vs2 : List AV}
theorem z7 {n t:Nat} (d:DSt m dk S false 0 tn op p [] []) (hop:op < 1000) (hN:Newest m dk n t ks vs ks2 vs2) :
  ∃m' ch Nw xs,denC prog ann 7 [.ptr dk 0 65542] m=some (.tup [.ptr ch 0 12,.int .i64 0],m')∧m'.h ch=some (.cells xs)∧xs.length=12∧xs[0]?=some (.bool true)∧xs[9]?=some (.map Nw)∧m'.h Nw=some (.map 0 ks vs)∧Nw < m'.nx:=by
 obtain⟨m1,E,k1,k2,k3,k4,k5,k6⟩:=hN
 obtain⟨T,g,h1,h2,h3⟩:=d.st
 have hl:=h2.len
 have hd1:m1.h dk=some (.cells (dkc false 0 tn op T)):=(k2.2 _ d.dx).trans h1
 have dx:=d.dx
 have kn:=k2.1
 have g0:=wI d
 have w:IntKind.wrap .i64 ((op:Int)+1)=(op:Int)+1:=by simp [IntKind.wrap,IntKind.signed,IntKind.bits];omega
 have q1:(dk==m1.nx)=false:=by simp;omega
 have q2:(dk==m1.nx+1)=false:=by simp;omega
 have q3:(E==m1.nx)=false:=by simp;omega
 have q4:(E==m1.nx+1)=false:=by simp;omega
 have e1:E≠dk:=by
  intro e
  subst e
  rw [hd1] at k5;cases k5
 obtain⟨H,hH⟩:∃H,upd (upd (upd (upd (upd m1.h m1.nx none) (m1.nx+1) none) dk (some (.cells (.bool true::.bool false::.int .i64 0::.int .i64 tn::.int .i64 (op+1)::T)))) (m1.nx+1+1+11) (some (.map 0 [] []))) (m1.nx+1+1+13)
   (some (.cells [.bool true,.bool false,.ptr dk 0 65542,.int .i64 tn,.int .i64 (op+1),.int .u64 n,.int .i64 t,.map E,.map (E+1),.nilm,.map (m1.nx+1+1+11),.int .i64 0]))=H:=⟨_,rfl⟩
 have hHc:H (m1.nx+1+1+13)=some (.cells [.bool true,.bool false,.ptr dk 0 65542,.int .i64 tn,.int .i64 (op+1),.int .u64 n,.int .i64 t,.map E,.map (E+1),.nilm,.map (m1.nx+1+1+11),.int .i64 0]):=by rw [← hH];simp
 have hHE:H E=some (.map 0 ks vs):=by
  rw [← hH]
  have q6:(E==m1.nx+1+1+11)=false:=by rw [beq_eq_false_iff_ne];omega
  have q7:(E==m1.nx+1+1+13)=false:=by rw [beq_eq_false_iff_ne];omega
  have q8:(E==dk)=false:=by simpa using e1
  simp only [aK,q3,q4,q6,q7,q8,cond_false,k5]
 have en:=fun t h8=>rY (m:=⟨H,m1.nx+1+1+15⟩) (t:=t) h8 hHc rfl rfl hHE (by show m1.nx+1+1+13 < m1.nx+1+1+15;omega)
 refine⟨⟨upd (upd H (m1.nx+1+1+15) (some (.map 0 ks vs))) (m1.nx+1+1+13) (some (.cells [.bool true,.bool false,.ptr dk 0 65542,.int .i64 tn,.int .i64 (op+1),.int .u64 n,.int .i64 t,.map E,.map (E+1),.map (m1.nx+1+1+15),.map (m1.nx+1+1+11),.int .i64 0])),m1.nx+1+1+15+1⟩,m1.nx+1+1+13,m1.nx+1+1+15,_,?_,by simp;rfl,rfl,rfl,rfl,?_,Nat.lt_succ_self _⟩
 ·rw [ck.al]
  simp [g0,h1,dkc,hl,k1,hd1,q1,q2,q3,q4,w,-ck.dg]
  rw [hH]
  exact en _ (by simp)
 ·have z:(m1.nx+1+1+15==m1.nx+1+1+13)=false:=by rw [beq_eq_false_iff_ne];omega
  simp only [aK,z,beq_self_eq_true,cond_true,cond_false]
end
end Go.Proofs.YtadofgdidhpnpaaGreatDoor

/-
  A CHEST IS OPENED (2): on a new disk. Conditions: none.
-/
namespace Go.Proofs.YtadofgdidhpnpaaGreatDoor
open Go.AM
open Go.Proofs
open Go.Proofs.Tryz (prog)
set_option linter.all false
set_option maxRecDepth 100000
set_option maxHeartbeats 4000000
def Vok (m:Mem) (ch dk S Pg Nw:Nat) (vw:AV):Prop:=vw=.fmap [] []∨∃Vw g,vw=.map Vw∧m.h Vw=some (.map g [] [])∧Vw < m.nx∧Vw≠dk∧Vw≠S∧Vw≠ch∧Pg≠Vw∧Nw≠Vw
structure ChSt (m:Mem) (ch dk S tn op num top:Nat) (pk pv nk nv:List AV):Prop where
 st:∃E Pg Nw g1 g2 vw,m.h ch=some (.cells [.bool true,.bool false,.ptr dk 0 65542,.int .i64 tn,.int .i64 op,.int .u64 num,.int .i64 top,E,.map Pg,.map Nw,vw,.int .i64 0]) ∧
  m.h Pg=some (.map g1 pk pv)∧m.h Nw=some (.map g2 nk nv)∧Vok m ch dk S Pg Nw vw∧E.one=true ∧
  Pg < m.nx∧Nw < m.nx∧Pg≠dk∧Pg≠S∧Nw≠dk∧Nw≠S∧Pg≠ch∧Nw≠ch∧Pg≠Nw
 cx:ch < m.nx
 cd:ch≠dk
 cS:ch≠S
theorem kU:rootOf zp=false:=by kernel_rfl
theorem Aj {m:Mem} {dk S:Nat} (d:DSt m dk S false 0 0 0 (fun _=>zp) [] []) :
  ∃m' ch S',denC prog ann 7 [.ptr dk 0 65542] m=some (.tup [.ptr ch 0 12,.int .i64 0],m')∧DSt m' dk S' false 0 0 1 (updP (fun _=>zp) 0 (padB (rootW 1 0))) [] []∧ChSt m' ch dk S' 0 1 1 0 [] [] [] []:=by
 obtain⟨m1,E,k1,k2,k3,k4,k5,k6⟩:=rX d kU kU
 have dx:=d.dx
 have kn:=k2.1
 have d1:=(d.keep k2).keep ((cH m1 none 0).trans (cH _ none 0))
 obtain⟨m2,j1,j2⟩:=p6 d1
 have kn2:=j2.1
 simp at kn2
 have d2:=d1.keep j2
 obtain⟨T,g,h1,h2,h3⟩:=d.st
 obtain⟨T2,g2,e1,e2,e3⟩:=d2.st
 have hl:=h2.len
 have hl2:=e2.len
 have g0:=wI d
 have q1:(dk==m1.nx)=false:=by rw [beq_eq_false_iff_ne];omega
 have q2:(dk==m1.nx+1)=false:=by rw [beq_eq_false_iff_ne];omega
 have eE:m2.h E=some (.map 0 [] []):=by
  rw [j2.2 E (by simp;omega)]
  have q3:(E==m1.nx)=false:=by rw [beq_eq_false_iff_ne];omega
  have q4:(E==m1.nx+1)=false:=by rw [beq_eq_false_iff_ne];omega
  simp only [aK,q3,q4,cond_false,k5]
 have eP:m2.h (E+1)=some (.map 0 [] []):=by
  rw [j2.2 (E+1) (by simp;omega)]
  have q3:(E+1==m1.nx)=false:=by rw [beq_eq_false_iff_ne];omega
  have q4:(E+1==m1.nx+1)=false:=by rw [beq_eq_false_iff_ne];omega
  simp only [aK,q3,q4,cond_false,k6]
 obtain⟨H,hH⟩:∃H,upd (upd (upd m2.h dk (some (.cells (.bool true::.bool false::.int .i64 0::.int .i64 0::.int .i64 1::T2)))) (m2.nx+11) (some (.map 0 [] []))) (m2.nx+13)
   (some (.cells [.bool true,.bool false,.ptr dk 0 65542,.int .i64 0,.int .i64 1,.int .u64 0,.int .i64 0,.map E,.map (E+1),.nilm,.map (m2.nx+11),.int .i64 0]))=H:=⟨_,rfl⟩
 have run1:∀R,(∀t,AM.get t 0=.ptr dk 0 65542→AM.get t 8=.ptr (m2.nx+13) 0 12→den prog ann 7 [.code ck.r12,.code ck.r13,.code ck.r14,.code ck.i4,.code ck.r16,.code ck.r17,.code .ret] ⟨t,83,⟨H,m2.nx+15⟩⟩=R)→denC prog ann 7 [.ptr dk 0 65542] m=R:=by
  intro R hR
  have e1':=e1
  have hd1:m1.h dk=some (.cells (dkc false 0 0 0 T)):=(k2.2 _ d.dx).trans h1
  rw [ck.al]
  simp [g0,h1,dkc,hl,k1,hd1,q1,q2,j1,e1,hl2,wi1,-ck.cv]
  rw [hH]
  exact hR _ (by simp) (by simp)
 have nb:∀ {a b:Nat},a≠b→(a==b)=false:=fun h=>by rw [beq_eq_false_iff_ne];exact h
 have dx2:dk < m2.nx:=d2.dx
 have Sx2:S < m2.nx:=d2.Sx
 have hHc:H (m2.nx+13)=some (.cells [.bool true,.bool false,.ptr dk 0 65542,.int .i64 0,.int .i64 1,.int .u64 0,.int .i64 0,.map E,.map (E+1),.nilm,.map (m2.nx+11),.int .i64 0]):=by rw [← hH];simp
 have hHo:∀x,x < m2.nx→x≠dk→H x=m2.h x:=fun x hx h=>by
  rw [← hH]
  simp only [aK,nb (show x≠m2.nx+13 by omega),nb (show x≠m2.nx+11 by omega),nb h,cond_false]
 have hHd:H dk=some (.cells (.bool true::.bool false::.int .i64 0::.int .i64 0::.int .i64 1::T2)):=by
  rw [← hH]
  simp only [aK,nb (show dk≠m2.nx+13 by omega),nb (show dk≠m2.nx+11 by omega),beq_self_eq_true,cond_true,cond_false]
 have hHv:H (m2.nx+11)=some (.map 0 [] []):=by
  rw [← hH]
  simp only [aK,nb (show m2.nx+11≠m2.nx+13 by omega),beq_self_eq_true,cond_true,cond_false]
 obtain⟨C,hC⟩:∃C:List AV,[AV.bool true,.bool false,.ptr dk 0 65542,.int .i64 0,.int .i64 1,.int .u64 1,.int .i64 0,.map E,.map (E+1),.nilm,.map (m2.nx+11),.int .i64 0]=C:=⟨_,rfl⟩
 obtain⟨M3,hM3⟩:∃M3:Mem,(⟨upd (upd H (m2.nx+13) (some (.cells C))) (m2.nx+15) (some (.map 0 [] [])),m2.nx+15+1⟩:Mem)=M3:=⟨_,rfl⟩
 have n3:M3.nx=m2.nx+15+1:=by rw [← hM3]
 have M3o:∀x,x≠m2.nx+13→x≠m2.nx+15→M3.h x=H x:=fun x a b=>by
  rw [← hM3];simp only [aK,nb a,nb b,cond_false]
 have M3c:M3.h (m2.nx+13)=some (.cells C):=by
  rw [← hM3];simp only [aK,nb (show m2.nx+13≠m2.nx+15 by omega),beq_self_eq_true,cond_true,cond_false]
 have M3p:M3.h (m2.nx+15)=some (.map 0 [] []):=by rw [← hM3];simp
 have d3:DSt M3 dk S false 0 0 1 (fun _=>zp) [] []:=⟨⟨T2,g2,(M3o dk (by omega) (by omega)).trans hHd,e2,((M3o S (by omega) (by omega)).trans (hHo S Sx2 d2.ne)).trans e3⟩,by omega,by omega,d2.ne⟩
 obtain⟨m4,S',w1,w2,w3,d4⟩:=Eg (n:=1) (t:=0) (ch:=m2.nx+13) (pg:=m2.nx+15) (r:=0) (by omega) M3c (by rw [← hC];rfl) (by rw [← hC];rfl) (by omega) (by omega) (by omega) rfl d3 M3p
 have n4:=w2.1
 have c4:m4.h (m2.nx+13)=some (.cells C):=(w2.2 _ (by omega) (by omega) (by omega)).trans M3c
 have E4:m4.h E=some (.map 0 [] []):=by
  have hEd:E≠dk:=fun e=>by subst e;rw [eE] at e1;cases e1
  have hES:E≠S:=by have:=d.Sx;omega
  exact(((w2.2 E (by omega) hEd hES).trans (M3o E (by omega) (by omega))).trans (hHo E (by omega) hEd)).trans eE
 have P4:m4.h (E+1)=some (.map 0 [] []):=by
  have hEd:E+1≠dk:=by omega
  have hES:E+1≠S:=by have:=d.Sx;omega
  exact(((w2.2 (E+1) (by omega) hEd hES).trans (M3o (E+1) (by omega) (by omega))).trans (hHo (E+1) (by omega) hEd)).trans eP
 have V4:m4.h (m2.nx+11)=some (.map 0 [] []):=((w2.2 _ (by omega) (by omega) (by omega)).trans (M3o _ (by omega) (by omega))).trans hHv
 have en:=fun t h8=>rY (m:=m4) (t:=t) (ch:=m2.nx+13) (E:=E) h8 c4 (by rw [← hC];rfl) (by rw [← hC];rfl) E4 (by omega)
 have S4:=d4.Sx
 have Sd:=d.Sx
 refine⟨⟨upd (upd m4.h m4.nx (some (.map 0 [] []))) (m2.nx+13) (some (.cells (C.set 9 (.map m4.nx)))),m4.nx+1⟩,m2.nx+13,S',run1 _ fun t h0 h8=>?_,?_,?_⟩
 rotate_left
 ·obtain⟨T4,g4,u1,u2,u3⟩:=d4.st
  exact⟨⟨T4,g4,by simp only [aK,nb (show dk≠m2.nx+13 by omega),nb (show dk≠m4.nx by omega),cond_false];exact u1,u2,by simp only [aK,nb (show S'≠m2.nx+13 by omega),nb (show S'≠m4.nx by omega),cond_false];exact u3⟩,by show S' < m4.nx+1;omega,by show dk < m4.nx+1;omega,d4.ne⟩
 ·refine⟨⟨.map E,E+1,m4.nx,0,0,.map (m2.nx+11),by rw [← hC];simp,?_,?_,.inr ⟨m2.nx+11,0,rfl,?_,?_⟩,rfl,?_⟩,by show m2.nx+13 < m4.nx+1;omega,by omega,by omega⟩
  ·simp only [aK,nb (show E+1≠m2.nx+13 by omega),nb (show E+1≠m4.nx by omega),cond_false];exact P4
  ·simp only [aK,nb (show m4.nx≠m2.nx+13 by omega),beq_self_eq_true,cond_true,cond_false]
  ·simp only [aK,nb (show m2.nx+11≠m2.nx+13 by omega),nb (show m2.nx+11≠m4.nx by omega),cond_false];exact V4
  ·show m2.nx+11 < m4.nx+1∧_
   omega
  ·show E+1 < m4.nx+1∧m4.nx < m4.nx+1∧_
   omega
 ·have qc:(m2.nx+13==m2.nx+15)=false:=nb (by omega)
  have M3c':=M3c
  rw [← hC] at hM3 M3c'
  have w1':denC prog ann 25 [.ptr (m2.nx+13) 0 12,.map (m2.nx+15),.agg [.int .u64 1,.int .i64 0]] M3=some (.int .i64 0,m4):=w1
  simp [h0,h8,hHc,hM3,M3c',w1',-ck.dg]
  refine en _ ?_
  simp [h8]
end Go.Proofs.YtadofgdidhpnpaaGreatDoor

/-
  A KEY IS PUT. Conditions: none.
-/
namespace Go.Proofs.YtadofgdidhpnpaaGreatDoor
open Go.AM
open Go.Proofs
open Go.Proofs.Tryz (prog)
set_option linter.all false
set_option maxRecDepth 100000
set_option maxHeartbeats 4000000
theorem DSt.frame {m m':Mem} {dk S lf tn op:Nat} {dn:Bool} {p:Nat→List UInt8} {ks vs:List AV} (d:DSt m dk S dn lf tn op p ks vs) (h1:m'.h dk=m.h dk) (h2:m'.h S=m.h S) (h3:m.nx≤m'.nx):DSt m' dk S dn lf tn op p ks vs:=by
 obtain⟨T,g,e1,e2,e3⟩:=d.st
 exact⟨⟨T,g,h1.trans e1,e2,h2.trans e3⟩,Nat.lt_of_lt_of_le d.Sx h3,Nat.lt_of_lt_of_le d.dx h3,d.ne⟩
def putL (k v:List UInt8):List (List UInt8)→List (List UInt8)→List (List UInt8)×List (List UInt8)
 | k'::ks,v'::vs=>if k=k' then(k'::ks,v::vs) else(k'::(putL k v ks vs).1,v'::(putL k v ks vs).2)
 | _,_=>([k],[v])
theorem wH {k v:List UInt8}:∀ {ks vs:List (List UInt8)},ks.length=vs.length→setK prog 9 (.str k) (.str v) (ks.map .str) (vs.map .str)=some ((putL k v ks vs).1.map .str,(putL k v ks vs).2.map .str)
 | [],[],_=>rfl
 | k'::ks,[],h=>by simp at h
 | [],_::_,h=>by simp at h
 | k'::ks,v'::vs,h=>by
  simp only [List.map_cons,setK,mJ,Option.bind_some,putL]
  by_cases e:k=k'
  ·subst e;simp
  ·have:(k==k')=false:=by rw [beq_eq_false_iff_ne];exact e
   rw [this,cond_false,wH (by simpa using h),if_neg e]
   rfl
theorem Cf {h:Nat→Option AObj} {nx E g:Nat} {k v:List UInt8} {ks vs:List (List UInt8)} (hl:ks.length=vs.length) (hE:h E=some (.map g (ks.map .str) (vs.map .str))) :
  updM prog ⟨h,nx⟩ 9 (.map E) (.str k) (.str v)=some (.tup [],⟨upd h E (some (.map (g+1) ((putL k v ks vs).1.map .str) ((putL k v ks vs).2.map .str))),nx⟩):=by
 simp only [updM,AM.updP,ri,cond_true,hE,wH hl,Option.bind_some,Option.map_some]
 rfl
theorem AA {m:Mem} {E g:Nat} {k:List UInt8} {ks vs:List (List UInt8)} (hl:ks.length=vs.length) (hE:m.h E=some (.map g (ks.map .str) (vs.map .str))):∃v b,lookP prog m 9 (.str []) (.map E) (.str k) true=some (.tup [v,.bool b]):=by
 have h:∀(ks vs:List (List UInt8)),ks.length=vs.length→∃r,findK prog 9 (.str k) (ks.map .str) (vs.map .str)=some r:=by
  intro ks
  induction ks with
  | nil=>intro vs h;cases vs with
   | nil=>exact⟨_,rfl⟩
   | cons=>simp at h
  | cons a ks ih=>intro vs h;cases vs with
   | nil=>simp at h
   | cons b vs =>
    obtain⟨r,hr⟩:=ih vs (by simpa using h)
    simp only [List.map_cons,findK,mJ,Option.bind_some]
    cases (k==a) with
    | true=>exact⟨_,rfl⟩
    | false=>exact⟨r,hr⟩
 obtain⟨r,hr⟩:=h ks vs hl
 simp only [lookP,ri,cond_true,lookA,hE,hr,Option.bind_some]
 cases r with
 | none=>exact⟨_,_,rfl⟩
 | some v=>exact⟨_,_,rfl⟩
section
variable {m : Mem} {ch dk S tn op num top lf : Nat} {p : Nat → List UInt8} {pk pv nk nv sk sv : List AV}
theorem m7 (c:ChSt m ch dk S tn op num top pk pv nk nv) {dn:Bool} (d:DSt m dk S dn lf tn op p sk sv):denC prog ann 27 [.ptr ch 0 12] m=some (.bool true,⟨m.h,m.nx+44⟩):=by
 obtain⟨E,Pg,Nw,g1,g2,vw,h1,_⟩:=c.st
 obtain⟨T,g,e1,e2,e3⟩:=d.st
 have hl:=e2.len
 have q:binA prog .neq 38 (.ptr ch 0 12) .nilp=some (.bool true):=by kernel_rfl
 rw [fL.al]
 simp [q,h1,e1,dkc,hl]
theorem Ai {K V:List (List UInt8)} (c:ChSt m ch dk S tn op num top pk pv (K.map .str) (V.map .str)) {dn:Bool} (d:DSt m dk S dn lf tn op p sk sv) (hKV:K.length=V.length) (hKl:K.length < 200) (k v:List UInt8) (hk0:k≠[]) (hk:k.length≤8) (hv:v.length≤16) :
  ∃m',denC prog ann 9 [.ptr ch 0 12,.str k,.str v] m=some (.int .i64 0,m')∧DSt m' dk S dn lf tn op p sk sv∧ChSt m' ch dk S tn op num top pk pv ((putL k v K V).1.map .str) ((putL k v K V).2.map .str):=by
 have w:=m7 c d
 obtain⟨E,Pg,Nw,g1,g2,vw,h1,h2,h3,h4,hE,n1,n2,a1,a2,a3,a4,a7,a8,b1⟩:=c.st
 obtain⟨v0,bb,hlk⟩:=AA (m:=⟨m.h,m.nx+44⟩) (k:=k) hKV h3
 have up:=Cf (nx:=m.nx+44) (k:=k) (v:=v) hKV h3
 have nb:∀ {a b:Nat},a≠b→(a==b)=false:=fun h=>by rw [beq_eq_false_iff_ne];exact h
 have d1:decide (k=[])=false:=by simp [hk0]
 have d2:decide ((8:Int) < k.length)=false:=by simp;omega
 have d3:decide ((16:Int) < v.length)=false:=by simp;omega
 have d4:decide (8 < k.length)=false:=by simp;omega
 have d5:decide (16 < v.length)=false:=by simp;omega
 have d6:decide ((K.length:Int)=200)=false:=by rw [decide_eq_false_iff_not];omega
 have d7:decide (K.length=200)=false:=by rw [decide_eq_false_iff_not];omega
 refine⟨⟨upd m.h Nw (some (.map (g2+1) ((putL k v K V).1.map .str) ((putL k v K V).2.map .str))),m.nx+44⟩,?_,d.frame (by simp only [aK,nb (show dk≠Nw from fun h=>a3 h.symm),cond_false]) (by simp only [aK,nb (show S≠Nw from fun h=>a4 h.symm),cond_false]) (by simp),⟨⟨E,Pg,Nw,g1,g2+1,vw,?_,?_,?_,?_,hE,?_⟩,by have:=c.cx;simp;omega,c.cd,c.cS⟩⟩
 ·rw [gL.al]
  cases bb with
  | true=>simp [w,d1,d2,d3,d4,d5,h1,hlk,up]
  | false=>simp [w,d1,d2,d3,d4,d5,h1,hlk,up,mapLenA,mapLen,h3,d6,d7]
 ·simp only [aK,nb (show ch≠Nw from fun h=>a8 h.symm),cond_false];exact h1
 ·simp only [aK,nb b1,cond_false];exact h2
 ·simp
 ·rcases h4 with h4 | ⟨Vw,g3,rfl,h4,c1,c2,c3,c4,c5,c6⟩
  ·exact .inl h4
  ·exact .inr ⟨Vw,g3,rfl,by simp only [aK,nb (show Vw≠Nw from fun h=>c6 h.symm),cond_false];exact h4,by simp;omega,c2,c3,c4,c5,c6⟩
 ·refine⟨by simp;omega,by simp;omega,a1,a2,a3,a4,a7,a8,b1⟩
end
end Go.Proofs.YtadofgdidhpnpaaGreatDoor

/-
  A PLACE FOR A PAGE: free, put. Conditions: none.
-/
namespace Go.Proofs.YtadofgdidhpnpaaGreatDoor
open Go.AM
open Go.Proofs
open Go.Proofs.Tryz (prog)
set_option linter.all false
set_option maxRecDepth 100000
set_option maxHeartbeats 4000000
def Free (pk pv:List AV) (q:List UInt8) (k:Nat):Prop :=
 (pk=[]∧pv=[]∧k=2)∨∃(k0:Nat) (q0:List UInt8),pk=[.int .i64 k0]∧pv=[.agg (u8L q0)]∧q0.length=256∧q0≠q∧((k0=2∧k=3)∨(k0=3∧k=2))
theorem Hm:prog.underlying 3=some (.int .i64):=by kernel_rfl
theorem Hn (n:Int):keyT prog 3 (.int .i64 n)=true:=by kernel_rfl
theorem Ay {m:Mem} {U g k0 k:Nat} {v z:AV} (hU:m.h U=some (.map g [.int .i64 k0] [v])):lookP prog m 3 z (.map U) (.int .i64 k) true=some (if k=k0 then .tup [v,.bool true] else .tup [z,.bool false]):=by
 have e:keyEq prog 3 (.int .i64 k) (.int .i64 k0)=some (decide (k=k0)):=by
  simp only [keyEq,scV,Hm,eqSc]
  by_cases h:k=k0
  ·subst h;simp
  ·have:((k:Int)==(k0:Int))=false:=by rw [beq_eq_false_iff_ne];omega
   simp [this,h]
 simp only [lookP,Hn,cond_true,lookA,hU,findK,e,Option.bind_some]
 by_cases h:k=k0
 ·simp [h]
 ·simp [h]
theorem free_spec {m:Mem} {LS U g k:Nat} {pk pv:List AV} {q:List UInt8} (hL:m.h LS=some (.cells [.int .i64 1])) (hU:m.h U=some (.map g pk pv)) (hF:Free pk pv q k) (hLx:LS < m.nx) (hUx:U < m.nx) (hLU:LS≠U) :
  ∃m',denC prog ann 30 [.ptr LS 0 1,.sptr [.map U]] m=some (.int .i64 k,m')∧m.nx≤m'.nx∧∀x,x < m.nx→x≠LS→m'.h x=m.h x:=by
 have nb:∀ {a b:Nat},a≠b→(a==b)=false:=fun h=>by rw [beq_eq_false_iff_ne];exact h
 obtain⟨Z,hZ⟩:∃Z,page0=Z:=⟨_,rfl⟩
 have h1:Z.length=256:=by rw [← hZ,cE]
 have h2:oneL Z=true:=by rw [← hZ];exact cR
 have f2:List.take 256 Z=Z:=List.take_of_length_le (by omega)
 have f3:List.drop 256 Z=[]:=List.drop_of_length_le (by omega)
 have q1:(U==LS)=false:=nb fun h=>hLU h.symm
 have q2:(LS==m.nx)=false:=nb (by omega)
 have q3:(U==m.nx)=false:=nb (by omega)
 have q4:(LS==m.nx+1)=false:=nb (by omega)
 rcases hF with ⟨rfl,rfl,rfl⟩ | ⟨k0,q0,rfl,rfl,hq,_,h23⟩
 ·have lk:∀h nx z n,h U=some (.map g [] [])→lookP prog ⟨h,nx⟩ 3 z (.map U) (.int .i64 n) true=some (.tup [z,.bool false]):=fun h nx z n hh=>jQ (m:=⟨h,nx⟩) z n hh
  refine⟨⟨upd (upd m.h LS (some (.cells [.int .i64 2]))) m.nx none,m.nx+1⟩,?_,by simp,fun x hx h=>?_⟩
  ·rw [bR.al]
   simp [hL,wi2]
   rw [bR.aM]
   simp [hZ,h1,h2,f2,f3,q1,q2,q3,hU,lk]
  ·simp only [aK,nb (show x≠m.nx by omega),nb h,cond_false]
 ·rcases h23 with ⟨rfl,rfl⟩ | ⟨rfl,rfl⟩
  ·have e2:List.take 256 (u8L q0)=u8L q0:=List.take_of_length_le (by rw [aN];omega)
   have lk:∀h nx z,h U=some (.map g [.int .i64 2] [.agg (u8L q0)])→lookP prog ⟨h,nx⟩ 3 z (.map U) (.int .i64 2) true=some (.tup [.agg (u8L q0),.bool true]):=fun h nx z hh=>(Ay (m:=⟨h,nx⟩) (k0:=2) (k:=2) hh)
   have lk3:∀h nx z,h U=some (.map g [.int .i64 2] [.agg (u8L q0)])→lookP prog ⟨h,nx⟩ 3 z (.map U) (.int .i64 3) true=some (.tup [z,.bool false]):=fun h nx z hh=>(Ay (m:=⟨h,nx⟩) (k0:=2) (k:=3) hh)
   have hU':m.h U=some (.map g [.int .i64 2] [.agg (u8L q0)]):=hU
   refine⟨⟨upd (upd (upd (upd m.h LS (some (.cells [.int .i64 2]))) m.nx none) LS (some (.cells [.int .i64 3]))) (m.nx+1) none,m.nx+1+1⟩,?_,by simp;omega,fun x hx h=>?_⟩
   ·rw [bR.al]
    simp [hL,wi2]
    rw [bR.aM]
    simp [hZ,h1,h2,f2,f3,q1,q2,q3,q4,hU',lk,aN,cQ,hq,e2,wi3]
    rw [bR.aM]
    simp [hZ,h1,h2,f2,f3,q1,q2,q3,q4,hU',lk3,aN,cQ,hq,e2,wi3]
   ·simp only [aK,nb (show x≠m.nx by omega),nb (show x≠m.nx+1 by omega),nb h,cond_false]
  ·have lk:∀h nx z,h U=some (.map g [.int .i64 3] [.agg (u8L q0)])→lookP prog ⟨h,nx⟩ 3 z (.map U) (.int .i64 2) true=some (.tup [z,.bool false]):=fun h nx z hh=>(Ay (m:=⟨h,nx⟩) (k0:=3) (k:=2) hh)
   have hU':m.h U=some (.map g [.int .i64 3] [.agg (u8L q0)]):=hU
   refine⟨⟨upd (upd m.h LS (some (.cells [.int .i64 2]))) m.nx none,m.nx+1⟩,?_,by simp,fun x hx h=>?_⟩
   ·rw [bR.al]
    simp [hL,wi2]
    rw [bR.aM]
    simp [hZ,h1,h2,f2,f3,q1,q2,q3,hU',lk]
   ·simp only [aK,nb (show x≠m.nx by omega),nb h,cond_false]
theorem IJ {h:Nat→Option AObj} {nx Pg:Nat} (n:Nat) (v:AV) (hP:h Pg=some (.map 0 [] [])):updM prog ⟨h,nx⟩ 3 (.map Pg) (.int .i64 n) v=some (.tup [],⟨upd h Pg (some (.map 1 [.int .i64 n] [v])),nx⟩):=pR (n:Int) v hP
theorem Az {t:List (Nat×AV)} {nt:Nat} {c:List AV} {m:Mem} (h1:AM.get t 4=.sptr c):frz1 ⟨t,nt,m⟩ 3004038=some ⟨t,nt,m⟩:=by
 have b1:Nat.blt 3004038 1000=false:=rfl
 have b2:Nat.ble 1000000 3004038=true:=rfl
 have b3:Nat.blt 3004038 2000000=false:=rfl
 have b4:Nat.blt 3004038 3000000=false:=rfl
 have b5:(3004038 - 3000000) / 1000=4:=rfl
 have b6:(3004038 - 3000000) % 1000=38:=rfl
 simp only [frz1,b1,b2,cond_false,cond_true,tst,b3,b4,b5,b6,apart2,St.get,h1]
 rfl
theorem Ax {m:Mem} {LS U A F g k:Nat} {pk pv:List AV} {q:List UInt8} (hq:q.length=256) (hL:m.h LS=some (.cells [.int .i64 1])) (hU:m.h U=some (.map g pk pv)) (hA:m.h A=some (.map 0 [] [])) (hF:m.h F=some (.map 0 [] [])) (hfr:Free pk pv q k)
  (hLx:LS < m.nx) (hUx:U < m.nx) (hAx:A < m.nx) (hFx:F < m.nx) (hLU:LS≠U) (hLA:LS≠A) (hLF:LS≠F) (hUA:U≠A) (hUF:U≠F) (hAF:A≠F) :
  ∃m',denC prog ann 52 [.agg (u8L q),.fptr [.fmap pk pv],.sptr [.map A],.sptr [.fn 30 [] [.ptr LS 0 1,.sptr [.map U]]],.sptr [.map F]] m=some (.int .i64 k,m')∧m.nx≤m'.nx∧(∀x,x < m.nx→x≠LS→x≠A→x≠F→m'.h x=m.h x) ∧
   m'.h A=some (.map 1 [.int .i64 k] [.agg (u8L q)])∧m'.h F=some (.map 1 [.int .i64 k] [.agg (u8L q)]):=by
 have nb:∀ {a b:Nat},a≠b→(a==b)=false:=fun h=>by rw [beq_eq_false_iff_ne];exact h
 have q1:(F==A)=false:=nb fun h=>hAF h.symm
 have q2:(A==F)=false:=nb hAF
 obtain⟨Z,hZ⟩:∃Z,page0=Z:=⟨_,rfl⟩
 have h1:Z.length=256:=by rw [← hZ,cE]
 have h2:oneL Z=true:=by rw [← hZ];exact cR
 have f2:List.take 256 Z=Z:=List.take_of_length_le (by omega)
 have f3:List.drop 256 Z=[]:=List.drop_of_length_le (by omega)
 have rest:∀(M:Mem) (I:Nat) (c:List AV),M.h I=some (.iter c [] [])→M.h LS=some (.cells [.int .i64 1])→M.h U=some (.map g pk pv)→M.h A=some (.map 0 [] [])→M.h F=some (.map 0 [] [])→m.nx≤M.nx→(∀x,x < m.nx→M.h x=m.h x) →
   ∃m',ct.L0 (.sptr [.map A]) (.sptr [.fn 30 [] [.ptr LS 0 1,.sptr [.map U]]]) (.sptr [.map F]) (.fptr (u8L q)) (.iter I) M [.code ct.r8,.code ct.r9,.code ct.r10,.code .ret]=some (.int .i64 k,m')∧m.nx≤m'.nx∧(∀x,x < m.nx→x≠LS→x≠A→x≠F→m'.h x=m.h x) ∧
    m'.h A=some (.map 1 [.int .i64 k] [.agg (u8L q)])∧m'.h F=some (.map 1 [.int .i64 k] [.agg (u8L q)]):=by
  intro M I c hI b1 b2 b3 b4 b5 b6
  obtain⟨m1,k1,k2,k3⟩:=free_spec b1 b2 hfr (by omega) (by omega) hLU
  have c1:m1.h A=some (.map 0 [] []):=(k3 A (by omega) (fun h=>hLA h.symm)).trans b3
  have c2:m1.h F=some (.map 0 [] []):=(k3 F (by omega) (fun h=>hLF h.symm)).trans b4
  have e2:List.take 256 (u8L q)=u8L q:=List.take_of_length_le (by rw [aN];omega)
  refine⟨⟨upd (upd m1.h A (some (.map 1 [.int .i64 k] [.agg (u8L q)]))) F (some (.map 1 [.int .i64 k] [.agg (u8L q)])),m1.nx+8⟩,?_,by simp;omega,fun x hx a b c=>?_,by simp [q2],by simp⟩
  ·rw [ct.aM]
   simp [kN (s:=⟨[(2,.sptr [.map A]),(3,.sptr [.fn 30 [] [.ptr LS 0 1,.sptr [.map U]]]),(4,.sptr [.map F]),(5,.fptr (u8L q)),(13,.iter I)],45,M⟩) hI,k1,aN,hq,e2,IJ,c1,c2,q1,q2,Az (c:=[.map F])]
  ·simp only [aK,nb b,nb c,cond_false]
   rw [k3 x (by omega) a,b6 x hx]
 rcases hfr with ⟨rfl,rfl,hk⟩ | ⟨k0,q0,rfl,rfl,hq0,hqq,h23⟩
 ·obtain⟨m',r1,r2⟩:=rest ⟨upd m.h m.nx (some (.iter [] [] [])),m.nx+1⟩ m.nx [] (by simp) (by simp only [aK,nb (show LS≠m.nx by omega),cond_false];exact hL) (by simp only [aK,nb (show U≠m.nx by omega),cond_false];exact hU) (by simp only [aK,nb (show A≠m.nx by omega),cond_false];exact hA) (by simp only [aK,nb (show F≠m.nx by omega),cond_false];exact hF) (by simp) (fun x hx=>by simp only [aK,nb (show x≠m.nx by omega),cond_false])
  refine⟨m',?_,r2⟩
  rw [ct.al]
  simp [frozenPtr,cQ,bZ,rangeA,-ct.bQ]
  exact r1
 ·have eq:=Db hq0 hq
  have ef:decide (q0=q)=false:=by simp [hqq]
  rw [ef] at eq
  have e2:List.take 256 (u8L q)=u8L q:=List.take_of_length_le (by rw [aN];omega)
  have e3:List.take 256 (u8L q0)=u8L q0:=List.take_of_length_le (by rw [aN];omega)
  have h3:closedL Z=true:=by rw [← hZ];rfl
  have lk:∀h nx z n,h A=some (.map 0 [] [])→lookP prog ⟨h,nx⟩ 3 z (.map A) (.int .i64 n) true=some (.tup [z,.bool false]):=fun h nx z n hh=>jQ (m:=⟨h,nx⟩) z n hh
  have z1:(A==m.nx)=false:=nb (by omega)
  have z2:(A==m.nx+1)=false:=nb (by omega)
  have z3:(A==m.nx+1+1)=false:=nb (by omega)
  obtain⟨H,hH⟩:∃H,upd (upd (upd m.h m.nx (some (.iter [.int .i64 k0,.agg (u8L q0)] [] []))) (m.nx+1) none) (m.nx+1+1) none=H:=⟨_,rfl⟩
  have Ho:∀x,x < m.nx→H x=m.h x:=fun x hx=>by
   rw [← hH];simp only [aK,nb (show x≠m.nx by omega),nb (show x≠m.nx+1 by omega),nb (show x≠m.nx+1+1 by omega),cond_false]
  obtain⟨m',r1,r2⟩:=rest ⟨H,m.nx+1+1+1⟩ m.nx [.int .i64 k0,.agg (u8L q0)] (by rw [← hH];simp) ((Ho _ hLx).trans hL) ((Ho _ hUx).trans hU) ((Ho _ hAx).trans hA) ((Ho _ hFx).trans hF) (by simp;omega) Ho
  refine⟨m',?_,r2⟩
  rw [ct.al]
  simp [frozenPtr,cQ,bZ,rangeA,-ct.bQ]
  rw [ct.aM]
  simp [oW (s:=⟨[(2,.sptr [.map A]),(3,.sptr [.fn 30 [] [.ptr LS 0 1,.sptr [.map U]]]),(4,.sptr [.map F]),(5,.fptr (u8L q)),(13,.iter m.nx)],45,⟨upd m.h m.nx (some (.iter [] [.int .i64 k0] [.agg (u8L q0)])),m.nx+1⟩⟩) (id:=m.nx) (c:=[]) (a:=.int .i64 k0) (v:=.agg (u8L q0)) (by simp),curA,hZ,h1,h2,h3,f2,f3,e2,e3,aN,cQ,bZ,hq,hq0,hA,lk,z1,z2,eq,-ct.bQ]
  rw [hH]
  exact r1
end Go.Proofs.YtadofgdidhpnpaaGreatDoor

/-
  A TREE OF ONE LEAF IS LAID. Conditions: none.
-/
namespace Go.Proofs.YtadofgdidhpnpaaGreatDoor
open Go.AM
open Go.Proofs
open Go.Proofs.Tryz (prog)
set_option linter.all false
set_option maxRecDepth 100000
set_option maxHeartbeats 4000000
theorem f53:prog.funcs[53]?=some Tryz.f53:=by kernel_rfl
theorem Aw (args:List AV) (m:Mem):denC prog ann 53 args m=leavesA m args:=by
 rw [dY f53 (b:=(Tryz.f53.body).getD .skip) (by kernel_rfl) (by kernel_rfl)]
 have e:(ann 53).ext=true:=by kernel_rfl
 simp only [libA,e,cond_true,extF]
 rfl
theorem kV:∀l:List (List UInt8),strsO (l.map .str)=some l
 | []=>rfl
 | a::l=>by simp only [List.map_cons,strsO,kV l];rfl
theorem rW {m:Mem} {Nw g:Nat} {K V:List (List UInt8)} (h:m.h Nw=some (.map g (K.map .str) (V.map .str))) (h0:K≠[]) (h9:K.length≤9) (hn:K.Nodup) (hk:∀k∈K,k.length≤100) (hv:∀v∈V,v.length≤100) :
  denC prog ann 53 [.map Nw] m=some (.fsl false 1 (u8L (padB (leafB K V))),m):=by
 rw [Aw,leavesA,h]
 have c:(Nat.ble K.length 9&&decide K.Nodup&&K.all (fun k=>Nat.ble k.length 100)&&V.all (fun k=>Nat.ble k.length 100))=true:=by
  simp only [Bool.and_eq_true,Nat.ble_eq,decide_eq_true_eq,List.all_eq_true]
  exact⟨⟨⟨h9,hn⟩,hk⟩,hv⟩
 simp only [leavesL,kV,Option.bind_some,c,cond_true]
theorem Av {m:Mem} {LS U Nw g gn k:Nat} {pk pv:List AV} {K V:List (List UInt8)} (hpc:(closedL pk&&closedL pv)=true) (hL:m.h LS=some (.cells [.int .i64 1])) (hU:m.h U=some (.map g pk pv)) (hN:m.h Nw=some (.map gn (K.map .str) (V.map .str)))
  (h0:K≠[]) (h9:K.length≤9) (hn:K.Nodup) (hk:∀k∈K,k.length≤100) (hv:∀v∈V,v.length≤100) (hfr:Free pk pv (padB (leafB K V)) k) (hLx:LS < m.nx) (hUx:U < m.nx) (hNx:Nw < m.nx) (hLU:LS≠U) (hLN:LS≠Nw) :
  ∃m' A F,denC prog ann 31 [.map Nw,.fmap pk pv,.fn 30 [] [.ptr LS 0 1,.sptr [.map U]]] m=some (.tup [.int .i64 k,.map A,.map F],m')∧m.nx≤m'.nx∧(∀x,x < m.nx→x≠LS→m'.h x=m.h x)∧m.nx≤A∧A < m'.nx∧m.nx≤F∧F < m'.nx∧A≠F ∧
   m'.h A=some (.map 1 [.int .i64 k] [.agg (u8L (padB (leafB K V)))])∧m'.h F=some (.map 1 [.int .i64 k] [.agg (u8L (padB (leafB K V)))]):=by
 have nb:∀ {a b:Nat},a≠b→(a==b)=false:=fun h=>by rw [beq_eq_false_iff_ne];exact h
 obtain⟨q,hq⟩:∃q,padB (leafB K V)=q:=⟨_,rfl⟩
 have hql:q.length=256:=by rw [← hq,dK]
 rw [hq] at hfr ⊢
 obtain⟨Z,hZ⟩:∃Z,page0=Z:=⟨_,rfl⟩
 have h1:Z.length=256:=by rw [← hZ,cE]
 have h2:oneL Z=true:=by rw [← hZ];exact cR
 have f3:List.drop 256 Z=[]:=List.drop_of_length_le (by omega)
 have e2:List.take 256 (u8L q)=u8L q:=List.take_of_length_le (by rw [aN];omega)
 have lv:∀h nx,h Nw=some (.map gn (K.map .str) (V.map .str))→denC prog ann 53 [.map Nw] ⟨h,nx⟩=some (.fsl false 1 (u8L q),⟨h,nx⟩):=fun h nx hh=>by
  rw [rW (m:=⟨h,nx⟩) hh h0 h9 hn hk hv,hq]
 have z1:(Nw==m.nx)=false:=nb (by omega)
 have z2:(Nw==m.nx+1)=false:=nb (by omega)
 have z3:(Nw==m.nx+1+1)=false:=nb (by omega)
 have z4:(Nw==m.nx+1+1+1)=false:=nb (by omega)
 rw [eh.al]
 simp only [Bool.and_eq_true] at hpc
 simp [frozenPtr,hpc.1,hpc.2,lv,z1,z2,z3,z4,hN]
 obtain⟨M,hM⟩:∃M:Mem,(⟨upd (upd (upd (upd (upd m.h m.nx (some (.map 0 [] []))) (m.nx+1) (some (.map 0 [] []))) (m.nx+1+1) none) (m.nx+1+1+1) none) (m.nx+1+1+1+1) (some (.cells [.fsl false 1 (u8L q)])),m.nx+1+1+1+1+1⟩:Mem)=M:=⟨_,rfl⟩
 have Mn:M.nx=m.nx+5:=by rw [← hM]
 have Mo:∀x,x < m.nx→M.h x=m.h x:=fun x hx=>by
  rw [← hM];simp only [aK,nb (show x≠m.nx by omega),nb (show x≠m.nx+1 by omega),nb (show x≠m.nx+1+1 by omega),nb (show x≠m.nx+1+1+1 by omega),nb (show x≠m.nx+1+1+1+1 by omega),cond_false]
 have MA:M.h m.nx=some (.map 0 [] []):=by rw [← hM];simp
 have MF:M.h (m.nx+1)=some (.map 0 [] []):=by rw [← hM];simp
 have ML:M.h (m.nx+1+1+1+1)=some (.cells [.fsl false 1 (u8L q)]):=by rw [← hM];simp
 rw [hM]
 have Mk:=cH M none 0
 obtain⟨m1,p1,p2,p3,p4,p5⟩:=Ax (m:=⟨upd M.h M.nx none,M.nx+1+0⟩) (LS:=LS) (U:=U) (A:=m.nx) (F:=m.nx+1) hql ((Mk.2 _ (by omega)).trans ((Mo _ hLx).trans hL)) ((Mk.2 _ (by omega)).trans ((Mo _ hUx).trans hU)) ((Mk.2 _ (by omega)).trans MA) ((Mk.2 _ (by omega)).trans MF) hfr (by simp;omega) (by simp;omega) (by simp;omega) (by simp;omega) hLU (by omega) (by omega) (by omega) (by omega) (by omega)
 simp at p1 p2
 have zL:(m.nx+1+1+1+1==M.nx)=false:=nb (by omega)
 have m1L:m1.h (m.nx+1+1+1+1)=some (.cells [.fsl false 1 (u8L q)]):=(p3 _ (by simp;omega) (by omega) (by omega) (by omega)).trans ((Mk.2 _ (by omega)).trans ML)
 refine⟨⟨upd m1.h m1.nx (some (.cells [.int .i64 k])),m1.nx+1+8⟩,m.nx,m.nx+1,?_,by simp;omega,fun x hx h=>?_,by omega,by simp;omega,by omega,by simp;omega,by omega,?_,?_⟩
 ·rw [eh.aM]
  simp [ML,-eh.bW]
  rw [eh.dt]
  simp [hZ,h1,h2,f3,e2,aN,cQ,bZ,hql,zL,ML,p1,m1L,wi1,-eh.bW]
  rw [eh.dt]
  simp
 ·simp only [aK,nb (show x≠m1.nx by omega),cond_false]
  rw [p3 x (by simp;omega) h (by omega) (by omega)]
  exact(Mk.2 _ (by omega)).trans (Mo _ hx)
 ·simp only [aK,nb (show m.nx≠m1.nx by omega),cond_false];exact p4
 ·simp only [aK,nb (show m.nx+1≠m1.nx by omega),cond_false];exact p5
end Go.Proofs.YtadofgdidhpnpaaGreatDoor

/-
  A COMMIT (1): up to the call of lay. Conditions: none.
-/
namespace Go.Proofs.YtadofgdidhpnpaaGreatDoor
open Go.AM
open Go.Proofs
open Go.Proofs.Tryz (prog)
set_option linter.all false
set_option maxRecDepth 100000
set_option maxHeartbeats 4000000
theorem f28:prog.funcs[28]?=some Tryz.f28:=by kernel_rfl
theorem Cd (args:List AV) (m:Mem):denC prog ann 28 args m=cloneA m args:=by
 rw [dY f28 (b:=(Tryz.f28.body).getD .skip) (by kernel_rfl) (by kernel_rfl)]
 have e:(ann 28).ext=true:=by kernel_rfl
 simp only [libA,e,cond_true,extF]
 rfl
theorem Cc (ks vs:List AV) (m:Mem):denC prog ann 28 [.fmap ks vs] m=some (.map m.nx,⟨upd m.h m.nx (some (.map 0 ks vs)),m.nx+1⟩):=by
 rw [Cd];rfl
theorem rU (h:Nat→Option AObj) (i:Nat) (o:Option AObj):upd h i o i=o:=by simp [aK]
section
variable {t : List (Nat × AV)} {nt ch id g c : Nat} {h : Nat → Option AObj} {nx : Nat} {xs ks vs : List AV}
theorem rV (h0:AM.get t 0=.ptr ch 0 12) (hc:h ch=some (.cells xs)) (hx:xs.length=12) (hu:xs[8]?=some (.map id)) (hi:id≠ch) (hm:h id=some (.map g ks vs)) (hcl:(closedL ks&&closedL vs)=true) :
  frz1 ⟨t,nt,⟨h,nx⟩⟩ 608000=some ⟨t,nt,⟨upd (upd h id none) ch (some (.cells (xs.set 8 (.fmap ks vs)))),nx⟩⟩:=by
 have q:(id==ch)=false:=by rw [beq_eq_false_iff_ne];exact hi
 have b1:Nat.blt 608000 1000=false:=rfl
 have b2:Nat.ble 1000000 608000=false:=rfl
 have b3:Nat.ble 900000 608000=false:=rfl
 have b4:(Nat.blt 608000 800000&&Nat.ble 700000 608000)=false:=rfl
 have b5:(Nat.blt 608000 700000&&Nat.ble 600000 608000)=true:=rfl
 have b6:608000 % 1000=0:=rfl
 have b7:(608000 - 600000) / 1000=8:=rfl
 simp only [frz1,b1,b2,b3,b4,b5,b6,b7,cond_false,cond_true,St.get,h0,frzMC,hc,hx,beq_self_eq_true,cellJ,Nat.zero_add,frzMJ,hu,Option.bind_some,q,frzM,hm,hcl]
 rfl
theorem yq (h0:AM.get t 0=.ptr ch 0 12) (hc:h ch=some (.cells xs)) (hx:xs.length=12) (hu:xs[10]?=some (.map id)) (hi:id≠ch) (hm:h id=some (.map g ks vs)) (hcl:(closedL ks&&closedL vs)=true) :
  frz1 ⟨t,nt,⟨h,nx⟩⟩ 610000=some ⟨t,nt,⟨upd (upd h id none) ch (some (.cells (xs.set 10 (.fmap ks vs)))),nx⟩⟩:=by
 have q:(id==ch)=false:=by rw [beq_eq_false_iff_ne];exact hi
 have b1:Nat.blt 610000 1000=false:=rfl
 have b2:Nat.ble 1000000 610000=false:=rfl
 have b3:Nat.ble 900000 610000=false:=rfl
 have b4:(Nat.blt 610000 800000&&Nat.ble 700000 610000)=false:=rfl
 have b5:(Nat.blt 610000 700000&&Nat.ble 600000 610000)=true:=rfl
 have b6:610000 % 1000=0:=rfl
 have b7:(610000 - 600000) / 1000=10:=rfl
 simp only [frz1,b1,b2,b3,b4,b5,b6,b7,cond_false,cond_true,St.get,h0,frzMC,hc,hx,beq_self_eq_true,cellJ,Nat.zero_add,frzMJ,hu,Option.bind_some,q,frzM,hm,hcl]
 rfl
theorem Ce (h0:AM.get t 0=.ptr ch 0 12) (hc:h ch=some (.cells xs)) (hx:xs.length=12) (hu:xs[10]?=some (.fmap ks vs)) :
  frz1 ⟨t,nt,⟨h,nx⟩⟩ 610000=some ⟨t,nt,⟨h,nx⟩⟩:=by
 have b1:Nat.blt 610000 1000=false:=rfl
 have b2:Nat.ble 1000000 610000=false:=rfl
 have b3:Nat.ble 900000 610000=false:=rfl
 have b4:(Nat.blt 610000 800000&&Nat.ble 700000 610000)=false:=rfl
 have b5:(Nat.blt 610000 700000&&Nat.ble 600000 610000)=true:=rfl
 have b6:610000 % 1000=0:=rfl
 have b7:(610000 - 600000) / 1000=10:=rfl
 simp only [frz1,b1,b2,b3,b4,b5,b6,b7,cond_false,cond_true,St.get,h0,frzMC,hc,hx,beq_self_eq_true,cellJ,Nat.zero_add,frzMJ,hu,Option.bind_some]
 rfl
end
theorem yn {m:Mem} {ch dk S tn op num top:Nat} {pk pv nk nv:List AV} (c:ChSt m ch dk S tn op num top pk pv nk nv) (hpc:(closedL pk&&closedL pv)=true) :
  ∃(H:Nat→Option AObj) (E:AV) (Nw g2:Nat),(∀t n,AM.get t 0=.ptr ch 0 12→(frz1 ⟨t,83,⟨m.h,m.nx+n⟩⟩ 608000).bind (fun s=>frz1 s 610000)=some ⟨t,83,⟨H,m.nx+n⟩⟩) ∧
   H ch=some (.cells [.bool true,.bool false,.ptr dk 0 65542,.int .i64 tn,.int .i64 op,.int .u64 num,.int .i64 top,E,.fmap pk pv,.map Nw,.fmap [] [],.int .i64 0])∧H Nw=some (.map g2 nk nv)∧Nw < m.nx∧Nw≠ch∧Nw≠dk∧Nw≠S∧H dk=m.h dk∧H S=m.h S∧E.one=true:=by
 have nb:∀ {a b:Nat},a≠b→(a==b)=false:=fun h=>by rw [beq_eq_false_iff_ne];exact h
 obtain⟨E,Pg,Nw,g1,g2,vw,h1,h2,h3,h4,hE,n1,n2,a1,a2,a3,a4,a7,a8,b1⟩:=c.st
 have cd:=c.cd
 have cS:=c.cS
 rcases h4 with rfl | ⟨Vw,g3,rfl,h4,c1,c2,c3,c4,c5,c6⟩
 ·refine⟨upd (upd m.h Pg none) ch (some (.cells [.bool true,.bool false,.ptr dk 0 65542,.int .i64 tn,.int .i64 op,.int .u64 num,.int .i64 top,E,.fmap pk pv,.map Nw,.fmap [] [],.int .i64 0])),E,Nw,g2,fun t n h0=>?_,by simp,?_,n2,a8,a3,a4,?_,?_,hE⟩
  ·rw [rV h0 h1 rfl rfl a7 h2 hpc]
   exact Ce (ch:=ch) h0 (rU _ _ _) rfl rfl
  ·simp only [aK,nb a8,nb (show Nw≠Pg from fun h=>b1 h.symm),cond_false];exact h3
  ·simp only [aK,nb (show dk≠ch from fun h=>cd h.symm),nb (show dk≠Pg from fun h=>a1 h.symm),cond_false]
  ·simp only [aK,nb (show S≠ch from fun h=>cS h.symm),nb (show S≠Pg from fun h=>a2 h.symm),cond_false]
 ·refine⟨upd (upd (upd (upd m.h Pg none) ch (some (.cells [.bool true,.bool false,.ptr dk 0 65542,.int .i64 tn,.int .i64 op,.int .u64 num,.int .i64 top,E,.fmap pk pv,.map Nw,.map Vw,.int .i64 0]))) Vw none) ch (some (.cells [.bool true,.bool false,.ptr dk 0 65542,.int .i64 tn,.int .i64 op,.int .u64 num,.int .i64 top,E,.fmap pk pv,.map Nw,.fmap [] [],.int .i64 0])),E,Nw,g2,fun t n h0=>?_,by simp,?_,n2,a8,a3,a4,?_,?_,hE⟩
  ·rw [rV h0 h1 rfl rfl a7 h2 hpc]
   exact yq (ch:=ch) (id:=Vw) (g:=g3) (ks:=[]) (vs:=[]) h0 (rU _ _ _) rfl rfl c4 (by simp only [aK,nb c4,nb (show Vw≠Pg from fun h=>c5 h.symm),cond_false];exact h4) rfl
  ·simp only [aK,nb a8,nb (show Nw≠Pg from fun h=>b1 h.symm),nb c6,cond_false];exact h3
  ·simp only [aK,nb (show dk≠ch from fun h=>cd h.symm),nb (show dk≠Pg from fun h=>a1 h.symm),nb (show dk≠Vw from fun h=>c2 h.symm),cond_false]
  ·simp only [aK,nb (show S≠ch from fun h=>cS h.symm),nb (show S≠Pg from fun h=>a2 h.symm),nb (show S≠Vw from fun h=>c3 h.symm),cond_false]
end Go.Proofs.YtadofgdidhpnpaaGreatDoor

/-
  A COMMIT (2). Conditions: none.
-/
namespace Go.Proofs.YtadofgdidhpnpaaGreatDoor
open Go.AM
open Go.Proofs
open Go.Proofs.Tryz (prog)
set_option linter.all false
set_option maxRecDepth 100000
set_option maxHeartbeats 4000000
section
variable {m : Mem} {ch dk S tn op num top lf : Nat} {p : Nat → List UInt8} {pk pv nk nv sk sv : List AV}
theorem rT (c:ChSt m ch dk S tn op num top pk pv nk nv) (d:DSt m dk S false lf tn op p sk sv) (hpc:(closedL pk&&closedL pv)=true) :
  ∃(M1:Mem) (E:AV) (Nw g2 U LS:Nat),(∀R,(∀t,AM.get t 0=.ptr ch 0 12→AM.get t 7=.fn 30 [] [.ptr LS 0 1,.sptr [.map U]]→den prog ann 10 [.code bq.r10,.code bq.r11,.code bq.r12,.code bq.r13,.code bq.i2,.code bq.r16,.code bq.r17,.code .ret] ⟨t,83,M1⟩=R)→denC prog ann 10 [.ptr ch 0 12] m=R) ∧
   M1.h ch=some (.cells [.bool true,.bool false,.ptr dk 0 65542,.int .i64 tn,.int .i64 op,.int .u64 num,.int .i64 top,E,.fmap pk pv,.map Nw,.fmap [] [],.int .i64 0])∧M1.h Nw=some (.map g2 nk nv)∧M1.h U=some (.map 0 pk pv)∧M1.h LS=some (.cells [.int .i64 1])∧M1.h dk=m.h dk∧M1.h S=m.h S ∧
   Nw < m.nx∧Nw≠ch∧Nw≠dk∧Nw≠S∧m.nx≤U∧m.nx≤LS∧LS≠U∧U < M1.nx∧LS < M1.nx∧m.nx≤M1.nx∧E.one=true:=by
 have nb:∀ {a b:Nat},a≠b→(a==b)=false:=fun h=>by rw [beq_eq_false_iff_ne];exact h
 have w:=m7 c d
 obtain⟨H,E,Nw,g2,fz,H1,H2,n1,n2,n3,n4,H3,H4,hE⟩:=yn c hpc
 have cx:=c.cx
 have dx:=d.dx
 have Sx:=d.Sx
 have fz':∀t,AM.get t 0=.ptr ch 0 12→(frz1 ⟨t,83,⟨m.h,m.nx+44⟩⟩ 608000).bind (frzL [610000])=some ⟨t,83,⟨H,m.nx+44⟩⟩:=fun t h0=>by
  have:=fz t 44 h0
  simp only [Option.bind_eq_some_iff] at this
  obtain⟨s,e1,e2⟩:=this
  rw [e1,Option.bind_some,oO,e2];rfl
 obtain⟨M1,hM1⟩:∃M1:Mem,(⟨upd (upd (upd (upd H (m.nx+44) (some (.map 0 pk pv))) (m.nx+44+1) none) (m.nx+44+1+1) (some (.iter [] [] []))) (m.nx+44+1+1+1) (some (.cells [.int .i64 1])),m.nx+44+1+1+1+1⟩:Mem)=M1:=⟨_,rfl⟩
 have Mo:∀x,x < m.nx→M1.h x=H x:=fun x hx=>by
  rw [← hM1];simp only [aK,nb (show x≠m.nx+44 by omega),nb (show x≠m.nx+44+1 by omega),nb (show x≠m.nx+44+1+1 by omega),nb (show x≠m.nx+44+1+1+1 by omega),cond_false]
 refine⟨M1,E,Nw,g2,m.nx+44,m.nx+44+1+1+1,fun R hR=>?_,(Mo _ cx).trans H1,(Mo _ n1).trans H2,?_,?_,(Mo _ dx).trans H3,(Mo _ Sx).trans H4,n1,n2,n3,n4,by omega,by omega,by omega,?_,?_,?_,hE⟩
 ·rw [bq.al]
  have q1:(ch==m.nx+44)=false:=nb (by omega)
  have q2:(ch==m.nx+44+1)=false:=nb (by omega)
  have q3:(ch==m.nx+44+1+1)=false:=nb (by omega)
  simp [w,fz',H1,Cc,q1,q2,q3,rangeA,-bq.bV,-bq.bQ]
  rw [bq.aM]
  simp [kN (s:=⟨[(0,.ptr ch 0 12),(3,.sptr [.map (m.nx+44)]),(26,.iter (m.nx+44+1+1))],83,⟨upd (upd (upd H (m.nx+44) (some (.map 0 pk pv))) (m.nx+44+1) none) (m.nx+44+1+1) (some (.iter [] [] [])),m.nx+44+1+1+1⟩⟩) (id:=m.nx+44+1+1) (c:=[]) (us:=[]) (by simp),-bq.bV]
  rw [hM1]
  exact hR _ (by simp) (by simp)
 ·rw [← hM1];simp
 ·rw [← hM1];simp
 ·rw [← hM1];show m.nx+44 < m.nx+44+1+1+1+1;omega
 ·rw [← hM1];show m.nx+44+1+1+1 < m.nx+44+1+1+1+1;omega
 ·rw [← hM1];show m.nx≤m.nx+44+1+1+1+1;omega
theorem rO {K V:List (List UInt8)} {k r:Nat} (c:ChSt m ch dk S tn op num top pk pv (K.map .str) (V.map .str)) (d:DSt m dk S false lf tn op p [] []) (hpc:(closedL pk&&closedL pv)=true) (h0:K≠[]) (h9:K.length≤9) (hn:K.Nodup) (hk:∀k∈K,k.length≤100) (hv:∀v∈V,v.length≤100)
  (hfr:Free pk pv (padB (leafB K V)) k) (hnum:num < 900) (hr:(num+1+1) % 2=r) (hl:lf≤1000) :
  ∃m' S' dn' p' ks' vs',denC prog ann 10 [.ptr ch 0 12] m=some (.int .i64 (if lf=1∨lf=2∨lf=3∨lf=4 then 8 else 0),m')∧DSt m' dk S' dn' (lf - 4) tn op p' ks' vs' ∧
   (lf=1∨lf=2→p'=updP p k (padB (leafB K V))∧ks'=[.int .i64 k]∧vs'=[.agg (u8L (p k))]) ∧
   (lf=3∨lf=4→p'=updP (updP p k (padB (leafB K V))) r (padB (rootW (num+1) k))∧ks'=[.int .i64 r]∧vs'=[.agg (u8L (p r))]) ∧
   (¬(lf=1∨lf=2∨lf=3∨lf=4)→dn'=false∧p'=updP (updP p k (padB (leafB K V))) r (padB (rootW (num+1) k))∧ks'=[]∧vs'=[]∧ChSt m' ch dk S' tn op (num+1) k [.int .i64 k] [.agg (u8L (padB (leafB K V)))] (K.map .str) (V.map .str)):=by
 have nb:∀ {a b:Nat},a≠b→(a==b)=false:=fun h=>by rw [beq_eq_false_iff_ne];exact h
 have cx:=c.cx
 have dx:=d.dx
 have Sx:=d.Sx
 have cd:=c.cd
 have cS:=c.cS
 have hk2:k=2∨k=3:=by
  rcases hfr with ⟨_,_,h⟩ | ⟨_,_,_,_,_,_,h⟩<;>omega
 obtain⟨M1,E,Nw,g2,U,LS,run,e1,e2,e3,e4,e5,e6,n1,n2,n3,n4,n5,n6,n7,n8,n9,n10,hE⟩:=rT c d hpc
 obtain⟨leaf,hleaf⟩:∃q,padB (leafB K V)=q:=⟨_,rfl⟩
 have hll:leaf.length=256:=by rw [← hleaf,dK]
 obtain⟨m2,A,F,l1,l2,l3,l4,l5,l6,l7,l8,l9,l10⟩:=Av (m:=⟨M1.h,M1.nx+18⟩) hpc e4 e3 e2 h0 h9 hn hk hv hfr (by simp;omega) (by simp;omega) (by simp;omega) n7 (by omega)
 rw [hleaf] at l9 l10 ⊢
 simp at l2 l3 l4 l6
 have d2:DSt m2 dk S false lf tn op p [] []:=d.frame (by rw [l3 dk (by omega) (by omega),e5]) (by rw [l3 S (by omega) (by omega),e6]) (by omega)
 have kk:=cH m2 none 0
 have d3:=d2.keep kk
 have c2:m2.h ch=some (.cells [.bool true,.bool false,.ptr dk 0 65542,.int .i64 tn,.int .i64 op,.int .u64 num,.int .i64 top,E,.fmap pk pv,.map Nw,.fmap [] [],.int .i64 0]):=(l3 ch (by omega) (by omega)).trans e1
 obtain⟨m3,S3,dn3,p3,ks3,vs3,w1,w2,w3,d4,w4,w5,w6⟩:=write1 (m:=⟨upd m2.h m2.nx none,m2.nx+1+0⟩) (ch:=ch) (pg:=F) (n:=num+1) (t:=k) (r:=r) (by omega) ((kk.2 ch (by omega)).trans c2) rfl rfl (by simp;omega) cd cS hr (by omega) (by omega) hll hl d3 ((kk.2 F l7).trans l10) (by simp;omega) (by omega) (by omega)
 have w2n:=w2.1
 simp at w2n
 have c3:m3.h ch=some (.cells [.bool true,.bool false,.ptr dk 0 65542,.int .i64 tn,.int .i64 op,.int .u64 num,.int .i64 top,E,.fmap pk pv,.map Nw,.fmap [] [],.int .i64 0]):=(w2.2 ch (by simp;omega) cd cS).trans ((kk.2 ch (by omega)).trans c2)
 have N3:m3.h Nw=some (.map g2 (K.map .str) (V.map .str)):=(w2.2 Nw (by simp;omega) n3 n4).trans ((kk.2 Nw (by omega)).trans ((l3 Nw (by omega) (by omega)).trans e2))
 have A3:m3.h A=some (.map 1 [.int .i64 k] [.agg (u8L leaf)]):=(w2.2 A (by simp;omega) (by omega) (by omega)).trans ((kk.2 A l5).trans l9)
 have S3x:=d4.Sx
 have S3c:S3≠ch:=by
  rcases w3 with rfl | w3
  ·exact fun h=>cS h.symm
  ·simp at w3;omega
 have q1:(ch==m2.nx)=false:=nb (by omega)
 have wn:IntKind.wrap .u64 ((num:Int)+1)=(num:Int)+1:=by simp [IntKind.wrap,IntKind.signed,IntKind.bits];omega
 have w1':denC prog ann 25 [.ptr ch 0 12,.map F,.agg [.int .u64 ((num:Int)+1),.int .i64 k]] ⟨upd m2.h m2.nx none,m2.nx+1⟩=some (.int .i64 (if lf=1∨lf=2∨lf=3∨lf=4 then 8 else 0),m3):=w1
 by_cases hb:lf=1∨lf=2∨lf=3∨lf=4
 ·rw [if_pos hb] at w1'
  refine⟨⟨upd m3.h ch (some (.cells [.bool true,.bool true,.ptr dk 0 65542,.int .i64 tn,.int .i64 op,.int .u64 num,.int .i64 top,E,.fmap pk pv,.map Nw,.fmap [] [],.int .i64 0])),m3.nx⟩,S3,dn3,p3,ks3,vs3,?_,?_,fun h=>by obtain⟨_,a,b,c⟩:=w4 h;exact⟨a,b,c⟩,fun h=>by obtain⟨_,a,b,c⟩:=w5 h;exact⟨a,b,c⟩,fun h=>(h hb).elim⟩
  ·rw [if_pos hb]
   refine run _ fun t h0 h7=>?_
   simp [h0,h7,e1,l1,c2,wn,q1,w1',c3]
  ·exact d4.frame (by simp only [aK,nb (show dk≠ch from fun h=>cd h.symm),cond_false]) (by simp only [aK,nb S3c,cond_false]) (Nat.le_refl _)
 ·rw [if_neg hb] at w1'
  have cl:∀(h:Nat→Option AObj) (nx:Nat),h Nw=some (.map g2 (K.map .str) (V.map .str))→denC prog ann 26 [.map Nw] ⟨h,nx⟩=some (.map nx,⟨upd h nx (some (.map 0 (K.map .str) (V.map .str))),nx+1⟩):=fun h nx hh=>oV ⟨h,nx⟩ hh
  have q2:(ch==m3.nx+16)=false:=nb (by omega)
  have AS3:A≠S3:=by
   rcases w3 with rfl | w3
   ·omega
   ·simp at w3;omega
  have NS3:Nw≠S3:=by
   rcases w3 with rfl | w3
   ·exact n4
   ·simp at w3;omega
  obtain⟨_,a,b,cc⟩:=w6 hb
  subst a b cc
  refine⟨⟨upd (upd m3.h (m3.nx+16) (some (.map 0 (K.map .str) (V.map .str)))) ch (some (.cells [.bool true,.bool false,.ptr dk 0 65542,.int .i64 tn,.int .i64 op,.int .u64 ((num:Int)+1),.int .i64 k,.map (m3.nx+16),.map A,.map Nw,.fmap [] [],.int .i64 0])),m3.nx+16+1⟩,S3,dn3,_,_,_,?_,d4.frame ?_ ?_ (by simp;omega),fun h=>(hb (by omega)).elim,fun h=>(hb (by omega)).elim,fun h=>⟨(w6 hb).1,rfl,rfl,rfl,⟨⟨.map (m3.nx+16),A,Nw,1,g2,.fmap [] [],by simp,?_,?_,.inl rfl,rfl,?_⟩,by simp;omega,cd,fun h=>S3c h.symm⟩⟩⟩
  ·rw [if_neg hb]
   refine run _ fun t h0 h7=>?_
   simp [h0,h7,e1,l1,c2,wn,q1,w1',c3,cl,N3,q2]
  ·simp only [aK,nb (show dk≠ch from fun h=>cd h.symm),nb (show dk≠m3.nx+16 by omega),cond_false]
  ·simp only [aK,nb S3c,nb (show S3≠m3.nx+16 by omega),cond_false]
  ·simp only [aK,nb (show A≠ch by omega),nb (show A≠m3.nx+16 by omega),cond_false];exact A3
  ·simp only [aK,nb n2,nb (show Nw≠m3.nx+16 by omega),cond_false];exact N3
  ·exact⟨by simp;omega,by simp;omega,by omega,AS3,n3,NS3,by omega,n2,by omega⟩
end
end Go.Proofs.YtadofgdidhpnpaaGreatDoor

/-
  A CHEST IS READ. Conditions: none.
-/
namespace Go.Proofs.YtadofgdidhpnpaaGreatDoor
open Go.AM
open Go.Proofs
open Go.Proofs.Tryz (prog)
set_option linter.all false
set_option maxRecDepth 100000
set_option maxHeartbeats 4000000
theorem As {m:Mem} {ch Nw:Nat} {xs:List AV} (hc:m.h ch=some (.cells xs)) (hx:xs.length=12) (h0:xs[0]?=some (.bool true)) (h9:xs[9]?=some (.map Nw)) :
  denC prog ann 32 [.ptr ch 0 12,.int .i64 (-1)] m=some (.tup [.map Nw,.int .i64 0],m):=by
 obtain⟨a1,a2⟩:=List.getElem?_eq_some_iff.1 h0
 obtain⟨b1,b2⟩:=List.getElem?_eq_some_iff.1 h9
 rw [iu.al]
 have q:binA prog .eql 38 (.ptr ch 0 12) .nilp=some (.bool false):=by kernel_rfl
 simp [hc,hx,h0,h9,a2,b2,q]
theorem m6 (pg:Nat) (m:Mem):denC prog ann 34 [.map pg] m=some (.fn 57 [] [.sptr [.map pg]],m):=by
 rw [eS.al]
 simp [frozenPtr]
theorem II:prog.funcs[33]?=some Tryz.f33:=by kernel_rfl
theorem rS (args:List AV) (m:Mem):denC prog ann 33 args m=sortedS 57 args m:=by
 rw [dY II (b:=(Tryz.f33.body).getD .skip) (by kernel_rfl) (by kernel_rfl)]
 have e:(ann 33).ext=true:=by kernel_rfl
 simp only [libA,e,cond_true,extF]
 rfl
def K0:List (List UInt8):=[[104,97,110,100,48],[104,97,110,100,49],[104,97,110,100,50],[104,97,110,100,51]]
theorem ym {pg g:Nat} {vs:List AV} (m:Mem) (hP:m.h pg=some (.map g (K0.map .str) vs)):denC prog ann 33 [.fn 57 [] [.sptr [.map pg]]] m=some (.fsl false 4 (K0.map .str),m):=by
 rw [rS]
 have e1:seqKeys 57 m [.fn 57 [] [.sptr [.map pg]]]=some (K0.map .str):=by
  simp only [seqKeys,hP,beq_self_eq_true,cond_true]
 rw [sortedS,e1,Option.bind_some,kV,Option.bind_some]
 rfl
theorem ug {pg g:Nat} {vs:List AV} (m:Mem) (hP:m.h pg=some (.map g [] vs)):denC prog ann 33 [.fn 57 [] [.sptr [.map pg]]] m=some (.nils,m):=by
 rw [rS]
 have e1:seqKeys 57 m [.fn 57 [] [.sptr [.map pg]]]=some []:=by
  simp only [seqKeys,hP,beq_self_eq_true,cond_true]
 rw [sortedS,e1]
 rfl
section
variable {m : Mem} {ch Nw g : Nat} {xs : List AV} (hc : m.h ch = some (.cells xs)) (hx : xs.length = 12) (h0 : xs[0]? = some (.bool true)) (h9 : xs[9]? = some (.map Nw))
include hc hx h0 h9
theorem yb {vs:List AV} (hN:m.h Nw=some (.map g [] vs)):denC prog ann 12 [.ptr ch 0 12,.int .i64 (-1),.str [],.str []] m=some (.tup [.nils,.int .i64 0],m):=by
 rw [bz.al]
 simp [As hc hx h0 h9,m6,ug m hN,Au]
 rw [bz.aM]
 simp
omit hc hx h0 h9 in
theorem wG {m:Mem} {Nw g:Nat} {a b c d:List UInt8} (hN:m.h Nw=some (.map g (K0.map .str) ([a,b,c,d].map .str))) :
  lookP prog m 9 (.str []) (.map Nw) (.str [104,97,110,100,48]) false=some (.str a)∧lookP prog m 9 (.str []) (.map Nw) (.str [104,97,110,100,49]) false=some (.str b) ∧
  lookP prog m 9 (.str []) (.map Nw) (.str [104,97,110,100,50]) false=some (.str c)∧lookP prog m 9 (.str []) (.map Nw) (.str [104,97,110,100,51]) false=some (.str d):=by
 simp only [lookP,ri,cond_true,lookA,hN,K0,List.map_cons,findK,mJ,Option.bind_some]
 exact⟨rfl,rfl,rfl,rfl⟩
theorem yc {V:List (List UInt8)} {a b c d:List UInt8} (hV:V=[a,b,c,d]) (hN:m.h Nw=some (.map g (K0.map .str) (V.map .str))) (hNx:Nw < m.nx):∃o m',denC prog ann 12 [.ptr ch 0 12,.int .i64 (-1),.str [],.str []] m=some (.tup [.sl o 2 0 4 8,.int .i64 0],m') ∧
  m'.h o=some (.cells [.str [104,97,110,100,48],.str a,.str [104,97,110,100,49],.str b,.str [104,97,110,100,50],.str c,.str [104,97,110,100,51],.str d])∧o < m'.nx∧Keep m m'∧m.nx≤o:=by
 subst hV
 have e1:∀k:List UInt8,binA prog .geq 9 (.str k) (.str [])=some (.bool true):=fun k=>by cases k<;>rfl
 have nb:∀ {a b:Nat},a≠b→(a==b)=false:=fun h=>by rw [beq_eq_false_iff_ne];exact h
 have q1:(Nw==m.nx)=false:=nb (by omega)
 have q2:(Nw==m.nx+1)=false:=nb (by omega)
 have w1:IntKind.wrap .i64 1=1:=by decide
 have w2:IntKind.wrap .i64 2=2:=by decide
 have w3:IntKind.wrap .i64 3=3:=by decide
 have w4:IntKind.wrap .i64 4=4:=by decide
 have L:∀(m1:Mem),m1.h Nw=m.h Nw→_:=fun m1 h1=>wG (a:=a) (b:=b) (c:=c) (d:=d) (h1.trans hN)
 refine⟨m.nx,⟨upd m.h m.nx (some (.cells [.str [104,97,110,100,48],.str a,.str [104,97,110,100,49],.str b,.str [104,97,110,100,50],.str c,.str [104,97,110,100,51],.str d])),m.nx+1⟩,?run,by simp,Nat.lt_succ_self _,cH m _ 0,Nat.le_refl _⟩
 case run =>
  rw [bz.al]
  simp [As hc hx h0 h9,m6,ym m hN,Au,-bz.bW]
  rw [bz.aM]
  simp [K0,e1,(wG hN).1,-bz.bW]
  (try rw [w1]);rw [bz.aM]
  simp [e1,(L ⟨upd m.h m.nx (some (.cells [.str [104,97,110,100,48],.str a])),m.nx+1⟩ (by simp [q1])).2.1,-bz.bW]
  (try rw [w2]);rw [bz.aM]
  simp [e1,(L ⟨upd m.h m.nx (some (.cells [.str [104,97,110,100,48],.str a,.str [104,97,110,100,49],.str b])),m.nx+1⟩ (by simp [q1])).2.2.1,-bz.bW]
  (try rw [w3]);rw [bz.aM]
  simp [e1,(L ⟨upd m.h m.nx (some (.cells [.str [104,97,110,100,48],.str a,.str [104,97,110,100,49],.str b,.str [104,97,110,100,50],.str c])),m.nx+1⟩ (by simp [q1])).2.2.2,-bz.bW]
  (try rw [w4]);rw [bz.aM]
  simp
end
end Go.Proofs.YtadofgdidhpnpaaGreatDoor

/-
  PAGES: what a disk holds behind n commits. Conditions: none.
-/
namespace Go.Proofs.YtadofgdidhpnpaaGreatDoor
open Go.AM
open Go.Proofs
open Go.Proofs.Tryz (prog)
set_option linter.all false
set_option maxRecDepth 100000
set_option maxHeartbeats 4000000
def tt (n:Nat):Nat:=if n=0 then 0 else if n % 2=1 then 2 else 3
def rtp (n:Nat):List UInt8:=padB (rootW (n+1) (tt n))
def ort (n:Nat):List UInt8:=if n=0 then zp else rtp (n - 1)
def rootB (n:Nat):Bool:=rootOf (rtp n)&&numL (rtp n)==n+1&&tp (rtp n)==tt n
def tornB (n c:Nat):Bool:=(fun b:List UInt8=>!rootOf b||(numL b==n+2&&tp b==tt (n+1))||decide (numL b < n+1)) ((rtp (n+1)).take c++(ort n).drop c)
theorem Aq:((List.range 15).all rootB)=true:=by kernel_rfl
theorem Cb:((List.range 14).all fun n=>(List.range 21).all (tornB n))=true:=by kernel_rfl
theorem iP {n:Nat} (h:n < 15):rootOf (rtp n)=true∧numL (rtp n)=n+1∧tp (rtp n)=tt n:=by
 have:=List.all_eq_true.1 Aq n (List.mem_range.2 h)
 simp only [rootB,Bool.and_eq_true,beq_iff_eq] at this
 exact⟨this.1.1,this.1.2,this.2⟩
theorem getD_take {b:List UInt8} {i:Nat} (h:i < 21):(b.take 21).getD i 0=b.getD i 0:=by
 simp only [List.getD_eq_getElem?_getD,List.getElem?_take_of_lt h]
theorem rQ (b:List UInt8):numL (b.take 21)=numL b:=by
 simp only [numL,numStep,List.range,List.range.loop,List.foldl_cons,List.foldl_nil,getD_take (b:=b) (i:=4+0) (by omega),getD_take (b:=b) (i:=4+1) (by omega),getD_take (b:=b) (i:=4+2) (by omega),getD_take (b:=b) (i:=4+3) (by omega),
  getD_take (b:=b) (i:=4+4) (by omega),getD_take (b:=b) (i:=4+5) (by omega),getD_take (b:=b) (i:=4+6) (by omega),getD_take (b:=b) (i:=4+7) (by omega)]
theorem wF (b:List UInt8):tp (b.take 21)=tp b:=by
 simp only [tp,getD_take (b:=b) (i:=12) (by omega)]
theorem yk {n c:Nat} (h:n < 14) {b:List UInt8} (hb:b=(rtp (n+1)).take c++(ort n).drop c):rootOf b=false∨(numL b=n+2∧tp b=tt (n+1))∨numL b < n+1:=by
 by_cases hc:c < 21
 ·have:=List.all_eq_true.1 (List.all_eq_true.1 Cb n (List.mem_range.2 h)) c (List.mem_range.2 hc)
  subst hb
  simp only [tornB,Bool.or_eq_true,Bool.and_eq_true,beq_iff_eq,decide_eq_true_eq,Bool.not_eq_true'] at this
  rcases this with (h | h) | h
  ·exact .inl h
  ·exact .inr (.inl h)
  ·exact .inr (.inr h)
 ·have e:b.take 21=(rtp (n+1)).take 21:=by
   have hl:(rtp (n+1)).length=256:=dK _
   rw [hb,List.take_append_of_le_length (by rw [List.length_take];omega),List.take_take,Nat.min_eq_left (by omega)]
  obtain⟨_,h2,h3⟩:=iP (n:=n+1) (by omega)
  rw [← rQ,e,rQ,← wF b,e,wF]
  exact .inr (.inl ⟨h2,h3⟩)
def valC (c:List Int):List (List UInt8):=c.map fun x=>[UInt8.ofNat (48+x.toNat)]
def leafP (c:List Int):List UInt8:=padB (leafB K0 (valC c))
def cutsB (f:List Int→Bool):Bool:=(List.range 4).all fun a=>(List.range 4).all fun b=>(List.range 4).all fun c=>(List.range 4).all fun d=>f [(a:Int),b,c,d]
theorem Ar {f:List Int→Bool} (h:cutsB f=true) {c:List Int} (hl:c.length=4) (hc:∀x∈c,0≤x∧x < 4):f c=true:=by
 match c,hl with
 | [a,b,c,d],_ =>
  have e:∀x∈[a,b,c,d],∃n:Nat,n < 4∧x=n:=fun x hx=>⟨x.toNat,by have:=hc x hx;omega,by have:=hc x hx;omega⟩
  obtain⟨a',ha,rfl⟩:=e a (by simp)
  obtain⟨b',hb,rfl⟩:=e b (by simp)
  obtain⟨c',hc',rfl⟩:=e c (by simp)
  obtain⟨d',hd,rfl⟩:=e d (by simp)
  exact List.all_eq_true.1 (List.all_eq_true.1 (List.all_eq_true.1 (List.all_eq_true.1 h a' (List.mem_range.2 ha)) b' (List.mem_range.2 hb)) c' (List.mem_range.2 hc')) d' (List.mem_range.2 hd)
theorem yl:cutsB (fun c=>decide (leafOf (leafP c)=some (K0,valC c)))=true:=by kernel_rfl
theorem kT {c:List Int} (hl:c.length=4) (hc:∀x∈c,0≤x∧x < 4):leafOf (leafP c)=some (K0,valC c):=of_decide_eq_true (Ar yl hl hc)
theorem rR:∀ {a b:List Int},(∀x∈a,0≤x∧x < 4)→(∀x∈b,0≤x∧x < 4)→valC a=valC b→a=b
 | [],[],_,_,_=>rfl
 | [],_::_,_,_,h=>by simp [valC] at h
 | _::_,[],_,_,h=>by simp [valC] at h
 | x::a,y::b,ha,hb,h=>by
  simp only [valC,List.map_cons,List.cons.injEq,and_true] at h
  have hx:=ha x (by simp)
  have hy:=hb y (by simp)
  have e:x=y:=by
   have h1:(UInt8.ofNat (48+x.toNat)).toNat=(UInt8.ofNat (48+y.toNat)).toNat:=congrArg _ h.1
   simp only [UInt8.toNat_ofNat'] at h1
   omega
  rw [e,rR (fun x hx=>ha x (by simp [hx])) (fun x hx=>hb x (by simp [hx])) h.2]
theorem Ad {a b:List Int} (hla:a.length=4) (ha:∀x∈a,0≤x∧x < 4) (hlb:b.length=4) (hb:∀x∈b,0≤x∧x < 4) (h:a≠b):leafP a≠leafP b:=fun e=>by
 have h1:=kT hla ha
 rw [e,kT hlb hb] at h1
 simp only [Option.some.injEq,Prod.mk.injEq,true_and] at h1
 exact h (rR ha hb h1.symm)
end Go.Proofs.YtadofgdidhpnpaaGreatDoor

/-
  SLICES WHOSE ELEMENTS ARE THEMSELVES SLICES, AS VALUES. Conditions: none.
-/
namespace Go.AM
set_option linter.all false
def cAt (cs:List AV) (i:Nat):AV:=cs.getD i .undef
theorem Ep {cs:List AV} {i:Nat} (h:i < cs.length):cs[i]?=some (cAt cs i):=by
 rw [List.getElem?_eq_getElem h];simp [cAt,List.getD,List.getElem?_eq_getElem h]
theorem AR {cs:List AV} {i:Nat} (h:i < cs.length):loadF false 1 (.fptr (cs.drop i))=some (cAt cs i):=by
 simp [List.head?_drop,Ep h]
def gth {α:Type} [Inhabited α] (l:List α) (i:Nat):α:=l.getD i default
theorem AU {α:Type} [Inhabited α] {l:List α} {i:Nat} (h:i < l.length):l[i]?=some (gth l i):=by
 rw [List.getElem?_eq_getElem h];simp [gth,List.getD,List.getElem?_eq_getElem h]
theorem Ca {α:Type} [Inhabited α] {l:List α} {i:Nat} (h:i < l.length):gth l i∈l:=List.mem_of_getElem? (AU h)
theorem m5 {α:Type} [Inhabited α] {l:List α} {i:Nat} (h:i < l.length):l.drop i=gth l i::l.drop (i+1):=by
 obtain⟨h1,h2⟩:=List.getElem?_eq_some_iff.1 (AU h)
 rw [List.drop_eq_getElem_cons h1,h2]
structure IsVec {α:Type} [Inhabited α] (R:AV→α→Prop) (v:AV) (cs:List AV) (l:List α):Prop where
 n:cs.length=l.length
 rel:∀i,i < l.length→R (cAt cs i) (gth l i)
 cl:closedL cs=true
 v:(v=.nils∧l=[])∨∃ex,v=.fsl ex l.length cs
section
variable {α : Type} [Inhabited α] {R : AV → α → Prop} {v : AV} {cs : List AV} {l : List α}
theorem IsVec.closed (h:IsVec R v cs l):v.closed=true:=by rcases h.v with ⟨rfl,_⟩ | ⟨_,rfl⟩<;>rfl
theorem IsVec.one (h:IsVec R v cs l):v.one=true:=by rcases h.v with ⟨rfl,_⟩ | ⟨_,rfl⟩<;>rfl
theorem IsVec.cells (h:IsVec R v cs l):v.cells=[v]:=by rcases h.v with ⟨rfl,_⟩ | ⟨_,rfl⟩<;>rfl
theorem IsVec.len (h:IsVec R v cs l):lenSl v=some (.int .i64 l.length):=by rcases h.v with ⟨rfl,rfl⟩ | ⟨_,rfl⟩<;>simp
theorem IsVec.deep (h:IsVec R v cs l) (hp:Nat→Option AObj) (d:Nat):AM.deep hp (d+1) v=some v:=by rcases h.v with ⟨rfl,_⟩ | ⟨_,rfl⟩<;>rfl
theorem IsVec.frz (h:IsVec R v cs l) (m:Mem):frzV v m=some (v,m):=by rcases h.v with ⟨rfl,_⟩ | ⟨_,rfl⟩<;>rfl
theorem IsVec.idx (h:IsVec R v cs l) {i:Nat} (hi:i < l.length) (k:IntKind):idxSl 1 v (.int k (i:Int))=some (.fptr (cs.drop i)):=by
 rcases h.v with ⟨rfl,rfl⟩ | ⟨_,rfl⟩
 ·simp at hi
 ·simp [hi]
theorem IsVec.load (h:IsVec R v cs l) {i:Nat} (hi:i < l.length):loadF false 1 (.fptr (cs.drop i))=some (cAt cs i):=AR (by rw [h.n];exact hi)
theorem IsVec.at (h:IsVec R v cs l) {i:Nat} (hi:i < l.length):R (cAt cs i) (gth l i):=h.rel i hi
end
end Go.AM
