/-
  THE ABSTRACT MACHINE: every operation that only reads memory does what the machine says. Conditions: none.
-/
import Derived.Laws.BytesString
import Derived.WideKeyRuns
import Derived.Deep.Upon
import Derived.DeepKeys3
import Derived.Laws.MakeOwn
import Derived.Laws.OwnMore
import Derived.Sort.Grow
import Derived.Sort.EncStr
import Derived.Test.YtadofgdidhpnpaaGreatDoorKAmB
import Derived.Test.YtadofgdidhpnpaaGreatDoorKAmA
set_option linter.all false
namespace Go.AM
theorem Sim.cells {m:Mem} {w:World} {N:Nat→Prop} {i:Pl} (hs:Sim m w N i) {id top:Nat} {xs:List AV} {b o c:Nat} (ho:m.h id=some (.cells xs)) (ht:xs.length=top) (hi:i id top=some (b,o,c)) :
  ¬N b∧∃arr elem fr vs,w.heap[b]?=some (.cells arr elem fr)∧arr.size=c∧FrOk fr c∧o+xs.length≤c∧CellsAt w b o vs∧One vs∧RepL w N i xs vs:=by
 obtain⟨b',p',c',h1,h2,h3⟩:=hs.live id _ ho
 have:AObj.top (.cells xs)=top:=ht
 rw [this,hi] at h1
 cases h1
 exact⟨h2,h3⟩
theorem qT {m:Mem} {w:World} {N:Nat→Prop} {i:Pl} (hs:Sim m w N i) {n:Nat} {x:AV} {cs:List AV} {v:Value} (hr:readN m n x=some cs) (hx:Rep w N i x v) :
  ∃b off vs,v=.pointer (some ⟨b,off,none⟩)∧CellsAt w b off vs∧One vs∧RepL w N i cs vs∧vs.length=n:=by
 cases x<;>simp only [readN] at hr<;>try (cases hr;done)
 ·rename_i id off top
  split at hr
  ·rename_i xs ho
   cases hb:(xs.length==top&&Nat.ble (off+n) top) with
   | false=>simp [hb] at hr
   | true =>
    simp only [hb,cond_true,Option.some.injEq] at hr
    simp only [Bool.and_eq_true,beq_iff_eq,Nat.ble_eq] at hb
    subst hr
    obtain⟨b,o,c,h1,rfl⟩:=hx
    obtain⟨_,arr,elem,fr,vs,h2,h3,h4,h5,h6,h7,h8⟩:=hs.cells ho hb.1 h1
    refine⟨b,o+off,_,rfl,(h6.drop off).take n,(h7.drop off).take n,(h8.drop off).take n,?_⟩
    have:=h8.length
    simp
    omega
  ·cases hr
 all_goals
  rename_i cells
  cases hb:Nat.ble n cells.length with
  | false=>simp [hb] at hr
  | true =>
   simp only [hb,cond_true,Option.some.injEq] at hr
   rw [Nat.ble_eq] at hb
   subst hr
   obtain⟨b,off,vs,_,rfl,hc,ho,hl⟩:=hx
   have l:Le w N P0 w N i:=⟨fun _ h=>h,fun _ _=>rfl,fun _ _ _ h=>by simp [P0] at h⟩
   have hlen:=hl.length
   first
   | exact⟨b,off,_,rfl,hc.take n,ho.take n,RepL.mono l _ (hl.take n),by simp;omega⟩
   | exact⟨b,off,_,rfl,hc.take n,ho.take n,hl.take n,by simp;omega⟩
theorem tC {m:Mem} {w:World} {N:Nat→Prop} {i:Pl} (hs:Sim m w N i) {x r:AV} {v:Value} (hr:read1 m x=some r) (hx:Rep w N i x v) :
  ∃b off u,v=.pointer (some ⟨b,off,none⟩)∧w.cell? ⟨b,off,none⟩=some u∧u.oneCell'=true∧Rep w N i r u:=by
 cases x<;>simp only [read1] at hr<;>try (cases hr;done)
 ·rename_i id off top
  split at hr
  ·rename_i xs ho
   cases hb:xs.length==top with
   | false=>simp [hb] at hr
   | true =>
    simp only [hb,cond_true] at hr
    obtain⟨b,o,c,h1,rfl⟩:=hx
    obtain⟨_,arr,elem,fr,vs,h2,h3,h4,h5,h6,h7,h8⟩:=hs.cells ho (by simpa using hb) h1
    obtain⟨u,hu,hru⟩:=h8.get hr
    exact⟨b,o+off,u,rfl,h6 off u hu,h7 u (List.mem_of_getElem? hu),hru⟩
  ·cases hr
 all_goals
  rw [qU] at hr
  obtain⟨b,off,vs,_,rfl,hc,ho,hl⟩:=hx
  have l:Le w N P0 w N i:=⟨fun _ h=>h,fun _ _=>rfl,fun _ _ _ h=>by simp [P0] at h⟩
  obtain⟨u,hu,hru⟩:=hl.get hr
  first
  | exact⟨b,off,u,rfl,by simpa using hc 0 u hu,ho u (List.mem_of_getElem? hu),Rep.mono l _ hru⟩
  | exact⟨b,off,u,rfl,by simpa using hc 0 u hu,ho u (List.mem_of_getElem? hu),hru⟩
theorem ot {P:Program} {m:Mem} {w:World} {N:Nat→Prop} {i:Pl} (hs:Sim m w N i) {t:TypeId} {g:Bool} {n:Nat} {x r:AV} {v:Value} (hg:aggT P t=some g) (hn:sizeT P t=some n) (hr:loadA g n m x=some r) (hx:Rep w N i x v) :
  ∃b off z,v=.pointer (some ⟨b,off,none⟩)∧(loadVar t ⟨b,off,none⟩).run P w=.ok z w∧Rep w N i r z:=by
 have h1:(isAgg t).run P w=.ok g w:=iJ hg w
 have h2:(sizeOf t).run P w=.ok n w:=run_sizeOf hn w
 cases g with
 | true =>
  simp only [loadA,cond_true,Option.map_eq_some_iff] at hr
  obtain⟨cs,hr,rfl⟩:=hr
  obtain⟨b,off,vs,rfl,hc,_,hl,hlen⟩:=qT hs hr hx
  have hld:=run_loadCells_list (P:=P) w ⟨b,off,none⟩ vs (fun j u hj=>by rw [add_lit];exact hc j u hj)
  rw [hlen] at hld
  exact⟨b,off,.agg vs.toArray,rfl,by simp [loadVar,h1,h2,hld],_,rfl,by simpa using hl⟩
 | false =>
  simp only [loadA,cond_false] at hr
  obtain⟨b,off,u,rfl,hc,_,hru⟩:=tC hs hr hx
  exact⟨b,off,u,rfl,by simp [loadVar,h1,hc],hru⟩
theorem jk {m:Mem} {w:World} {N:Nat→Prop} {i:Pl} (hs:Sim m w N i) {size n:Nat} {x:AV} {cs:List AV} {v:Value} (hstr:∀s,x≠.str s) (hr:srcA m size x=some (n,cs)) (hx:Rep w N i x v) :
  (v=.slice none 0 0∧n=0∧cs=[])∨∃a cap vs,v=.slice (some a) n cap∧n≤cap∧(∀(j:Nat) u,vs[j]?=some u→w.cell? (a.add j)=some u)∧One vs∧RepL w N i cs vs∧vs.length=n*size:=by
 cases x<;>simp only [srcA] at hr<;>try (cases hr;done)
 ·exact(hstr _ rfl).elim
 ·cases hr;cases hx;exact .inl ⟨rfl,rfl,rfl⟩
 ·rename_i id es off n' top
  split at hr
  ·rename_i xs ho
   cases hb:(xs.length==top&&(es==size&&Nat.ble (off+n'*size) top)) with
   | false=>simp [hb] at hr
   | true =>
    simp only [hb,cond_true,Option.some.injEq,Prod.mk.injEq] at hr
    simp only [Bool.and_eq_true,beq_iff_eq,Nat.ble_eq] at hb
    obtain⟨rfl,rfl⟩:=hr
    obtain⟨b,o,c,off',cap,h1,rfl,g2,g3,g4⟩:=hx
    obtain⟨_,arr,elem,fr,vs,h2,h3,h4,h5,h6,h7,h8⟩:=hs.cells ho hb.1 h1
    have hlen:=h8.length
    refine .inr ⟨⟨b,off',none⟩,cap,(vs.drop off).take (n'*size),rfl,g3,?_,(h7.drop _).take _,(h8.drop _).take _,by simp;omega⟩
    by_cases hc:cap=0
    ·have:n'=0:=by omega
     subst this
     intro j u hj
     simp at hj
    ·intro j u hj
     rw [g2 hc,add_lit]
     exact(h6.drop off).take _ j u hj
  ·cases hr
 ·rename_i ex n' cells
  cases hb:cells.length==n'*size with
  | false=>simp [hb] at hr
  | true =>
   simp only [hb,cond_true,Option.some.injEq,Prod.mk.injEq] at hr
   obtain⟨rfl,rfl⟩:=hr
   obtain⟨a,cap,vs,rfl,g2,g3,g4,g5,g6⟩:=hx
   have l:Le w N P0 w N i:=⟨fun _ h=>h,fun _ _=>rfl,fun _ _ _ h=>by simp [P0] at h⟩
   exact .inr ⟨a,cap,vs,rfl,g2,fun j u hj=>by
    rcases g4 with ⟨_,rfl⟩ | ⟨b,off,rfl,_,g4⟩
    ·simp at hj
    ·rw [add_lit];exact g4 j u hj,g5,RepL.mono l _ g6,by rw [g6.length];simpa using hb⟩
theorem zu {P:Program} {m:Mem} {w:World} {N:Nat→Prop} {i:Pl} (hs:Sim m w N i) {size n:Nat} {tx:TypeId} {x:AV} {cs:List AV} {v:Value} (hk:(∃e',P.underlying tx=some (.slice e'))∨P.underlying tx=some .string)
  (hr:srcA m size x=some (n,cs)) (hx:Rep w N i x v):∃vs,Src P size tx v n vs w∧RepL w N i cs vs:=by
 by_cases hstr:∃s,x=.str s
 ·obtain⟨s,rfl⟩:=hstr
  simp only [srcA] at hr
  cases hb:size==1 with
  | false=>simp [hb] at hr
  | true =>
   simp only [hb,cond_true,Option.some.injEq,Prod.mk.injEq] at hr
   simp at hb
   subst hb
   obtain⟨rfl,rfl⟩:=hr
   cases hx
   refine⟨byteCells ⟨s.toArray⟩,⟨hk,fun _=>by simp [Builtin.lenOf,dI],?_,?_,by rw [byteCells_length,dI,Nat.mul_one],fun u hu=>?_⟩,?_⟩
   ·rw [← dI s];exact firstCells_string _ _
   ·rw [← dI s];exact firstCells_string _ _
   ·obtain⟨_,_,rfl⟩:=List.mem_map.1 hu;rfl
   ·refine gW (by simp [byteCells]) (fun j a u h1 h2=>?_)
    simp only [byteCells,List.getElem?_map,Option.map_eq_some_iff] at h1 h2
    obtain⟨c,h3,rfl⟩:=h1
    obtain⟨c',h4,rfl⟩:=h2
    have h4':s[j]?=some c':=h4
    rw [h3] at h4'
    cases h4'
    rfl
 ·rcases jk hs (fun s e=>hstr ⟨s,e⟩) hr hx with ⟨rfl,rfl,rfl⟩ | ⟨a,cap,vs,rfl,h1,h2,h3,h4,h5⟩
  ·exact⟨[],⟨hk,fun _=>rfl,run_firstCells_none w size 0 0 0,run_firstCells_none w.drew size 0 0 0,by simp,fun _ h=>by cases h⟩,rfl⟩
  ·have hn:∀j u,vs[j]?=some u→w.cell? (a.add j)=some u:=h2
   exact⟨vs,⟨hk,fun _=>rfl,run_firstCells_some w size n _ n cap vs h5 hn,run_firstCells_some w.drew size n _ n cap vs h5 (by simpa using hn),h5,h3⟩,h4⟩
theorem lu {w:World} {N:Nat→Prop} {i:Pl}:∀ {cs:List AV} {bs:List UInt8} {vs:List Value},bytesOf cs=some bs→RepL w N i cs vs→∃ns:List Int,vs=ns.map (Value.int .u8)∧bs=ns.map fun n=>UInt8.ofNat n.toNat
 | [],bs,vs,h,hl=>by
  simp [bytesOf] at h
  subst h
  cases hl
  exact⟨[],rfl,rfl⟩
 | a::cs,bs,vs,h,⟨v,r,h1,h2,h3⟩=>by
  unfold bytesOf at h
  split at h
  ·rename_i he;cases he
  ·rename_i n r' he
   cases he
   simp only [Option.bind_eq_some_iff] at h
   obtain⟨bs',h,h'⟩:=h
   cases h'
   obtain⟨ns,g1,g2⟩:=lu h h3
   subst h1
   cases h2
   exact⟨n::ns,by simp [g1],by simp [g2]⟩
  ·cases h
theorem foldl_push:∀(ns:List Int) (s:ByteArray),(ns.foldl (fun r n=>r.push (UInt8.ofNat n.toNat)) s)=⟨(s.data.toList++ns.map fun n=>UInt8.ofNat n.toNat).toArray⟩
 | [],s=>by simp
 | n::ns,s=>by
  rw [List.foldl_cons,foldl_push ns]
  apply kB
  simp [ByteArray.push]
theorem xz {P:Program} {m:Mem} {w:World} {N:Nat→Prop} {i:Pl} (hs:Sim m w N i) {src dst:TypeId} {x r:AV} {v:Value} (hr:convA P m src dst x=some r) (hx:Rep w N i x v) :
  ∃z,(convert src dst v).run P w=.ok z w∧Rep w N i r z:=by
 unfold convA at hr
 split at hr
 ·rename_i d k k' n hu hd
  cases hr;cases hx
  exact⟨.int k (k.wrap n),by simp [convert,run_underlying hu,run_underlying hd,Conv.intToInt],rfl⟩
 ·rename_i s hu hd
  cases hr;cases hx
  exact⟨_,by simp [convert,run_underlying hu,run_underlying hd],rfl⟩
 ·rename_i e hu hd
  split at hr
  ·rename_i he
   cases hr;cases hx
   refine⟨.string .empty,by rw [run_convert_bytes_string w src dst e none 0 0 hu he hd];simp [Conv.bytesToString],rfl⟩
  ·cases hr
 ·cases hr
 ·rename_i x' e hu hd hn hstr
  split at hr
  ·rename_i he
   simp only [Option.bind_eq_some_iff,Option.map_eq_some_iff] at hr
   obtain⟨⟨n,cs⟩,h1,bs,h2,rfl⟩:=hr
   rcases jk hs (fun s e=>hstr s e) h1 hx with ⟨rfl,rfl,rfl⟩ | ⟨a,cap,vs,rfl,g1,g2,g3,g4,g5⟩
   ·simp [bytesOf] at h2
    subst h2
    exact⟨.string .empty,by rw [run_convert_bytes_string w src dst e none 0 0 hu he hd];simp [Conv.bytesToString],rfl⟩
   ·obtain⟨ns,e1,e2⟩:=lu h2 g4
    have hld:=run_loadCells_list (P:=P) w a vs g2
    rw [g5,Nat.mul_one,e1] at hld
    refine⟨_,by rw [run_convert_bytes_string w src dst e _ n cap hu he hd,run_bytesToString w _ n cap ns hld],?_⟩
    rw [foldl_push,e2]
    rfl
  ·cases hr
 ·cases hr
end Go.AM

/-
  THE ABSTRACT MACHINE: maps are looked up and written as the machine says. Conditions: none.
-/
namespace Go.AM
theorem gV {P:Program} {w:World} {t:TypeId} (h:scT P t=true) (em:Bool) (n:Nat) (v:Value):(Instr.checkKey em (n+1) t v).run P w=.ok () w:=by
 unfold scT at h
 unfold Instr.checkKey
 split at h
 ·rename_i k hu
  simp only [Sem.run_bind,run_underlying hu,Result.andThen_ok]
  rfl
 ·rename_i hu
  simp only [Sem.run_bind,run_underlying hu,Result.andThen_ok]
  rfl
 ·rename_i hu
  simp only [Sem.run_bind,run_underlying hu,Result.andThen_ok]
  rfl
 ·cases h
theorem zw {vs:Array Value} {off:Nat} (h:off < vs.size):∃x,vs[off]?=some x:=⟨_,Array.getElem?_eq_getElem h⟩
theorem eW {P:Program} {w:World} {α:Type} (f:α→PUnit→Sem (ForInStep PUnit)):∀(l:List α),(∀a∈l,∀u,(f a u).run P w=.ok (.yield ⟨⟩) w)→(forIn l (⟨⟩:PUnit) f).run P w=.ok ⟨⟩ w
 | [],_=>by simp
 | a::l,h=>by
  simp only [List.forIn_cons,Sem.run_bind,h a (by simp),Result.andThen_ok]
  exact eW f l (fun b hb=>h b (by simp [hb]))
theorem oA {P:Program} {t:TypeId} {ts:List TypeId} (h:flatT P t=some ts):(∃fs,P.underlying t=some (.struct fs))∨∃n e,P.underlying t=some (.array n e):=by
 unfold flatT at h
 split at h
 ·rename_i fs hu;exact .inl ⟨fs,hu⟩
 ·rename_i n e hu;exact .inr ⟨n,e,hu⟩
 ·cases h
theorem pB {P:Program} {w:World} {t:TypeId} {ts:List TypeId} (h:flatT P t=some ts) (em:Bool) (n:Nat) (vs:Array Value) (hl:vs.size=ts.length):(Instr.checkKey em (n+2) t (.agg vs)).run P w=.ok () w:=by
 unfold flatT at h
 split at h
 ·rename_i fs hu
  cases hc:(!P.stoodInHeld t&&fs.toList.zipIdx.all (fun p=>p.1.name != "_"&&(scT P p.1.type&&p.1.offset==p.2))) with
  | false=>simp [hc] at h
  | true =>
   simp only [hc,cond_true,Option.some.injEq] at h
   subst h
   simp only [Bool.and_eq_true] at hc
   rw [show n+2=(n+1)+1 from rfl,Instr.checkKey]
   simp only [Sem.run_bind,run_underlying hu,Result.andThen_ok]
   rw [← Array.forIn_toList]
   rw [eW]
   ·rfl
   intro f hf u
   obtain⟨j,hj,e⟩:=List.mem_iff_getElem.1 hf
   have:=List.all_eq_true.1 hc.2 (f,j) (by rw [List.mem_zipIdx_iff_getElem?];rw [List.getElem?_eq_getElem hj,e])
   simp only [Bool.and_eq_true,bne_iff_ne,ne_eq,beq_iff_eq] at this
   obtain⟨h1,h2,h3⟩:=this
   obtain⟨x,hx⟩:=zw (vs:=vs) (off:=f.offset) (by rw [h3,hl];simpa using hj)
   simp [h1,iI h2 hx,gV h2 em n x]
 ·rename_i len e hu
  cases hc:(scT P e&&((P.info? e).map (·.size)==some 1)) with
  | false=>simp [hc] at h
  | true =>
   simp only [hc,cond_true,Option.some.injEq] at h
   subst h
   simp only [Bool.and_eq_true,beq_iff_eq] at hc
   obtain⟨hs,h1⟩:=hc
   obtain⟨j,hj,hj1⟩:=Option.map_eq_some_iff.1 h1
   have hsz:(sizeOf e).run P w=.ok 1 w:=by simp [sizeOf,typeInfo,hj,hj1]
   rw [show n+2=(n+1)+1 from rfl,Instr.checkKey]
   simp only [Sem.run_bind,run_underlying hu,Result.andThen_ok]
   simp only [Std.Legacy.Range.forIn_eq_forIn_range',Std.Legacy.Range.size,Nat.sub_zero,Nat.add_one_sub_one,Nat.div_one]
   rw [eW]
   ·rfl
   intro q hq u
   simp at hq
   obtain⟨x,hx⟩:=zw (vs:=vs) (off:=q*1) (by rw [hl];simpa using hq)
   simp only [Sem.run_bind,hsz,Result.andThen_ok,iI hs hx,gV hs em n x]
   rfl
 ·cases h
theorem eM {P:Program} {w:World} {N:Nat→Prop} {i:Pl} {t:TypeId} {k:AV} {v:Value} (hk:keyT P t k=true) (hv:Rep w N i k v) (em:Bool):(Instr.checkKey em 10000 t v).run P w=.ok () w:=by
 unfold keyT at hk
 split at hk
 ·rename_i a
  split at hk
  ·rename_i ts hts
   obtain⟨vs,rfl,hl⟩:=hv
   have:=hl.length
   exact pB hts em 9998 vs (by simp at this hk;omega)
  ·cases hk
 ·exact gV (za hk) em 9999 v
theorem xD {P:Program} {w:World} {N:Nat→Prop} {i:Pl} {t:TypeId} {a b:AV} {x y:Value} {r:Bool} (hr:keyEq P t a b=some r) (hx:Rep w N i a x) (hy:Rep w N i b y) :
  (Op.equal t x y).run P w=.ok r w∧(r=true→Instr.sameBits 10000 y x=true)∧(∀d,P.underlying t=some d→scT P t=true→Instr.sameNow d x y=some r)∧((∃vs,x=.agg vs)→∃ts,flatT P t=some ts):=by
 have bits:∀n a b x y,eqSc a b=some true→Rep w N i a x→Rep w N i b y→Instr.sameBits n y x=true:=by
  intro n a b x y h hx hy
  cases a<;>cases b<;>simp [eqSc] at h
  ·cases hx;cases hy;subst h;cases n<;>simp [Instr.sameBits]
  ·cases hx;cases hy
   rename_i k z k' z'
   by_cases e:k=k'
   ·subst e
    simp at h
    cases n<;>simp [Instr.sameBits,h]
   ·simp [e] at h
  ·cases hx;cases hy;subst h;cases n<;>simp [Instr.sameBits,MapKept.bytes_beq]
 have bitsL:∀n ts as bs xs ys,eqCs P ts as bs=some true→RepL w N i as xs→RepL w N i bs ys→xs.length=ys.length∧(ys.zip xs).all (fun(y,x)=>Instr.sameBits n y x)=true:=by
  intro n ts
  induction ts with
  | nil =>
   intro as bs xs ys h hx hy
   cases as<;>cases bs<;>simp [eqCs] at h
   cases hx;cases hy;exact⟨rfl,rfl⟩
  | cons t ts ih =>
   intro as bs xs ys h hx hy
   cases as with
   | nil=>simp [eqCs] at h
   | cons a as =>
    cases bs with
    | nil=>simp [eqCs] at h
    | cons b bs =>
     simp only [eqCs] at h
     cases hc:(scV P t a&&scV P t b) with
     | false=>simp [hc] at h
     | true =>
      simp only [hc,cond_true,Option.bind_eq_some_iff] at h
      obtain⟨r0,h0,h⟩:=h
      cases r0 with
      | false=>simp at h
      | true =>
       simp only [cond_true] at h
       obtain⟨x,xs',rfl,hx1,hx2⟩:=hx
       obtain⟨y,ys',rfl,hy1,hy2⟩:=hy
       obtain⟨g1,g2⟩:=ih as bs xs' ys' h hx2 hy2
       refine⟨by simp [g1],?_⟩
       simp only [List.zip_cons_cons,List.all_cons,Bool.and_eq_true]
       exact⟨bits n a b x y h0 hx1 hy1,g2⟩
 unfold keyEq at hr
 split at hr
 ·rename_i as bs
  simp only [Option.bind_eq_some_iff] at hr
  obtain⟨ts,hts,hr⟩:=hr
  cases hc:(as.length==ts.length&&bs.length==ts.length) with
  | false=>simp [hc] at hr
  | true =>
   simp only [hc,cond_true] at hr
   obtain⟨xs,rfl,hxl⟩:=hx
   obtain⟨ys,rfl,hyl⟩:=hy
   refine⟨oB 9998 hts hr hxl hyl,?_,?_,fun _=>⟨ts,hts⟩⟩
   ·rintro rfl
    obtain⟨g1,g2⟩:=bitsL 9999 ts as bs _ _ hr hxl hyl
    have:(ys.size==xs.size)=true:=by simp at g1;simp [g1]
    show(ys.size==xs.size&&(ys.toList.zip xs.toList).all fun(x,y)=>Instr.sameBits 9999 x y)=true
    rw [this,Bool.true_and]
    exact g2
   ·intro d hd hs
    rcases oA hts with ⟨fs,hu⟩ | ⟨n,e,hu⟩<;>(unfold scT at hs;simp [hu] at hs)
 ·rename_i hn
  cases hc:(scV P t a&&scV P t b) with
  | false=>simp [hc] at hr
  | true =>
   simp only [hc,cond_true] at hr
   simp only [Bool.and_eq_true] at hc
   refine⟨mH 9999 hc.1 hc.2 hr hx hy,?_,?_,?_⟩
   ·rintro rfl;exact bits 10000 a b x y hr hx hy
   ·intro d hd _
    obtain⟨ha,hb⟩:=hc
    unfold scV at ha
    split at ha
    ·rename_i q k n hu
     rw [hd] at hu
     cases hu
     cases b<;>simp [eqSc] at hr
     cases hx;cases hy
     rename_i k' n'
     by_cases e:k=k'
     ·subst e;simp at hr;simp [Instr.sameNow,hr]
     ·simp [e] at hr
    ·rename_i s hu
     rw [hd] at hu
     cases hu
     cases b<;>simp [eqSc] at hr
     cases hx;cases hy
     rename_i s'
     have:((⟨s.toArray⟩:ByteArray)==⟨s'.toArray⟩)=r:=by
      subst hr
      by_cases e:s=s'
      ·subst e;simp [MapKept.bytes_beq]
      ·have h1:(s==s')=false:=by simpa using e
       rw [h1]
       cases h2:((⟨s.toArray⟩:ByteArray)==⟨s'.toArray⟩) with
       | false=>rfl
       | true =>
        have:=(MapKept.bytes_beq _ _).1 h2
        simp at this
        exact(e this).elim
     simp [Instr.sameNow,this]
    ·rename_i b' hu
     rw [hd] at hu
     cases hu
     cases b<;>simp [eqSc] at hr
     cases hx;cases hy
     simp [Instr.sameNow,hr]
    ·cases ha
   ·rintro⟨vs,rfl⟩
    obtain⟨ha,_⟩:=hc
    unfold scV at ha
    split at ha
    ·cases hx
    ·cases hx
    ·cases hx
    ·cases ha
theorem lr {P:Program} {w:World} {N:Nat→Prop} {i:Pl} {t:TypeId} {k:AV} {x:Value} (hk:keyT P t k=true) (hx:Rep w N i k x):∀(ks:List AV) (es:List MapEntry) (n:Nat) (r:Option Nat),findI P t k ks n=some r→RepL w N i ks (es.map (·.key)) →
  (r=none∨∃j e,r=some (n+j)∧es[j]?=some e∧Instr.sameBits 10000 e.key x=true) ∧
  (scT P t=true→∀d,P.underlying t=some d→Instr.findNow d x es n=some (r.map fun j=>(j,((es[j - n]?).map (·.val)).getD undef))) ∧
  ((Instr.findAsking t x es n).run P w=.ok (r.map fun j=>(j,((es[j - n]?).map (·.val)).getD undef)) w)
 | [],es,n,r,h,hl=>by
  simp [findI] at h
  subst h
  have:es=[]:=by simpa [RepL] using hl
  subst this
  exact⟨.inl rfl,fun _ _ _=>rfl,by simp [Instr.findAsking]⟩
 | a::ks,es,n,r,h,hl=>by
  cases es with
  | nil=>obtain⟨_,_,h,_⟩:=hl;simp at h
  | cons e es =>
   obtain⟨v,q,h1,h2,h3⟩:=hl
   simp only [List.map_cons,List.cons.injEq] at h1
   obtain⟨rfl,rfl⟩:=h1
   simp only [findI,Option.bind_eq_some_iff] at h
   obtain⟨b,hb,h⟩:=h
   obtain⟨g1,g2,g3,_⟩:=xD hb hx h2
   cases b with
   | true =>
    simp at h
    subst h
    refine⟨.inr ⟨0,e,rfl,rfl,g2 rfl⟩,fun hs d hd=>?_,?_⟩
    ·simp [Instr.findNow,g3 d hd hs]
    ·simp [Instr.findAsking,g1]
   | false =>
    simp only [cond_false] at h
    obtain⟨k1,k2,k3⟩:=lr hk hx ks es (n+1) r h h3
    have hgt:∀j,r=some j→n+1≤j:=by
     rintro j rfl
     rcases k1 with h | ⟨j',e',h,_⟩
     ·cases h
     ·cases h;omega
    have hmap:(r.map fun j=>(j,(((e::es)[j - n]?).map (·.val)).getD undef))=(r.map fun j=>(j,((es[j - (n+1)]?).map (·.val)).getD undef)):=by
     cases r with
     | none=>rfl
     | some j =>
      have:=hgt j rfl
      rw [Option.map_some,Option.map_some,show j - n=(j - (n+1))+1 by omega]
      rfl
    rw [hmap]
    refine⟨?_,fun hs d hd=>?_,?_⟩
    ·rcases k1 with h | ⟨j',e',h,h',h''⟩
     ·exact .inl h
     ·exact .inr ⟨j'+1,e',by rw [h];congr 1;omega,by simpa using h',h''⟩
    ·simp [Instr.findNow,g3 d hd hs,k2 hs d hd]
    ·simp only [Instr.findAsking,Sem.run_bind,g1,Result.andThen_ok]
     exact k3
theorem fq {P:Program} {w:World} {N:Nat→Prop} {i:Pl} {t:TypeId} {k:AV} {x:Value} (hk:keyT P t k=true) (hx:Rep w N i k x) {ks:List AV} {es:List MapEntry} {r:Option Nat} (hr:findI P t k ks 0=some r) (hl:RepL w N i ks (es.map (·.key))) :
  (Instr.findKey t x es).run P w=.ok (r.map fun j=>(j,((es[j]?).map (·.val)).getD undef)) w∧(r=none∨∃j e,r=some j∧es[j]?=some e∧Instr.sameBits 10000 e.key x=true):=by
 obtain⟨h1,h2,h3⟩:=lr hk hx ks es 0 r hr hl
 refine⟨?_,by simpa using h1⟩
 cases hs:scT P t with
 | true =>
  have:∃d,P.underlying t=some d:=by unfold scT at hs;split at hs<;>first | exact⟨_,by assumption⟩ | cases hs
  obtain⟨d,hd⟩:=this
  have:=h2 hs d hd
  simp only [Nat.sub_zero] at this
  exact MapKept.run_findKey hd this
 | false =>
  have:∃ts,flatT P t=some ts:=by
   unfold keyT at hk
   split at hk
   ·split at hk
    ·exact⟨_,by assumption⟩
    ·cases hk
   ·rw [za hk] at hs;cases hs
  obtain⟨ts,hts⟩:=this
  rw [run_findKey_eq w (by rcases oA hts with ⟨fs,hu⟩ | ⟨n,e,hu⟩<;>simp [hu])]
  simpa using h3
theorem v8 {P:Program} {t:TypeId} {k:AV}:∀ {ks vs:List AV} (n:Nat) {r:Option AV},findK P t k ks vs=some r→(findI P t k ks n=some none∧r=none)∨∃j v,findI P t k ks n=some (some (n+j))∧vs[j]?=some v∧r=some v
 | [],[],n,r,h=>by simp [findK] at h;exact .inl ⟨rfl,h.symm⟩
 | a::ks,v::vs,n,r,h=>by
  simp only [findK,Option.bind_eq_some_iff] at h
  obtain⟨b,hb,h⟩:=h
  cases b with
  | true=>simp at h;exact .inr ⟨0,v,by simp [findI,hb],rfl,h.symm⟩
  | false =>
   simp only [cond_false] at h
   rcases v8 (n+1) h with ⟨h1,h2⟩ | ⟨j,u,h1,h2,h3⟩
   ·exact .inl ⟨by simp [findI,hb,h1],h2⟩
   ·exact .inr ⟨j+1,u,by simp [findI,hb,h1];omega,by simpa using h2,h3⟩
 | [],_::_,n,r,h=>by simp [findK] at h
 | _::_,[],n,r,h=>by simp [findK] at h
theorem zr {P:Program} {t:TypeId} {k u:AV}:∀ {ks vs:List AV} (n:Nat) {r:List AV×List AV},setK P t k u ks vs=some r→(findI P t k ks n=some none∧r=(ks++[k],vs++[u]))∨∃j,findI P t k ks n=some (some (n+j))∧j < ks.length∧j < vs.length∧r=(ks.set j k,vs.set j u)
 | [],[],n,r,h=>by simp [setK] at h;exact .inl ⟨rfl,h.symm⟩
 | a::ks,v::vs,n,r,h=>by
  simp only [setK,Option.bind_eq_some_iff] at h
  obtain⟨b,hb,h⟩:=h
  cases b with
  | true=>simp at h;exact .inr ⟨0,by simp [findI,hb],by simp,by simp,h.symm⟩
  | false =>
   simp only [cond_false,Option.bind_eq_some_iff] at h
   obtain⟨⟨a',b'⟩,h,h'⟩:=h
   cases h'
   rcases zr (n+1) h with ⟨h1,h2⟩ | ⟨j,h1,h2,h3,h4⟩
   ·cases h2;exact .inl ⟨by simp [findI,hb,h1],rfl⟩
   ·cases h4;exact .inr ⟨j+1,by simp [findI,hb,h1];omega,by simpa using h2,by simpa using h3,rfl⟩
 | [],_::_,n,r,h=>by simp [setK] at h
 | _::_,[],n,r,h=>by simp [setK] at h
theorem qP {P:Program} {m:Mem} {w:World} {N:Nat→Prop} {i:Pl} (hs:Sim m w N i) {t:TypeId} {x k r:AV} {ok:Bool} {v u:Value} (hr:lookupA P m t x k ok=some r) (hx:Rep w N i x v) (hk:Rep w N i k u) :
  ∃z,(Instr.lookup t v u ok).run P w=.ok z w∧Rep w N i r z:=by
 unfold lookupA at hr
 split at hr
 ·rename_i kt et hu
  cases hkt:keyT P kt k with
  | false=>simp [hkt] at hr
  | true =>
   simp only [hkt,cond_true,Option.bind_eq_some_iff] at hr
   obtain⟨z,hz,q,hq,hr⟩:=hr
   obtain⟨zv,hzrun,hzc,_⟩:=jG hz
   have main:∀(es:Array MapEntry) (ks vs:List AV),((v=.map none∧es=#[])∨∃b c,v=.map (some b)∧w.heap[b]?=some (.map es c))→RepL w N i ks (es.toList.map (·.key))→RepL w N i vs (es.toList.map (·.val))→findK P kt k ks vs=some q →
     ∃z,(Instr.lookup t v u ok).run P w=.ok z w∧Rep w N i r z:=by
    intro es ks vs hes h1 h2 h3
    have hfin:∀(uv:Value) (av:AV) (b:Bool),Rep w N i av uv→r=(bif ok then .tup [av,.bool b] else av)→Rep w N i r (if ok then .tuple #[uv,.bool b] else uv):=by
     rintro uv av b hav rfl
     cases ok with
     | false=>simpa using hav
     | true=>exact⟨_,rfl,_,_,rfl,hav,_,_,rfl,rfl,rfl⟩
    have fin:∀(fr:Option (Nat×Value)) (uv:Value) (av:AV) (b:Bool),(Instr.findKey kt u es.toList).run P w=.ok fr w→((fr=none∧uv=zv∧b=false)∨((∃j,fr=some (j,uv))∧b=true))→Rep w N i av uv→r=(bif ok then .tup [av,.bool b] else av) →
      ∃z,(Instr.lookup t v u ok).run P w=.ok z w∧Rep w N i r z:=by
     intro fr uv av b e1 e2 e3 e4
     refine⟨_,?_,hfin uv av b e3 e4⟩
     rcases hes with ⟨rfl,rfl⟩ | ⟨bb,c,rfl,hh⟩<;>rcases e2 with ⟨rfl,rfl,rfl⟩ | ⟨⟨j,rfl⟩,rfl⟩
     ·simp only [List.toList_toArray] at e1;simp [Instr.lookup,run_underlying hu,eM hkt hk,e1,hzrun]
     ·simp only [List.toList_toArray] at e1;simp [Instr.lookup,run_underlying hu,eM hkt hk,e1]
     ·simp [Instr.lookup,run_underlying hu,MapKept.run_getObj_map hh,eM hkt hk,e1,hzrun]
     ·simp [Instr.lookup,run_underlying hu,MapKept.run_getObj_map hh,eM hkt hk,e1]
    rcases v8 0 h3 with ⟨g1,rfl⟩ | ⟨j,av,g1,g2,rfl⟩
    ·obtain⟨e1,_⟩:=fq hkt hk g1 h1
     exact fin _ zv z false e1 (.inl ⟨rfl,rfl,rfl⟩) (dA hzc) (by simpa using hr.symm)
    ·rw [Nat.zero_add] at g1
     obtain⟨e1,_⟩:=fq hkt hk g1 h1
     obtain⟨uv,hj,hav⟩:=h2.get g2
     have hval:(((es.toList[j]?).map (·.val)).getD undef)=uv:=by
      rw [List.getElem?_map] at hj
      rw [hj];rfl
     rw [Option.map_some,hval] at e1
     exact fin _ uv av true e1 (.inr ⟨⟨j,rfl⟩,rfl⟩) hav (by simpa using hr.symm)
   unfold lookA at hq
   split at hq
   ·cases hx
    cases hq
    exact main #[] [] [] (.inl ⟨rfl,rfl⟩) rfl rfl rfl
   ·rename_i ks vs
    obtain⟨b,es,clock,_,rfl,⟨h1,_,_⟩,h2,h3⟩:=hx
    have l:Le w N P0 w N i:=⟨fun _ h=>h,fun _ _=>rfl,fun _ _ _ h=>by simp [P0] at h⟩
    exact main es ks vs (.inr ⟨_,_,rfl,h1⟩) (RepL.mono l _ h2) (RepL.mono l _ h3) hq
   ·rename_i id
    split at hq
    ·rename_i g ks vs ho
     obtain⟨b,o,c,h1,rfl⟩:=hx
     obtain⟨b',p',c',h2,h3,es,h4,h5,h6,h7,_⟩:=hs.live id _ ho
     have e0:AObj.top (.map g ks vs)=0:=rfl
     rw [e0,h1] at h2
     cases h2
     exact main es ks vs (.inr ⟨_,_,rfl,h4⟩) h6 h7 hq
    ·cases hq
   ·cases hq
 ·cases hr
end Go.AM

/-
  THE ABSTRACT MACHINE: objects are made and written: cells. Conditions: none.
-/
namespace Go.AM
theorem pA {w:World} {b o:Nat} {v:Value} {arr:Array Value} {elem:TypeId} {fr:Nat×Nat} (h:w.heap[b]?=some (.cells arr elem fr)):(w.setCell ⟨b,o,none⟩ v).heap[b]?=some (.cells (arr.setIfInBounds o v) elem fr):=by
 have hb:b < w.heap.size:=(Array.getElem?_eq_some_iff.1 h).1
 have h2:=(Array.getElem?_eq_some_iff.1 h).2
 simp [World.setCell,Array.getElem?_modify,h]
theorem nP {w:World} {b o k:Nat} {v:Value} (h:k≠b):(w.setCell ⟨b,o,none⟩ v).heap[k]?=w.heap[k]?:=by
 have h':¬b=k:=fun e=>h e.symm
 simp [World.setCell,Array.getElem?_modify,h']
theorem fv {b k:Nat} (h:k≠b):∀(vs:List Value) (o:Nat) (w:World),(w.setCells b o vs).heap[k]?=w.heap[k]?
 | [],_,_=>rfl
 | v::vs,o,w=>by rw [World.setCells,fv h vs,nP h]
theorem fQ (b:Nat):∀(vs:List Value) (o:Nat) (w:World),(w.setCells b o vs).heap.size=w.heap.size∧(w.setCells b o vs).os=w.os∧(w.setCells b o vs).tape=w.tape∧(w.setCells b o vs).output=w.output
 | [],_,_=>⟨rfl,rfl,rfl,rfl⟩
 | v::vs,o,w=>by
  obtain⟨h1,h2,h3,h4⟩:=fQ b vs (o+1) (w.setCell ⟨b,o,none⟩ v)
  exact⟨h1.trans (by simp),h2,h3,h4⟩
theorem iW (b:Nat):∀(vs:List Value) (o:Nat) (w:World) (arr:Array Value) (elem:TypeId) (fr:Nat×Nat),w.heap[b]?=some (.cells arr elem fr)→o+vs.length≤arr.size →
  ∃arr',(w.setCells b o vs).heap[b]?=some (.cells arr' elem fr)∧arr'.toList=arr.toList.take o++vs++arr.toList.drop (o+vs.length)
 | [],o,w,arr,elem,fr,h,_=>⟨arr,h,by simp⟩
 | v::vs,o,w,arr,elem,fr,h,hle=>by
  simp only [List.length_cons] at hle
  obtain⟨arr',h1,h2⟩:=iW b vs (o+1) (w.setCell ⟨b,o,none⟩ v) _ elem fr (pA h) (by simp;omega)
  refine⟨arr',h1,?_⟩
  rw [h2]
  have ho:o < arr.toList.length:=by simp;omega
  have e1:(arr.setIfInBounds o v).toList=arr.toList.take o++v::arr.toList.drop (o+1):=by
   rw [Array.toList_setIfInBounds]
   rw [List.set_eq_take_append_cons_drop,if_pos ho]
  have l1:(arr.toList.take o).length=o:=by simp;omega
  rw [e1]
  have t1:(arr.toList.take o++v::arr.toList.drop (o+1)).take (o+1)=arr.toList.take o++[v]:=by
   rw [List.take_append,l1,List.take_of_length_le (by rw [l1];omega)]
   simp
  have t2:(arr.toList.take o++v::arr.toList.drop (o+1)).drop (o+1+vs.length)=arr.toList.drop (o+(vs.length+1)):=by
   rw [List.drop_append,l1,List.drop_eq_nil_of_le (by rw [l1];omega),List.nil_append,show o+1+vs.length - o=vs.length+1 by omega,List.drop_succ_cons,List.drop_drop]
   congr 1;omega
  rw [t1,t2]
  simp
def vsplice (xs:List Value) (off:Nat) (cs:List Value):List Value:=xs.take off++cs++xs.drop (off+cs.length)
theorem qS {w:World} {N:Nat→Prop} {i:Pl} {cs ds:List AV} {vs us:List Value} (off:Nat) (h:RepL w N i cs vs) (k:RepL w N i ds us):RepL w N i (splice cs off ds) (vsplice vs off us):=by
 unfold splice vsplice
 rw [← k.length]
 exact((h.take off).append k).append (h.drop _)
theorem lq {xs cs:List Value} {off:Nat} (h:off≤xs.length) (j:Nat):(vsplice xs off cs)[j]?=if j < off then xs[j]? else if j < off+cs.length then cs[j - off]? else xs[j]?:=by
 unfold vsplice
 have l1:(xs.take off).length=off:=by simp;omega
 by_cases h1:j < off
 ·rw [if_pos h1,List.append_assoc,List.getElem?_append_left (by rw [l1];exact h1),List.getElem?_take,if_pos h1]
 ·rw [if_neg h1,List.append_assoc,List.getElem?_append_right (by rw [l1];omega),l1]
  by_cases h2:j < off+cs.length
  ·rw [if_pos h2,List.getElem?_append_left (by omega)]
  ·rw [if_neg h2,List.getElem?_append_right (by omega),List.getElem?_drop]
   congr 1;omega
theorem v7 {w:World} {N:Nat→Prop} {i:Pl} {b p c off:Nat} {xs cs:List AV} {vs:List Value} (ho:ObjRep w N i b p c (.cells xs)) (hN:¬N b) (h1:off≤xs.length) (h2:p+off+cs.length≤c) (hv:RepL w N i cs vs) (hone:One vs) :
  ObjRep (w.setCells b (p+off) vs) N i b p c (.cells (splice xs off cs))∧(∀k,k≠b→(w.setCells b (p+off) vs).heap[k]?=w.heap[k]?)∧Le w N i (w.setCells b (p+off) vs) N i:=by
 obtain⟨arr,elem,fr,us,g1,g2,g3,g4,g5,g6,g7⟩:=ho
 have l:Le w N i (w.setCells b (p+off) vs) N i:=⟨fun _ h=>h,fun k hk=>fv (k:=k) (fun e=>hN (by rw [← e];exact hk)) _ _ _,fun _ _ _ h=>h⟩
 have hvl:=hv.length
 have hul:=g7.length
 obtain⟨arr',k1,k2⟩:=iW b vs (p+off) w arr elem fr g1 (by omega)
 have hsz:arr'.size=c:=by
  have:=congrArg List.length k2
  simp at this
  omega
 refine⟨⟨arr',elem,fr,vsplice us off vs,k1,hsz,g3,?_,?_,?_,RepL.mono l _ (qS off g7 hv)⟩,fun k hk=>fv hk _ _ _,l⟩
 ·unfold splice;simp;omega
 ·intro j v hj
  have hcell:∀(a:Array Value) (w':World) (o:Nat),w'.heap[b]?=some (.cells a elem fr)→w'.cell? ⟨b,o,none⟩=a[o]?:=fun a w' o h=>by simp [World.cell?,h]
  rw [hcell arr' _ _ k1]
  have old:∀j v,us[j]?=some v→arr[p+j]?=some v:=fun j v hj=>by rw [← hcell arr w _ g1];exact g5 j v hj
  rw [lq (by omega)] at hj
  rw [← Array.getElem?_toList,k2]
  have e:=lq (xs:=arr.toList) (cs:=vs) (off:=p+off) (by simp;omega) (p+j)
  unfold vsplice at e
  rw [e]
  by_cases a1:j < off
  ·rw [if_pos a1] at hj;rw [if_pos (by omega)];simpa using old j v hj
  ·rw [if_neg a1] at hj
   rw [if_neg (by omega)]
   by_cases a2:j < off+vs.length
   ·rw [if_pos a2] at hj
    rw [if_pos (by omega),show p+j - (p+off)=j - off by omega];exact hj
   ·rw [if_neg a2] at hj
    rw [if_neg (by omega)];simpa using old j v hj
 ·unfold vsplice
  exact((g6.take off).append hone).append (g6.drop _)
theorem Sim.put {m:Mem} {w:World} {N:Nat→Prop} {i:Pl} (s:Sim m w N i) {id top:Nat} {b p c off:Nat} {xs cs:List AV} {vs:List Value} (ho:m.h id=some (.cells xs)) (ht:xs.length=top) (hp:i id top=some (b,p,c))
  (h1:off≤xs.length) (h2:p+off+cs.length≤c) (hv:RepL w N i cs vs) (hone:One vs) :
  ∃i',Sim (m.set id (some (.cells (splice xs off cs)))) (w.setCells b (p+off) vs) N i'∧Ext m w N i (m.set id (some (.cells (splice xs off cs)))) (w.setCells b (p+off) vs) N i'∧i' id (splice xs off cs).length=some (b,p,c):=by
 subst ht
 obtain⟨b',p',c',g1,g2,g3⟩:=s.live id _ ho
 have e0:AObj.top (.cells xs)=xs.length:=rfl
 rw [e0,hp] at g1
 cases g1
 obtain⟨k1,k2,k3⟩:=v7 g3 g2 h1 h2 hv hone
 obtain⟨q1,q2,q3,q4⟩:=fQ b vs (p+off) w
 have hlen:(splice xs off cs).length=max xs.length (off+cs.length):=by unfold splice;simp;omega
 have hi:∀id1 t x,i id1 t=some x→updPl i id (splice xs off cs).length (b,p,c) id1 t=some x:=fun id1 t x h=>by
  by_cases e:id1=id∧t=(splice xs off cs).length
  ·obtain⟨rfl,rfl⟩:=e
   have:=s.top _ _ _ _ ho h
   rw [e0,hlen] at this
   have e1:(splice xs off cs).length=xs.length:=by rw [hlen];omega
   rw [bE]
   rw [e1,hp] at h
   exact h
  ·rw [bB _ _ e];exact h
 have l:Le (w.setCells b (p+off) vs) N i (w.setCells b (p+off) vs) N (updPl i id (splice xs off cs).length (b,p,c)):=⟨fun _ h=>h,fun _ _=>rfl,hi⟩
 have:=s.replace (w':=w.setCells b (p+off) vs) (o':=.cells (splice xs off cs)) (b':=b) (p':=p) (c':=c) (by rw [q1];exact Nat.le_refl _) ho hp
  (by
   show xs.length < (splice xs off cs).length∨((splice xs off cs).length=xs.length∧_)
   rw [hlen]
   rcases Nat.lt_or_ge xs.length (off+cs.length) with h | h
   ·exact .inl (by omega)
   ·exact .inr ⟨by omega,rfl⟩) (.inl rfl) (fun k _ hk=>k2 k hk) (k1.mono l rfl)
 obtain⟨r1,r2,r3⟩:=this
 exact⟨_,r1,⟨q2,q3,q4,by rw [q1];exact Nat.le_refl _,fun _ h=>h,hi,fun k _ hk=>k2 k (fun e=>hk (e ▸ ⟨id,_,p,c,ho,hp⟩)),r2,fun _ h=>.inl h,Nat.le_refl _,tA hp⟩,bE ..⟩
theorem Sim.there {m:Mem} {w:World} {N:Nat→Prop} {i:Pl} (s:Sim m w N i) {id top:Nat} {b p c:Nat} {xs:List AV} (ho:m.h id=some (.cells xs)) (ht:xs.length=top) (hp:i id top=some (b,p,c)) :
  ∀k,k < c→(w.cell? ⟨b,k,none⟩).isSome=true∧w.frozen? ⟨b,k,none⟩=false:=by
 obtain⟨_,arr,elem,fr,us,g1,g2,g3,_⟩:=s.cells ho ht hp
 intro k hk
 refine⟨by simp [World.cell?,g1];omega,?_⟩
 have:=g3.1 k hk
 simp [World.frozen?,g1]
 omega
theorem Sim.make {m:Mem} {w:World} {N:Nat→Prop} {i:Pl} (s:Sim m w N i) (hf:∀t,i m.nx t=none) {cs:List AV} {arr:Array Value} {elem:TypeId} (hv:RepL w N i cs (arr.toList.take cs.length)) (hone:One (arr.toList.take cs.length)) :
  ∃i',Sim (m.new (.cells cs)) (w.alloc (.cells arr elem)) N i'∧Ext m w N i (m.new (.cells cs)) (w.alloc (.cells arr elem)) N i'∧i' m.nx cs.length=some (w.heap.size,0,arr.size):=by
 have hi:∀id t x,i id t=some x→updPl i m.nx cs.length (w.heap.size,0,arr.size) id t=some x:=fun id t x h=>by
  rw [bB _ _ (fun hh=>by rw [hh.1,hf] at h;cases h)];exact h
 have hNn:¬N w.heap.size:=fun h=>by have:=s.nlt _ h;omega
 have l:Le w N i (w.alloc (.cells arr elem)) N (updPl i m.nx cs.length (w.heap.size,0,arr.size)):=⟨fun _ h=>h,fun k hk=>bT w _ k (s.nlt k hk),hi⟩
 have hlen:=hv.length
 have hnl:¬Live m i w.heap.size:=fun h=>by have:=(s.dy h).2;omega
 refine⟨_,s.new hf (w':=w.alloc (.cells arr elem)) (o:=.cells cs) (b:=w.heap.size) (p:=0) (c:=arr.size) (by simp) (fun k hk=>bT w _ k ?_) hNn hnl ?_,⟨rfl,rfl,rfl,by simp,fun _ h=>h,hi,fun k hk _=>bT w _ k hk,fun k hk=>?_,fun _ h=>.inl h,Nat.le_succ _,kz⟩,bE ..⟩
 ·rcases hk with h | h
  ·exact s.nlt k h
  ·exact(s.dy h).2
 ·refine⟨arr,elem,(0,0),_,dW w _,rfl,⟨fun k _ h=>by simp at h,Nat.le_refl _⟩,by simp at hlen ⊢;omega,?_,hone,RepL.mono l _ hv⟩
  intro j v hj
  rw [List.getElem?_take] at hj
  split at hj
  ·have hnew:=dW w (.cells arr elem)
   unfold World.cell?
   simp only [hnew]
   simpa using hj
  ·cases hj
 ·rcases gg hk with h | h
  ·exact .inl h
  ·exact .inr (by omega)
theorem Sim.zt {m:Mem} {w:World} {N:Nat→Prop} {i:Pl} (s:Sim m w N i) (hf:∀t,i m.nx t=none) {cs:List AV} {arr:Array Value} {elem:TypeId} (hv:RepL w N i cs arr.toList) (hone:One arr.toList) :
  ∃i',Sim (m.new (.cells cs)) (w.alloc (.cells arr elem)) N i'∧Ext m w N i (m.new (.cells cs)) (w.alloc (.cells arr elem)) N i'∧i' m.nx cs.length=some (w.heap.size,0,cs.length):=by
 have hlen:=hv.length
 have e:arr.toList.take cs.length=arr.toList:=List.take_of_length_le (by omega)
 have e2:arr.size=cs.length:=by simpa using hlen
 have:=s.make hf (cs:=cs) (arr:=arr) (elem:=elem) (by rw [e];exact hv) (by rw [e];exact hone)
 rwa [e2] at this
theorem mF {m m':Mem} {w:World} {N:Nat→Prop} {i:Pl} (hs:Sim m w N i) (hf:∀t,i m.nx t=none) {e:TypeId} {cs:List AV} {r:AV} {arr:Array Value} (hr:newPtr m cs=some (r,m')) (hv:RepL w N i cs arr.toList) :
  ∃i',Sim m' (w.alloc (.cells arr e)) N i'∧Ext m w N i m' (w.alloc (.cells arr e)) N i'∧Rep (w.alloc (.cells arr e)) N i' r (.pointer (some ⟨w.heap.size,0,none⟩)):=by
 unfold newPtr at hr
 cases ho:oneL cs with
 | false=>simp [ho] at hr
 | true =>
  simp only [ho,cond_true,Option.some.injEq,Prod.mk.injEq] at hr
  obtain⟨rfl,rfl⟩:=hr
  obtain⟨i',h1,h2,h3⟩:=hs.zt hf (elem:=e) hv (RepL.oneL ho hv)
  exact⟨i',h1,h2,_,_,_,h3,rfl⟩
theorem tz {P:Program} {m m':Mem} {w:World} {N:Nat→Prop} {i:Pl} (hs:Sim m w N i) {t:TypeId} {g:Bool} {n:Nat} {x y:AV} {v u:Value} (hn:sizeT P t=some n) (hr:storeA g n m x y=some m') (hx:Rep w N i x v) (hy:Rep w N i y u) :
  ∃b off w' i',v=.pointer (some ⟨b,off,none⟩)∧w'=w.setCells b off u.cells.toList∧(storeVar t ⟨b,off,none⟩ u).run P w=.ok () w'∧Sim m' w' N i'∧Ext m w N i m' w' N i':=by
 have h2:(sizeOf t).run P w=.ok n w:=run_sizeOf hn w
 have main:∀id off top xs cs,x=.ptr id off top→m.h id=some (.cells xs)→xs.length=top→off+cs.length≤top→cs.length=n→RepL w N i cs u.cells.toList→One u.cells.toList→m'=m.set id (some (.cells (splice xs off cs))) →
   ∃b off w' i',v=.pointer (some ⟨b,off,none⟩)∧w'=w.setCells b off u.cells.toList∧(storeVar t ⟨b,off,none⟩ u).run P w=.ok () w'∧Sim m' w' N i'∧Ext m w N i m' w' N i':=by
  rintro id off top xs cs rfl ho ht hle hlen hl hone rfl
  obtain⟨b,p,c,h1,rfl⟩:=hx
  have hroom:=hs.bnd _ _ _ _ _ h1
  obtain⟨i',k1,k2,_⟩:=hs.put (off:=off) ho ht h1 (by omega) (by omega) hl hone
  have hthere:=hs.there ho ht h1
  have hcl:=hl.length
  have hst:=run_storeCells_cells (P:=P) b (p+off) u.cells.toList 0 w (fun j hj=>(hthere _ (by omega)).1) (fun j hj=>(hthere _ (by omega)).2) hone
  have hsz:u.cells.size=n:=by rw [← hlen,← hcl];simp
  exact⟨b,p+off,_,i',rfl,rfl,by simp [storeVar,h2,hsz,hst],k1,k2⟩
 cases g with
 | true =>
  simp only [storeA,cond_true] at hr
  split at hr
  ·rename_i cs
   obtain⟨vs,rfl,hl⟩:=hy
   cases hb:cs.length==n with
   | false=>simp [hb] at hr
   | true =>
    simp only [hb,cond_true] at hr
    cases x<;>simp only [writeN] at hr<;>try (cases hr;done)
    rename_i id off top
    split at hr
    ·rename_i xs ho
     cases hc:(xs.length==top&&(Nat.ble (off+cs.length) top&&oneL cs)) with
     | false=>simp [hc] at hr
     | true =>
      simp only [hc,cond_true,Option.some.injEq] at hr
      simp only [Bool.and_eq_true,beq_iff_eq,Nat.ble_eq] at hc
      exact main id off top xs cs rfl ho hc.1 hc.2.1 (by simpa using hb) hl (RepL.oneL hc.2.2 hl) hr.symm
    ·cases hr
  ·cases hr
 | false =>
  simp only [storeA,cond_false] at hr
  cases hb:n==1 with
  | false=>simp [hb] at hr
  | true =>
   simp only [hb,cond_true] at hr
   cases x<;>simp only [write1] at hr<;>try (cases hr;done)
   rename_i id off top
   split at hr
   ·rename_i xs ho
    cases hc:(xs.length==top&&(Nat.blt off top&&y.one)) with
    | false=>simp [hc] at hr
    | true =>
     simp only [hc,cond_true,Option.some.injEq] at hr
     simp only [Bool.and_eq_true,beq_iff_eq,Nat.blt_eq] at hc
     obtain⟨c1,c2,c3⟩:=hc
     have ho1:=Rep.one c3 hy
     have hcells:u.cells=#[u]:=oz ho1
     refine main id off top xs [y] rfl ho c1 (by simp;omega) (by simp at hb ⊢;omega) (by rw [hcells];exact⟨u,[],rfl,hy,rfl⟩) (by rw [hcells];intro z hz;simp at hz;subst hz;exact ho1) ?_
     rw [← hr,List.set_eq_take_append_cons_drop,if_pos (by omega)]
     simp [splice]
   ·cases hr
end Go.AM

/-
  THE ABSTRACT MACHINE: make, append, copy. Conditions: none.
-/
namespace Go.AM
theorem ObjRep.drop {w:World} {N:Nat→Prop} {i:Pl} {b p c off:Nat} {xs:List AV} (h:ObjRep w N i b p c (.cells xs)) (ho:off≤xs.length):ObjRep w N i b (p+off) c (.cells (xs.drop off)):=by
 obtain⟨arr,elem,fr,us,g1,g2,g3,g4,g5,g6,g7⟩:=h
 exact⟨arr,elem,fr,us.drop off,g1,g2,g3,by simp;omega,g5.drop off,g6.drop off,g7.drop off⟩
theorem mG (xs cs:List AV):splice xs xs.length cs=xs++cs:=by simp [splice]
theorem xB {P:Program} {m m':Mem} {w:World} {N:Nat→Prop} {i:Pl} (hs:Sim m w N i) (hf:∀t,i m.nx t=none) {t e:TypeId} {n by':Nat} {z x y r:AV} {v u:Value} (hu:P.underlying t=some (.slice e)) (hn:sizeT P e=some n) (hb:bytesT P e=some by') (hz:zeroT P e=some z)
  (hr:makeA n by' z m x y=some (r,m')) (hx:Rep w N i x v) (hy:Rep w N i y u):∃q w' i',(Instr.makeSlice t v u).run P w=.ok q w'∧Sim m' w' N i'∧Ext m w N i m' w' N i'∧Rep w' N i' r q:=by
 unfold makeA at hr
 split at hr
 ·rename_i l c
  cases hx;cases hy
  cases hc:(decide (0≤l)&&(decide (l=c)&&(room l.toNat by'&&(z.cells.length==n&&oneL z.cells)))) with
  | false=>simp [hc] at hr
  | true =>
   simp only [hc,cond_true,Option.some.injEq,Prod.mk.injEq] at hr
   simp only [Bool.and_eq_true,decide_eq_true_eq,beq_iff_eq,room,Nat.ble_eq] at hc
   obtain⟨h0,rfl,⟨hr1,hr2⟩,hzl,hzo⟩:=hc
   obtain⟨rfl,rfl⟩:=hr
   obtain⟨jn,hj,rfl⟩:=dX hn
   obtain⟨jb,hj',rfl⟩:=ln hb
   rw [hj] at hj'
   cases hj'
   obtain⟨jz,zv,hj',hjz,hzc⟩:=fu hz
   rw [hj] at hj'
   cases hj'
   have hcells:=eN (w:=w) (N:=N) (i:=i) hzc
   have hrep:=qQ hcells l.toNat (l.toNat*jn.size) (by rw [hzl])
   have hone:oneL (repl l.toNat z.cells)=true:=by
    unfold repl
    have hall:∀(xs:List AV),oneL xs=true↔∀a∈xs,a.one=true:=by
     intro xs
     induction xs with
     | nil=>simp [oneL]
     | cons a xs ih=>simp [oneL,ih]
    rw [hall] at hzo ⊢
    split
    ·rename_i q hq
     intro a ha
     rw [List.mem_replicate] at ha
     rw [ha.2];exact hzo q (by simp [hq])
    ·intro a ha
     rw [List.mem_flatten] at ha
     obtain⟨l',h1,h2⟩:=ha
     rw [List.mem_replicate] at h1
     rw [h1.2] at h2
     exact hzo a h2
   obtain⟨i',k1,k2,k3⟩:=hs.zt hf (elem:=e) hrep (RepL.oneL hone hrep)
   have hlen:(repl l.toNat z.cells).length=l.toNat*jn.size:=by rw [fH,hzl]
   refine⟨_,_,i',run_make (P:=P) w t e jn zv hu hj hjz .i64 .i64 l l h0 (Int.le_refl _) ?_ (by omega),k1,k2,w.heap.size,0,_,0,l.toNat,k3,rfl,fun _=>rfl,Nat.le_refl _,by omega⟩
   have:((l.toNat*jn.bytes:Nat):Int)≤70368744177664:=by omega
   rw [Int.natCast_mul,Int.toNat_of_nonneg h0,Int.mul_comm] at this
   omega
 ·cases hr
theorem lg {P:Program} {m m':Mem} {w:World} {N:Nat→Prop} {i:Pl} (hs:Sim m w N i) (hf:∀t,i m.nx t=none) {t tx e ty:TypeId} {size by':Nat} {z x y r:AV} {v u:Value} (hu:P.underlying t=some (.slice e)) (hk:(∃e',P.underlying tx=some (.slice e'))∨P.underlying tx=some .string)
  (hn:sizeT P e=some size) (hb:bytesT P e=some by') (hz:zeroT P e=some z) (hzl:z.cells.length=size)
  (hr:appendA size by' m x y=some (r,m')) (hx:Rep w N i x v) (hy:Rep w N i y u) :
  ∃q w' i',(Builtin.append_ #[t,tx] ty #[v,u]).run P w=.ok q w'∧Sim m' w' N i'∧Ext m w N i m' w' N i'∧Rep w' N i' r q:=by
 unfold appendA at hr
 cases h0:size==0 with
 | true=>simp [h0] at hr
 | false =>
 have hpos:0 < size:=by simp at h0;omega
 simp only [h0,cond_false,Option.bind_eq_some_iff] at hr
 obtain⟨⟨n,news⟩,hsrc,hr⟩:=hr
 obtain⟨nv,src,hnv⟩:=zu (P:=P) hs hk hsrc hy
 obtain⟨jn,hj,hjs⟩:=dX hn
 obtain⟨jb,hj',hjb⟩:=ln hb
 rw [hj] at hj'
 cases hj'
 obtain⟨jz,zv,hj',hjz,hzc⟩:=fu hz
 rw [hj] at hj'
 cases hj'
 subst hjs
 subst hjb
 have hzs:zv.cells.size=jn.size:=by
  have:=(eN (w:=w) (N:=N) (i:=i) hzc).length
  rw [Array.length_toList] at this
  omega
 have hnl:=src.newsLen
 have hnl':=hnv.length
 have none0:n=0→∀base sLen sCap,sLen≤sCap→(Builtin.append_ #[t,tx] ty #[.slice base sLen sCap,u]).run P w=.ok (.slice base sLen sCap) w:=by
  rintro rfl base sLen sCap hle
  have:nv=[]:=by simpa using hnl
  subst this
  exact run_append_nothing w t tx ty e jn hu hj base sLen sCap hle u src
 have grow:∀base sLen sCap olds ao,(Builtin.firstCells jn.size sLen (.slice base sLen sCap)).run P w.drew=.ok (List.toArray olds) w.drew→sCap < sLen+n→room (sLen+n) jn.bytes=true→RepL w N i ao olds→One olds→olds.length=sLen*jn.size →
   ∃w' gc,(Builtin.append_ #[t,tx] ty #[.slice base sLen sCap,u]).run P w=.ok (.slice (some ⟨w.heap.size,0,none⟩) (sLen+n) gc) w'∧sLen+n≤gc∧∃arr:Array Value,arr.size=gc*jn.size∧arr.toList.take (ao++news).length=olds++nv∧w'=w.drew.alloc (.cells arr e)∧RepL w N i (ao++news) (olds++nv)∧One (olds++nv):=by
  intro base sLen sCap olds ao hold hg hrm hao ho1 hol
  simp only [room,Bool.and_eq_true,Nat.ble_eq] at hrm
  have hrun:=run_append_grow_src (P:=P) w t tx ty e jn zv hu hj hjz base sLen sCap olds hold u n nv src hg (by omega) (growslice_fits hg (by omega))
  have hge:=grownCap_ge w (sLen+n) sCap e
  have hal:=hao.length
  refine⟨_,_,hrun,hge,_,?_,?_,rfl,hao.append hnv,ho1.append src.one⟩
  ·have hzz:(Builtin.zeroCells zv.cells (grownCap w (sLen+n) sCap e - (sLen+n))).size=(grownCap w (sLen+n) sCap e - (sLen+n))*jn.size:=by simp [Builtin.zeroCells,hzs]
   rw [Array.size_append,hzz]
   simp only [List.size_toArray,List.length_append,hol,hnl]
   rw [← Nat.add_mul,← Nat.add_mul]
   congr 1
   omega
  ·simp only [Array.toList_append]
   have:(ao++news).length=(olds++nv).length:=by simp;omega
   rw [this]
   exact List.take_left
 have drewLe:Le w N i w.drew N i:=⟨fun _ h=>h,fun _ _=>rfl,fun _ _ _ h=>h⟩
 split at hr
 ·
  cases hx
  cases hn0:n==0 with
  | true =>
   simp only [hn0,cond_true,Option.some.injEq,Prod.mk.injEq] at hr
   obtain⟨rfl,rfl⟩:=hr
   exact⟨_,w,i,none0 (by simpa using hn0) none 0 0 (Nat.le_refl _),hs,Ext.refl _ _ _ _,rfl⟩
  | false =>
   simp only [hn0,cond_false] at hr
   cases hrm:room n jn.bytes with
   | false=>simp [hrm] at hr
   | true =>
    simp only [hrm,cond_true,Option.some.injEq,Prod.mk.injEq] at hr
    obtain⟨rfl,rfl⟩:=hr
    obtain⟨w',gc,h1,h2,arr,h3,h4,rfl,h5,h6⟩:=grow none 0 0 [] [] (run_firstCells_none _ _ _ _ _) (by simp at hn0;omega) (by simpa using hrm) rfl (fun _ h=>by cases h) (by simp)
    simp only [List.nil_append,Nat.zero_add] at h1 h2 h4 h5 h6
    obtain⟨i',k1,k2,k3⟩:=hs.drew.make hf (cs:=news) (arr:=arr) (elem:=e) (by rw [h4];exact RepL.mono drewLe _ h5) (by rw [h4];exact h6)
    exact⟨_,_,i',h1,k1,(Ext.drew m w N i).trans k2,w.heap.size,0,arr.size,0,gc,k3,rfl,fun _=>rfl,h2,by omega⟩
 ·
  rename_i n0 cells
  obtain⟨a,cap,vs,rfl,g2,g3,g4,g5,g6⟩:=hx
  obtain rfl:cap=n0:=g3 rfl
  have g4':∀(j:Nat) q,vs[j]?=some q→w.cell? (a.add j)=some q:=fun j q hj=>by
   rcases g4 with ⟨_,rfl⟩ | ⟨b,off,rfl,_,g4⟩
   ·simp at hj
   ·rw [add_lit];exact g4 j q hj
  cases hn0:n==0 with
  | true =>
   simp only [hn0,cond_true,Option.some.injEq,Prod.mk.injEq] at hr
   obtain⟨rfl,rfl⟩:=hr
   exact⟨_,w,i,none0 (by simpa using hn0) _ _ _ g2,hs,Ext.refl _ _ _ _,a,cap,vs,rfl,g2,g3,g4,g5,g6⟩
  | false =>
   simp only [hn0,cond_false] at hr
   cases hrm:(room (cap+n) jn.bytes&&cells.length==cap*jn.size) with
   | false=>simp [hrm] at hr
   | true =>
    simp only [hrm,cond_true,Option.some.injEq,Prod.mk.injEq] at hr
    simp only [Bool.and_eq_true,beq_iff_eq] at hrm
    obtain⟨rfl,rfl⟩:=hr
    have hvl:=g6.length
    have l0:Le w N P0 w N i:=⟨fun _ h=>h,fun _ _=>rfl,fun _ _ _ h=>by simp [P0] at h⟩
    obtain⟨w',gc,h1,h2,arr,h3,h4,rfl,h5,h6⟩:=grow (some a) cap cap vs cells (run_firstCells_some w.drew jn.size cap _ cap cap vs (by omega) (fun j q hj=>g4' j q hj)) (by simp at hn0;omega) hrm.1 (RepL.mono l0 _ g6) g5 (by omega)
    obtain⟨i',k1,k2,k3⟩:=hs.drew.make hf (cs:=cells++news) (arr:=arr) (elem:=e) (by rw [h4];exact RepL.mono drewLe _ h5) (by rw [h4];exact h6)
    exact⟨_,_,i',h1,k1,(Ext.drew m w N i).trans k2,w.heap.size,0,arr.size,0,gc,k3,rfl,fun _=>rfl,h2,by omega⟩
 ·
  rename_i id es off n0 top
  split at hr
  ·rename_i xs ho
   cases hc:(xs.length==top&&(es==jn.size&&off+n0*jn.size==top)) with
   | false=>simp [hc] at hr
   | true =>
    simp only [hc,cond_true] at hr
    simp only [Bool.and_eq_true,beq_iff_eq] at hc
    obtain⟨c1,rfl,c3⟩:=hc
    obtain⟨b,o,c,off',cap,h1,rfl,q1,q2,q3⟩:=hx
    cases hn0:n==0 with
    | true =>
     simp only [hn0,cond_true,Option.some.injEq,Prod.mk.injEq] at hr
     obtain⟨rfl,rfl⟩:=hr
     exact⟨_,w,i,none0 (by simpa using hn0) _ _ _ q2,hs,Ext.refl _ _ _ _,b,o,c,off',cap,h1,rfl,q1,q2,q3⟩
    | false =>
     simp only [hn0,cond_false] at hr
     cases hrm:room (n0+n) jn.bytes with
     | false=>simp [hrm] at hr
     | true =>
      simp only [hrm,cond_true] at hr
      have hn1:0 < n:=by simp at hn0;omega
      obtain⟨g0,arr0,elem0,fr0,vs,g1,g2,g3,g4,g5,g6,g7⟩:=hs.cells ho c1 h1
      have hvl:=g7.length
      have hnpos:0 < n*jn.size:=Nat.mul_pos hn1 hpos
      rcases Nat.lt_or_ge cap (n0+n) with hg | hg
      ·
       have hsub:CellsAt w b off' (vs.drop off):=by
        by_cases hc0:cap=0
        ·have:n0=0:=by omega
         subst this
         intro j q hj
         rw [List.getElem?_eq_none (by simp;omega)] at hj
         cases hj
        ·rw [q1 hc0];exact g5.drop off
       obtain⟨w',gc,e1,e2,arr,e3,e4,rfl,e5,e6⟩:=grow (some ⟨b,off',none⟩) n0 cap (vs.drop off) (xs.drop off) (run_firstCells_some w.drew jn.size n0 _ n0 cap _ (by simp;omega) (fun j q hj=>by rw [add_lit];exact hsub j q hj)) hg hrm (g7.drop off) (g6.drop off) (by simp;omega)
       cases hof:off==0 with
       | true =>
        simp only [hof,cond_true,Option.some.injEq,Prod.mk.injEq] at hr
        simp at hof
        subst hof
        obtain⟨rfl,rfl⟩:=hr
        simp only [List.drop_zero] at e4 e5 e6
        have d:=hs.drew
        have hnew:¬N w.heap.size:=fun h=>by have:=hs.nlt _ h;omega
        have hi:∀id1 t x,i id1 t=some x→updPl i id (xs++news).length (w.heap.size,0,arr.size) id1 t=some x:=fun id1 t x h=>by
         by_cases e:id1=id∧t=(xs++news).length
         ·have h1:=e.1;have h2:=e.2;subst h1;subst h2
          have:=hs.top _ _ _ _ ho h
          simp [AObj.top] at this
          omega
         ·rw [bB _ _ e];exact h
        have l:Le w N i (w.drew.alloc (.cells arr e)) N (updPl i id (xs++news).length (w.heap.size,0,arr.size)):=⟨fun _ h=>h,fun k hk=>bT w.drew _ k (hs.nlt k hk),hi⟩
        obtain⟨r1,r2,r3⟩:=d.replace (w':=w.drew.alloc (.cells arr e)) (o':=.cells (xs++news)) (b':=w.heap.size) (p':=0) (c':=arr.size) (by simp) ho (by rw [show AObj.top (.cells xs)=top from c1];exact h1) (.inl (by simp [AObj.top];omega)) (.inr (Nat.le_refl _)) (fun k hk _=>bT w.drew _ k hk)
         ⟨arr,e,(0,0),_,dW w.drew _,rfl,⟨fun k _ h=>by simp at h,Nat.le_refl _⟩,by
          have:=congrArg List.length e4;simp at this ⊢;omega,(by
          intro j q hj
          rw [← e4,List.getElem?_take] at hj
          split at hj
          ·have hnew:=dW w.drew (.cells arr e)
           unfold World.cell?
           have e9:w.drew.heap.size=w.heap.size:=rfl
           rw [e9] at hnew
           simp only [hnew]
           simpa using hj
          ·cases hj),e6,RepL.mono l _ e5⟩
        refine⟨_,_,_,e1,r1,⟨rfl,rfl,rfl,by simp,fun _ h=>h,hi,fun k hk _=>bT w.drew _ k hk,r2,fun _ h=>.inl h,Nat.le_refl _,tA h1⟩,w.heap.size,0,arr.size,0,gc,bE ..,rfl,fun _=>rfl,e2,by omega⟩
       | false =>
        simp only [hof,cond_false,Option.some.injEq,Prod.mk.injEq] at hr
        obtain⟨rfl,rfl⟩:=hr
        obtain⟨d1,d2⟩:=hs.drop id
        obtain⟨i',k1,k2,k3⟩:=d1.drew.make hf (cs:=xs.drop off++news) (arr:=arr) (elem:=e) (by rw [e4];exact RepL.mono drewLe _ e5) (by rw [e4];exact e6)
        exact⟨_,_,i',e1,k1,d2.trans ((Ext.drew _ w N i).trans k2),w.heap.size,0,arr.size,0,gc,k3,rfl,fun _=>rfl,e2,by omega⟩
      ·
       have hc0:cap≠0:=by omega
       have hoff:=q1 hc0
       have hthere:=hs.there ho c1 h1
       have hmul:(n0+n)*jn.size≤cap*jn.size:=Nat.mul_le_mul_right _ hg
       rw [Nat.add_mul] at hmul
       have hrun:=run_append_room_src (P:=P) w t tx ty e jn hu hj b off' n0 cap u n nv src hg (fun j hj=>(hthere _ (by omega)).1) (fun j hj=>(hthere _ (by omega)).2)
       have hplace:off'+n0*jn.size=o+xs.length:=by omega
       rw [hplace] at hrun
       obtain⟨i',k1,k2,k3⟩:=hs.put (off:=xs.length) (cs:=news) (vs:=nv) ho c1 h1 (Nat.le_refl _) (by omega) hnv src.one
       rw [mG] at k1 k2 k3
       cases hof:off==0 with
       | true =>
        simp only [hof,cond_true,Option.some.injEq,Prod.mk.injEq] at hr
        simp at hof
        subst hof
        obtain⟨rfl,rfl⟩:=hr
        exact⟨_,_,i',hrun,k1,k2,b,o,c,off',cap,k3,rfl,q1,hg,q3⟩
       | false =>
        simp only [hof,cond_false,Option.some.injEq,Prod.mk.injEq] at hr
        obtain⟨rfl,rfl⟩:=hr
        obtain⟨d1,d2⟩:=hs.drop id
        have hlive:Live m i b:=⟨id,_,o,c,ho,by rw [show AObj.top (.cells xs)=top from c1];exact h1⟩
        have hnl2:¬Live (m.set id none) i b:=by
         rintro⟨id1,o1,p1,c1',f1,f2⟩
         by_cases e:id1=id
         ·subst e;simp [Mem.set,bO] at f1
         ·simp only [Mem.set,cD _ _ e] at f1
          exact e (hs.inj _ _ _ _ b _ _ o c f1 ho f2 (by rw [show AObj.top (.cells xs)=top from c1];exact h1))
        obtain⟨z1,z2,z3⟩:=v7 (cs:=news) (vs:=nv) (off:=xs.length) (w:=w) (N:=N) (i:=i) (b:=b) (p:=o) (c:=c) (xs:=xs) ⟨arr0,elem0,fr0,vs,g1,g2,g3,g4,g5,g6,g7⟩ g0 (Nat.le_refl _) (by omega) hnv src.one
        rw [mG] at z1
        have z4:=ObjRep.drop (off:=off) z1 (by simp;omega)
        have z5:(xs++news).drop off=xs.drop off++news:=by rw [List.drop_append_of_le_length (by omega)]
        rw [z5] at z4
        obtain⟨y1,y2,y3,y4⟩:=fQ b nv (o+xs.length) w
        have hi:∀id1 t x,i id1 t=some x→updPl i m.nx (xs.drop off++news).length (b,o+off,c) id1 t=some x:=fun id1 t x h=>by
         rw [bB _ _ (fun hh=>by rw [hh.1,hf] at h;cases h)];exact h
        have l:Le (w.setCells b (o+xs.length) nv) N i (w.setCells b (o+xs.length) nv) N (updPl i m.nx (xs.drop off++news).length (b,o+off,c)):=⟨fun _ h=>h,fun _ _=>rfl,hi⟩
        have s2:=d1.new hf (w':=w.setCells b (o+xs.length) nv) (o:=.cells (xs.drop off++news)) (b:=b) (p:=o+off) (c:=c) (by rw [y1];exact Nat.le_refl _) (fun k hk=>z2 k (by
          rintro rfl
          rcases hk with hk | hk
          ·exact g0 hk
          ·exact hnl2 hk)) g0 hnl2 (z4.mono l rfl)
        refine⟨_,_,_,hrun,s2,⟨y2,y3,y4,by rw [y1];exact Nat.le_refl _,fun _ h=>h,hi,fun k hk hl=>z2 k (fun e=>hl (e ▸ hlive)),fun k hk=>?_,fun _ h=>.inl h,Nat.le_succ _,kz⟩,b,o+off,c,off',cap,bE ..,rfl,fun _=>by omega,hg,by omega⟩
        rcases gg hk with h | h
        ·exact d2.grow k h
        ·rw [h];exact .inl hlive
  ·cases hr
 ·cases hr
theorem xC {P:Program} {m m':Mem} {w:World} {N:Nat→Prop} {i:Pl} (hs:Sim m w N i) {t tx e ty:TypeId} {size:Nat} {x y r:AV} {v u:Value} (hu:P.underlying t=some (.slice e))
  (hn:sizeT P e=some size) (hr:copyA size m x y=some (r,m')) (hx:Rep w N i x v) (hy:Rep w N i y u) :
  ∃q w' i',(Builtin.copy_ #[t,tx] ty #[v,u]).run P w=.ok q w'∧Sim m' w' N i'∧Ext m w N i m' w' N i'∧Rep w' N i' r q:=by
 unfold copyA at hr
 cases h0:size==1&&!y.isStr with
 | false=>simp [h0] at hr
 | true =>
  simp only [h0,cond_true,Option.bind_eq_some_iff] at hr
  simp at h0
  obtain⟨h0,hstr'⟩:=h0
  have hstr:∀s,y≠.str s:=by rintro s rfl;cases hstr'
  subst h0
  have hi1:(P.info? e).map (·.size)=some 1:=hn
  obtain⟨⟨n,news⟩,hsrc,hr⟩:=hr
  have hcells:=jk hs hstr hsrc hy
  split at hr
  ·cases hx
   simp only [Option.some.injEq,Prod.mk.injEq] at hr
   obtain⟨rfl,rfl⟩:=hr
   rcases hcells with ⟨rfl,rfl,rfl⟩ | ⟨a,cap,vs,rfl,h1,h2,h3,h4,h5⟩
   ·exact⟨_,w,i,run_copy_none w t tx ty e none none 0 0 0 0 hu hi1 (by simp),hs,Ext.refl _ _ _ _,rfl⟩
   ·exact⟨_,w,i,run_copy_none w t tx ty e none _ 0 0 n cap hu hi1 (by simp),hs,Ext.refl _ _ _ _,rfl⟩
  ·rename_i id es off n0 top
   split at hr
   ·rename_i xs ho
    cases hc:(xs.length==top&&(es==1&&Nat.ble (off+n0*1) top)) with
    | false=>rw [hc] at hr;cases hr
    | true =>
     rw [hc] at hr
     simp only [cond_true,Option.some.injEq,Prod.mk.injEq] at hr
     simp only [Bool.and_eq_true,beq_iff_eq,Nat.ble_eq] at hc
     obtain⟨c1,rfl,c3⟩:=hc
     obtain⟨rfl,rfl⟩:=hr
     obtain⟨b,o,c,off',cap,h1,rfl,q1,q2,q3⟩:=hx
     rcases hcells with ⟨rfl,rfl,rfl⟩ | ⟨a2,cap2,vs,rfl,g1,g2,g3,g4,g5⟩
     ·have e1:m.set id (some (.cells (splice xs off (List.take (Nat.min 0 n0*1) []))))=m.set id (some (.cells (splice xs off []))):=by simp
      obtain⟨i',k1,k2,k3⟩:=hs.put (off:=off) (cs:=[]) (vs:=[]) ho c1 h1 (by omega) (by have:=hs.bnd _ _ _ _ _ h1;simp;omega) rfl (fun _ h=>by cases h)
      refine⟨_,_,i',run_copy_none w t tx ty e _ none n0 cap 0 0 hu hi1 (by simp),?_,?_,?_⟩
      ·rw [e1];exact k1
      ·rw [e1];exact k2
      ·simp [Rep,goInt]
     ·have hmin:Nat.min n n0≤n:=Nat.min_le_left _ _
      have hmin2:Nat.min n n0≤n0:=Nat.min_le_right _ _
      have hnl:=g4.length
      have hbnd:=hs.bnd _ _ _ _ _ h1
      have hthere:=hs.there ho c1 h1
      have hrep:RepL w N i (news.take (Nat.min n n0*1)) (vs.take (Nat.min n n0*1)):=g4.take _
      have hvl:(vs.take (Nat.min n n0*1)).length=Nat.min n n0:=by rw [List.length_take];omega
      have hnl2:(news.take (Nat.min n n0*1)).length=Nat.min n n0:=by rw [List.length_take];omega
      obtain⟨i',k1,k2,k3⟩:=hs.put (off:=off) (cs:=news.take (Nat.min n n0*1)) (vs:=vs.take (Nat.min n n0*1)) ho c1 h1 (by omega) (by omega) hrep (g3.take _)
      by_cases hcap:cap=0
      ·have hz:Nat.min n n0=0:=by omega
       have ev:vs.take (Nat.min n n0*1)=[]:=by rw [hz];simp
       rw [ev] at k1 k2
       refine⟨_,_,i',run_copy_none w t tx ty e _ _ n0 cap n cap2 hu hi1 hz,k1,k2,?_⟩
       rw [hz];rfl
      ·have hoff:=q1 hcap
       have hrun:=run_copy_cells (P:=P) w t tx ty e b off' n0 cap a2 n cap2 (vs.take (Nat.min n n0*1)) hu hi1 hvl (fun j q hj=>g2 j q (by
        rw [List.getElem?_take] at hj
        split at hj
        ·exact hj
        ·cases hj)) (fun j hj=>(hthere _ (by omega)).1) (fun j hj=>(hthere _ (by omega)).2) (g3.take _)
       rw [hoff] at hrun
       rw [hvl] at hrun
       rw [← hoff] at hrun
       rw [← hoff] at k1 k2
       exact⟨_,_,i',hrun,k1,k2,rfl⟩
   ·cases hr
  ·cases hr
end Go.AM

/-
  THE ABSTRACT MACHINE: maps are written; every operation that makes or writes memory does what the machine says. Conditions: none.
-/
namespace Go.AM
theorem tr {w:World} {b:Nat} {o:Obj} (h:b < w.heap.size):(w.heap.setIfInBounds b o)[b]?=some o:=by simp [h]
theorem gh {w:World} {b k:Nat} {o:Obj} (h:k≠b):(w.heap.setIfInBounds b o)[k]?=w.heap[k]?:=by
 have h':¬b=k:=fun e=>h e.symm
 simp [h']
theorem Sim.mE {m:Mem} {w:World} {N:Nat→Prop} {i:Pl} (s:Sim m w N i) {id g g' b o c:Nat} {ks vs ks' vs':List AV} {es':Array MapEntry} (ho:m.h id=some (.map g ks vs)) (hp:i id 0=some (b,o,c))
  (hborn:∀(k:Nat) e,es'[k]?=some e→e.born=k) (hk:RepL w N i ks' (es'.toList.map (·.key))) (hv:RepL w N i vs' (es'.toList.map (·.val))) :
  Sim (m.set id (some (.map g' ks' vs'))) { w with heap:=w.heap.setIfInBounds b (.map es' es'.size) } N i∧Ext m w N i (m.set id (some (.map g' ks' vs'))) { w with heap:=w.heap.setIfInBounds b (.map es' es'.size) } N i:=by
 obtain⟨b',o',c',g1,g2,g3⟩:=s.live id _ ho
 have e0:AObj.top (.map g ks vs)=0:=rfl
 rw [e0,hp] at g1
 cases g1
 have hlt:=g3.lt
 obtain⟨es,h1,h2,h3,h4,h5⟩:=g3
 have hi:updPl i id 0 (b,o,c)=i:=by
  funext id1 t
  by_cases e:id1=id∧t=0
  ·obtain⟨rfl,rfl⟩:=e;rw [bE];exact hp.symm
  ·rw [bB _ _ e]
 have hN:∀k,N k→k≠b:=fun k hk e=>g2 (e ▸ hk)
 have l:Le w N i { w with heap:=w.heap.setIfInBounds b (.map es' es'.size) } N i:=⟨fun _ h=>h,fun k hk=>gh (hN k hk),fun _ _ _ h=>h⟩
 have:=s.replace (w':={ w with heap:=w.heap.setIfInBounds b (.map es' es'.size) }) (o':=.map g' ks' vs') (b':=b) (p':=o) (c':=c) (by simp) ho hp (.inr ⟨rfl,rfl⟩) (.inl rfl) (fun k _ hk=>gh hk)
  ⟨es',tr hlt,hborn,by rw [show AObj.top (.map g' ks' vs')=0 from rfl,hi];exact RepL.mono l _ hk,by rw [show AObj.top (.map g' ks' vs')=0 from rfl,hi];exact RepL.mono l _ hv,h5⟩
 rw [show AObj.top (.map g' ks' vs')=0 from rfl,hi] at this
 exact⟨this.1,⟨rfl,rfl,rfl,by simp,fun _ h=>h,fun _ _ _ h=>h,fun k _ hk=>gh (fun e=>hk (e ▸ ⟨id,_,o,c,ho,hp⟩)),this.2.1,fun _ h=>.inl h,Nat.le_refl _,fun _ t x h=>.inl ⟨t,x,h⟩⟩⟩
theorem Sim.gJ {m:Mem} {w:World} {N:Nat→Prop} {i:Pl} (s:Sim m w N i) {id g:Nat} {ks vs:List AV} {v:Value} (ho:m.h id=some (.map g ks vs)) (hx:Rep w N i (.map id) v) :
  ∃b o c,∃es:Array MapEntry,i id 0=some (b,o,c)∧v=.map (some b)∧w.heap[b]?=some (.map es es.size)∧(∀(k:Nat) e,es[k]?=some e→e.born=k)∧RepL w N i ks (es.toList.map (·.key))∧RepL w N i vs (es.toList.map (·.val)):=by
 obtain⟨b,o,c,h1,rfl⟩:=hx
 obtain⟨b',o',c',g1,g2,es,h4,h5,h6,h7,_⟩:=s.live id _ ho
 have e0:AObj.top (.map g ks vs)=0:=rfl
 rw [e0,h1] at g1
 cases g1
 exact⟨b,o,c,es,h1,rfl,h4,h5,h6,h7⟩
theorem gT {es:Array MapEntry} {j:Nat} {f:MapEntry→MapEntry} (hf:∀e,(f e).born=e.born) (h:∀(k:Nat) e,es[k]?=some e→e.born=k):∀(k:Nat) e,(es.modify j f)[k]?=some e→e.born=k:=by
 intro k e he
 rw [Array.getElem?_modify] at he
 split at he
 ·rw [Option.map_eq_some_iff] at he
  obtain⟨e',h1,rfl⟩:=he
  rw [hf];exact h k e' h1
 ·exact h k e he
theorem oy {es:Array MapEntry} {x:MapEntry} (hx:x.born=es.size) (h:∀(k:Nat) e,es[k]?=some e→e.born=k):∀(k:Nat) e,(es.push x)[k]?=some e→e.born=k:=by
 intro k e he
 rw [Array.getElem?_push] at he
 split at he
 ·cases he;rename_i hk;rw [hk];exact hx
 ·exact h k e he
theorem dz {es:Array MapEntry} {j:Nat} {f:MapEntry→MapEntry}:(es.modify j f).toList=es.toList.modify j f:=by simp
theorem fp {α:Type} (g:MapEntry→α) (f:MapEntry→MapEntry):∀(es:List MapEntry) (j:Nat) (y:α),(∀e,es[j]?=some e→g (f e)=y)→(es.modify j f).map g=(es.map g).set j y
 | [],j,y,_=>by simp
 | e::es,0,y,h=>by simp [h e rfl]
 | e::es,j+1,y,h=>by simpa using fp g f es j y (fun e' he=>h e' (by simpa using he))
theorem eU {α:Type} (g:MapEntry→α) (f:MapEntry→MapEntry) (hf:∀e,g (f e)=g e):∀(es:List MapEntry) (j:Nat),(es.modify j f).map g=es.map g
 | [],j=>by simp
 | e::es,0=>by simp [hf]
 | e::es,j+1=>by simpa using eU g f hf es j
theorem gU (es:Array MapEntry) (j:Nat) (f:MapEntry→MapEntry):(es.modify j f).size=es.size:=by simp
theorem qN {P:Program} {w:World} {k u:Value} (h:Instr.sameBits 10000 k u=true):(Instr.keyThatStays k u).run P w=.ok u w:=by
 simp [Instr.keyThatStays,h]
theorem qO {P:Program} {m m':Mem} {w:World} {N:Nat→Prop} {i:Pl} (hs:Sim m w N i) {t:TypeId} {x k y:AV} {v u z:Value} (hr:updA P m t x k y=some m') (hx:Rep w N i x v) (hk:Rep w N i k u) (hy:Rep w N i y z) :
  ∃w',(Instr.mapUpdate t v u z).run P w=.ok () w'∧Sim m' w' N i∧Ext m w N i m' w' N i:=by
 unfold updA at hr
 split at hr
 ·rename_i kt et hu
  cases hkt:keyT P kt k with
  | false=>simp [hkt] at hr
  | true =>
   simp only [hkt,cond_true] at hr
   split at hr
   ·rename_i id
    split at hr
    ·rename_i g ks vs ho
     simp only [Option.bind_eq_some_iff] at hr
     obtain⟨⟨a,b⟩,hset,hr⟩:=hr
     cases hr
     obtain⟨bl,o,c,es,h1,rfl,h2,h3,h4,h5⟩:=hs.gJ ho hx
     rcases zr 0 hset with ⟨g1,g2⟩ | ⟨j,g1,g2,g3,g4⟩
     ·cases g2
      obtain⟨e1,_⟩:=fq hkt hk g1 h4
      have:=hs.mE (g':=g+1) (ks':=ks++[k]) (vs':=vs++[y]) (es':=es.push { key:=u,val:=z,born:=es.size }) ho h1 (oy rfl h3) (by simpa using h4.append (RepL.cons hk RepL.nil)) (by simpa using h5.append (RepL.cons hy RepL.nil))
      refine⟨_,?_,this.1,this.2⟩
      simp [Instr.mapUpdate,run_underlying hu,MapKept.run_getObj_map h2,eM hkt hk,e1,MapKept.run_setObj_map _ h2]
     ·cases g4
      rw [Nat.zero_add] at g1
      obtain⟨e1,e2⟩:=fq hkt hk g1 h4
      rcases e2 with e2 | ⟨j',e,e2,e3,e4⟩
      ·cases e2
      ·cases e2
       have hj:es[j]?=some e:=by simpa using e3
       have:=hs.mE (g':=g+1) (ks':=ks.set j k) (vs':=vs.set j y) (es':=es.modify j fun e=>{ e with key:=u,val:=z }) ho h1 (gT (fun _=>rfl) h3)
        (by rw [dz,fp (·.key) _ _ _ u (fun _ _=>rfl)];exact h4.set j hk) (by rw [dz,fp (·.val) _ _ _ z (fun _ _=>rfl)];exact h5.set j hy)
       rw [gU] at this
       refine⟨_,?_,this.1,this.2⟩
       simp [Instr.mapUpdate,run_underlying hu,MapKept.run_getObj_map h2,eM hkt hk,e1,hj,qN e4,MapKept.run_setObj_map _ h2]
    ·cases hr
   ·cases hr
 ·cases hr
theorem tu {P:Program} {m m':Mem} {w:World} {N:Nat→Prop} {i:Pl} (hs:Sim m w N i) {t:TypeId} {x k r:AV} {v u:Value} (hr:entryA P m t x k=some (r,m')) (hx:Rep w N i x v) (hk:Rep w N i k u) :
  ∃q w',(Instr.mapEntry t v u).run P w=.ok q w'∧Sim m' w' N i∧Ext m w N i m' w' N i∧Rep w' N i r q:=by
 unfold entryA at hr
 split at hr
 ·rename_i kt et hu
  cases hkt:keyT P kt k with
  | false=>simp [hkt] at hr
  | true =>
   simp only [hkt,cond_true,Option.bind_eq_some_iff] at hr
   obtain⟨z,hz,hr⟩:=hr
   obtain⟨zv,hzrun,hzc,_⟩:=jG hz
   split at hr
   ·rename_i id
    split at hr
    ·rename_i g ks vs ho
     simp only [Option.bind_eq_some_iff] at hr
     obtain⟨q,hq,hr⟩:=hr
     obtain⟨bl,o,c,es,h1,rfl,h2,h3,h4,h5⟩:=hs.gJ ho hx
     obtain⟨e1,e2⟩:=fq hkt hk hq h4
     split at hr
     ·rename_i j
      simp only [Option.bind_eq_some_iff] at hr
      obtain⟨av,hav,hr⟩:=hr
      simp only [Option.some.injEq,Prod.mk.injEq] at hr
      obtain⟨rfl,rfl⟩:=hr
      rcases e2 with e2 | ⟨j',e,e2,e3,e4⟩
      ·cases e2
      ·cases e2
       have hj:es[j]?=some e:=by simpa using e3
       obtain⟨uv,huv,hrv⟩:=h5.get hav
       have huv':e.val=uv:=by simpa [hj] using huv
       have:=hs.mE (g':=g+1) (ks':=ks.set j k) (vs':=vs) (es':=es.modify j fun e=>{ e with key:=u }) ho h1 (gT (fun _=>rfl) h3)
        (by rw [dz,fp (·.key) _ _ _ u (fun _ _=>rfl)];exact h4.set j hk) (by rw [dz,eU (·.val) (fun e=>{ e with key:=u }) (fun _=>rfl)];exact h5)
       rw [gU] at this
       have hb:e.born=j:=h3 j e hj
       refine⟨.tuple #[uv,goInt j],_,?_,this.1,this.2,_,rfl,_,_,rfl,Rep.mono (this.2.le hs) _ hrv,_,_,rfl,rfl,rfl⟩
       simp [Instr.mapEntry,run_underlying hu,MapKept.run_getObj_map h2,eM hkt hk,e1,hj,qN e4,MapKept.run_setObj_map _ h2,hb,huv']
     ·simp only [Option.some.injEq,Prod.mk.injEq] at hr
      obtain⟨rfl,rfl⟩:=hr
      have hlen:ks.length=es.size:=by have:=h4.length;simp at this;omega
      have:=hs.mE (g':=g+1) (ks':=ks++[k]) (vs':=vs++[z]) (es':=es.push { key:=u,val:=zv,born:=es.size }) ho h1 (oy rfl h3) (by simpa using h4.append (RepL.cons hk RepL.nil)) (by simpa using h5.append (RepL.cons (dA hzc) RepL.nil))
      refine⟨.tuple #[zv,goInt es.size],_,?_,this.1,this.2,_,rfl,_,_,rfl,dA hzc,_,_,rfl,by rw [hlen];rfl,rfl⟩
      simp [Instr.mapEntry,run_underlying hu,MapKept.run_getObj_map h2,eM hkt hk,e1,hzrun,MapKept.run_setObj_map _ h2]
    ·cases hr
   ·cases hr
 ·cases hr
theorem pz {P:Program} {m m':Mem} {w:World} {N:Nat→Prop} {i:Pl} (hs:Sim m w N i) {t:TypeId} {x k y:AV} {v u z:Value} (hr:entryStA m x k y=some m') (hx:Rep w N i x v) (hk:Rep w N i k u) (hy:Rep w N i y z) :
  ∃w',(Instr.entryStore t v u z).run P w=.ok () w'∧Sim m' w' N i∧Ext m w N i m' w' N i:=by
 unfold entryStA at hr
 split at hr
 ·rename_i id kd j
  split at hr
  ·rename_i g ks vs ho
   cases hc:inR j vs.length with
   | false=>simp [hc] at hr
   | true =>
    simp only [hc,cond_true,Option.some.injEq] at hr
    subst hr
    rw [iH] at hc
    obtain⟨bl,o,c,es,h1,rfl,h2,h3,h4,h5⟩:=hs.gJ ho hx
    cases hk
    have hlen:vs.length=es.size:=by have:=h5.length;simp at this;omega
    have hfi:es.findIdx? (fun e=>(e.born:Int)==j)=some j.toNat:=by
     rw [Array.findIdx?_eq_some_iff_getElem]
     have hlt:j.toNat < es.size:=by omega
     refine⟨hlt,?_,?_⟩
     ·have:=h3 j.toNat _ (Array.getElem?_eq_getElem hlt)
      simp [this];omega
     ·intro q hq
      have:=h3 q _ (Array.getElem?_eq_getElem (by omega))
      simp [this];omega
    have:=hs.mE (g':=g+1) (ks':=ks) (vs':=vs.set j.toNat y) (es':=es.modify j.toNat fun e=>{ e with val:=z }) ho h1 (gT (fun _=>rfl) h3)
     (by rw [dz,eU (·.key) (fun e=>{ e with val:=z }) (fun _=>rfl)];exact h4) (by rw [dz,fp (·.val) _ _ _ z (fun _ _=>rfl)];exact h5.set _ hy)
    rw [gU] at this
    refine⟨_,?_,this.1,this.2⟩
    simp [Instr.entryStore,MapKept.run_getObj_map h2,asInt,asIntOf,hfi,MapKept.run_setObj_map _ h2]
  ·cases hr
 ·cases hr
theorem gf {es:Array MapEntry} (h:∀(k:Nat) e,es[k]?=some e→e.born=k):(es.toList.map (·.born)).Nodup:=by
 have:es.toList.map (·.born)=List.range es.size:=by
  apply List.ext_getElem?
  intro k
  rw [List.getElem?_map,Array.getElem?_toList]
  cases hk:es[k]? with
  | none =>
   rw [Array.getElem?_eq_none_iff] at hk
   rw [List.getElem?_eq_none (by simpa using hk)]
   rfl
  | some e =>
   have:=(Array.getElem?_eq_some_iff.1 hk).1
   rw [List.getElem?_range this,Option.map_some,h k e hk]
 rw [this];exact List.nodup_range
theorem xu {P:Program} {w:World} {N:Nat→Prop} {i:Pl} {s:St} {a:Act} (hs:Sim s.m w N i) (ha:bG w N i s a) {o:Oper} {pv:AV} (hr:readA P s o.op=some pv):∃v,(execOp a.eval o).run P w=.ok (.value v) w∧Rep w N i pv v:=by
 obtain⟨dst,op,type,pos,after,guard⟩:=o
 simp only at hr
 unfold readA at hr
 split at hr
 ·rename_i t x
  simp only [Option.bind_eq_some_iff] at hr
  obtain⟨g,hg,n,hn,hr⟩:=hr
  obtain⟨b,off,z,h0,h1,h2⟩:=ot (P:=P) hs hg hn hr (ha.ev x)
  exact⟨z,by simp [execOp,h0,Instr.loadAt,Instr.sureAddr,h1],h2⟩
 ·rename_i t x k ok
  obtain⟨z,h1,h2⟩:=qP (P:=P) hs hr (ha.ev x) (ha.ev k)
  exact⟨z,by simp [execOp,h1],h2⟩
 ·rename_i src dst x
  obtain⟨z,h1,h2⟩:=xz (P:=P) hs hr (ha.ev x)
  exact⟨z,by simp [execOp,h1],h2⟩
 ·rename_i x
  unfold curA at hr
  split at hr
  ·rename_i id he
   split at hr
   ·rename_i k v _ _ ho
    cases hr
    obtain⟨b,p,c,g1,g2,bm,es,seen,h1,h2,h3,h4,h5,h6,h7,h8⟩:=hs.live _ _ ho
    have hv:=ha.ev x
    rw [he] at hv
    obtain⟨b',p',c',k1,k2⟩:=hv
    rw [show AObj.top (.iter [k,v] _ _)=0 from rfl,k1] at g1
    cases g1
    rcases h7 with h7 | ⟨a1,c1,e,s0,q1,q2,q3,q4,q5⟩
    ·cases h7
    ·cases q1
     subst q2
     have hn:=gf h3
     exact⟨.tuple #[e.key,e.val],by simp only [execOp,k2];simp [run_entry_at w b bm es.size s0 es es.size e h4 h2 q3 hn],_,rfl,_,_,rfl,q4,_,_,rfl,q5,rfl⟩
   ·cases hr
  ·cases hr
 ·rename_i c
  unfold lenMap at hr
  split at hr
  ·rename_i hc
   split at hr
   ·rename_i x t hx1 hx2
    split at hr
    ·rename_i kt et hu
     simp only [mapLenA,Option.map_eq_some_iff] at hr
     obtain⟨n,hn,rfl⟩:=hr
     have e1:c.args=#[x]:=by rw [← Array.toList_inj];simpa using hx1
     have e2:c.argTypes=#[t]:=by rw [← Array.toList_inj];simpa using hx2
     have hv:=ha.ev x
     refine⟨.int .i64 n,?_,rfl⟩
     have key:(Builtin.len_ #[t] type #[a.eval x]).run P w=.ok (goInt n) w:=by
      unfold Builtin.len_
      unfold mapLen at hn
      split at hn
      ·rename_i he
       rw [he] at hv
       cases hn
       simp [run_underlying hu,show a.eval x=.map none from hv]
      ·rename_i ks vs he
       rw [he] at hv
       cases hn
       obtain⟨b,es,clock,h1,h2,⟨h3,_,_⟩,h4,h5⟩:=hv
       have hl:=h4.length
       simp [run_underlying hu,h2,MapKept.run_getObj_map h3] at hl ⊢
       rw [hl]
      ·rename_i id he
       rw [he] at hv
       split at hn
       ·rename_i g ks vs ho
        cases hn
        obtain⟨b,o,cc,es,k1,k0,k2,k3,k4,k5⟩:=hs.gJ ho hv
        have hl:=k4.length
        simp [run_underlying hu,k0,MapKept.run_getObj_map k2] at hl ⊢
        rw [hl]
       ·cases hn
      ·cases hn
     simp [execOp,resolve,hc,invoke,builtin,e1,e2,key,goInt]
    ·cases hr
   ·cases hr
  ·cases hr
 ·cases hr
theorem Sim.CF {m:Mem} {w:World} {N:Nat→Prop} {i:Pl} (s:Sim m w N i) {w':World} {b:Nat} (hs:w.heap.size≤w'.heap.size) (hk:∀k,k≠b→w'.heap[k]?=w.heap[k]?) (hb:¬N b)
  (ho:∀id o p c,m.h id=some o→i id o.top=some (b,p,c)→ObjRep w N i b p c o→ObjRep w' N i b p c o):Sim m w' N i:=by
 have l:Le w N i w' N i:=⟨fun _ h=>h,fun k h=>hk k (fun e=>hb (e ▸ h)),fun _ _ _ h=>h⟩
 refine⟨fun id o h=>?_,s.inj,s.top,fun k h=>Nat.lt_of_lt_of_le (s.nlt k h) hs,s.bnd⟩
 obtain⟨b',p,c,h1,h2,h3⟩:=s.live id o h
 by_cases e:b'=b
 ·subst e
  exact⟨b',p,c,h1,h2,ho id o p c h h1 h3⟩
 ·exact⟨b',p,c,h1,h2,h3.mono l (hk b' e)⟩
theorem tw {fr:Nat×Nat} {c:Nat} (h:FrOk fr c):FrOk (if fr.1==fr.2 then(c,c+1) else(min fr.1 c,max fr.2 (c+1))) c:=by
 obtain⟨lo,hi⟩:=fr
 obtain⟨h1,h2⟩:=h
 simp only at h1 h2 ⊢
 by_cases e:lo=hi
 ·subst e
  simp only [beq_self_eq_true,if_true]
  exact⟨fun k h3 h4=>by simp only at h4;omega,by simp only;omega⟩
 ·have hne:(lo==hi)=false:=by simpa using e
  simp only [hne,Bool.false_eq_true,if_false]
  have hlo:c≤lo:=by
   rcases Nat.lt_or_ge lo c with q | q
   ·exact absurd ⟨Nat.le_refl _,by omega⟩ (h1 lo q)
   ·exact q
  exact⟨fun k h3 h4=>by simp only at h4;omega,by simp only;omega⟩
theorem xA {P:Program} {m m':Mem} {w:World} {N:Nat→Prop} {i:Pl} (hs:Sim m w N i) {src dst:TypeId} {x pv:AV} {u:Value} (hr:markA P m src dst x=some (pv,m')) (hx:Rep w N i x u) :
  ∃v w',(convert src dst u).run P w=.ok v w'∧Sim m' w' N i∧Ext m w N i m' w' N i∧Rep w' N i pv v:=by
 unfold markA at hr
 split at hr
 ·rename_i e hu
  split at hr
  ·rename_i he
   split at hr
   ·rename_i id es off n top
    split at hr
    ·rename_i xs ho
     cases hc:(src==dst&&(xs.length==top&&Nat.blt 0 n)) with
     | false=>simp [hc] at hr
     | true =>
      simp only [hc,cond_true,Option.some.injEq,Prod.mk.injEq] at hr
      obtain⟨rfl,rfl⟩:=hr
      simp only [Bool.and_eq_true,beq_iff_eq] at hc
      obtain⟨rfl,ht,_⟩:=hc
      obtain⟨b,o,c,off',cap,g1,rfl,g2⟩:=hx
      obtain⟨hnN,arr,elem,fr,vs,k1,k2,k3,k4,k5,k6,k7⟩:=hs.cells ho ht g1
      have hlive:Live m i b:=⟨id,_,o,c,ho,by rw [show(AObj.cells xs).top=top from ht];exact g1⟩
      have hblt:=(hs.dy hlive).2
      have hfz:w.freeze ⟨b,arr.size,none⟩ 1={ w with heap:=w.heap.modify b fun
        | .cells c elem (lo,hi)=>.cells c elem (if lo==hi then(arr.size,arr.size+1) else(min lo arr.size,max hi (arr.size+1)))
        | o=>o }:=rfl
      have hsame:∀k,k≠b→(w.freeze ⟨b,arr.size,none⟩ 1).heap[k]?=w.heap[k]?:=by
       intro k hk
       rw [hfz]
       simp only [Array.getElem?_modify]
       rw [if_neg (fun h=>hk h.symm)]
      have hat:(w.freeze ⟨b,arr.size,none⟩ 1).heap[b]?=some (.cells arr elem (if fr.1==fr.2 then(arr.size,arr.size+1) else(min fr.1 arr.size,max fr.2 (arr.size+1)))):=by
       rw [hfz]
       simp [Array.getElem?_modify,k1]
      have hsize:(w.freeze ⟨b,arr.size,none⟩ 1).heap.size=w.heap.size:=by rw [hfz];simp
      have hsim:Sim m (w.freeze ⟨b,arr.size,none⟩ 1) N i:=by
       refine hs.CF (b:=b) (by rw [hsize];exact Nat.le_refl _) hsame hnN ?_
       intro id' o' p' c' q1 q2 q3
       have l:Le w N i (w.freeze ⟨b,arr.size,none⟩ 1) N i:=⟨fun _ h=>h,fun k h=>hsame k (fun e=>hnN (e ▸ h)),fun _ _ _ h=>h⟩
       have:id'=id:=hs.inj id' id o' (.cells xs) b p' c' o c q1 ho q2 (by rw [show(AObj.cells xs).top=top from ht];exact g1)
       subst this
       rw [ho] at q1
       cases q1
       obtain⟨arr2,elem2,fr2,vs2,j1,j2,j3,j4,j5,j6,j7⟩:=q3
       rw [k1] at j1
       cases j1
       refine⟨arr,elem,_,vs2,hat,j2,?_,j4,?_,j6,RepL.mono l _ j7⟩
       ·rw [← j2];rw [← j2] at j3;exact tw j3
       ·intro j v hj
        have:=j5 j v hj
        simp only [World.cell?,k1] at this
        simp only [World.cell?,hat]
        exact this
      refine⟨_,w.freeze ⟨b,arr.size,none⟩ 1,?_,hsim,?_,⟨b,o,c,off',cap,g1,rfl,g2⟩⟩
      ·have hsh:w.shape? b=some (elem,arr.size):=by simp [World.shape?,k1]
       simp [convert,run_underlying hu,run_underlying he,markStringish,hsh]
      ·exact⟨rfl,rfl,rfl,by rw [hsize];exact Nat.le_refl _,fun _ h=>h,fun _ _ _ h=>h,fun k _ hk=>hsame k (fun e=>hk (e ▸ hlive)),fun _ h=>.inl h,fun _ h=>.inl h,Nat.le_refl _,fun _ t x h=>.inl ⟨t,x,h⟩⟩
    ·cases hr
   ·cases hr
  ·cases hr
 ·cases hr
theorem zn {P:Program} {w:World} {N:Nat→Prop} {i:Pl} {s:St} {a:Act} (hs:Sim s.m w N i) (hf:∀t,i s.m.nx t=none) (ha:bG w N i s a) {o:Oper} {pv:AV} {m':Mem} (hr:memA P s o.op=some (pv,m')) :
  ∃n v w' i',(execOp a.eval o).run P w=.ok n w'∧(n=.value v∨(n=.skip∧v=undef))∧Sim m' w' N i'∧Ext s.m w N i m' w' N i'∧Rep w' N i' pv v:=by
 obtain⟨dst,op,type,pos,after,guard⟩:=o
 simp only at hr
 unfold memA at hr
 split at hr
 ·rename_i t
  simp only [Option.bind_eq_some_iff] at hr
  obtain⟨z,hz,hr⟩:=hr
  obtain⟨zv,hzrun,hzc,_⟩:=jG hz
  obtain⟨i',h1,h2,h3⟩:=mF (e:=t) hs hf hr (eN (w:=w) (N:=N) (i:=i) hzc)
  exact⟨_,_,_,i',by simp [execOp,Instr.alloc,hzrun,newVar,newRow],.inl rfl,h1,h2,h3⟩
 ·rename_i e x
  have hone:oneL (s.ev x).cells=true:=by
   unfold newPtr at hr
   cases h:oneL (s.ev x).cells with
   | true=>rfl
   | false=>simp [h] at hr
  obtain⟨h0,_⟩:=Rep.cells hone (ha.ev x)
  obtain⟨i',h1,h2,h3⟩:=mF (e:=e) hs hf hr h0
  exact⟨_,_,_,i',by simp [execOp,Instr.box,newVar,newRow],.inl rfl,h1,h2,h3⟩
 ·rename_i t n parts
  simp only [Option.bind_eq_some_iff] at hr
  obtain⟨⟨es,cs⟩,hb,hr⟩:=hr
  simp only [Option.some.injEq,Prod.mk.injEq] at hr
  obtain⟨rfl,rfl⟩:=hr
  obtain⟨p1,p2⟩:=kA ha parts
  obtain⟨us,e,h1,h2,h3,h4⟩:=lj (P:=P) hb p1 p2
  obtain⟨i',k1,k2,k3⟩:=hs.zt hf (elem:=e) h2 h3
  have hlen:=h2.length
  simp only [Array.length_toList] at hlen h4
  have hcl:cs.length=n*es:=by omega
  exact⟨_,_,_,i',by simp [execOp,h1],.inl rfl,k1,k2,w.heap.size,0,_,0,n,k3,rfl,fun _=>rfl,Nat.le_refl _,by simp only [hcl];omega⟩
 ·rename_i t x y
  simp only [Option.bind_eq_some_iff,Option.map_eq_some_iff] at hr
  obtain⟨g,hg,n,hn,m1,hr,h⟩:=hr
  cases h
  obtain⟨b,off,w',i',h0,_,h1,h2,h3⟩:=tz (P:=P) hs hn hr (ha.ev x) (ha.ev y)
  exact⟨.skip,undef,w',i',by simp [execOp,h0,Instr.storeAt,Instr.sureAddr,h1],.inr ⟨rfl,rfl⟩,h2,h3,#[],rfl,rfl⟩
 ·rename_i t l c
  split at hr
  ·rename_i e hu
   simp only [Option.bind_eq_some_iff] at hr
   obtain⟨n,hn,b,hb,z,hz,hr⟩:=hr
   obtain⟨q,w',i',h1,h2,h3,h4⟩:=xB (P:=P) hs hf hu hn hb hz hr (ha.ev l) (ha.ev c)
   exact⟨_,q,w',i',by simp [execOp,h1],.inl rfl,h2,h3,h4⟩
  ·cases hr
 ·rename_i t
  simp only [Option.some.injEq,Prod.mk.injEq] at hr
  obtain⟨rfl,rfl⟩:=hr
  have hNn:¬N w.heap.size:=fun h=>by have:=hs.nlt _ h;omega
  have hnl:¬Live s.m i w.heap.size:=fun h=>by have:=(hs.dy h).2;omega
  have hi:∀id t x,i id t=some x→updPl i s.m.nx 0 (w.heap.size,0,0) id t=some x:=fun id t x h=>by
   rw [bB _ _ (fun hh=>by rw [hh.1,hf] at h;cases h)];exact h
  have hsim:=hs.new hf (w':=w.alloc (.map #[] 0)) (o:=.map 0 [] []) (b:=w.heap.size) (p:=0) (c:=0) (by simp) (fun k hk=>bT w _ k (by
   rcases hk with h | h
   ·exact hs.nlt k h
   ·exact(hs.dy h).2)) hNn hnl ⟨#[],dW w _,fun k e h=>by simp at h,rfl,rfl,Nat.le_refl _⟩
  refine⟨_,.map (some w.heap.size),w.alloc (.map #[] 0),_,by simp [execOp,Instr.makeMap],.inl rfl,hsim,⟨rfl,rfl,rfl,by simp,fun _ h=>h,hi,fun k hk _=>bT w _ k hk,fun k hk=>?_,fun _ h=>.inl h,Nat.le_succ _,kz⟩,w.heap.size,0,0,bE ..,rfl⟩
  rcases gg hk with h | h
  ·exact .inl h
  ·exact .inr (by omega)
 ·rename_i t x k y
  simp only [Option.map_eq_some_iff] at hr
  obtain⟨m1,hr,h⟩:=hr
  cases h
  obtain⟨w',h1,h2,h3⟩:=qO (P:=P) hs hr (ha.ev x) (ha.ev k) (ha.ev y)
  exact⟨.skip,undef,w',i,by simp [execOp,h1],.inr ⟨rfl,rfl⟩,h2,h3,#[],rfl,rfl⟩
 ·rename_i t x k y
  simp only [Option.map_eq_some_iff] at hr
  obtain⟨m1,hr,h⟩:=hr
  cases h
  obtain⟨w',h1,h2,h3⟩:=qO (P:=P) hs hr (ha.ev x) (ha.ev k) (ha.ev y)
  exact⟨.skip,undef,w',i,by simp [execOp,h1],.inr ⟨rfl,rfl⟩,h2,h3,#[],rfl,rfl⟩
 ·rename_i t x k
  obtain⟨q,w',h1,h2,h3,h4⟩:=tu (P:=P) hs hr (ha.ev x) (ha.ev k)
  exact⟨_,q,w',i,by simp [execOp,h1],.inl rfl,h2,h3,h4⟩
 ·rename_i src dst x
  obtain⟨v,w',h1,h2,h3,h4⟩:=xA (P:=P) hs hr (ha.ev x)
  exact⟨_,v,w',i,by simp [execOp,h1],.inl rfl,h2,h3,h4⟩
 ·rename_i t x st y
  simp only [Option.map_eq_some_iff] at hr
  obtain⟨m1,hr,h⟩:=hr
  cases h
  obtain⟨w',h1,h2,h3⟩:=pz (P:=P) (t:=t) hs hr (ha.ev x) (ha.ev st) (ha.ev y)
  exact⟨.skip,undef,w',i,by simp [execOp,h1],.inr ⟨rfl,rfl⟩,h2,h3,#[],rfl,rfl⟩
 ·rename_i c
  obtain⟨callee,args,argTypes⟩:=c
  unfold memCall at hr
  simp only at hr
  split at hr
  ·split at hr
   ·rename_i x y t u hx' ht'
    obtain rfl:args=#[x,y]:=by cases args;simpa using hx'
    obtain rfl:argTypes=#[t,u]:=by cases argTypes;simpa using ht'
    split at hr
    ·rename_i e hu
     simp only [Option.bind_eq_some_iff] at hr
     obtain⟨n,hn,b,hb,z,hz,hr⟩:=hr
     cases hzl:z.cells.length==n with
     | false=>simp [hzl] at hr
     | true =>
      simp only [hzl,cond_true] at hr
      have hk:((∃e',P.underlying u=some (.slice e'))∨P.underlying u=some .string)∧appendA n b s.m (s.ev x) (s.ev y)=some (pv,m'):=by
       split at hr
       ·exact⟨.inl ⟨_,by assumption⟩,hr⟩
       ·exact⟨.inr (by assumption),hr⟩
       ·cases hr
      obtain⟨q,w',i',h1,h2,h3,h4⟩:=lg (P:=P) (ty:=type) hs hf hu hk.1 hn hb hz (by simpa using hzl) hk.2 (ha.ev x) (ha.ev y)
      exact⟨_,q,w',i',by simp [execOp,resolve,invoke,builtin,h1],.inl rfl,h2,h3,h4⟩
    ·cases hr
   ·cases hr
  ·split at hr
   ·rename_i x y t u hx' ht'
    obtain rfl:args=#[x,y]:=by cases args;simpa using hx'
    obtain rfl:argTypes=#[t,u]:=by cases argTypes;simpa using ht'
    split at hr
    ·rename_i e e2 hu hu2
     simp only [Option.bind_eq_some_iff] at hr
     obtain⟨n,hn,hr⟩:=hr
     obtain⟨q,w',i',h1,h2,h3,h4⟩:=xC (P:=P) (ty:=type) (tx:=u) hs hu hn hr (ha.ev x) (ha.ev y)
     exact⟨_,q,w',i',by simp [execOp,resolve,invoke,builtin,h1],.inl rfl,h2,h3,h4⟩
    ·cases hr
   ·cases hr
  ·cases hr
 ·cases hr
end Go.AM

/-
  THE ABSTRACT MACHINE: objects become values; functions that are evaluated apart. Conditions: none.
-/
namespace Go.AM
theorem Sim.below {m:Mem} {w:World} {N:Nat→Prop} {i:Pl} (s:Sim m w N i) {w':World} {N':Nat→Prop} (hs:w.heap.size≤w'.heap.size) (hk:∀b,b < w.heap.size→w'.heap[b]?=w.heap[b]?)
  (h1:∀b,N b→N' b) (h2:∀b,N' b→N b∨w.heap.size≤b) (h3:∀b,N' b→b < w'.heap.size) (ho:w'.os=w.os) (ht:w'.tape=w.tape) (hu:w'.output=w.output) :
  Sim m w' N' i∧Ext m w N i m w' N' i:=by
 have l:Le w N i w' N' i:=⟨h1,fun b hb=>hk b (s.nlt b hb),fun _ _ _ h=>h⟩
 refine⟨⟨fun id o h=>?_,s.inj,s.top,h3,s.bnd⟩,⟨ho,ht,hu,hs,h1,fun _ _ _ h=>h,fun b hb _=>hk b hb,fun _ h=>.inl h,fun b hb=>(h2 b hb).imp_right .inr,Nat.le_refl _,fun _ t x h=>.inl ⟨t,x,h⟩⟩⟩
 obtain⟨b,p,c,g1,g2,g3⟩:=s.live id o h
 have hlt:=g3.lt
 exact⟨b,p,c,g1,fun hb=>(h2 b hb).elim g2 (fun h=>by omega),g3.mono l (hk b hlt)⟩
theorem eL {m m':Mem} {w:World} {N:Nat→Prop} {i:Pl} (s:Sim m w N i) {v r:AV} {u:Value} (hr:frzV v m=some (r,m')) (hv:Rep w N i v u) :
  ∃N',Sim m' w N' i∧Ext m w N i m' w N' i∧Rep w N' i r u∧m'.nx=m.nx:=by
 unfold frzV at hr
 split at hr
 ·rename_i id off top
  split at hr
  ·rename_i xs ho
   cases hc:xs.length==top with
   | false=>simp [hc] at hr
   | true =>
    simp only [hc,cond_true,Option.some.injEq,Prod.mk.injEq] at hr
    obtain⟨rfl,rfl⟩:=hr
    simp at hc
    obtain⟨b,o,c,h1,rfl⟩:=hv
    obtain⟨g0,arr,elem,fr,vs,g1,g2,g3,g4,g5,g6,g7⟩:=s.cells ho hc h1
    obtain⟨k1,k2,k3⟩:=s.freeze ho (by rw [show AObj.top (.cells xs)=top from hc];exact h1)
    refine⟨_,k1,k2,?_,rfl⟩
    cases hcl:closedL xs with
    | true=>exact⟨b,o+off,vs.drop off,.inr rfl,rfl,g5.drop off,g6.drop off,(RepL.closed _ hcl (RepL.mono k3 _ g7)).drop off⟩
    | false=>exact⟨b,o+off,vs.drop off,.inr rfl,rfl,g5.drop off,g6.drop off,(RepL.mono k3 _ g7).drop off⟩
  ·cases hr
 ·rename_i id es off n top
  split at hr
  ·rename_i xs ho
   cases hc:(xs.length==top&&(closedL xs&&Nat.ble (off+n*es) top)) with
   | false=>simp [hc] at hr
   | true =>
    simp only [hc,cond_true,Option.some.injEq,Prod.mk.injEq] at hr
    obtain⟨rfl,rfl⟩:=hr
    simp only [Bool.and_eq_true,beq_iff_eq,Nat.ble_eq] at hc
    obtain⟨c1,c2,c3⟩:=hc
    obtain⟨b,o,c,off',cap,h1,rfl,q1,q2,q3⟩:=hv
    obtain⟨g0,arr,elem,fr,vs,g1,g2,g3,g4,g5,g6,g7⟩:=s.cells ho c1 h1
    obtain⟨k1,k2,k3⟩:=s.freeze ho (by rw [show AObj.top (.cells xs)=top from c1];exact h1)
    refine⟨_,k1,k2,⟨⟨b,off',none⟩,cap,(vs.drop off).take (n*es),rfl,q2,(fun h=>by cases h),.inr ⟨b,off',rfl,.inr rfl,?_⟩,(g6.drop off).take _,((RepL.closed _ c2 (RepL.mono k3 _ g7)).drop off).take _⟩,rfl⟩
    by_cases hcap:cap=0
    ·have:n=0:=by omega
     subst this
     intro j x hj
     simp at hj
    ·rw [q1 hcap];exact(g5.drop off).take _
  ·cases hr
 ·simp only [Option.some.injEq,Prod.mk.injEq] at hr
  obtain⟨rfl,rfl⟩:=hr
  exact⟨N,s,Ext.refl _ _ _ _,hv,rfl⟩
theorem lh {w:World} {i:Pl}:∀ {as:List AV} {m m':Mem} {N:Nat→Prop} {bs:List AV} {us:List Value},Sim m w N i→frzArgs as m=some (bs,m')→RepL w N i as us →
  ∃N',Sim m' w N' i∧Ext m w N i m' w N' i∧RepL w N' i bs us∧m'.nx=m.nx
 | [],m,m',N,bs,us,s,hr,hv=>by
  simp only [frzArgs,Option.some.injEq,Prod.mk.injEq] at hr
  obtain⟨rfl,rfl⟩:=hr
  exact⟨N,s,Ext.refl _ _ _ _,hv,rfl⟩
 | a::as,m,m',N,bs,us,s,hr,⟨v,r,h1,h2,h3⟩=>by
  simp only [frzArgs,Option.bind_eq_some_iff] at hr
  obtain⟨⟨b,m1⟩,hb,⟨cs,m2⟩,hc,hr⟩:=hr
  cases hr
  subst h1
  obtain⟨N1,s1,e1,r1,n1⟩:=eL s hb h2
  obtain⟨N2,s2,e2,r2,n2⟩:=lh s1 hc (RepL.mono (e1.le s) _ h3)
  exact⟨N2,s2,e1.trans e2,⟨v,r,rfl,Rep.mono (e2.le s1) _ r1,r2⟩,n2.trans n1⟩
theorem Sim.tq {m:Mem} {w:World} {N:Nat→Prop} {i:Pl} (s:Sim m w N i) {id:Nat} {xs ys:List AV} (ho:m.h id=some (.cells xs)) (hl:ys.length=xs.length) (hr:∀b p c vs,i id xs.length=some (b,p,c)→CellsAt w b p vs→RepL w N i xs vs→RepL w N i ys vs) :
  Sim (m.set id (some (.cells ys))) w N i∧Ext m w N i (m.set id (some (.cells ys))) w N i:=by
 have key:∀id1 o1,(m.set id (some (.cells ys))).h id1=some o1→∃o2,m.h id1=some o2∧o2.top=o1.top∧(∀b p c,i id1 o2.top=some (b,p,c)→ObjRep w N i b p c o2→ObjRep w N i b p c o1):=by
  intro id1 o1 h
  by_cases e:id1=id
  ·subst e
   simp [Mem.set,bO] at h
   subst h
   refine⟨_,ho,hl.symm,?_⟩
   rintro b p c hp ⟨arr,elem,fr,vs,g1,g2,g3,g4,g5,g6,g7⟩
   exact⟨arr,elem,fr,vs,g1,g2,g3,by rw [hl];exact g4,g5,g6,hr b p c vs hp g5 g7⟩
  ·simp only [Mem.set,cD _ _ e] at h
   exact⟨o1,h,rfl,fun _ _ _ _ h=>h⟩
 refine⟨⟨fun id1 o1 h=>?_,fun id1 id2 o1 o2 b p c p' c' h1 h2 h3 h4=>?_,fun id1 o1 t x h h2=>?_,s.nlt,s.bnd⟩,⟨rfl,rfl,rfl,Nat.le_refl _,fun _ h=>h,fun _ _ _ h=>h,fun _ _ _=>rfl,?_,fun _ h=>.inl h,Nat.le_refl _,fun _ t x h=>.inl ⟨t,x,h⟩⟩⟩
 ·obtain⟨o2,h1,h2,h3⟩:=key _ _ h
  obtain⟨b,p,c,g1,g2,g3⟩:=s.live _ _ h1
  exact⟨b,p,c,by rw [← h2];exact g1,g2,h3 _ _ _ g1 g3⟩
 ·obtain⟨o3,a1,a2,_⟩:=key _ _ h1
  obtain⟨o4,b1,b2,_⟩:=key _ _ h2
  exact s.inj _ _ _ _ b p c p' c' a1 b1 (by rw [a2];exact h3) (by rw [b2];exact h4)
 ·obtain⟨o2,h1,h3,_⟩:=key _ _ h
  rw [← h3];exact s.top _ _ _ _ h1 h2
 ·rintro b ⟨id1,o1,p,c,h1,h2⟩
  obtain⟨o2,h3,h4,_⟩:=key _ _ h1
  exact .inl ⟨id1,o2,p,c,h3,by rw [h4];exact h2⟩
theorem qM {m m':Mem} {w:World} {N:Nat→Prop} {i:Pl} (s:Sim m w N i) {v r:AV} {u:Value} (hr:frzM v m=some (r,m')) (hv:Rep w N i v u) :
  ∃N',Sim m' w N' i∧Ext m w N i m' w N' i∧Rep w N' i r u∧m'.nx=m.nx:=by
 unfold frzM at hr
 split at hr
 ·rename_i id
  split at hr
  ·rename_i g ks vs ho
   cases hc:(closedL ks&&closedL vs) with
   | false=>simp [hc] at hr
   | true =>
    simp only [hc,cond_true,Option.some.injEq,Prod.mk.injEq] at hr
    obtain⟨rfl,rfl⟩:=hr
    simp only [Bool.and_eq_true] at hc
    obtain⟨b,o,c,es,h1,h2,h3,h4,h5,h6⟩:=s.gJ ho hv
    obtain⟨k1,k2,k3⟩:=s.freeze ho (by rw [show AObj.top (.map g ks vs)=0 from rfl];exact h1)
    exact⟨_,k1,k2,⟨b,es,es.size,.inr rfl,h2,⟨h3,rfl,h4⟩,RepL.closed _ hc.1 (RepL.mono k3 _ h5),RepL.closed _ hc.2 (RepL.mono k3 _ h6)⟩,rfl⟩
  ·cases hr
 ·cases hr
theorem mB {f:AV→Mem→Option (AV×Mem)} {w:World} {i:Pl} (hf:∀ {v:AV} {m m':Mem} {N:Nat→Prop} {r:AV} {u:Value},Sim m w N i→f v m=some (r,m')→Rep w N i v u→∃N',Sim m' w N' i∧Ext m w N i m' w N' i∧Rep w N' i r u∧m'.nx=m.nx)
  {id top b o c:Nat} (h1:i id top=some (b,o,c)):∀(n j:Nat) {m m':Mem} {N:Nat→Prop},Sim m w N i→frzC f id top n j m=some m'→∃N',Sim m' w N' i∧Ext m w N i m' w N' i∧m'.nx=m.nx
 | 0,j,m,m',N,hs,hr=>by
  simp only [frzC,Option.some.injEq] at hr
  subst hr
  exact⟨N,hs,Ext.refl _ _ _ _,rfl⟩
 | n+1,j,m,m',N,hs,hr=>by
  rw [frzC] at hr
  split at hr
  ·rename_i xs ho
   cases hc:xs.length==top with
   | false=>simp [hc] at hr
   | true =>
    simp only [hc,cond_true,Option.bind_eq_some_iff] at hr
    obtain⟨v,hv,⟨r,m1⟩,hfr,hr⟩:=hr
    simp at hc
    obtain⟨g0,arr,elem,fr,vs,g1,g2,g3,g4,g5,g6,g7⟩:=hs.cells ho hc h1
    obtain⟨u,hu,hru⟩:=g7.get hv
    obtain⟨N1,s1,e1,r1,n1⟩:=hf hs hfr hru
    simp only at hr
    split at hr
    ·rename_i ys hy
     cases hd:(ys.length==top&&r.one) with
     | false=>simp [hd] at hr
     | true =>
      simp only [hd,cond_true] at hr
      simp only [Bool.and_eq_true,beq_iff_eq] at hd
      have hj:j < xs.length:=(List.getElem?_eq_some_iff.1 hv).1
      have hsame:∀vs2,RepL w N1 i ys vs2→CellsAt w b o vs2→RepL w N1 i (ys.set j r) vs2:=by
       intro vs2 hl2 hc2
       have hlen:=hl2.length
       have hlt:j < vs2.length:=by omega
       have e2:vs2[j]?=some u:=by
        have h9:=hc2 _ _ (List.getElem?_eq_getElem hlt)
        rw [g5 _ _ hu] at h9
        rw [List.getElem?_eq_getElem hlt]
        exact h9.symm
       have:=RepL.set j hl2 r1
       rwa [show vs2.set j u=vs2 from by
        apply List.ext_getElem?
        intro q
        rw [List.getElem?_set]
        by_cases e:j=q
        ·subst e;rw [if_pos rfl,if_pos hlt,e2]
        ·rw [if_neg e]] at this
      obtain⟨z1,z2⟩:=s1.tq (ys:=ys.set j r) hy (by simp) (fun b2 p2 c2 vs2 hp hc2 hl2=>by
       rw [hd.1,h1] at hp
       cases hp
       exact hsame vs2 hl2 hc2)
      obtain⟨N2,s2,e2,n2⟩:=mB hf h1 n (j+1) z1 hr
      exact⟨N2,s2,(e1.trans z2).trans e2,n2.trans n1⟩
    ·cases hr
  ·cases hr
theorem mC {w:World} {i:Pl}:∀(d:Nat) {v:AV} {m m':Mem} {N:Nat→Prop} {r:AV} {u:Value},Sim m w N i→frzD d v m=some (r,m')→Rep w N i v u→∃N',Sim m' w N' i∧Ext m w N i m' w N' i∧Rep w N' i r u∧m'.nx=m.nx
 | 0,v,m,m',N,r,u,hs,hr,hv=>eL hs hr hv
 | d+1,v,m,m',N,r,u,hs,hr,hv=>by
  rw [frzD.eq_def] at hr
  simp only at hr
  split at hr
  ·simp only [Option.bind_eq_some_iff] at hr
   obtain⟨m1,h1,h2⟩:=hr
   have hv':=hv
   obtain⟨b,o,c,hi,_⟩:=hv'
   obtain⟨N1,s1,e1,n1⟩:=mB (mC d) hi _ _ hs h1
   obtain⟨N2,s2,e2,r2,n2⟩:=eL s1 h2 (Rep.mono (e1.le hs) _ hv)
   exact⟨N2,s2,e1.trans e2,r2,n2.trans n1⟩
  ·simp only [Option.bind_eq_some_iff] at hr
   obtain⟨m1,h1,h2⟩:=hr
   have hv':=hv
   obtain⟨b,o,c,off',cap,hi,_⟩:=hv'
   obtain⟨N1,s1,e1,n1⟩:=mB (mC d) hi _ _ hs h1
   obtain⟨N2,s2,e2,r2,n2⟩:=eL s1 h2 (Rep.mono (e1.le hs) _ hv)
   exact⟨N2,s2,e1.trans e2,r2,n2.trans n1⟩
  ·simp only [Option.some.injEq,Prod.mk.injEq] at hr
   obtain⟨rfl,rfl⟩:=hr
   exact⟨N,hs,Ext.refl _ _ _ _,hv,rfl⟩
theorem ow {m m':Mem} {w:World} {N:Nat→Prop} {i:Pl} (hs:Sim m w N i) {v:AV} {u:Value} {cell:Option Nat} (hr:frzMC v cell m=some m') (hv:Rep w N i v u) :
  ∃N',Sim m' w N' i∧Ext m w N i m' w N' i∧m'.nx=m.nx:=by
 unfold frzMC at hr
 split at hr
 ·rename_i id off top
  split at hr
  ·rename_i xs ho
   cases hc:xs.length==top with
   | false=>simp [hc] at hr
   | true =>
    simp only [hc,cond_true] at hr
    generalize cellJ cell off top=j at hr
    simp only [frzMJ,Option.bind_eq_some_iff] at hr
    obtain⟨x,hx,hr⟩:=hr
    split at hr
    ·rename_i k
     cases hki:k==id with
     | true=>simp [hki] at hr
     | false =>
      simp only [hki,cond_false,Option.bind_eq_some_iff] at hr
      obtain⟨⟨r,m1⟩,h1,h2⟩:=hr
      cases h3:r.one with
      | false=>simp [h3] at h2
      | true =>
       simp only [h3,cond_true,Option.some.injEq] at h2
       subst h2
       simp at hc hki
       obtain⟨b,o,c,q1,_⟩:=hv
       obtain⟨g0,arr,elem,fr,vs,g1,g2,g3,g4,g5,g6,g7⟩:=hs.cells ho hc q1
       obtain⟨z,hz,hrz⟩:=g7.get hx
       obtain⟨N',s1,e1,r1,n1⟩:=qM hs h1 hrz
       have hid:m1.h id=some (.cells xs):=by
        simp only [frzM] at h1
        split at h1
        ·rename_i g ks vs' hk
         cases hcl:(closedL ks&&closedL vs') with
         | false=>simp [hcl] at h1
         | true =>
          simp only [hcl,cond_true,Option.some.injEq,Prod.mk.injEq] at h1
          rw [← h1.2]
          show upd m.h k none id=_
          rw [cD _ _ (fun e=>hki e.symm)]
          exact ho
        ·cases h1
       obtain⟨z1,z2⟩:=s1.tq (ys:=xs.set j r) hid (by simp) (fun b2 p2 c2 vs2 hp hc2 hl2=>by
        rw [hc,q1] at hp
        cases hp
        have hlen:=hl2.length
        have hjl:=(List.getElem?_eq_some_iff.1 hx).1
        have hlt:j < vs2.length:=by omega
        have e2:vs2[j]?=some z:=by
         have h9:=hc2 _ _ (List.getElem?_eq_getElem hlt)
         rw [g5 _ _ hz] at h9
         rw [List.getElem?_eq_getElem hlt]
         exact h9.symm
        have:=RepL.set j hl2 r1
        rwa [show vs2.set j z=vs2 from by
         apply List.ext_getElem?
         intro q
         rw [List.getElem?_set]
         by_cases e:j=q
         ·subst e;rw [if_pos rfl,if_pos hlt,e2]
         ·rw [if_neg e]] at this)
       exact⟨N',z1,e1.trans z2,n1⟩
    ·cases hr
     exact⟨N,hs,Ext.refl _ _ _ _,rfl⟩
  ·cases hr
 ·cases hr
theorem zo {s s':St} {w:World} {N:Nat→Prop} {i:Pl} {a:Act} (hs:Sim s.m w N i) (ha:bG w N i s a) {k:Nat} (hr:frz1 s k=some s') :
  ∃N',Sim s'.m w N' i∧Ext s.m w N i s'.m w N' i∧bG w N' i s' a∧s'.m.nx=s.m.nx:=by
 unfold frz1 at hr
 cases hk:Nat.blt k 1000 with
 | true =>
  simp only [hk,cond_true,Option.bind_eq_some_iff] at hr
  obtain⟨⟨r,m'⟩,h1,h2⟩:=hr
  obtain⟨N',s1,e1,r1,n1⟩:=eL hs h1 (ha.slot k)
  obtain⟨hm,hnt⟩:=St.jC h2
  have hm':s'.m=m':=hm
  refine⟨N',by rw [hm'];exact s1,by rw [hm'];exact e1,⟨fun j=>?_,?_,ha.dfr,ha.fP.mono (e1.le hs)⟩,by rw [hm'];exact n1⟩
  ·simp only [St.put] at h2
   cases hlt:Nat.blt k (s.mem m').nt with
   | false=>simp [hlt] at h2
   | true =>
    simp [hlt] at h2
    subst h2
    show Rep w N' i (AM.get ((k,r)::s.t) j) _
    rw [eJ]
    split
    ·rename_i e;subst e;exact r1
    ·exact Rep.mono (e1.le hs) _ (ha.slot j)
  ·rw [hnt];exact ha.size
 | false =>
  simp only [hk,cond_false] at hr
  cases hkt:Nat.ble 1000000 k with
  | true =>
   simp only [hkt,cond_true] at hr
   cases hap:tst s k with
   | false=>rw [hap] at hr;cases hr
   | true =>
    rw [hap] at hr
    simp only [cond_true,Option.some.injEq] at hr
    subst hr
    exact⟨N,hs,Ext.refl _ _ _ _,ha,rfl⟩
  | false =>
  simp only [hkt,cond_false] at hr
  cases hk9:Nat.ble 900000 k with
  | true =>
   simp only [hk9,cond_true,Option.bind_eq_some_iff] at hr
   obtain⟨⟨r,m'⟩,h1,h2⟩:=hr
   obtain⟨N',s1,e1,r1,n1⟩:=mC 3 hs h1 (ha.slot (k % 1000))
   obtain⟨hm,hnt⟩:=St.jC h2
   have hm':s'.m=m':=hm
   refine⟨N',by rw [hm'];exact s1,by rw [hm'];exact e1,⟨fun j=>?_,?_,ha.dfr,ha.fP.mono (e1.le hs)⟩,by rw [hm'];exact n1⟩
   ·simp only [St.put] at h2
    cases hlt:Nat.blt (k % 1000) (s.mem m').nt with
    | false=>simp [hlt] at h2
    | true =>
     simp [hlt] at h2
     subst h2
     show Rep w N' i (AM.get ((k % 1000,r)::s.t) j) _
     rw [eJ]
     split
     ·rename_i e;subst e;exact r1
     ·exact Rep.mono (e1.le hs) _ (ha.slot j)
   ·rw [hnt];exact ha.size
  | false =>
  simp only [hk9,cond_false] at hr
  cases hk7:(Nat.blt k 800000&&Nat.ble 700000 k) with
  | true =>
   simp only [hk7,cond_true,Option.map_eq_some_iff] at hr
   obtain⟨m',h1,rfl⟩:=hr
   obtain⟨N',s1,e1,n1⟩:=ow hs h1 (ha.slot (k % 1000))
   exact⟨N',s1,e1,⟨fun j=>Rep.mono (e1.le hs) _ (ha.slot j),ha.size,ha.dfr,ha.fP.mono (e1.le hs)⟩,n1⟩
  | false =>
  simp only [hk7,cond_false] at hr
  cases hk6:(Nat.blt k 700000&&Nat.ble 600000 k) with
  | true =>
   simp only [hk6,cond_true,Option.map_eq_some_iff] at hr
   obtain⟨m',h1,rfl⟩:=hr
   obtain⟨N',s1,e1,n1⟩:=ow hs h1 (ha.slot (k % 1000))
   exact⟨N',s1,e1,⟨fun j=>Rep.mono (e1.le hs) _ (ha.slot j),ha.size,ha.dfr,ha.fP.mono (e1.le hs)⟩,n1⟩
  | false =>
  simp only [hk6,cond_false] at hr
  cases hk8:Nat.ble 800000 k with
  | true =>
   simp only [hk8,cond_true,Option.bind_eq_some_iff] at hr
   obtain⟨⟨r,m'⟩,h1,h2⟩:=hr
   obtain⟨N',s1,e1,r1,n1⟩:=qM hs h1 (ha.slot (k % 1000))
   obtain⟨hm,hnt⟩:=St.jC h2
   have hm':s'.m=m':=hm
   refine⟨N',by rw [hm'];exact s1,by rw [hm'];exact e1,⟨fun j=>?_,?_,ha.dfr,ha.fP.mono (e1.le hs)⟩,by rw [hm'];exact n1⟩
   ·simp only [St.put] at h2
    cases hlt:Nat.blt (k % 1000) (s.mem m').nt with
    | false=>simp [hlt] at h2
    | true =>
     simp [hlt] at h2
     subst h2
     show Rep w N' i (AM.get ((k % 1000,r)::s.t) j) _
     rw [eJ]
     split
     ·rename_i e;subst e;exact r1
     ·exact Rep.mono (e1.le hs) _ (ha.slot j)
   ·rw [hnt];exact ha.size
  | false =>
  simp only [hk8,cond_false] at hr
  split at hr
  ·rename_i id off top hg
   split at hr
   ·rename_i xs ho
    cases hc:xs.length==top with
    | false=>simp [hc] at hr
    | true =>
     simp only [hc,cond_true,Option.bind_eq_some_iff] at hr
     obtain⟨v,hv,⟨r,m'⟩,hf,hr⟩:=hr
     simp at hc
     have hsl:=ha.slot (k % 1000)
     rw [hg] at hsl
     obtain⟨b,o,c,h1,_⟩:=hsl
     obtain⟨g0,arr,elem,fr,vs,g1,g2,g3,g4,g5,g6,g7⟩:=hs.cells ho hc h1
     obtain⟨u,hu,hru⟩:=g7.get hv
     obtain⟨N',s1,e1,r1,n1⟩:=eL hs hf hru
     simp only at hr
     split at hr
     ·rename_i ys hy
      cases hd:(ys.length==top&&(Nat.blt (off+(k / 1000 - 1)) top&&r.one)) with
      | false=>simp [hd] at hr
      | true =>
       simp only [hd,cond_true,Option.some.injEq] at hr
       simp only [Bool.and_eq_true,beq_iff_eq] at hd
       subst hr
       have hb:=s1.cells hy hd.1 h1
       obtain⟨_,arr',elem',fr',vs',k1,k2,k3,k4,k5,k6,k7⟩:=hb
       have hsame:∀vs2,RepL w N' i ys vs2→CellsAt w b o vs2→RepL w N' i (ys.set (off+(k / 1000 - 1)) r) vs2:=by
        intro vs2 hl2 hc2
        have hlen:=hl2.length
        have hlt:off+(k / 1000 - 1) < vs2.length:=by
         have:=hd.2.1
         simp only [Nat.blt_eq] at this
         omega
        have e2:vs2[off+(k / 1000 - 1)]?=some u:=by
         have h9:=hc2 _ _ (List.getElem?_eq_getElem hlt)
         rw [g5 _ _ hu] at h9
         rw [List.getElem?_eq_getElem hlt]
         exact h9.symm
        have:=RepL.set (off+(k / 1000 - 1)) hl2 r1
        rwa [show vs2.set (off+(k / 1000 - 1)) u=vs2 from by
         apply List.ext_getElem?
         intro q
         rw [List.getElem?_set]
         by_cases e:off+(k / 1000 - 1)=q
         ·subst e;rw [if_pos rfl,if_pos hlt,e2]
         ·rw [if_neg e]] at this
       obtain⟨z1,z2⟩:=s1.tq (ys:=ys.set (off+(k / 1000 - 1)) r) hy (by simp) (fun b2 p2 c2 vs2 hp hc2 hl2=>by
        rw [hd.1,h1] at hp
        cases hp
        exact hsame vs2 hl2 hc2)
       refine⟨N',z1,e1.trans z2,⟨fun j=>Rep.mono (e1.le hs) _ (ha.slot j),ha.size,ha.dfr,ha.fP.mono (e1.le hs)⟩,n1⟩
     ·cases hr
   ·cases hr
  ·cases hr
   exact⟨N,hs,Ext.refl _ _ _ _,ha,rfl⟩
theorem qK {w:World} {i:Pl} {a:Act}:∀ {l:List Nat} {s s':St} {N:Nat→Prop},Sim s.m w N i→bG w N i s a→frzL l s=some s' →
  ∃N',Sim s'.m w N' i∧Ext s.m w N i s'.m w N' i∧bG w N' i s' a∧s'.m.nx=s.m.nx
 | [],s,s',N,hs,ha,hr=>by
  simp only [frzL,Option.some.injEq] at hr
  subst hr
  exact⟨N,hs,Ext.refl _ _ _ _,ha,rfl⟩
 | k::l,s,s',N,hs,ha,hr=>by
  simp only [frzL,Option.bind_eq_some_iff] at hr
  obtain⟨s1,h1,h2⟩:=hr
  obtain⟨N1,a1,a2,a3,a4⟩:=zo hs ha h1
  obtain⟨N2,b1,b2,b3,b4⟩:=qK a1 a3 h2
  exact⟨N2,b1,a2.trans b2,b3,b4.trans a4⟩
theorem mD {w w':World} {N N':Nat→Prop} {i i':Pl} {f:AV→Option AV} (hf:∀a b u,f a=some b→Rep w N i a u→Rep w' N' i' b u):∀ {as bs:List AV} {us:List Value},mapO f as=some bs→RepL w N i as us→RepL w' N' i' bs us
 | [],bs,us,h,hl=>by simp [mapO] at h;subst h;exact hl
 | a::as,bs,us,h,⟨v,r,h1,h2,h3⟩=>by
  simp only [mapO,Option.bind_eq_some_iff] at h
  obtain⟨b,hb,cs,hc,h⟩:=h
  cases h
  exact⟨v,r,h1,hf _ _ _ hb h2,mD hf hc h3⟩
theorem gS {f:AV→Option AV} (hf:∀a b,f a=some b→b.closed=true):∀ {as bs:List AV},mapO f as=some bs→closedL bs=true
 | [],bs,h=>by simp [mapO] at h;subst h;rfl
 | a::as,bs,h=>by
  simp only [mapO,Option.bind_eq_some_iff] at h
  obtain⟨b,hb,cs,hc,h⟩:=h
  cases h
  simp [closedL,hf _ _ hb,gS hf hc]
theorem fG {h:Nat→Option AObj}:∀(d:Nat) {v r:AV},deep h d v=some r→r.closed=true
 | 0,v,r,hr=>by simp [deep] at hr
 | d+1,v,r,hr=>by
  have cl:(bif v.closed then some v else none)=some r→r.closed=true:=by
   intro hr
   cases hc:v.closed with
   | false=>simp [hc] at hr
   | true=>simp [hc] at hr;subst hr;exact hc
  cases v<;>simp only [deep] at hr<;>try exact cl hr
  ·split at hr
   ·rename_i xs ho
    rename_i off top _
    cases hc:(xs.length==top&&Nat.ble off top) with
    | false=>simp [hc] at hr
    | true =>
     simp only [hc,cond_true,Option.bind_eq_some_iff] at hr
     obtain⟨ys,h1,hr⟩:=hr
     cases hr;rfl
   ·cases hr
  ·simp only [Option.bind_eq_some_iff] at hr
   obtain⟨ys,h1,hr⟩:=hr
   cases hr;rfl
  ·split at hr
   ·rename_i es off n top _ xs ho
    cases hc:(xs.length==top&&Nat.ble (off+n*es) top) with
    | false=>simp [hc] at hr
    | true =>
     simp only [hc,cond_true,Option.bind_eq_some_iff] at hr
     obtain⟨ys,h1,hr⟩:=hr
     cases hr;rfl
   ·cases hr
  ·split at hr
   ·simp only [Option.bind_eq_some_iff] at hr
    obtain⟨ys,h1,zs,h2,hr⟩:=hr
    cases hr;rfl
   ·cases hr
  ·simp only [Option.bind_eq_some_iff] at hr
   obtain⟨ys,h1,hr⟩:=hr
   cases hr
   exact gS (fun a b=>fG d) h1
  ·simp only [Option.bind_eq_some_iff] at hr
   obtain⟨ys,h1,hr⟩:=hr
   cases hr
   exact gS (fun a b=>fG d) h1
def NL (m:Mem) (N:Nat→Prop) (i:Pl):Nat→Prop:=fun b=>N b∨Live m i b
theorem mA {m:Mem} {w:World} {N:Nat→Prop} {i:Pl} (s:Sim m w N i):∀(d:Nat) {v r:AV} {u:Value},deep m.h d v=some r→Rep w N i v u→Rep w (NL m N i) P0 r u
 | 0,v,r,u,hr,_=>by simp [deep] at hr
 | d+1,v,r,u,hr,hv=>by
  have l:Le w N i w (NL m N i) i:=⟨fun _ h=>.inl h,fun _ _=>rfl,fun _ _ _ h=>h⟩
  have cl:(bif v.closed then some v else none)=some r→Rep w (NL m N i) P0 r u:=by
   intro hr
   cases hc:v.closed with
   | false=>simp [hc] at hr
   | true=>simp [hc] at hr;subst hr;exact Rep.closed _ hc (Rep.mono l _ hv)
  have ih:∀ {as bs:List AV} {us:List Value},mapO (deep m.h d) as=some bs→RepL w N i as us→RepL w (NL m N i) P0 bs us:=fun h1 h2=>mD (fun a b u=>mA s d) h1 h2
  cases v<;>simp only [deep] at hr<;>try exact cl hr
  ·split at hr
   ·rename_i id off top _ xs ho
    cases hc:(xs.length==top&&Nat.ble off top) with
    | false=>simp [hc] at hr
    | true =>
     simp only [hc,cond_true,Option.bind_eq_some_iff] at hr
     obtain⟨ys,h1,hr⟩:=hr
     cases hr
     simp only [Bool.and_eq_true,beq_iff_eq] at hc
     obtain⟨b,o,c,k1,rfl⟩:=hv
     obtain⟨g0,arr,elem,fr,vs,g1,g2,g3,g4,g5,g6,g7⟩:=s.cells ho hc.1 k1
     exact⟨b,o+off,vs.drop off,.inr ⟨id,_,o,c,ho,by rw [show AObj.top (.cells xs)=top from hc.1];exact k1⟩,rfl,g5.drop off,g6.drop off,(ih h1 g7).drop off⟩
   ·cases hr
  ·simp only [Option.bind_eq_some_iff] at hr
   obtain⟨ys,h1,hr⟩:=hr
   cases hr
   obtain⟨b,off,vs,k1,rfl,k2,k3,k4⟩:=hv
   exact⟨b,off,vs,.inl k1,rfl,k2,k3,ih h1 k4⟩
  ·split at hr
   ·rename_i id es off n top _ xs ho
    cases hc:(xs.length==top&&Nat.ble (off+n*es) top) with
    | false=>simp [hc] at hr
    | true =>
     simp only [hc,cond_true,Option.bind_eq_some_iff] at hr
     obtain⟨ys,h1,hr⟩:=hr
     cases hr
     simp only [Bool.and_eq_true,beq_iff_eq,Nat.ble_eq] at hc
     obtain⟨b,o,c,off',cap,k1,rfl,q1,q2,q3⟩:=hv
     obtain⟨g0,arr,elem,fr,vs,g1,g2,g3,g4,g5,g6,g7⟩:=s.cells ho hc.1 k1
     refine⟨⟨b,off',none⟩,cap,(vs.drop off).take (n*es),rfl,q2,(fun h=>by cases h),.inr ⟨b,off',rfl,.inr ⟨id,_,o,c,ho,by rw [show AObj.top (.cells xs)=top from hc.1];exact k1⟩,?_⟩,(g6.drop off).take _,ih h1 ((g7.drop off).take _)⟩
     by_cases hcap:cap=0
     ·have:n=0:=by omega
      subst this
      intro j x hj
      simp at hj
     ·rw [q1 hcap];exact(g5.drop off).take _
   ·cases hr
  ·split at hr
   ·rename_i id _ g ks vs ho
    simp only [Option.bind_eq_some_iff] at hr
    obtain⟨ys,h1,zs,h2,hr⟩:=hr
    cases hr
    obtain⟨b,o,c,es,k1,rfl,k2,k3,k4,k5⟩:=s.gJ ho hv
    exact⟨b,es,es.size,.inr ⟨id,_,o,c,ho,k1⟩,rfl,⟨k2,rfl,k3⟩,ih h1 k4,ih h2 k5⟩
   ·cases hr
  ·simp only [Option.bind_eq_some_iff] at hr
   obtain⟨ys,h1,hr⟩:=hr
   cases hr
   obtain⟨vs,rfl,k⟩:=hv
   exact⟨vs,rfl,ih h1 k⟩
  ·simp only [Option.bind_eq_some_iff] at hr
   obtain⟨ys,h1,hr⟩:=hr
   cases hr
   obtain⟨vs,rfl,k⟩:=hv
   exact⟨vs,rfl,ih h1 k⟩
def Fresh (m:Mem) (i:Pl):Prop:=∀k,m.nx≤k→∀t,i k t=none
theorem Fresh.ext {m:Mem} {w:World} {N:Nat→Prop} {i:Pl} {m':Mem} {w':World} {N':Nat→Prop} {i':Pl} (e:Ext m w N i m' w' N' i') (h:Fresh m i):Fresh m' i':=by
 intro k hk t
 cases hx:i' k t with
 | none=>rfl
 | some x =>
  rcases e.pl k t x hx with ⟨t',y,h1⟩ | ⟨h1,h2⟩
  ·rw [h k (Nat.le_trans e.nx hk) t'] at h1;cases h1
  ·omega
def dd (P:Program) (pf:FuncId→Bool) (call:CallF):Prop :=
 ∀g args m r,call g args m=some r→(∃fn,P.funcs[g]?=some fn∧fn.body.isSome=true) ∧
  ∀w N i (us:List Value),Sim m w N i→Fresh m i→de w N→RepL w N i args us →
   Calls P g us.toArray w fun e w'=>∃v N' i',e=.returned v∧Sim r.2 w' N' i'∧Ext m w N i r.2 w' N' i'∧Rep w' N' i' r.1 v∧(pf g=true→r.1.closed=true)
theorem dV {w:World} {N:Nat→Prop} (h:∀b,N b→b < w.heap.size):Sim Mem.empty w N P0 :=
 ⟨fun _ _ h=>(by cases h),fun _ _ _ _ _ _ _ _ _ _ h=>(by cases h),fun _ _ _ _ h=>(by cases h),h,fun _ _ _ _ _ h=>(by cases h)⟩
theorem bL {i:Pl} {b:Nat}:¬Live Mem.empty i b:=by rintro⟨id,o,p,c,h,_⟩;cases h
theorem zq {w w':World} {N N':Nat→Prop} {i i':Pl} {a:AV} {v:Value} (hf:a.flat=true) (h:Rep w N i a v):Rep w' N' i' a v:=by
 have one:∀(a:AV) (v:Value),a.flat1=true→Rep w N i a v→Rep w' N' i' a v:=by
  intro a v hf h
  cases a<;>first | exact h | (simp [AV.flat1] at hf)
 have many:∀(as:List AV) (vs:List Value),flatL as=true→RepL w N i as vs→RepL w' N' i' as vs:=by
  intro as
  induction as with
  | nil=>exact fun vs _ h=>h
  | cons a as ih =>
   rintro vs hf ⟨v,r,h1,h2,h3⟩
   simp [flatL] at hf
   exact⟨v,r,h1,one a v hf.1 h2,ih r hf.2 h3⟩
 cases a
 case iface t a =>
  obtain⟨u,h1,h2⟩:=h
  refine⟨u,h1,?_⟩
  cases a<;>first
   | exact one _ _ hf h2
   | (obtain⟨vs,h1,h2⟩:=h2;exact⟨vs,h1,many _ _ hf h2⟩)
 all_goals first
  | exact one _ _ hf h
  | (obtain⟨vs,h1,h2⟩:=h;exact⟨vs,h1,many _ _ hf h2⟩)
theorem ox {P:Program} {pf:FuncId→Bool} {call:CallF} (hc:dd P pf call) {g:FuncId} (hg:pf g=true) {m:Mem} {w:World} {N:Nat→Prop} {i:Pl} (s:Sim m w N i) (hG:de w N) {as:List AV} {us:List Value} {r:Res}
  (hr:call g as Mem.empty=some r) (hcl:closedL as=true) (ha:RepL w N i as us) :
  Calls P g us.toArray w fun e w'=>∃v N',e=.returned v∧Sim m w' N' i∧Ext m w N i m w' N' i∧Rep w' N' i r.1 v:=by
 obtain⟨_,h2⟩:=hc g as Mem.empty r hr
 refine Calls.mono (h2 w N P0 us (dV s.nlt) (fun _ _ _=>rfl) hG (RepL.closed _ hcl ha)) ?_
 rintro e w' ⟨v,N',i',rfl,s',e',hv,hcl'⟩
 have hcl':=hcl' hg
 obtain⟨k1,k2⟩:=s.below (w':=w') (N':=N') e'.size (fun b hb=>e'.keep b hb bL) e'.hN (fun b hb=>(e'.iV b hb).imp id (fun h=>h.elim (fun h=>(bL h).elim) id)) s'.nlt e'.os e'.tape e'.output
 exact⟨v,N',rfl,k1,k2,Rep.closed _ hcl' hv⟩
theorem xw {P:Program} {pf:FuncId→Bool} {call:CallF} (hc:dd P pf call) {md:Nat} {m m':Mem} {w:World} {N:Nat→Prop} {i:Pl} (s:Sim m w N i) (hf:Fresh m i) (hG:de w N) {f r:AV} {args:List AV} {vf:Value} {us:List Value}
  (hr:callA pf call md m f args=some (r,m')) (hv:Rep w N i f vf) (ha:RepL w N i args us) :
  ∃g fs cs fn,vf=.func (.func g) fs cs∧P.funcs[g]?=some fn∧fn.body.isSome=true∧Calls P g (fs.toList++us++cs.toList).toArray w fun e w'=>∃v N' i',e=.returned v∧Sim m' w' N' i'∧Ext m w N i m' w' N' i'∧Rep w' N' i' r v:=by
 unfold callA at hr
 split at hr
 ·rename_i g first caps
  obtain⟨fs,cs,rfl,h1,h2⟩:=hv
  have hall:RepL w N i (first++args++caps) (fs.toList++us++cs.toList):=(h1.append ha).append h2
  cases hp:pf g with
  | false =>
   simp only [hp,cond_false] at hr
   cases hm7:md==7 with
   | true=>rw [hm7] at hr;cases hr
   | false =>
   simp only [hm7,cond_false] at hr
   obtain⟨⟨fn,k1,k2⟩,k3⟩:=hc g _ _ _ hr
   refine⟨g,fs,cs,fn,rfl,k1,k2,Calls.mono (k3 w N i _ s hf hG hall) ?_⟩
   rintro e w' ⟨v,N',i',h1,h2,h3,h4,_⟩
   exact⟨v,N',i',h1,h2,h3,h4⟩
  | true =>
   simp only [hp,cond_true] at hr
   cases hm:md==2 with
   | true =>
    simp only [hm,cond_true,Option.bind_eq_some_iff] at hr
    obtain⟨⟨as,m1⟩,hz,hr⟩:=hr
    cases hcl:closedL as with
    | false=>simp [hcl] at hr
    | true =>
     simp only [hcl,cond_true,Option.bind_eq_some_iff] at hr
     obtain⟨q,hq,hr⟩:=hr
     cases hr
     obtain⟨⟨fn,k1,k2⟩,_⟩:=hc g _ _ _ hq
     obtain⟨N1,s1,e1,r1,n1⟩:=lh s hz hall
     refine⟨g,fs,cs,fn,rfl,k1,k2,Calls.mono (ox hc hp s1 (hG.mono (e1.le s)) hq hcl r1) ?_⟩
     rintro e w' ⟨v,N',rfl,s',e',hv'⟩
     exact⟨v,N',i,rfl,s',e1.trans e',hv'⟩
   | false =>
    simp only [hm,cond_false] at hr
    cases hcl:closedL (first++args++caps) with
    | true =>
     simp only [hcl,cond_true,Option.bind_eq_some_iff] at hr
     obtain⟨q,hq,hr⟩:=hr
     cases hr
     obtain⟨⟨fn,k1,k2⟩,_⟩:=hc g _ _ _ hq
     refine⟨g,fs,cs,fn,rfl,k1,k2,Calls.mono (ox hc hp s hG hq hcl hall) ?_⟩
     rintro e w' ⟨v,N',rfl,s',e',hv'⟩
     exact⟨v,N',i,rfl,s',e',hv'⟩
    | false =>
     simp only [hcl,cond_false,Option.bind_eq_some_iff] at hr
     obtain⟨as,hd,q,hq,hr⟩:=hr
     cases hfl:q.1.flat with
     | false=>simp [hfl] at hr
     | true =>
      simp only [hfl,cond_true,Option.some.injEq,Prod.mk.injEq] at hr
      obtain⟨rfl,rfl⟩:=hr
      obtain⟨⟨fn,k1,k2⟩,k3⟩:=hc g _ _ _ hq
      have hd2:RepL w (NL m N i) P0 as (fs.toList++us++cs.toList):=mD (fun a b u=>mA s deepNo) hd hall
      have hN:∀b,NL m N i b→b < w.heap.size:=by
       rintro b (h | h)
       ·exact s.nlt b h
       ·exact(s.dy h).2
      refine⟨g,fs,cs,fn,rfl,k1,k2,Calls.mono (k3 w (NL m N i) P0 _ (dV hN) (fun _ _ _=>rfl) (hG.mono (i:=P0) (i':=P0) ⟨fun _ h=>.inl h,fun _ _=>rfl,fun _ _ _ h=>h⟩) hd2) ?_⟩
      rintro e w' ⟨v,N',i',rfl,s',e',hv',_⟩
      obtain⟨z1,z2⟩:=s.below (w':=w') (N':=N) e'.size (fun b hb=>e'.keep b hb bL) (fun _ h=>h) (fun _ h=>.inl h) (fun b hb=>Nat.lt_of_lt_of_le (s.nlt b hb) e'.size) e'.os e'.tape e'.output
      exact⟨v,N,i,rfl,z1,z2,zq hfl hv'⟩
 ·cases hr
end Go.AM

/-
  THE ABSTRACT MACHINE: the library's sort does what the one step says. Conditions: none.
-/
namespace Go.AM
open Go.Sort
open Go.Proofs (encStr)
def SortCalls (P:Program) (g:FuncId):Prop:=∀(blk off cap:Nat) (zs:List Int) (w:World),Holds (Value.int .i64) w blk off zs.toArray→blk < w.heap.size→zs.length < 4611686018427387904 →
 Calls P g #[.slice (some ⟨blk,off,none⟩) zs.length cap] w fun e w'=>e=.returned (.tuple #[])∧∃n os,w'=grow (putRow (Value.int .i64) (Sort.ahead w n) blk off (zs.mergeSort fun x y=>decide (x≤y)).toArray) os
theorem kE (x:Int):∀l:List Int,(insI x l).Perm (x::l)
 | []=>.refl _
 | y::r=>by
  unfold insI
  cases decide (x≤y) with
  | true=>exact .refl _
  | false=>exact((kE x r).cons y).trans (.swap x y r)
theorem jq:∀l:List Int,(sortI l).Perm l
 | []=>.refl _
 | x::r=>(kE x _).trans ((jq r).cons x)
theorem iL (l:List Int):(sortI l).length=l.length:=(jq l).length_eq
theorem lz (x:Int):∀l:List Int,l.Pairwise (·≤·)→(insI x l).Pairwise (·≤·)
 | [],_=>by simp [insI]
 | y::r,h=>by
  have h':=List.pairwise_cons.1 h
  unfold insI
  by_cases q:x≤y
  ·rw [decide_eq_true q]
   refine List.pairwise_cons.2 ⟨fun z hz=>?_,h⟩
   rcases List.mem_cons.1 hz with rfl | hz
   ·exact q
   ·have:=h'.1 z hz;omega
  ·rw [decide_eq_false q]
   refine List.pairwise_cons.2 ⟨fun z hz=>?_,lz x r h'.2⟩
   rcases List.mem_cons.1 ((kE x r).mem_iff.1 hz) with rfl | hz
   ·omega
   ·exact h'.1 z hz
theorem jJ:∀l:List Int,(sortI l).Pairwise (·≤·)
 | []=>List.Pairwise.nil
 | x::r=>lz x _ (jJ r)
theorem lA:∀ {a b:List Int},a.Pairwise (·≤·)→b.Pairwise (·≤·)→a.Perm b→a=b
 | [],b,_,_,h=>h.nil_eq
 | x::a,[],_,_,h=>by have:=h.length_eq;simp at this
 | x::a,y::b,ha,hb,h=>by
  have ha':=List.pairwise_cons.1 ha
  have hb':=List.pairwise_cons.1 hb
  have h1:x∈y::b:=h.mem_iff.1 (by simp)
  have h2:y∈x::a:=h.mem_iff.2 (by simp)
  have e:x=y:=by
   rcases List.mem_cons.1 h1 with e | h1
   ·exact e
   ·rcases List.mem_cons.1 h2 with e | h2
    ·exact e.symm
    ·have:=hb'.1 x h1;have:=ha'.1 y h2;omega
  subst e
  rw [lA ha'.2 hb'.2 (h.cons_inv)]
theorem lB (l:List Int):l.mergeSort (fun x y=>decide (x≤y))=sortI l:=by
 refine lA ?_ (jJ l) ((List.mergeSort_perm l _).trans (jq l).symm)
 have:=List.pairwise_mergeSort (le:=fun x y:Int=>decide (x≤y)) (fun a b c h1 h2=>by simp at *;omega) (fun a b=>by simp;omega) l
 exact this.imp fun h=>by simpa using h
theorem kF {w:World} {N:Nat→Prop} {i:Pl}:∀ {xs:List AV} {l:List Int} {vs:List Value},intsO xs=some l→RepL w N i xs vs→vs=l.map (Value.int .i64)∧xs.length=l.length
 | [],l,vs,h,hr=>by
  have:l=[]:=by simp [intsO] at h;exact h
  subst this
  have:=hr.length
  simp at this
  exact⟨by simpa using this,rfl⟩
 | x::xs,l,vs,h,hr=>by
  obtain⟨v,r,e,h1,h2⟩:=hr
  subst e
  cases x<;>try (simp [intsO] at h;done)
  rename_i k n
  cases k<;>try (simp [intsO] at h;done)
  simp only [intsO,Option.map_eq_some_iff] at h
  obtain⟨l',h3,rfl⟩:=h
  obtain⟨e1,e2⟩:=kF h3 h2
  have hv:v=.int .i64 n:=h1
  subst hv e1
  exact⟨rfl,by simp [e2]⟩
theorem kG {w:World} {N:Nat→Prop} {i:Pl}:∀l:List Int,RepL w N i (l.map fun k=>AV.int .i64 k) (l.map (Value.int .i64))
 | []=>rfl
 | a::l=>⟨_,_,rfl,rfl,kG l⟩
theorem pF {α:Type} [Inhabited α] {enc:α→Value} {w:World} {blk off k:Nat} {arr:Array Value} {e:TypeId} {fr:Nat×Nat} (d:Array α) (os:Array Obj) (hb:w.heap[blk]?=some (.cells arr e fr)) :
  (grow (putRow enc (Sort.ahead w k) blk off d) os).heap[blk]?=some (.cells (putCells enc off d arr) e fr):=by
 have hg:blk < w.heap.size:=(Array.getElem?_eq_some_iff.1 hb).1
 rw [heap_grow_old _ _ (by simpa [putRow,mapBlock,Sort.ahead] using hg)]
 simp [putRow,mapBlock,Sort.ahead,Array.getElem?_modify,hb,onCells]
theorem pG {α:Type} [Inhabited α] {enc:α→Value} {w:World} {blk off k j:Nat} (d:Array α) (os:Array Obj) (hj:j < w.heap.size) (hne:j≠blk) :
  (grow (putRow enc (Sort.ahead w k) blk off d) os).heap[j]?=w.heap[j]?:=by
 rw [heap_grow_old _ _ (by simpa [putRow,mapBlock,Sort.ahead] using hj)]
 have:¬blk=j:=fun e=>hne e.symm
 simp [putRow,mapBlock,Sort.ahead,Array.getElem?_modify,this]
theorem ra {α:Type} [Inhabited α] {enc:α→Value} {av:α→AV} {dec:List AV→Option (List α)} {srt:List α→List α} {P:Program} {pf:FuncId→Bool} {g:FuncId}
  (hrep:∀w N i (l:List α),RepL w N i (l.map av) (l.map enc)) (hflat:∀w N i xs l vs,dec xs=some l→RepL w N i xs vs→vs=l.map enc∧xs.length=l.length) (hlen0:∀l,(srt l).length=l.length) (henc:∀a,(enc a).oneCell'=true)
  (hS:∀(blk off cap:Nat) (zs:List α) (w:World),Holds enc w blk off zs.toArray→blk < w.heap.size→zs.length < 4611686018427387904 →
   Calls P g #[.slice (some ⟨blk,off,none⟩) zs.length cap] w fun e w'=>e=.returned (.tuple #[])∧∃n os,w'=grow (putRow enc (Sort.ahead w n) blk off (srt zs).toArray) os)
  (hp:pf g=false) {args:List AV} {m:Mem} {r:AV×Mem} (h:sortX dec srt av args m=some r) {w:World} {N:Nat→Prop} {i:Pl} {us:List Value} (s:Sim m w N i) (ha:RepL w N i args us) :
  Calls P g us.toArray w fun e w'=>∃v N' i',e=.returned v∧Sim r.2 w' N' i'∧Ext m w N i r.2 w' N' i'∧Rep w' N' i' r.1 v∧(pf g=true→r.1.closed=true):=by
 unfold sortX at h
 split at h
 ·rename_i id n top
  cases ht:(n==top) with
  | false=>simp [ht] at h
  | true =>
   have ht':n=top:=by simpa using ht
   subst ht'
   simp only [ht,cond_true] at h
   cases ho:m.h id with
   | none=>rw [ho] at h;cases h
   | some o =>
    rw [ho] at h
    cases o with
    | map=>cases h
    | iter=>cases h
    | cells xs =>
     simp only [sortG] at h
     cases hc:(xs.length==n&&(Nat.blt 0 n&&Nat.ble n 1000000)) with
     | false=>simp [hc] at h
     | true =>
      simp only [hc,cond_true,Option.bind_eq_some_iff] at h
      obtain⟨l,hl,h⟩:=h
      injection h with h
      subst h
      simp at hc
      obtain⟨c1,c2,c3⟩:=hc
      obtain⟨v0,us',rfl,hr0,hr1⟩:=ha
      have:us'=[]:=hr1
      subst this
      obtain⟨b,o,c,off',cap,p1,rfl,p2,p3,p4⟩:=hr0
      obtain⟨b',p',c',g1,g2,arr,elem,fr,vs,g3,g4,g5,g6,g7,g8,g9⟩:=s.live id _ ho
      have e0:AObj.top (.cells xs)=xs.length:=rfl
      rw [e0,c1,p1] at g1
      cases g1
      obtain⟨e1,e2⟩:=hflat _ _ _ _ _ _ hl g9
      have hoff:off'=o:=by have:=p2 (by omega);omega
      subst hoff e1
      have hlen:l.length=n:=by omega
      have hb:b < w.heap.size:=(Array.getElem?_eq_some_iff.1 g3).1
      have hH:Holds enc w b off' l.toArray:=by
       intro j hj
       have hj':j < l.length:=by simpa using hj
       refine⟨?_,?_⟩
       ·rw [g7 j (enc l[j]) (by simp [hj'])]
        simp [hj']
       ·have:=g5.1 (off'+j) (by omega)
        simp [World.frozen?,g3]
        omega
      have call:=hS b off' cap l w hH hb (by omega)
      rw [hlen] at call
      refine Calls.mono call ?_
      rintro e w' ⟨rfl,k,os,rfl⟩
      have hsl:=hlen0 l
      have hsz:w.heap.size≤(grow (putRow enc (Sort.ahead w k) b off' (srt l).toArray) os).heap.size:=by
       simp [grow,putRow,mapBlock,Sort.ahead]
      have hcell:=pF (enc:=enc) (k:=k) (off:=off') (srt l).toArray os g3
      have hoth:∀j,j < w.heap.size→j≠b→(grow (putRow enc (Sort.ahead w k) b off' (srt l).toArray) os).heap[j]?=w.heap[j]?:=fun j h1 h2=>pG _ os h1 h2
      have hos:(grow (putRow enc (Sort.ahead w k) b off' (srt l).toArray) os).os=w.os:=rfl
      have htp:(grow (putRow enc (Sort.ahead w k) b off' (srt l).toArray) os).tape=w.tape:=rfl
      have hout:(grow (putRow enc (Sort.ahead w k) b off' (srt l).toArray) os).output=w.output:=rfl
      generalize (grow (putRow enc (Sort.ahead w k) b off' (srt l).toArray) os)=w' at *
      have hi:∀id1 t x,i id1 t=some x→updPl i id n (b,off',c) id1 t=some x:=fun id1 t x h=>by
       by_cases e:id1=id∧t=n
       ·obtain⟨rfl,rfl⟩:=e
        rw [bE];rw [p1] at h;exact h
       ·rw [bB _ _ e];exact h
      have hnew:((srt l).map av).length=n:=by simp [hsl,hlen]
      have rp:=s.replace (w':=w') (o':=.cells ((srt l).map av)) (b':=b) (p':=off') (c':=c) hsz ho (by rw [e0,c1];exact p1) (.inr ⟨by show _=xs.length;rw [c1];exact hnew,rfl⟩) (.inl rfl) hoth (by
       refine⟨_,elem,fr,(srt l).map enc,hcell,by simp [putCells,g4],g5,by rw [hnew];omega,?_,?_,hrep _ _ _ _⟩
       ·intro j v hj
        have hjl:j < (srt l).length:=by
         have:=(List.getElem?_eq_some_iff.1 hj).1;simpa using this
        simp [hjl] at hj
        subst hj
        have hin:off'+j < arr.size:=by omega
        simp [World.cell?,hcell,putCells,hin,hjl]
       ·intro v hv
        simp at hv
        obtain⟨z,_,rfl⟩:=hv
        exact henc z)
      have et:AObj.top (.cells ((srt l).map av))=n:=hnew
      rw [et] at rp
      obtain⟨r1,r2,r3⟩:=rp
      refine⟨_,N,_,rfl,r1,⟨hos,htp,hout,hsz,fun _ h=>h,hi,fun j hj hk=>hoth j hj (fun e=>hk (e ▸ ⟨id,_,off',c,ho,by rw [e0,c1];exact p1⟩)),r2,fun _ h=>.inl h,Nat.le_refl _,tA p1⟩,?_,fun h=>by rw [hp] at h;cases h⟩
      exact⟨#[],rfl,rfl⟩
 ·cases h
theorem zF {P:Program} {pf:FuncId→Bool} {g:FuncId} (hS:SortCalls P g) (hp:pf g=false) {args:List AV} {m:Mem} {r:AV×Mem} (h:sortA args m=some r) {w:World} {N:Nat→Prop} {i:Pl} {us:List Value} (s:Sim m w N i) (ha:RepL w N i args us) :
  Calls P g us.toArray w fun e w'=>∃v N' i',e=.returned v∧Sim r.2 w' N' i'∧Ext m w N i r.2 w' N' i'∧Rep w' N' i' r.1 v∧(pf g=true→r.1.closed=true) :=
 ra (enc:=Value.int .i64) (fun _ _ _ l=>kG l) (fun _ _ _ _ _ _ h1 h2=>kF h1 h2) iL (fun _=>rfl) (fun blk off cap zs w h1 h2 h3=>by
  have:=hS blk off cap zs w h1 h2 h3
  simpa only [lB] using this) hp h s ha
def SortTCalls (P:Program) (g:FuncId):Prop:=∀(blk off cap:Nat) (zs:List (List UInt8)) (w:World),Holds encStr w blk off zs.toArray→blk < w.heap.size→zs.length < 4611686018427387904 →
 Calls P g #[.slice (some ⟨blk,off,none⟩) zs.length cap] w fun e w'=>e=.returned (.tuple #[])∧∃n os,w'=grow (putRow encStr (Sort.ahead w n) blk off (zs.mergeSort fun x y=>decide (x≤y)).toArray) os
theorem wc:∀x y:List UInt8,cmpL x y < 0↔x < y
 | [],[]=>by simp [cmpL]
 | [],_::_=>by simp [cmpL]
 | _::_,[]=>by simp [cmpL]
 | a::x,b::y=>by
  rw [cmpL,List.cons_lt_cons_iff,← wc x y]
  by_cases h:a < b
  ·simp [h]
  ·by_cases h2:b < a
   ·have:a≠b:=by rintro rfl;exact absurd h2 h
    simp [h,h2,this]
   ·have:a=b:=UInt8.le_antisymm (UInt8.not_lt.1 h2) (UInt8.not_lt.1 h)
    simp [this]
theorem kH:∀x y:List UInt8,cmpL y x = - cmpL x y
 | [],[]=>by simp [cmpL]
 | [],_::_=>by simp [cmpL]
 | _::_,[]=>by simp [cmpL]
 | a::x,b::y=>by
  rw [cmpL,cmpL,kH x y]
  by_cases h:a < b
  ·have:¬b < a:=fun h2=>absurd (UInt8.lt_trans h h2) (UInt8.lt_irrefl a)
   simp [h,this]
  ·by_cases h2:b < a<;>simp [h,h2]
theorem jK (x y:List UInt8):cmpL x y≤0↔x≤y:=by
 rw [← List.not_lt,← wc,kH];omega
theorem kI (x:List UInt8):∀l:List (List UInt8),(insS x l).Perm (x::l)
 | []=>.refl _
 | y::r=>by
  unfold insS
  cases decide (cmpL x y≤0) with
  | true=>exact .refl _
  | false=>exact((kI x r).cons y).trans (.swap x y r)
theorem gj:∀l:List (List UInt8),(sortS l).Perm l
 | []=>.refl _
 | x::r=>(kI x _).trans ((gj r).cons x)
theorem dD (l:List (List UInt8)):(sortS l).length=l.length:=(gj l).length_eq
theorem lC (x y:List UInt8):x≤y∨y≤x:=by
 rw [← jK,← jK,kH x y];omega
theorem lD (x:List UInt8):∀l:List (List UInt8),l.Pairwise (·≤·)→(insS x l).Pairwise (·≤·)
 | [],_=>by simp [insS]
 | y::r,h=>by
  have h':=List.pairwise_cons.1 h
  unfold insS
  by_cases q:cmpL x y≤0
  ·rw [decide_eq_true q]
   refine List.pairwise_cons.2 ⟨fun z hz=>?_,h⟩
   rcases List.mem_cons.1 hz with rfl | hz
   ·exact(jK _ _).1 q
   ·exact List.le_trans ((jK _ _).1 q) (h'.1 z hz)
  ·rw [decide_eq_false q]
   refine List.pairwise_cons.2 ⟨fun z hz=>?_,lD x r h'.2⟩
   rcases List.mem_cons.1 ((kI x r).mem_iff.1 hz) with rfl | hz
   ·exact(lC _ _).resolve_left (fun h=>q ((jK _ _).2 h))
   ·exact h'.1 z hz
theorem jL:∀l:List (List UInt8),(sortS l).Pairwise (·≤·)
 | []=>List.Pairwise.nil
 | x::r=>lD x _ (jL r)
theorem jM:∀ {a b:List (List UInt8)},a.Pairwise (·≤·)→b.Pairwise (·≤·)→a.Perm b→a=b
 | [],b,_,_,h=>h.nil_eq
 | x::a,[],_,_,h=>by have:=h.length_eq;simp at this
 | x::a,y::b,ha,hb,h=>by
  have ha':=List.pairwise_cons.1 ha
  have hb':=List.pairwise_cons.1 hb
  have h1:x∈y::b:=h.mem_iff.1 (by simp)
  have h2:y∈x::a:=h.mem_iff.2 (by simp)
  have e:x=y:=by
   rcases List.mem_cons.1 h1 with e | h1
   ·exact e
   ·rcases List.mem_cons.1 h2 with e | h2
    ·exact e.symm
    ·exact List.le_antisymm (ha'.1 y h2) (hb'.1 x h1)
  subst e
  rw [jM ha'.2 hb'.2 (h.cons_inv)]
theorem lE (l:List (List UInt8)):l.mergeSort (fun x y=>decide (x≤y))=sortS l:=by
 refine jM ?_ (jL l) ((List.mergeSort_perm l _).trans (gj l).symm)
 have:=List.pairwise_mergeSort (le:=fun x y:List UInt8=>decide (x≤y)) (fun a b c h1 h2=>by simp at *;exact List.le_trans h1 h2) (fun a b=>by simp;exact lC a b) l
 exact this.imp fun h=>by simpa using h
theorem kJ {w:World} {N:Nat→Prop} {i:Pl}:∀ {xs:List AV} {l:List (List UInt8)} {vs:List Value},strsO xs=some l→RepL w N i xs vs→vs=l.map encStr∧xs.length=l.length
 | [],l,vs,h,hr=>by
  have:l=[]:=by simp [strsO] at h;exact h
  subst this
  have:=hr.length
  simp at this
  exact⟨by simpa using this,rfl⟩
 | x::xs,l,vs,h,hr=>by
  obtain⟨v,r,e,h1,h2⟩:=hr
  subst e
  cases x<;>try (simp [strsO] at h;done)
  rename_i a
  simp only [strsO,Option.map_eq_some_iff] at h
  obtain⟨l',h3,rfl⟩:=h
  obtain⟨e1,e2⟩:=kJ h3 h2
  have hv:v=.string ⟨a.toArray⟩:=h1
  subst hv e1
  exact⟨rfl,by simp [e2]⟩
theorem kK {w:World} {N:Nat→Prop} {i:Pl}:∀l:List (List UInt8),RepL w N i (l.map fun a=>AV.str a) (l.map encStr)
 | []=>rfl
 | a::l=>⟨_,_,rfl,rfl,kK l⟩
theorem xI {P:Program} {pf:FuncId→Bool} {g:FuncId} (hS:SortTCalls P g) (hp:pf g=false) {args:List AV} {m:Mem} {r:AV×Mem} (h:sortT args m=some r) {w:World} {N:Nat→Prop} {i:Pl} {us:List Value} (s:Sim m w N i) (ha:RepL w N i args us) :
  Calls P g us.toArray w fun e w'=>∃v N' i',e=.returned v∧Sim r.2 w' N' i'∧Ext m w N i r.2 w' N' i'∧Rep w' N' i' r.1 v∧(pf g=true→r.1.closed=true) :=
 ra (enc:=encStr) (fun _ _ _ l=>kK l) (fun _ _ _ _ _ _ h1 h2=>kJ h1 h2) dD (fun _=>rfl) (fun blk off cap zs w h1 h2 h3=>by
  have:=hS blk off cap zs w h1 h2 h3
  simpa only [lE] using this) hp h s ha
def CmpCalls (P:Program) (g:FuncId):Prop:=∀(a b:ByteArray) (w:World),Calls P g #[.string a,.string b] w fun e w'=>e=.returned (.int .i64 (cmpL a.data.toList b.data.toList))∧w'=w
def eO (P:Program) (g:FuncId):Prop:=∀(args:List AV) (m:Mem) (r:AV×Mem),extF g args m=some r→∀(w:World) (N:Nat→Prop) (i:Pl) (us:List Value),Sim m w N i→Fresh m i→de w N→RepL w N i args us →
 Calls P g us.toArray w fun e w'=>∃v N' i',e=.returned v∧Sim r.2 w' N' i'∧Ext m w N i r.2 w' N' i'∧Rep w' N' i' r.1 v
def fT (P:Program) (A:Ann) (g:FuncId):Prop:=((A g).ext=true→eO P g)∧((A g).ext=false→((A g).cmp=true→CmpCalls P g)∧((A g).cmp=false→(A g).sts=true→SortTCalls P g)∧((A g).cmp=false→(A g).sts=false→SortCalls P g))
theorem BH {P:Program} {A:Ann} {g:FuncId} (hSx:fT P A g) (hp:(A g).pure=false) {args:List AV} {m:Mem} {r:AV×Mem} (h:libA (A g) g args m=some r) {w:World} {N:Nat→Prop} {i:Pl} {us:List Value} (s:Sim m w N i) (hfr:Fresh m i) (hG:de w N) (ha:RepL w N i args us) :
  Calls P g us.toArray w fun e w'=>∃v N' i',e=.returned v∧Sim r.2 w' N' i'∧Ext m w N i r.2 w' N' i'∧Rep w' N' i' r.1 v∧((fun g=>(A g).pure) g=true→r.1.closed=true):=by
 unfold libA at h
 cases hx:(A g).ext with
 | true =>
  rw [hx] at h
  simp only [cond_true] at h
  refine Calls.mono (hSx.1 hx args m r h w N i us s hfr hG ha) ?_
  rintro e w' ⟨v,N',i',h1,h2,h3,h4⟩
  exact⟨v,N',i',h1,h2,h3,h4,fun h=>by have h':(A g).pure=true:=h;rw [hp] at h';cases h'⟩
 | false =>
 rw [hx] at h
 simp only [cond_false] at h
 have hS:=hSx.2 hx
 cases hc:(A g).cmp with
 | false =>
  rw [hc] at h
  simp only [cond_false] at h
  cases ht:(A g).sts with
  | false =>
   rw [ht] at h
   simp only [cond_false] at h
   exact zF (pf:=fun g=>(A g).pure) (hS.2.2 hc ht) hp h s ha
  | true =>
   rw [ht] at h
   simp only [cond_true] at h
   exact xI (pf:=fun g=>(A g).pure) (hS.2.1 hc ht) hp h s ha
 | true =>
  rw [hc] at h
  simp only [cond_true] at h
  unfold cmpA at h
  split at h
  ·rename_i a b
   cases h
   obtain⟨v0,us',rfl,hr0,hr1⟩:=ha
   obtain⟨v1,us'',rfl,hr1,hr2⟩:=hr1
   have e2:us''=[]:=hr2
   have e0:v0=.string ⟨a.toArray⟩:=hr0
   have e1:v1=.string ⟨b.toArray⟩:=hr1
   subst e0 e1 e2
   refine Calls.mono (hS.1 hc ⟨a.toArray⟩ ⟨b.toArray⟩ w) ?_
   rintro e w' ⟨rfl,rfl⟩
   exact⟨_,N,i,rfl,s,Ext.refl _ _ _ _,rfl,fun _=>rfl⟩
  ·cases h
theorem oE {α:Type} {v:α} {g:Nat}:∀ {l:List (Nat×α)},assoc l g=some v→(g,v)∈l
 | [],h=>by cases h
 | (j,u)::l,h=>by
  rw [assoc] at h
  cases e:(g==j) with
  | true =>
   rw [e] at h
   have e':g=j:=by simpa using e
   injection h with h
   rw [e',h];simp
  | false=>rw [e] at h;exact List.mem_cons_of_mem _ (oE h)
theorem rb {l:List (Nat×FnAnn)} {d:FnAnn} (hd:d.srt=false) (X:Nat→Bool) (h:(l.all fun p=>!p.2.srt||X p.1)=true):∀g,((assoc l g).getD d).srt=true→X g=true:=by
 intro g hg
 cases e:assoc l g with
 | none=>rw [e] at hg;rw [show((none:Option FnAnn).getD d)=d from rfl,hd] at hg;cases hg
 | some v =>
  rw [e] at hg
  have hg':v.srt=true:=hg
  have:=List.all_eq_true.1 h _ (oE e)
  simpa [hg'] using this
end Go.AM
