/-
  leaves AS ONE STEP. Conditions: none.
-/
import Derived.ControlIn
import Derived.Test.YtadofgdidhpnpaaGreatDoorK01
import Derived.Test.YtadofgdidhpnpaaGreatDoorKSXCk
set_option linter.all false
namespace Go.Proofs.YtadofgdidhpnpaaGreatDoor
open Go.AM Go.Shelf
open Go.Proofs
open Go.Proofs.Tryz (prog)
set_option linter.all false
set_option maxRecDepth 100000
theorem Ea:Tryz.f53.body=some (.seq aF.s0 (.seq aF.s1 (.seq (.seq aF.s2 (.block 0 (.rangeFunc (.tmp 11) #[12] aF.ba aF.b))) (.seq aF.s11 .ret)))):=by kernel_rfl
def LeafVal (ks vs:List (List UInt8)) (W:World) (v:Value) (W':World):Prop :=
 (ks=[]∧v=.slice none 0 0)∨(ks≠[]∧∃b off cap us,v=.slice (some ⟨b,off,none⟩) 1 cap∧1≤cap∧W.heap.size≤b∧b < W'.heap.size∧CellsAt W' b off us∧One us∧RepL W' (fun b=>W.heap.size≤b∧b < W'.heap.size) P0 (u8L (padB (leafB ks vs))) us)
def LeafRes (ks vs:List (List UInt8)) (W:World) (v:Value) (W':World):Prop :=
 W.heap.size≤W'.heap.size∧W'.os=W.os∧W'.tape=W.tape∧W'.output=W.output∧(∀b,b < W.heap.size→W'.heap[b]?=W.heap[b]?)∧LeafVal ks vs W v W'
theorem pQ {w w':World} {N N':Nat→Prop} {i i':Pl}:∀(l:List UInt8) {us:List Value},RepL w N i (u8L l) us→RepL w' N' i' (u8L l) us
 | [],_,h=>h
 | a::l,us,⟨v,r,h1,h2,h3⟩=>⟨v,r,h1,h2,pQ l h3⟩
theorem tX {ks vs:List (List UInt8)} {W:World} {N:Nat→Prop} {n:Nat} {M:Mem} {w5:World} {N5:Nat→Prop} {i5:Pl} {t:List (Nat×AV)} {a5:Act} {D:Nat} {x:AV}
  (hf:Fresh M i5) (hs:Sim M w5 N5 i5) (he:Ext Mem.empty W N P0 M w5 N5 i5) (ht:bG w5 N5 i5 ⟨t,37,M⟩ a5) (h3:AM.get t 3=.ptr 0 0 1) (ho:M.h 0=some (.cells [x]))
  (hD:w5.heap[D]?=some (.deferred (some []))) (hDN:¬N5 D) (hDL:¬Live M i5 D) (hDW:W.heap.size≤D)
  (hx:∀w6 N6 i6 u,Sim M w6 N6 i6→Ext Mem.empty W N P0 M w6 N6 i6→Rep w6 N6 i6 x u→LeafVal ks vs W u w6) :
  (Code.seq aF.s11 .ret).wpIn Fence.wide n prog (bodyPostM Fence.wide n prog Tryz.f53 fun e w'=>∃v,e=.returned v∧LeafRes ks vs W v w') (more a5 [{ target:=.collected D,args:=#[] }]) w5:=by
 refine wpIn_seq ?_
 refine gl mixed gI gr (.inl rfl) hf (f:=53) (by kernel_rfl) (Dk t M h3 ho) ⟨N5,i5,hs,Ext.refl _ _ _ _,ht⟩ ?_
 rintro a6 w6 ⟨N6,i6,s6,e6,t6⟩
 have hDs:D < w5.heap.size:=(Array.getElem?_eq_some_iff.1 hD).1
 have hD6:w6.heap[D]?=some (.deferred (some [])):=(e6.keep D hDs hDL).trans hD
 have hDN6:¬N6 D:=fun h=>by
  rcases e6.iV D h with h | h | h
  ·exact hDN h
  ·exact hDL h
  ·omega
 have hDL6:¬Live M i6 D:=fun h=>by
  rcases e6.grow D h with h | h
  ·exact hDL h
  ·omega
 show(Code.ret).wpIn Fence.wide n prog _ (more a6 _) w6
 refine wpIn_ret ?_
 show LeavesInM Fence.wide n prog Tryz.f53 a6.tmps _ (a6.defers++[_]) .returning w6
 rw [t6.dfr]
 refine⟨by simp,.inl ⟨D,_,rfl,run_takeDeferred hD6,?_⟩⟩
 obtain⟨w7,hw7⟩:∃w7,w6.putObj D (.deferred none)=w7:=⟨_,rfl⟩
 rw [hw7]
 have ho7:∀b,b≠D→w7.heap[b]?=w6.heap[b]?:=fun b hb=>by rw [← hw7];exact cU _ _ _ hb
 have hz7:w7.heap.size=w6.heap.size:=by rw [← hw7];simp
 have s7:Sim M w7 N6 i6:=s6.other (Nat.le_of_eq hz7.symm) (fun b hb=>ho7 b fun e=>hDN6 (e ▸ hb)) (fun b hb=>ho7 b fun e=>hDL6 (e ▸ hb))
 have t7:bG w7 N6 i6 _ a6:=t6.mono (w':=w7) (N':=N6) (i':=i6) ⟨fun _ h=>h,fun b hb=>ho7 b fun e=>hDN6 (e ▸ hb),fun _ _ _ h=>h⟩
 have e7:Ext Mem.empty W N P0 M w7 N6 i6:=(he.trans e6).other (Nat.le_of_eq hz7.symm) (fun b hb=>ho7 b (by omega)) (by rw [← hw7];rfl) (by rw [← hw7];rfl) (by rw [← hw7];rfl)
 obtain⟨u,k1,k2⟩:=gQ (P:=prog) (fn:=Tryz.f53) (vs:=[x]) s7 t7 (by simp [resL,Tryz.f53,St.get];rfl)
 refine⟨u,k1,u,rfl,e7.size,e7.os,e7.tape,e7.output,fun b hb=>e7.keep b hb bL,hx w7 N6 i6 u s7 e7 k2⟩
noncomputable def recd (fn:FuncId) (a:Act) (w:World):Loop:={ state:=.ready,pending:=none,fn,tmps:=a.tmps,params:=#[12],assign:=aF.ba,body:=aF.b,defers:=w.heap.size }
noncomputable def ent (fn:FuncId) (a:Act) (w:World):World:=(w.alloc (.deferred (some []))).alloc (.loop (recd fn a w))
theorem mV (fn:FuncId) (a:Act) (w:World):(ent fn a w).heap.size=w.heap.size+2:=by simp [ent]
theorem pS (fn:FuncId) (a:Act) (w:World) {b:Nat} (h:b < w.heap.size):(ent fn a w).heap[b]?=w.heap[b]?:=(bT _ _ b (by simp;omega)).trans (bT w _ b h)
theorem wA (fn:FuncId) (a:Act) (w:World):(ent fn a w).heap[w.heap.size+1]?=some (.loop (recd fn a w)):=by
 have:=World.alloc_heap_new (w.alloc (.deferred (some []))) (.loop (recd fn a w));rwa [World.size_alloc] at this
theorem wC (fn:FuncId) (a:Act) (w:World):(ent fn a w).heap[w.heap.size]?=some (.deferred (some [])):=(bT _ _ _ (by simp)).trans (World.alloc_heap_new w _)
theorem C8 {n:Nat} {a:Act} {w:World} {p1 p2:Value} (h11:a.eval (.tmp 11)=.func (.func 97) #[] #[p1,p2]) (hd:a.defers=[]) {K:Act→World→Prop} {Q:Exit→Act→World→Prop}
  (h:∀fn,∃R:World→Prop,CallsIn Fence.wide (n - 1) prog 97 #[.func (.yield (w.heap.size+1)) #[] #[],p1,p2] (ent fn a w) (fun e W'=>(∃v,e=.returned v)∧R W') ∧
   ∀W',R W'→W'.heap[w.heap.size+1]?=some (.loop (recd fn a w))∧K (more a [{ target:=.collected w.heap.size,args:=#[] }]) (W'.putObj (w.heap.size+1) (.loop { recd fn a w with state:=.exhausted }))) :
  (Code.block 0 (.rangeFunc (.tmp 11) #[12] aF.ba aF.b)).wpIn Fence.wide n prog (Exit.then K Q) a w:=by
 refine wpIn_block (wpIn_rangeFunc ?_)
 intro fn _
 obtain⟨R,h1,h2⟩:=h fn
 refine⟨w.heap.size+1,[{ target:=.collected w.heap.size,args:=#[] }],ent fn a w,{ target:=.fn (.func 97) #[p1,p2],args:=#[.func (.yield (w.heap.size+1)) #[] #[]] },ent fn a w,97,
  #[.func (.yield (w.heap.size+1)) #[] #[],p1,p2],ent fn a w,run_enterLoop_outer _ _ _ _ _,?_,fun _ _=>trivial,?_,(fun h=>by cases h),h1.mono ?_⟩
 ·simp only [resolve,h11]
  simp [go_sem]
 ·have eg:Enters prog 97:=enters_of Tryz.func97 (by kernel_rfl) rfl
  have e3:(#[.func (.yield (w.heap.size+1)) #[] #[],p1,p2]:Array Value)=#[.func (.yield (w.heap.size+1)) #[] #[]]++#[p1,p2]:=rfl
  rw [e3]
  simp only [invoke,go_sem]
  exact eg _ _
 ·rintro e W' ⟨⟨v,rfl⟩,hR⟩
  obtain⟨k1,k2⟩:=h2 W' hR
  refine⟨none,_,run_endLoop k1 (by simp [recd]),?_⟩
  have e1:({ a with defers:=[{ target:=.collected w.heap.size,args:=#[] }]++a.defers }:Act)=more a [{ target:=.collected w.heap.size,args:=#[] }]:=by simp [more,hd]
  show Exit.inBlock 0 (Exit.then K Q) .normal ({ a with defers:=[{ target:=.collected w.heap.size,args:=#[] }]++a.defers }:Act) _
  rw [e1]
  exact k2
theorem bG.Hd {w:World} {N:Nat→Prop} {i:Pl} {t:List (Nat×AV)} {nt:Nat} {m m':Mem} {a:Act} (h:AM.bG w N i ⟨t,nt,m⟩ a):AM.bG w N i ⟨t,nt,m'⟩ a:=⟨h.slot,h.size,h.dfr,h.fP⟩
theorem cellAt {w:World} {b off:Nat} {v:Value} {vs:List Value} (h:CellsAt w b off (v::vs)):w.cell? ⟨b,off,none⟩=some v:=h 0 v rfl
theorem rL {x:Array Value} {a b:Value} {r:List Value} (h:x.toList=a::b::r) (hr:r=[]):x=#[a,b]:=by
 apply Array.toList_inj.1;rw [h,hr]
theorem jR {ks vs:List (List UInt8)} {W:World} {N:Nat→Prop} {n:Nat} {M:Mem} {W':World} {N5:Nat→Prop} {i5:Pl} {t:List (Nat×AV)} {a5:Act} {D l:Nat} {ol:Obj} {x:AV}
  (hf:Fresh M i5) (hs:Sim M W' N5 i5) (he:Ext Mem.empty W N P0 M W' N5 i5) (ht:bG W' N5 i5 ⟨t,37,M⟩ a5) (h3:AM.get t 3=.ptr 0 0 1) (ho:M.h 0=some (.cells [x]))
  (hD:W'.heap[D]?=some (.deferred (some []))) (hDN:¬N5 D) (hDL:¬Live M i5 D) (hDW:W.heap.size≤D) (hDl:D≠l) (hlN:¬N5 l) (hlL:¬Live M i5 l) (hlW:W.heap.size≤l)
  (hx:∀w6 N6 i6 u,Sim M w6 N6 i6→Ext Mem.empty W N P0 M w6 N6 i6→Rep w6 N6 i6 x u→LeafVal ks vs W u w6) :
  (Code.seq aF.s11 .ret).wpIn Fence.wide n prog (bodyPostM Fence.wide n prog Tryz.f53 fun e w'=>∃v,e=.returned v∧LeafRes ks vs W v w') (more a5 [{ target:=.collected D,args:=#[] }]) (W'.putObj l ol):=by
 have ho5:∀b,b≠l→(W'.putObj l ol).heap[b]?=W'.heap[b]?:=fun b hb=>cU _ _ _ hb
 exact tX hf (hs.other (by simp) (fun b hb=>ho5 b fun e=>hlN (e ▸ hb)) (fun b hb=>ho5 b fun e=>hlL (e ▸ hb))) (he.other (by simp) (fun b hb=>ho5 b (by omega)) rfl rfl rfl)
  (ht.mono ⟨fun _ h=>h,fun b hb=>ho5 b fun e=>hlN (e ▸ hb),fun _ _ _ h=>h⟩) h3 ho ((ho5 D hDl).trans hD) hDN hDL hDW hx
theorem nU {ks vs:List (List UInt8)} (hl:ks.length=vs.length) (hnd:ks.Nodup) (h9:ks.length≤9) (hk:∀k∈ks,k.length≤100) (hv:∀v∈vs,v.length≤100) {W:World} {N:Nat→Prop} {u:Value} (hN:∀b,N b→b < W.heap.size) (hG:de W N) (hu:Rep W N P0 (.fmap (ks.map .str) (vs.map .str)) u) :
  Calls prog 53 #[u] W fun e W'=>∃v,e=.returned v∧LeafRes ks vs W v W':=by
 refine callsIn_wide.1 (callsIn_of_wp_marks (n:=5) Tryz.func53 Ea trivial ?_)
 have hf0:Fresh Mem.empty P0:=fun _ _ _=>rfl
 have hs0:=dV hN
 have st0:bG W N P0 ⟨[(0,.fmap (ks.map .str) (vs.map .str))],37,Mem.empty⟩ { tmps:=#[u]++Array.replicate (Tryz.f53.ntmps - (#[u]:Array Value).size) undef,defers:=[] } :=
  kx (fn:=Tryz.f53) (args:=[.fmap (ks.map .str) (vs.map .str)]) (us:=[u]) ⟨u,[],rfl,hu,rfl⟩ hG (by show 1≤37;omega)
 rw [← ig ({ tmps:=#[u]++Array.replicate (Tryz.f53.ntmps - (#[u]:Array Value).size) undef,defers:=[] }:Act)]
 refine wpIn_seq (gl mixed gI gr (.inl rfl) hf0 (f:=53) (by kernel_rfl) (Il ks vs _ _ (by simp)) ⟨N,P0,hs0,Ext.refl _ _ _ _,st0⟩ ?_)
 intro a1 w1 g1
 refine wpIn_seq (gl mixed gI gr (.inl rfl) hf0 (f:=53) (by kernel_rfl) (Im _ _) g1 ?_)
 intro a2 w2 g2
 have post:∀(sl:AV) (t:List (Nat×AV)) (a3:Act) (w3:World) (N3:Nat→Prop) (i3:Pl),True:=fun _ _ _ _ _ _=>trivial
 by_cases hne:ks=[]
 ·subst hne
  have:vs=[]:=List.length_eq_zero_iff.1 hl.symm
  subst this
  refine wpIn_seq (wpIn_seq (gl mixed gI gr (.inl rfl) hf0 (f:=53) (by kernel_rfl) (zI _ _ (by simp)) g2 ?_))
  rintro a3 w3 ⟨N3,i3,s3,e3,t3⟩
  have q:=t3.slot 11
  obtain⟨fs,cs,q1,q2,v1,r1,q3,⟨b1,o1,us1,hb1,rfl,c1,_,x1,r1',rfl,hx1,hr1'⟩,v2,r2,rfl,⟨b2,o2,us2,hb2,rfl,c2,_,x2,r2',rfl,hx2,hr2'⟩,hr2⟩:=q
  obtain rfl:=rL q3 hr2
  have q2:fs.toList=[]:=q2
  obtain rfl:fs=#[]:=Array.toList_inj.1 q2
  have hx1:x1=.slice none 0 0:=hx1
  subst hx1
  show(Code.block 0 _).wpIn Fence.wide 5 prog (Exit.then _ _) (more a3 []) w3
  rw [ig]
  refine C8 q1 t3.dfr fun fn=>⟨fun W'=>W'=ent fn a3 w3,?_,?_⟩
  ·exact tY Fence.wide 4 trivial rfl _ b1 o1 b2 o2 _ ((dC (pS fn a3 w3 (s3.nlt _ hb1))).trans (cellAt c1))
  ·rintro W' rfl
   have hd:∀b,b < w3.heap.size→(ent fn a3 w3).heap[b]?=w3.heap[b]?:=fun b hb=>pS fn a3 w3 hb
   have hN3:∀b,N3 b→b < w3.heap.size:=s3.nlt
   have hL3:∀b,Live _ i3 b→b < w3.heap.size:=fun b h=>(s3.dy h).2
   have hW3:=e3.size
   exact⟨wA fn a3 w3,jR (D:=w3.heap.size) (l:=w3.heap.size+1) (x:=.nils) (hf0.ext e3) (s3.other (by rw [mV];omega) (fun b hb=>hd b (hN3 b hb)) (fun b hb=>hd b (hL3 b hb))) (e3.other (by rw [mV];omega) (fun b hb=>hd b (by omega)) rfl rfl rfl)
    (t3.mono ⟨fun _ h=>h,fun b hb=>hd b (hN3 b hb),fun _ _ _ h=>h⟩) (by simp) (by rfl) (wC fn a3 w3) (fun h=>by have:=hN3 _ h;omega) (fun h=>by have:=hL3 _ h;omega) hW3 (by omega) (fun h=>by have:=hN3 _ h;omega) (fun h=>by have:=hL3 _ h;omega) (by omega)
    (fun w6 N6 i6 u _ _ hu=>.inl ⟨rfl,hu⟩)⟩
 ·refine wpIn_seq (wpIn_seq (gl mixed gI gr (.inl rfl) hf0 (f:=53) (by kernel_rfl) (Io ks vs _ _ (by simp) h9 hnd hk hne) g2 ?_))
  rintro a3 w3 ⟨N3,i3,s3,e3,t3⟩
  have q:=t3.slot 11
  obtain⟨fs,cs,q1,q2,v1,r1,q3,⟨b1,o1,us1,hb1,rfl,c1,_,x1,r1',rfl,hx1,hr1'⟩,v2,r2,rfl,⟨b2,o2,us2,hb2,rfl,c2,_,x2,r2',rfl,hx2,hr2'⟩,hr2⟩:=q
  obtain rfl:=rL q3 hr2
  have q2:fs.toList=[]:=q2
  obtain rfl:fs=#[]:=Array.toList_inj.1 q2
  have hx2:x2=.int .i64 9:=hx2
  subst hx2
  have hpos:1≤ks.length:=by
   cases ks with
   | nil=>exact(hne rfl).elim
   | cons=>simp
  obtain⟨ad,cap,us,rfl,hcap,_,hor,hone,hrep⟩:=hx1
  have hor':∃b off,ad=⟨b,off,none⟩∧N3 b∧CellsAt w3 b off us:=hor.resolve_left (by omega)
  obtain⟨sb,so,rfl,hsb,hsc⟩:=hor'
  show(Code.block 0 _).wpIn Fence.wide 5 prog (Exit.then _ _) (more a3 []) w3
  rw [ig]
  have hN3:∀b,N3 b→b < w3.heap.size:=s3.nlt
  have hL3:∀b,Live _ i3 b→b < w3.heap.size:=fun b h=>(s3.dy h).2
  have hW3:=e3.size
  have hSm:∀k∈sortS ks,k∈ks∧k.length≤100:=fun k hm=>by have:=(gj ks).mem_iff.1 hm;exact⟨this,hk k this⟩
  refine C8 q1 t3.dfr fun fn=>?_
  obtain⟨W3,hW3e⟩:∃W3,ent fn a3 w3=W3:=⟨_,rfl⟩
  have hd:∀b,b < w3.heap.size→W3.heap[b]?=w3.heap[b]?:=fun b hb=>hW3e ▸ pS fn a3 w3 hb
  have hz:W3.heap.size=w3.heap.size+2:=hW3e ▸ mV fn a3 w3
  have hr3:W3.heap[w3.heap.size+1]?=some (.loop (recd fn a3 w3)):=hW3e ▸ wA fn a3 w3
  have hD3:W3.heap[w3.heap.size]?=some (.deferred (some [])):=hW3e ▸ wC fn a3 w3
  have hos:W3.os=w3.os∧W3.tape=w3.tape∧W3.output=w3.output:=by rw [← hW3e];exact⟨rfl,rfl,rfl⟩
  rw [hW3e]
  have S3:=s3.other (w':=W3) (by omega) (fun b hb=>hd b (hN3 b hb)) (fun b hb=>hd b (hL3 b hb))
  have E3:=e3.other (w':=W3) (by omega) (fun b hb=>hd b (by omega)) hos.1 hos.2.1 hos.2.2
  have T3:=t3.mono (w':=W3) (N':=N3) (i':=i3) ⟨fun _ h=>h,fun b hb=>hd b (hN3 b hb),fun _ _ _ h=>h⟩
  have S4:=S3.drew
  have E4:=E3.other (w':=W3.drew) (Nat.le_refl _) (fun _ _=>rfl) rfl rfl rfl
  have T4:=T3.mono (⟨fun _ h=>h,fun b hb=>rfl,fun _ _ _ h=>h⟩:Le W3 N3 i3 W3.drew N3 i3)
  let M3:Mem:=⟨upd Mem.empty.h Mem.empty.nx (some (.cells [.nils])),Mem.empty.nx+1⟩
  refine⟨fun W'=>∃(M:Mem) (P:Nat) (N':Nat→Prop) (i':Pl),Sim M W' N' i'∧Ext M3 W3.drew N3 i3 M (W'.putObj (w3.heap.size+1) (.loop (recd fn a3 w3))) N' i'∧W'.heap[w3.heap.size+1]?=some (.loop (recd fn a3 w3))∧0≠P∧M.h 0=some (.cells [.sl P 256 0 1 256])∧M.h P=some (.cells (u8L (padB (leafB ks vs)))),?_,?_⟩
  ·refine xU Fence.wide 4 trivial rfl (by omega) _ b1 o1 b2 o2 sb so ks.length cap W3 hpos h9 hcap ((dC (hd _ (hN3 _ hb1))).trans (cellAt c1)) ((dC (hd _ (hN3 _ hb2))).trans (cellAt c2)) _ ?_
   have hval:Rep W3.drew N3 i3 (.fsl false (sortS ks).length ((sortS ks).map .str)) (.slice (some ⟨sb,so,none⟩) ks.length ks.length):=by
    rw [dD]
    refine⟨⟨sb,so,none⟩,ks.length,us,rfl,Nat.le_refl _,(fun h=>by cases h),.inr ⟨sb,so,rfl,hsb,hsc.congr (hd _ (hN3 _ hsb))⟩,hone,RepL.mono (⟨fun _ h=>h,fun b hb=>hd b (hN3 b hb),fun _ _ _ h=>h⟩:Le w3 N3 P0 W3.drew N3 P0) _ hrep⟩
   have hR:=B0 (n:=4 - 1) (g:=fn) (l:=w3.heap.size+1) (r:=recd fn a3 w3) (S:=sortS ks) (O:=0) hl hv hSm (by rw [dD];exact h9) S4 (hf0.ext e3) T4 rfl rfl (by simp [St.get]) (by simp [St.get]) rfl (by show 0 < 1;omega) hval hr3 rfl rfl (fun h=>by have:=hN3 _ h;omega) (fun h=>by have:=hL3 _ h;omega)
   have et:Array.foldl (fun tmps (x:Tmp×Value)=>match x with | (t,a)=>tmps.setIfInBounds t a) (recd fn a3 w3).tmps ((recd fn a3 w3).params.zip #[Value.slice (some ⟨sb,so,none⟩) ks.length ks.length])=a3.tmps.setIfInBounds 12 (.slice (some ⟨sb,so,none⟩) ks.length ks.length):=by simp [recd]
   have hy:=run_yield (P:=prog) (w:=W3.drew) (args:=#[Value.slice (some ⟨sb,so,none⟩) ks.length ks.length]) (r:=recd fn a3 w3) hr3 rfl
   rw [et] at hy
   refine⟨fn,_,_,_,hy,hR.mono ?_⟩
   rintro e W' ⟨rfl,M,P,N',i',k1,k2,k3,k4,k5,k6⟩
   have kk:∀b,N3 b→W'.heap[b]?=w3.heap[b]?:=fun b hb=>by
    have h1:=(k2.le S4).hw b hb
    rw [cU _ _ _ (by have:=hN3 _ hb;omega)] at h1
    exact h1.trans (hd b (hN3 b hb))
   refine⟨rfl,(dC (kk _ hb1)).trans (cellAt c1),(dC (kk _ hb2)).trans (cellAt c2),M,P,N',i',k1,k2,k3,k4,k5,?_⟩
   rw [k6,leafB,dD]
   rfl
  ·rintro W' ⟨M,P,N',i',k1,k2,k3,k4,k5,k6⟩
   refine⟨k3,?_⟩
   have E5:=(E4.trans k2).other (w':=W') (by simp) (fun b hb=>(cU _ _ _ (by omega)).symm) rfl rfl rfl
   have hl':w3.heap.size+1 < W3.drew.heap.size:=by show _ < W3.heap.size;omega
   have nN:∀b,w3.heap.size≤b→b < W3.heap.size→¬N' b:=fun b h1 h2 h=>by
    rcases k2.iV b h with h | h | h
    ·have:=hN3 _ h;omega
    ·have:=hL3 _ h;omega
    ·exact Nat.not_lt.2 h h2
   have nL:∀b,w3.heap.size≤b→b < W3.heap.size→¬Live M i' b:=fun b h1 h2 h=>by
    rcases k2.grow b h with h | h
    ·have:=hL3 _ h;omega
    ·exact Nat.not_lt.2 h h2
   have hDk:W'.heap[w3.heap.size]?=some (.deferred (some [])):=by
    have h1:=k2.keep w3.heap.size (by show _ < W3.heap.size;omega) (fun h=>by have:=hL3 _ h;omega)
    rw [cU _ _ _ (by omega)] at h1
    exact h1.trans hD3
   have T5:=bG.Hd (m':=M) ((T4.mono (k2.le S4)).mono (w':=W') (N':=N') (i':=i') ⟨fun _ h=>h,fun b hb=>(cU _ _ _ (fun e=>nN b (by omega) (by omega) hb)).symm,fun _ _ _ h=>h⟩)
   refine jR (D:=w3.heap.size) (l:=w3.heap.size+1) (x:=.sl P 256 0 1 256) ((hf0.ext e3).ext k2) k1 E5 T5 (by simp) k5 hDk (nN _ (by omega) (by omega)) (nL _ (by omega) (by omega)) hW3 (by omega) (nN _ (by omega) (by omega)) (nL _ (by omega) (by omega)) (by omega) ?_
   rintro w6 N6 i6 u s6 e6 ⟨b,o,c,off',cap',hi,rfl,hc1,hc2,hc3⟩
   have hlen:(u8L (padB (leafB ks vs))).length=256:=by simp [u8L,padB]
   obtain⟨g0,arr,elem,fr,us',g1,g2,g3,g4,g5,g6,g7⟩:=s6.cells k6 hlen hi
   have hlive:Live M i6 b:=⟨P,_,o,c,k6,by rw [show AObj.top (.cells (u8L (padB (leafB ks vs))))=256 from hlen];exact hi⟩
   have hbW:W.heap.size≤b:=by
    rcases e6.grow b hlive with h | h
    ·exact(bL h).elim
    ·exact h
   refine .inr ⟨hne,b,off',cap',us',rfl,hc2,hbW,(s6.dy hlive).2,?_,g6,pQ _ g7⟩
   rw [hc1 (by omega)]
   exact g5
theorem kP:∀ {l:List AV} {r:List (List UInt8)},strsO l=some r→l=r.map .str
 | [],r,h=>by simp [strsO] at h;subst h;rfl
 | a::l,r,h=>by
  cases a<;>simp only [strsO] at h<;>try (cases h;done)
  simp only [Option.map_eq_some_iff] at h
  obtain⟨r',h1,rfl⟩:=h
  rw [kP h1];rfl
theorem im:∀l:List (List UInt8),closedL (l.map .str)=true
 | []=>rfl
 | a::l=>by simp only [List.map_cons,closedL,AV.closed,im l,Bool.and_self]
theorem G8:eO prog 53:=by
 intro args m r h w N i us hs hf hG ha
 have h:leavesA m args=some r:=h
 unfold leavesA at h
 split at h
 ·rename_i id
  split at h
  ·rename_i g' ks0 vs0 ho
   unfold leavesL at h
   simp only [Option.bind_eq_some_iff] at h
   obtain⟨ks,hks,vs,hvs,h⟩:=h
   have e1:=kP hks
   have e2:=kP hvs
   subst e1 e2
   obtain⟨v,us',rfl,hv,hn⟩:=ha
   cases hn
   obtain⟨b,o,c,es,q1,rfl,q3,q4,q5,q6⟩:=hs.gJ ho hv
   cases hb:Nat.ble ks.length 9&&decide ks.Nodup&&ks.all (fun k=>Nat.ble k.length 100)&&vs.all (fun k=>Nat.ble k.length 100) with
   | false=>rw [hb] at h;cases h
   | true =>
    rw [hb,cond_true] at h
    simp only [Bool.and_eq_true,Nat.ble_eq,decide_eq_true_eq,List.all_eq_true] at hb
    obtain⟨⟨⟨b1,b2⟩,b3⟩,b4⟩:=hb
    have hlive:Live m i b:=⟨_,_,o,c,ho,q1⟩
    have l:Le w N P0 w (NL m N i) P0:=⟨fun _ h=>.inl h,fun _ _=>rfl,fun _ _ _ h=>h⟩
    have hlen:ks.length=vs.length:=by
     have h1:=q5.length
     have h2:=q6.length
     simp at h1 h2
     omega
    have hNL:∀b,NL m N i b→b < w.heap.size:=fun b hb=>hb.elim (hs.nlt b) fun h=>(hs.dy h).2
    have hG':de w (NL m N i):=hG.mono (i:=P0) (i':=P0) l
    have hcall:=nU (u:=.map (some b)) hlen b2 b1 b3 b4 hNL hG' ⟨b,es,es.size,.inr hlive,rfl,⟨q3,rfl,q4⟩,RepL.mono l _ (RepL.closed _ (im _) q5),RepL.mono l _ (RepL.closed _ (im _) q6)⟩
    refine hcall.mono ?_
    rintro e w' ⟨v,rfl,c1,c2,c3,c4,c5,c6⟩
    have hlt:∀b,(N b∨w.heap.size≤b∧b < w'.heap.size)→b < w'.heap.size:=fun b hb=>hb.elim (fun h=>Nat.lt_of_lt_of_le (hs.nlt b h) c1) (·.2)
    obtain⟨z1,z2⟩:=hs.below (w':=w') (N':=fun b=>N b∨w.heap.size≤b∧b < w'.heap.size) c1 c5 (fun _ h=>.inl h) (fun b hb=>hb.imp_right (·.1)) hlt c2 c3 c4
    rcases c6 with ⟨rfl,rfl⟩ | ⟨hne,b',off,cap,us,rfl,d1,d2,d3,d4,d5,d6⟩
    ·have h:some (AV.nils,m)=some r:=h
     cases h
     exact⟨_,_,i,rfl,z1,z2,rfl⟩
    ·cases ks with
     | nil=>exact(hne rfl).elim
     | cons k ks =>
      have h:some (AV.fsl false 1 (u8L (padB (leafB (k::ks) vs))),m)=some r:=h
      cases h
      exact⟨_,_,i,rfl,z1,z2,⟨b',off,none⟩,cap,us,rfl,d1,(fun h=>by cases h),.inr ⟨b',off,rfl,.inr ⟨d2,d3⟩,d4⟩,d5,pQ _ d6⟩
  ·cases h
 ·cases h
end Go.Proofs.YtadofgdidhpnpaaGreatDoor

/-
  load AS ONE STEP. Conditions: none.
-/
namespace Go.Proofs.YtadofgdidhpnpaaGreatDoor
open Go.AM Go.Shelf
open Go.Proofs
open Go.Proofs.Tryz (prog)
set_option linter.all false
set_option maxRecDepth 100000
noncomputable def reg1:Code:=aa cf.b0 1
noncomputable def posA:String:=match reg1 with
 | .region _ ops _=>(ops[0]?.map (·.pos)).getD ""
 | _=> ""
theorem D9:Tryz.f43.body=some (.seq cf.s0 (.seq reg1 cf.b)):=by kernel_rfl
theorem BV:reg1=.region 1 #[{ dst:=some 6,op:=.makeFunc (.func 68) #[] #[.tmp 4,.tmp 5],type:=1,pos:=posA,after:=#[],guard:=none },{ dst:=none,op:=.defer { callee:=.value (.tmp 6),args:=#[],argTypes:=#[] },type:=0,pos:=posA,after:=#[⟨0,.data⟩],guard:=none }] false:=by kernel_rfl
def blur (a:AV):AV:=bif a.closed then a else .undef
theorem rH {w:World} {N:Nat→Prop} {i:Pl} {N':Nat→Prop} (l:Le w N P0 w N' P0):∀ {xs:List AV} {vs:List Value},RepL w N i xs vs→RepL w N' P0 (xs.map blur) vs
 | [],_,h=>h
 | a::xs,vs,⟨v,r,h1,h2,h3⟩=>by
  refine⟨v,r,h1,?_,rH l h3⟩
  unfold blur
  cases hc:a.closed with
  | true=>exact Rep.mono l _ (Rep.closed _ hc h2)
  | false=>exact trivial
theorem Ha {n:Nat} {a:Act} {w:World} {p4 p5:Value} (h4:a.eval (.tmp 4)=p4) (h5:a.eval (.tmp 5)=p5) (hd:a.defers=[]) (hz:6 < a.tmps.size) {K:Act→World→Prop} {Q:Exit→Act→World→Prop}
  (h:K (more (a.put (some 6) (.func (.func 68) #[] #[p4,p5])) [{ target:=.fn (.func 68) #[p4,p5],args:=#[] }]) w):reg1.wpIn Fence.wide n prog (Exit.then K Q) a w:=by
 rw [BV]
 apply wpIn_region
 have hmf:∀(fn:Fn) (first cap:Array Value) (w:World),(Instr.makeFunc fn first cap).run prog w=.ok (.func fn first cap) w:=fun _ _ _ _=>rfl
 have e4:a.tmps[4]?.getD undef=p4:=by simpa [Act.eval] using h4
 have e5:a.tmps[5]?.getD undef=p5:=by simpa [Act.eval] using h5
 simp [wpOpsIn,go_sem,hmf,hz,e4,e5,Oper.uponIn]
 simpa [more,hd,Act.put] using h
theorem rI {C:List AV} {n t:Int} {r:AV} {PM:Mem→Prop} (hr:∀(ts:List (Nat×AV)) (h:Nat→Option AObj),AM.get ts 0=.fptr C→AM.get ts 3=.fptr [.int .u64 n,.int .i64 t]→AM.get ts 4=.ptr 0 0 2→AM.get ts 5=.ptr 1 0 1→h 0=some (.cells [.nilm,.nilm])→h 1=some (.cells [.bool false]) →
   ∃M,den prog aw 43 [.code cf.b] ⟨ts,17,⟨h,2⟩⟩=some (r,M)∧PM M)
  {W:World} {N:Nat→Prop} {u1 u2:Value} (hN:∀b,N b→b < W.heap.size) (hG:de W N) (hu1:Rep W N P0 (.fptr C) u1) (hu2:Rep W N P0 (.agg [.int .u64 n,.int .i64 t]) u2) :
  Calls prog 43 #[u1,u2] W fun e W'=>∃v M N' i',e=.returned v∧PM M∧Sim M W' N' i'∧Ext Mem.empty W N P0 M W' N' i'∧Rep W' N' i' r v:=by
 refine callsIn_wide.1 (callsIn_of_wp_marks (n:=5) Tryz.func43 D9 trivial ?_)
 have hf0:Fresh Mem.empty P0:=fun _ _ _=>rfl
 have hs0:=dV hN
 have st0:bG W N P0 ⟨[(0,.fptr C),(1,.agg [.int .u64 n,.int .i64 t])],17,Mem.empty⟩ { tmps:=#[u1,u2]++Array.replicate (Tryz.f43.ntmps - (#[u1,u2]:Array Value).size) undef,defers:=[] } :=
  kx (fn:=Tryz.f43) (args:=[.fptr C,.agg [.int .u64 n,.int .i64 t]]) (us:=[u1,u2]) ⟨u1,_,rfl,hu1,u2,[],rfl,hu2,rfl⟩ hG (by show 2≤17;omega)
 rw [← ig ({ tmps:=#[u1,u2]++Array.replicate (Tryz.f43.ntmps - (#[u1,u2]:Array Value).size) undef,defers:=[] }:Act)]
 have hr0:regS prog aw 43 cf.s0 ⟨[(0,.fptr C),(1,.agg [.int .u64 n,.int .i64 t])],17,Mem.empty⟩=some ⟨[(5,.ptr 1 0 1),(4,.ptr 0 0 2),(3,.fptr [.int .u64 n,.int .i64 t]),(0,.fptr C),(1,.agg [.int .u64 n,.int .i64 t])],17,⟨upd (upd Mem.empty.h 0 (some (.cells [.nilm,.nilm]))) 1 (some (.cells [.bool false])),2⟩⟩:=by
  rw [cf.rh]
  simp [mregS,mrunS,mb,Mem.empty,frozenPtr]
 refine wpIn_seq (gl mixed gI gr (.inl rfl) hf0 (f:=43) (by kernel_rfl) hr0 ⟨N,P0,hs0,Ext.refl _ _ _ _,st0⟩ ?_)
 rintro a1 w1 ⟨N1,i1,s1,e1,t1⟩
 show(Code.seq reg1 cf.b).wpIn _ _ _ _ (more a1 []) w1
 rw [ig]
 refine wpIn_seq (Ha rfl rfl t1.dfr (by rw [t1.size];show 6 < 17;omega) ?_)
 obtain⟨p4,hp4⟩:∃p,a1.eval (.tmp 4)=p:=⟨_,rfl⟩
 obtain⟨p5,hp5⟩:∃p,a1.eval (.tmp 5)=p:=⟨_,rfl⟩
 rw [hp4,hp5]
 have t2:=t1.put (d:=some 6) (s':=⟨(6,.undef)::[(5,.ptr 1 0 1),(4,.ptr 0 0 2),(3,.fptr [.int .u64 n,.int .i64 t]),(0,.fptr C),(1,.agg [.int .u64 n,.int .i64 t])],17,⟨upd (upd Mem.empty.h 0 (some (.cells [.nilm,.nilm]))) 1 (some (.cells [.bool false])),2⟩⟩) (by simp [St.put]) (show Rep w1 N1 i1 .undef (.func (.func 68) #[] #[p4,p5]) from trivial)
 obtain⟨M,hM,hPM⟩:=hr ((6,.undef)::[(5,.ptr 1 0 1),(4,.ptr 0 0 2),(3,.fptr [.int .u64 n,.int .i64 t]),(0,.fptr C),(1,.agg [.int .u64 n,.int .i64 t])]) (upd (upd Mem.empty.h 0 (some (.cells [.nilm,.nilm]))) 1 (some (.cells [.bool false]))) (by simp) (by simp) (by simp) (by simp) (by simp) (by simp)
 refine wi mixed gI gr (.inl rfl) hf0 (f:=43) (fn:=Tryz.f43) (by kernel_rfl) (rt:=true) (by kernel_rfl) hM ⟨N1,i1,s1,e1,t2⟩ ?_
 rintro s' a' w' ⟨N3,i3,s3,e3,t3⟩ hfin
 have fin:LeavesInM Fence.wide 5 prog Tryz.f43 a'.tmps (fun e W'=>∃v M N' i',e=.returned v∧PM M∧Sim M W' N' i'∧Ext Mem.empty W N P0 M W' N' i'∧Rep W' N' i' r v) (a'.defers++[{ target:=.fn (.func 68) #[p4,p5],args:=#[] }]) .returning w':=by
  rw [t3.dfr]
  obtain⟨b0,o0,us0,hb0,hp0,c0,_,x0,r0,hr0',⟨u0,hx0,_⟩,_⟩:=t3.fP 0
  simp only [Value.pointer.injEq,Option.some.injEq,Addr.mk.injEq] at hp0
  obtain⟨rfl,rfl,_⟩:=hp0
  subst hr0' hx0
  refine⟨by simp,.inr ⟨(fun h=>by cases h),_,_,68,#[p4,p5],rfl,?_,fun _ _=>trivial,(zW _ p4 p5 206 u0 w' (cellAt c0)).mono ?_⟩⟩
  ·have eg:Enters prog 68:=enters_of Tryz.func68 (by kernel_rfl) rfl
   have e3:(#[p4,p5]:Array Value)=#[]++#[p4,p5]:=by simp
   simp only [invoke,go_sem]
   rw [e3]
   exact eg _ _
  ·rintro e u' w'' ⟨rfl,rfl,rfl⟩
   have hp0:(aw 43).pure=false:=by kernel_rfl
   simp only [finA,hp0,cond_false,Option.bind_eq_some_iff] at hfin
   obtain⟨vs',h8,h9⟩:=hfin
   obtain⟨u,k1,k2⟩:=gQ (P:=prog) (fn:=Tryz.f43) s3 t3 h8
   have h10:tupOf vs'=r:=(Prod.mk.inj (Option.some.inj h9)).1
   have h11:s'.m=M:=(Prod.mk.inj (Option.some.inj h9)).2
   exact⟨u,k1,u,_,_,_,rfl,h11 ▸ hPM,s3,e3,h10 ▸ k2⟩
 exact⟨fin,fun _=>fin⟩
theorem C7 {m0 m:Mem} {w0 w:World} {N0 N:Nat→Prop} {i0 i:Pl} (e:Ext m0 w0 N0 i0 m w N i) (hs:Sim m w N i) (hf:Fresh m i) {b:Nat} (hbW:w0.heap.size≤b) (hbN:¬N b) (hbL:¬Live m i b) {ks vs:List AV} {es:Array MapEntry} (he:w.heap[b]?=some (.map es es.size)) (hb:∀(k:Nat) e,es[k]?=some e→e.born=k) (hk:RepL w N i ks (es.toList.map (·.key))) (hv:RepL w N i vs (es.toList.map (·.val))) :
  Sim (m.new (.map 0 ks vs)) w N (updPl i m.nx 0 (b,0,0))∧Ext m0 w0 N0 i0 (m.new (.map 0 ks vs)) w N (updPl i m.nx 0 (b,0,0))∧Fresh (m.new (.map 0 ks vs)) (updPl i m.nx 0 (b,0,0)):=by
 have hi:∀id t x,i id t=some x→updPl i m.nx 0 (b,0,0) id t=some x:=fun id t x h=>by
  rw [bB _ _ (fun hh=>by rw [hh.1,hf _ (Nat.le_refl _)] at h;cases h)];exact h
 have l:Le w N i w N (updPl i m.nx 0 (b,0,0)):=⟨fun _ h=>h,fun _ _=>rfl,hi⟩
 refine⟨hs.new (hf _ (Nat.le_refl _)) (w':=w) (o:=.map 0 ks vs) (b:=b) (p:=0) (c:=0) (Nat.le_refl _) (fun _ _=>rfl) hbN hbL ⟨es,he,hb,RepL.mono l _ hk,RepL.mono l _ hv,Nat.zero_le _⟩,⟨e.os,e.tape,e.output,e.size,e.hN,fun id t x h=>hi _ _ _ (e.hi _ _ _ h),e.keep,fun k hk=>?_,e.iV,Nat.le_trans e.nx (Nat.le_succ _),fun id t x h=>?_⟩,fun id hid t=>?_⟩
 ·rcases gg hk with h | h
  ·exact e.grow k h
  ·exact .inr (by omega)
 ·rcases kz id t x h with ⟨t',y,h'⟩ | h'
  ·exact(e.pl id t' y h').imp_right fun h=>⟨h.1,Nat.lt_succ_of_lt h.2⟩
  ·exact .inr ⟨Nat.le_trans e.nx h'.1,h'.2⟩
 ·have hid:m.nx+1≤id:=hid
  rw [bB _ _ (by omega)]
  exact hf id (by omega) t
def Any (ks:List AV):Prop:=∀(w w':World) (N N':Nat→Prop) (i i':Pl) (l:List Value),RepL w N i ks l→RepL w' N' i' ks l
theorem any_nil:Any []:=fun _ _ _ _ _ _ _ h=>h
theorem mS:∀l:List (List UInt8),Any (l.map .str)
 | [],_,_,_,_,_,_,_,h=>h
 | a::l,w,w',N,N',i,i',us,⟨v,r,h1,h2,h3⟩=>⟨v,r,h1,h2,mS l w w' N N' i i' r h3⟩
theorem BW (n:Int):Any [.int .i64 n]:=fun _ _ _ _ _ _ us ⟨v,r,h1,h2,h3⟩=>⟨v,r,h1,h2,h3⟩
theorem zX (b:List UInt8):Any [.agg (u8L b)]:=fun _ _ _ _ _ _ us ⟨v,r,h1,⟨vs,e,h2⟩,h3⟩=>⟨v,r,h1,⟨vs,e,pQ b h2⟩,h3⟩
theorem rJ {C:List AV} {n t:Int} {ks1 vs1 ks2 vs2:List AV} (a1:Any ks1) (a2:Any vs1) (a3:Any ks2) (a4:Any vs2)
  (hr:∀(ts:List (Nat×AV)) (h:Nat→Option AObj),AM.get ts 0=.fptr C→AM.get ts 3=.fptr [.int .u64 n,.int .i64 t]→AM.get ts 4=.ptr 0 0 2→AM.get ts 5=.ptr 1 0 1→h 0=some (.cells [.nilm,.nilm])→h 1=some (.cells [.bool false]) →
   ∃M,den prog aw 43 [.code cf.b] ⟨ts,17,⟨h,2⟩⟩=some (.tup [.agg [.map 3,.map 4],.bool true],M)∧(∃g,M.h 3=some (.map g ks1 vs1))∧∃g,M.h 4=some (.map g ks2 vs2))
  {m:Mem} {w:World} {N:Nat→Prop} {i:Pl} (hs:Sim m w N i) (hf:Fresh m i) (hG:de w N) {u1 u2:Value} (hu1:Rep w (NL m N i) P0 (.fptr C) u1) (hu2:u2=.agg #[.int .u64 n,.int .i64 t]) :
  Calls prog 43 #[u1,u2] w fun e w'=>∃v N' i',e=.returned v∧Sim ((m.new (.map 0 ks1 vs1)).new (.map 0 ks2 vs2)) w' N' i'∧Ext m w N i ((m.new (.map 0 ks1 vs1)).new (.map 0 ks2 vs2)) w' N' i'∧Rep w' N' i' (.tup [.agg [.map m.nx,.map (m.nx+1)],.bool true]) v:=by
 have l:Le w N P0 w (NL m N i) P0:=⟨fun _ h=>.inl h,fun _ _=>rfl,fun _ _ _ h=>h⟩
 have hNL:∀b,NL m N i b→b < w.heap.size:=fun b hb=>hb.elim (hs.nlt b) fun h=>(hs.dy h).2
 refine(rI hr hNL (hG.mono (i:=P0) (i':=P0) l) hu1 (by subst hu2;exact⟨_,rfl,_,_,rfl,rfl,_,_,rfl,rfl,rfl⟩)).mono ?_
 rintro e w' ⟨v,M,N',i',rfl,⟨⟨g1,o1⟩,g2,o2⟩,s',e',hv⟩
 obtain⟨vs,rfl,v1,r1,hv1,⟨vs',rfl,x1,r2,hx1,⟨b1,p1,c1,i1,rfl⟩,x2,r3,hx2,⟨b2,p2,c2,i2,rfl⟩,hr3⟩,v2,r4,hv2,hb,hr4⟩:=hv
 obtain⟨b1',p1',c1',es1,q1,f1,q3,q4,q5,q6⟩:=s'.gJ o1 ⟨b1,p1,c1,i1,rfl⟩
 obtain⟨b2',p2',c2',es2,z1,f2,z3,z4,z5,z6⟩:=s'.gJ o2 ⟨b2,p2,c2,i2,rfl⟩
 cases f1
 cases f2
 have live1:Live M i' b1:=⟨3,_,p1,c1,o1,i1⟩
 have live2:Live M i' b2:=⟨4,_,p2,c2,o2,i2⟩
 have w1:w.heap.size≤b1:=(e'.grow b1 live1).resolve_left bL
 have w2:w.heap.size≤b2:=(e'.grow b2 live2).resolve_left bL
 have hne:b1≠b2:=fun h=>by
  subst h
  have:=s'.inj 3 4 _ _ _ _ _ _ _ o1 o2 i1 i2
  omega
 obtain⟨y1,y2⟩:=hs.below (w':=w') (N':=N) e'.size (fun b hb=>e'.keep b hb bL) (fun _ h=>h) (fun _ h=>.inl h) (fun b hb=>Nat.lt_of_lt_of_le (hs.nlt b hb) e'.size) e'.os e'.tape e'.output
 have nN:∀b,w.heap.size≤b→¬N b:=fun b h1 h2=>by have:=hs.nlt b h2;omega
 have nL:∀b,w.heap.size≤b→¬Live m i b:=fun b h1 h2=>by have:=(hs.dy h2).2;omega
 obtain⟨k1,k2,k3⟩:=C7 y2 y1 hf w1 (nN b1 w1) (nL b1 w1) q3 q4 (a1 _ _ _ _ _ _ _ q5) (a2 _ _ _ _ _ _ _ q6)
 have nL2:¬Live (m.new (.map 0 ks1 vs1)) (updPl i m.nx 0 (b1,0,0)) b2:=fun h=>by
  rcases gg h with h | h
  ·exact nL b2 w2 h
  ·exact hne h.symm
 obtain⟨k4,k5,k6⟩:=C7 k2 k1 k3 w2 (nN b2 w2) nL2 z3 z4 (a3 _ _ _ _ _ _ _ z5) (a4 _ _ _ _ _ _ _ z6)
 refine⟨_,N,_,rfl,k4,k5,vs,rfl,_,r1,hv1,⟨vs',rfl,_,r2,hx1,⟨b1,0,0,?_,rfl⟩,_,r3,hx2,⟨b2,0,0,bE ..,rfl⟩,hr3⟩,v2,r4,hv2,hb,hr4⟩
 rw [bB _ _ (by show ¬(m.nx=m.nx+1∧_);omega)]
 exact bE ..
theorem rK:∀ {l:List AV} {b:List UInt8},bytesOf l=some b→allU8 l=true→l=u8L b
 | [],b,h,_=>by simp [bytesOf] at h;subst h;rfl
 | a::l,b,h,ha=>by
  unfold allU8 at ha
  split at ha
  ·rename_i heq;cases heq
  ·rename_i n r heq
   cases heq
   simp only [Bool.and_eq_true,decide_eq_true_eq] at ha
   simp only [bytesOf,Option.bind_eq_some_iff,Option.some.injEq] at h
   obtain⟨b',h1,rfl⟩:=h
   rw [rK h1 ha.2]
   show AV.int .u8 n::u8L b'=AV.int .u8 ((UInt8.ofNat n.toNat).toNat:Nat)::u8L b'
   have:((UInt8.ofNat n.toNat).toNat:Int)=n:=by simp;omega
   rw [this]
  ·cases ha
theorem BX (l:List UInt8):(u8L l).map blur=u8L l:=by
 rw [u8L,List.map_map]
 rfl
theorem G9:eO prog 43:=by
 intro args m r h w N i us hs hf hG ha
 have h:loadR m args=some r:=h
 unfold loadR at h
 split at h
 ·rename_i id top n t _
  split at h
  ·rename_i xs ho
   cases hl:xs.length==top with
   | false=>rw [hl] at h;cases h
   | true =>
    rw [hl] at h
    simp only [Bool.not_true,cond_false] at h
    have hl:xs.length=top:=by simpa using hl
    obtain⟨u1,us1,rfl,hu1,u2,us2,rfl,hu2,hnil⟩:=ha
    have hnil:us2=[]:=hnil
    subst hnil
    obtain⟨b,o,c,hi,rfl⟩:=hu1
    obtain⟨g0,arr,elem,fr,vs,g1,g2,g3,g4,g5,g6,g7⟩:=hs.cells ho hl hi
    have hlive:Live m i b:=⟨id,_,o,c,ho,by rw [show AObj.top (.cells xs)=top from hl];exact hi⟩
    have l:Le w N P0 w (NL m N i) P0:=⟨fun _ h=>.inl h,fun _ _=>rfl,fun _ _ _ h=>h⟩
    have hC:Rep w (NL m N i) P0 (.fptr (xs.map blur)) (.pointer (some ⟨b,o+0,none⟩)):=⟨b,o+0,vs,.inr hlive,rfl,g5,g6,rH l g7⟩
    have e2:u2=.agg #[.int .u64 n,.int .i64 t]:=by
     obtain⟨vs,rfl,v1,r1,h1,rfl,v2,r2,h2,rfl,h3⟩:=hu2
     have h3:r2=[]:=h3
     rw [h2,h3] at h1
     congr 1
     exact Array.toList_inj.1 h1
    cases ht0:decide (t=0) with
    | true =>
     rw [ht0,cond_true] at h
     cases h
     have:t=0:=by simpa using ht0
     subst this
     refine rJ any_nil any_nil any_nil any_nil (fun ts h h0 h3 h4 h5 o0 o1=>?_) hs hf hG hC e2
     obtain⟨M,k1,k2,k3⟩:=tR _ n ts h h0 h3 h4 h5 o0 o1
     exact⟨M,k1,⟨0,k2⟩,0,k3⟩
    | false =>
     rw [ht0,cond_false] at h
     cases htp:decide (0 < t) with
     | false=>rw [htp] at h;cases h
     | true =>
      rw [htp,cond_true] at h
      have htp:0 < t:=by simpa using htp
      obtain⟨tn,rfl⟩:∃tn:Nat,t=tn:=⟨t.toNat,by omega⟩
      simp only [Int.toNat_natCast] at h
      unfold loadT at h
      simp only [Option.bind_eq_some_iff] at h
      obtain⟨bs,hbs,lf,hlf,h⟩:=h
      cases hcond:madeB xs&&allU8 ((xs.drop (5+256*tn)).take 256)&&Nat.ble 2 tn&&Nat.ble tn 255&&xs.length==65542&&bs.length==256&&decide lf.1.Nodup with
      | false=>rw [hcond] at h;cases h
      | true =>
       rw [hcond,cond_true] at h
       cases h
       simp only [Bool.and_eq_true,Nat.ble_eq,beq_iff_eq,decide_eq_true_eq] at hcond
       obtain⟨⟨⟨⟨⟨⟨c1,c0⟩,c2⟩,c3⟩,c4⟩,c5⟩,c6⟩:=hcond
       unfold leafOf at hlf
       split at hlf
       ·rename_i n8 b
        refine rJ (mS _) (mS _) (BW _) (zX _) (fun ts h h0 h3 h4 h5 o0 o1=>?_) hs hf hG hC e2
        have hh:(xs.map blur).head?=some (.bool true):=by
         cases xs with
         | nil=>cases c1
         | cons x xs =>
          cases x<;>try (cases c1;done)
          have c1:_=true:=c1
          subst c1
          rfl
        have hd:((xs.map blur).drop (5+256*tn)).take 256=u8L (1::n8::b):=by
         rw [← List.map_drop,← List.map_take,rK hbs c0]
         exact BX _
        obtain⟨M,g',k1,k2,k3⟩:=tS (xs.map blur) n hh tn (by omega) (by omega) n8 b c5 hd (by simp;omega) lf.1 lf.2 hlf c6 ts h h0 h3 h4 h5 o0 o1
        exact⟨M,k1,⟨g',k2⟩,1,k3⟩
       ·cases hlf
  ·cases h
 ·cases h
end Go.Proofs.YtadofgdidhpnpaaGreatDoor

/-
  THE FUNCTIONS THAT ARE TAKEN AS ONE STEP DO WHAT THEY MUST. Conditions: none.
-/
namespace Go.Proofs.YtadofgdidhpnpaaGreatDoor
open Go.AM
open Go.Proofs.Tryz (prog)
set_option maxRecDepth 100000
theorem Ik:∀g,(ann g).srt=true→fT prog ann g:=fun g h=>by
 have:=rb (l:=annL) (d:=⟨false,[],[],[],[]⟩) rfl (fun g=>g==26||(g==28||(g==33||(g==47||(g==53||g==43))))) (by kernel_rfl) g h
 have e:g=26∨g=28∨g=33∨g=47∨g=53∨g=43:=by simpa using this
 rcases e with rfl | rfl | rfl | rfl | rfl | rfl
 ·exact eG (by kernel_rfl) CK
 ·exact eG (by kernel_rfl) CL
 ·exact eG (by kernel_rfl) CM
 ·exact eG (by kernel_rfl) CN
 ·exact eG (by kernel_rfl) G8
 ·exact eG (by kernel_rfl) G9
end Go.Proofs.YtadofgdidhpnpaaGreatDoor
