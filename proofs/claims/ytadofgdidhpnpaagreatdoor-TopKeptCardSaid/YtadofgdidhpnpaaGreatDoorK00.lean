/-
  THE ABSTRACT MACHINE: a package variable that reads as a told datum (numbers, slices, structs) stands for the abstract value of that datum. Conditions: none.
-/
import Derived.LaidLaws
import Derived.RangeFuncLeaves
import Derived.OrdersIn
import Derived.Shelf.SlIter.Sorted
import Derived.Shelf.SortM.Plain
import Derived.Shelf.SortM.SortNone
import Derived.Shelf.SlMaps.Clone
import Derived.Shelf.SlIterI.Sorted
import Derived.Test.YtadofgdidhpnpaaGreatDoorKAmD
import Derived.Test.YtadofgdidhpnpaaGreatDoorKAmE
import Derived.Test.YtadofgdidhpnpaaGreatDoorKAmH
import Derived.Test.YtadofgdidhpnpaaGreatDoorKAmG
set_option linter.all false
namespace Go.AM
end Go.AM

/-
  WALKS IN A ROUND, AND AT A FRAME WITH DEFERRED CALLS, by the machine's own runs. Conditions: none.
-/
namespace Go.AM
set_option linter.all false
def more (a:Act) (ds:List Deferred):Act:={ a with defers:=a.defers++ds }
theorem ig (a:Act):more a []=a:=by simp [more]
theorem ij (a:Act) (d:Option Nat) (v:Value) (ds:List Deferred):(more a ds).put d v=more (a.put d v) ds:=by cases d<;>rfl
theorem oH (a:Act) (ds:List Deferred):(more a ds).eval=a.eval:=funext fun x=>by cases x<;>rfl
def Free (F:Fence):Prop:=F=Fence.wide∨∃l,F=Fence.wide.inRound l
theorem Free.fn {F:Fence} (h:Free F) (f:FuncId):F.fn f:=by rcases h with rfl | ⟨l,rfl⟩<;>exact trivial
theorem Free.dep {F:Fence} (h:Free F):F.depth.isSome=true→False:=by rcases h with rfl | ⟨l,rfl⟩<;>(intro h;cases h)
theorem Free.fenced {F:Fence} (h:Free F) (P:Program):Machine.fenced P F=Machine.fenced P Fence.wide:=by rcases h with rfl | ⟨l,rfl⟩<;>rfl
theorem Free.steps {F:Fence} (h:Free F) {P:Program} {m m':Machine}:StepsIn (Machine.fenced P F) P m m'↔Steps P m m':=by rw [h.fenced];exact stepsIn_wide
theorem Free.calls {F:Fence} (h:Free F) {n:Nat} {P:Program} {f:FuncId} {args:Array Value} {w:World} {R:Ending→World→Prop} (hc:Calls P f args w R):CallsIn F n P f args w R:=by
 rcases h with rfl | ⟨l,rfl⟩
 ·exact callsIn_wide.2 hc
 ·exact(callsIn_wide (n:=n)).2 hc
theorem Free.rows {F:Fence} (h:Free F) {n:Nat} {P:Program} {row:String} {args:Array Value} {w:World} {R:Value→World→Prop} (hc:Rows P row args w R):RowsIn F n P row args w R :=
 fun c cs _=>let ⟨v,w',r,s⟩:=hc c cs;⟨v,w',r,h.steps.2 s⟩
def ndO (o:Oper):Bool:=match o.op with
 | .defer _=>false
 | _=>true
theorem zP {o:Oper} (h:ndO o=true):∀c,o.op≠.defer c:=by
 intro c hc
 simp [ndO,hc] at h
def ndC (rt:Bool):Code→Bool
 | .region _ ops _=>ops.toList.all ndO
 | .seq a b=>ndC rt a&&ndC rt b
 | .cond _ a b=>ndC rt a&&ndC rt b
 | .block _ c=>ndC rt c
 | .loop c=>ndC rt c
 | .scope c=>ndC rt c
 | .rangeFunc .. => false
 | .ret=>rt
 | _=>true
def ndI (rt:Bool):Item→Bool
 | .code c=>ndC rt c
 | .inLoop c=>ndC rt c
 | _=>true
theorem mL {rt:Bool} {id:Nat}:∀ {K K':List Item},exitTo id K=some K'→K.all (ndI rt)=true→K'.all (ndI rt)=true
 | [],K',h,_=>by simp [exitTo] at h
 | x::K,K',h,hn=>by
  simp only [List.all_cons,Bool.and_eq_true] at hn
  unfold exitTo at h
  split at h
  ·rename_i id' k heq
   cases heq
   split at h
   ·cases h;exact hn.2
   ·exact mL h hn.2
  ·rename_i k _ heq
   cases heq
   exact mL h hn.2
  ·rename_i heq;cases heq
theorem jr {id:Nat} (k:List Item):∀ {K K':List Item},exitTo id K=some K'→exitTo id (K++k)=some (K'++k)
 | [],K',h=>by simp [exitTo] at h
 | x::K,K',h=>by
  rw [List.cons_append]
  unfold exitTo at h ⊢
  split at h
  ·rename_i id' k' heq
   cases heq
   split at h
   ·rename_i hid;cases h;simp [hid]
   ·rename_i hid;simp [hid];exact jr k h
  ·rename_i k' hx heq
   cases heq
   split
   ·rename_i id' k'' heq;cases heq;exact(hx _ rfl).elim
   ·rename_i heq;cases heq;exact jr k h
   ·rename_i heq;cases heq
  ·rename_i heq;cases heq
theorem F8 {F:Fence} (hF:Free F) {n:Nat} {P:Program} {o:Oper} {a:Act} {ds:List Deferred} {w:World} {K K':Act→World→Prop} {Q Q':Exit→Act→World→Prop} (hd:ndO o=true)
  (hK:∀a w,K a w→K' (more a ds) w) (hQ:∀e a w,Q e a w→e=.normal) (h:o.wp P a w K Q):o.wpIn F n P (more a ds) w K' Q':=by
 refine⟨fun f _=>hF.fn f,?_⟩
 rw [oH,Oper.semAt_eq _ _ _ (zP hd)]
 unfold Oper.wp at h
 generalize (execOp a.eval o).run P w=r at h ⊢
 cases r with
 | ok x w' =>
  cases x<;>simp only [Oper.upon,Oper.uponIn] at h ⊢
  all_goals first
   | exact h.elim
   | (rw [ij];exact hK _ _ h)
   | skip
  ·exact⟨fun h=>(hF.dep h).elim,(hF.calls h).mono fun e w'' he=>by
    cases e with
    | returned v=>simp only at he ⊢;rw [ij];exact hK _ _ he
    | panicked ch=>have:=hQ _ _ _ he;cases this
    | outgrown=>obtain⟨a0,w0,hq⟩:=he;have:=hQ _ _ _ hq;cases this⟩
  ·have:=hK _ _ h
   rwa [← ij] at this
  ·exact⟨fun h=>(hF.dep h).elim,fun c cs hr=>let ⟨v,w'',h1,h2⟩:=hF.rows h c cs hr;⟨v,w'',by simp only [ij];exact hK _ _ h1,h2⟩⟩
 | halt x w' =>
  cases x<;>simp only [Oper.upon,Oper.uponIn] at h ⊢
  have:=hQ _ _ _ h
  cases this
theorem pL {F:Fence} (hF:Free F) {n:Nat} {P:Program} {ops:Array Oper} {ds:List Deferred} {Q Q':Exit→Act→World→Prop} (hd:ops.toList.all ndO=true)
  (hQ:∀e a w,Q e a w→e=.normal) (hK:∀a w,Q .normal a w→Q' .normal (more a ds) w):∀(l:List Nat) (a:Act) (w:World),wpOps P ops Q l a w→wpOpsIn F n P ops Q' l (more a ds) w
 | [],a,w,h=>hK a w h
 | i::l,a,w,h=>by
  simp only [wpOps] at h
  simp only [wpOpsIn]
  cases ho:ops[i]? with
  | none=>rw [ho] at h;exact pL hF hd hQ hK l a w h
  | some o =>
   rw [ho] at h
   simp only at h ⊢
   have hdo:ndO o=true:=List.all_eq_true.1 hd o (by
    obtain⟨hlt,rfl⟩:=Array.getElem?_eq_some_iff.1 ho
    exact Array.getElem_mem_toList hlt)
   show(if Region.wanted o (yielded ops a.tmps) then _ else _)
   split at h
   ·rename_i hw
    rw [if_pos hw]
    refine F8 hF hdo (fun a w h=>pL hF hd hQ hK l a w h) hQ (h.resolve_right ?_)
    rintro⟨_,a0,w0,hq⟩
    have:=hQ _ _ _ hq
    cases this
   ·rename_i hw
    rw [if_neg hw,ij]
    exact⟨fun f _=>hF.fn f,pL hF hd hQ hK l _ w h⟩
theorem BL {P:Program} {pf:FuncId→Bool} {call:CallF} (hP:NoNum P) (hc:dd P pf call) {R:Type} {md:Nat→Nat} {fz:List Nat} {ops:Array Oper} {k:St→Option R} {r:R} {Q:Exit→Act→World→Prop} {m0:Mem} {w0:World} {N0:Nat→Prop} {i0:Pl} (hf0:Fresh m0 i0)
  (hQ:∀s' a' w',k s'=some r→Good m0 w0 N0 i0 s' a' w'→Q .normal a' w') (hck:∀s',k s'=some r→ChkOk fz s') {s:St} {a:Act} {w:World} (hdr:bh pf md fz ops=true)
  (hr:opsA P pf call md ops (some s.m.nx) 0 ops.toList (s.nx (s.m.nx+ops.size)) k=some r) (hg:Good m0 w0 N0 i0 s a w):wpAny P .any ops Q ops.size (Array.replicate ops.size false) a { w with drawn:=w.drawn+1 }:=by
 have hd:=og hdr
 have hno4:∀(j:Nat) o,ops[j]?=some o→classOf (md j) o.op≠4:=fun j o ho h=>by
  rcases(hd.valid j o ho).1 with h' | h'<;>omega
 obtain⟨se,h1,h2⟩:=ko (b:=s.m.nx) hno4 ops.toList 0 _ (fun j=>by simp) hr
 rw [Array.length_toList] at h1
 obtain⟨N,i,hs,he,ha⟩:=hg
 have hfr:Fresh s.m i:=hf0.ext he
 have hs2:Sim (s.nx (s.m.nx+ops.size)).m { w with drawn:=w.drawn+1 } N i:=(Sim.drew hs).nx _
 have he2:Ext m0 w0 N0 i0 (s.nx (s.m.nx+ops.size)).m { w with drawn:=w.drawn+1 } N i:=by
  refine⟨he.os,he.tape,he.output,he.size,he.hN,he.hi,he.keep,he.grow,he.iV,Nat.le_trans he.nx (Nat.le_add_right _ _),fun id t x h=>(he.pl id t x h).imp_right fun h=>⟨h.1,Nat.lt_of_lt_of_le h.2 (Nat.le_add_right _ _)⟩⟩
 have l:Le w N i { w with drawn:=w.drawn+1 } N i:=⟨fun _ h=>h,fun _ _=>rfl,fun _ _ _ h=>h⟩
 have ha2:bG { w with drawn:=w.drawn+1 } N i (s.nx (s.m.nx+ops.size)) a:=ha.mono l |> fun h=>⟨h.slot,h.size,h.dfr,h.fP⟩
 refine drawn (b:=s.m.nx) (send:=se) hP hc he.nx hd (hck se h2) (fun s' a' w' heq hg'=>?_) ops.size (Array.replicate ops.size false) (List.range' 0 ops.size) _ se a _ (by simp) (by simp) List.pairwise_lt_range' (fun j=>?_) (fun j o ho hl=>?_) h1 (Eqv.refl _) ⟨N,i,hs2,he2,ha2,fun j hj t=>hfr _ (Nat.le_add_right _ _) t,fun k hk t=>hfr k (Nat.le_trans (Nat.le_add_right _ _) hk) t,Nat.le_refl _⟩
 ·obtain⟨N',pl',k1,k2,k3,_⟩:=hg'
  exact hQ se a' w' h2 ⟨N',pl',by rw [← heq.m];exact k1,by rw [← heq.m];exact k2,⟨fun j=>by rw [← heq.get];exact k3.slot j,by rw [← heq.nt];exact k3.size,k3.dfr,k3.fP⟩⟩
 ·simp only [List.mem_range'_1,Nat.zero_le,true_and,Nat.zero_add]
  constructor
  ·intro h;exact⟨h,by simp [h]⟩
  ·exact fun h=>h.1
 ·exfalso
  have:j < ops.size:=(Array.getElem?_eq_some_iff.1 ho).1
  simp [this] at hl
theorem oG {P:Program} (hm:P.follows .mixedOrders=true) {pf:FuncId→Bool} {call:CallF} (hP:NoNum P) (hc:dd P pf call) {F:Fence} (hF:Free F) {n:Nat} {ds:List Deferred} {R:Type} {md:Nat→Nat} {fz:List Nat} {id:Nat} {ops:Array Oper} {draw:Bool} {k:St→Option R} {r:R} {Q:Exit→Act→World→Prop} {m0:Mem} {w0:World} {N0:Nat→Prop} {i0:Pl} (hf0:Fresh m0 i0)
  (hnd:ops.toList.all ndO=true) (hQ:∀s' a' w',k s'=some r→Good m0 w0 N0 i0 s' a' w'→Q .normal (more a' ds) w') (hck:∀s',k s'=some r→ChkOk fz s') {s:St} {a:Act} {w:World} (hdr:draw=true→bh pf md fz ops=true)
  (hr:opsA P pf call md ops (bif draw then some s.m.nx else none) 0 ops.toList (bif draw then s.nx (s.m.nx+ops.size) else s) k=some r) (hg:Good m0 w0 N0 i0 s a w):(Code.region id ops draw).wpIn F n P Q (more a ds) w:=by
 let Q0:Exit→Act→World→Prop:=fun e a' w'=>e=.normal∧∃s',k s'=some r∧Good m0 w0 N0 i0 s' a' w'
 have hQ0:∀s' a' w',k s'=some r→Good m0 w0 N0 i0 s' a' w'→Q0 .normal a' w':=fun s' a' w' h1 h2=>⟨rfl,s',h1,h2⟩
 have fin:∀l w,wpOps P ops Q0 l a w→wpOpsIn F n P ops Q l (more a ds) w:=fun l w=>pL hF hnd (fun e a w h=>h.1) (fun a w h=>by obtain⟨_,s',h1,h2⟩:=h;exact hQ s' a w h1 h2) l a w
 cases draw with
 | false =>
  have:=gR hP hc hf0 hQ0 ops.toList 0 s a w (fun j=>by simp) hr hg
  rw [Array.length_toList,← List.range_eq_range'] at this
  exact wpIn_region (fin _ _ this)
 | true =>
  have:=BL hP hc hf0 hQ0 hck (hdr rfl) hr hg
  refine wpIn_region_draw fun t=>fin _ _ ?_
  simp only [Region.schedule,hm,Bool.true_or,if_true]
  exact wpAny_sound ops.size t _ a _ this
theorem zQ {P:Program} (hm:P.follows .mixedOrders=true) {A:Ann} (hP:NoNum P) (hC:∀n,dd P (fun g=>(A g).pure) (fun g args m=>dH P A n g args m)) {F:Fence} (hF:Free F) (ds:List Deferred) {m0:Mem} {w0:World} {N0:Nat→Prop} {i0:Pl} (hf0:Fresh m0 i0)
  {f:FuncId} {fn:Func} (hfn:P.funcs[f]?=some fn) {b:Frame} (hb:b.roundOf=F.round) (k:List Item) (cs:List Frame) {r:Res} {rt:Bool}:∀(n:Nat) (K:List Item) (s:St) (a:Act) (w:World),runA P A n f K s=some r→K.all (ndI rt)=true→Good m0 w0 N0 i0 s a w →
  ∃s' a' w' K',Steps P (lone (b.atR (more a ds) (K++k)) cs w) (lone (b.atR (more a' ds) (K'++k)) cs w')∧(K'=[]∨(rt=true∧∃K2,K'=.code .ret::K2))∧Good m0 w0 N0 i0 s' a' w'∧finA P (A f).pure fn s'=some r
 | 0,K,s,a,w,hr,_,_=>by simp [runA] at hr
 | n+1,K,s,a,w,hr,hnd,hg=>by
  simp only [runA,hfn,Option.bind_some] at hr
  have next:∀K' s' a' w',runA P A n f K' s'=some r→K'.all (ndI rt)=true→Good m0 w0 N0 i0 s' a' w'→Steps P (lone (b.atR (more a ds) (K++k)) cs w) (lone (b.atR (more a' ds) (K'++k)) cs w') →
    ∃s' a' w' K',Steps P (lone (b.atR (more a ds) (K++k)) cs w) (lone (b.atR (more a' ds) (K'++k)) cs w')∧(K'=[]∨(rt=true∧∃K2,K'=.code .ret::K2))∧Good m0 w0 N0 i0 s' a' w'∧finA P (A f).pure fn s'=some r:=by
   intro K' s' a' w' h1 h0 h2 h3
   obtain⟨s2,a2,w2,K2,k1,k2,k3,k4⟩:=zQ hm hP hC hF ds hf0 hfn hb k cs n K' s' a' w' h1 h0 h2
   exact⟨s2,a2,w2,K2,h3.trans k1,k2,k3,k4⟩
  have good1:∀ {s1:St},s1.m=s.m→(∀ {N i},bG w N i s a→bG w N i s1 a)→Good m0 w0 N0 i0 s1 a w:=by
   intro s1 e1 e2
   obtain⟨N,i,h1,h2,h3⟩:=hg
   exact⟨N,i,by rw [e1];exact h1,by rw [e1];exact h2,e2 h3⟩
  unfold stepA at hr
  split at hr
  ·exact⟨s,a,w,[],.refl _ _,.inl rfl,hg,hr⟩
  ·exact next _ _ a w hr (by simpa [ndI,ndC] using hnd) hg (.one stepR_skip)
  ·exact next _ _ a w hr (by simpa [ndI,ndC] using hnd) hg (.one stepR_label)
  ·exact next _ _ a w hr (by simpa [ndI,ndC,and_assoc] using hnd) hg (.one stepR_seq)
  ·rename_i c x y K
   have hx:(Item.code x::K).all (ndI rt)=true:=by simp [ndI,ndC] at hnd ⊢;exact⟨hnd.1.1,hnd.2⟩
   have hy:(Item.code y::K).all (ndI rt)=true:=by simp [ndI,ndC] at hnd ⊢;exact⟨hnd.1.2,hnd.2⟩
   split at hr
   ·rename_i b' hb'
    have hv:∀ {N i},bG w N i s a→(more a ds).eval (.tmp c)=.bool b':=fun {N i} h=>by
     rw [oH]
     have:=h.slot c;rw [hb'] at this;exact this
    obtain⟨N,i,_,_,h3⟩:=hg
    have hev:=hv h3
    split at hr
    ·cases hlt:Nat.blt c s.nt with
     | false=>rw [hlt,cond_false] at hr;cases hr
     | true =>
      simp only [hlt,cond_true] at hr
      exact next _ _ a w hr hx (good1 rfl (fun h=>h.lit hb')) (.one (stepR_cond hev))
    ·cases hlt:Nat.blt c s.nt with
     | false=>rw [hlt,cond_false] at hr;cases hr
     | true =>
      simp only [hlt,cond_true] at hr
      exact next _ _ a w hr hy (good1 rfl (fun h=>h.lit hb')) (.one (stepR_cond hev))
   ·cases hr
  ·rename_i b' x y K
   have hx:(Item.code x::K).all (ndI rt)=true:=by simp [ndI,ndC] at hnd ⊢;exact⟨hnd.1.1,hnd.2⟩
   have hy:(Item.code y::K).all (ndI rt)=true:=by simp [ndI,ndC] at hnd ⊢;exact⟨hnd.1.2,hnd.2⟩
   have hev:(more a ds).eval (.const (.bool b'))=.bool b':=rfl
   cases b' with
   | true=>exact next _ _ a w (by simpa using hr) hx hg (.one (stepR_cond hev))
   | false=>exact next _ _ a w (by simpa using hr) hy hg (.one (stepR_cond hev))
  ·exact next _ _ a w hr (by simpa [ndI,ndC] using hnd) hg (.one stepR_block)
  ·exact next _ _ a w hr (by simpa [ndI] using hnd) hg (.one stepR_inBlock)
  ·exact next _ _ a w hr (by simpa [ndI,ndC] using hnd) hg (.one stepR_loop)
  ·exact next _ _ a w hr (by simpa [ndI,ndC] using hnd) hg (.one stepR_inLoop)
  ·rename_i id K
   split at hr
   ·rename_i K' hx
    simp only [List.all_cons,Bool.and_eq_true] at hnd
    exact next _ _ a w hr (mL hx hnd.2) hg (.one (stepR_exit (jr k hx)))
   ·cases hr
  ·exact⟨s,a,w,_,.refl _ _,.inr ⟨by simp [ndI,ndC] at hnd;exact hnd.1,_,rfl⟩,hg,hr⟩
  ·rename_i id ops draw K
   cases hdr:(draw&&!(bh (fun g=>(A g).pure) (bj (A f) id) (bN (A f) id) ops)) with
   | true=>simp [hdr] at hr
   | false =>
    simp only [hdr,cond_false,Option.bind_eq_some_iff] at hr
    obtain⟨s1,hpre,hr⟩:=hr
    simp only [List.all_cons,Bool.and_eq_true] at hnd
    have hk:Good m0 w0 N0 i0 (keepAt (A f) id s) a w:=by
     obtain⟨N,i,h1,h2,h3⟩:=hg
     obtain⟨k1,k2⟩:=jg (A:=A f) (id:=id) h3
     exact⟨N,i,by rw [k2];exact h1,by rw [k2];exact h2,k1⟩
    have hg1:=ji hpre hk
    have main:(Code.region id ops draw).wpIn F 0 P (fun e a' w'=>e=.normal∧∃s2 a2,a'=more a2 ds∧((frzAt (A f) id s2).bind fun s=>runA P A n f K s)=some r∧Good m0 w0 N0 i0 s2 a2 w') (more a ds) w :=
     oG hm hP (hC n) hF hf0 hnd.1 (fun s' a' w' h1 h2=>⟨rfl,s',a',rfl,h1,h2⟩) (fz:=bN (A f) id) (fun s' h=>by
      simp only [Option.bind_eq_some_iff] at h
      obtain⟨s3,h4,_⟩:=h
      exact ku h4) (fun h=>by subst h;simpa using hdr) hr hg1
    obtain⟨e,a',w',⟨rfl,s2,a2,rfl,h1,h2⟩,h3⟩:=main b (K++k) cs hb (hF.fn _) (by
     rcases hF with rfl | ⟨l,rfl⟩
     ·exact room_wide _
     ·intro d hd;cases hd)
    simp only [Option.bind_eq_some_iff] at h1
    obtain⟨s3,h4,h5⟩:=h1
    exact next K s3 a2 w' h5 hnd.2 (jj h4 h2) (hF.steps.1 h3)
  ·cases hr
theorem wi {P:Program} (hm:P.follows .mixedOrders=true) {A:Ann} (hP:NoNum P) (hC:∀n,dd P (fun g=>(A g).pure) (fun g args m=>dH P A n g args m)) {F:Fence} (hF:Free F) {ds:List Deferred} {m0:Mem} {w0:World} {N0:Nat→Prop} {i0:Pl} (hf0:Fresh m0 i0)
  {f:FuncId} {fn:Func} (hfn:P.funcs[f]?=some fn) {c:Code} {rt:Bool} (hnd:ndC rt c=true) {n:Nat} {s:St} {a:Act} {w:World} {r:Res} {Q:Exit→Act→World→Prop} (hr:den P A f [.code c] s=some r) (hg:Good m0 w0 N0 i0 s a w)
  (hQ:∀s' a' w',Good m0 w0 N0 i0 s' a' w'→finA P (A f).pure fn s'=some r→Q .normal (more a' ds) w'∧(rt=true→Q .ret (more a' ds) w')):c.wpIn F n P Q (more a ds) w:=by
 obtain⟨fuel,hr⟩:=((dZ f _ _).2 _).1 hr
 intro b k cs hb _ _
 obtain⟨s',a',w',K',h1,h2,h3,h4⟩:=zQ hm hP hC hF ds hf0 hfn hb k cs fuel [.code c] s a w hr (by simpa [ndI] using hnd) hg
 obtain⟨q1,q2⟩:=hQ s' a' w' h3 h4
 rcases h2 with rfl | ⟨hrt,K2,rfl⟩
 ·exact⟨.normal,_,w',q1,hF.steps.2 h1⟩
 ·refine⟨.ret,_,w',q2 hrt,fun h=>⟨_,hF.steps.2 (h1.trans (.one (stepR_ret h)))⟩,fun h=>⟨_,hF.steps.2 h1⟩⟩
end Go.AM

/-
  A REGION'S STATE, as a step of a walk; what is no object's may turn. Conditions: none.
-/
namespace Go.AM
set_option linter.all false
theorem tM {P:Program} {A:Ann} (hC:∀n,dd P (fun g=>(A g).pure) (fun g args m=>dH P A n g args m)):dd P (fun g=>(A g).pure) (denC P A):=fun g args m r h=>by
 obtain⟨n,hn⟩:=oF h
 exact hC n g args m r hn
noncomputable def regS (P:Program) (A:Ann) (f:FuncId) (c:Code) (s:St):Option St :=
 match c with
 | .region id ops false=>(preAt (A f) id (keepAt (A f) id s)).bind fun s=>opsA P (fun g=>(A g).pure) (denC P A) (bj (A f) id) ops none 0 ops.toList s fun s=>frzAt (A f) id s
 | _=>none
noncomputable def mrunS (P:Program) (A:Ann) (fz:List Nat):List Mop→St→Option St
 | [],s=>frzL fz s
 | o::r,s=>(mb P A none o.d o.b s).bind fun s=>mrunS P A fz r s
noncomputable def mregS (P:Program) (A:Ann) (keep:Option (List Nat)) (pre fz:List Nat) (l:List Mop) (s:St):Option St :=
 (frzL pre (match keep with | some l=>s.keep l | none=>s)).bind fun s=>mrunS P A fz l s
theorem gl {P:Program} (hm:P.follows .mixedOrders=true) {A:Ann} (hP:NoNum P) (hC:∀n,dd P (fun g=>(A g).pure) (fun g args m=>dH P A n g args m)) {F:Fence} (hF:Free F) {ds:List Deferred} {m0:Mem} {w0:World} {N0:Nat→Prop} {i0:Pl} (hf0:Fresh m0 i0)
  {f:FuncId} {c:Code} (hnd:ndC true c=true) {n:Nat} {s s':St} {a:Act} {w:World} {Q:Exit→Act→World→Prop} (hr:regS P A f c s=some s') (hg:Good m0 w0 N0 i0 s a w)
  (hQ:∀a' w',Good m0 w0 N0 i0 s' a' w'→Q .normal (more a' ds) w'):c.wpIn F n P Q (more a ds) w:=by
 unfold regS at hr
 split at hr
 ·rename_i id ops
  simp only [Option.bind_eq_some_iff] at hr
  obtain⟨s1,hpre,hr⟩:=hr
  have hk:Good m0 w0 N0 i0 (keepAt (A f) id s) a w:=by
   obtain⟨N,i,h1,h2,h3⟩:=hg
   obtain⟨k1,k2⟩:=jg (A:=A f) (id:=id) h3
   exact⟨N,i,by rw [k2];exact h1,by rw [k2];exact h2,k1⟩
  exact oG hm hP (tM hC) hF hf0 (draw:=false) (fz:=bN (A f) id) hnd (fun s2 a' w' h1 h2=>hQ a' w' (jj h1 h2)) (fun s2 h=>ku h) (fun h=>by cases h) hr (ji hpre hk)
 ·cases hr
theorem Sim.other {m:Mem} {w w':World} {N:Nat→Prop} {i:Pl} (s:Sim m w N i) (hs:w.heap.size≤w'.heap.size) (hN:∀b,N b→w'.heap[b]?=w.heap[b]?) (hL:∀b,Live m i b→w'.heap[b]?=w.heap[b]?):Sim m w' N i:=by
 have l:Le w N i w' N i:=⟨fun _ h=>h,fun b hb=>hN b hb,fun _ _ _ h=>h⟩
 refine⟨fun id o h=>?_,s.inj,s.top,fun b hb=>Nat.lt_of_lt_of_le (s.nlt b hb) hs,s.bnd⟩
 obtain⟨b,p,c,g1,g2,g3⟩:=s.live id o h
 exact⟨b,p,c,g1,g2,g3.mono l (hL b ⟨id,o,p,c,h,g1⟩)⟩
theorem Ext.other {m0 m:Mem} {w0 w w':World} {N0 N:Nat→Prop} {i0 i:Pl} (e:Ext m0 w0 N0 i0 m w N i) (hs:w.heap.size≤w'.heap.size) (hk:∀b,b < w0.heap.size→w'.heap[b]?=w.heap[b]?) (ho:w'.os=w.os) (ht:w'.tape=w.tape) (hu:w'.output=w.output):Ext m0 w0 N0 i0 m w' N i :=
 ⟨ho.trans e.os,ht.trans e.tape,hu.trans e.output,Nat.le_trans e.size hs,e.hN,e.hi,fun b hb hl=>(hk b hb).trans (e.keep b hb hl),e.grow,e.iV,e.nx,e.pl⟩
end Go.AM
namespace Go.AM
def rfs:Code→List (Code×Code)
 | .seq a b=>rfs a++rfs b
 | .cond _ a b=>rfs a++rfs b
 | .block _ b=>rfs b
 | .loop b=>rfs b
 | .scope b=>rfs b
 | .rangeFunc _ _ a b=>[(a,b)]
 | _=>[]
def rfA (c:Code):Code:=(((rfs c)[0]?).map (·.1)).getD .skip
def rfB (c:Code):Code:=(((rfs c)[0]?).map (·.2)).getD .skip
def tailOf:Code→Code
 | .seq _ b=>b
 | _=>.skip
def page0:List AV:=List.replicate 256 (.int .u8 0)
end Go.AM

/-
  slices.Sorted OF maps.Keys AS ONE STEP: keys that are strings (the shelf's contracts; the iterator's box may lie at any place). Conditions: none.
-/
namespace Go.Proofs
open Go.RowKit Go.Maps Go.Sort Go.Shelf
set_option linter.all false
def keysSRen:Go.Shelf.Ren:=⟨fun | 10=>57 | n=>n,fun | 33=>134 | 23=>79 | 0=>0 | 4=>4 | 26=>9 | 3=>9 | n=>n,fun n=>n⟩
theorem xO:SlLaysZ.n10 Tryz.prog keysSRen where
 mixed:=by kernel_rfl
 f10:=⟨Tryz.f57.name,by kernel_rfl,Tryz.func57.trans (congrArg some (by kernel_rfl))⟩
 t0:=Tryz.underlying0
 a0:=Tryz.isAgg0
 z0:=Tryz.sizeOf0
 v0:=Tryz.zeroValue0
 t4:=Tryz.underlying4
 a4:=Tryz.isAgg4
 z4:=Tryz.sizeOf4
 v4:=Tryz.zeroValue4
 t23:=Tryz.underlying79
 a23:=Tryz.isAgg79
 z23:=Tryz.sizeOf79
 v23:=Tryz.zeroValue79
 t26:=Tryz.underlying9
 a26:=Tryz.isAgg9
 z26:=Tryz.sizeOf9
 v26:=Tryz.zeroValue9
 t33:=Tryz.underlying134
 a33:=Tryz.isAgg134
 z33:=Tryz.sizeOf134
 v33:=Tryz.zeroValue134
def sortedSRen:Go.Shelf.Ren:=⟨fun | 6=>33 | 8=>55 | 9=>56 | 11=>79 | 13=>67 | 12=>80 | 23=>90 | 24=>91 | 14=>98 | 15=>99 | 16=>100 | 17=>101 | 18=>102 | 19=>103 | 20=>104 | 21=>105 | 22=>106 | 25=>122 | 26=>108 | 27=>109 | 28=>123 | 29=>124 | 30=>125 | 31=>131 | n=>n,fun | 26=>9 | 28=>103 | 24=>100 | 0=>0 | 3=>3 | 37=>144 | 48=>169 | 50=>76 | 4=>4 | 40=>162 | 39=>161 | 45=>166 | 5=>5 | 9=>9 | 51=>185 | 55=>189 | 57=>199 | 58=>200 | 33=>134 | n=>n,fun n=>n⟩
theorem rA:SlLaysZ.n6 Tryz.prog sortedSRen where
 mixed:=by kernel_rfl
 f6:=⟨Tryz.f33.name,by kernel_rfl,Tryz.func33.trans (congrArg some (by kernel_rfl))⟩
 f8:=⟨Tryz.f55.name,by kernel_rfl,Tryz.func55.trans (congrArg some (by kernel_rfl))⟩
 f11:=⟨Tryz.f79.name,by kernel_rfl,Tryz.func79.trans (congrArg some (by kernel_rfl))⟩
 t0:=Tryz.underlying0
 a0:=Tryz.isAgg0
 z0:=Tryz.sizeOf0
 v0:=Tryz.zeroValue0
 t24:=Tryz.underlying100
 a24:=Tryz.isAgg100
 z24:=Tryz.sizeOf100
 v24:=Tryz.zeroValue100
 t26:=Tryz.underlying9
 a26:=Tryz.isAgg9
 z26:=Tryz.sizeOf9
 v26:=Tryz.zeroValue9
 t28:=Tryz.underlying103
 a28:=Tryz.isAgg103
 z28:=Tryz.sizeOf103
 v28:=Tryz.zeroValue103
 i26:=by kernel_rfl
def sortSRen:Go.Shelf.Ren:=⟨fun | 6=>56 | 8=>67 | 9=>80 | 19=>90 | 20=>91 | 21=>98 | 22=>99 | 23=>100 | 24=>101 | 25=>102 | 26=>103 | 27=>104 | 28=>105 | 29=>106 | 36=>122 | 31=>108 | 32=>109 | 37=>123 | 38=>124 | 39=>125 | 41=>131 | n=>n,fun | 27=>100 | 29=>9 | 3=>3 | 32=>144 | 26=>100 | 0=>0 | 44=>169 | 46=>76 | 4=>4 | 36=>162 | 35=>161 | 41=>166 | 5=>5 | 9=>9 | 53=>185 | 57=>189 | 63=>199 | 64=>200 | n=>n,fun n=>n⟩
theorem oM:SlLaysM.n6 Tryz.prog sortSRen where
 mixed:=by kernel_rfl
 f6:=⟨Tryz.f56.name,by kernel_rfl,Tryz.func56.trans (congrArg some (by kernel_rfl))⟩
 f8:=Tryz.func67.trans (congrArg some (by kernel_rfl))
 f9:=⟨Tryz.f80.name,by kernel_rfl,Tryz.func80.trans (congrArg some (by kernel_rfl))⟩
 f19:=Tryz.func90.trans (congrArg some (by kernel_rfl))
 f20:=Tryz.func91.trans (congrArg some (by kernel_rfl))
 f21:=⟨Tryz.f98.name,by kernel_rfl,Tryz.func98.trans (congrArg some (by kernel_rfl))⟩
 f22:=⟨Tryz.f99.name,by kernel_rfl,Tryz.func99.trans (congrArg some (by kernel_rfl))⟩
 f23:=⟨Tryz.f100.name,by kernel_rfl,Tryz.func100.trans (congrArg some (by kernel_rfl))⟩
 f24:=⟨Tryz.f101.name,by kernel_rfl,Tryz.func101.trans (congrArg some (by kernel_rfl))⟩
 f25:=⟨Tryz.f102.name,by kernel_rfl,Tryz.func102.trans (congrArg some (by kernel_rfl))⟩
 f26:=⟨Tryz.f103.name,by kernel_rfl,Tryz.func103.trans (congrArg some (by kernel_rfl))⟩
 f27:=⟨Tryz.f104.name,by kernel_rfl,Tryz.func104.trans (congrArg some (by kernel_rfl))⟩
 f28:=⟨Tryz.f105.name,by kernel_rfl,Tryz.func105.trans (congrArg some (by kernel_rfl))⟩
 f29:=⟨Tryz.f106.name,by kernel_rfl,Tryz.func106.trans (congrArg some (by kernel_rfl))⟩
 f31:=Tryz.func108.trans (congrArg some (by kernel_rfl))
 f32:=Tryz.func109.trans (congrArg some (by kernel_rfl))
 f36:=⟨Tryz.f122.name,by kernel_rfl,Tryz.func122.trans (congrArg some (by kernel_rfl))⟩
 f37:=⟨Tryz.f123.name,by kernel_rfl,Tryz.func123.trans (congrArg some (by kernel_rfl))⟩
 f38:=⟨Tryz.f124.name,by kernel_rfl,Tryz.func124.trans (congrArg some (by kernel_rfl))⟩
 f39:=⟨Tryz.f125.name,by kernel_rfl,Tryz.func125.trans (congrArg some (by kernel_rfl))⟩
 f41:=⟨Tryz.f131.name,by kernel_rfl,Tryz.func131.trans (congrArg some (by kernel_rfl))⟩
 t0:=Tryz.underlying0
 a0:=Tryz.isAgg0
 z0:=Tryz.sizeOf0
 v0:=Tryz.zeroValue0
 t3:=Tryz.underlying3
 a3:=Tryz.isAgg3
 z3:=Tryz.sizeOf3
 v3:=Tryz.zeroValue3
 t4:=Tryz.underlying4
 a4:=Tryz.isAgg4
 z4:=Tryz.sizeOf4
 v4:=Tryz.zeroValue4
 t5:=Tryz.underlying5
 a5:=Tryz.isAgg5
 z5:=Tryz.sizeOf5
 v5:=Tryz.zeroValue5
 t9:=Tryz.underlying9
 a9:=Tryz.isAgg9
 z9:=Tryz.sizeOf9
 v9:=Tryz.zeroValue9
 t26:=Tryz.underlying100
 a26:=Tryz.isAgg100
 z26:=Tryz.sizeOf100
 v26:=Tryz.zeroValue100
 t27:=Tryz.underlying100
 a27:=Tryz.isAgg100
 z27:=Tryz.sizeOf100
 v27:=Tryz.zeroValue100
 t29:=Tryz.underlying9
 a29:=Tryz.isAgg9
 z29:=Tryz.sizeOf9
 v29:=Tryz.zeroValue9
 t32:=Tryz.underlying144
 a32:=Tryz.isAgg144
 z32:=Tryz.sizeOf144
 v32:=Tryz.zeroValue144
 t35:=Tryz.underlying161
 a35:=Tryz.isAgg161
 z35:=Tryz.sizeOf161
 v35:=Tryz.zeroValue161
 t36:=Tryz.underlying162
 a36:=Tryz.isAgg162
 z36:=Tryz.sizeOf162
 v36:=Tryz.zeroValue162
 t41:=Tryz.underlying166
 a41:=Tryz.isAgg166
 z41:=Tryz.sizeOf166
 v41:=Tryz.zeroValue166
 t44:=Tryz.underlying169
 a44:=Tryz.isAgg169
 z44:=Tryz.sizeOf169
 v44:=Tryz.zeroValue169
 t46:=Tryz.underlying76
 a46:=Tryz.isAgg76
 z46:=Tryz.sizeOf76
 v46:=Tryz.zeroValue76
 t53:=Tryz.underlying185
 a53:=Tryz.isAgg185
 z53:=Tryz.sizeOf185
 v53:=Tryz.zeroValue185
 t57:=Tryz.underlying189
 a57:=Tryz.isAgg189
 z57:=Tryz.sizeOf189
 v57:=Tryz.zeroValue189
 t63:=Tryz.underlying199
 a63:=Tryz.isAgg199
 z63:=Tryz.sizeOf199
 v63:=Tryz.zeroValue199
 t64:=Tryz.underlying200
 a64:=Tryz.isAgg200
 z64:=Tryz.sizeOf200
 v64:=Tryz.zeroValue200
section
variable {P : Program} {ρ : Ren}
set_option maxRecDepth 100000 in
set_option maxHeartbeats 1000000 in
theorem tO (L:SlLaysZ.n10 P ρ) {H:Type} (F:Fence) (n:Nat) (h10:F.fn (ρ.f 10)) (hro:F.round=none) (hn:1≤n) (l Bm off b nn:Nat) (D0:DataW H) {R:Value→Option (DataW H×List MemPlace)} (J:List (List UInt8)→World→Prop)
  (hY:∀pre x W,J pre W→pre.length < Maps.size D0→YieldAt F (n - 1) P l #[encStr x] W fun e W'=>e=.returned (.bool true)∧J (pre++[x]) W'∧KeepsWalks W W')
  (W:World) (hJ:AbidesFrom W.heap.size J) (hm:W.cell? ⟨Bm,off,none⟩=some (.map (some b))) (hown:W.ownsMap P (ρ.t 26) R b nn D0) (h0:J [] W) :
  CallsIn F n P (ρ.f 10) #[.func (.yield l) #[] #[],.pointer (some ⟨Bm,off,none⟩)] W fun e W'=>(∃v,e=.returned v)∧∃ss:List (List UInt8),ss.Perm (strKeys D0)∧J ss W':=by
 have mixed:=L.mixed;have t0:=L.t0;have a0:=L.a0;have z0:=L.z0;have v0:=L.v0;have t4:=L.t4;have a4:=L.a4;have z4:=L.z4;have v4:=L.v4;have t23:=L.t23;have a23:=L.a23;have z23:=L.z23;have v23:=L.v23;have t26:=L.t26;have a26:=L.a26;have z26:=L.z26;have v26:=L.v26;have t33:=L.t33;have a33:=L.a33;have z33:=L.z33;have v33:=L.v33
 have u0:=run_underlying L.t0;have u4:=run_underlying L.t4;have u23:=run_underlying L.t23;have u26:=run_underlying L.t26;have u33:=run_underlying L.t33
 obtain⟨_,_,FG⟩:=L.f10
 refine callsIn_of_wp FG rfl h10 ?_ hro
 simp only [SlBodyZ.n10_ntmps ρ,List.size_toArray,List.length_cons,List.length_nil,Nat.reduceAdd,Nat.reduceSub,Array.replicate_succ,Array.replicate_zero,List.push_toArray,List.append_toArray,List.nil_append,List.cons_append]
 gi_wp2_with (first
  | (gi_at_range;refine wpListIn_range_own _ rfl _ (ρ.t 23) rfl (ρ.t 26) (ρ.t 3) (string_keyed L.t26) L.t23 _ b nn _ rfl hown ?_;intro w0 hrg0 hg0 hs0)
  | gi_in)
 go_frame
 gi_loopw [3] (fun _ wr=>∃(left:Lit→Bool) (cnt:Nat) (ss:List (List UInt8)),wr.ranges P (ρ.t 26) R b W.heap.size nn D0 left cnt∧ss.length+cnt≤Maps.size D0∧Collected D0 left ss∧J ss wr)
  (fun _ wr=>wr.rangeLeft b W.heap.size)
 case atStart =>
  exact⟨_,_,[],hrg0,by simp,Collected.start D0,hJ [] W w0 none h0 hg0 (fun r e=>by cases e)⟩
 case round =>
  obtain⟨left,cnt,ss,hrg,hcs,hC,hJs⟩:=hrel
  gi_wp2_with (first
   | (gi_at_next;refine wpListIn_next_ranges _ rfl _ rfl (ρ.t 26) (string_keyed L.t26) R encStr id (fun key kl hk=>by obtain⟨x,hx,_⟩:=Maps.keyOf_str L.t26 hk;exact⟨x,hx⟩) (fun v _ _=>⟨v,rfl⟩) b W.heap.size nn _ _ _ rfl hrg ?_ ?_)
   | gi_in)
  ·intro hc0 hl0
   gi_wp2
   go_end0
   exact⟨⟨_,rfl⟩,ss,hC.perm hown (string_keyed L.t26) L.t26 hl0,hJs⟩
  ·intro x c kl yd yp w2 cnt2 hkey hlk hv hat hrg2 hlt hg2 hs2 hen
   obtain⟨x',ex,rfl,_⟩:=Maps.keyOf_str L.t26 hkey
   obtain rfl:x=x':=encStr_inj ex
   have hJ2:J ss w2:=hJ ss wr w2 (some W.heap.size) hJs hg2 (fun r e=>by cases e;exact⟨Nat.le_refl _,hrg.iter_walk⟩)
   obtain⟨fn,tmps,assign,body,hy,hR⟩:=hY ss x w2 hJ2 (by omega)
   clear hs2
   gi_wp2
   refine hR.mono ?_
   rintro e W3 ⟨rfl,hJ3,hk3⟩
   gi_wp2
   have hrg3:=hrg2.of_walks hk3
   go_roundw
   case rel=>exact⟨_,cnt2,ss++[x],hrg3,by simp;omega,hC.step hlk hat,hJ3⟩
   case measure=>rw [hrg3.left_eq,hrg.left_eq];exact hlt
theorem mO (L:SlLaysZ.n10 P ρ) {H:Type} (F:Fence) (n:Nat) (h10:F.fn (ρ.f 10)) (hro:F.round=none) (hn:1≤n) (Bm off b nn:Nat) (D0:DataW H) {R:Value→Option (DataW H×List MemPlace)} (w:World) (hBm:Bm < w.heap.size)
  (hm:w.cell? ⟨Bm,off,none⟩=some (.map (some b))) (hown:w.ownsMap P (ρ.t 26) R b nn D0) :
  SeqGives F n P (ρ.f 10) #[.pointer (some ⟨Bm,off,none⟩)] encStr (fun ss=>ss.Perm (strKeys D0)) (Maps.size D0) w:=fun l J W hW hJ hY h0=>by
 have hown':W.ownsMap P (ρ.t 26) R b nn D0:=by
  have hbl:=hown.lt
  obtain⟨es,clock,hb,Ft,hs,hD⟩:=hown
  exact⟨es,clock,(hW.block b hbl).trans hb,Ft,hs,hD⟩
 exact tO { L with } F n h10 hro hn l Bm off b nn D0 J hY W hJ ((hW.cell (p:=⟨Bm,off,none⟩) hBm).trans hm) hown' h0
end
theorem Dm (m:Nat):AnyZ.SortsIn Tryz.prog sortedSRen Fence.wide m :=
 ⟨fun blk off cap ss W hH hblk hsz=>callsIn_wide.2 (AnyM.slices_Sort_string oM blk off cap ss W hH hblk hsz),
  fun p cap W=>callsIn_wide.2 (AnyM.slices_Sort_string_none oM p cap W)⟩
theorem nS {H:Type} (Bm off b nn:Nat) (D0:DataW H) {R:Value→Option (DataW H×List MemPlace)} (w:World) (hBm:Bm < w.heap.size) (hm:w.cell? ⟨Bm,off,none⟩=some (.map (some b))) (hown:w.ownsMap Tryz.prog 9 R b nn D0) (hmax:Maps.size D0≤maxLen) (hbytes:Maps.size D0*16≤140737488355328) :
  Calls Tryz.prog 33 #[.func (.func 57) #[] #[.pointer (some ⟨Bm,off,none⟩)]] w fun e w'=>∃(v:Value) (ss:List (List UInt8)),e=.returned v∧ss.Perm (strKeys D0) ∧
   w'.ownsRow w.heap.size 9 1 v ss.length ((ss.mergeSort (fun x y=>decide (x≤y))).map encStr)∧(v=.slice none 0 0↔ss=[])∧Below w.heap.size w w':=by
 refine(callsIn_wide (n:=5)).1 ?_
 have hseq:SeqGives Fence.wide 2 Tryz.prog 57 #[.pointer (some ⟨Bm,off,none⟩)] encStr (fun ss=>ss.Perm (strKeys D0)) (Maps.size D0) w :=
  mO (ρ:=keysSRen) xO Fence.wide 2 trivial rfl (by omega) Bm off b nn D0 w hBm hm hown
 exact AnyZ.sorted_in rA Fence.wide 5 trivial trivial trivial trivial rfl (by omega) (Dm _) (enters_of Tryz.func56 (by kernel_rfl) rfl) 57 #[.pointer (some ⟨Bm,off,none⟩)] trivial (enters_of Tryz.func57 (by kernel_rfl) rfl) _ _ hmax hbytes _ hseq
end Go.Proofs

/-
  maps.Clone AS ONE STEP (the shelf's contract). Conditions: none.
-/
namespace Go.Proofs
open Go.Shelf
set_option linter.all false
set_option maxRecDepth 100000
def cloneARen:Go.Shelf.Ren:=⟨fun | 5=>26 | 7=>51 | n=>n,fun | 23=>79 | 25=>9 | 3=>9 | 4=>4 | 20=>20 | n=>n,fun n=>n⟩
theorem mP:SlLaysW.n5 Tryz.prog cloneARen where
 mixed:=by kernel_rfl
 f5:=⟨Tryz.f26.name,by kernel_rfl,Tryz.func26.trans (congrArg some (by kernel_rfl))⟩
 f7:=Tryz.func51.trans (congrArg some (by kernel_rfl))
 t4:=Tryz.underlying4
 a4:=Tryz.isAgg4
 z4:=Tryz.sizeOf4
 v4:=Tryz.zeroValue4
 t20:=Tryz.underlying20
 a20:=Tryz.isAgg20
 z20:=Tryz.sizeOf20
 v20:=Tryz.zeroValue20
 t23:=Tryz.underlying79
 a23:=Tryz.isAgg79
 z23:=Tryz.sizeOf79
 v23:=Tryz.zeroValue79
def cloneBRen:Go.Shelf.Ren:=⟨fun | 5=>28 | 7=>51 | n=>n,fun | 23=>69 | 25=>3 | 3=>71 | 4=>4 | 20=>20 | n=>n,fun n=>n⟩
theorem mQ:SlLaysW.n5 Tryz.prog cloneBRen where
 mixed:=by kernel_rfl
 f5:=⟨Tryz.f28.name,by kernel_rfl,Tryz.func28.trans (congrArg some (by kernel_rfl))⟩
 f7:=Tryz.func51.trans (congrArg some (by kernel_rfl))
 t4:=Tryz.underlying4
 a4:=Tryz.isAgg4
 z4:=Tryz.sizeOf4
 v4:=Tryz.zeroValue4
 t20:=Tryz.underlying20
 a20:=Tryz.isAgg20
 z20:=Tryz.sizeOf20
 v20:=Tryz.zeroValue20
 t23:=Tryz.underlying69
 a23:=Tryz.isAgg69
 z23:=Tryz.sizeOf69
 v23:=Tryz.zeroValue69
end Go.Proofs
namespace Go.Proofs.YtadofgdidhpnpaaGreatDoor
open Go.AM
open Go.Proofs.Tryz (prog)
set_option linter.all false
set_option maxRecDepth 100000
theorem zT {m:Mem} {w:World} {N:Nat→Prop} {i:Pl} (hs:Sim m w N i) (hf:∀t,i m.nx t=none) {ks vs:List AV} {es:Array MapEntry} (hb:∀(k:Nat) e,es[k]?=some e→e.born=k) (hk:RepL w N i ks (es.toList.map (·.key))) (hv:RepL w N i vs (es.toList.map (·.val))) :
  ∃i',Sim (m.new (.map 0 ks vs)) (w.alloc (.map es es.size)) N i'∧Ext m w N i (m.new (.map 0 ks vs)) (w.alloc (.map es es.size)) N i'∧Rep (w.alloc (.map es es.size)) N i' (.map m.nx) (.map (some w.heap.size)):=by
 have hNn:¬N w.heap.size:=fun h=>by have:=hs.nlt _ h;omega
 have hnl:¬Live m i w.heap.size:=fun h=>by have:=(hs.dy h).2;omega
 have hi:∀id t x,i id t=some x→updPl i m.nx 0 (w.heap.size,0,0) id t=some x:=fun id t x h=>by
  rw [bB _ _ (fun hh=>by rw [hh.1,hf] at h;cases h)];exact h
 have l:Le w N i (w.alloc (.map es es.size)) N (updPl i m.nx 0 (w.heap.size,0,0)):=⟨fun _ h=>h,fun b h=>bT w _ b (hs.nlt b h),hi⟩
 have hsim:=hs.new hf (w':=w.alloc (.map es es.size)) (o:=.map 0 ks vs) (b:=w.heap.size) (p:=0) (c:=0) (by simp) (fun k hk=>bT w _ k (by
  rcases hk with h | h
  ·exact hs.nlt k h
  ·exact(hs.dy h).2)) hNn hnl ⟨es,dW w _,hb,RepL.mono l _ hk,RepL.mono l _ hv,Nat.le_refl _⟩
 refine⟨_,hsim,⟨rfl,rfl,rfl,by simp,fun _ h=>h,hi,fun k hk _=>bT w _ k hk,fun k hk=>?_,fun _ h=>.inl h,Nat.le_succ _,kz⟩,w.heap.size,0,0,bE ..,rfl⟩
 rcases gg hk with h | h
 ·exact .inl h
 ·exact .inr (by omega)
theorem oN {g:FuncId} (h1:∀b es clock w,w.heap[b]?=some (.map es clock)→Calls prog g #[.map (some b)] w fun e w'=>e=.returned (.map (some w.heap.size))∧w'=w.alloc (.map es clock))
  (h0:∀w,Calls prog g #[.map none] w fun e w'=>e=.returned (.map none)∧w'=w) {args:List AV} {m:Mem} {r:AV×Mem} (h:cloneA m args=some r) {w:World} {N:Nat→Prop} {i:Pl} {us:List Value} (hs:Sim m w N i) (hf:Fresh m i) (ha:RepL w N i args us) :
  Calls prog g us.toArray w fun e w'=>∃v N' i',e=.returned v∧Sim r.2 w' N' i'∧Ext m w N i r.2 w' N' i'∧Rep w' N' i' r.1 v:=by
 unfold cloneA at h
 split at h
 ·cases h
  obtain⟨v,us',rfl,hv,hn⟩:=ha
  cases hn
  have hv:v=.map none:=hv
  subst hv
  refine Calls.mono (h0 w) ?_
  rintro e w' ⟨rfl,rfl⟩
  exact⟨_,N,i,rfl,hs,Ext.refl _ _ _ _,rfl⟩
 ·cases h
  obtain⟨v,us',rfl,hv,hn⟩:=ha
  cases hn
  obtain⟨b,es,clock,q1,rfl,⟨q2,q3,q4⟩,q5,q6⟩:=hv
  subst q3
  have l:Le w N P0 w N i:=⟨fun _ h=>h,fun _ _=>rfl,fun _ _ _ h=>by cases h⟩
  obtain⟨i',k1,k2,k3⟩:=zT hs (hf m.nx (Nat.le_refl _)) q4 (RepL.mono l _ q5) (RepL.mono l _ q6)
  refine Calls.mono (h1 b es _ w q2) ?_
  rintro e w' ⟨rfl,rfl⟩
  exact⟨_,N,i',rfl,k1,k2,k3⟩
 ·split at h
  ·rename_i id g' ks vs ho
   cases h
   obtain⟨v,us',rfl,hv,hn⟩:=ha
   cases hn
   obtain⟨b,o,c,es,q1,rfl,q3,q4,q5,q6⟩:=hs.gJ ho hv
   obtain⟨i',k1,k2,k3⟩:=zT hs (hf m.nx (Nat.le_refl _)) q4 q5 q6
   refine Calls.mono (h1 b es _ w q3) ?_
   rintro e w' ⟨rfl,rfl⟩
   exact⟨_,N,i',rfl,k1,k2,k3⟩
  ·cases h
 ·cases h
theorem CK:eO prog 26:=fun args m r h w N i us hs hf hG ha =>
 oN (fun b es clock w hb=>AnyW.maps_Clone mP b es clock w hb) (fun w=>AnyW.maps_Clone_nil mP w) (show cloneA m args=some r from h) hs hf ha
theorem CL:eO prog 28:=fun args m r h w N i us hs hf hG ha =>
 oN (fun b es clock w hb=>AnyW.maps_Clone mQ b es clock w hb) (fun w=>AnyW.maps_Clone_nil mQ w) (show cloneA m args=some r from h) hs hf ha
end Go.Proofs.YtadofgdidhpnpaaGreatDoor

/-
  slices.Sorted OF maps.Keys AS ONE STEP, in the machine's words: keys that are strings. Conditions: none.
-/
namespace Go.Proofs.YtadofgdidhpnpaaGreatDoor
open Go.AM Go.Maps Go.RowKit Go.WideShapes
open Go.Proofs
open Go.WideElems (Fit)
open Go.Proofs.Tryz (prog)
set_option linter.all false
set_option maxRecDepth 100000
theorem wj {m:Mem} {w w':World} {N:Nat→Prop} {i:Pl} (hs:Sim m w N i) (hb:Below w.heap.size w w') {e:TypeId} {v:Value} {xs:List Value} {cs:List AV} (hrow:w'.ownsRow w.heap.size e 1 v xs.length xs) (hnil:v=.slice none 0 0↔xs=[]) (ho:One xs)
  (hr:∀N',RepL w' N' P0 cs xs):∃N',Sim m w' N' i∧Ext m w N i m w' N' i∧Rep w' N' i (sortedV cs.length cs) v:=by
 have hlen:=(hr N).length
 obtain⟨hx,h⟩:=hrow
 rcases h with ⟨rfl,hn⟩ | ⟨g,cap,cur,rfl,h1,h2,h3,h4,h5,h6⟩
 ·have:xs=[]:=List.length_eq_zero_iff.1 hn
  subst this
  obtain⟨z1,z2⟩:=hs.below (w':=w') (N':=N) hb.size (fun b hb'=>hb.block b hb') (fun b hb=>hb) (fun b hb=>.inl hb) (fun b hb'=>Nat.lt_of_lt_of_le (hs.nlt b hb') hb.size) hb.os hb.tape hb.output
  have:cs=[]:=List.length_eq_zero_iff.1 (by simpa using hlen.symm)
  subst this
  exact⟨N,z1,z2,rfl⟩
 ·have hne:xs≠[]:=fun e=>by have:=hnil.2 e;cases this
  have hgl:g < w'.heap.size:=(Array.getElem?_eq_some_iff.1 h2).1
  obtain⟨z1,z2⟩:=hs.below (w':=w') (N':=fun b=>N b∨b=g) hb.size (fun b hb'=>hb.block b hb') (fun b hb=>.inl hb) (fun b hb=>hb.imp id fun e=>by omega) (fun b hb'=>by
   rcases hb' with h | h
   ·exact Nat.lt_of_lt_of_le (hs.nlt b h) hb.size
   ·omega) hb.os hb.tape hb.output
  refine⟨_,z1,z2,?_⟩
  have hcs:cs≠[]:=fun e=>by rw [e] at hlen;exact hne (List.length_eq_zero_iff.1 hlen)
  have hcells:CellsAt w' g 0 xs:=by
   intro j u hj
   rw [← h6,List.getElem?_take] at hj
   split at hj
   ·simp only [World.cell?,h2,Nat.zero_add]
    simpa using hj
   ·cases hj
  have:sortedV cs.length cs=.fsl false cs.length cs:=by
   cases cs with
   | nil=>exact absurd rfl hcs
   | cons a l=>rfl
  rw [this,← hlen]
  exact⟨⟨g,0,none⟩,cap,xs,rfl,h3,(fun h=>by cases h),.inr ⟨g,0,rfl,.inr rfl,hcells⟩,ho,hr _⟩
def R0:Value→Option (DataW Unit×List MemPlace):=fun _=>some (.nil,[])
def DS (l:List (List UInt8)):DataW Unit:=.map ((l.map fun k=>((Lit.string k,DataW.nil):Lit×DataW Unit)).foldr DataW.insert [])
theorem BM (l:List (List UInt8)):(strKeys (DS l)).Perm l:=by
 unfold DS strKeys
 refine((sorted_perm _).map _).trans ?_
 rw [List.map_map]
 have:(l.map ((fun p=>strOf p.1) ∘ fun k=>((Lit.string k,DataW.nil):Lit×DataW Unit)))=l:=by
  conv=>rhs;rw [← List.map_id l]
  exact List.map_congr_left fun _ _=>rfl
 rw [this]
theorem wm (l:List (List UInt8)):Maps.size (DS l)=l.length:=by
 have:=(sorted_perm (l.map fun k=>((Lit.string k,DataW.nil):Lit×DataW Unit))).length_eq
 simpa [DS,Maps.size] using this
theorem xN {w:World} {b:Nat} {es:Array MapEntry} (hb:w.heap[b]?=some (.map es es.size)) (hborn:∀(k:Nat) e,es[k]?=some e→e.born=k) {l:List (List UInt8)} (hk:es.toList.map (·.key)=l.map encStr) (hn:l.Nodup) (hl:∀k∈l,k.length≤1000) (hl2:l.length≤1000) :
  w.ownsMap prog 9 R0 b l.length (DS l):=by
 have hsz:es.size=l.length:=by
  have:=congrArg List.length hk
  simpa using this
 have hkey:∀k∈l,keyOf prog 9 (encStr k)=some (.string k):=by
  intro k hk
  have:=hl k hk
  have h:=Go.WideMaps.keyOf_string_mk (P:=prog) (k:=9) Tryz.underlying9 (s:=⟨k.toArray⟩) (by
   show k.toArray.size≤maxLen
   exact Nat.le_trans (by simpa using this) (by decide:(1000:Nat)≤maxLen))
  simpa [encStr] using h
 refine⟨es,es.size,hb,⟨Nat.le_trans (by omega:es.size≤1000) (by decide),⟨?_,?_,?_⟩,?_⟩,by omega,?_⟩
 ·intro x hx
  obtain⟨k,hk',e⟩:=List.getElem_of_mem hx
  have:=hborn k x (by rw [← e];simp)
  simp at hk'
  omega
 ·exact gf hborn
 ·rw [hk]
  rw [List.Nodup,List.pairwise_map]
  exact hn.imp fun h1 h2=>h1 (by simpa [encStr] using h2)
 ·intro x hx
  have:x.key∈l.map encStr:=by rw [← hk];exact List.mem_map_of_mem hx
  obtain⟨k,hk',e⟩:=List.mem_map.1 this
  exact⟨(.string k,.nil),by simp [Go.WideElems.rd,← e,hkey k hk',R0]⟩
 ·unfold DS
  congr 2
  apply List.ext_getElem?
  intro j
  rw [List.getElem?_map,List.getElem?_map]
  have hj:=congrArg (fun l=>l[j]?) hk
  simp only [List.getElem?_map] at hj
  cases h1:l[j]? with
  | none=>rw [h1] at hj;cases h2:es.toList[j]? with
   | none=>rfl
   | some x=>rw [h2] at hj;cases hj
  | some k =>
   rw [h1] at hj
   cases h2:es.toList[j]? with
   | none=>rw [h2] at hj;cases hj
   | some x =>
    rw [h2] at hj
    simp only [Option.map_some,Option.some.injEq] at hj
    simp only [Option.map_some]
    have:=hkey k (List.mem_of_getElem? h1)
    simp [Go.WideElems.rg,Go.WideElems.rd,hj,this,R0]
theorem lK {g:FuncId} {m:Mem} {w:World} {N:Nat→Prop} {i:Pl} (hs:Sim m w N i) {args ks:List AV} {us:List Value} (hk:seqKeys g m args=some ks) (ha:RepL w N i args us) :
  ∃(bx off bm:Nat) (es:Array MapEntry),us=[.func (.func g) #[] #[.pointer (some ⟨bx,off,none⟩)]]∧N bx∧w.cell? ⟨bx,off,none⟩=some (.map (some bm))∧w.heap[bm]?=some (.map es es.size)∧(∀(k:Nat) e,es[k]?=some e→e.born=k)∧RepL w N i ks (es.toList.map (·.key)):=by
 unfold seqKeys at hk
 split at hk
 ·rename_i h0 id
  cases hg:h0==g with
  | false=>simp [hg] at hk
  | true =>
   have hg':h0=g:=eq_of_beq hg
   subst hg'
   rw [hg] at hk
   simp only [cond_true] at hk
   split at hk
   ·rename_i g ks' vs ho
    cases hk
    obtain⟨v,us',rfl,hv,hn⟩:=ha
    cases hn
    obtain⟨fs,cs,rfl,hfs,hcs⟩:=hv
    have hfs:fs=#[]:=by have:fs.toList=[]:=hfs;simpa using this
    subst hfs
    obtain⟨p,cs',hcs',hp,hcn⟩:=hcs
    have hcn:cs'=[]:=hcn
    subst hcn
    have hcs:cs=#[p]:=by cases cs;simpa using hcs'
    subst hcs
    obtain⟨bx,off,zs,hNb,rfl,hcell,hone,hz⟩:=hp
    obtain⟨mv,zs',rfl,hmv,hzn⟩:=hz
    obtain⟨bm,o,c,es,q1,rfl,q3,q4,q5,q6⟩:=hs.gJ ho hmv
    have hcell0:=hcell 0 _ rfl
    rw [Nat.add_zero] at hcell0
    exact⟨bx,off,bm,es,rfl,hNb,hcell0,q3,q4,q5⟩
   ·cases hk
 ·rename_i h0 ks' vs
  cases hg:h0==g with
  | false=>simp [hg] at hk
  | true =>
   have hg':h0=g:=eq_of_beq hg
   subst hg'
   rw [hg] at hk
   simp only [cond_true,Option.some.injEq] at hk
   subst hk
   obtain⟨v,us',rfl,hv,hn⟩:=ha
   cases hn
   obtain⟨fs,cs,rfl,hfs,hcs⟩:=hv
   have hfs:fs=#[]:=by have:fs.toList=[]:=hfs;simpa using this
   subst hfs
   obtain⟨p,cs',hcs',hp,hcn⟩:=hcs
   have hcn:cs'=[]:=hcn
   subst hcn
   have hcs:cs=#[p]:=by cases cs;simpa using hcs'
   subst hcs
   obtain⟨bx,off,zs,hNb,rfl,hcell,hone,hz⟩:=hp
   obtain⟨mv,zs',rfl,hmv,hzn⟩:=hz
   obtain⟨bm,es,clock,q1,rfl,⟨q3,rfl,q4⟩,q5,q6⟩:=hmv
   have hcell0:=hcell 0 _ rfl
   rw [Nat.add_zero] at hcell0
   exact⟨bx,off,bm,es,rfl,hNb,hcell0,q3,q4,RepL.mono ⟨fun _ h=>h,fun _ _=>rfl,fun _ _ _ h=>by cases h⟩ _ q5⟩
 ·cases hk
theorem CM:eO prog 33:=fun args m r h w N i us hs hf hG ha=>by
 have hx:sortedS 57 args m=some r:=h
 clear h
 unfold sortedS at hx
 simp only [Option.bind_eq_some_iff] at hx
 obtain⟨ks,hk,l,hl,hx⟩:=hx
 obtain⟨bx,off,bm,es,rfl,hNb,hcell0,q3,q4,q5⟩:=lK hs hk ha
 cases ht:(Nat.ble l.length 1000&&(decide l.Nodup&&l.all fun k=>Nat.ble k.length 1000)) with
 | false=>rw [ht] at hx;cases hx
 | true =>
  rw [ht] at hx
  simp only [cond_true,Option.some.injEq] at hx
  subst hx
  simp only [Bool.and_eq_true,Nat.ble_eq,decide_eq_true_eq,List.all_eq_true] at ht
  obtain⟨t1,t2,t3⟩:=ht
  obtain⟨e1,e2⟩:=kJ hl q5
  have hown:=xN (w:=w) q3 q4 e1 t2 t3 t1
  refine Calls.mono (nS bx off bm _ (DS l) w (hs.nlt _ hNb) hcell0 hown (by rw [wm];exact Nat.le_trans t1 (by decide)) (by rw [wm];omega)) ?_
  rintro e w' ⟨v,ss,rfl,hp,hrow,hnil,hbel⟩
  have hperm:ss.Perm l:=hp.trans (BM l)
  have hsort:ss.mergeSort (fun x y=>decide (x≤y))=sortS l:=by rw [mergeSort_of_perm hperm];exact lE l
  rw [hsort] at hrow
  have hlen:ss.length=((sortS l).map encStr).length:=by rw [List.length_map,dD,hperm.length_eq]
  rw [hlen] at hrow
  have hnil':v=.slice none 0 0↔(sortS l).map encStr=[]:=by
   rw [hnil,List.map_eq_nil_iff,← List.length_eq_zero_iff,← List.length_eq_zero_iff,dD,hperm.length_eq]
  obtain⟨N',z1,z2,z3⟩:=wj (cs:=(sortS l).map .str) hs hbel hrow hnil' (fun x hx=>by obtain⟨k,_,rfl⟩:=List.mem_map.1 hx;rfl) (fun N'=>kK _)
  have el:((sortS l).map AV.str).length=l.length:=by rw [List.length_map,dD]
  rw [el] at z3
  exact⟨v,N',i,rfl,z1,z2,z3⟩
end Go.Proofs.YtadofgdidhpnpaaGreatDoor

/-
  slices.Sorted OF maps.Keys AS ONE STEP: keys that are whole numbers (the shelf's contracts; the iterator's box may lie at any place). Conditions: none.
-/
namespace Go.Proofs
open Go.RowKit Go.Maps Go.Sort Go.Shelf
set_option linter.all false
def keysIRen:Go.Shelf.Ren:=⟨fun | 10=>74 | n=>n,fun | 33=>151 | 23=>69 | 0=>0 | 4=>4 | 26=>3 | 3=>71 | n=>n,fun n=>n⟩
theorem xQ:SlLaysZI.n10 Tryz.prog keysIRen where
 mixed:=by kernel_rfl
 f10:=⟨Tryz.f74.name,by kernel_rfl,Tryz.func74.trans (congrArg some (by kernel_rfl))⟩
 t0:=Tryz.underlying0
 a0:=Tryz.isAgg0
 z0:=Tryz.sizeOf0
 v0:=Tryz.zeroValue0
 t4:=Tryz.underlying4
 a4:=Tryz.isAgg4
 z4:=Tryz.sizeOf4
 v4:=Tryz.zeroValue4
 t23:=Tryz.underlying69
 a23:=Tryz.isAgg69
 z23:=Tryz.sizeOf69
 v23:=Tryz.zeroValue69
 t26:=Tryz.underlying3
 a26:=Tryz.isAgg3
 z26:=Tryz.sizeOf3
 v26:=Tryz.zeroValue3
 t33:=Tryz.underlying151
 a33:=Tryz.isAgg151
 z33:=Tryz.sizeOf151
 v33:=Tryz.zeroValue151
def sortedIRen:Go.Shelf.Ren:=⟨fun | 6=>47 | 8=>72 | 9=>73 | 11=>95 | 13=>67 | 12=>96 | 23=>90 | 24=>91 | 14=>113 | 15=>114 | 16=>115 | 17=>116 | 18=>117 | 19=>118 | 20=>119 | 21=>120 | 22=>121 | 25=>127 | 26=>108 | 27=>109 | 28=>128 | 29=>129 | 30=>130 | 31=>132 | n=>n,fun | 26=>3 | 28=>123 | 24=>25 | 0=>0 | 3=>3 | 37=>144 | 48=>169 | 50=>76 | 4=>4 | 40=>162 | 39=>161 | 45=>166 | 5=>5 | 9=>9 | 51=>185 | 55=>189 | 57=>199 | 58=>200 | 33=>151 | n=>n,fun n=>n⟩
theorem rB:SlLaysZI.n6 Tryz.prog sortedIRen where
 mixed:=by kernel_rfl
 f6:=⟨Tryz.f47.name,by kernel_rfl,Tryz.func47.trans (congrArg some (by kernel_rfl))⟩
 f8:=⟨Tryz.f72.name,by kernel_rfl,Tryz.func72.trans (congrArg some (by kernel_rfl))⟩
 f11:=⟨Tryz.f95.name,by kernel_rfl,Tryz.func95.trans (congrArg some (by kernel_rfl))⟩
 t0:=Tryz.underlying0
 a0:=Tryz.isAgg0
 z0:=Tryz.sizeOf0
 v0:=Tryz.zeroValue0
 t24:=Tryz.underlying25
 a24:=Tryz.isAgg25
 z24:=Tryz.sizeOf25
 v24:=Tryz.zeroValue25
 t26:=Tryz.underlying3
 a26:=Tryz.isAgg3
 z26:=Tryz.sizeOf3
 v26:=Tryz.zeroValue3
 t28:=Tryz.underlying123
 a28:=Tryz.isAgg123
 z28:=Tryz.sizeOf123
 v28:=Tryz.zeroValue123
 i26:=by kernel_rfl
def srtIRen:Go.Shelf.Ren:=⟨fun | 5=>73 | 8=>67 | 7=>96 | 19=>90 | 20=>91 | 10=>113 | 11=>114 | 12=>115 | 13=>116 | 14=>117 | 15=>118 | 16=>119 | 17=>120 | 18=>121 | 30=>127 | 31=>108 | 32=>109 | 33=>128 | 34=>129 | 35=>130 | 40=>132 | n=>n,fun | 23=>25 | 25=>3 | 3=>3 | 32=>144 | 22=>25 | 0=>0 | 44=>169 | 46=>76 | 4=>4 | 36=>162 | 35=>161 | 41=>166 | 5=>5 | 9=>9 | 53=>185 | 57=>189 | 63=>199 | 64=>200 | n=>n,fun n=>n⟩
theorem rC:SlLaysM.n5 Tryz.prog srtIRen where
 mixed:=by kernel_rfl
 f5:=⟨Tryz.f73.name,by kernel_rfl,Tryz.func73.trans (congrArg some (by kernel_rfl))⟩
 f7:=⟨Tryz.f96.name,by kernel_rfl,Tryz.func96.trans (congrArg some (by kernel_rfl))⟩
 f8:=Tryz.func67.trans (congrArg some (by kernel_rfl))
 f10:=⟨Tryz.f113.name,by kernel_rfl,Tryz.func113.trans (congrArg some (by kernel_rfl))⟩
 f11:=⟨Tryz.f114.name,by kernel_rfl,Tryz.func114.trans (congrArg some (by kernel_rfl))⟩
 f12:=⟨Tryz.f115.name,by kernel_rfl,Tryz.func115.trans (congrArg some (by kernel_rfl))⟩
 f13:=⟨Tryz.f116.name,by kernel_rfl,Tryz.func116.trans (congrArg some (by kernel_rfl))⟩
 f14:=⟨Tryz.f117.name,by kernel_rfl,Tryz.func117.trans (congrArg some (by kernel_rfl))⟩
 f15:=⟨Tryz.f118.name,by kernel_rfl,Tryz.func118.trans (congrArg some (by kernel_rfl))⟩
 f16:=⟨Tryz.f119.name,by kernel_rfl,Tryz.func119.trans (congrArg some (by kernel_rfl))⟩
 f17:=⟨Tryz.f120.name,by kernel_rfl,Tryz.func120.trans (congrArg some (by kernel_rfl))⟩
 f18:=⟨Tryz.f121.name,by kernel_rfl,Tryz.func121.trans (congrArg some (by kernel_rfl))⟩
 f19:=Tryz.func90.trans (congrArg some (by kernel_rfl))
 f20:=Tryz.func91.trans (congrArg some (by kernel_rfl))
 f30:=⟨Tryz.f127.name,by kernel_rfl,Tryz.func127.trans (congrArg some (by kernel_rfl))⟩
 f31:=Tryz.func108.trans (congrArg some (by kernel_rfl))
 f32:=Tryz.func109.trans (congrArg some (by kernel_rfl))
 f33:=⟨Tryz.f128.name,by kernel_rfl,Tryz.func128.trans (congrArg some (by kernel_rfl))⟩
 f34:=⟨Tryz.f129.name,by kernel_rfl,Tryz.func129.trans (congrArg some (by kernel_rfl))⟩
 f35:=⟨Tryz.f130.name,by kernel_rfl,Tryz.func130.trans (congrArg some (by kernel_rfl))⟩
 f40:=⟨Tryz.f132.name,by kernel_rfl,Tryz.func132.trans (congrArg some (by kernel_rfl))⟩
 t0:=Tryz.underlying0
 a0:=Tryz.isAgg0
 z0:=Tryz.sizeOf0
 v0:=Tryz.zeroValue0
 t3:=Tryz.underlying3
 a3:=Tryz.isAgg3
 z3:=Tryz.sizeOf3
 v3:=Tryz.zeroValue3
 t4:=Tryz.underlying4
 a4:=Tryz.isAgg4
 z4:=Tryz.sizeOf4
 v4:=Tryz.zeroValue4
 t5:=Tryz.underlying5
 a5:=Tryz.isAgg5
 z5:=Tryz.sizeOf5
 v5:=Tryz.zeroValue5
 t9:=Tryz.underlying9
 a9:=Tryz.isAgg9
 z9:=Tryz.sizeOf9
 v9:=Tryz.zeroValue9
 t22:=Tryz.underlying25
 a22:=Tryz.isAgg25
 z22:=Tryz.sizeOf25
 v22:=Tryz.zeroValue25
 t23:=Tryz.underlying25
 a23:=Tryz.isAgg25
 z23:=Tryz.sizeOf25
 v23:=Tryz.zeroValue25
 t25:=Tryz.underlying3
 a25:=Tryz.isAgg3
 z25:=Tryz.sizeOf3
 v25:=Tryz.zeroValue3
 t32:=Tryz.underlying144
 a32:=Tryz.isAgg144
 z32:=Tryz.sizeOf144
 v32:=Tryz.zeroValue144
 t35:=Tryz.underlying161
 a35:=Tryz.isAgg161
 z35:=Tryz.sizeOf161
 v35:=Tryz.zeroValue161
 t36:=Tryz.underlying162
 a36:=Tryz.isAgg162
 z36:=Tryz.sizeOf162
 v36:=Tryz.zeroValue162
 t41:=Tryz.underlying166
 a41:=Tryz.isAgg166
 z41:=Tryz.sizeOf166
 v41:=Tryz.zeroValue166
 t44:=Tryz.underlying169
 a44:=Tryz.isAgg169
 z44:=Tryz.sizeOf169
 v44:=Tryz.zeroValue169
 t46:=Tryz.underlying76
 a46:=Tryz.isAgg76
 z46:=Tryz.sizeOf76
 v46:=Tryz.zeroValue76
 t53:=Tryz.underlying185
 a53:=Tryz.isAgg185
 z53:=Tryz.sizeOf185
 v53:=Tryz.zeroValue185
 t57:=Tryz.underlying189
 a57:=Tryz.isAgg189
 z57:=Tryz.sizeOf189
 v57:=Tryz.zeroValue189
 t63:=Tryz.underlying199
 a63:=Tryz.isAgg199
 z63:=Tryz.sizeOf199
 v63:=Tryz.zeroValue199
 t64:=Tryz.underlying200
 a64:=Tryz.isAgg200
 z64:=Tryz.sizeOf200
 v64:=Tryz.zeroValue200
section
variable {P : Program} {ρ : Ren}
set_option maxRecDepth 100000 in
set_option maxHeartbeats 1000000 in
theorem rE (L:SlLaysZI.n10 P ρ) {H:Type} (F:Fence) (n:Nat) (h10:F.fn (ρ.f 10)) (hro:F.round=none) (hn:1≤n) (l Bm off b nn:Nat) (D0:DataW H) {R:Value→Option (DataW H×List MemPlace)} (J:List Int→World→Prop)
  (hY:∀pre x W,J pre W→pre.length < Maps.size D0→YieldAt F (n - 1) P l #[encZ x] W fun e W'=>e=.returned (.bool true)∧J (pre++[x]) W'∧KeepsWalks W W')
  (W:World) (hJ:AbidesFrom W.heap.size J) (hm:W.cell? ⟨Bm,off,none⟩=some (.map (some b))) (hown:W.ownsMap P (ρ.t 26) R b nn D0) (h0:J [] W) :
  CallsIn F n P (ρ.f 10) #[.func (.yield l) #[] #[],.pointer (some ⟨Bm,off,none⟩)] W fun e W'=>(∃v,e=.returned v)∧∃ss:List Int,ss.Perm (intKeys D0)∧J ss W':=by
 have mixed:=L.mixed;have t0:=L.t0;have a0:=L.a0;have z0:=L.z0;have v0:=L.v0;have t4:=L.t4;have a4:=L.a4;have z4:=L.z4;have v4:=L.v4;have t23:=L.t23;have a23:=L.a23;have z23:=L.z23;have v23:=L.v23;have t26:=L.t26;have a26:=L.a26;have z26:=L.z26;have v26:=L.v26;have t33:=L.t33;have a33:=L.a33;have z33:=L.z33;have v33:=L.v33
 have u0:=run_underlying L.t0;have u4:=run_underlying L.t4;have u23:=run_underlying L.t23;have u26:=run_underlying L.t26;have u33:=run_underlying L.t33
 obtain⟨_,_,FG⟩:=L.f10
 refine callsIn_of_wp FG rfl h10 ?_ hro
 simp only [SlBodyZ.n10_ntmps ρ,List.size_toArray,List.length_cons,List.length_nil,Nat.reduceAdd,Nat.reduceSub,Array.replicate_succ,Array.replicate_zero,List.push_toArray,List.append_toArray,List.nil_append,List.cons_append]
 gi_wp2_with (first
  | (gi_at_range;refine wpListIn_range_own _ rfl _ (ρ.t 23) rfl (ρ.t 26) (ρ.t 3) (int_keyed L.t26) L.t23 _ b nn _ rfl hown ?_;intro w0 hrg0 hg0 hs0)
  | gi_in)
 go_frame
 gi_loopw [3] (fun _ wr=>∃(left:Lit→Bool) (cnt:Nat) (ss:List Int),wr.ranges P (ρ.t 26) R b W.heap.size nn D0 left cnt∧ss.length+cnt≤Maps.size D0∧CollectedI D0 left ss∧J ss wr)
  (fun _ wr=>wr.rangeLeft b W.heap.size)
 case atStart =>
  exact⟨_,_,[],hrg0,by simp,CollectedI.start D0,hJ [] W w0 none h0 hg0 (fun r e=>by cases e)⟩
 case round =>
  obtain⟨left,cnt,ss,hrg,hcs,hC,hJs⟩:=hrel
  gi_wp2_with (first
   | (gi_at_next;refine wpListIn_next_ranges _ rfl _ rfl (ρ.t 26) (int_keyed L.t26) R encZ id (fun key kl hk=>by obtain⟨x,hx,_⟩:=Maps.keyOf_i64 L.t26 hk;exact⟨x,hx⟩) (fun v _ _=>⟨v,rfl⟩) b W.heap.size nn _ _ _ rfl hrg ?_ ?_)
   | gi_in)
  ·intro hc0 hl0
   gi_wp2
   go_end0
   exact⟨⟨_,rfl⟩,ss,hC.perm hown (int_keyed L.t26) L.t26 hl0,hJs⟩
  ·intro x c kl yd yp w2 cnt2 hkey hlk hv hat hrg2 hlt hg2 hs2 hen
   obtain⟨x',ex,rfl,_⟩:=Maps.keyOf_i64 L.t26 hkey
   obtain rfl:x=x':=encZ_inj ex
   have hJ2:J ss w2:=hJ ss wr w2 (some W.heap.size) hJs hg2 (fun r e=>by cases e;exact⟨Nat.le_refl _,hrg.iter_walk⟩)
   obtain⟨fn,tmps,assign,body,hy,hR⟩:=hY ss x w2 hJ2 (by omega)
   clear hs2
   gi_wp2
   refine hR.mono ?_
   rintro e W3 ⟨rfl,hJ3,hk3⟩
   gi_wp2
   have hrg3:=hrg2.of_walks hk3
   go_roundw
   case rel=>exact⟨_,cnt2,ss++[x],hrg3,by simp;omega,hC.step hlk hat,hJ3⟩
   case measure=>rw [hrg3.left_eq,hrg.left_eq];exact hlt
theorem lR (L:SlLaysZI.n10 P ρ) {H:Type} (F:Fence) (n:Nat) (h10:F.fn (ρ.f 10)) (hro:F.round=none) (hn:1≤n) (Bm off b nn:Nat) (D0:DataW H) {R:Value→Option (DataW H×List MemPlace)} (w:World) (hBm:Bm < w.heap.size)
  (hm:w.cell? ⟨Bm,off,none⟩=some (.map (some b))) (hown:w.ownsMap P (ρ.t 26) R b nn D0) :
  SeqGives F n P (ρ.f 10) #[.pointer (some ⟨Bm,off,none⟩)] encZ (fun ss=>ss.Perm (intKeys D0)) (Maps.size D0) w:=fun l J W hW hJ hY h0=>by
 have hown':W.ownsMap P (ρ.t 26) R b nn D0:=by
  have hbl:=hown.lt
  obtain⟨es,clock,hb,Ft,hs,hD⟩:=hown
  exact⟨es,clock,(hW.block b hbl).trans hb,Ft,hs,hD⟩
 exact rE { L with } F n h10 hro hn l Bm off b nn D0 J hY W hJ ((hW.cell (p:=⟨Bm,off,none⟩) hBm).trans hm) hown' h0
end
theorem Dn (m:Nat):AnyZI.SortsIn Tryz.prog sortedIRen Fence.wide m :=
 ⟨fun blk off cap ss W hH hblk hsz=>callsIn_wide.2 (AnyM.slices_Sort_int rC blk off cap ss W hH hblk hsz),
  fun p cap W=>callsIn_wide.2 (AnyM.slices_Sort_int_none rC p cap W)⟩
theorem nT {H:Type} (Bm off b nn:Nat) (D0:DataW H) {R:Value→Option (DataW H×List MemPlace)} (w:World) (hBm:Bm < w.heap.size) (hm:w.cell? ⟨Bm,off,none⟩=some (.map (some b))) (hown:w.ownsMap Tryz.prog 3 R b nn D0) (hmax:Maps.size D0≤maxLen) (hbytes:Maps.size D0*8≤140737488355328) :
  Calls Tryz.prog 47 #[.func (.func 74) #[] #[.pointer (some ⟨Bm,off,none⟩)]] w fun e w'=>∃(v:Value) (ss:List Int),e=.returned v∧ss.Perm (intKeys D0) ∧
   w'.ownsRow w.heap.size 3 1 v ss.length ((ss.mergeSort (fun x y=>decide (x≤y))).map encZ)∧(v=.slice none 0 0↔ss=[])∧Below w.heap.size w w':=by
 refine(callsIn_wide (n:=5)).1 ?_
 have hseq:SeqGives Fence.wide 2 Tryz.prog 74 #[.pointer (some ⟨Bm,off,none⟩)] encZ (fun ss=>ss.Perm (intKeys D0)) (Maps.size D0) w :=
  lR (ρ:=keysIRen) xQ Fence.wide 2 trivial rfl (by omega) Bm off b nn D0 w hBm hm hown
 exact AnyZI.sorted_in rB Fence.wide 5 trivial trivial trivial trivial rfl (by omega) (Dn _) (enters_of Tryz.func73 (by kernel_rfl) rfl) 74 #[.pointer (some ⟨Bm,off,none⟩)] trivial (enters_of Tryz.func74 (by kernel_rfl) rfl) _ _ hmax hbytes _ hseq
end Go.Proofs

/-
  slices.Sorted OF maps.Keys AS ONE STEP, in the machine's words: keys that are whole numbers. Conditions: none.
-/
namespace Go.Proofs.YtadofgdidhpnpaaGreatDoor
open Go.AM Go.Maps Go.RowKit Go.WideShapes
open Go.Proofs
open Go.WideElems (Fit)
open Go.Proofs.Tryz (prog)
set_option linter.all false
set_option maxRecDepth 100000
def DI (l:List Int):DataW Unit:=.map ((l.map fun k=>((Lit.int .i64 k,DataW.nil):Lit×DataW Unit)).foldr DataW.insert [])
theorem BN (l:List Int):(intKeys (DI l)).Perm l:=by
 unfold DI intKeys
 refine((sorted_perm _).map _).trans ?_
 rw [List.map_map]
 refine List.Perm.of_eq ?_
 conv=>rhs;rw [← List.map_id l]
 exact List.map_congr_left fun _ _=>rfl
theorem wo (l:List Int):Maps.size (DI l)=l.length:=by
 have:=(sorted_perm (l.map fun k=>((Lit.int .i64 k,DataW.nil):Lit×DataW Unit))).length_eq
 simpa [DI,Maps.size] using this
theorem xP {w:World} {b:Nat} {es:Array MapEntry} (hb:w.heap[b]?=some (.map es es.size)) (hborn:∀(k:Nat) e,es[k]?=some e→e.born=k) {l:List Int} (hk:es.toList.map (·.key)=l.map encZ) (hn:l.Nodup) (hl:∀k∈l,0≤k∧k < 1000000) (hl2:l.length≤1000) :
  w.ownsMap prog 3 R0 b l.length (DI l):=by
 have hsz:es.size=l.length:=by
  have:=congrArg List.length hk
  simpa using this
 have hkey:∀k∈l,keyOf prog 3 (encZ k)=some (.int .i64 k):=by
  intro k hk
  have:=hl k hk
  exact keyOf_int_mk (P:=prog) (k:=3) Tryz.underlying3 (by
   simp [Lit.wf,IntKind.min,IntKind.max,IntKind.bits,IntKind.signed];omega)
 refine⟨es,es.size,hb,⟨Nat.le_trans (by omega:es.size≤1000) (by decide),⟨?_,?_,?_⟩,?_⟩,by omega,?_⟩
 ·intro x hx
  obtain⟨k,hk',e⟩:=List.getElem_of_mem hx
  have:=hborn k x (by rw [← e];simp)
  simp at hk'
  omega
 ·exact gf hborn
 ·rw [hk]
  rw [List.Nodup,List.pairwise_map]
  exact hn.imp fun h1 h2=>h1 (by simpa [encZ] using h2)
 ·intro x hx
  have:x.key∈l.map encZ:=by rw [← hk];exact List.mem_map_of_mem hx
  obtain⟨k,hk',e⟩:=List.mem_map.1 this
  exact⟨(.int .i64 k,.nil),by simp [Go.WideElems.rd,← e,hkey k hk',R0]⟩
 ·unfold DI
  congr 2
  apply List.ext_getElem?
  intro j
  rw [List.getElem?_map,List.getElem?_map]
  have hj:=congrArg (fun l=>l[j]?) hk
  simp only [List.getElem?_map] at hj
  cases h1:l[j]? with
  | none=>rw [h1] at hj;cases h2:es.toList[j]? with
   | none=>rfl
   | some x=>rw [h2] at hj;cases hj
  | some k =>
   rw [h1] at hj
   cases h2:es.toList[j]? with
   | none=>rw [h2] at hj;cases hj
   | some x =>
    rw [h2] at hj
    simp only [Option.map_some,Option.some.injEq] at hj
    simp only [Option.map_some]
    have:=hkey k (List.mem_of_getElem? h1)
    simp [Go.WideElems.rg,Go.WideElems.rd,hj,this,R0]
theorem CN:eO prog 47:=fun args m r h w N i us hs hf hG ha=>by
 have hx:sortedI 74 args m=some r:=h
 clear h
 unfold sortedI at hx
 simp only [Option.bind_eq_some_iff] at hx
 obtain⟨ks,hk,l,hl,hx⟩:=hx
 obtain⟨bx,off,bm,es,rfl,hNb,hcell0,q3,q4,q5⟩:=lK hs hk ha
 cases ht:(Nat.ble l.length 1000&&(decide l.Nodup&&l.all fun k=>decide (0≤k)&&decide (k < 1000000))) with
 | false=>rw [ht] at hx;cases hx
 | true =>
  rw [ht] at hx
  simp only [cond_true,Option.some.injEq] at hx
  subst hx
  simp only [Bool.and_eq_true,Nat.ble_eq,decide_eq_true_eq,List.all_eq_true] at ht
  obtain⟨t1,t2,t3⟩:=ht
  obtain⟨e1,e2⟩:=kF hl q5
  have hown:=xP (w:=w) q3 q4 e1 t2 t3 t1
  refine Calls.mono (nT bx off bm _ (DI l) w (hs.nlt _ hNb) hcell0 hown (by rw [wo];exact Nat.le_trans t1 (by decide)) (by rw [wo];omega)) ?_
  rintro e w' ⟨v,ss,rfl,hp,hrow,hnil,hbel⟩
  have hperm:ss.Perm l:=hp.trans (BN l)
  have hsort:ss.mergeSort (fun x y=>decide (x≤y))=sortI l:=by rw [mergeSort_of_perm_i hperm];exact lB l
  rw [hsort] at hrow
  have hlen:ss.length=((sortI l).map encZ).length:=by rw [List.length_map,iL,hperm.length_eq]
  rw [hlen] at hrow
  have hnil':v=.slice none 0 0↔(sortI l).map encZ=[]:=by
   rw [hnil,List.map_eq_nil_iff,← List.length_eq_zero_iff,← List.length_eq_zero_iff,iL,hperm.length_eq]
  obtain⟨N',z1,z2,z3⟩:=wj (cs:=(sortI l).map fun k=>.int .i64 k) hs hbel hrow hnil' (fun x hx=>by obtain⟨k,_,rfl⟩:=List.mem_map.1 hx;rfl) (fun N'=>kG _)
  have el:((sortI l).map fun k=>AV.int .i64 k).length=l.length:=by rw [List.length_map,iL]
  rw [el] at z3
  exact⟨v,N',i,rfl,z1,z2,z3⟩
end Go.Proofs.YtadofgdidhpnpaaGreatDoor

/-
  THE PROGRAM UNDER AN ANNOTATION IN WHICH leaves AND load ARE RUN AS WRITTEN. Conditions: none.
-/
namespace Go.Proofs.YtadofgdidhpnpaaGreatDoor
open Go.AM
open Go.Proofs
open Go.Proofs.Tryz (prog)
set_option linter.all false
set_option maxRecDepth 100000
def lZ (P:Program):Bool:=P.funcs.all fun fn=>!(fn.body.isSome&&fn.name== "runtime.NumGoroutine")
theorem gI:NoNum prog:=by
 have h:lZ prog=true:=by kernel_rfl
 intro g fn hf hb
 rw [lZ,Array.all_eq_true] at h
 obtain⟨hg,rfl⟩:=Array.getElem?_eq_some_iff.1 hf
 have:=h g hg
 simp only [hb,Bool.true_and,Bool.not_eq_true'] at this
 exact this
theorem mixed:prog.follows .mixedOrders=true:=by kernel_rfl
def unfl (a:FnAnn):FnAnn:={ a with frz:=a.frz.filter fun e=>!(e.1==555555) }
def aw:Ann:=fun f=>bif f==53||f==43 then unfl (ann f) else ann f
theorem eG {A:Ann} {g:FuncId} (h:(A g).ext=true) (he:eO prog g):fT prog A g:=⟨fun _=>he,fun h'=>by rw [h] at h';cases h'⟩
theorem Iq:∀g,(aw g).srt=true→fT prog aw g:=fun g h=>by
 unfold aw at h
 cases hg:(g==53||g==43) with
 | true =>
  rw [hg] at h
  simp only [cond_true] at h
  have:g=53∨g=43:=by simpa using hg
  rcases this with rfl | rfl
  ·have e:(unfl (ann 53)).srt=false:=by kernel_rfl
   rw [e] at h;cases h
  ·have e:(unfl (ann 43)).srt=false:=by kernel_rfl
   rw [e] at h;cases h
 | false =>
  rw [hg] at h
  have h:(ann g).srt=true:=h
  have:=rb (l:=annL) (d:=⟨false,[],[],[],[]⟩) rfl (fun g=>g==26||(g==28||(g==33||(g==47||(g==53||g==43))))) (by kernel_rfl) g h
  have e:g=26∨g=28∨g=33∨g=47∨g=53∨g=43:=by simpa using this
  rcases e with rfl | rfl | rfl | rfl | rfl | rfl
  ·exact eG (by kernel_rfl) CK
  ·exact eG (by kernel_rfl) CL
  ·exact eG (by kernel_rfl) CM
  ·exact eG (by kernel_rfl) CN
  ·cases hg
  ·cases hg
theorem gr (n:Nat):dd prog (fun g=>(aw g).pure) (fun g args m=>dH prog aw n g args m):=(main prog aw gI (oh prog mixed) Iq n).2
end Go.Proofs.YtadofgdidhpnpaaGreatDoor

/-
  BODIES OF FUNCTIONS OF THE PROGRAM AS SMALL OPERATIONS (written by gen.py; checked by the kernel against the program). Conditions: none.
-/
namespace Go.Proofs.YtadofgdidhpnpaaGreatDoor
open Go.AM
open Go.Proofs.Tryz (prog)
set_option maxRecDepth 100000
set_option linter.all false
namespace aF
noncomputable def b0:Code:=(Tryz.f53.body).getD .skip
noncomputable def b:Code:=rfB b0
noncomputable def ba:Code:=rfA b0
theorem hf:prog.funcs[53]?=some Tryz.f53:=by kernel_rfl
noncomputable def k1:Code:=ax b 1
noncomputable def r4:Code:=aa b 4
noncomputable def r5:Code:=aa b 5
noncomputable def k2:Code:=ax b 2
noncomputable def l2:Code:=bw k2
noncomputable def L2 (x1 x3 x5 x17 x18 x19:AV) (m:Mem) (K:List Item):Option Res:=den prog aw 53 (.code l2::.inLoop l2::.inBlock 2::K) ⟨[(1,x1),(3,x3),(5,x5),(17,x17),(18,x18),(19,x19)],37,m⟩
noncomputable def r6:Code:=aa b 6
noncomputable def i0:Code:=ak b 0
noncomputable def i0t:Code:=az i0
noncomputable def i0e:Code:=aA i0
noncomputable def k3:Code:=ax b 3
noncomputable def r7:Code:=aa b 7
noncomputable def r8:Code:=aa b 8
noncomputable def r9:Code:=aa b 9
noncomputable def r10:Code:=aa b 10
noncomputable def s0:Code:=aa b0 0
theorem rh (s:St):regS prog aw 53 s0 s=mregS prog aw none [] [] [
  ⟨some 1,none,.v fun s=>frozenPtr (s.get 0)⟩,
  ⟨some 2,none,.v fun s=>some (.nils)⟩] s:=by kernel_rfl
noncomputable def s1:Code:=aa b0 1
theorem CH (s:St):regS prog aw 53 s1 s=mregS prog aw none [] [] [
  ⟨some 3,none,.w false none fun s=>newPtr s.m [.nils]⟩] s:=by kernel_rfl
noncomputable def s2:Code:=aa b0 2
theorem zH (s:St):regS prog aw 53 s2 s=mregS prog aw none [] [] [
  ⟨some 8,none,.v fun s=>loadF false 1 (s.get 1)⟩,
  ⟨some 9,none,.c 0 (fun s=>(.fn 34 [] [])) fun s=>[(s.get 8)]⟩,
  ⟨some 10,none,.c 0 (fun s=>(.fn 33 [] [])) fun s=>[(s.get 9)]⟩,
  ⟨some 11,none,.c 0 (fun s=>(.fn 76 [] [])) fun s=>[(s.get 10),(.int .i64 9)]⟩] s:=by kernel_rfl
noncomputable def s3:Code:=aa ba 3
theorem CJ (s:St):regS prog aw 53 s3 s=mregS prog aw none [] [] [
  ⟨some 4,none,.v fun s=>some (s.get 12)⟩] s:=by kernel_rfl
noncomputable def s11:Code:=aa b0 11
theorem zJ (s:St):regS prog aw 53 s11 s=mregS prog aw (some [3]) [] [] [
  ⟨some 36,none,.v fun s=>loadA false 1 s.m (s.get 3)⟩,
  ⟨some 2,none,.v fun s=>some (s.get 36)⟩] s:=by kernel_rfl
theorem aV (K:List Item) (s:St):den prog aw 53 (.code b::K) s=den prog aw 53 (.code k1::K) s:=af hf (l:=[k1]) (by kernel_rfl) K s
theorem bH (K:List Item) (s:St):den prog aw 53 (.code k1::K) s=den prog aw 53 (.code r4::.code r5::.code k2::.code r10::.inBlock 1::K) s:=aS hf (b:=blkOf k1) (l:=[r4,r5,k2,r10]) (by kernel_rfl) (by kernel_rfl) K s
theorem bg (K:List Item) (s:St):den prog aw 53 (.code r4::K) s=ah prog aw 53 (some [1,3,4]) [] none [] [
  ⟨some 13,none,.v fun s=>some (s.get 4)⟩,
  ⟨some 14,none,.v fun s=>lenSl (s.get 13)⟩,
  ⟨some 15,none,.v fun s=>convInt .u8 (s.get 14)⟩,
  ⟨some 16,none,.w false none fun s=>bslM s.m 2 (bslA 1 2 [.int .u8 0] [(0,(.int .u8 1)),(1,(s.get 15))])⟩,
  ⟨some 5,none,.v fun s=>some (s.get 16)⟩] K s:=(ae hf _ K s).trans (by kernel_rfl)
theorem bd (K:List Item) (s:St):den prog aw 53 (.code r5::K) s=ah prog aw 53 none [] none [] [
  ⟨some 17,none,.v fun s=>some (s.get 4)⟩,
  ⟨some 18,none,.v fun s=>lenSl (s.get 17)⟩,
  ⟨some 19,none,.v fun s=>some (.int .i64 0)⟩] K s:=(ae hf _ K s).trans (by kernel_rfl)
theorem dL (K:List Item) (t:List (Nat×AV)) (m:Mem):den prog aw 53 (.code k2::K) ⟨t,37,m⟩=L2 (get t 1) (get t 3) (get t 5) (get t 17) (get t 18) (get t 19) m K:=ar hf (b:=l2) (id:=6) (l:=[1,3,5,17,18,19]) (by kernel_rfl) (by kernel_rfl) (by kernel_rfl) K _
theorem ie (K:List Item) (t:List (Nat×AV)) (m:Mem):den prog aw 53 (.inLoop l2::.inBlock 2::K) ⟨t,37,m⟩=L2 (get t 1) (get t 3) (get t 5) (get t 17) (get t 18) (get t 19) m K:=ay hf (id:=6) (l:=[1,3,5,17,18,19]) (by kernel_rfl) (by kernel_rfl) (.inBlock 2::K) _
theorem dt (x1 x3 x5 x17 x18 x19:AV) (m:Mem) (K:List Item):L2 x1 x3 x5 x17 x18 x19 m K=den prog aw 53 (.code r6::.code i0::.code k3::.code r9::.inLoop l2::.inBlock 2::K) ⟨[(1,x1),(3,x3),(5,x5),(17,x17),(18,x18),(19,x19)],37,m⟩:=af hf (l:=[r6,i0,k3,r9]) (by kernel_rfl) _ _
theorem bo (K:List Item) (s:St):den prog aw 53 (.code r6::K) s=ah prog aw 53 (some [1,3,5,17,18,19]) [] none [] [
  ⟨some 20,none,.v fun s=>binA prog .lss 3 (s.get 19) (s.get 18)⟩] K s:=(ae hf _ K s).trans (by kernel_rfl)
theorem aU (K:List Item) (s:St):den prog aw 53 (.code i0::K) s=ifV prog aw 53 20 i0t i0e K s (s.get 20):=aB hf (by kernel_rfl) K s
theorem aZ (K:List Item) (s:St):den prog aw 53 (.code i0t::K) s=den prog aw 53 (K) s:=af hf (l:=[]) (by kernel_rfl) K s
theorem aL (K:List Item) (s:St):den prog aw 53 (.code i0e::K) s=den prog aw 53 (.code (.exit 2)::K) s:=af hf (l:=[(.exit 2)]) (by kernel_rfl) K s
theorem fy (K:List Item) (s:St):den prog aw 53 (.code k3::K) s=den prog aw 53 (.code r7::.code r8::.inBlock 3::K) s:=aS hf (b:=blkOf k3) (l:=[r7,r8]) (by kernel_rfl) (by kernel_rfl) K s
theorem bM (K:List Item) (s:St):den prog aw 53 (.code r7::K) s=ah prog aw 53 none [] none [] [
  ⟨some 21,none,.v fun s=>idxSl 1 (s.get 17) (s.get 19)⟩,
  ⟨some 22,none,.v fun s=>loadA false 1 s.m (s.get 21)⟩,
  ⟨some 7,none,.v fun s=>some (s.get 22)⟩] K s:=(ae hf _ K s).trans (by kernel_rfl)
theorem bQ (K:List Item) (s:St):den prog aw 53 (.code r8::K) s=ah prog aw 53 none [] none [] [
  ⟨some 23,none,.v fun s=>some (s.get 5)⟩,
  ⟨some 24,none,.v fun s=>some (s.get 7)⟩,
  ⟨some 25,none,.v fun s=>loadF false 1 (s.get 1)⟩,
  ⟨some 26,none,.v fun s=>some (s.get 7)⟩,
  ⟨some 27,none,.v fun s=>lookP prog s.m 9 (.str []) (s.get 25) (s.get 26) false⟩,
  ⟨some 28,none,.w false none fun s=>bslM s.m 2 (bslA 1 2 [.str []] [(0,(s.get 24)),(1,(s.get 27))])⟩,
  ⟨some 29,none,.c 0 (fun s=>(.fn 77 [] [])) fun s=>[(s.get 23),(s.get 28)]⟩,
  ⟨some 5,none,.v fun s=>some (s.get 29)⟩] K s:=(ae hf _ K s).trans (by kernel_rfl)
theorem bU (K:List Item) (s:St):den prog aw 53 (.code r9::K) s=ah prog aw 53 (some [1,3,5,17,18,19]) [] none [] [
  ⟨some 30,none,.v fun s=>binA prog .add 3 (s.get 19) (.int .i64 1)⟩,
  ⟨some 19,none,.v fun s=>some (s.get 30)⟩] K s:=(ae hf _ K s).trans (by kernel_rfl)
theorem fA:bh (fun g=>(aw g).pure) (bj (aw 53) (bI r10)) (bN (aw 53) (bI r10)) (opsOf r10)=true:=aQ (an:=[0,0,2,6,15,31]) (by kernel_rfl) (by kernel_rfl)
theorem bV (K:List Item) (s:St):den prog aw 53 (.code r10::K) s=ah prog aw 53 (some [3,5]) [] (some 6) [] [
  ⟨some 31,none,.v fun s=>loadA false 1 s.m (s.get 3)⟩,
  ⟨some 32,none,.v fun s=>some (s.get 5)⟩,
  ⟨some 33,none,.c 0 (fun s=>(.fn 45 [] [])) fun s=>[(s.get 32)]⟩,
  ⟨some 34,none,.v fun s=>bslF 1 (bslA 256 1 page0 [(0,(s.get 33))])⟩,
  ⟨some 35,none,.w false (some 4) fun s=>appendA 256 256 s.m (s.get 31) (s.get 34)⟩,
  ⟨none,none,.w false (some 5) fun s=>stA false 1 s.m (s.get 3) (s.get 35)⟩] K s:=(aW hf fA K s).trans (by kernel_rfl)
theorem nil_eq (s:St):den prog aw 53 [] s=finM false [fun s=>some (s.get 2)] s:=(gk hf s).trans (by kernel_rfl)
theorem aC (id:Nat) (K:List Item) (s:St):den prog aw 53 (.inBlock id::K) s=den prog aw 53 K s:=aR hf id K s
theorem aT (id:Nat) (K:List Item) (s:St):den prog aw 53 (.code (.exit id)::K) s=exitV prog aw 53 (exitTo id K) s:=bp hf id K s
attribute [simp] rh CH zH CJ zJ aV bH bg bd dL ie bo aU aZ aL fy bM bQ bU bV nil_eq aC aT
end aF
namespace cf
noncomputable def b0:Code:=(Tryz.f43.body).getD .skip
noncomputable def b:Code:=tailOf (tailOf (b0))
theorem hf:prog.funcs[43]?=some Tryz.f43:=by kernel_rfl
noncomputable def r2:Code:=aa b 2
noncomputable def r3:Code:=aa b 3
noncomputable def i0:Code:=ak b 0
noncomputable def i0t:Code:=az i0
noncomputable def i0e:Code:=aA i0
noncomputable def r4:Code:=aa b 4
noncomputable def r5:Code:=aa b 5
noncomputable def s0:Code:=aa b0 0
theorem rh (s:St):regS prog aw 43 s0 s=mregS prog aw none [] [] [
  ⟨some 3,none,.v fun s=>frozenPtr (s.get 1)⟩,
  ⟨some 4,none,.w false none fun s=>newPtr s.m [.nilm,.nilm]⟩,
  ⟨some 5,none,.w false none fun s=>newPtr s.m [.bool false]⟩] s:=by kernel_rfl
theorem aV (K:List Item) (s:St):den prog aw 43 (.code b::K) s=den prog aw 43 (.code r2::.code r3::.code i0::.code r5::.code .ret::K) s:=af hf (l:=[r2,r3,i0,r5,.ret]) (by kernel_rfl) K s
theorem br (K:List Item) (s:St):den prog aw 43 (.code r2::K) s=ah prog aw 43 none [] none [] [
  ⟨some 7,none,.c 0 (fun s=>(.fn 44 [] [])) fun s=>[]⟩,
  ⟨none,none,.w false none fun s=>stA true 2 s.m (s.get 4) (s.get 7)⟩] K s:=(ae hf _ K s).trans (by kernel_rfl)
theorem aX (K:List Item) (s:St):den prog aw 43 (.code r3::K) s=ah prog aw 43 none [] none [] [
  ⟨some 8,none,.v fun s=>fieldA 1 (s.get 3)⟩,
  ⟨some 9,none,.v fun s=>loadF false 1 (s.get 8)⟩,
  ⟨some 10,none,.v fun s=>binA prog .neq 3 (s.get 9) (.int .i64 0)⟩] K s:=(ae hf _ K s).trans (by kernel_rfl)
theorem aU (K:List Item) (s:St):den prog aw 43 (.code i0::K) s=ifV prog aw 43 10 i0t i0e K s (s.get 10):=aB hf (by kernel_rfl) K s
theorem aZ (K:List Item) (s:St):den prog aw 43 (.code i0t::K) s=den prog aw 43 (.code r4::K) s:=af hf (l:=[r4]) (by kernel_rfl) K s
theorem bg (K:List Item) (s:St):den prog aw 43 (.code r4::K) s=ah prog aw 43 none [] none [] [
  ⟨some 11,none,.v fun s=>loadA true 2 s.m (s.get 4)⟩,
  ⟨some 12,none,.v fun s=>some (s.get 0)⟩,
  ⟨some 13,none,.v fun s=>fieldA 1 (s.get 3)⟩,
  ⟨some 14,none,.v fun s=>loadF false 1 (s.get 13)⟩,
  ⟨some 15,none,.c 0 (fun s=>(.fn 69 [] [])) fun s=>[(s.get 11),(s.get 12),(s.get 14),(.int .i64 3)]⟩] K s:=(ae hf _ K s).trans (by kernel_rfl)
theorem aL (K:List Item) (s:St):den prog aw 43 (.code i0e::K) s=den prog aw 43 (K) s:=af hf (l:=[]) (by kernel_rfl) K s
theorem bd (K:List Item) (s:St):den prog aw 43 (.code r5::K) s=ah prog aw 43 (some [4,5]) [] none [] [
  ⟨some 16,none,.v fun s=>loadA true 2 s.m (s.get 4)⟩,
  ⟨none,none,.w false none fun s=>stA true 2 s.m (s.get 4) (s.get 16)⟩,
  ⟨none,none,.w false none fun s=>stA false 1 s.m (s.get 5) (.bool true)⟩] K s:=(ae hf _ K s).trans (by kernel_rfl)
theorem aE (K:List Item) (s:St):den prog aw 43 (.code .ret::K) s=finM false [fun s=>loadA true 2 s.m (s.get 4),fun s=>loadA false 1 s.m (s.get 5)] s:=(aO hf K s).trans (by kernel_rfl)
attribute [simp] rh aV br aX aU aZ bg aL bd aE
end cf
namespace dJ
noncomputable section
variable (K : List Item) (s : St)
def b:Code:=(Tryz.f34.body).getD .skip
theorem hf:prog.funcs[34]?=some Tryz.f34:=by kernel_rfl
def r0:=aa b 0
def r1:=aa b 1
theorem aV:den prog aw 34 (.code b::K) s=den prog aw 34 (.code r0::.code r1::.code .ret::K) s:=af hf (l:=[r0,r1,.ret]) (by kernel_rfl) K s
theorem aH:den prog aw 34 (.code r0::K) s=ah prog aw 34 none [] none [] [qA 1 frozenPtr 0,qF 2 fun s=>some (.nilf)] K s:=(ae hf _ K s).trans (by kernel_rfl)
theorem aI:den prog aw 34 (.code r1::K) s=ah prog aw 34 none [] none [] [qF 3 fun s=>some (.fn 57 [] [(s.get 1)]),qC 2 3] K s:=(ae hf _ K s).trans (by kernel_rfl)
theorem aE:den prog aw 34 (.code .ret::K) s=finM false [fun s=>some (s.get 2)] s:=(aO hf K s).trans (by kernel_rfl)
theorem al (v0:AV) (m:Mem):denC prog aw 34 [v0] m=den prog aw 34 [.code b] ⟨[(0,v0)],4,m⟩:=(aJ hf (b:=b) (by kernel_rfl) (by kernel_rfl) (by kernel_rfl) m).trans (by kernel_rfl)
theorem aq:(aw 34).pure=false:=by kernel_rfl
attribute [simp] aV aH aI aE aq
end
end dJ
namespace ib
noncomputable section
variable (K : List Item) (s : St)
def b:Code:=(Tryz.f45.body).getD .skip
theorem hf:prog.funcs[45]?=some Tryz.f45:=by kernel_rfl
def r0:=aa b 0
def r1:=aa b 1
def r2:=aa b 2
def r3:=aa b 3
theorem aV:den prog aw 45 (.code b::K) s=den prog aw 45 (.code r0::.code r1::.code r2::.code r3::.code .ret::K) s:=af hf (l:=[r0,r1,r2,r3,.ret]) (by kernel_rfl) K s
theorem aH:den prog aw 45 (.code r0::K) s=ah prog aw 45 none [] none [] [⟨some 2,none,.w false none fun s=>newPtr s.m page0⟩] K s:=(ae hf _ K s).trans (by kernel_rfl)
theorem aI:den prog aw 45 (.code r1::K) s=ah prog aw 45 none [] none [] [⟨some 3,none,.w false none fun s=>newPtr s.m page0⟩] K s:=(ae hf _ K s).trans (by kernel_rfl)
theorem br:den prog aw 45 (.code r2::K) s=ah prog aw 45 none [] none [] [qF 4 fun s=>sliceArr 256 1 (s.get 3) none none,qC 5 0,⟨some 6,none,.w false none fun s=>copyA 1 s.m (s.get 4) (s.get 5)⟩] K s:=(ae hf _ K s).trans (by kernel_rfl)
theorem aX:den prog aw 45 (.code r3::K) s=ah prog aw 45 none [] none [] [qF 7 fun s=>loadA true 256 s.m (s.get 3),⟨none,none,.w false none fun s=>stA true 256 s.m (s.get 2) (s.get 7)⟩] K s:=(ae hf _ K s).trans (by kernel_rfl)
theorem aE:den prog aw 45 (.code .ret::K) s=finM true [fun s=>loadA true 256 s.m (s.get 2)] s:=(aO hf K s).trans (by kernel_rfl)
theorem al (v0:AV) (m:Mem) (h:closedL [v0]=true):denC prog aw 45 [v0] m=(den prog aw 45 [.code b] ⟨[(0,v0)],8,Mem.empty⟩).bind fun r=>some (r.1,m):=(bD hf (b:=b) (by kernel_rfl) (by kernel_rfl) (by kernel_rfl) h m).trans (by kernel_rfl)
theorem aq:(aw 45).pure=true:=by kernel_rfl
attribute [simp] aV aH aI br aX aE aq
end
end ib
namespace df
noncomputable section
variable (K : List Item) (s : St)
def b:Code:=(Tryz.f77.body).getD .skip
theorem hf:prog.funcs[77]?=some Tryz.f77:=by kernel_rfl
def r0:=aa b 0
def r1:=aa b 1
def k0:=ax b 0
def l0:=bw k0
def L0 (x0 x7 x8 x9:AV) (m:Mem) (K:List Item):Option Res:=den prog aw 77 (.code l0::.inLoop l0::.inBlock 0::K) ⟨[(0,x0),(7,x7),(8,x8),(9,x9)],23,m⟩
def r2:=aa b 2
def i0:=ak b 0
def i0t:=az i0
def i0e:=aA i0
def k1:=ax b 1
def r3:=aa b 3
def r4:=aa b 4
def r5:=aa b 5
def r6:=aa b 6
theorem aV:den prog aw 77 (.code b::K) s=den prog aw 77 (.code r0::.code r1::.code k0::.code r6::.code .ret::K) s:=af hf (l:=[r0,r1,k0,r6,.ret]) (by kernel_rfl) K s
theorem aH:den prog aw 77 (.code r0::K) s=ah prog aw 77 none [] none [] [qF 4 fun s=>some (.nils)] K s:=(ae hf _ K s).trans (by kernel_rfl)
theorem aI:den prog aw 77 (.code r1::K) s=ah prog aw 77 none [] none [] [qC 7 1,qA 8 lenSl 7,qF 9 fun s=>some (.int .i64 0)] K s:=(ae hf _ K s).trans (by kernel_rfl)
theorem bu (K:List Item) (t:List (Nat×AV)) (m:Mem):den prog aw 77 (.code k0::K) ⟨t,23,m⟩=L0 (get t 0) (get t 7) (get t 8) (get t 9) m K:=ar hf (b:=l0) (id:=2) (l:=[0,7,8,9]) (by kernel_rfl) (by kernel_rfl) (by kernel_rfl) K _
theorem bP (K:List Item) (t:List (Nat×AV)) (m:Mem):den prog aw 77 (.inLoop l0::.inBlock 0::K) ⟨t,23,m⟩=L0 (get t 0) (get t 7) (get t 8) (get t 9) m K:=ay hf (id:=2) (l:=[0,7,8,9]) (by kernel_rfl) (by kernel_rfl) (.inBlock 0::K) _
theorem aM (x0 x7 x8 x9:AV) (m:Mem) (K:List Item):L0 x0 x7 x8 x9 m K=den prog aw 77 (.code r2::.code i0::.code k1::.code r5::.inLoop l0::.inBlock 0::K) ⟨[(0,x0),(7,x7),(8,x8),(9,x9)],23,m⟩:=af hf (l:=[r2,i0,k1,r5]) (by kernel_rfl) _ _
theorem br:den prog aw 77 (.code r2::K) s=ah prog aw 77 (some [0,7,8,9]) [] none [] [qB 10 (binA prog .lss 3) 9 8] K s:=(ae hf _ K s).trans (by kernel_rfl)
theorem aU:den prog aw 77 (.code i0::K) s=ifV prog aw 77 10 i0t i0e K s (s.get 10):=aB hf (by kernel_rfl) K s
theorem aZ:den prog aw 77 (.code i0t::K) s=den prog aw 77 (K) s:=af hf (l:=[]) (by kernel_rfl) K s
theorem aL:den prog aw 77 (.code i0e::K) s=den prog aw 77 (.code (.exit 0)::K) s:=af hf (l:=[(.exit 0)]) (by kernel_rfl) K s
theorem bH:den prog aw 77 (.code k1::K) s=den prog aw 77 (.code r3::.code r4::.inBlock 1::K) s:=aS hf (b:=blkOf k1) (l:=[r3,r4]) (by kernel_rfl) (by kernel_rfl) K s
theorem aX:den prog aw 77 (.code r3::K) s=ah prog aw 77 none [] none [] [qB 11 (idxSl 1) 7 9,qF 12 fun s=>loadA false 1 s.m (s.get 11),qC 6 12] K s:=(ae hf _ K s).trans (by kernel_rfl)
theorem bg:den prog aw 77 (.code r4::K) s=ah prog aw 77 none [] none [] [qC 13 0,qC 14 6,qA 15 lenStr 14,qA 16 (convInt .u8) 15,qF 17 fun s=>bslF 1 (bslA 1 1 [.int .u8 0] [(0,(s.get 16))]),⟨some 18,none,.w false none fun s=>appendA 1 1 s.m (s.get 13) (s.get 17)⟩,qC 19 6,⟨some 20,none,.w false none fun s=>appendA 1 1 s.m (s.get 18) (s.get 19)⟩,qC 0 20] K s:=(ae hf _ K s).trans (by kernel_rfl)
theorem bd:den prog aw 77 (.code r5::K) s=ah prog aw 77 (some [0,7,8,9]) [] none [] [qF 21 fun s=>binA prog .add 3 (s.get 9) (.int .i64 1),qC 9 21] K s:=(ae hf _ K s).trans (by kernel_rfl)
theorem bo:den prog aw 77 (.code r6::K) s=ah prog aw 77 (some [0]) [] none [] [qC 22 0,qC 4 22] K s:=(ae hf _ K s).trans (by kernel_rfl)
theorem aE:den prog aw 77 (.code .ret::K) s=finM false [fun s=>some (s.get 4)] s:=(aO hf K s).trans (by kernel_rfl)
theorem aC (id:Nat) (K:List Item) (s:St):den prog aw 77 (.inBlock id::K) s=den prog aw 77 K s:=aR hf id K s
theorem aT (id:Nat) (K:List Item) (s:St):den prog aw 77 (.code (.exit id)::K) s=exitV prog aw 77 (exitTo id K) s:=bp hf id K s
theorem al (v0 v1:AV) (m:Mem):denC prog aw 77 [v0,v1] m=den prog aw 77 [.code b] ⟨[(0,v0),(1,v1)],23,m⟩:=(aJ hf (b:=b) (by kernel_rfl) (by kernel_rfl) (by kernel_rfl) m).trans (by kernel_rfl)
theorem aq:(aw 77).pure=false:=by kernel_rfl
attribute [simp] aV aH aI bu bP br aU aZ aL bH aX bg bd bo aE aC aT aq
end
end df
namespace dU
noncomputable section
variable (K : List Item) (s : St)
def b:Code:=(Tryz.f76.body).getD .skip
theorem hf:prog.funcs[76]?=some Tryz.f76:=by kernel_rfl
def r0:=aa b 0
def r1:=aa b 1
def i0:=ak b 0
def i0t:=az i0
def i0e:=aA i0
def r3:=aa b 3
theorem aV:den prog aw 76 (.code b::K) s=den prog aw 76 (.code r0::.code r1::.code i0::.code r3::.code .ret::K) s:=af hf (l:=[r0,r1,i0,r3,.ret]) (by kernel_rfl) K s
theorem aH:den prog aw 76 (.code r0::K) s=ah prog aw 76 none [] none [] [qA 2 frozenPtr 0,qA 3 frozenPtr 1,qF 4 fun s=>some (.nilf)] K s:=(ae hf _ K s).trans (by kernel_rfl)
theorem aI:den prog aw 76 (.code r1::K) s=ah prog aw 76 none [] none [] [qA 5 (loadF false 1) 3,qF 6 fun s=>binA prog .lss 3 (s.get 5) (.int .i64 1)] K s:=(ae hf _ K s).trans (by kernel_rfl)
theorem aU:den prog aw 76 (.code i0::K) s=ifV prog aw 76 6 i0t i0e K s (s.get 6):=aB hf (by kernel_rfl) K s
theorem aL:den prog aw 76 (.code i0e::K) s=den prog aw 76 (K) s:=af hf (l:=[]) (by kernel_rfl) K s
theorem aX:den prog aw 76 (.code r3::K) s=ah prog aw 76 (some [2,3]) [] none [] [qF 8 fun s=>some (.fn 97 [] [(s.get 2),(s.get 3)]),qC 4 8] K s:=(ae hf _ K s).trans (by kernel_rfl)
theorem aE:den prog aw 76 (.code .ret::K) s=finM false [fun s=>some (s.get 4)] s:=(aO hf K s).trans (by kernel_rfl)
theorem al (v0 v1:AV) (m:Mem):denC prog aw 76 [v0,v1] m=den prog aw 76 [.code b] ⟨[(0,v0),(1,v1)],9,m⟩:=(aJ hf (b:=b) (by kernel_rfl) (by kernel_rfl) (by kernel_rfl) m).trans (by kernel_rfl)
theorem aq:(aw 76).pure=false:=by kernel_rfl
attribute [simp] aV aH aI aU aL aX aE aq
end
end dU
namespace iX
noncomputable section
variable (K : List Item) (s : St)
def b:Code:=(Tryz.f44.body).getD .skip
theorem hf:prog.funcs[44]?=some Tryz.f44:=by kernel_rfl
def r0:=aa b 0
def r1:=aa b 1
theorem aV:den prog aw 44 (.code b::K) s=den prog aw 44 (.code r0::.code r1::.code .ret::K) s:=af hf (l:=[r0,r1,.ret]) (by kernel_rfl) K s
theorem aH:den prog aw 44 (.code r0::K) s=ah prog aw 44 none [] none [] [⟨some 0,none,.w false none fun s=>newPtr s.m [.nilm,.nilm]⟩] K s:=(ae hf _ K s).trans (by kernel_rfl)
theorem aI:den prog aw 44 (.code r1::K) s=ah prog aw 44 none [] none [] [⟨some 1,none,.w false none fun s=>some (.map s.m.nx,s.m.new (.map 0 [] []))⟩,⟨some 2,none,.w false none fun s=>some (.map s.m.nx,s.m.new (.map 0 [] []))⟩,qF 3 fun s=>bldA (plc [(0,1),(1,1)]) [.nilm,.nilm] [(0,(s.get 1)),(1,(s.get 2))],⟨none,none,.w false none fun s=>stA true 2 s.m (s.get 0) (s.get 3)⟩] K s:=(ae hf _ K s).trans (by kernel_rfl)
theorem aE:den prog aw 44 (.code .ret::K) s=finM false [fun s=>loadA true 2 s.m (s.get 0)] s:=(aO hf K s).trans (by kernel_rfl)
theorem al (m:Mem):denC prog aw 44 [] m=den prog aw 44 [.code b] ⟨[],4,m⟩:=(aJ hf (b:=b) (by kernel_rfl) (by kernel_rfl) (by kernel_rfl) m).trans (by kernel_rfl)
theorem aq:(aw 44).pure=false:=by kernel_rfl
attribute [simp] aV aH aI aE aq
end
end iX
namespace cg
noncomputable section
variable (K : List Item) (s : St)
def b:Code:=(Tryz.f69.body).getD .skip
theorem hf:prog.funcs[69]?=some Tryz.f69:=by kernel_rfl
def r0:=aa b 0
def r1:=aa b 1
def r2:=aa b 2
def i0:=ak b 0
def i0t:=az i0
def i0e:=aA i0
def r4:=aa b 4
def r5:=aa b 5
def r6:=aa b 6
def r7:=aa b 7
def k0:=ax b 0
def l0:=bw k0
def L0 (x1 x3 x4 x10 x11 x48 x49:AV) (m:Mem) (K:List Item):Option Res:=den prog aw 69 (.code l0::.inLoop l0::.inBlock 0::K) ⟨[(1,x1),(3,x3),(4,x4),(10,x10),(11,x11),(48,x48),(49,x49)],77,m⟩
def r8:=aa b 8
def i1:=ak b 1
def i1t:=az i1
def i1e:=aA i1
def k1:=ax b 1
def r9:=aa b 9
def k2:=ax b 2
def r11:=aa b 11
def i2:=ak b 2
def i2t:=az i2
def i2e:=aA i2
def r12:=aa b 12
def r13:=aa b 13
def r16:=aa b 16
theorem aV:den prog aw 69 (.code b::K) s=den prog aw 69 (.code r0::.code r1::.code r2::.code i0::.code r4::.code r5::.code r6::.code r7::.code k0::K) s:=af hf (l:=[r0,r1,r2,i0,r4,r5,r6,r7,k0]) (by kernel_rfl) K s
theorem aH:den prog aw 69 (.code r0::K) s=ah prog aw 69 none [] none [] [qA 4 frozenPtr 0] K s:=(ae hf _ K s).trans (by kernel_rfl)
theorem aI:den prog aw 69 (.code r1::K) s=ah prog aw 69 none [] none [8] [qA 14 (fieldA 1) 4,qA 15 (loadF false 1) 14,qC 16 2,qF 17 fun s=>lookP prog s.m 3 (.agg page0) (s.get 15) (s.get 16) true,qC 13 17,qF 18 fun s=>extA (s.get 13) 0,qF 19 fun s=>extA (s.get 13) 1,⟨some 8,none,.w false none fun s=>newPtr s.m page0⟩,⟨none,none,.w false none fun s=>stA true 256 s.m (s.get 8) (s.get 18)⟩,qC 9 19] K s:=(ae hf _ K s).trans (by kernel_rfl)
theorem br:den prog aw 69 (.code r2::K) s=ah prog aw 69 none [] none [] [qC 20 9,qC 21 20,⟨some 22,some (21,false),.v fun s=>some (s.get 2)⟩,⟨some 23,some (21,false),.v fun s=>binA prog .lss 3 (s.get 22) (.int .i64 2)⟩,qF 24 fun s=>pickA (s.get 21) (.bool true) (s.get 23),qC 25 24,⟨some 26,some (25,false),.v fun s=>some (s.get 3)⟩,⟨some 27,some (25,false),.v fun s=>binA prog .eql 3 (s.get 26) (.int .i64 0)⟩,qF 28 fun s=>pickA (s.get 25) (.bool true) (s.get 27)] K s:=(ae hf _ K s).trans (by kernel_rfl)
theorem aU:den prog aw 69 (.code i0::K) s=ifV prog aw 69 28 i0t i0e K s (s.get 28):=aB hf (by kernel_rfl) K s
theorem aL:den prog aw 69 (.code i0e::K) s=den prog aw 69 (K) s:=af hf (l:=[]) (by kernel_rfl) K s
theorem dM:bh (fun g=>(aw g).pure) (bj (aw 69) (bI r4)) (bN (aw 69) (bI r4)) (opsOf r4)=true:=aQ (an:=[0,1,0,0,0,8,40,120,248,511]) (by kernel_rfl) (by kernel_rfl)
theorem bg:den prog aw 69 (.code r4::K) s=ah prog aw 69 none [] (some 10) [] [qA 30 (fieldA 1) 4,qA 31 (loadF false 1) 30,qC 32 2,qC 33 1,qC 34 2,qA 35 nilA 33,qA 36 (fieldA 5) 35,qB 37 (idxArr 256 256) 36 34,qF 38 fun s=>loadA true 256 s.m (s.get 37),⟨none,none,.w false (some 9) fun s=>updM prog s.m 3 (s.get 31) (s.get 32) (s.get 38)⟩] K s:=(aW hf dM K s).trans (by kernel_rfl)
theorem bd:den prog aw 69 (.code r5::K) s=ah prog aw 69 none [] none [] [qC 39 1,qC 40 2,⟨some 41,none,.c 0 (fun s=>(.fn 92 [] [])) fun s=>[(s.get 39),(s.get 40)]⟩,qF 42 fun s=>bldA (plc [(0,1)]) [.nils] [(0,(s.get 41))],⟨some 43,none,.w false none fun s=>newPtr s.m (AV.cells (s.get 42))⟩,qC 10 43] K s:=(ae hf _ K s).trans (by kernel_rfl)
theorem bo:den prog aw 69 (.code r6::K) s=ah prog aw 69 none [] none [] [qC 44 10,⟨some 45,none,.c 0 (fun s=>(.fn 93 [] [])) fun s=>[(s.get 44),(.int .i64 2)]⟩,qC 11 45] K s:=(ae hf _ K s).trans (by kernel_rfl)
theorem bM:den prog aw 69 (.code r7::K) s=ah prog aw 69 none [] none [] [qC 46 11,qF 47 fun s=>idxSl 1 (s.get 46) (.int .i64 1),qF 48 fun s=>loadA false 1 s.m (s.get 47),qF 49 fun s=>some (.int .u8 0)] K s:=(ae hf _ K s).trans (by kernel_rfl)
theorem bu (K:List Item) (t:List (Nat×AV)) (m:Mem):den prog aw 69 (.code k0::K) ⟨t,77,m⟩=L0 (get t 1) (get t 3) (get t 4) (get t 10) (get t 11) (get t 48) (get t 49) m K:=ar hf (b:=l0) (id:=8) (l:=[1,3,4,10,11,48,49]) (by kernel_rfl) (by kernel_rfl) (by kernel_rfl) K _
theorem bP (K:List Item) (t:List (Nat×AV)) (m:Mem):den prog aw 69 (.inLoop l0::.inBlock 0::K) ⟨t,77,m⟩=L0 (get t 1) (get t 3) (get t 4) (get t 10) (get t 11) (get t 48) (get t 49) m K:=ay hf (id:=8) (l:=[1,3,4,10,11,48,49]) (by kernel_rfl) (by kernel_rfl) (.inBlock 0::K) _
theorem aM (x1 x3 x4 x10 x11 x48 x49:AV) (m:Mem) (K:List Item):L0 x1 x3 x4 x10 x11 x48 x49 m K=den prog aw 69 (.code r8::.code i1::.code k1::.code r16::.inLoop l0::.inBlock 0::K) ⟨[(1,x1),(3,x3),(4,x4),(10,x10),(11,x11),(48,x48),(49,x49)],77,m⟩:=af hf (l:=[r8,i1,k1,r16]) (by kernel_rfl) _ _
theorem bQ:den prog aw 69 (.code r8::K) s=ah prog aw 69 (some [1,3,4,10,11,48,49]) [] none [] [qB 50 (binA prog .lss 5) 49 48] K s:=(ae hf _ K s).trans (by kernel_rfl)
theorem bC:den prog aw 69 (.code i1::K) s=ifV prog aw 69 50 i1t i1e K s (s.get 50):=aB hf (by kernel_rfl) K s
theorem bA:den prog aw 69 (.code i1t::K) s=den prog aw 69 (K) s:=af hf (l:=[]) (by kernel_rfl) K s
theorem aY:den prog aw 69 (.code i1e::K) s=den prog aw 69 (.code (.exit 0)::K) s:=af hf (l:=[(.exit 0)]) (by kernel_rfl) K s
theorem bH:den prog aw 69 (.code k1::K) s=den prog aw 69 (.code r9::.code k2::.inBlock 1::K) s:=aS hf (b:=blkOf k1) (l:=[r9,k2]) (by kernel_rfl) (by kernel_rfl) K s
theorem bU:den prog aw 69 (.code r9::K) s=ah prog aw 69 none [] none [] [qC 51 11,qF 52 fun s=>idxSl 1 (s.get 51) (.int .i64 0),qF 53 fun s=>loadA false 1 s.m (s.get 52)] K s:=(ae hf _ K s).trans (by kernel_rfl)
theorem dL:den prog aw 69 (.code k2::K) s=den prog aw 69 (.code r11::.code i2::.inBlock 2::K) s:=aS hf (b:=blkOf k2) (l:=[r11,i2]) (by kernel_rfl) (by kernel_rfl) K s
theorem bW:den prog aw 69 (.code r11::K) s=ah prog aw 69 none [] none [] [qF 56 fun s=>binA prog .eql 5 (s.get 53) (.int .u8 1),qC 55 56] K s:=(ae hf _ K s).trans (by kernel_rfl)
theorem cw:den prog aw 69 (.code i2::K) s=ifV prog aw 69 55 i2t i2e K s (s.get 55):=aB hf (by kernel_rfl) K s
theorem cj:den prog aw 69 (.code i2t::K) s=den prog aw 69 (.code r12::.code r13::K) s:=af hf (l:=[r12,r13]) (by kernel_rfl) K s
theorem cv:den prog aw 69 (.code r12::K) s=ah prog aw 69 none [] none [] [qC 57 10,⟨some 58,none,.c 0 (fun s=>(.fn 94 [] [])) fun s=>[(s.get 57)]⟩,qC 12 58] K s:=(ae hf _ K s).trans (by kernel_rfl)
theorem mK:bh (fun g=>(aw g).pure) (bj (aw 69) (bI r13)) (bN (aw 69) (bI r13)) (opsOf r13)=true:=aQ (an:=[0,1,0,0,8,31]) (by kernel_rfl) (by kernel_rfl)
theorem cP:den prog aw 69 (.code r13::K) s=ah prog aw 69 none [] (some 6) [] [qA 59 (fieldA 0) 4,qA 60 (loadF false 1) 59,qC 61 12,qC 62 10,⟨some 63,none,.c 0 (fun s=>(.fn 94 [] [])) fun s=>[(s.get 62)]⟩,⟨none,none,.w false (some 5) fun s=>updM prog s.m 9 (s.get 60) (s.get 61) (s.get 63)⟩] K s:=(aW hf mK K s).trans (by kernel_rfl)
theorem dg:den prog aw 69 (.code r16::K) s=ah prog aw 69 (some [1,3,4,10,11,48,49]) [] none [] [qF 76 fun s=>binA prog .add 5 (s.get 49) (.int .u8 1),qC 49 76] K s:=(ae hf _ K s).trans (by kernel_rfl)
theorem nil_eq (s:St):den prog aw 69 [] s=finM false [] s:=(gk hf s).trans (by kernel_rfl)
theorem aC (id:Nat) (K:List Item) (s:St):den prog aw 69 (.inBlock id::K) s=den prog aw 69 K s:=aR hf id K s
theorem aT (id:Nat) (K:List Item) (s:St):den prog aw 69 (.code (.exit id)::K) s=exitV prog aw 69 (exitTo id K) s:=bp hf id K s
theorem al (v0 v1 v2 v3:AV) (m:Mem):denC prog aw 69 [v0,v1,v2,v3] m=den prog aw 69 [.code b] ⟨[(0,v0),(1,v1),(2,v2),(3,v3)],77,m⟩:=(aJ hf (b:=b) (by kernel_rfl) (by kernel_rfl) (by kernel_rfl) m).trans (by kernel_rfl)
theorem aq:(aw 69).pure=false:=by kernel_rfl
attribute [simp] aV aH aI br aU aL bg bd bo bM bu bP bQ bC bA aY bH bU dL bW cw cj cv cP dg nil_eq aC aT aq
end
end cg
namespace fI
noncomputable section
variable (K : List Item) (s : St)
def b:Code:=(Tryz.f92.body).getD .skip
theorem hf:prog.funcs[92]?=some Tryz.f92:=by kernel_rfl
def r0:=aa b 0
def r1:=aa b 1
def i0:=ak b 0
def i0t:=az i0
def i0e:=aA i0
def r3:=aa b 3
theorem aV:den prog aw 92 (.code b::K) s=den prog aw 92 (.code r0::.code r1::.code i0::.code r3::.code .ret::K) s:=af hf (l:=[r0,r1,i0,r3,.ret]) (by kernel_rfl) K s
theorem aH:den prog aw 92 (.code r0::K) s=ah prog aw 92 none [] none [] [qF 4 fun s=>some (.nils)] K s:=(ae hf _ K s).trans (by kernel_rfl)
theorem aI:den prog aw 92 (.code r1::K) s=ah prog aw 92 none [] none [] [qC 5 0,⟨some 6,none,.c 0 (fun s=>(.fn 22 [] [])) fun s=>[(s.get 5)]⟩,qA 7 (unA .not) 6,qC 8 7,⟨some 9,some (8,false),.v fun s=>some (s.get 1)⟩,⟨some 10,some (8,false),.v fun s=>binA prog .lss 3 (s.get 9) (.int .i64 0)⟩,qF 11 fun s=>pickA (s.get 8) (.bool true) (s.get 10),qC 12 11,⟨some 13,some (12,false),.v fun s=>some (s.get 1)⟩,⟨some 14,some (12,false),.v fun s=>binA prog .geq 3 (s.get 13) (.int .i64 256)⟩,qF 15 fun s=>pickA (s.get 12) (.bool true) (s.get 14)] K s:=(ae hf _ K s).trans (by kernel_rfl)
theorem aU:den prog aw 92 (.code i0::K) s=ifV prog aw 92 15 i0t i0e K s (s.get 15):=aB hf (by kernel_rfl) K s
theorem aL:den prog aw 92 (.code i0e::K) s=den prog aw 92 (K) s:=af hf (l:=[]) (by kernel_rfl) K s
theorem aX:den prog aw 92 (.code r3::K) s=ah prog aw 92 none [] none [] [qC 16 0,qC 17 1,qA 18 nilA 16,qA 19 (fieldA 5) 18,qB 20 (idxArr 256 256) 19 17,qF 21 fun s=>sliceArr 256 1 (s.get 20) none none,⟨some 22,none,.c 0 (fun s=>(.fn 112 [] [])) fun s=>[(s.get 21)]⟩,qC 4 22] K s:=(ae hf _ K s).trans (by kernel_rfl)
theorem aE:den prog aw 92 (.code .ret::K) s=finM false [fun s=>some (s.get 4)] s:=(aO hf K s).trans (by kernel_rfl)
theorem al (v0 v1:AV) (m:Mem):denC prog aw 92 [v0,v1] m=den prog aw 92 [.code b] ⟨[(0,v0),(1,v1)],23,m⟩:=(aJ hf (b:=b) (by kernel_rfl) (by kernel_rfl) (by kernel_rfl) m).trans (by kernel_rfl)
theorem aq:(aw 92).pure=false:=by kernel_rfl
attribute [simp] aV aH aI aU aL aX aE aq
end
end fI
namespace eY
noncomputable section
variable (K : List Item) (s : St)
def b:Code:=(Tryz.f93.body).getD .skip
theorem hf:prog.funcs[93]?=some Tryz.f93:=by kernel_rfl
def r0:=aa b 0
def r1:=aa b 1
def i0:=ak b 0
def i0t:=az i0
def i0e:=aA i0
def r3:=aa b 3
def r4:=aa b 4
def r5:=aa b 5
theorem aV:den prog aw 93 (.code b::K) s=den prog aw 93 (.code r0::.code r1::.code i0::.code r3::.code r4::.code r5::.code .ret::K) s:=af hf (l:=[r0,r1,i0,r3,r4,r5,.ret]) (by kernel_rfl) K s
theorem aH:den prog aw 93 (.code r0::K) s=ah prog aw 93 none [] none [] [qF 4 fun s=>some (.nils)] K s:=(ae hf _ K s).trans (by kernel_rfl)
theorem aI:den prog aw 93 (.code r1::K) s=ah prog aw 93 none [] none [] [qC 6 1,qC 7 0,qA 8 nilA 7,qA 9 (fieldA 0) 8,qF 10 fun s=>loadA false 1 s.m (s.get 9),qA 11 lenSl 10,qB 12 (binA prog .gtr 3) 6 11] K s:=(ae hf _ K s).trans (by kernel_rfl)
theorem aU:den prog aw 93 (.code i0::K) s=ifV prog aw 93 12 i0t i0e K s (s.get 12):=aB hf (by kernel_rfl) K s
theorem aL:den prog aw 93 (.code i0e::K) s=den prog aw 93 (K) s:=af hf (l:=[]) (by kernel_rfl) K s
theorem aX:den prog aw 93 (.code r3::K) s=ah prog aw 93 (some [0,1]) [] none [] [qC 14 0,qA 15 nilA 14,qA 16 (fieldA 0) 15,qF 17 fun s=>loadA false 1 s.m (s.get 16),qC 18 1,qF 19 fun s=>sliceSl 1 (s.get 17) none (some (s.get 18)),qC 5 19] K s:=(ae hf _ K s).trans (by kernel_rfl)
theorem bg:den prog aw 93 (.code r4::K) s=ah prog aw 93 none [] none [] [qC 20 0,qC 21 0,qA 22 nilA 21,qA 23 (fieldA 0) 22,qF 24 fun s=>loadA false 1 s.m (s.get 23),qC 25 1,qF 26 fun s=>sliceSl 1 (s.get 24) (some (s.get 25)) none,qA 27 nilA 20,qA 28 (fieldA 0) 27,⟨none,none,.w false none fun s=>stA false 1 s.m (s.get 28) (s.get 26)⟩] K s:=(ae hf _ K s).trans (by kernel_rfl)
theorem bd:den prog aw 93 (.code r5::K) s=ah prog aw 93 none [] none [] [qC 29 5,qC 4 29] K s:=(ae hf _ K s).trans (by kernel_rfl)
theorem aE:den prog aw 93 (.code .ret::K) s=finM false [fun s=>some (s.get 4)] s:=(aO hf K s).trans (by kernel_rfl)
theorem al (v0 v1:AV) (m:Mem):denC prog aw 93 [v0,v1] m=den prog aw 93 [.code b] ⟨[(0,v0),(1,v1)],30,m⟩:=(aJ hf (b:=b) (by kernel_rfl) (by kernel_rfl) (by kernel_rfl) m).trans (by kernel_rfl)
theorem aq:(aw 93).pure=false:=by kernel_rfl
attribute [simp] aV aH aI aU aL aX bg bd aE aq
end
end eY
namespace eZ
noncomputable section
variable (K : List Item) (s : St)
def b:Code:=(Tryz.f94.body).getD .skip
theorem hf:prog.funcs[94]?=some Tryz.f94:=by kernel_rfl
def r0:=aa b 0
def r1:=aa b 1
theorem aV:den prog aw 94 (.code b::K) s=den prog aw 94 (.code r0::.code r1::.code .ret::K) s:=af hf (l:=[r0,r1,.ret]) (by kernel_rfl) K s
theorem aH:den prog aw 94 (.code r0::K) s=ah prog aw 94 none [] none [] [qF 2 fun s=>some (.str [])] K s:=(ae hf _ K s).trans (by kernel_rfl)
theorem aI:den prog aw 94 (.code r1::K) s=ah prog aw 94 none [] none [] [qC 3 0,qC 4 0,⟨some 5,none,.c 0 (fun s=>(.fn 93 [] [])) fun s=>[(s.get 4),(.int .i64 1)]⟩,qF 6 fun s=>idxSl 1 (s.get 5) (.int .i64 0),qF 7 fun s=>loadA false 1 s.m (s.get 6),qA 8 (convInt .i64) 7,⟨some 9,none,.c 0 (fun s=>(.fn 93 [] [])) fun s=>[(s.get 3),(s.get 8)]⟩,qF 10 fun s=>convStr s.m (s.get 9),qC 2 10] K s:=(ae hf _ K s).trans (by kernel_rfl)
theorem aE:den prog aw 94 (.code .ret::K) s=finM false [fun s=>some (s.get 2)] s:=(aO hf K s).trans (by kernel_rfl)
theorem al (v0:AV) (m:Mem):denC prog aw 94 [v0] m=den prog aw 94 [.code b] ⟨[(0,v0)],11,m⟩:=(aJ hf (b:=b) (by kernel_rfl) (by kernel_rfl) (by kernel_rfl) m).trans (by kernel_rfl)
theorem aq:(aw 94).pure=false:=by kernel_rfl
attribute [simp] aV aH aI aE aq
end
end eZ
namespace fJ
noncomputable section
variable (K : List Item) (s : St)
def b:Code:=(Tryz.f22.body).getD .skip
theorem hf:prog.funcs[22]?=some Tryz.f22:=by kernel_rfl
def r0:=aa b 0
def r1:=aa b 1
theorem aV:den prog aw 22 (.code b::K) s=den prog aw 22 (.code r0::.code r1::.code .ret::K) s:=af hf (l:=[r0,r1,.ret]) (by kernel_rfl) K s
theorem aH:den prog aw 22 (.code r0::K) s=ah prog aw 22 none [] none [] [qF 2 fun s=>some (.bool false)] K s:=(ae hf _ K s).trans (by kernel_rfl)
theorem aI:den prog aw 22 (.code r1::K) s=ah prog aw 22 none [] none [] [qC 3 0,qF 4 fun s=>binA prog .neq 36 (s.get 3) (.nilp),qC 5 4,⟨some 6,some (5,true),.v fun s=>some (s.get 0)⟩,⟨some 7,some (5,true),.v fun s=>nilA (s.get 6)⟩,⟨some 8,some (5,true),.v fun s=>fieldA 0 (s.get 7)⟩,⟨some 9,some (5,true),.v fun s=>loadA false 1 s.m (s.get 8)⟩,qF 10 fun s=>pickA (s.get 5) (s.get 9) (.bool false),qC 2 10] K s:=(ae hf _ K s).trans (by kernel_rfl)
theorem aE:den prog aw 22 (.code .ret::K) s=finM false [fun s=>some (s.get 2)] s:=(aO hf K s).trans (by kernel_rfl)
theorem al (v0:AV) (m:Mem):denC prog aw 22 [v0] m=den prog aw 22 [.code b] ⟨[(0,v0)],11,m⟩:=(aJ hf (b:=b) (by kernel_rfl) (by kernel_rfl) (by kernel_rfl) m).trans (by kernel_rfl)
theorem aq:(aw 22).pure=false:=by kernel_rfl
attribute [simp] aV aH aI aE aq
end
end fJ
namespace e8
noncomputable section
variable (K : List Item) (s : St)
def b:Code:=(Tryz.f112.body).getD .skip
theorem hf:prog.funcs[112]?=some Tryz.f112:=by kernel_rfl
def r0:=aa b 0
def r1:=aa b 1
def i0:=ak b 0
def i0t:=az i0
def i0e:=aA i0
def r3:=aa b 3
theorem aV:den prog aw 112 (.code b::K) s=den prog aw 112 (.code r0::.code r1::.code i0::.code r3::.code .ret::K) s:=af hf (l:=[r0,r1,i0,r3,.ret]) (by kernel_rfl) K s
theorem aH:den prog aw 112 (.code r0::K) s=ah prog aw 112 none [] none [] [qF 2 fun s=>some (.nils)] K s:=(ae hf _ K s).trans (by kernel_rfl)
theorem aI:den prog aw 112 (.code r1::K) s=ah prog aw 112 none [] none [] [qC 3 0,qF 4 fun s=>binA prog .eql 97 (s.get 3) (.nils)] K s:=(ae hf _ K s).trans (by kernel_rfl)
theorem aU:den prog aw 112 (.code i0::K) s=ifV prog aw 112 4 i0t i0e K s (s.get 4):=aB hf (by kernel_rfl) K s
theorem aL:den prog aw 112 (.code i0e::K) s=den prog aw 112 (K) s:=af hf (l:=[]) (by kernel_rfl) K s
theorem aX:den prog aw 112 (.code r3::K) s=ah prog aw 112 none [] none [] [⟨some 5,none,.w false none fun s=>bslM s.m 0 (bslA 1 0 [.int .u8 0] [])⟩,qC 6 0,⟨some 7,none,.w true none fun s=>appendA 1 1 s.m (s.get 5) (s.get 6)⟩,qC 2 7] K s:=(ae hf _ K s).trans (by kernel_rfl)
theorem aE:den prog aw 112 (.code .ret::K) s=finM false [fun s=>some (s.get 2)] s:=(aO hf K s).trans (by kernel_rfl)
theorem al (v0:AV) (m:Mem):denC prog aw 112 [v0] m=den prog aw 112 [.code b] ⟨[(0,v0)],8,m⟩:=(aJ hf (b:=b) (by kernel_rfl) (by kernel_rfl) (by kernel_rfl) m).trans (by kernel_rfl)
theorem aq:(aw 112).pure=false:=by kernel_rfl
attribute [simp] aV aH aI aU aL aX aE aq
end
end e8
end Go.Proofs.YtadofgdidhpnpaaGreatDoor

/-
  THE PARTS OF leaves: filled, texted. Conditions: none.
-/
namespace Go.Proofs.YtadofgdidhpnpaaGreatDoor
open Go.AM
open Go.Proofs
open Go.Proofs.Tryz (prog)
set_option linter.all false
set_option maxRecDepth 100000
theorem cE:page0.length=256:=by simp [page0]
theorem cR:oneL page0=true:=by rw [page0];rfl
theorem aN (l:List UInt8):(u8L l).length=l.length:=by simp [u8L]
theorem gZ:page0=u8L (List.replicate 256 0):=by simp [page0,u8L]
theorem cQ (l:List UInt8):oneL (u8L l)=true:=by
 induction l with
 | nil=>rfl
 | cons a l ih=>simp only [u8L,List.map_cons,oneL,BK,Bool.true_and];exact ih
theorem bZ (l:List UInt8):closedL (u8L l)=true:=by
 induction l with
 | nil=>rfl
 | cons a l ih=>simp only [u8L,List.map_cons,closedL,tJ,Bool.true_and];exact ih
theorem gY (h:Nat→Option AObj) (d:Nat) (l:List UInt8):mapO (deep h (d+1)) (u8L l)=some (u8L l):=ia fun a ha=>by
 obtain⟨b,_,rfl⟩:=List.mem_map.1 ha
 rfl
theorem dK (l:List UInt8):(padB l).length=256:=by simp [padB]
theorem pJ (l:List UInt8):padB l=l.take 256++List.replicate (256 - l.length) 0:=by
 rw [padB,List.take_append,List.take_replicate]
 congr 2
 omega
theorem lI (l:List UInt8):splice (u8L (List.replicate 256 0)) 0 ((u8L l).take (min l.length 256))=u8L (padB l):=by
 rw [pJ,splice,List.take_zero,List.nil_append,u8L,u8L,u8L,← List.map_take,List.length_map,← List.map_drop,← List.map_append,List.drop_replicate,List.length_take]
 congr 2
 ·by_cases h:l.length≤256
  ·rw [Nat.min_eq_left h,List.take_of_length_le (Nat.le_refl _),List.take_of_length_le h]
  ·rw [Nat.min_eq_right (by omega)]
 ·congr 1;omega
theorem jN (n id top:Nat) (h:n≤top):sliceArr n 1 (.ptr id 0 top) none none=some (.sl id 1 0 n top):=by
 simp [sliceArr,bnds,bnd,h]
def copyO (m:Mem) (id off n0 top n:Nat) (news:List AV) (o:Option AObj):Option (AV×Mem):=match o with
 | some (.cells xs)=>bif xs.length==top&&Nat.ble (off+n0) top then some (.int .i64 (min n n0:Nat),m.set id (some (.cells (splice xs off (news.take (min n n0)))))) else none
 | _=>none
theorem fU (m:Mem) (id off n0 top n:Nat) (x:Bool) (cs:List AV) (h:cs.length=n):copyA 1 m (.sl id 1 off n0 top) (.fsl x n cs)=copyO m id off n0 top n cs (m.h id):=by
 simp only [copyA,srcA,AV.isStr,beq_self_eq_true,Bool.not_false,Bool.and_self,cond_true,Nat.mul_one,h,Option.bind_some,copyO,Bool.true_and]
 rfl
@[simp] theorem CI (m:Mem) (id off n0 top n:Nat) (news xs:List AV):copyO m id off n0 top n news (some (.cells xs))=bif xs.length==top&&Nat.ble (off+n0) top then some (.int .i64 (min n n0:Nat),m.set id (some (.cells (splice xs off (news.take (min n n0)))))) else none:=rfl
theorem lH (x:Bool) (l:List UInt8) (m:Mem):denC prog aw 45 [.fsl x l.length (u8L l)] m=some (.agg (u8L (padB l)),m):=by
 rw [ib.al _ _ (by simp)]
 obtain⟨Z,hZ⟩:∃Z,page0=Z:=⟨_,rfl⟩
 have h1:Z.length=256:=by rw [← hZ,cE]
 have h2:oneL Z=true:=by rw [← hZ];exact cR
 have h3:List.take (min l.length 256) (u8L l)++List.drop (min l.length 256) Z=u8L (padB l):=by
  have:=lI l
  rw [← gZ,hZ,splice,List.take_zero,List.nil_append,List.length_take,aN,Nat.zero_add] at this
  rw [← this]
  congr 2
  omega
 have h4:=dK l
 have h6:min l.length 256+(256 - min l.length 256)=256:=by omega
 have h7:List.take 256 (u8L (padB l))=u8L (padB l):=List.take_of_length_le (by rw [aN,h4];exact Nat.le_refl _)
 have h8:List.drop 256 Z=[]:=List.drop_of_length_le (by omega)
 simp [hZ,h1,h2,aN,cQ,jN,fU,h3,h4,h6,h7,h8,gY]
theorem pI (n:Nat) (h:n≤100):IntKind.wrap .u8 (n:Int)=((UInt8.ofNat n).toNat:Int):=by
 have:(UInt8.ofNat n).toNat=n:=by simp;omega
 rw [this]
 simp [IntKind.wrap,IntKind.signed,IntKind.bits]
 omega
theorem tL {h:Nat→Option AObj} {i:Nat} {o:Option AObj} (e:h i=o):upd h i o=h:=by
 funext j
 simp only [aK]
 by_cases hj:j=i
 ·subst hj;simp [e]
 ·have:(j==i)=false:=by simpa using hj
  rw [this];rfl
theorem iM (m:Mem) (A n0 top n:Nat) (bs news:List UInt8) (h0:n0=bs.length) (h1:top=bs.length) (h2:n=news.length) (hA:m.h A=some (.cells (u8L bs))) (hl:n0+n≤1000000) :
  appO 1 1 m A 1 0 n0 top n (u8L news) (some (.cells (u8L bs)))=some (.sl A 1 0 (n0+n) (n0+n),⟨upd m.h A (some (.cells (u8L (bs++news)))),m.nx⟩):=by
 subst h0 h1 h2
 have e:u8L bs++u8L news=u8L (bs++news):=by simp [u8L]
 rw [jO]
 cases hn:(news.length==0) with
 | true =>
  have:news=[]:=List.length_eq_zero_iff.1 (by simpa using hn)
  subst this
  simp [aN,tL hA]
 | false =>
  have a1:bs.length+news.length≤4611686018427387904:=by omega
  have a2:bs.length+news.length≤70368744177664:=by omega
  simp [aN,e,a1,a2]
theorem pK (a b:List UInt8):u8L a++u8L b=u8L (a++b):=by simp [u8L]
theorem rm (A B:Nat) (hAB:A≠B) (bs k v:List UInt8) (m:Mem) (hA:m.h A=some (.cells (u8L bs))) (hB:m.h B=some (.cells [.str k,.str v])) (hl:bs.length≤100000) (hk:k.length≤100) (hv:v.length≤100) :
  denC prog aw 77 [.sl A 1 0 bs.length bs.length,.sl B 1 0 2 2] m=some (.sl A 1 0 (bs++(textB k++textB v)).length (bs++(textB k++textB v)).length,⟨upd m.h A (some (.cells (u8L (bs++(textB k++textB v))))),m.nx⟩):=by
 rw [df.al]
 have hBA:(B==A)=false:=by simpa using fun h=>hAB h.symm
 obtain⟨xk,hxk⟩:∃x,UInt8.ofNat k.length=x:=⟨_,rfl⟩
 obtain⟨xv,hxv⟩:∃x,UInt8.ofNat v.length=x:=⟨_,rfl⟩
 have ek:IntKind.wrap .u8 (k.length:Int)=(xk.toNat:Int):=by rw [pI _ hk,hxk]
 have ev:IntKind.wrap .u8 (v.length:Int)=(xv.toNat:Int):=by rw [pI _ hv,hxv]
 have tk:textB k=xk::k:=by rw [textB,hxk]
 have tv:textB v=xv::v:=by rw [textB,hxv]
 have mk:k.map (fun b=>AV.int .u8 b.toNat)=u8L k:=rfl
 have mv:v.map (fun b=>AV.int .u8 b.toNat)=u8L v:=rfl
 rw [tk,tv]
 clear tk tv hxk hxv
 have A1:∀(m':Mem) (n0 top:Nat),n0=bs.length→top=bs.length→m'.h A=some (.cells (u8L bs))→n0+1≤1000000→appO 1 1 m' A 1 0 n0 top 1 [AV.int .u8 xk.toNat] (some (.cells (u8L bs)))=some (.sl A 1 0 (n0+1) (n0+1),⟨upd m'.h A (some (.cells (u8L (bs++[xk])))),m'.nx⟩) :=
  fun m' n0 top h1 h2 h3 h4=>iM m' A n0 top 1 bs [xk] h1 h2 rfl h3 h4
 have A2:∀(m':Mem) (n0 top n:Nat),n0=bs.length+1→top=bs.length+1→n=k.length→m'.h A=some (.cells (u8L (bs++[xk])))→n0+n≤1000000→appO 1 1 m' A 1 0 n0 top n (u8L k) (some (.cells (u8L (bs++[xk]))))=some (.sl A 1 0 (n0+n) (n0+n),⟨upd m'.h A (some (.cells (u8L (bs++xk::k)))),m'.nx⟩) :=
  fun m' n0 top n h1 h2 h3 h4 h5=>(iM m' A n0 top n _ k (by simp [h1]) (by simp [h2]) h3 h4 h5).trans (by simp)
 have A3:∀(m':Mem) (n0 top:Nat),n0=bs.length+(k.length+1)→top=bs.length+(k.length+1)→m'.h A=some (.cells (u8L (bs++xk::k)))→n0+1≤1000000→appO 1 1 m' A 1 0 n0 top 1 [AV.int .u8 xv.toNat] (some (.cells (u8L (bs++xk::k))))=some (.sl A 1 0 (n0+1) (n0+1),⟨upd m'.h A (some (.cells (u8L (bs++xk::(k++[xv]))))),m'.nx⟩) :=
  fun m' n0 top h1 h2 h3 h4=>(iM m' A n0 top 1 _ [xv] (by simp [h1]) (by simp [h2]) rfl h3 h4).trans (by simp)
 have A4:∀(m':Mem) (n0 top n:Nat),n0=bs.length+(k.length+1+1)→top=bs.length+(k.length+1+1)→n=v.length→m'.h A=some (.cells (u8L (bs++xk::(k++[xv]))))→n0+n≤1000000→appO 1 1 m' A 1 0 n0 top n (u8L v) (some (.cells (u8L (bs++xk::(k++[xv])))))=some (.sl A 1 0 (n0+n) (n0+n),⟨upd m'.h A (some (.cells (u8L (bs++xk::(k++xv::v))))),m'.nx⟩) :=
  fun m' n0 top n h1 h2 h3 h4 h5=>(iM m' A n0 top n _ v (by simp [h1]) (by simp [h2]) h3 h4 h5).trans (by simp)
 have b1:bs.length+1≤1000000:=by omega
 have b2:bs.length+1+k.length≤1000000:=by omega
 have b3:bs.length+1+k.length+1≤1000000:=by omega
 have b4:bs.length+1+k.length+1+v.length≤1000000:=by omega
 have c1:bs.length+1+k.length=bs.length+(k.length+1):=by omega
 have c2:bs.length+(k.length+1)+1=bs.length+(k.length+1+1):=by omega
 have c3:bs.length+(k.length+1+1)+v.length=bs.length+(k.length+(v.length+1)+1):=by omega
 have w1:IntKind.wrap .i64 1=1:=by decide
 have w2:IntKind.wrap .i64 2=2:=by decide
 simp
 rw [df.aM]
 simp (disch:=first | omega | simp [hA]) [hA,hB,-jO,ek,mk,A1,A2,w1]
 rw [df.aM]
 simp (disch:=first | omega | simp [hA]) [hA,hB,hBA,-jO,ev,mv,A3,A4,w1,w2]
 rw [df.aM]
 simp [w2]
 omega
end Go.Proofs.YtadofgdidhpnpaaGreatDoor
