/-
  THE ABSTRACT MACHINE: what an abstract value stands for in a world, and that it stands for it as long as the memory that is no longer written stays. Conditions: none.
-/
import Derived.Maps.RangeRun
import Derived.Laws.Tables
import Derived.Great.BuildSlice
import Derived.Laws.StructEq
import Derived.Laws.IdiomCopy
import Derived.Calls
import Derived.Lib.Strings
import Derived.ChangeKeysEq
import Derived.Test.YtadofgdidhpnpaaGreatDoorKAmA
set_option linter.all false
namespace Go.AM
abbrev Pl:=Nat→Nat→Option (Nat×Nat×Nat)
def P0:Pl:=fun _ _=>none
def CellsAt (w:World) (b off:Nat) (vs:List Value):Prop:=∀j v,vs[j]?=some v→w.cell? ⟨b,off+j,none⟩=some v
def One (vs:List Value):Prop:=∀v∈vs,v.oneCell'=true
mutual
def Rep (w:World) (N:Nat→Prop):Pl→AV→Value→Prop
 | _,.undef,_=>True
 | _,.bool b,v=>v=.bool b
 | _,.int k n,v=>v=.int k n
 | _,.str s,v=>v=.string ⟨s.toArray⟩
 | _,.nilp,v=>v=.pointer none
 | i,.ptr id off top,v=>∃b o c,i id top=some (b,o,c)∧v=.pointer (some ⟨b,o+off,none⟩)
 | _,.fptr cells,v=>∃b off vs,N b∧v=.pointer (some ⟨b,off,none⟩)∧CellsAt w b off vs∧One vs∧RepL w N P0 cells vs
 | i,.sptr cells,v=>∃b off vs,N b∧v=.pointer (some ⟨b,off,none⟩)∧CellsAt w b off vs∧One vs∧RepL w N i cells vs
 | _,.nils,v=>v=.slice none 0 0
 | i,.sl id es off n top,v=>∃b o c off' cap,i id top=some (b,o,c)∧v=.slice (some ⟨b,off',none⟩) n cap∧(cap≠0→off'=o+off)∧n≤cap∧o+off+cap*es≤c
 | _,.fsl ex n cells,v=>∃a cap vs,v=.slice (some a) n cap∧n≤cap∧(ex=true→cap=n)∧((n=0∧vs=[])∨∃b off,a=⟨b,off,none⟩∧N b∧CellsAt w b off vs)∧One vs∧RepL w N P0 cells vs
 | _,.nilm,v=>v=.map none
 | i,.map id,v=>∃b o c,i id 0=some (b,o,c)∧v=.map (some b)
 | _,.fmap ks vs,v=>∃b es clock,N b∧v=.map (some b)∧(w.heap[b]?=some (.map es clock)∧clock=es.size∧∀(k:Nat) e,es[k]?=some e→e.born=k)∧RepL w N P0 ks (es.toList.map (·.key))∧RepL w N P0 vs (es.toList.map (·.val))
 | i,.fn f first caps,v=>∃fs cs,v=.func (.func f) fs cs∧RepL w N i first fs.toList∧RepL w N i caps cs.toList
 | _,.nilf,v=>v=.nilFunc
 | i,.iface t a,v=>∃u,v=.iface t u∧Rep w N i a u
 | _,.nili,v=>v=.nilIface
 | i,.agg cs,v=>∃vs,v=.agg vs∧RepL w N i cs vs.toList
 | i,.tup cs,v=>∃vs,v=.tuple vs∧RepL w N i cs vs.toList
 | i,.iter id,v=>∃b o c,i id 0=some (b,o,c)∧v=.pointer (some ⟨b,0,none⟩)
def RepL (w:World) (N:Nat→Prop):Pl→List AV→List Value→Prop
 | _,[],vs=>vs=[]
 | i,a::as,vs=>∃v r,vs=v::r∧Rep w N i a v∧RepL w N i as r
end
structure Le (w:World) (N:Nat→Prop) (i:Pl) (w':World) (N':Nat→Prop) (i':Pl):Prop where
 hN:∀b,N b→N' b
 hw:∀b,N b→w'.heap[b]?=w.heap[b]?
 hi:∀id top x,i id top=some x→i' id top=some x
theorem dC {w w':World} {b off:Nat} (h:w'.heap[b]?=w.heap[b]?):w'.cell? ⟨b,off,none⟩=w.cell? ⟨b,off,none⟩:=by
 simp [World.cell?,h]
theorem CellsAt.congr {w w':World} {b off:Nat} {vs:List Value} (hh:w'.heap[b]?=w.heap[b]?) (h:CellsAt w b off vs):CellsAt w' b off vs :=
 fun j v hj=>by rw [dC hh];exact h j v hj
theorem Le.p0 {w:World} {N:Nat→Prop} {i:Pl} {w':World} {N':Nat→Prop} {i':Pl} (h:Le w N i w' N' i'):Le w N P0 w' N' P0 :=
 ⟨h.hN,h.hw,fun _ _ _ h=>h⟩
mutual
theorem Rep.mono {w:World} {N:Nat→Prop} {w':World} {N':Nat→Prop}:∀ {i i':Pl} (_:Le w N i w' N' i') (a:AV) {v:Value},Rep w N i a v→Rep w' N' i' a v
 | _,_,_,.undef,_,_=>trivial
 | _,_,_,.bool _,_,h=>h
 | _,_,_,.int _ _,_,h=>h
 | _,_,_,.str _,_,h=>h
 | _,_,_,.nilp,_,h=>h
 | _,_,l,.ptr id off top,_,⟨b,o,c,h1,h2⟩=>⟨b,o,c,l.hi _ _ _ h1,h2⟩
 | _,_,l,.fptr cells,_,⟨b,off,vs,h1,h2,h3,h4,h5⟩=>⟨b,off,vs,l.hN _ h1,h2,h3.congr (l.hw _ h1),h4,RepL.mono l.p0 cells h5⟩
 | _,_,l,.sptr cells,_,⟨b,off,vs,h1,h2,h3,h4,h5⟩=>⟨b,off,vs,l.hN _ h1,h2,h3.congr (l.hw _ h1),h4,RepL.mono l cells h5⟩
 | _,_,_,.nils,_,h=>h
 | _,_,l,.sl ..,_,⟨b,o,c,off',cap,h1,h2⟩=>⟨b,o,c,off',cap,l.hi _ _ _ h1,h2⟩
 | _,_,l,.fsl _ _ cells,_,⟨a,cap,vs,h1,h2,h3,h4,h5,h6⟩=>⟨a,cap,vs,h1,h2,h3,h4.imp id (fun⟨b,off,k1,k2,k3⟩=>⟨b,off,k1,l.hN _ k2,k3.congr (l.hw _ k2)⟩),h5,RepL.mono l.p0 cells h6⟩
 | _,_,_,.nilm,_,h=>h
 | _,_,l,.map _,_,⟨b,o,c,h1,h2⟩=>⟨b,o,c,l.hi _ _ _ h1,h2⟩
 | _,_,l,.fmap ks vs,_,⟨b,es,clock,h1,h2,h3,h4,h5⟩=>⟨b,es,clock,l.hN _ h1,h2,⟨(l.hw _ h1).trans h3.1,h3.2⟩,RepL.mono l.p0 ks h4,RepL.mono l.p0 vs h5⟩
 | _,_,l,.fn _ first caps,_,⟨fs,cs,h1,h2,h3⟩=>⟨fs,cs,h1,RepL.mono l first h2,RepL.mono l caps h3⟩
 | _,_,_,.nilf,_,h=>h
 | _,_,l,.iface _ a,_,⟨u,h1,h2⟩=>⟨u,h1,Rep.mono l a h2⟩
 | _,_,_,.nili,_,h=>h
 | _,_,l,.agg cs,_,⟨vs,h1,h2⟩=>⟨vs,h1,RepL.mono l cs h2⟩
 | _,_,l,.tup cs,_,⟨vs,h1,h2⟩=>⟨vs,h1,RepL.mono l cs h2⟩
 | _,_,l,.iter _,_,⟨b,o,c,h1,h2⟩=>⟨b,o,c,l.hi _ _ _ h1,h2⟩
theorem RepL.mono {w:World} {N:Nat→Prop} {w':World} {N':Nat→Prop}:∀ {i i':Pl} (_:Le w N i w' N' i') (as:List AV) {vs:List Value},RepL w N i as vs→RepL w' N' i' as vs
 | _,_,_,[],_,h=>h
 | _,_,l,a::as,_,⟨v,r,h1,h2,h3⟩=>⟨v,r,h1,Rep.mono l a h2,RepL.mono l as h3⟩
end
mutual
theorem Rep.closed {w:World} {N:Nat→Prop} {i i':Pl}:∀(a:AV) {v:Value},a.closed=true→Rep w N i a v→Rep w N i' a v
 | .undef,_,_,_=>trivial
 | .bool _,_,_,h=>h
 | .int _ _,_,_,h=>h
 | .str _,_,_,h=>h
 | .nilp,_,_,h=>h
 | .ptr ..,_,c,_=>by simp [AV.closed] at c
 | .fptr _,_,_,h=>h
 | .sptr _,_,c,_=>by simp [AV.closed] at c
 | .nils,_,_,h=>h
 | .sl ..,_,c,_=>by simp [AV.closed] at c
 | .fsl ..,_,_,h=>h
 | .nilm,_,_,h=>h
 | .map _,_,c,_=>by simp [AV.closed] at c
 | .fmap ..,_,_,h=>h
 | .fn _ first caps,_,c,⟨fs,cs,h1,h2,h3⟩=>by
  simp [AV.closed] at c
  exact⟨fs,cs,h1,RepL.closed first c.1 h2,RepL.closed caps c.2 h3⟩
 | .nilf,_,_,h=>h
 | .iface _ a,_,c,⟨u,h1,h2⟩=>⟨u,h1,Rep.closed a (by simpa [AV.closed] using c) h2⟩
 | .nili,_,_,h=>h
 | .agg cs,_,c,⟨vs,h1,h2⟩=>⟨vs,h1,RepL.closed cs (by simpa [AV.closed] using c) h2⟩
 | .tup cs,_,c,⟨vs,h1,h2⟩=>⟨vs,h1,RepL.closed cs (by simpa [AV.closed] using c) h2⟩
 | .iter _,_,c,_=>by simp [AV.closed] at c
theorem RepL.closed {w:World} {N:Nat→Prop} {i i':Pl}:∀(as:List AV) {vs:List Value},closedL as=true→RepL w N i as vs→RepL w N i' as vs
 | [],_,_,h=>h
 | a::as,_,c,⟨v,r,h1,h2,h3⟩=>by
  simp [closedL] at c
  exact⟨v,r,h1,Rep.closed a c.1 h2,RepL.closed as c.2 h3⟩
end
theorem Rep.one {w:World} {N:Nat→Prop} {i:Pl} {a:AV} {v:Value} (h1:a.one=true) (h:Rep w N i a v):v.oneCell'=true:=by
 cases a<;>simp [AV.one] at h1<;>simp only [Rep] at h
 all_goals first
  | (subst h;rfl)
  | (obtain⟨b,o,c,_,rfl⟩:=h;rfl)
  | (obtain⟨b,off,vs,_,rfl,_⟩:=h;rfl)
  | (obtain⟨b,o,c,off',cap,_,rfl,_⟩:=h;rfl)
  | (obtain⟨a,cap,vs,rfl,_⟩:=h;rfl)
  | (obtain⟨b,es,clock,_,rfl,_⟩:=h;rfl)
  | (obtain⟨fs,cs,rfl,_⟩:=h;rfl)
  | (obtain⟨u,rfl,_⟩:=h;rfl)
theorem RepL.oneL {w:World} {N:Nat→Prop} {i:Pl}:∀ {as:List AV} {vs:List Value},oneL as=true→RepL w N i as vs→One vs
 | [],_,_,h=>by cases h;exact fun _ h=>by cases h
 | a::as,_,c,⟨v,r,h1,h2,h3⟩=>by
  simp [AM.oneL] at c
  subst h1
  intro u hu
  rcases List.mem_cons.1 hu with rfl | hu
  ·exact Rep.one c.1 h2
  ·exact RepL.oneL c.2 h3 u hu
theorem RepL.length {w:World} {N:Nat→Prop} {i:Pl}:∀ {as:List AV} {vs:List Value},RepL w N i as vs→vs.length=as.length
 | [],_,h=>by cases h;rfl
 | a::as,_,⟨v,r,h1,h2,h3⟩=>by subst h1;simp [RepL.length h3]
theorem RepL.get {w:World} {N:Nat→Prop} {i:Pl}:∀ {as:List AV} {vs:List Value},RepL w N i as vs→∀ {j:Nat} {a:AV},as[j]?=some a→∃v,vs[j]?=some v∧Rep w N i a v
 | [],_,_,_,_,hj=>by simp at hj
 | a::as,_,⟨v,r,h1,h2,h3⟩,0,_,hj=>by simp at hj;subst hj h1;exact⟨v,rfl,h2⟩
 | a::as,_,⟨v,r,h1,h2,h3⟩,j+1,_,hj=>by subst h1;simpa using RepL.get h3 (by simpa using hj)
theorem RepL.append {w:World} {N:Nat→Prop} {i:Pl}:∀ {as bs:List AV} {vs us:List Value},RepL w N i as vs→RepL w N i bs us→RepL w N i (as++bs) (vs++us)
 | [],_,_,_,h,k=>by cases h;exact k
 | a::as,_,_,_,⟨v,r,h1,h2,h3⟩,k=>by subst h1;exact⟨v,_,rfl,h2,RepL.append h3 k⟩
theorem RepL.drop {w:World} {N:Nat→Prop} {i:Pl}:∀ {as:List AV} {vs:List Value} (n:Nat),RepL w N i as vs→RepL w N i (as.drop n) (vs.drop n)
 | _,_,0,h=>h
 | [],_,n+1,h=>by cases h;rfl
 | a::as,_,n+1,⟨v,r,h1,h2,h3⟩=>by subst h1;simpa using RepL.drop n h3
theorem RepL.take {w:World} {N:Nat→Prop} {i:Pl}:∀ {as:List AV} {vs:List Value} (n:Nat),RepL w N i as vs→RepL w N i (as.take n) (vs.take n)
 | _,_,0,_=>by simp [RepL]
 | [],_,n+1,h=>by cases h;rfl
 | a::as,_,n+1,⟨v,r,h1,h2,h3⟩=>by subst h1;exact⟨v,_,rfl,h2,RepL.take n h3⟩
theorem RepL.set {w:World} {N:Nat→Prop} {i:Pl}:∀ {as:List AV} {vs:List Value} (n:Nat) {a:AV} {v:Value},RepL w N i as vs→Rep w N i a v→RepL w N i (as.set n a) (vs.set n v)
 | [],_,_,_,_,h,_=>by cases h;rfl
 | _::as,_,0,_,v',⟨v,r,h1,h2,h3⟩,k=>by subst h1;exact⟨v',r,rfl,k,h3⟩
 | _::as,_,n+1,_,_,⟨v,r,h1,h2,h3⟩,k=>by subst h1;exact⟨v,_,rfl,h2,RepL.set n h3 k⟩
theorem RepL.eraseIdx {w:World} {N:Nat→Prop} {i:Pl}:∀ {as:List AV} {vs:List Value} (n:Nat),RepL w N i as vs→RepL w N i (as.eraseIdx n) (vs.eraseIdx n)
 | [],_,_,h=>by cases h;rfl
 | _::as,_,0,⟨v,r,h1,h2,h3⟩=>by subst h1;exact h3
 | _::as,_,n+1,⟨v,r,h1,h2,h3⟩=>by subst h1;exact⟨v,_,rfl,h2,RepL.eraseIdx n h3⟩
theorem RepL.nil {w:World} {N:Nat→Prop} {i:Pl}:RepL w N i [] []:=rfl
theorem RepL.cons {w:World} {N:Nat→Prop} {i:Pl} {a:AV} {as:List AV} {v:Value} {vs:List Value} (h:Rep w N i a v) (k:RepL w N i as vs):RepL w N i (a::as) (v::vs):=⟨v,vs,rfl,h,k⟩
theorem CellsAt.drop {w:World} {b off:Nat} {vs:List Value} (h:CellsAt w b off vs) (n:Nat):CellsAt w b (off+n) (vs.drop n):=by
 intro j v hj
 rw [List.getElem?_drop] at hj
 have:=h (n+j) v hj
 rwa [← Nat.add_assoc] at this
theorem CellsAt.take {w:World} {b off:Nat} {vs:List Value} (h:CellsAt w b off vs) (n:Nat):CellsAt w b off (vs.take n):=by
 intro j v hj
 rw [List.getElem?_take] at hj
 split at hj
 ·exact h j v hj
 ·cases hj
theorem One.drop {vs:List Value} (h:One vs) (n:Nat):One (vs.drop n):=fun v hv=>h v (List.mem_of_mem_drop hv)
theorem One.take {vs:List Value} (h:One vs) (n:Nat):One (vs.take n):=fun v hv=>h v (List.mem_of_mem_take hv)
theorem One.append {vs us:List Value} (h:One vs) (k:One us):One (vs++us):=fun v hv=>(List.mem_append.1 hv).elim (h v) (k v)
end Go.AM

/-
  THE ABSTRACT MACHINE: when a world bears a heap of objects, and how it may go on. Conditions: none.
-/
namespace Go.AM
def FrOk (fr:Nat×Nat) (c:Nat):Prop:=(∀k,k < c→¬(fr.1≤k∧k < fr.2))∧fr.1≤fr.2
def ObjRep (w:World) (N:Nat→Prop) (i:Pl) (b p c:Nat):AObj→Prop
 | .cells xs=>∃arr elem fr vs,w.heap[b]?=some (.cells arr elem fr)∧arr.size=c∧FrOk fr c∧p+xs.length≤c∧CellsAt w b p vs∧One vs∧RepL w N i xs vs
 | .map _ ks us=>∃es:Array MapEntry,w.heap[b]?=some (.map es es.size)∧(∀(k:Nat) e,es[k]?=some e→e.born=k)∧RepL w N i ks (es.toList.map (·.key))∧RepL w N i us (es.toList.map (·.val))∧p≤c
 | .iter cur ks us=>∃(bm:Nat) (es:Array MapEntry) (seen:Array Nat),N bm∧w.heap[bm]?=some (.map es es.size)∧(∀(k:Nat) e,es[k]?=some e→e.born=k)∧w.heap[b]?=some (.mapIter (some bm) es.size seen es.size) ∧
   RepL w N i ks ((leftOf es seen).toList.map (·.key))∧RepL w N i us ((leftOf es seen).toList.map (·.val))∧(cur=[]∨∃(a c:AV) (e:MapEntry) (s0:Array Nat),cur=[a,c]∧seen=s0.push e.born∧e∈es.toList∧Rep w N i a e.key∧Rep w N i c e.val)∧p≤c
def Live (m:Mem) (i:Pl) (b:Nat):Prop:=∃id o p c,m.h id=some o∧i id o.top=some (b,p,c)
structure Sim (m:Mem) (w:World) (N:Nat→Prop) (i:Pl):Prop where
 live:∀id o,m.h id=some o→∃b p c,i id o.top=some (b,p,c)∧¬N b∧ObjRep w N i b p c o
 inj:∀id id' o o' b p c p' c',m.h id=some o→m.h id'=some o'→i id o.top=some (b,p,c)→i id' o'.top=some (b,p',c')→id=id'
 top:∀id o t x,m.h id=some o→i id t=some x→t≤o.top
 nlt:∀b,N b→b < w.heap.size
 bnd:∀id t b p c,i id t=some (b,p,c)→p+t≤c
structure Ext (m:Mem) (w:World) (N:Nat→Prop) (i:Pl) (m':Mem) (w':World) (N':Nat→Prop) (i':Pl):Prop where
 os:w'.os=w.os
 tape:w'.tape=w.tape
 output:w'.output=w.output
 size:w.heap.size≤w'.heap.size
 hN:∀b,N b→N' b
 hi:∀id t x,i id t=some x→i' id t=some x
 keep:∀b,b < w.heap.size→¬Live m i b→w'.heap[b]?=w.heap[b]?
 grow:∀b,Live m' i' b→Live m i b∨w.heap.size≤b
 iV:∀b,N' b→N b∨Live m i b∨w.heap.size≤b
 nx:m.nx≤m'.nx
 pl:∀id t x,i' id t=some x→(∃t' y,i id t'=some y)∨(m.nx≤id∧id < m'.nx)
theorem ObjRep.lt {w:World} {N:Nat→Prop} {i:Pl} {b p c:Nat} {o:AObj} (h:ObjRep w N i b p c o):b < w.heap.size:=by
 have:∃x,w.heap[b]?=some x:=by
  cases o with
  | cells xs=>obtain⟨arr,elem,fr,vs,h,_⟩:=h;exact⟨_,h⟩
  | map g ks us=>obtain⟨es,h,_⟩:=h;exact⟨_,h⟩
  | iter _ ks us=>obtain⟨bm,es,seen,h1,h2,h3,h4,_⟩:=h;exact⟨_,h4⟩
 obtain⟨x,hx⟩:=this
 rcases Nat.lt_or_ge b w.heap.size with h' | h'
 ·exact h'
 ·simp [Array.getElem?_eq_none h'] at hx
theorem ObjRep.room {w:World} {N:Nat→Prop} {i:Pl} {b p c:Nat}:∀ {o:AObj},ObjRep w N i b p c o→p+o.top≤c
 | .cells _,⟨_,_,_,_,_,_,_,h,_⟩=>h
 | .map ..,⟨_,_,_,_,_,h⟩=>h
 | .iter ..,⟨_,_,_,_,_,_,_,_,_,_,h⟩=>h
theorem Sim.dy {m:Mem} {w:World} {N:Nat→Prop} {i:Pl} (s:Sim m w N i) {b:Nat} (h:Live m i b):¬N b∧b < w.heap.size:=by
 obtain⟨id,o,p,c,h1,h2⟩:=h
 obtain⟨b',p',c',h3,h4,h5⟩:=s.live id o h1
 rw [h2] at h3
 cases h3
 exact⟨h4,h5.lt⟩
theorem Ext.le {m:Mem} {w:World} {N:Nat→Prop} {i:Pl} {m':Mem} {w':World} {N':Nat→Prop} {i':Pl} (s:Sim m w N i) (e:Ext m w N i m' w' N' i'):Le w N i w' N' i' :=
 ⟨e.hN,fun b hb=>e.keep b (s.nlt b hb) (fun hl=>(s.dy hl).1 hb),e.hi⟩
theorem Ext.refl (m:Mem) (w:World) (N:Nat→Prop) (i:Pl):Ext m w N i m w N i :=
 ⟨rfl,rfl,rfl,Nat.le_refl _,fun _ h=>h,fun _ _ _ h=>h,fun _ _ _=>rfl,fun _ h=>.inl h,fun _ h=>.inl h,Nat.le_refl _,fun _ t x h=>.inl ⟨t,x,h⟩⟩
theorem Ext.trans {m:Mem} {w:World} {N:Nat→Prop} {i:Pl} {m':Mem} {w':World} {N':Nat→Prop} {i':Pl} {m'':Mem} {w'':World} {N'':Nat→Prop} {i'':Pl}
  (e:Ext m w N i m' w' N' i') (f:Ext m' w' N' i' m'' w'' N'' i''):Ext m w N i m'' w'' N'' i'':=by
 refine⟨f.os.trans e.os,f.tape.trans e.tape,f.output.trans e.output,Nat.le_trans e.size f.size,fun b h=>f.hN b (e.hN b h),fun id t x h=>f.hi _ _ _ (e.hi _ _ _ h),?_,?_,?_,Nat.le_trans e.nx f.nx,?_⟩
 ·intro b hb hl
  rw [f.keep b (Nat.lt_of_lt_of_le hb e.size) (fun h=>by rcases e.grow b h with h | h;exact hl h;omega),e.keep b hb hl]
 ·intro b h
  rcases f.grow b h with h | h
  ·exact e.grow b h
  ·exact .inr (Nat.le_trans e.size h)
 ·intro b h
  rcases f.iV b h with h | h | h
  ·exact e.iV b h
  ·rcases e.grow b h with h | h
   ·exact .inr (.inl h)
   ·exact .inr (.inr h)
  ·exact .inr (.inr (Nat.le_trans e.size h))
 ·intro id t x h
  rcases f.pl id t x h with ⟨t',y,h⟩ | ⟨h1,h2⟩
  ·rcases e.pl id t' y h with h | ⟨h1,h2⟩
   ·exact .inl h
   ·exact .inr ⟨h1,Nat.lt_of_lt_of_le h2 f.nx⟩
  ·exact .inr ⟨Nat.le_trans e.nx h1,h2⟩
theorem ObjRep.mono {w:World} {N:Nat→Prop} {i:Pl} {w':World} {N':Nat→Prop} {i':Pl} (l:Le w N i w' N' i') {b p c:Nat} (hb:w'.heap[b]?=w.heap[b]?):∀ {o:AObj},ObjRep w N i b p c o→ObjRep w' N' i' b p c o
 | .cells _,⟨arr,elem,fr,vs,h1,h2,h3,h4,h5,h6,h7⟩=>⟨arr,elem,fr,vs,hb.trans h1,h2,h3,h4,h5.congr hb,h6,RepL.mono l _ h7⟩
 | .map ..,⟨es,h1,h2,h3,h4,h5⟩=>⟨es,hb.trans h1,h2,RepL.mono l _ h3,RepL.mono l _ h4,h5⟩
 | .iter ..,⟨bm,es,seen,h1,h2,h3,h4,h5,h6,h7,h8⟩=>⟨bm,es,seen,l.hN _ h1,(l.hw _ h1).trans h2,h3,hb.trans h4,RepL.mono l _ h5,RepL.mono l _ h6,h7.imp id (fun⟨a,c,e,s0,q1,q2,q3,q4,q5⟩=>⟨a,c,e,s0,q1,q2,q3,Rep.mono l _ q4,Rep.mono l _ q5⟩),h8⟩
theorem Sim.drew {m:Mem} {w:World} {N:Nat→Prop} {i:Pl} (s:Sim m w N i):Sim m w.drew N i :=
 have l:Le w N i w.drew N i:=⟨fun _ h=>h,fun _ _=>rfl,fun _ _ _ h=>h⟩
 ⟨fun id o h=>let ⟨b,p,c,h2,h3,h4⟩:=s.live id o h;⟨b,p,c,h2,h3,h4.mono l rfl⟩,s.inj,s.top,s.nlt,s.bnd⟩
theorem Ext.drew (m:Mem) (w:World) (N:Nat→Prop) (i:Pl):Ext m w N i m w.drew N i :=
 ⟨rfl,rfl,rfl,Nat.le_refl _,fun _ h=>h,fun _ _ _ h=>h,fun _ _ _=>rfl,fun _ h=>.inl h,fun _ h=>.inl h,Nat.le_refl _,fun _ t x h=>.inl ⟨t,x,h⟩⟩
theorem bT (w:World) (o:Obj) (b:Nat) (h:b < w.heap.size):(w.alloc o).heap[b]?=w.heap[b]?:=by
 show(w.heap.push o)[b]?=_
 rw [Array.getElem?_push,if_neg (by omega)]
theorem dW (w:World) (o:Obj):(w.alloc o).heap[w.heap.size]?=some o:=by
 show(w.heap.push o)[w.heap.size]?=_
 rw [Array.getElem?_push,if_pos rfl]
theorem Sim.zA {m:Mem} {w:World} {N:Nat→Prop} {i:Pl} (s:Sim m w N i) (o:Obj) :
  Sim m (w.alloc o) (fun b=>N b∨b=w.heap.size) i∧Ext m w N i m (w.alloc o) (fun b=>N b∨b=w.heap.size) i:=by
 have l:Le w N i (w.alloc o) (fun b=>N b∨b=w.heap.size) i:=⟨fun _ h=>.inl h,fun b h=>bT w o b (s.nlt b h),fun _ _ _ h=>h⟩
 refine⟨⟨fun id o' h=>?_,s.inj,s.top,fun b h=>?_,s.bnd⟩,⟨rfl,rfl,rfl,by simp,fun _ h=>.inl h,fun _ _ _ h=>h,fun b hb _=>bT w o b hb,fun _ h=>.inl h,fun b h=>?_,Nat.le_refl _,fun _ t x h=>.inl ⟨t,x,h⟩⟩⟩
 ·obtain⟨b,p,c,h2,h3,h4⟩:=s.live id o' h
  have:=h4.lt
  exact⟨b,p,c,h2,by rintro(h | h);exact h3 h;omega,h4.mono l (bT w o b this)⟩
 ·rcases h with h | h
  ·have:=s.nlt b h;simp;omega
  ·simp;omega
 ·rcases h with h | h
  ·exact .inl h
  ·exact .inr (.inr (by omega))
def updPl (i:Pl) (id t:Nat) (x:Nat×Nat×Nat):Pl:=fun id' t'=>if id'=id∧t'=t then some x else i id' t'
theorem bE (i:Pl) (id t:Nat) (x:Nat×Nat×Nat):updPl i id t x id t=some x:=by simp [updPl]
theorem bB (i:Pl) {id t id' t':Nat} (x:Nat×Nat×Nat) (h:¬(id'=id∧t'=t)):updPl i id t x id' t'=i id' t':=by simp [updPl,h]
theorem kz {i:Pl} {k o:Nat} {x:Nat×Nat×Nat}:∀id t y,updPl i k o x id t=some y→(∃t' y',i id t'=some y')∨(k≤id∧id < k+1):=by
 intro id t y h
 by_cases e:id=k∧t=o
 ·exact .inr (by omega)
 ·rw [bB _ _ e] at h
  exact .inl ⟨t,y,h⟩
theorem tA {i:Pl} {k o t0:Nat} {x y0:Nat×Nat×Nat} (hp:i k t0=some y0) {a b:Nat}:∀id t y,updPl i k o x id t=some y→(∃t' y',i id t'=some y')∨(a≤id∧id < b):=by
 intro id t y h
 by_cases e:id=k∧t=o
 ·exact .inl ⟨t0,y0,by rw [e.1];exact hp⟩
 ·rw [bB _ _ e] at h
  exact .inl ⟨t,y,h⟩
theorem bO (h:Nat→Option AObj) (k:Nat) (o:Option AObj):upd h k o k=o:=by simp [upd]
theorem cD (h:Nat→Option AObj) {k j:Nat} (o:Option AObj) (hj:j≠k):upd h k o j=h j:=by
 have:(j==k)=false:=by simpa using hj
 simp [upd,this]
theorem Sim.new {m:Mem} {w:World} {N:Nat→Prop} {i:Pl} (s:Sim m w N i) (hf:∀t,i m.nx t=none) {w':World} (hs:w.heap.size≤w'.heap.size)
  (hk:∀k,N k∨Live m i k→w'.heap[k]?=w.heap[k]?) {o:AObj} {b p c:Nat} (hb:¬N b) (hl:¬Live m i b)
  (ho:ObjRep w' N (updPl i m.nx o.top (b,p,c)) b p c o):Sim (m.new o) w' N (updPl i m.nx o.top (b,p,c)):=by
 have hold:∀id t x,i id t=some x→¬(id=m.nx∧t=o.top):=fun id t x h hh=>by rw [hh.1,hf] at h;cases h
 have hi:∀id t x,i id t=some x→updPl i m.nx o.top (b,p,c) id t=some x:=fun id t x h=>by rw [bB _ _ (hold id t x h)];exact h
 have l:Le w N i w' N (updPl i m.nx o.top (b,p,c)):=⟨fun _ h=>h,fun k h=>hk k (.inl h),hi⟩
 have hne:∀id o',m.h id=some o'→id≠m.nx:=fun id o' h e=>by obtain⟨b,p,c,h1,_⟩:=s.live id o' h;rw [e,hf] at h1;cases h1
 have key:∀id o',(m.new o).h id=some o'→(id=m.nx∧o'=o)∨(id≠m.nx∧m.h id=some o'):=by
  intro id o' h
  by_cases e:id=m.nx
  ·subst e;simp [Mem.new,bO] at h;exact .inl ⟨rfl,h.symm⟩
  ·simp only [Mem.new,cD _ _ e] at h;exact .inr ⟨e,h⟩
 refine⟨fun id o' h=>?_,?_,?_,fun b h=>Nat.lt_of_lt_of_le (s.nlt b h) hs,?_⟩
 ·rcases key id o' h with ⟨rfl,rfl⟩ | ⟨e,h⟩
  ·exact⟨b,p,c,bE ..,hb,ho⟩
  ·obtain⟨b',p',c',h2,h3,h4⟩:=s.live id o' h
   exact⟨b',p',c',hi _ _ _ h2,h3,h4.mono l (hk _ (.inr ⟨id,o',p',c',h,h2⟩))⟩
 ·intro id id' o1 o2 b1 p1 c1 p2 c2 h1 h2 h3 h4
  rcases key id o1 h1 with ⟨rfl,rfl⟩ | ⟨e1,g1⟩<;>rcases key id' o2 h2 with ⟨rfl,rfl⟩ | ⟨e2,g2⟩
  ·rfl
  ·rw [bE] at h3
   cases h3
   rw [bB _ _ (by rintro⟨h,_⟩;exact e2 h)] at h4
   exact(hl ⟨id',o2,p2,c2,g2,h4⟩).elim
  ·rw [bE] at h4
   cases h4
   rw [bB _ _ (by rintro⟨h,_⟩;exact e1 h)] at h3
   exact(hl ⟨id,o1,p1,c1,g1,h3⟩).elim
  ·rw [bB _ _ (by rintro⟨h,_⟩;exact e1 h)] at h3
   rw [bB _ _ (by rintro⟨h,_⟩;exact e2 h)] at h4
   exact s.inj _ _ _ _ _ _ _ _ _ g1 g2 h3 h4
 ·intro id o' t x h h2
  rcases key id o' h with ⟨rfl,rfl⟩ | ⟨e,h⟩
  ·by_cases e:t=o'.top
   ·omega
   ·rw [bB _ _ (by rintro⟨_,h⟩;exact e h),hf] at h2
    cases h2
  ·rw [bB _ _ (by rintro⟨h,_⟩;exact e h)] at h2
   exact s.top id o' t x h h2
 ·intro id t b1 p1 c1 h
  by_cases e:id=m.nx∧t=o.top
  ·rw [e.1,e.2,bE] at h
   cases h
   rw [e.2];exact ho.room
  ·rw [bB _ _ e] at h
   exact s.bnd _ _ _ _ _ h
theorem gg {m:Mem} {i:Pl} {o:AObj} {b p c k:Nat} (h:Live (m.new o) (updPl i m.nx o.top (b,p,c)) k):Live m i k∨k=b:=by
 obtain⟨id,o',p',c',h1,h2⟩:=h
 by_cases e:id=m.nx
 ·subst e
  simp [Mem.new,bO] at h1
  subst h1
  rw [bE] at h2
  cases h2
  exact .inr rfl
 ·simp only [Mem.new,cD _ _ e] at h1
  rw [bB _ _ (by rintro⟨h,_⟩;exact e h)] at h2
  exact .inl ⟨id,o',p',c',h1,h2⟩
theorem Sim.replace {m:Mem} {w:World} {N:Nat→Prop} {i:Pl} (s:Sim m w N i) {w':World} (hs:w.heap.size≤w'.heap.size) {id:Nat} {o o':AObj} {b p c b' p' c':Nat}
  (ho:m.h id=some o) (hp:i id o.top=some (b,p,c)) (ht:o.top < o'.top∨(o'.top=o.top∧(b',p',c')=(b,p,c))) (hb':b'=b∨w.heap.size≤b')
  (hk:∀k,k < w.heap.size→k≠b→w'.heap[k]?=w.heap[k]?) (hr:ObjRep w' N (updPl i id o'.top (b',p',c')) b' p' c' o') :
  Sim (m.set id (some o')) w' N (updPl i id o'.top (b',p',c'))∧(∀k,Live (m.set id (some o')) (updPl i id o'.top (b',p',c')) k→Live m i k∨w.heap.size≤k) ∧
  (∀id1 t x,i id1 t=some x→updPl i id o'.top (b',p',c') id1 t=some x):=by
 have hlive:Live m i b:=⟨id,o,p,c,ho,hp⟩
 obtain⟨hNb,hblt⟩:=s.dy hlive
 have hi:∀id1 t x,i id1 t=some x→updPl i id o'.top (b',p',c') id1 t=some x:=fun id1 t x h=>by
  by_cases e:id1=id∧t=o'.top
  ·obtain⟨rfl,rfl⟩:=e
   rcases ht with ht | ⟨h1,h2⟩
   ·have:=s.top _ _ _ _ ho h;omega
   ·rw [h1] at h ⊢;rw [hp] at h;cases h;rw [bE,h2]
  ·rw [bB _ _ e];exact h
 have l:Le w N i w' N (updPl i id o'.top (b',p',c')):=⟨fun _ h=>h,fun k h=>hk k (s.nlt k h) (fun e=>hNb (e ▸ h)),hi⟩
 have key:∀id1 o1,(m.set id (some o')).h id1=some o1→(id1=id∧o1=o')∨(id1≠id∧m.h id1=some o1):=by
  intro id1 o1 h
  by_cases e:id1=id
  ·subst e;simp [Mem.set,bO] at h;exact .inl ⟨rfl,h.symm⟩
  ·simp only [Mem.set,cD _ _ e] at h;exact .inr ⟨e,h⟩
 have hother:∀id1 o1 b1 p1 c1,id1≠id→m.h id1=some o1→i id1 o1.top=some (b1,p1,c1)→b1≠b:=fun id1 o1 b1 p1 c1 e h1 h2 hh=>e (s.inj id1 id o1 o b p1 c1 p c h1 ho (hh ▸ h2) hp)
 have hNb':¬N b':=fun h=>by rcases hb' with rfl | hb';exact hNb h;have:=s.nlt _ h;omega
 refine⟨⟨fun id1 o1 h=>?_,?_,?_,fun b h=>Nat.lt_of_lt_of_le (s.nlt b h) hs,?_⟩,?_,hi⟩
 ·rcases key id1 o1 h with ⟨rfl,rfl⟩ | ⟨e,h⟩
  ·exact⟨b',p',c',bE ..,hNb',hr⟩
  ·obtain⟨b1,p1,c1,h2,h3,h4⟩:=s.live id1 o1 h
   exact⟨b1,p1,c1,hi _ _ _ h2,h3,h4.mono l (hk _ h4.lt (hother id1 o1 b1 p1 c1 e h h2))⟩
 ·intro id1 id2 o1 o2 b1 p1 c1 p2 c2 h1 h2 h3 h4
  rcases key id1 o1 h1 with ⟨rfl,rfl⟩ | ⟨e1,g1⟩<;>rcases key id2 o2 h2 with ⟨rfl,rfl⟩ | ⟨e2,g2⟩
  ·rfl
  ·rw [bE] at h3
   cases h3
   rw [bB _ _ (by rintro⟨h,_⟩;exact e2 h)] at h4
   obtain⟨b3,p3,c3,h5,h6,h7⟩:=s.live id2 o2 g2
   rw [h4] at h5
   cases h5
   rcases hb' with rfl | hb'
   ·exact(hother id2 o2 _ p2 c2 e2 g2 h4 rfl).elim
   ·have:=h7.lt;omega
  ·rw [bE] at h4
   cases h4
   rw [bB _ _ (by rintro⟨h,_⟩;exact e1 h)] at h3
   obtain⟨b3,p3,c3,h5,h6,h7⟩:=s.live id1 o1 g1
   rw [h3] at h5
   cases h5
   rcases hb' with rfl | hb'
   ·exact(hother id1 o1 _ p1 c1 e1 g1 h3 rfl).elim
   ·have:=h7.lt;omega
  ·rw [bB _ _ (by rintro⟨h,_⟩;exact e1 h)] at h3
   rw [bB _ _ (by rintro⟨h,_⟩;exact e2 h)] at h4
   exact s.inj _ _ _ _ _ _ _ _ _ g1 g2 h3 h4
 ·intro id1 o1 t x h h2
  rcases key id1 o1 h with ⟨rfl,rfl⟩ | ⟨e,h⟩
  ·by_cases e:t=o1.top
   ·omega
   ·rw [bB _ _ (by rintro⟨_,h⟩;exact e h)] at h2
    have:=s.top _ _ _ _ ho h2
    omega
  ·rw [bB _ _ (by rintro⟨h,_⟩;exact e h)] at h2
   exact s.top id1 o1 t x h h2
 ·intro id1 t b1 p1 c1 h
  by_cases e:id1=id∧t=o'.top
  ·rw [e.1,e.2,bE] at h
   cases h
   rw [e.2];exact hr.room
  ·rw [bB _ _ e] at h
   exact s.bnd _ _ _ _ _ h
 ·rintro k ⟨id1,o1,p1,c1,h1,h2⟩
  rcases key id1 o1 h1 with ⟨rfl,rfl⟩ | ⟨e,h1⟩
  ·rw [bE] at h2
   cases h2
   rcases hb' with rfl | hb'
   ·exact .inl hlive
   ·exact .inr hb'
  ·rw [bB _ _ (by rintro⟨h,_⟩;exact e h)] at h2
   exact .inl ⟨id1,o1,p1,c1,h1,h2⟩
theorem Sim.drop {m:Mem} {w:World} {N:Nat→Prop} {i:Pl} (s:Sim m w N i) (id:Nat):Sim (m.set id none) w N i∧Ext m w N i (m.set id none) w N i:=by
 have key:∀id1 o1,(m.set id none).h id1=some o1→id1≠id∧m.h id1=some o1:=by
  intro id1 o1 h
  by_cases e:id1=id
  ·subst e;simp [Mem.set,bO] at h
  ·simp only [Mem.set,cD _ _ e] at h;exact⟨e,h⟩
 refine⟨⟨fun id1 o1 h=>s.live id1 o1 (key _ _ h).2,fun id1 id2 o1 o2 b p c p' c' h1 h2=>s.inj _ _ _ _ _ _ _ _ _ (key _ _ h1).2 (key _ _ h2).2,fun id1 o1 t x h=>s.top _ _ _ _ (key _ _ h).2,s.nlt,s.bnd⟩,
  ⟨rfl,rfl,rfl,Nat.le_refl _,fun _ h=>h,fun _ _ _ h=>h,fun _ _ _=>rfl,?_,fun _ h=>.inl h,Nat.le_refl _,fun _ t x h=>.inl ⟨t,x,h⟩⟩⟩
 rintro b ⟨id1,o1,p,c,h1,h2⟩
 exact .inl ⟨id1,o1,p,c,(key _ _ h1).2,h2⟩
theorem Sim.freeze {m:Mem} {w:World} {N:Nat→Prop} {i:Pl} (s:Sim m w N i) {id:Nat} {o:AObj} {b p c:Nat} (ho:m.h id=some o) (hp:i id o.top=some (b,p,c)) :
  Sim (m.set id none) w (fun k=>N k∨k=b) i∧Ext m w N i (m.set id none) w (fun k=>N k∨k=b) i∧Le w N i w (fun k=>N k∨k=b) i:=by
 have key:∀id1 o1,(m.set id none).h id1=some o1→id1≠id∧m.h id1=some o1:=by
  intro id1 o1 h
  by_cases e:id1=id
  ·subst e;simp [Mem.set,bO] at h
  ·simp only [Mem.set,cD _ _ e] at h;exact⟨e,h⟩
 have l:Le w N i w (fun k=>N k∨k=b) i:=⟨fun _ h=>.inl h,fun _ _=>rfl,fun _ _ _ h=>h⟩
 refine⟨⟨fun id1 o1 h=>?_,fun id1 id2 o1 o2 b p c p' c' h1 h2=>s.inj _ _ _ _ _ _ _ _ _ (key _ _ h1).2 (key _ _ h2).2,fun id1 o1 t x h=>s.top _ _ _ _ (key _ _ h).2,?_,s.bnd⟩,
  ⟨rfl,rfl,rfl,Nat.le_refl _,fun _ h=>.inl h,fun _ _ _ h=>h,fun _ _ _=>rfl,?_,?_,Nat.le_refl _,fun _ t x h=>.inl ⟨t,x,h⟩⟩,l⟩
 ·obtain⟨e,h⟩:=key _ _ h
  obtain⟨b1,p1,c1,h2,h3,h4⟩:=s.live id1 o1 h
  exact⟨b1,p1,c1,h2,by rintro(h5 | rfl);exact h3 h5;exact e (s.inj _ _ _ _ _ _ _ _ _ h ho h2 hp),h4.mono l rfl⟩
 ·rintro k (h | rfl)
  ·exact s.nlt k h
  ·exact(s.dy ⟨id,o,p,c,ho,hp⟩).2
 ·rintro b ⟨id1,o1,p,c,h1,h2⟩
  exact .inl ⟨id1,o1,p,c,(key _ _ h1).2,h2⟩
 ·rintro k (h | rfl)
  ·exact .inl h
  ·exact .inr (.inl ⟨id,o,p,c,ho,hp⟩)
end Go.AM

/-
  THE ABSTRACT MACHINE: the operations that look at no memory do what the machine says. Conditions: none.
-/
namespace Go.AM
theorem jm {w:World} {N:Nat→Prop} {i:Pl} {v:Value} {a:AV} (h:ofCell v=some a):Rep w N i a v:=by
 unfold ofCell at h
 split at h<;>first | (cases h;rfl) | (cases h)
theorem gi {w:World} {N:Nat→Prop} {i:Pl}:∀ {vs:List Value} {as:List AV},ofCells vs=some as→RepL w N i as vs
 | [],as,h=>by simp [ofCells] at h;subst h;rfl
 | v::vs,as,h=>by
  simp only [ofCells,Option.bind_eq_some_iff] at h
  obtain⟨a,ha,r,hr,h⟩:=h
  cases h
  exact⟨v,vs,rfl,jm ha,gi hr⟩
theorem dA {w:World} {N:Nat→Prop} {i:Pl} {v:Value} {a:AV} (h:ofConst v=some a):Rep w N i a v:=by
 unfold ofConst at h
 split at h
 ·rename_i cs
  simp only [Option.map_eq_some_iff] at h
  obtain⟨as,h,rfl⟩:=h
  exact⟨cs,rfl,gi h⟩
 ·exact jm h
def de (w:World) (N:Nat→Prop):Prop:=∀g,Rep w N P0 (globV g) (.pointer (some ⟨g,0,none⟩))
theorem de.mono {w:World} {N:Nat→Prop} {i:Pl} {w':World} {N':Nat→Prop} {i':Pl} (l:Le w N i w' N' i') (h:de w N):de w' N':=fun g=>Rep.mono l.p0 _ (h g)
structure bG (w:World) (N:Nat→Prop) (i:Pl) (s:St) (a:Act):Prop where
 slot:∀j,Rep w N i (s.get j) (a.tmps.getD j undef)
 size:a.tmps.size=s.nt
 dfr:a.defers=[]
 fP:de w N
theorem bG.mono {w:World} {N:Nat→Prop} {i:Pl} {w':World} {N':Nat→Prop} {i':Pl} {s:St} {a:Act} (l:Le w N i w' N' i') (h:bG w N i s a):bG w' N' i' s a :=
 ⟨fun j=>Rep.mono l _ (h.slot j),h.size,h.dfr,h.fP.mono l⟩
theorem bG.ev {w:World} {N:Nat→Prop} {i:Pl} {s:St} {a:Act} (h:bG w N i s a) (x:Operand):Rep w N i (s.ev x) (a.eval x):=by
 cases x with
 | tmp t=>exact h.slot t
 | const v =>
  show Rep w N i ((ofConst v).getD .undef) v
  cases hc:ofConst v with
  | none=>exact trivial
  | some b=>exact dA hc
 | global g=>exact Rep.closed _ (pE g) (h.fP g)
 | func f=>exact⟨#[],#[],rfl,rfl,rfl⟩
theorem bG.evL {w:World} {N:Nat→Prop} {i:Pl} {s:St} {a:Act} (h:bG w N i s a):∀(xs:List Operand),RepL w N i (xs.map s.ev) (xs.map a.eval)
 | []=>rfl
 | x::xs=>⟨_,_,rfl,h.ev x,h.evL xs⟩
theorem eJ (d:Nat) (v:AV) (t:List (Nat×AV)) (j:Nat):get ((d,v)::t) j=if j=d then v else get t j:=by
 by_cases e:j=d
 ·simp [get,e]
 ·have:(j==d)=false:=by simpa using e
  simp [get,e,this]
theorem zE (a:Array Value) (d j:Nat) (v:Value) (hd:d < a.size):(a.setIfInBounds d v).getD j undef=if j=d then v else a.getD j undef:=by
 simp only [Array.getD_eq_getD_getElem?,Array.getElem?_setIfInBounds]
 by_cases e:d=j
 ·subst e;simp [hd]
 ·have:¬j=d:=fun h=>e h.symm
  simp [e,this]
theorem bG.put {w:World} {N:Nat→Prop} {i:Pl} {s s':St} {a:Act} (h:bG w N i s a) {d:Option Nat} {v:AV} {u:Value} (hp:s.put d v=some s') (hr:Rep w N i v u):bG w N i s' (a.put d u):=by
 cases d with
 | none=>simp [St.put] at hp;subst hp;exact h
 | some d =>
  simp only [St.put] at hp
  cases hlt:Nat.blt d s.nt with
  | false=>simp [hlt] at hp
  | true =>
   simp [hlt] at hp
   subst hp
   have hd:d < a.tmps.size:=by rw [h.size];simpa [Nat.blt_eq] using hlt
   refine⟨fun j=>?_,by simp [Act.put,h.size],h.dfr,h.fP⟩
   show Rep w N i (AM.get ((d,v)::s.t) j) ((a.tmps.setIfInBounds d u).getD j undef)
   rw [eJ,zE _ _ _ _ hd]
   split
   ·exact hr
   ·exact h.slot j
theorem St.jC {s s':St} {d:Option Nat} {v:AV} (hp:s.put d v=some s'):s'.m=s.m∧s'.nt=s.nt:=by
 cases d with
 | none=>simp [St.put] at hp;subst hp;exact⟨rfl,rfl⟩
 | some d =>
  simp only [St.put] at hp
  cases hlt:Nat.blt d s.nt<;>simp [hlt] at hp
  subst hp
  exact⟨rfl,rfl⟩
theorem oz {v:Value} (h:v.oneCell'=true):v.cells=#[v]:=by
 cases v<;>simp [Value.oneCell'] at h<;>rfl
theorem Rep.cells {w:World} {N:Nat→Prop} {i:Pl} {a:AV} {v:Value} (ho:oneL a.cells=true) (h:Rep w N i a v):RepL w N i a.cells v.cells.toList∧One v.cells.toList:=by
 by_cases e:∃cs,a=.agg cs
 ·obtain⟨cs,rfl⟩:=e
  obtain⟨vs,rfl,h⟩:=h
  exact⟨h,RepL.oneL ho h⟩
 ·have hc:a.cells=[a]:=by cases a<;>first | rfl | exact(e ⟨_,rfl⟩).elim
  rw [hc] at ho ⊢
  have h1:a.one=true:=by simpa [oneL] using ho
  have h2:=Rep.one h1 h
  rw [oz h2]
  exact⟨⟨v,[],rfl,h,rfl⟩,fun u hu=>by simp at hu;subst hu;exact h2⟩
theorem dX {P:Program} {t:TypeId} {n:Nat} (h:sizeT P t=some n):∃j,P.info? t=some j∧j.size=n:=by
 simpa [sizeT,Option.map_eq_some_iff] using h
theorem ln {P:Program} {t:TypeId} {n:Nat} (h:bytesT P t=some n):∃j,P.info? t=some j∧j.bytes=n:=by
 simpa [bytesT,Option.map_eq_some_iff] using h
theorem fu {P:Program} {t:TypeId} {z:AV} (h:zeroT P t=some z):∃j v,P.info? t=some j∧j.zero=some v∧ofConst v=some z:=by
 simp only [zeroT,Option.bind_eq_some_iff] at h
 obtain⟨j,h1,v,h2,h3⟩:=h
 exact⟨j,v,h1,h2,h3⟩
theorem run_sizeOf {P:Program} {t:TypeId} {n:Nat} (h:sizeT P t=some n) (w:World):(sizeOf t).run P w=.ok n w:=by
 obtain⟨j,h1,h2⟩:=dX h
 simp [sizeOf,typeInfo,h1,h2]
theorem jG {P:Program} {t:TypeId} {z:AV} (h:zeroT P t=some z):∃v,(∀w,(zeroValue t).run P w=.ok v w)∧ofConst v=some z∧∃j,P.info? t=some j∧j.zero=some v:=by
 obtain⟨j,v,h1,h2,h3⟩:=fu h
 exact⟨v,fun w=>by simp [zeroValue,typeInfo,h1,h2],h3,j,h1,h2⟩
theorem iJ {P:Program} {t:TypeId} {g:Bool} (h:aggT P t=some g) (w:World):(isAgg t).run P w=.ok g w:=by
 unfold aggT at h
 cases hu:P.underlying t with
 | none=>simp [hu] at h
 | some d =>
  simp [hu] at h
  cases d<;>(simp at h;subst h;simp [isAgg,run_underlying hu])
theorem add_lit (b o n:Nat):Addr.add ⟨b,o,none⟩ n=⟨b,o+n,none⟩:=Addr.add_lit b o n
theorem tE {P:Program} {w:World} {N:Nat→Prop} {i:Pl} {t:TypeId} {f:Nat} {fd:Field} {n:Nat} {x r:AV} {v:Value} (hf:fieldT P t f=some fd) (hn:sizeT P fd.type=some n) (h0:n≠0)
  (hr:fieldA fd.offset x=some r) (h:Rep w N i x v):∃u,(Instr.fieldAt t v f).run P w=.ok u w∧Rep w N i r u:=by
 unfold fieldT at hf
 have run:∀b o,(Instr.fieldAt t (.pointer (some ⟨b,o,none⟩)) f).run P w=.ok (.pointer (some ⟨b,o+fd.offset,none⟩)) w:=by
  intro b o
  split at hf
  ·rename_i fs hu
   have hs:(sizeOf fd.type).run P w=.ok n w:=run_sizeOf hn w
   simp [Instr.fieldAt,run_underlying hu,hf,Instr.sureAddr,fieldPlace,hs,h0,add_lit]
  ·cases hf
 cases x<;>simp [fieldA] at hr
 ·subst hr
  obtain⟨b,o,c,h1,rfl⟩:=h
  exact⟨_,run b _,b,o,c,h1,by rw [Nat.add_assoc]⟩
 ·subst hr
  obtain⟨b,o,vs,h1,rfl,h2,h3,h4⟩:=h
  exact⟨_,run b _,b,_,_,h1,rfl,h2.drop _,h3.drop _,h4.drop _⟩
 ·subst hr
  obtain⟨b,o,vs,h1,rfl,h2,h3,h4⟩:=h
  exact⟨_,run b _,b,_,_,h1,rfl,h2.drop _,h3.drop _,h4.drop _⟩
theorem iH {j:Int} {n:Nat}:inR j n=true↔0≤j∧j < n:=by simp [inR]
theorem xG {P:Program} {w:World} {N:Nat→Prop} {i:Pl} {t e:TypeId} {n:Nat} {x y r:AV} {v u:Value} (hu:P.underlying t=some (.slice e)) (hn:sizeT P e=some n)
  (hr:idxSl n x y=some r) (h:Rep w N i x v) (k:Rep w N i y u):∃z,(Instr.indexAt t v u).run P w=.ok z w∧Rep w N i r z:=by
 cases y<;>simp only [idxSl] at hr<;>try (cases hr;done)
 rename_i kd j
 cases k
 have run:∀b o len cap,0≤j→j < (len:Nat)→(Instr.indexAt t (.slice (some ⟨b,o,none⟩) len cap) (.int kd j)).run P w=.ok (.pointer (some ⟨b,o+j.toNat*n,none⟩)) w:=by
  intro b o len cap h0 h1
  have hs:(sizeOf e).run P w=.ok n w:=run_sizeOf hn w
  simp [Instr.indexAt,asIntOf,run_underlying hu,h0,h1,hs,add_lit]
 cases x<;>simp only at hr<;>try (cases hr;done)
 ·rename_i id es off len top
  cases hb:(es==n&&inR j len) with
  | false=>simp [hb] at hr
  | true =>
   simp [hb] at hr
   subst hr
   simp [iH] at hb
   obtain⟨rfl,h0,h1⟩:=hb
   obtain⟨b,o,c,off',cap,g1,rfl,g2,g3,g4⟩:=h
   have:cap≠0:=by omega
   exact⟨_,run b _ _ _ h0 h1,b,o,c,g1,by rw [g2 this,Nat.add_assoc]⟩
 ·rename_i ex len cells
  cases hb:inR j len with
  | false=>simp [hb] at hr
  | true =>
   simp [hb] at hr
   subst hr
   rw [iH] at hb
   obtain⟨a,cap,vs,rfl,g2,g3,g4,g5,g6⟩:=h
   rcases g4 with ⟨h0,_⟩ | ⟨b,o,rfl,g1,g4⟩
   ·omega
   ·exact⟨_,run b _ _ _ hb.1 hb.2,b,_,_,g1,rfl,g4.drop _,g5.drop _,g6.drop _⟩
theorem tF {P:Program} {w:World} {N:Nat→Prop} {i:Pl} {t e:TypeId} {len n:Nat} {x y r:AV} {v u:Value} (hu:P.underlying t=some (.array len e)) (hn:sizeT P e=some n)
  (hr:idxArr len n x y=some r) (h:Rep w N i x v) (k:Rep w N i y u):∃z,(Instr.indexAt t v u).run P w=.ok z w∧Rep w N i r z:=by
 cases y<;>simp only [idxArr] at hr<;>try (cases hr;done)
 rename_i kd j
 cases k
 cases hb:inR j len with
 | false=>simp [hb] at hr
 | true =>
  simp only [hb,cond_true] at hr
  rw [iH] at hb
  have run:∀b o,(Instr.indexAt t (.pointer (some ⟨b,o,none⟩)) (.int kd j)).run P w=.ok (.pointer (some ⟨b,o+j.toNat*n,none⟩)) w:=by
   intro b o
   have hs:(sizeOf e).run P w=.ok n w:=run_sizeOf hn w
   simp [Instr.indexAt,asIntOf,run_underlying hu,Instr.sureAddr,hb.1,hb.2,hs,add_lit]
  cases x<;>simp only at hr<;>try (cases hr;done)
  ·cases hr
   obtain⟨b,o,c,h1,rfl⟩:=h
   exact⟨_,run b _,b,o,c,h1,by rw [Nat.add_assoc]⟩
  ·cases hr
   obtain⟨b,o,vs,h1,rfl,h2,h3,h4⟩:=h
   exact⟨_,run b _,b,_,_,h1,rfl,h2.drop _,h3.drop _,h4.drop _⟩
  ·cases hr
   obtain⟨b,o,vs,h1,rfl,h2,h3,h4⟩:=h
   exact⟨_,run b _,b,_,_,h1,rfl,h2.drop _,h3.drop _,h4.drop _⟩
theorem wb {w:World} {N:Nat→Prop} {i:Pl} {d:Nat} {x:Option AV} {j:Int} {v:Option Value} (hb:bnd d x=some j) (h:∀a,x=some a→∃u,v=some u∧Rep w N i a u) (h0:x=none→v=none) :
  (v=none∧j=d)∨∃k,v=some (.int k j):=by
 unfold bnd at hb
 split at hb
 ·cases hb;exact .inl ⟨h0 rfl,rfl⟩
 ·cases hb
  obtain⟨u,rfl,hu⟩:=h _ rfl
  cases hu
  exact .inr ⟨_,rfl⟩
 ·cases hb
theorem xH {n:Nat} {lo hi:Option AV} {l h:Nat} (hb:bnds n lo hi=some (l,h)):∃jl jh,bnd 0 lo=some jl∧bnd n hi=some jh∧0≤jl∧jl≤jh∧jh≤n∧l=jl.toNat∧h=jh.toNat:=by
 simp only [bnds,Option.bind_eq_some_iff] at hb
 obtain⟨jh,h1,jl,h2,h3⟩:=hb
 cases hc:(decide (0≤jl)&&(decide (jl≤jh)&&decide (jh≤(n:Int)))) with
 | false=>simp [hc] at h3
 | true =>
  simp [hc] at h3
  simp at hc
  exact⟨jl,jh,h2,h1,hc.1,hc.2.1,hc.2.2,h3.1.symm,h3.2.symm⟩
theorem c9 {P:Program} {w:World} {N:Nat→Prop} {i:Pl} {n cap:Nat} {lo hi:Option AV} {l h:Nat} {vl vh:Option Value} (sl:Bool) (hb:bnds n lo hi=some (l,h)) (hn:n≤cap)
  (hl:∀a,lo=some a→∃u,vl=some u∧Rep w N i a u) (hl0:lo=none→vl=none) (hh:∀a,hi=some a→∃u,vh=some u∧Rep w N i a u) (hh0:hi=none→vh=none) :
  (Instr.sliceBounds sl n cap vl vh none).run P w=.ok (l,h,cap) w∧l≤h∧h≤n:=by
 obtain⟨jl,jh,h1,h2,h3,h4,h5,rfl,rfl⟩:=xH hb
 refine⟨?_,by omega,by omega⟩
 have bound:∀(k:IntKind) (j:Int) (y:Nat) (code:BoundsCode),0≤j→j≤y→(Instr.sliceBound (.int k j) y code).run P w=.ok j.toNat w:=by
  intro k j y code a b
  simp [Instr.sliceBound,asIntOf,a,b]
 have hcap:jh≤(cap:Nat):=by omega
 have h6:0≤jh:=by omega
 have h7:jl≤((jh.toNat:Nat):Int):=by omega
 rcases wb h1 hl hl0 with ⟨rfl,rfl⟩ | ⟨kl,rfl⟩<;>rcases wb h2 hh hh0 with ⟨rfl,rfl⟩ | ⟨kh,rfl⟩
 ·simp [Instr.sliceBounds]
 ·cases sl<;>simp [Instr.sliceBounds,bound kh jh cap _ h6 hcap]
 ·simp [Instr.sliceBounds,bound kl jl n _ h3 h4]
 ·cases sl<;>simp [Instr.sliceBounds,bound kh jh cap _ h6 hcap,bound kl jl _ _ h3 h7]
theorem qX {P:Program} {w:World} {N:Nat→Prop} {i:Pl} {t e:TypeId} {n:Nat} {x r:AV} {v:Value} {lo hi:Option AV} {vl vh:Option Value} (hu:P.underlying t=some (.slice e)) (hn:sizeT P e=some n)
  (hr:sliceSl n x lo hi=some r) (hx:Rep w N i x v)
  (hl:∀a,lo=some a→∃u,vl=some u∧Rep w N i a u) (hl0:lo=none→vl=none) (hh:∀a,hi=some a→∃u,vh=some u∧Rep w N i a u) (hh0:hi=none→vh=none) :
  ∃z,(Instr.sliceAt t v vl vh none).run P w=.ok z w∧Rep w N i r z:=by
 have hs:(sizeOf e).run P w=.ok n w:=run_sizeOf hn w
 cases x<;>simp only [sliceSl] at hr<;>try (cases hr;done)
 ·cases hx
  simp only [Option.bind_eq_some_iff] at hr
  obtain⟨⟨l,h⟩,hb,hr⟩:=hr
  cases hr
  obtain⟨h1,h2,h3⟩:=c9 (P:=P) true hb (Nat.le_refl 0) hl hl0 hh hh0
  obtain rfl:h=0:=by omega
  obtain rfl:l=0:=by omega
  exact⟨_,by simp [Instr.sliceAt,Instr.slice,run_underlying hu,h1,hs],rfl⟩
 ·rename_i id es off len top
  cases he:es==n with
  | false=>simp [he] at hr
  | true =>
   simp [he,Option.bind_eq_some_iff] at hr
   simp at he
   subst he
   obtain⟨l,h,hb,rfl⟩:=hr
   obtain⟨b,o,c,off',cap,g1,rfl,g2,g3,g4⟩:=hx
   obtain⟨h1,h2,h3⟩:=c9 (P:=P) true hb g3 hl hl0 hh hh0
   refine⟨_,by simp [Instr.sliceAt,Instr.slice,run_underlying hu,h1,hs];rfl,b,o,c,if cap=l then off' else off'+l*es,cap - l,g1,?_,?_,by omega,?_⟩
   ·split<;>simp [add_lit]
   ·intro hc
    have h5:¬cap=l:=by omega
    rw [if_neg h5,g2 (by omega),Nat.add_assoc]
   ·have:l*es+(cap - l)*es=cap*es:=by rw [← Nat.add_mul];congr 1;omega
    omega
 ·rename_i ex len cells
  simp only [Option.bind_eq_some_iff] at hr
  obtain⟨⟨l,h⟩,hb,hr⟩:=hr
  cases hr
  obtain⟨a,cap,vs,rfl,g2,g3,g4,g5,g6⟩:=hx
  obtain⟨h1,h2,h3⟩:=c9 (P:=P) true hb g2 hl hl0 hh hh0
  refine⟨_,by simp [Instr.sliceAt,Instr.slice,run_underlying hu,h1,hs];rfl,if cap=l then a else a.add (l*n),cap - l,(vs.drop (l*n)).take ((h - l)*n),?_,by omega,?_,?_,(g5.drop _).take _,(g6.drop _).take _⟩
  ·split<;>rfl
  ·intro hx
   simp at hx
   have:=g3 hx.1
   omega
  ·rcases g4 with ⟨h0,hv0⟩ | ⟨b,o,rfl,g1,g4⟩
   ·subst hv0
    exact .inl ⟨by omega,by simp⟩
   ·right
    refine⟨b,if cap=l then o else o+l*n,by split<;>simp [add_lit],g1,?_⟩
    by_cases hc:cap=l
    ·have:h - l=0:=by omega
     simp only [this,Nat.zero_mul,List.take_zero]
     intro j v hj
     simp at hj
    ·rw [if_neg hc]
     exact(g4.drop _).take _
theorem pC {P:Program} {m:Mem} {w:World} {N:Nat→Prop} {i:Pl} (s:Sim m w N i) {t e:TypeId} {len n:Nat} {x r:AV} {v:Value} {lo hi:Option AV} {vl vh:Option Value} (hu:P.underlying t=some (.array len e)) (hn:sizeT P e=some n)
  (hr:sliceArr len n x lo hi=some r) (hx:Rep w N i x v)
  (hl:∀a,lo=some a→∃u,vl=some u∧Rep w N i a u) (hl0:lo=none→vl=none) (hh:∀a,hi=some a→∃u,vh=some u∧Rep w N i a u) (hh0:hi=none→vh=none) :
  ∃z,(Instr.sliceAt t v vl vh none).run P w=.ok z w∧Rep w N i r z:=by
 have hs:(sizeOf e).run P w=.ok n w:=run_sizeOf hn w
 simp only [sliceArr,Option.bind_eq_some_iff] at hr
 obtain⟨⟨l,h⟩,hb,hr⟩:=hr
 obtain⟨h1,h2,h3⟩:=c9 (P:=P) false hb (Nat.le_refl len) hl hl0 hh hh0
 cases x<;>simp only at hr<;>try (cases hr;done)
 ·rename_i id off top
  cases hc:Nat.ble (off+len*n) top with
  | false=>simp [hc] at hr
  | true =>
   simp [hc] at hr
   rw [Nat.ble_eq] at hc
   subst hr
   obtain⟨b,o,c,g1,rfl⟩:=hx
   have hbd:=s.bnd _ _ _ _ _ g1
   refine⟨_,by simp [Instr.sliceAt,run_underlying hu,Instr.sureAddr,h1,hs];rfl,b,o,c,if len=l then o+off else o+off+l*n,len - l,g1,?_,?_,by omega,?_⟩
   ·split<;>simp [add_lit]
   ·intro hc
    have h5:¬len=l:=by omega
    rw [if_neg h5,Nat.add_assoc]
   ·have:l*n+(len - l)*n=len*n:=by rw [← Nat.add_mul];congr 1;omega
    omega
 ·rename_i cells
  cases hc:Nat.ble (len*n) cells.length with
  | false=>simp [hc] at hr
  | true =>
   simp [hc] at hr
   rw [Nat.ble_eq] at hc
   subst hr
   obtain⟨b,o,vs,g1,rfl,g4,g5,g6⟩:=hx
   refine⟨_,by simp [Instr.sliceAt,run_underlying hu,Instr.sureAddr,h1,hs];rfl,⟨b,if len=l then o else o+l*n,none⟩,len - l,(vs.drop (l*n)).take ((h - l)*n),?_,by omega,?_,.inr ⟨b,_,rfl,g1,?_⟩,(g5.drop _).take _,(g6.drop _).take _⟩
   ·split<;>simp [add_lit]
   ·intro hx
    simp at hx
    omega
   ·by_cases hc:len=l
    ·have:h - l=0:=by omega
     simp only [this,Nat.zero_mul,List.take_zero]
     intro j v hj
     simp at hj
    ·rw [if_neg hc]
     exact(g4.drop _).take _
end Go.AM

/-
  THE ABSTRACT MACHINE: numbers, strings, equality, aggregates. Conditions: none.
-/
namespace Go.AM
theorem kB {a b:ByteArray} (h:a.data.toList=b.data.toList):a=b:=by
 cases a;cases b;simp at h;simp [h]
theorem qZ (s:List UInt8) (l h:Nat):(⟨s.toArray⟩:ByteArray).extract l h=⟨((s.drop l).take (h - l)).toArray⟩:=by
 apply kB
 rw [Lib.extract_data]
theorem tH (a b:List UInt8):(⟨a.toArray⟩:ByteArray)++⟨b.toArray⟩=⟨(a++b).toArray⟩:=by
 apply kB
 simp
theorem dI (a:List UInt8):(⟨a.toArray⟩:ByteArray).size=a.length:=by
 show a.toArray.size=_
 simp
theorem jo (a:List UInt8):(⟨a.toArray⟩:ByteArray).toList=a:=ByteArray.toList_mk a
theorem pD {P:Program} {w:World} {N:Nat→Prop} {i:Pl} {t:TypeId} {x r:AV} {v:Value} {lo hi:Option AV} {vl vh:Option Value} (hu:P.underlying t=some .string)
  (hr:sliceStr x lo hi=some r) (hx:Rep w N i x v)
  (hl:∀a,lo=some a→∃u,vl=some u∧Rep w N i a u) (hl0:lo=none→vl=none) (hh:∀a,hi=some a→∃u,vh=some u∧Rep w N i a u) (hh0:hi=none→vh=none) :
  ∃z,(Instr.sliceAt t v vl vh none).run P w=.ok z w∧Rep w N i r z:=by
 cases x<;>simp only [sliceStr] at hr<;>try (cases hr;done)
 rename_i s
 cases hx
 simp only [Option.bind_eq_some_iff] at hr
 obtain⟨⟨l,h⟩,hb,hr⟩:=hr
 cases hr
 obtain⟨h1,h2,h3⟩:=c9 (P:=P) false hb (Nat.le_refl _) hl hl0 hh hh0
 refine⟨.string ((⟨s.toArray⟩:ByteArray).extract l h),?_,by rw [qZ];rfl⟩
 simp [Instr.sliceAt,Instr.slice,run_underlying hu,dI,h1]
theorem tG {P:Program} {w:World} {op:BinOp} {k:IntKind} {x y:Int} {r:AV} (t:TypeId) (h1:op≠.shl) (h2:op≠.shr) (hr:arithA op k x y=some r) :
  ∃z,(binOp op t (.int k x) (.int k y)).run P w=.ok z w∧∀N i,Rep w N i r z:=by
 by_cases hd:op=.quo∨op=.rem
 ·by_cases hy:y=0
  ·rcases hd with rfl | rfl<;>simp [arithA,hy] at hr
  ·rcases hd with rfl | rfl<;>(simp [arithA,hy] at hr;subst hr;exact⟨_,by simp [binOp,Op.intDiv,hy],fun _ _=>rfl⟩)
 ·cases op<;>first | exact(h1 rfl).elim | exact(h2 rfl).elim | exact(hd (.inl rfl)).elim | exact(hd (.inr rfl)).elim | skip
  all_goals
   simp only [arithA,bitsA,Option.some.injEq] at hr
   subst hr
   first
    | (refine⟨_,?_,fun _ _=>rfl⟩;simp only [binOp,ne_eq,not_true_eq_false,if_false];rfl)
theorem mI {P:Program} {w:World} {op:BinOp} {k k':IntKind} {x y:Int} {r:AV} (t:TypeId) (h:op=.shl∨op=.shr) (hr:shiftA op k x y=some r) :
  ∃z,(binOp op t (.int k x) (.int k' y)).run P w=.ok z w∧∀N i,Rep w N i r z:=by
 by_cases hy:y < 0
 ·simp [shiftA,hy] at hr
 ·rcases h with rfl | rfl
  ·simp [shiftA,hy] at hr
   subst hr
   exact⟨_,by simp [binOp,Op.shift,hy],fun _ _=>rfl⟩
  ·simp [shiftA,hy] at hr
   subst hr
   exact⟨_,by simp [binOp,Op.shift,hy],fun _ _=>rfl⟩
theorem zD {P:Program} {w:World} {op:BinOp} {x y:List UInt8} {r:AV} (t:TypeId) (hr:strA op x y=some r) :
  ∃z,(binOp op t (.string ⟨x.toArray⟩) (.string ⟨y.toArray⟩)).run P w=.ok z w∧∀N i,Rep w N i r z:=by
 have hb:∀op,op≠.shl→op≠.shr→binOp op t (.string ⟨x.toArray⟩) (.string ⟨y.toArray⟩)=Op.stringOp op ⟨x.toArray⟩ ⟨y.toArray⟩:=by
  intro op h1 h2
  cases op<;>first | rfl | exact(h1 rfl).elim | exact(h2 rfl).elim
 cases op<;>simp [strA] at hr<;>try (subst hr)
 all_goals rw [hb _ (by decide) (by decide)]
 case add =>
  cases hc:Nat.ble (x.length+y.length) 4611686018427387904 with
  | false=>simp [hc] at hr
  | true =>
   simp [hc] at hr
   subst hr
   rw [Nat.ble_eq] at hc
   refine⟨.string ⟨(x++y).toArray⟩,?_,fun _ _=>rfl⟩
   have h0:¬(IntKind.i64.max < (((⟨x.toArray⟩:ByteArray).size+(⟨y.toArray⟩:ByteArray).size:Nat):Int)):=by
    rw [dI,dI,show IntKind.i64.max=9223372036854775807 by decide];omega
   simp only [Op.stringOp]
   rw [if_neg h0,tH]
   rfl
 all_goals
  refine⟨_,by simp only [Op.stringOp,jo];rfl,fun _ _=>?_⟩
  simp [Rep]
theorem fw {op:BinOp} {t:TypeId} {x y:Operand} {u v:Value} (h:(∀vs,u≠.agg vs)∧u≠.nilIface):eqGuard op t x y u v=pure ():=by
 cases op<;>first | rfl | skip
 all_goals (cases u<;>first | rfl | exact(h.1 _ rfl).elim | exact(h.2 rfl).elim)
theorem qY {P:Program} {w:World} {N:Nat→Prop} {i:Pl} {t:TypeId} {g:Bool} {n off:Nat} {cs:List AV} {vs:Array Value} {r:AV} (hg:aggT P t=some g) (hn:sizeT P t=some n)
  (hr:partA g n off cs=some r) (h:RepL w N i cs vs.toList):∃z,(part t vs off).run P w=.ok z w∧Rep w N i r z:=by
 have h1:(isAgg t).run P w=.ok g w:=iJ hg w
 have h2:(sizeOf t).run P w=.ok n w:=run_sizeOf hn w
 cases g with
 | true =>
  simp only [partA,cond_true] at hr
  cases hc:Nat.ble (off+n) cs.length with
  | false=>simp [hc] at hr
  | true =>
   simp [hc] at hr
   subst hr
   refine⟨.agg (vs.extract off (off+n)),by simp [part,h1,h2],_,rfl,?_⟩
   have:(vs.extract off (off+n)).toList=(vs.toList.drop off).take n:=by
    simp [Array.toList_extract]
   rw [this]
   exact(h.drop off).take n
 | false =>
  simp only [partA,cond_false] at hr
  obtain⟨v,hv,hr⟩:=h.get hr
  have hv':vs[off]?=some v:=by simpa using hv
  exact⟨v,by simp [part,h1,hv'],hr⟩
theorem tI {w:World} {N:Nat→Prop} {i:Pl} {cs ds:List AV} {vs us:List Value} (off:Nat) (h:RepL w N i cs vs) (k:RepL w N i ds us) :
  RepL w N i (splice cs off ds) (vs.take off++us++vs.drop (off+us.length)):=by
 unfold splice
 rw [k.length]
 exact((h.take off).append k).append (h.drop _)
theorem foldl_set (us:List Value):∀(vs:Array Value) (off j:Nat),off+j+us.length≤vs.size →
  ((us.zipIdx j).foldl (fun cs x=>cs.setIfInBounds (off+x.2) x.1) vs).toList=vs.toList.take (off+j)++us++vs.toList.drop (off+j+us.length):=by
 induction us with
 | nil=>intro vs off j h;simp
 | cons u us ih =>
  intro vs off j h
  simp only [List.zipIdx_cons,List.foldl_cons]
  rw [ih (vs.setIfInBounds (off+j) u) off (j+1) (by simp at h ⊢;omega)]
  simp only [List.length_cons] at h
  apply List.ext_getElem?
  intro k
  simp only [Array.toList_setIfInBounds,List.getElem?_append,List.length_append,List.length_take,List.length_set,Array.length_toList,List.length_cons,List.getElem?_take,List.getElem?_drop,List.getElem?_set]
  have e1:min (off+(j+1)) vs.size=off+j+1:=by omega
  have e2:min (off+j) vs.size=off+j:=by omega
  rw [e1,e2]
  by_cases h1:k < off+j
  ·have:¬off+j=k:=by omega
   simp [show k < off+j+1+us.length by omega,show k < off+j+1 by omega,show k < off+(j+1) by omega,h1,show k < off+j+(us.length+1) by omega,this]
  ·by_cases h2:k=off+j
   ·subst h2
    simp [show off+j < off+j+1+us.length by omega,show off+j < off+(j+1) by omega,show off+j < vs.size by omega]
   ·by_cases h3:k < off+j+1+us.length
    ·have h4:¬k < off+j+1:=by omega
     have h5:k < off+j+(us.length+1):=by omega
     simp [h3,h4,h1,h5]
     rw [show k - (off+j)=(k - (off+j+1))+1 by omega]
     simp
    ·have h4:¬k < off+j+(us.length+1):=by omega
     simp only [h3,h4,if_false]
     rw [if_neg (by omega)]
     congr 1
     omega
theorem iK {w:World} {N:Nat→Prop} {i:Pl} {place:Nat→Option (Nat×Nat)}:∀ {parts:List (Nat×AV)} {vparts:List (Nat×Value)} {cs r:List AV} {vs:Array Value},
  vparts.map (·.1)=parts.map (·.1)→RepL w N i (parts.map (·.2)) (vparts.map (·.2))→fillA place cs parts=some r→RepL w N i cs vs.toList →
  ∃us,Instr.fill place vs vparts=some us∧RepL w N i r us.toList
 | [],[],cs,r,vs,_,_,h,k=>by simp [fillA] at h;subst h;exact⟨vs,rfl,k⟩
 | [],_::_,_,_,_,h,_,_,_=>by simp at h
 | _::_,[],_,_,_,h,_,_,_=>by simp at h
 | (j,a)::parts,(j',v)::vparts,cs,r,vs,h1,h2,h,k=>by
  simp at h1
  obtain⟨rfl,h1⟩:=h1
  obtain⟨v0,r0,e0,h3,h4⟩:=h2
  simp at e0
  obtain⟨rfl,rfl⟩:=e0
  simp only [fillA,Option.bind_eq_some_iff] at h
  obtain⟨⟨off,size⟩,hp,h⟩:=h
  cases hc:(a.cells.length==size&&(Nat.ble (off+size) cs.length&&oneL a.cells)) with
  | false=>simp [hc] at h
  | true =>
   simp only [hc,cond_true] at h
   simp only [Bool.and_eq_true,beq_iff_eq,Nat.ble_eq] at hc
   obtain⟨g1,g2,g3⟩:=hc
   obtain⟨g4,g5⟩:=Rep.cells g3 h3
   have hl:=g4.length
   have hk:=k.length
   simp only [Array.length_toList] at hl hk
   have hset:=foldl_set v.cells.toList vs off 0 (by simp;omega)
   have k':=tI off k g4
   rw [Nat.add_zero] at hset
   rw [← hset] at k'
   obtain⟨us,g6,g7⟩:=iK h1 h4 h k'
   refine⟨us,?_,g7⟩
   have e1:¬(v.cells.size≠size):=by omega
   have e2:¬(off+v.cells.size > vs.size):=by omega
   have e3:v.cells.size=size:=by omega
   have e4:¬(vs.size < off+size):=by omega
   have e5:Array.foldl (fun(cs:Array Value) (x:Value×Nat)=>cs.setIfInBounds (off+x.snd) x.fst) vs v.cells.zipIdx 0 size=List.foldl (fun cs x=>cs.setIfInBounds (off+x.snd) x.fst) vs v.cells.toList.zipIdx:=by
    have e6:v.cells.zipIdx.size=size:=by simp [e3]
    rw [← e6,← Array.foldl_toList]
    simp
   rw [← g6]
   simp only [Instr.fill,hp]
   simp [e3,e4,e5]
end Go.AM

/-
  THE ABSTRACT MACHINE: equality, and keys of maps. Conditions: none.
-/
namespace Go.AM
theorem za {P:Program} {t:TypeId} {a:AV} (h:scV P t a=true):scT P t=true:=by
 unfold scV at h
 unfold scT
 split at h<;>simp_all
theorem BJ {P:Program} {t:TypeId} (h:scT P t=true):aggT P t=some false:=by
 unfold scT at h
 unfold aggT
 split at h<;>simp_all
theorem iI {P:Program} {w:World} {t:TypeId} {vs:Array Value} {off:Nat} {x:Value} (h:scT P t=true) (hx:vs[off]?=some x):(part t vs off).run P w=.ok x w:=by
 have h1:(isAgg t).run P w=.ok false w:=iJ (BJ h) w
 simp [part,h1,hx]
theorem mH {P:Program} {w:World} {N:Nat→Prop} {i:Pl} {t:TypeId} {a b:AV} {x y:Value} {r:Bool} (d:Nat) (ha:scV P t a=true) (hb:scV P t b=true) (hr:eqSc a b=some r) (hx:Rep w N i a x) (hy:Rep w N i b y) :
  (Op.equalIn (d+1) t x y).run P w=.ok r w:=by
 cases a<;>cases b<;>simp [eqSc] at hr
 ·cases hx;cases hy
  subst hr
  have:P.underlying t=some .bool:=by unfold scV at ha;split at ha<;>simp_all
  exact run_equalIn_bool' w d t _ _ this
 ·cases hx;cases hy
  rename_i k n k' n'
  by_cases e:k=k'
  ·subst e
   simp at hr
   subst hr
   have:∃q,P.underlying t=some (.int q):=by unfold scV at ha;split at ha<;>simp_all
   obtain⟨q,hq⟩:=this
   exact run_equalIn_int w d t k q _ _ hq
  ·simp [e] at hr
 ·cases hx;cases hy
  subst hr
  have:P.underlying t=some .string:=by unfold scV at ha;split at ha<;>simp_all
  rw [run_equalIn_string w d t _ _ this,jo,jo]
theorem jI {P:Program} {w:World} {N:Nat→Prop} {i:Pl} {vs us:Array Value} (d:Nat):∀(fs:List Field) (k:Nat) (xs ys:List AV) (r:Bool),
  (fs.zipIdx k).all (fun p=>p.1.name != "_"&&(scT P p.1.type&&p.1.offset==p.2))=true→eqCs P (fs.map (·.type)) xs ys=some r →
  RepL w N i xs (vs.toList.drop k)→RepL w N i ys (us.toList.drop k)→(Op.eqFields (d+1) vs us fs).run P w=.ok r w
 | [],k,xs,ys,r,_,h,_,_=>by
  cases xs<;>cases ys<;>simp [eqCs] at h
  subst h
  rfl
 | f::fs,k,xs,ys,r,hall,h,hx,hy=>by
  cases xs with
  | nil=>simp [eqCs] at h
  | cons a as =>
   cases ys with
   | nil=>simp [eqCs] at h
   | cons b bs =>
    simp only [List.map_cons,eqCs] at h
    cases hc:(scV P f.type a&&scV P f.type b) with
    | false=>simp [hc] at h
    | true =>
     simp only [hc,cond_true,Option.bind_eq_some_iff] at h
     obtain⟨r0,h0,h⟩:=h
     simp only [Bool.and_eq_true] at hc
     simp only [List.zipIdx_cons,List.all_cons,Bool.and_eq_true,bne_iff_ne,ne_eq,beq_iff_eq] at hall
     obtain⟨⟨hn,hs,ho⟩,hall⟩:=hall
     obtain⟨x,xr,ex,hx1,hx2⟩:=hx
     obtain⟨y,yr,ey,hy1,hy2⟩:=hy
     have gx:vs[k]?=some x:=by
      have:(vs.toList.drop k)[0]?=some x:=by rw [ex];rfl
      simpa using this
     have gy:us[k]?=some y:=by
      have:(us.toList.drop k)[0]?=some y:=by rw [ey];rfl
      simpa using this
     have tx:xr=vs.toList.drop (k+1):=by rw [← List.drop_drop,ex];rfl
     have ty:yr=us.toList.drop (k+1):=by rw [← List.drop_drop,ey];rfl
     rw [tx] at hx2
     rw [ty] at hy2
     have p1:=iI (P:=P) (w:=w) hs (off:=f.offset) (ho ▸ gx)
     have p2:=iI (P:=P) (w:=w) hs (off:=f.offset) (ho ▸ gy)
     have p3:=mH d hc.1 hc.2 h0 hx1 hy1
     simp only [Op.eqFields,if_pos hn,Sem.run_bind,p1,p2,p3,Result.andThen_ok]
     cases r0 with
     | false=>simp at h;subst h;rfl
     | true=>simpa using jI d fs (k+1) as bs r hall h hx2 hy2
theorem lx {P:Program} {w:World} {N:Nat→Prop} {i:Pl} {vs us:Array Value} (d:Nat) {e:TypeId} (he:scT P e=true):∀(n k:Nat) (xs ys:List AV) (r:Bool),
  eqCs P (List.replicate n e) xs ys=some r→RepL w N i xs (vs.toList.drop k)→RepL w N i ys (us.toList.drop k)→(Op.eqItems (d+1) e 1 vs us (List.range' k n)).run P w=.ok r w
 | 0,k,xs,ys,r,h,_,_=>by
  cases xs<;>cases ys<;>simp [eqCs] at h
  subst h
  rfl
 | n+1,k,xs,ys,r,h,hx,hy=>by
  cases xs with
  | nil=>simp [eqCs,List.replicate_succ] at h
  | cons a as =>
   cases ys with
   | nil=>simp [eqCs,List.replicate_succ] at h
   | cons b bs =>
    simp only [List.replicate_succ,eqCs] at h
    cases hc:(scV P e a&&scV P e b) with
    | false=>simp [hc] at h
    | true =>
     simp only [hc,cond_true,Option.bind_eq_some_iff] at h
     obtain⟨r0,h0,h⟩:=h
     simp only [Bool.and_eq_true] at hc
     obtain⟨x,xr,ex,hx1,hx2⟩:=hx
     obtain⟨y,yr,ey,hy1,hy2⟩:=hy
     have gx:vs[k]?=some x:=by
      have:(vs.toList.drop k)[0]?=some x:=by rw [ex];rfl
      simpa using this
     have gy:us[k]?=some y:=by
      have:(us.toList.drop k)[0]?=some y:=by rw [ey];rfl
      simpa using this
     have tx:xr=vs.toList.drop (k+1):=by rw [← List.drop_drop,ex];rfl
     have ty:yr=us.toList.drop (k+1):=by rw [← List.drop_drop,ey];rfl
     rw [tx] at hx2
     rw [ty] at hy2
     have p1:=iI (P:=P) (w:=w) he (off:=k*1) (by simpa using gx)
     have p2:=iI (P:=P) (w:=w) he (off:=k*1) (by simpa using gy)
     have p3:=mH d hc.1 hc.2 h0 hx1 hy1
     simp only [List.range'_succ,Op.eqItems,Sem.run_bind,p1,p2,p3,Result.andThen_ok]
     cases r0 with
     | false=>simp at h;subst h;rfl
     | true=>simpa using lx d he n (k+1) as bs r h hx2 hy2
theorem oB {P:Program} {w:World} {N:Nat→Prop} {i:Pl} {t:TypeId} {ts:List TypeId} {xs ys:List AV} {vs us:Array Value} {r:Bool} (d:Nat) (ht:flatT P t=some ts) (hr:eqCs P ts xs ys=some r)
  (hx:RepL w N i xs vs.toList) (hy:RepL w N i ys us.toList):(Op.equalIn (d+2) t (.agg vs) (.agg us)).run P w=.ok r w:=by
 unfold flatT at ht
 split at ht
 ·rename_i fs hu
  cases hc:(!P.stoodInHeld t&&fs.toList.zipIdx.all (fun p=>p.1.name != "_"&&(scT P p.1.type&&p.1.offset==p.2))) with
  | false=>simp [hc] at ht
  | true =>
   simp only [hc,cond_true,Option.some.injEq] at ht
   subst ht
   simp only [Bool.and_eq_true,Bool.not_eq_true'] at hc
   have hf:P.fieldsOf t=fs:=by simp [Program.fieldsOf,hu]
   rw [show d+2=(d+1)+1 from rfl,run_equalIn_struct w (d+1) t vs us (by rw [hf];exact hu) hc.1,hf]
   exact jI d fs.toList 0 xs ys r hc.2 hr (by simpa using hx) (by simpa using hy)
 ·rename_i n e hu
  cases hc:(scT P e&&((P.info? e).map (·.size)==some 1)) with
  | false=>simp [hc] at ht
  | true =>
   simp only [hc,cond_true,Option.some.injEq] at ht
   subst ht
   simp only [Bool.and_eq_true,beq_iff_eq] at hc
   obtain⟨hs,h1⟩:=hc
   obtain⟨j,hj,hj1⟩:=Option.map_eq_some_iff.1 h1
   have hce:P.cellsOf e=1:=by simp [Program.cellsOf,hj,hj1]
   rw [show d+2=(d+1)+1 from rfl,run_equalIn_array w (d+1) vs us hu hj,hce,List.range_eq_range']
   exact lx d hs n 0 xs ys r hr (by simpa using hx) (by simpa using hy)
 ·cases ht
theorem gX {P:Program} {t:TypeId} (d:Nat) (h:scT P t=true):P.eqGuardType (d+1) t=false:=by
 unfold scT at h
 unfold Program.eqGuardType
 split at h<;>simp_all
theorem kD {P:Program} {t:TypeId} {ts:List TypeId} (d:Nat) (ht:flatT P t=some ts):P.eqGuardType (d+2) t=false:=by
 unfold flatT at ht
 unfold Program.eqGuardType
 split at ht
 ·rename_i fs hu
  cases hc:(!P.stoodInHeld t&&fs.toList.zipIdx.all (fun p=>p.1.name != "_"&&(scT P p.1.type&&p.1.offset==p.2))) with
  | false=>simp [hc] at ht
  | true =>
   simp only [Bool.and_eq_true,Bool.not_eq_true'] at hc
   rw [hu]
   simp only
   rw [← Array.any_toList,List.any_eq_false]
   intro f hf
   obtain⟨j,hj,e⟩:=List.mem_iff_getElem.1 hf
   have:=List.all_eq_true.1 hc.2 (f,j) (by rw [List.mem_zipIdx_iff_getElem?];rw [List.getElem?_eq_getElem hj,e])
   simp only [Bool.and_eq_true] at this
   simp [gX d this.2.1]
 ·rename_i n e hu
  cases hc:(scT P e&&((P.info? e).map (·.size)==some 1)) with
  | false=>simp [hc] at ht
  | true =>
   simp only [Bool.and_eq_true] at hc
   rw [hu]
   exact gX d hc.1
 ·cases ht
theorem wa {P:Program} {w:World} {N:Nat→Prop} {i:Pl} {t:TypeId} {x y:AV} {v u:Value} {r:Bool} (xo yo:Operand) (op:BinOp) (ht:eqT P t x=true) (hr:eqA P t x y=some r) (hx:Rep w N i x v) (hy:Rep w N i y u) :
  (eqGuard op t xo yo v u).run P w=.ok () w∧(Op.equal t v u).run P w=.ok r w:=by
 have plain:(∀vs,v≠.agg vs)∧v≠.nilIface→(eqGuard op t xo yo v u).run P w=.ok () w:=fun h=>by rw [fw h];rfl
 have sl0:∀d e,P.underlying t=some (.slice e)→∀a b n c n' c',(a=none∨b=none)→(Op.equalIn (d+1) t (.slice a n c) (.slice b n' c')).run P w=.ok (a.isNone&&b.isNone) w:=by
  intro d e hu a b n c n' c' h
  cases a<;>cases b<;>simp [Op.equalIn,run_underlying hu] at h ⊢
 have pt0:∀d e,P.underlying t=some (.pointer e)→∀a b,(a=none∨b=none)→(Op.equalIn (d+1) t (.pointer a) (.pointer b)).run P w=.ok (a.isNone&&b.isNone) w:=by
  intro d e hu a b h
  cases a<;>cases b<;>simp [Op.equalIn,run_underlying hu] at h ⊢
 have sl:∀e,P.underlying t=some (.slice e)→∀a b n c n' c',(a=none∨b=none)→(Op.equal t (.slice a n c) (.slice b n' c')).run P w=.ok (a.isNone&&b.isNone) w:=sl0 9999
 have pt:∀e,P.underlying t=some (.pointer e)→∀a b,(a=none∨b=none)→(Op.equal t (.pointer a) (.pointer b)).run P w=.ok (a.isNone&&b.isNone) w:=pt0 9999
 clear sl0 pt0
 have ks:(x=.nils∨(∃ex n cs,x=.fsl ex n cs)∨(∃id es off n top,x=.sl id es off n top))→∃e,P.underlying t=some (.slice e):=by
  rintro(rfl | ⟨_,_,_,rfl⟩ | ⟨_,_,_,_,_,rfl⟩)<;>(unfold eqT at ht;split at ht<;>simp_all)
 have kp:(x=.nilp∨(∃cs,x=.fptr cs)∨(∃id off top,x=.ptr id off top))→∃e,P.underlying t=some (.pointer e):=by
  rintro(rfl | ⟨_,rfl⟩ | ⟨_,_,_,rfl⟩)<;>(unfold eqT at ht;split at ht<;>simp_all)
 cases x<;>cases y<;>simp only [eqA] at hr<;>try (cases hr;done)
 ·
  cases hx;cases hy
  cases hr
  have:P.underlying t=some .bool:=by unfold eqT at ht;split at ht<;>simp_all
  exact⟨plain (by simp),run_equalIn_bool' w 9999 t _ _ this⟩
 ·cases hr;cases hx;cases hy
  obtain⟨e,he⟩:=kp (.inl rfl)
  exact⟨plain (by simp),pt e he none none (.inl rfl)⟩
 ·cases hr;cases hx;obtain⟨b,o,c,_,rfl⟩:=hy
  obtain⟨e,he⟩:=kp (.inl rfl)
  exact⟨plain (by simp),pt e he none _ (.inl rfl)⟩
 ·cases hr;cases hx;obtain⟨b,o,c,_,rfl,_⟩:=hy
  obtain⟨e,he⟩:=kp (.inl rfl)
  exact⟨plain (by simp),pt e he none _ (.inl rfl)⟩
 ·cases hr;cases hy;obtain⟨b,o,c,_,rfl⟩:=hx
  obtain⟨e,he⟩:=kp (.inr (.inr ⟨_,_,_,rfl⟩))
  exact⟨plain (by simp),pt e he _ none (.inr rfl)⟩
 ·cases hr;cases hy;obtain⟨b,o,c,_,rfl,_⟩:=hx
  obtain⟨e,he⟩:=kp (.inr (.inl ⟨_,rfl⟩))
  exact⟨plain (by simp),pt e he _ none (.inr rfl)⟩
 ·cases hr;cases hx;cases hy
  obtain⟨e,he⟩:=ks (.inl rfl)
  exact⟨plain (by simp),sl e he none none _ _ _ _ (.inl rfl)⟩
 ·cases hr;cases hx;obtain⟨b,o,c,off,cap,_,rfl,_⟩:=hy
  obtain⟨e,he⟩:=ks (.inl rfl)
  exact⟨plain (by simp),sl e he none _ _ _ _ _ (.inl rfl)⟩
 ·cases hr;cases hx;obtain⟨a,cap,vs,rfl,_⟩:=hy
  obtain⟨e,he⟩:=ks (.inl rfl)
  exact⟨plain (by simp),sl e he none _ _ _ _ _ (.inl rfl)⟩
 ·cases hr;cases hy;obtain⟨b,o,c,off,cap,_,rfl,_⟩:=hx
  obtain⟨e,he⟩:=ks (.inr (.inr ⟨_,_,_,_,_,rfl⟩))
  exact⟨plain (by simp),sl e he _ none _ _ _ _ (.inr rfl)⟩
 ·cases hr;cases hy;obtain⟨a,cap,vs,rfl,_⟩:=hx
  obtain⟨e,he⟩:=ks (.inr (.inl ⟨_,_,_,rfl⟩))
  exact⟨plain (by simp),sl e he _ none _ _ _ _ (.inr rfl)⟩
 ·rename_i xs ys
  obtain⟨vs,rfl,hx⟩:=hx
  obtain⟨us,rfl,hy⟩:=hy
  simp only [Option.bind_eq_some_iff] at hr
  obtain⟨ts,hts,hr⟩:=hr
  cases hc:(xs.length==ts.length&&ys.length==ts.length) with
  | false=>simp [hc] at hr
  | true =>
   simp only [hc,cond_true] at hr
   exact⟨run_eqGuard_agg w op t xo yo vs us (kD _ hts),oB 9998 hts hr hx hy⟩
def Plain:Value→Prop
 | .int .. | .float .. | .complex .. | .string _=>False
 | _=>True
theorem ly {t:TypeId} {v u:Value} (h:Plain v):binOp .eql t v u=(do pure (.bool (← Op.equal t v u)))∧binOp .neq t v u=(do pure (.bool (!(← Op.equal t v u)))):=by
 cases v<;>first | exact h.elim | exact⟨rfl,rfl⟩
theorem oD {P:Program} {w:World} {N:Nat→Prop} {i:Pl} {t:TypeId} {x y:AV} {v:Value} {r:Bool} (hr:eqA P t x y=some r) (hx:Rep w N i x v):Plain v:=by
 cases x<;>try (cases y<;>cases hr;done)
 ·cases hx;trivial
 ·cases hx;trivial
 ·obtain⟨_,_,_,_,rfl⟩:=hx;trivial
 ·obtain⟨_,_,_,_,rfl,_⟩:=hx;trivial
 ·cases hx;trivial
 ·obtain⟨_,_,_,_,_,_,rfl,_⟩:=hx;trivial
 ·obtain⟨_,_,_,rfl,_⟩:=hx;trivial
 ·obtain⟨_,rfl,_⟩:=hx;trivial
theorem zC {P:Program} {w:World} {N:Nat→Prop} {i:Pl} {t:TypeId} {x y r:AV} {v u:Value} {op:BinOp} (xo yo:Operand) (hr:binA P op t x y=some r) (hx:Rep w N i x v) (hy:Rep w N i y u) :
  ∃z,(eqGuard op t xo yo v u).run P w=.ok () w∧(binOp op t v u).run P w=.ok z w∧Rep w N i r z:=by
 unfold binA at hr
 split at hr
 ·rename_i k a k' b
  cases hx;cases hy
  have hg:(eqGuard op t xo yo (.int k a) (.int k' b)).run P w=.ok () w:=by rw [fw (by simp)];rfl
  split at hr
  ·obtain⟨z,h1,h2⟩:=mI (P:=P) (w:=w) (k':=k') t (.inl rfl) hr
   exact⟨z,hg,h1,h2 _ _⟩
  ·obtain⟨z,h1,h2⟩:=mI (P:=P) (w:=w) (k':=k') t (.inr rfl) hr
   exact⟨z,hg,h1,h2 _ _⟩
  ·rename_i h1 h2
   by_cases e:k=k'
   ·subst e
    simp only [kk,decide_true,cond_true] at hr
    obtain⟨z,h3,h4⟩:=tG (P:=P) (w:=w) t (fun h=>h1 h) (fun h=>h2 h) hr
    exact⟨z,hg,h3,h4 _ _⟩
   ·simp [kk,e] at hr
 ·cases hx;cases hy
  obtain⟨z,h1,h2⟩:=zD (P:=P) (w:=w) t hr
  exact⟨z,by rw [fw (by simp)];rfl,h1,h2 _ _⟩
 ·split at hr
  ·cases ht:eqT P t x with
   | false=>simp [ht] at hr
   | true =>
    simp only [ht,cond_true,Option.map_eq_some_iff] at hr
    obtain⟨b,h1,rfl⟩:=hr
    obtain⟨h2,h3⟩:=wa xo yo .eql ht h1 hx hy
    exact⟨.bool b,h2,by rw [(ly (oD h1 hx)).1];simp [h3],rfl⟩
  ·cases ht:eqT P t x with
   | false=>simp [ht] at hr
   | true =>
    simp only [ht,cond_true,Option.map_eq_some_iff] at hr
    obtain⟨b,h1,rfl⟩:=hr
    obtain⟨h2,h3⟩:=wa xo yo .neq ht h1 hx hy
    exact⟨.bool (!b),h2,by rw [(ly (oD h1 hx)).2];simp [h3],rfl⟩
  ·cases hr
end Go.AM

/-
  THE ABSTRACT MACHINE: every operation that looks at no memory does what the machine says. Conditions: none.
-/
namespace Go.AM
theorem gW {w:World} {N:Nat→Prop} {i:Pl}:∀ {as:List AV} {vs:List Value},vs.length=as.length→(∀(j:Nat) a v,as[j]?=some a→vs[j]?=some v→Rep w N i a v)→RepL w N i as vs
 | [],vs,h,_=>by cases vs with | nil=>rfl | cons _ _=>simp at h
 | a::as,vs,h,k=>by
  cases vs with
  | nil=>simp at h
  | cons v vs=>exact⟨v,vs,rfl,k 0 a v rfl rfl,gW (by simpa using h) (fun j a v h1 h2=>k (j+1) a v (by simpa using h1) (by simpa using h2))⟩
theorem fH (n:Nat) (zs:List AV):(repl n zs).length=n*zs.length:=by
 unfold repl
 split<;>simp [List.length_flatten]
theorem qV (n:Nat) (zs:List AV) (j:Nat) (h:j < n*zs.length):((List.replicate n zs).flatten)[j]?=zs[j % zs.length]?:=by
 induction n generalizing j with
 | zero=>simp at h
 | succ n ih =>
  rw [List.replicate_succ,List.flatten_cons]
  by_cases h1:j < zs.length
  ·rw [List.getElem?_append_left h1,Nat.mod_eq_of_lt h1]
  ·rw [List.getElem?_append_right (by omega),ih (j - zs.length) (by rw [Nat.succ_mul] at h;omega)]
   have:j % zs.length=(j - zs.length) % zs.length:=by
    rw [Nat.mod_eq_sub_mod (by omega)]
   rw [this]
theorem zx (n:Nat) (zs:List AV) (j:Nat) (h:j < n*zs.length):(repl n zs)[j]?=zs[j % zs.length]?:=by
 unfold repl
 split
 ·rename_i z
  simp at h
  simp [h,Nat.mod_one]
 ·exact qV n _ j h
theorem qQ {w:World} {N:Nat→Prop} {i:Pl} {zs:List AV} {vs:Array Value} (h:RepL w N i zs vs.toList) (n k:Nat) (hk:k=n*zs.length) :
  RepL w N i (repl n zs) ((Array.range k).map (vs[· % vs.size]!)).toList:=by
 have hl:=h.length
 rw [Array.length_toList] at hl
 subst hk
 refine gW (by simp [fH]) (fun j a v h1 h2=>?_)
 have hj:j < n*zs.length:=by
  have:=(List.getElem?_eq_some_iff.1 h1).1
  rwa [fH] at this
 rw [zx n zs j hj] at h1
 obtain⟨u,hu,hr⟩:=h.get h1
 simp [hj] at h2
 subst h2
 rw [hl]
 have:vs[j % zs.length]?=some u:=by simpa using hu
 obtain⟨hlt,e⟩:=Array.getElem?_eq_some_iff.1 this
 rw [getElem!_pos vs _ hlt,e]
 exact hr
theorem tD {cs ds:List AV} {off:Nat} (h:off+ds.length≤cs.length):(splice cs off ds).length=cs.length:=by
 simp [splice]
 omega
theorem oC {place:Nat→Option (Nat×Nat)}:∀ {parts:List (Nat×AV)} {cs r:List AV},fillA place cs parts=some r→r.length=cs.length
 | [],cs,r,h=>by simp [fillA] at h;rw [h]
 | (j,a)::parts,cs,r,h=>by
  simp only [fillA,Option.bind_eq_some_iff] at h
  obtain⟨⟨off,size⟩,hp,h⟩:=h
  cases hc:(a.cells.length==size&&(Nat.ble (off+size) cs.length&&oneL a.cells)) with
  | false=>simp [hc] at h
  | true =>
   simp only [hc,cond_true] at h
   simp only [Bool.and_eq_true,beq_iff_eq,Nat.ble_eq] at hc
   rw [oC h,tD (by omega)]
theorem jH {P:Program}:∀ {fs:List Field} {pl:List (Nat×Nat)},placesT P fs=some pl→fs.mapM (fun f=>(P.info? f.type).map fun i=>(f.offset,i.size))=some pl
 | [],pl,h=>by simp [placesT] at h;subst h;rfl
 | f::fs,pl,h=>by
  simp only [placesT,Option.bind_eq_some_iff] at h
  obtain⟨n,hn,l,hl,h⟩:=h
  cases h
  obtain⟨j,hj,hj2⟩:=dX hn
  simp [List.mapM_cons,hj,hj2,jH hl]
theorem eN {w:World} {N:Nat→Prop} {i:Pl} {v:Value} {z:AV} (h:ofConst v=some z):RepL w N i z.cells v.cells.toList:=by
 unfold ofConst at h
 split at h
 ·rename_i cs
  simp only [Option.map_eq_some_iff] at h
  obtain⟨as,h,rfl⟩:=h
  exact gi h
 ·rename_i hn
  have hr:Rep w N i z v:=jm h
  unfold ofCell at h
  split at h<;>first | (cases h;exact⟨_,[],rfl,hr,rfl⟩) | (cases h)
theorem xE {P:Program} {w:World} {N:Nat→Prop} {i:Pl} {t:TypeId} {parts:List (Nat×AV)} {vparts:Array (Nat×Value)} {r:AV} (hr:buildA P t parts=some r)
  (h1:vparts.toList.map (·.1)=parts.map (·.1)) (h2:RepL w N i (parts.map (·.2)) (vparts.toList.map (·.2))):∃z,(Instr.build t vparts).run P w=.ok z w∧Rep w N i r z:=by
 simp only [buildA,Option.bind_eq_some_iff] at hr
 obtain⟨z,hz,hr⟩:=hr
 obtain⟨j,zv,hj,hjz,hzv⟩:=fu hz
 have hcells:=eN (w:=w) (N:=N) (i:=i) hzv
 split at hr
 ·rename_i fs hu
  simp only [Option.bind_eq_some_iff,Option.map_eq_some_iff] at hr
  obtain⟨pl,hpl,cs,hf,rfl⟩:=hr
  obtain⟨us,h3,h4⟩:=iK h1 h2 hf hcells
  refine⟨.agg us,run_build w t vparts us ?_,us,rfl,h4⟩
  have:=jH hpl
  simp only [Program.built,hj,hu,hjz,this]
  simpa using h3
 ·rename_i n e hu
  simp only [Option.bind_eq_some_iff,Option.map_eq_some_iff] at hr
  obtain⟨k,hk,cs,hf,rfl⟩:=hr
  obtain⟨us,h3,h4⟩:=iK h1 h2 hf hcells
  obtain⟨je,hje,hje2⟩:=dX hk
  refine⟨.agg us,run_build w t vparts us ?_,us,rfl,h4⟩
  simp only [Program.built,hj,hu,hjz,hje]
  rw [hje2]
  exact h3
 ·cases hr
theorem lj {P:Program} {w:World} {N:Nat→Prop} {i:Pl} {t:TypeId} {len:Nat} {parts:List (Nat×AV)} {vparts:Array (Nat×Value)} {r:Nat×List AV} (hr:buildSlA P t len parts=some r)
  (h1:vparts.toList.map (·.1)=parts.map (·.1)) (h2:RepL w N i (parts.map (·.2)) (vparts.toList.map (·.2))) :
  ∃us e,(Instr.buildSlice t len vparts).run P w=.ok (.slice (some ⟨w.heap.size,0,none⟩) len len) (w.alloc (.cells us e))∧RepL w N i r.2 us.toList∧One us.toList∧us.size=len*r.1:=by
 unfold buildSlA at hr
 split at hr
 ·rename_i e hu
  simp only [Option.bind_eq_some_iff] at hr
  obtain⟨n,hn,z,hz,hr⟩:=hr
  cases hc:(Nat.ble (len*n) 16777216&&z.cells.length==n) with
  | false=>simp [hc] at hr
  | true =>
   simp only [hc,cond_true,Option.bind_eq_some_iff] at hr
   obtain⟨cs,hf,hr⟩:=hr
   cases ho:oneL cs with
   | false=>simp [ho] at hr
   | true =>
    simp [ho] at hr
    subst hr
    simp only [Bool.and_eq_true,Nat.ble_eq,beq_iff_eq] at hc
    obtain⟨j,zv,hj,hjz,hzv⟩:=fu hz
    obtain⟨j',hj',hn'⟩:=dX hn
    rw [hj] at hj'
    cases hj'
    have hcells:=eN (w:=w) (N:=N) (i:=i) hzv
    have hrep:=qQ hcells len (len*n) (by rw [hc.2])
    obtain⟨us,h3,h4⟩:=iK h1 h2 hf hrep
    have hlen:us.size=len*n:=by
     have e1:=h4.length
     have e2:=oC hf
     simp only [fH,hc.2,Array.length_toList] at e1 e2
     omega
    refine⟨us,e,?_,h4,RepL.oneL ho h4,hlen⟩
    have hb:¬(len*j.size > 2 ^ 24):=by rw [hn'];omega
    by_cases h0:len*n=0
    ·have h3':Instr.fill (fun x=>some (x*j.size,j.size)) #[] vparts.toList=some us:=by
      rw [h0,Array.range_zero'] at h3
      rw [hn']
      simpa using h3
     have h0':len*j.size=0:=by rw [hn'];exact h0
     simp [Instr.buildSlice,run_underlying hu,sizeOf,typeInfo,hj,h0',Array.range_zero',h3',newRow]
    ·exact run_buildSlice w t e len vparts us j zv hu hj hjz hb (by rw [hn'];exact h0) (by rw [hn'];exact h3)
 ·cases hr
structure Got (P:Program) (o:Oper) (a:Act) (m:Mem) (w:World) (N:Nat→Prop) (i:Pl) (pv:AV) (m':Mem):Prop where
 got:∃n v w' N' i',(execOp a.eval o).run P w=.ok n w'∧(n=.value v∨(n=.skip∧v=undef))∧Sim m' w' N' i'∧Ext m w N i m' w' N' i'∧Rep w' N' i' pv v
theorem Got.same {P:Program} {o:Oper} {a:Act} {m:Mem} {w:World} {N:Nat→Prop} {i:Pl} {pv:AV} (hs:Sim m w N i) {v:Value} (h:(execOp a.eval o).run P w=.ok (.value v) w) (hr:Rep w N i pv v):Got P o a m w N i pv m :=
 ⟨⟨_,v,w,N,i,h,.inl rfl,hs,Ext.refl _ _ _ _,hr⟩⟩
theorem kA {w:World} {N:Nat→Prop} {i:Pl} {s:St} {a:Act} (ha:bG w N i s a) (parts:Array (Nat×Operand)) :
  ((parts.map fun(i,x)=>(i,a.eval x)).toList.map (·.1)=(parts.toList.map fun p=>(p.1,s.ev p.2)).map (·.1)) ∧
  RepL w N i ((parts.toList.map fun p=>(p.1,s.ev p.2)).map (·.2)) ((parts.map fun(i,x)=>(i,a.eval x)).toList.map (·.2)):=by
 constructor
 ·simp
 ·have:=ha.evL (parts.toList.map (·.2))
  simpa [Function.comp_def] using this
theorem qW {w:World} {N:Nat→Prop} {i:Pl} {s:St} {a:Act} (ha:bG w N i s a) (x:Option Operand):(∀b,s.evO x=some b→∃u,x.map a.eval=some u∧Rep w N i b u)∧(s.evO x=none→x.map a.eval=none):=by
 cases x with
 | none=>exact⟨fun b h=>by simp [St.evO] at h,fun _=>rfl⟩
 | some x=>exact⟨fun b h=>by simp [St.evO] at h;subst h;exact⟨_,rfl,ha.ev x⟩,fun h=>by simp [St.evO] at h⟩
theorem kC {P:Program} {w:World} {N:Nat→Prop} {i:Pl} {f:AV→AV→Option AV} {g:Value→Value→Sem Value} (hf:∀a b c x y,f a b=some c→Rep w N i a x→Rep w N i b y→∃z,(g x y).run P w=.ok z w∧Rep w N i c z) :
  ∀(r:List AV) (vs:List Value) (a c:AV) (x:Value),foldA f a r=some c→Rep w N i a x→RepL w N i r vs→∃z,(vs.foldlM g x).run P w=.ok z w∧Rep w N i c z
 | [],vs,a,c,x,h,hx,hv=>by
  cases hv
  simp [foldA] at h
  subst h
  exact⟨x,rfl,hx⟩
 | b::r,vs,a,c,x,h,hx,hv=>by
  obtain⟨y,vs',rfl,hy,hv⟩:=hv
  simp only [foldA,Option.bind_eq_some_iff] at h
  obtain⟨d,hd,h⟩:=h
  obtain⟨z,hz,hz2⟩:=hf _ _ _ _ _ hd hx hy
  obtain⟨z',hz',hz3⟩:=kC hf r vs' d c z h hz2 hv
  exact⟨z',by simp [List.foldlM,hz,hz'],hz3⟩
theorem zy {P:Program} {w:World} {N:Nat→Prop} {i:Pl} (a b c:AV) (x y:Value) (h:max2A a b=some c) (hx:Rep w N i a x) (hy:Rep w N i b y):∃z,(Builtin.max2 x y).run P w=.ok z w∧Rep w N i c z:=by
 cases a<;>cases b<;>simp [max2A,kk] at h
 rename_i k n k' n'
 cases hx;cases hy
 by_cases e:k=k'
 ·subst e
  simp at h
  subst h
  exact⟨_,rfl,rfl⟩
 ·simp [e] at h
theorem zz {P:Program} {w:World} {N:Nat→Prop} {i:Pl} (a b c:AV) (x y:Value) (h:min2A a b=some c) (hx:Rep w N i a x) (hy:Rep w N i b y):∃z,(Builtin.min2 x y).run P w=.ok z w∧Rep w N i c z:=by
 cases a<;>cases b<;>simp [min2A,kk] at h
 rename_i k n k' n'
 cases hx;cases hy
 by_cases e:k=k'
 ·subst e
  simp at h
  subst h
  exact⟨_,rfl,rfl⟩
 ·simp [e] at h
theorem nQ {P:Program} {m:Mem} {w:World} {N:Nat→Prop} {i:Pl} (hs:Sim m w N i) {e:TypeId} {x r:AV} {v:Value} (hr:frozenPtr x=some r) (hx:Rep w N i x v) :
  ∃w' N',(Instr.box e v).run P w=.ok (.pointer (some ⟨w.heap.size,0,none⟩)) w'∧Sim m w' N' i∧Ext m w N i m w' N' i∧Rep w' N' i r (.pointer (some ⟨w.heap.size,0,none⟩)):=by
 unfold frozenPtr at hr
 cases ho:oneL x.cells with
 | false=>simp [ho] at hr
 | true =>
  simp only [ho,cond_true,Option.some.injEq] at hr
  obtain⟨h1,h2⟩:=Rep.cells ho hx
  obtain⟨h3,h4⟩:=hs.zA (.cells v.cells e)
  refine⟨_,_,by simp [Instr.box,newVar,newRow],h3,h4,?_⟩
  have l:=h4.le hs
  have hc:CellsAt (w.alloc (.cells v.cells e)) w.heap.size 0 v.cells.toList:=by
   intro j u hj
   simp at hj
   simpa using hj
  cases hcl:closedL x.cells with
  | true =>
   rw [hcl] at hr
   simp at hr
   subst hr
   exact⟨_,0,_,.inr rfl,rfl,hc,h2,RepL.closed _ hcl (RepL.mono l _ h1)⟩
  | false =>
   rw [hcl] at hr
   simp at hr
   subst hr
   exact⟨_,0,_,.inr rfl,rfl,hc,h2,RepL.mono l _ h1⟩
theorem qU (l:List AV):l.head?=l[0]?:=by cases l<;>rfl
theorem xF {P:Program} {w:World} {N:Nat→Prop} {i:Pl} {t:TypeId} {g:Bool} {n:Nat} {x r:AV} {v:Value} (hg:aggT P t=some g) (hn:sizeT P t=some n) (hr:loadF g n x=some r) (hx:Rep w N i x v) :
  ∃z,(Instr.loadAt t v).run P w=.ok z w∧Rep w N i r z:=by
 have h1:(isAgg t).run P w=.ok g w:=iJ hg w
 have h2:(sizeOf t).run P w=.ok n w:=run_sizeOf hn w
 have key:∀(i':Pl) (cells:List AV) b off vs,v=.pointer (some ⟨b,off,none⟩)→CellsAt w b off vs→RepL w N i' cells vs →
   (bif g then(bif Nat.ble n cells.length then some (.agg (cells.take n)) else none) else cells.head?)=some r→(∀a u,Rep w N i' a u→Rep w N i a u)→(∀as us,RepL w N i' as us→RepL w N i as us) →
   ∃z,(Instr.loadAt t v).run P w=.ok z w∧Rep w N i r z:=by
  intro i' cells b off vs hv hc hl hr k1 k2
  subst hv
  cases g with
  | true =>
   cases hb:Nat.ble n cells.length with
   | false=>simp [hb] at hr
   | true =>
    simp [hb] at hr
    rw [Nat.ble_eq] at hb
    subst hr
    have hlen:(vs.take n).length=n:=by rw [List.length_take,hl.length];omega
    have hld:=run_loadCells_list (P:=P) w ⟨b,off,none⟩ (vs.take n) (fun j u hj=>by rw [add_lit];exact hc.take n j u hj)
    rw [hlen] at hld
    exact⟨.agg (vs.take n).toArray,by simp [Instr.loadAt,Instr.sureAddr,loadVar,h1,h2,hld],_,rfl,by simpa using k2 _ _ (hl.take n)⟩
  | false =>
   simp only [cond_false] at hr
   rw [qU] at hr
   obtain⟨u,hu,hru⟩:=hl.get hr
   have hcell:w.cell? ⟨b,off,none⟩=some u:=by simpa using hc 0 u hu
   exact⟨u,by simp [Instr.loadAt,Instr.sureAddr,loadVar,h1,hcell],k1 _ _ hru⟩
 cases x<;>simp only [loadF] at hr<;>try (cases hr;done)
 ·obtain⟨b,off,vs,_,hv,hc,_,hl⟩:=hx
  have l:Le w N P0 w N i:=⟨fun _ h=>h,fun _ _=>rfl,fun _ _ _ h=>by simp [P0] at h⟩
  exact key P0 _ b off vs hv hc hl hr (fun a u h=>Rep.mono l a h) (fun a u h=>RepL.mono l a h)
 ·obtain⟨b,off,vs,_,hv,hc,_,hl⟩:=hx
  exact key i _ b off vs hv hc hl hr (fun _ _ h=>h) (fun _ _ h=>h)
theorem zB {P:Program} {w:World} {N:Nat→Prop} {i:Pl} {t e ty:TypeId} {x:AV} {v:Value} {n:Nat} (hu:P.underlying t=some (.slice e)) (hn:∀b,x≠.str b) (hr:lenA x=some n) (hx:Rep w N i x v) :
  (Builtin.len_ #[t] ty #[v]).run P w=.ok (.int .i64 n) w:=by
 cases x<;>simp [lenA] at hr
 ·exact(hn _ rfl).elim
 ·subst hr;cases hx;simp [Builtin.len_,run_underlying hu,goInt]
 ·subst hr;obtain⟨_,_,_,_,_,_,rfl,_⟩:=hx;simp [Builtin.len_,run_underlying hu,goInt]
 ·subst hr;obtain⟨_,_,_,rfl,_⟩:=hx;simp [Builtin.len_,run_underlying hu,goInt]
theorem BI {b:List UInt8} {j:Nat} {c:UInt8} (h:b[j]?=some c):(⟨b.toArray⟩:ByteArray)[j]?=some c:=by
 obtain⟨h3,h4⟩:=List.getElem?_eq_some_iff.1 h
 have h5:j < (⟨b.toArray⟩:ByteArray).size:=by rw [dI];omega
 have h6:(⟨b.toArray⟩:ByteArray)[j]?=some ((⟨b.toArray⟩:ByteArray)[j]'h5):=dif_pos h5
 rw [h6,← h4]
 rfl
theorem xt {P:Program} {w:World} {N:Nat→Prop} {i:Pl} {s:St} {a:Act} (hs:Sim s.m w N i) (ha:bG w N i s a) {o:Oper} {md:Nat} {pv:AV} (hno:∀c,o.op=.call c→(md==3)=false) (hr:pureA P md s o.op=some pv):Got P o a s.m w N i pv s.m:=by
 obtain⟨dst,op,type,pos,after,guard⟩:=o
 simp only at hr
 unfold pureA at hr
 split at hr
 ·
  cases hr
  exact Got.same hs (by simp [execOp]) (ha.ev _)
 ·cases hr
  exact Got.same hs (by simp [execOp]) (ha.ev _)
 ·
  rename_i c x y
  split at hr
  ·rename_i b hb
   cases hr
   have hc:=ha.ev c
   rw [hb] at hc
   cases b
   ·exact Got.same hs (v:=a.eval y) (by simp [execOp,show a.eval c=.bool false from hc,asBool]) (ha.ev _)
   ·exact Got.same hs (v:=a.eval x) (by simp [execOp,show a.eval c=.bool true from hc,asBool]) (ha.ev _)
  ·cases hr
 ·
  rename_i e x
  cases hm:md==1 with
  | false=>simp [hm] at hr
  | true =>
   simp only [hm,cond_true] at hr
   obtain⟨w',N',h1,h2,h3,h4⟩:=nQ (P:=P) hs (e:=e) hr (ha.ev x)
   exact⟨⟨_,_,w',N',i,by simp [execOp,h1],.inl rfl,h2,h3,h4⟩⟩
 ·
  rename_i t x
  cases hm:md==1 with
  | false=>simp [hm] at hr
  | true =>
   simp only [hm,cond_true,Option.bind_eq_some_iff] at hr
   obtain⟨g,hg,n,hn,hr⟩:=hr
   obtain⟨z,h1,h2⟩:=xF (P:=P) hg hn hr (ha.ev x)
   exact Got.same hs (by simp [execOp,h1]) h2
 ·
  rename_i t parts
  obtain⟨p1,p2⟩:=kA ha parts
  obtain⟨z,h1,h2⟩:=xE (P:=P) hr p1 p2
  exact Got.same hs (by simp [execOp,h1]) h2
 ·
  rename_i t n parts
  cases hm:md==1 with
  | false=>simp [hm] at hr
  | true =>
   simp only [hm,cond_true,Option.bind_eq_some_iff] at hr
   obtain⟨⟨k,cs⟩,hb,hr⟩:=hr
   cases hcl:closedL cs with
   | false=>simp [hcl] at hr
   | true =>
    simp [hcl] at hr
    subst hr
    obtain⟨p1,p2⟩:=kA ha parts
    obtain⟨us,e,h1,h2,h3,h4⟩:=lj (P:=P) hb p1 p2
    obtain⟨g1,g2⟩:=hs.zA (.cells us e)
    refine⟨⟨_,_,_,_,i,by simp [execOp,h1],.inl rfl,g1,g2,⟨w.heap.size,0,none⟩,n,us.toList,rfl,Nat.le_refl _,fun _=>rfl,.inr ⟨_,0,rfl,.inr rfl,?_⟩,h3,RepL.closed _ hcl (RepL.mono (g2.le hs) _ h2)⟩⟩
    intro j u hj
    simp at hj
    simpa using hj
 ·
  rename_i x
  have hx:=ha.ev x
  split at hr
  ·rename_i id off top he
   cases hr
   rw [he] at hx
   obtain⟨b,o,c,h1,h2⟩:=hx
   exact Got.same hs (by simp [execOp,h2]) ⟨b,o,c,h1,rfl⟩
  ·rename_i cs he
   cases hr
   rw [he] at hx
   obtain⟨b,o,vs,h1,h2,h3⟩:=hx
   exact Got.same hs (by simp [execOp,h2]) ⟨b,o,vs,h1,rfl,h3⟩
  ·rename_i cs he
   cases hr
   rw [he] at hx
   obtain⟨b,o,vs,h1,h2,h3⟩:=hx
   exact Got.same hs (by simp [execOp,h2]) ⟨b,o,vs,h1,rfl,h3⟩
  ·rename_i f x1 x2 he
   cases hr
   rw [he] at hx
   obtain⟨fs,cs,h1,h2⟩:=hx
   exact Got.same hs (by simp [execOp,h1]) ⟨fs,cs,rfl,h2⟩
  ·cases hr
 ·
  rename_i op t x y yt
  obtain⟨z,h1,h2,h3⟩:=zC (P:=P) x y hr (ha.ev x) (ha.ev y)
  exact Got.same hs (by simp [execOp,h1,h2]) h3
 ·
  rename_i op t x
  have hx:=ha.ev x
  unfold unA at hr
  split at hr
  ·rename_i b he
   cases hr
   rw [he] at hx
   exact Got.same hs (v:=.bool (!b)) (by simp [execOp,show a.eval x=.bool b from hx,Op.unary]) rfl
  ·rename_i k n he
   cases hr
   rw [he] at hx
   exact Got.same hs (v:=.int k (k.wrap (0 - n))) (by simp [execOp,show a.eval x=.int k n from hx,Op.unary,Op.intArith]) rfl
  ·cases hr
 ·
  rename_i t x
  split at hr
  ·cases hr
  ·rename_i d hd hu
   cases hr
   refine Got.same hs (v:=.iface t (a.eval x)) ?_ ⟨_,rfl,ha.ev x⟩
   have:(Instr.makeInterface t (a.eval x)).run P w=.ok (.iface t (a.eval x)) w:=by
    unfold Instr.makeInterface
    simp only [Sem.run_bind,run_underlying hu,Result.andThen_ok]
    cases d<;>first | rfl | exact(hd _ rfl).elim
   simp [execOp,this]
  ·cases hr
 ·
  rename_i x st t ok
  cases ok with
  | false=>simp at hr
  | true =>
   simp only [cond_true] at hr
   split at hr
   ·cases hr
   ·rename_i d hd hu
    simp only [Option.bind_eq_some_iff] at hr
    obtain⟨z,hz,hr⟩:=hr
    obtain⟨zv,hz1,hz2,_⟩:=jG hz
    have hx:=ha.ev x
    have fl:(Instr.typeAssert .nilIface st t true).run P w=.ok (.tuple #[zv,.bool false]) w:=by
     unfold Instr.typeAssert
     simp only [Sem.run_bind,run_underlying hu,Result.andThen_ok]
     cases d<;>first | exact(hd _ rfl).elim | simp [hz1]
    unfold tyA at hr
    split at hr
    ·rename_i u v he
     rw [he] at hx
     obtain⟨vv,hv,hr2⟩:=hx
     cases hut:u==t with
     | true =>
      have hut':u=t:=by simpa using hut
      simp only [hut,cond_true,Option.some.injEq] at hr
      subst hr
      refine Got.same hs (v:=.tuple #[vv,.bool true]) ?_ ⟨_,rfl,_,_,rfl,hr2,_,_,rfl,rfl,rfl⟩
      have:(Instr.typeAssert (.iface u vv) st t true).run P w=.ok (.tuple #[vv,.bool true]) w:=by
       unfold Instr.typeAssert
       simp only [Sem.run_bind,run_underlying hu,Result.andThen_ok]
       cases d<;>first | exact(hd _ rfl).elim | simp [hut']
      simp [execOp,hv,this]
     | false =>
      have hut':¬u=t:=by simpa using hut
      simp only [hut,cond_false,Option.some.injEq] at hr
      subst hr
      refine Got.same hs (v:=.tuple #[zv,.bool false]) ?_ ⟨_,rfl,_,_,rfl,dA hz2,_,_,rfl,rfl,rfl⟩
      have:(Instr.typeAssert (.iface u vv) st t true).run P w=.ok (.tuple #[zv,.bool false]) w:=by
       unfold Instr.typeAssert
       simp only [Sem.run_bind,run_underlying hu,Result.andThen_ok]
       cases d<;>first | exact(hd _ rfl).elim | simp [hut',hz1]
      simp [execOp,hv,this]
    ·rename_i he
     rw [he] at hx
     have hv:a.eval x=.nilIface:=hx
     cases hr
     exact Got.same hs (v:=.tuple #[zv,.bool false]) (by simp [execOp,hv,fl]) ⟨_,rfl,_,_,rfl,dA hz2,_,_,rfl,rfl,rfl⟩
    ·cases hr
   ·cases hr
 ·
  rename_i f first caps
  cases hr
  refine Got.same hs (v:=.func (.func f) (first.map a.eval) (caps.map a.eval)) (by simp [execOp,Instr.makeFunc]) ⟨_,_,rfl,?_,?_⟩
  ·simpa using ha.evL first.toList
  ·simpa using ha.evL caps.toList
 ·
  rename_i t x lo hi
  obtain⟨l1,l2⟩:=qW ha lo
  obtain⟨h1,h2⟩:=qW ha hi
  split at hr
  ·rename_i e hu
   simp only [Option.bind_eq_some_iff] at hr
   obtain⟨n,hn,hr⟩:=hr
   obtain⟨z,g1,g2⟩:=qX (P:=P) hu hn hr (ha.ev x) l1 l2 h1 h2
   exact Got.same hs (by simp [execOp,g1]) g2
  ·rename_i len e hu
   simp only [Option.bind_eq_some_iff] at hr
   obtain⟨n,hn,hr⟩:=hr
   obtain⟨z,g1,g2⟩:=pC (P:=P) hs hu hn hr (ha.ev x) l1 l2 h1 h2
   exact Got.same hs (by simp [execOp,g1]) g2
  ·rename_i hu
   obtain⟨z,g1,g2⟩:=pD (P:=P) hu hr (ha.ev x) l1 l2 h1 h2
   exact Got.same hs (by simp [execOp,g1]) g2
  ·cases hr
 ·
  rename_i t x f
  simp only [Option.bind_eq_some_iff] at hr
  obtain⟨fd,hf,n,hn,hr⟩:=hr
  cases h0:n==0 with
  | true=>simp [h0] at hr
  | false =>
   simp only [h0,cond_false] at hr
   obtain⟨z,g1,g2⟩:=tE (P:=P) hf hn (by simpa using h0) hr (ha.ev x)
   exact Got.same hs (by simp [execOp,g1]) g2
 ·
  rename_i t x f
  simp only [Option.bind_eq_some_iff] at hr
  obtain⟨fd,hf,g,hg,n,hn,hr⟩:=hr
  have hx:=ha.ev x
  split at hr
  ·rename_i cs he
   rw [he] at hx
   obtain⟨vs,hv,hl⟩:=hx
   obtain⟨z,g1,g2⟩:=qY (P:=P) hg hn hr hl
   refine Got.same hs (v:=z) ?_ g2
   unfold fieldT at hf
   split at hf
   ·rename_i fs hu
    simp [execOp,Instr.field,run_underlying hu,hf,hv,asAgg,g1]
   ·cases hf
  ·cases hr
 ·
  rename_i t x j
  split at hr
  ·rename_i e hu
   simp only [Option.bind_eq_some_iff] at hr
   obtain⟨n,hn,hr⟩:=hr
   obtain⟨z,g1,g2⟩:=xG (P:=P) hu hn hr (ha.ev x) (ha.ev j)
   exact Got.same hs (by simp [execOp,g1]) g2
  ·rename_i l e hu
   simp only [Option.bind_eq_some_iff] at hr
   obtain⟨n,hn,hr⟩:=hr
   obtain⟨z,g1,g2⟩:=tF (P:=P) hu hn hr (ha.ev x) (ha.ev j)
   exact Got.same hs (by simp [execOp,g1]) g2
  ·cases hr
 ·
  rename_i t x j
  have hx:=ha.ev x
  have hj:=ha.ev j
  split at hr
  ·rename_i b k n hu he hk
   rw [he] at hx
   rw [hk] at hj
   cases hb:inR n b.length with
   | false=>simp [hb] at hr
   | true =>
    simp only [hb,cond_true,Option.map_eq_some_iff] at hr
    obtain⟨c,hc,rfl⟩:=hr
    rw [iH] at hb
    refine Got.same hs (v:=.int .u8 c.toNat) ?_ rfl
    have h1:=BI hc
    simp [execOp,Instr.index,asIntOf,show a.eval x=_ from hx,show a.eval j=_ from hj,run_underlying hu,hb.1,h1]
  ·rename_i l e cs k n hu he hk
   rw [he] at hx
   rw [hk] at hj
   obtain⟨vs,hv,hl⟩:=hx
   cases hb:inR n l with
   | false=>simp [hb] at hr
   | true =>
    simp only [hb,cond_true,Option.bind_eq_some_iff] at hr
    obtain⟨q,hq,g,hg,hr⟩:=hr
    rw [iH] at hb
    obtain⟨z,g1,g2⟩:=qY (P:=P) hg hq hr hl
    have h2:(sizeOf e).run P w=.ok q w:=run_sizeOf hq w
    exact Got.same hs (v:=z) (by simp [execOp,Instr.index,asIntOf,hv,show a.eval j=_ from hj,run_underlying hu,hb.1,hb.2,h2,g1]) g2
  ·cases hr
 ·
  rename_i x k
  have hx:=ha.ev x
  split at hr
  ·rename_i vs he
   rw [he] at hx
   obtain⟨us,hv,hl⟩:=hx
   obtain⟨u,hu,h2⟩:=hl.get hr
   have:us[k]?=some u:=by simpa using hu
   exact Got.same hs (v:=u) (by simp [execOp,Instr.extract,hv,this]) h2
  ·cases hr
 ·
  rename_i c
  simp only [hno c rfl,cond_false] at hr
  obtain⟨callee,args,argTypes⟩:=c
  unfold pureCall at hr
  simp only at hr
  split at hr
  ·split at hr
   ·rename_i x t hx' ht'
    obtain rfl:args=#[x]:=by cases args;simpa using hx'
    obtain rfl:argTypes=#[t]:=by cases argTypes;simpa using ht'
    have hx:=ha.ev x
    split at hr
    ·rename_i e hu
     split at hr
     ·cases hr
     ·rename_i hn
      simp only [Option.map_eq_some_iff] at hr
      obtain⟨n,hn',rfl⟩:=hr
      have:=zB (P:=P) (ty:=type) hu (fun b hb=>hn b hb) hn' hx
      exact Got.same hs (v:=.int .i64 n) (by simp [execOp,resolve,invoke,builtin,this]) rfl
    ·rename_i hu
     split at hr
     ·rename_i b he
      cases hr
      rw [he] at hx
      exact Got.same hs (v:=.int .i64 b.length) (by simp [execOp,resolve,invoke,builtin,show a.eval x=_ from hx,Builtin.len_,run_underlying hu,goInt,dI]) rfl
     ·cases hr
    ·rename_i n e hu
     cases hr
     exact Got.same hs (v:=.int .i64 n) (by simp [execOp,resolve,invoke,builtin,Builtin.len_,run_underlying hu,goInt]) rfl
    ·cases hr
   ·cases hr
  ·split at hr
   ·rename_i x r he
    obtain⟨z,g1,g2⟩:=kC (P:=P) zy _ _ _ _ _ hr (ha.ev x) (ha.evL r)
    refine Got.same hs (v:=z) ?_ g2
    simp [execOp,resolve,invoke,builtin,Builtin.max_,he,g1]
   ·cases hr
  ·split at hr
   ·rename_i x r he
    obtain⟨z,g1,g2⟩:=kC (P:=P) zz _ _ _ _ _ hr (ha.ev x) (ha.evL r)
    refine Got.same hs (v:=z) ?_ g2
    simp [execOp,resolve,invoke,builtin,Builtin.min_,he,g1]
   ·cases hr
  ·cases hr
 ·
  rename_i src dst x
  cases hm:md==1 with
  | false=>simp [hm] at hr
  | true =>
   simp only [hm,cond_true] at hr
   split at hr
   ·rename_i k n he
    have hx:=ha.ev x
    rw [he] at hx
    have hv:a.eval x=.int k n:=hx
    unfold convA at hr
    split at hr
    ·rename_i d k2 k3 n2 hu hd heq
     cases heq
     cases hr
     exact Got.same hs (v:=.int k2 (k2.wrap n)) (by simp [execOp,hv,convert,run_underlying hu,run_underlying hd,Conv.intToInt]) rfl
    ·rename_i heq;cases heq
    ·rename_i heq;cases heq
    ·cases hr
    ·split at hr
     ·simp [srcA] at hr
     ·cases hr
    ·cases hr
   ·cases hr
 ·cases hr
end Go.AM
