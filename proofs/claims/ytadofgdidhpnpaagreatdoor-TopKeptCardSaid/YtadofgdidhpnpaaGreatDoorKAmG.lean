/-
  THE ABSTRACT MACHINE: the equations by which 'simp' runs small operations at states whose slots are known. Conditions: none.
-/
import Derived.Test.YtadofgdidhpnpaaGreatDoorKAmE
set_option linter.all false
namespace Go.AM
@[simp] theorem St.Ir (t:List (Nat×AV)) (n:Nat) (m:Mem) (i:Nat):St.get ⟨t,n,m⟩ i=AM.get t i:=rfl
@[simp] theorem HH (v:AV) (r:List (Nat×AV)) (i:Nat):AM.get ((i,v)::r) i=v:=by simp [AM.get]
@[simp] theorem F9 (j:Nat) (v:AV) (r:List (Nat×AV)) (i:Nat) (h:(i==j)=false):AM.get ((j,v)::r) i=AM.get r i:=by simp only [AM.get,h,cond_false]
@[simp] theorem St.pO (t:List (Nat×AV)) (n:Nat) (m:Mem) (d:Nat) (v:AV):St.put ⟨t,n,m⟩ (some d) v=bif Nat.blt d n then some ⟨(d,v)::t,n,m⟩ else none:=rfl
@[simp] theorem St.Ga (s:St) (v:AV):St.put s none v=some s:=rfl
@[simp] theorem St.HI (t:List (Nat×AV)) (n:Nat) (m:Mem) (l:List Nat):St.keep ⟨t,n,m⟩ l=⟨l.map fun i=>(i,AM.get t i),n,m⟩:=rfl
@[simp] theorem St.mem_mk (t:List (Nat×AV)) (n:Nat) (m m':Mem):St.mem ⟨t,n,m⟩ m'=⟨t,n,m'⟩:=rfl
@[simp] theorem St.Gb (t:List (Nat×AV)) (n:Nat) (m:Mem) (k:Nat):St.nx ⟨t,n,m⟩ k=⟨t,n,⟨m.h,k⟩⟩:=rfl
@[simp] theorem St.Is (t:List (Nat×AV)) (n:Nat) (m:Mem) (d:Nat) (b:Bool):St.lit ⟨t,n,m⟩ d b=⟨(d,.bool b)::t,n,m⟩:=rfl
@[simp] theorem wq (a b:Nat):Nat.ble a b=decide (a≤b):=by
 cases h:Nat.ble a b
 ·rw [eq_comm,decide_eq_false_iff_not];intro k;rw [← Nat.ble_eq] at k;rw [h] at k;cases k
 ·rw [eq_comm,decide_eq_true_eq];rwa [Nat.ble_eq] at h
@[simp] theorem HJ (a b:Nat):Nat.blt a b=decide (a < b):=wq (a+1) b
@[simp] theorem Mem.It (m:Mem) (o:AObj):m.new o=⟨upd m.h m.nx (some o),m.nx+1⟩:=rfl
@[simp] theorem Mem.set_mk (m:Mem) (i:Nat) (o:Option AObj):m.set i o=⟨upd m.h i o,m.nx⟩:=rfl
@[simp] theorem Mem.Gc:Mem.empty.nx=0:=rfl
@[simp] theorem Mem.HK (i:Nat):Mem.empty.h i=none:=rfl
@[simp] theorem aK (h:Nat→Option AObj) (i:Nat) (o:Option AObj) (j:Nat):upd h i o j=bif j==i then o else h j:=rfl
@[simp] theorem vX (h:Nat→Option AObj) (i:Nat) (o o':Option AObj):upd (upd h i o) i o'=upd h i o':=by
 funext j;simp only [aK];cases (j==i)<;>rfl
theorem rq (h:Nat→Option AObj) {i j:Nat} (hij:i≠j) (o o':Option AObj):upd (upd h i o) j o'=upd (upd h j o') i o:=by
 funext k;simp only [aK]
 by_cases h1:k=i
 ·subst h1;have:(k==j)=false:=by simpa using hij
  simp [this]
 ·have:(k==i)=false:=by simpa using h1
  simp [this]
@[simp] theorem Gd (h:Nat→Option AObj) {i j:Nat} (hij:j < i) (o o':Option AObj):upd (upd h i o) j o'=upd (upd h j o') i o :=
 rq h (by omega) o o'
section
variable {P : Program} {A : Ann} {f : FuncId}
noncomputable def contZ (P:Program) (A:Ann) (f:FuncId) (K:List Item):Option St→Option Res
 | some s=>den P A f K s
 | none=>none
noncomputable def contV (P:Program) (A:Ann) (f:FuncId) (b:Option Nat) (fz:List Nat) (K:List Item) (d:Option Nat) (r:List Mop) (s:St):Option AV→Option Res
 | some v=>(s.put d v).bind fun s=>mrun P A f b fz K r s
 | none=>none
noncomputable def contW (P:Program) (A:Ann) (f:FuncId) (b:Option Nat) (fz:List Nat) (K:List Item) (d:Option Nat) (r:List Mop) (s:St):Option (AV×Mem)→Option Res
 | some x=>((s.mem x.2).put d x.1).bind fun s=>mrun P A f b fz K r s
 | none=>none
noncomputable def contX (P:Program) (A:Ann) (f:FuncId) (b:Option Nat) (fz:List Nat) (K:List Item) (d:Option Nat) (r:List Mop) (s:St):Option (AV×Mem)→Option Res
 | some x=>((s.mem ⟨x.2.h,s.m.nx⟩).put d x.1).bind fun s=>mrun P A f b fz K r s
 | none=>none
def frzW (z:Bool):Option (AV×Mem)→Option (AV×Mem)
 | some x=>bif z then frzV x.1 x.2 else some x
 | none=>none
@[simp] theorem EX (z:Bool):frzW z none=none:=rfl
@[simp] theorem Dp (x:Option (AV×Mem)):frzW false x=x:=by cases x<;>rfl
@[simp] theorem EY (x:AV×Mem):frzW true (some x)=frzV x.1 x.2:=rfl
@[simp] theorem Dq (K:List Item) (s:St):contZ P A f K (some s)=den P A f K s:=rfl
@[simp] theorem Dr (b:Option Nat) (fz:List Nat) (K:List Item) (d:Option Nat) (r:List Mop) (s:St):contV P A f b fz K d r s none=none:=rfl
@[simp] theorem Ds (b:Option Nat) (fz:List Nat) (K:List Item) (d:Option Nat) (r:List Mop) (s:St):contW P A f b fz K d r s none=none:=rfl
@[simp] theorem Dt (b:Option Nat) (fz:List Nat) (K:List Item) (d:Option Nat) (r:List Mop) (s:St):contX P A f b fz K d r s none=none:=rfl
@[simp] theorem EZ (b:Option Nat) (fz:List Nat) (K:List Item) (d:Nat) (r:List Mop) (t:List (Nat×AV)) (n:Nat) (m:Mem) (v:AV) (h:Nat.blt d n=true) :
  contV P A f b fz K (some d) r ⟨t,n,m⟩ (some v)=mrun P A f b fz K r ⟨(d,v)::t,n,m⟩:=by simp only [contV,St.pO,h,cond_true,Option.bind_some]
@[simp] theorem E0 (b:Option Nat) (fz:List Nat) (K:List Item) (r:List Mop) (s:St) (v:AV):contV P A f b fz K none r s (some v)=mrun P A f b fz K r s:=rfl
@[simp] theorem E1 (b:Option Nat) (fz:List Nat) (K:List Item) (d:Nat) (r:List Mop) (t:List (Nat×AV)) (n:Nat) (m m':Mem) (v:AV) (h:Nat.blt d n=true) :
  contW P A f b fz K (some d) r ⟨t,n,m⟩ (some (v,m'))=mrun P A f b fz K r ⟨(d,v)::t,n,m'⟩:=by simp only [contW,St.mem_mk,St.pO,h,cond_true,Option.bind_some]
@[simp] theorem E2 (b:Option Nat) (fz:List Nat) (K:List Item) (r:List Mop) (t:List (Nat×AV)) (n:Nat) (m m':Mem) (v:AV) :
  contW P A f b fz K none r ⟨t,n,m⟩ (some (v,m'))=mrun P A f b fz K r ⟨t,n,m'⟩:=rfl
@[simp] theorem E6 (b:Option Nat) (fz:List Nat) (K:List Item) (d:Nat) (r:List Mop) (t:List (Nat×AV)) (n:Nat) (m m':Mem) (v:AV) (h:Nat.blt d n=true) :
  contX P A f b fz K (some d) r ⟨t,n,m⟩ (some (v,m'))=mrun P A f b fz K r ⟨(d,v)::t,n,⟨m'.h,m.nx⟩⟩:=by simp only [contX,St.mem_mk,St.pO,h,cond_true,Option.bind_some]
@[simp] theorem E7 (b:Option Nat) (fz:List Nat) (K:List Item) (r:List Mop) (t:List (Nat×AV)) (n:Nat) (m m':Mem) (v:AV) :
  contX P A f b fz K none r ⟨t,n,m⟩ (some (v,m'))=mrun P A f b fz K r ⟨t,n,⟨m'.h,m.nx⟩⟩:=rfl
@[simp] theorem zU (s:St):frzL [] s=some s:=rfl
@[simp] theorem oO (i:Nat) (r:List Nat) (s:St):frzL (i::r) s=(frz1 s i).bind (frzL r):=rfl
@[simp] theorem Gf (b:Option Nat) (fz:List Nat) (K:List Item) (s:St):mrun P A f b fz K [] s=contZ P A f K (frzL fz s):=by
 simp only [mrun];cases frzL fz s<;>rfl
@[simp] theorem Iu (b:Option Nat) (fz:List Nat) (K:List Item) (d:Option Nat) (e:St→Option AV) (r:List Mop) (s:St) :
  mrun P A f b fz K (⟨d,none,.v e⟩::r) s=contV P A f b fz K d r s (e s):=by
 simp only [mrun,mOne,mb];cases e s<;>rfl
@[simp] theorem HL (fz:List Nat) (K:List Item) (d:Option Nat) (z:Bool) (o:Option Nat) (e:St→Option (AV×Mem)) (r:List Mop) (s:St) :
  mrun P A f none fz K (⟨d,none,.w z o e⟩::r) s=contW P A f none fz K d r s (frzW z (e s)):=by
 simp only [mrun,mOne,mb]
 cases e s with
 | none=>rfl
 | some x=>cases h:(bif z then frzV x.1 x.2 else some x)<;>simp only [Option.bind_some,frzW,h]<;>rfl
@[simp] theorem HM (b i:Nat) (fz:List Nat) (K:List Item) (d:Option Nat) (z:Bool) (e:St→Option (AV×Mem)) (r:List Mop) (t:List (Nat×AV)) (n:Nat) (m:Mem) :
  mrun P A f (some b) fz K (⟨d,none,.w z (some i) e⟩::r) ⟨t,n,m⟩=contX P A f (some b) fz K d r ⟨t,n,m⟩ (frzW z (e ⟨t,n,⟨m.h,b+i⟩⟩)):=by
 simp only [mrun,mOne,mb,St.Gb,St.mem_mk]
 cases e ⟨t,n,⟨m.h,b+i⟩⟩ with
 | none=>rfl
 | some x =>
  simp only [Option.bind_some,frzW]
  cases (bif z then frzV x.1 x.2 else some x) with
  | none=>rfl
  | some x =>
   simp only [Option.bind_some,contX]
   cases d with
   | none=>rfl
   | some d=>simp only [St.pO,St.mem_mk];cases Nat.blt d n<;>rfl
@[simp] theorem Iv (b:Option Nat) (fz:List Nat) (K:List Item) (d:Option Nat) (md:Nat) (g:St→AV) (a:St→List AV) (r:List Mop) (s:St) :
  mrun P A f b fz K (⟨d,none,.c md g a⟩::r) s=contW P A f b fz K d r s (callA (fun g=>(A g).pure) (denC P A) md s.m (g s) (a s)):=by
 simp only [mrun,mOne,mb];cases (callA (fun g=>(A g).pure) (denC P A) md s.m (g s) (a s))<;>rfl
@[simp] theorem Iw (b:Option Nat) (fz:List Nat) (K:List Item) (d:Option Nat) (x:St→AV) (r:List Mop) (s:St) :
  mrun P A f b fz K (⟨d,none,.r x⟩::r) s=contW P A f b fz K d r s (rangeA s.m (x s)):=by
 simp only [mrun,mOne];cases rangeA s.m (x s)<;>rfl
@[simp] theorem Ix (b:Option Nat) (fz:List Nat) (K:List Item) (d:Option Nat) (x:St→AV) (r:List Mop) (s:St) :
  mrun P A f b fz K (⟨d,none,.n x⟩::r) s=nextM s d (x s) fun s=>mrun P A f b fz K r s:=by
 simp only [mrun,mOne]
theorem kN {R:Type} {s:St} {d:Option Nat} {id:Nat} {c us:List AV} {k:St→Option R} (h:s.m.h id=some (.iter c [] us)):nextM s d (.iter id) k=(s.put d (.tup [.bool false])).bind k:=by
 simp only [nextM,h]
noncomputable def mgV (P:Program) (A:Ann) (f:FuncId) (b:Option Nat) (fz:List Nat) (K:List Item) (c:Nat) (want:Bool) (d:Option Nat) (o:MB) (r:List Mop) (s:St) (v:AV):Option Res :=
 match v with
 | .bool x=>bif Nat.blt c s.nt then(bif x==want then mrun P A f b fz K (⟨d,none,o⟩::r) (s.lit c x) else((s.lit c x).put d (.tup [])).bind fun s=>mrun P A f b fz K r s) else none
 | .tup []=>(s.put d (.tup [])).bind fun s=>mrun P A f b fz K r s
 | _=>none
@[simp] theorem Iy (b:Option Nat) (fz:List Nat) (K:List Item) (d:Option Nat) (c:Nat) (want:Bool) (o:MB) (r:List Mop) (s:St) :
  mrun P A f b fz K (⟨d,some (c,want),o⟩::r) s=mgV P A f b fz K c want d o r s (s.get c):=by
 simp only [mrun,mgV,mg]
 generalize s.get c=v
 cases v<;>try rfl
 ·rename_i x
  cases x<;>cases want<;>rfl
 ·rename_i l
  cases l<;>rfl
section
variable (b : Option Nat) (fz : List Nat) (K : List Item) (c : Nat) (d : Option Nat) (o : MB) (r : List Mop) (t : List (Nat × AV)) (n : Nat) (m : Mem)
@[simp] theorem Iz (h:Nat.blt c n=true):mgV P A f b fz K c true d o r ⟨t,n,m⟩ (.bool true)=mrun P A f b fz K (⟨d,none,o⟩::r) ⟨(c,.bool true)::t,n,m⟩:=by simp only [mgV,h];rfl
@[simp] theorem IA (h:Nat.blt c n=true):mgV P A f b fz K c false d o r ⟨t,n,m⟩ (.bool false)=mrun P A f b fz K (⟨d,none,o⟩::r) ⟨(c,.bool false)::t,n,m⟩:=by simp only [mgV,h];rfl
@[simp] theorem IB (h:Nat.blt c n=true):mgV P A f b fz K c true d o r ⟨t,n,m⟩ (.bool false)=contV P A f b fz K d r ⟨(c,.bool false)::t,n,m⟩ (some (.tup [])):=by simp only [mgV,h];rfl
@[simp] theorem IC (h:Nat.blt c n=true):mgV P A f b fz K c false d o r ⟨t,n,m⟩ (.bool true)=contV P A f b fz K d r ⟨(c,.bool true)::t,n,m⟩ (some (.tup [])):=by simp only [mgV,h];rfl
@[simp] theorem HN (want:Bool) (s:St):mgV P A f b fz K c want d o r s (.tup [])=contV P A f b fz K d r s (some (.tup [])):=rfl
end
@[simp] theorem Gg (c:Nat) (a b:Code) (K:List Item) (t:List (Nat×AV)) (n:Nat) (m:Mem) (h:Nat.blt c n=true) :
  ifV P A f c a b K ⟨t,n,m⟩ (.bool true)=den P A f (.code a::K) ⟨(c,.bool true)::t,n,m⟩:=by simp only [ifV,h];rfl
@[simp] theorem E8 (c:Nat) (a b:Code) (K:List Item) (t:List (Nat×AV)) (n:Nat) (m:Mem) (h:Nat.blt c n=true) :
  ifV P A f c a b K ⟨t,n,m⟩ (.bool false)=den P A f (.code b::K) ⟨(c,.bool false)::t,n,m⟩:=by simp only [ifV,h];rfl
@[simp] theorem Du (K:List Item) (s:St):exitV P A f (some K) s=den P A f K s:=rfl
noncomputable def contH (P:Program) (A:Ann) (f:FuncId) (draw:Option Nat) (fz:List Nat) (l:List Mop) (K:List Item):Option St→Option Res
 | some s=>match draw with
  | none=>mrun P A f none fz K l s
  | some n=>mrun P A f (some s.m.nx) fz K l (s.nx (s.m.nx+n))
 | none=>none
@[simp] theorem E9 (p:List Nat) (dr:Option Nat) (fz:List Nat) (l:List Mop) (K:List Item) (s:St):ah P A f none p dr fz l K s=contH P A f dr fz l K (frzL p s):=by
 simp only [ah];cases frzL p s<;>rfl
@[simp] theorem Fa (k:List Nat) (p:List Nat) (dr:Option Nat) (fz:List Nat) (l:List Mop) (K:List Item) (s:St):ah P A f (some k) p dr fz l K s=contH P A f dr fz l K (frzL p (s.keep k)):=by
 simp only [ah];cases frzL p (s.keep k)<;>rfl
@[simp] theorem Dv (fz:List Nat) (l:List Mop) (K:List Item) (s:St):contH P A f none fz l K (some s)=mrun P A f none fz K l s:=rfl
@[simp] theorem Dw (n:Nat) (fz:List Nat) (l:List Mop) (K:List Item) (t:List (Nat×AV)) (nt:Nat) (m:Mem):contH P A f (some n) fz l K (some ⟨t,nt,m⟩)=mrun P A f (some m.nx) fz K l ⟨t,nt,⟨m.h,m.nx+n⟩⟩:=rfl
def callR (m:Mem):Option Res→Option Res
 | some r=>some (r.1,m)
 | none=>none
@[simp] theorem Dx (m m':Mem) (v:AV):callR m (some (v,m'))=some (v,m):=rfl
theorem tP (md:Nat) (m:Mem) (g:FuncId) (a c as:List AV) (hp:(A g).pure=true) (hm:(md==2)=false) (hc:closedL (a++as++c)=true) :
  callA (fun g=>(A g).pure) (denC P A) md m (.fn g a c) as=callR m (denC P A g (a++as++c) Mem.empty):=by
 simp only [callA,hp,hm,hc,cond_true,cond_false];cases denC P A g (a++as++c) Mem.empty<;>rfl
theorem xR (m:Mem) (g:FuncId) (a c as:List AV) (hp:(A g).pure=true) :
  callA (fun g=>(A g).pure) (denC P A) 2 m (.fn g a c) as=(frzArgs (a++as++c) m).bind fun p=>bif closedL p.1 then callR p.2 (denC P A g p.1 Mem.empty) else none:=by
 simp only [callA,hp,beq_self_eq_true,cond_true]
 cases frzArgs (a++as++c) m with
 | none=>rfl
 | some p=>simp only [Option.bind_some];cases closedL p.1<;>simp only [cond_true,cond_false]<;>cases denC P A g p.1 Mem.empty<;>rfl
theorem tQ (md:Nat) (m:Mem) (g:FuncId) (a c as:List AV) (hp:(A g).pure=true) (hm:(md==2)=false) (hc:closedL (a++as++c)=false) :
  callA (fun g=>(A g).pure) (denC P A) md m (.fn g a c) as=(mapO (deep m.h deepNo) (a++as++c)).bind fun as=>(denC P A g as Mem.empty).bind fun r=>bif r.1.flat then some (r.1,m) else none:=by
 simp only [callA,hp,hm,hc,cond_true,cond_false]
theorem pP (md:Nat) (m:Mem) (g:FuncId) (a c as:List AV) (hp:(A g).pure=false) (hm:(md==7)=false) :
  callA (fun g=>(A g).pure) (denC P A) md m (.fn g a c) as=denC P A g (a++as++c) m:=by
 simp only [callA,hp,hm,cond_false]
end
attribute [simp] tP xR tQ pP
@[simp] theorem zV (id i:Nat) (K:List Item):exitTo id (.inBlock i::K)=bif i==id then some K else exitTo id K:=by
 rw [exitTo];cases (i==id)<;>rfl
@[simp] theorem Bv (id:Nat) (c:Code) (K:List Item):exitTo id (.inLoop c::K)=exitTo id K:=rfl
@[simp] theorem CO (id:Nat) (c:Code) (K:List Item):exitTo id (.code c::K)=exitTo id K:=rfl
attribute [simp] finM resM
@[simp] theorem Fb (v:AV):tupOf [v]=v:=rfl
@[simp] theorem Fc:tupOf []=.tup []:=rfl
@[simp] theorem Fe (v u:AV) (r:List AV):tupOf (v::u::r)=.tup (v::u::r):=rfl
attribute [simp] deepNo
section
variable (h : Nat → Option AObj) (d : Nat)
@[simp] theorem Ff (b:Bool):deep h (d+1) (.bool b)=some (.bool b):=rfl
@[simp] theorem Gh (k:IntKind) (n:Int):deep h (d+1) (.int k n)=some (.int k n):=rfl
@[simp] theorem Gi (b:List UInt8):deep h (d+1) (.str b)=some (.str b):=rfl
@[simp] theorem Fg:deep h (d+1) .nils=some .nils:=rfl
@[simp] theorem Fh:deep h (d+1) .nilp=some .nilp:=rfl
@[simp] theorem Fi:deep h (d+1) .nilf=some .nilf:=rfl
@[simp] theorem Fj:deep h (d+1) .nilm=some .nilm:=rfl
@[simp] theorem Fk:deep h (d+1) .nili=some .nili:=rfl
@[simp] theorem Gj (x:Bool) (n:Nat) (cs:List AV):deep h (d+1) (.fsl x n cs)=some (.fsl x n cs):=rfl
@[simp] theorem Fl (cs:List AV):deep h (d+1) (.fptr cs)=some (.fptr cs):=rfl
@[simp] theorem Fm (a b:List AV):deep h (d+1) (.fmap a b)=some (.fmap a b):=rfl
@[simp] theorem Fo (cs:List AV):deep h (d+1) (.sptr cs)=(mapO (deep h d) cs).bind fun ys=>some (.fptr ys):=rfl
@[simp] theorem Gk (cs:List AV):deep h (d+1) (.agg cs)=(mapO (deep h d) cs).bind fun ys=>some (.agg ys):=rfl
@[simp] theorem Gl (cs:List AV):deep h (d+1) (.tup cs)=(mapO (deep h d) cs).bind fun ys=>some (.tup ys):=rfl
def deepSl (h:Nat→Option AObj) (d es off n top:Nat) (o:Option AObj):Option AV:=match o with
 | some (.cells xs)=>bif xs.length==top&&Nat.ble (off+n*es) top then(mapO (deep h d) ((xs.drop off).take (n*es))).bind fun ys=>some (.fsl false n ys) else none
 | _=>none
def deepPt (h:Nat→Option AObj) (d off top:Nat) (o:Option AObj):Option AV:=match o with
 | some (.cells xs)=>bif xs.length==top&&Nat.ble off top then(mapO (deep h d) xs).bind fun ys=>some (.fptr (ys.drop off)) else none
 | _=>none
def deepMp (h:Nat→Option AObj) (d:Nat) (o:Option AObj):Option AV:=match o with
 | some (.map _ ks vs)=>(mapO (deep h d) ks).bind fun ks'=>(mapO (deep h d) vs).bind fun vs'=>some (.fmap ks' vs')
 | _=>none
@[simp] theorem HO (id es off n top:Nat):deep h (d+1) (.sl id es off n top)=deepSl h d es off n top (h id):=rfl
@[simp] theorem Gm (id off top:Nat):deep h (d+1) (.ptr id off top)=deepPt h d off top (h id):=rfl
@[simp] theorem Gn (id:Nat):deep h (d+1) (.map id)=deepMp h d (h id):=rfl
@[simp] theorem Fp (es off n top:Nat) (xs:List AV):deepSl h d es off n top (some (.cells xs))=bif xs.length==top&&Nat.ble (off+n*es) top then(mapO (deep h d) ((xs.drop off).take (n*es))).bind fun ys=>some (.fsl false n ys) else none:=rfl
@[simp] theorem Fq (off top:Nat) (xs:List AV):deepPt h d off top (some (.cells xs))=bif xs.length==top&&Nat.ble off top then(mapO (deep h d) xs).bind fun ys=>some (.fptr (ys.drop off)) else none:=rfl
@[simp] theorem Fs (g:Nat) (ks vs:List AV):deepMp h d (some (.map g ks vs))=(mapO (deep h d) ks).bind fun ks'=>(mapO (deep h d) vs).bind fun vs'=>some (.fmap ks' vs'):=rfl
@[simp] theorem Gp (f:AV→Option AV):mapO f []=some []:=rfl
@[simp] theorem Fu (f:AV→Option AV) (a:AV) (r:List AV):mapO f (a::r)=(f a).bind fun b=>(mapO f r).bind fun bs=>some (b::bs):=rfl
theorem ia {f:AV→Option AV}:∀ {l:List AV},(∀a∈l,f a=some a)→mapO f l=some l
 | [],_=>rfl
 | a::r,h=>by simp [h a (by simp),ia (l:=r) (fun b hb=>h b (by simp [hb]))]
theorem ik {f:AV→Option AV}:∀(a b:List AV),mapO f (a++b)=(mapO f a).bind fun x=>(mapO f b).bind fun y=>some (x++y)
 | [],b=>by simp
 | c::a,b=>by simp [ik a b,Option.bind_assoc]
end
@[simp] theorem Fv (cs:List AV):AV.cells (.agg cs)=cs:=rfl
@[simp] theorem Fw (k:IntKind) (n:Int):AV.cells (.int k n)=[.int k n]:=rfl
@[simp] theorem Dy (b:Bool):AV.cells (.bool b)=[.bool b]:=rfl
@[simp] theorem Fx (b:List UInt8):AV.cells (.str b)=[.str b]:=rfl
@[simp] theorem Dz:AV.cells .nils=[.nils]:=rfl
@[simp] theorem DA:AV.cells .nilp=[.nilp]:=rfl
@[simp] theorem DB:AV.cells .nilf=[.nilf]:=rfl
@[simp] theorem DC:AV.cells .nilm=[.nilm]:=rfl
@[simp] theorem DD:AV.cells .nili=[.nili]:=rfl
@[simp] theorem Fy (i o t:Nat):AV.cells (.ptr i o t)=[.ptr i o t]:=rfl
@[simp] theorem DE (cs:List AV):AV.cells (.fptr cs)=[.fptr cs]:=rfl
@[simp] theorem DF (cs:List AV):AV.cells (.sptr cs)=[.sptr cs]:=rfl
@[simp] theorem Gq (i e o n t:Nat):AV.cells (.sl i e o n t)=[.sl i e o n t]:=rfl
@[simp] theorem Fz (x:Bool) (n:Nat) (cs:List AV):AV.cells (.fsl x n cs)=[.fsl x n cs]:=rfl
@[simp] theorem FA (i:Nat):AV.cells (.map i)=[.map i]:=rfl
@[simp] theorem DG (a b:List AV):AV.cells (.fmap a b)=[.fmap a b]:=rfl
@[simp] theorem Gr (f:FuncId) (a b:List AV):AV.cells (.fn f a b)=[.fn f a b]:=rfl
@[simp] theorem CP (f:TypeId) (a:AV):AV.cells (.iface f a)=[.iface f a]:=rfl
attribute [simp] oneL closedL
@[simp] theorem FB  : AV.one (.undef)=false:=rfl
@[simp] theorem BO  : AV.closed (.undef)=true:=rfl
@[simp] theorem Gs (b:Bool):AV.one (.bool b)=true:=rfl
@[simp] theorem CQ (b:Bool):AV.closed (.bool b)=true:=rfl
@[simp] theorem BK (k:IntKind) (n:Int):AV.one (.int k n)=true:=rfl
@[simp] theorem tJ (k:IntKind) (n:Int):AV.closed (.int k n)=true:=rfl
@[simp] theorem HP (b:List UInt8):AV.one (.str b)=true:=rfl
@[simp] theorem DH (b:List UInt8):AV.closed (.str b)=true:=rfl
@[simp] theorem Gt  : AV.one (.nilp)=true:=rfl
@[simp] theorem CR  : AV.closed (.nilp)=true:=rfl
@[simp] theorem HQ (i o t:Nat):AV.one (.ptr i o t)=true:=rfl
@[simp] theorem DJ (i o t:Nat):AV.closed (.ptr i o t)=false:=rfl
@[simp] theorem Gu (c:List AV):AV.one (.fptr c)=true:=rfl
@[simp] theorem CS (c:List AV):AV.closed (.fptr c)=true:=rfl
@[simp] theorem Gv (c:List AV):AV.one (.sptr c)=true:=rfl
@[simp] theorem CT (c:List AV):AV.closed (.sptr c)=false:=rfl
@[simp] theorem Gw  : AV.one (.nils)=true:=rfl
@[simp] theorem CU  : AV.closed (.nils)=true:=rfl
@[simp] theorem ID (i e o n t:Nat):AV.one (.sl i e o n t)=true:=rfl
@[simp] theorem FC (i e o n t:Nat):AV.closed (.sl i e o n t)=false:=rfl
@[simp] theorem HR (x:Bool) (n:Nat) (c:List AV):AV.one (.fsl x n c)=true:=rfl
@[simp] theorem DK (x:Bool) (n:Nat) (c:List AV):AV.closed (.fsl x n c)=true:=rfl
@[simp] theorem Gx  : AV.one (.nilm)=true:=rfl
@[simp] theorem CV  : AV.closed (.nilm)=true:=rfl
@[simp] theorem HS (i:Nat):AV.one (.map i)=true:=rfl
@[simp] theorem DL (i:Nat):AV.closed (.map i)=false:=rfl
@[simp] theorem Gy (a b:List AV):AV.one (.fmap a b)=true:=rfl
@[simp] theorem CW (a b:List AV):AV.closed (.fmap a b)=true:=rfl
@[simp] theorem IE (f:FuncId) (a b:List AV):AV.one (.fn f a b)=true:=rfl
@[simp] theorem Gz  : AV.one (.nilf)=true:=rfl
@[simp] theorem CX  : AV.closed (.nilf)=true:=rfl
@[simp] theorem FD (t:TypeId) (v:AV):AV.one (.iface t v)=true:=rfl
@[simp] theorem GA  : AV.one (.nili)=true:=rfl
@[simp] theorem CY  : AV.closed (.nili)=true:=rfl
@[simp] theorem HT (c:List AV):AV.one (.agg c)=false:=rfl
@[simp] theorem HU (c:List AV):AV.one (.tup c)=false:=rfl
@[simp] theorem GB (i:Nat):AV.one (.iter i)=true:=rfl
@[simp] theorem CZ (i:Nat):AV.closed (.iter i)=false:=rfl
@[simp] theorem DM (c:List AV):AV.closed (.agg c)=closedL c:=by simp [AV.closed]
@[simp] theorem FE (f:FuncId) (a b:List AV):AV.closed (.fn f a b)=(closedL a&&closedL b):=by simp [AV.closed]
@[simp] theorem DN (b:Bool) (x y:AV):pickA (.bool b) x y=some (bif b then x else y):=rfl
@[simp] theorem C0 (b c d:Bool):pickA (.bool b) (.bool c) (.bool d)=some (.bool (bif b then c else d)):=by cases b<;>rfl
@[simp] theorem GC (i o t:Nat):nilA (.ptr i o t)=some (.ptr i o t):=rfl
@[simp] theorem FF (cs:List AV):nilA (.fptr cs)=some (.fptr cs):=rfl
@[simp] theorem FH (cs:List AV):nilA (.sptr cs)=some (.sptr cs):=rfl
@[simp] theorem HV (f:FuncId) (a b:List AV):nilA (.fn f a b)=some (.fn f a b):=rfl
@[simp] theorem DP (g:Bool) (n off:Nat) (cs:List AV):fieldV g n off (.agg cs)=partA g n off cs:=rfl
attribute [simp] partA
@[simp] theorem GD (vs:List AV) (i:Nat):extA (.tup vs) i=vs[i]?:=rfl
@[simp] theorem DQ:lenSl .nils=some (.int .i64 0):=rfl
@[simp] theorem FI (x:Bool) (n:Nat) (cs:List AV):lenSl (.fsl x n cs)=some (.int .i64 n):=rfl
@[simp] theorem GF (i e o n t:Nat):lenSl (.sl i e o n t)=some (.int .i64 n):=rfl
@[simp] theorem DR (b:List UInt8):lenStr (.str b)=some (.int .i64 b.length):=rfl
@[simp] theorem C1 (k k':IntKind) (n:Int):convInt k (.int k' n)=some (.int k (k.wrap n)):=rfl
@[simp] theorem BP (v:AV):frozenPtr v=bif oneL v.cells then some (bif closedL v.cells then .fptr v.cells else .sptr v.cells) else none:=rfl
@[simp] theorem FJ (m:Mem) (cs:List AV):newPtr m cs=bif oneL cs then some (.ptr m.nx 0 cs.length,m.new (.cells cs)) else none:=rfl
@[simp] theorem mR (g:Bool) (n:Nat) (cs:List AV):loadF g n (.fptr cs)=bif g then(bif Nat.ble n cs.length then some (.agg (cs.take n)) else none) else cs.head?:=rfl
@[simp] theorem DT (g:Bool) (n:Nat) (cs:List AV):loadF g n (.sptr cs)=bif g then(bif Nat.ble n cs.length then some (.agg (cs.take n)) else none) else cs.head?:=rfl
@[simp] theorem DU (g:Bool) (n:Nat) (m:Mem) (cs:List AV):loadA g n m (.fptr cs)=bif g then(bif Nat.ble n cs.length then some (.agg (cs.take n)) else none) else cs.head?:=by
 cases g<;>simp only [loadA,readN,read1,cond_true,cond_false]
 cases Nat.ble n cs.length<;>rfl
@[simp] theorem DV (g:Bool) (n:Nat) (m:Mem) (cs:List AV):loadA g n m (.sptr cs)=bif g then(bif Nat.ble n cs.length then some (.agg (cs.take n)) else none) else cs.head?:=by
 cases g<;>simp only [loadA,readN,read1,cond_true,cond_false]
 cases Nat.ble n cs.length<;>rfl
def loadO (g:Bool) (n off top:Nat) (o:Option AObj):Option AV:=match o with
 | some (.cells xs)=>bif xs.length==top then(bif g then(bif Nat.ble (off+n) top then some (.agg ((xs.drop off).take n)) else none) else xs[off]?) else none
 | _=>none
@[simp] theorem FK (g:Bool) (n:Nat) (m:Mem) (id off top:Nat):loadA g n m (.ptr id off top)=loadO g n off top (m.h id):=by
 cases g<;>simp only [loadA,readN,read1,loadO,cond_true,cond_false]<;>cases m.h id with
 | none=>rfl
 | some o=>cases o<;>simp only []<;>first
  | rfl
  | (rename_i xs;cases (xs.length==top)<;>first | rfl | (cases Nat.ble (off+n) top<;>rfl))
@[simp] theorem rF (g:Bool) (n off top:Nat) (xs:List AV):loadO g n off top (some (.cells xs))=bif xs.length==top then(bif g then(bif Nat.ble (off+n) top then some (.agg ((xs.drop off).take n)) else none) else xs[off]?) else none:=rfl
def stO (g:Bool) (n:Nat) (m:Mem) (id off top:Nat) (v:AV) (o:Option AObj):Option (AV×Mem):=match o with
 | some (.cells xs)=>bif xs.length==top then(bif g then(match v with
   | .agg cs=>bif cs.length==n&&(Nat.ble (off+n) top&&oneL cs) then some (.tup [],m.set id (some (.cells (splice xs off cs)))) else none
   | _=>none) else(bif n==1&&(Nat.blt off top&&v.one) then some (.tup [],m.set id (some (.cells (xs.set off v)))) else none)) else none
 | _=>none
@[simp] theorem HW (g:Bool) (n:Nat) (m:Mem) (id off top:Nat) (v:AV):stA g n m (.ptr id off top) v=stO g n m id off top v (m.h id):=by
 cases g
 ·simp only [stA,storeA,write1,stO,cond_false]
  cases hn:(n==1)
  ·cases m.h id with
   | none=>rfl
   | some o=>cases o<;>simp<;>(try cases (_==top)<;>rfl)
  ·cases m.h id with
   | none=>rfl
   | some o=>cases o<;>simp only [cond_true,Option.map_none,Bool.true_and]<;>(try rfl)<;>(cases (_==top)<;>simp<;>(try cases (_&&_:Bool)<;>rfl))
 ·simp only [stA,storeA,stO,cond_true]
  cases v<;>simp only [Option.map_none]<;>first
   | (cases m.h id with
      | none=>rfl
      | some o=>cases o<;>simp<;>(try cases (_==top)<;>rfl))
   | skip
  rename_i cs
  cases hc:(cs.length==n)
  ·cases m.h id with
   | none=>rfl
   | some o=>cases o<;>simp<;>(try cases (_==top)<;>rfl)
  ·have:cs.length=n:=by simpa using hc
   subst this
   simp only [cond_true,writeN]
   cases m.h id with
   | none=>rfl
   | some o=>cases o<;>simp only [Option.map_none]<;>(try rfl)<;>(cases (_==top)<;>simp<;>(try cases (_&&_:Bool)<;>rfl))
@[simp] theorem DW (n:Nat) (m:Mem) (id off top:Nat) (v:AV) (xs:List AV):stO false n m id off top v (some (.cells xs))=bif xs.length==top then(bif n==1&&(Nat.blt off top&&v.one) then some (.tup [],m.set id (some (.cells (xs.set off v)))) else none) else none:=rfl
@[simp] theorem DX (n:Nat) (m:Mem) (id off top:Nat) (cs:List AV) (xs:List AV):stO true n m id off top (.agg cs) (some (.cells xs))=bif xs.length==top then(bif cs.length==n&&(Nat.ble (off+n) top&&oneL cs) then some (.tup [],m.set id (some (.cells (splice xs off cs)))) else none) else none:=rfl
@[simp] theorem DY (off id o top:Nat):fieldA off (.ptr id o top)=some (.ptr id (o+off) top):=rfl
@[simp] theorem C2 (off:Nat) (cs:List AV):fieldA off (.fptr cs)=some (.fptr (cs.drop off)):=rfl
@[simp] theorem C3 (off:Nat) (cs:List AV):fieldA off (.sptr cs)=some (.sptr (cs.drop off)):=rfl
@[simp] theorem FL (size:Nat) (x:Bool) (n:Nat) (cs:List AV) (k:IntKind) (j:Int):idxSl size (.fsl x n cs) (.int k j)=bif inR j n then some (.fptr (cs.drop (j.toNat*size))) else none:=rfl
@[simp] theorem GG (size id es off n top:Nat) (k:IntKind) (j:Int):idxSl size (.sl id es off n top) (.int k j)=bif es==size&&inR j n then some (.ptr id (off+j.toNat*size) top) else none:=rfl
@[simp] theorem C4 (len size:Nat) (cs:List AV) (k:IntKind) (j:Int):idxArr len size (.fptr cs) (.int k j)=bif inR j len then some (.fptr (cs.drop (j.toNat*size))) else none:=rfl
@[simp] theorem C5 (len size:Nat) (cs:List AV) (k:IntKind) (j:Int):idxArr len size (.sptr cs) (.int k j)=bif inR j len then some (.sptr (cs.drop (j.toNat*size))) else none:=rfl
@[simp] theorem DZ (len size id off top:Nat) (k:IntKind) (j:Int):idxArr len size (.ptr id off top) (.int k j)=bif inR j len then some (.ptr id (off+j.toNat*size) top) else none:=rfl
@[simp] theorem D1 (l n:Nat) (g:Bool) (cs:List AV) (k:IntKind) (j:Int):idxAgg l n g (.agg cs) (.int k j)=bif inR j l then partA g n (j.toNat*n) cs else none:=rfl
@[simp] theorem D2 (b:List UInt8) (k:IntKind) (j:Int):idxStr (.str b) (.int k j)=bif inR j b.length then(b[j.toNat]?).map fun c=>.int .u8 c.toNat else none:=rfl
@[simp] theorem HX (i n:Nat):inR (i:Int) n=decide (i < n):=by simp [inR]
@[simp low] theorem HY (j:Int) (n:Nat):inR j n=(decide (0≤j)&&decide (j < n)):=rfl
@[simp] theorem HZ (k:IntKind) (v:Option AV):kk k k v=v:=by simp [kk]
section
variable (P : Program) (t : TypeId) (k k' : IntKind) (x y : Int)
@[simp] theorem GH:binA P .add t (.int k x) (.int k y)=some (.int k (k.wrap (x+y))):=by simp [binA,arithA]
@[simp] theorem GI:binA P .sub t (.int k x) (.int k y)=some (.int k (k.wrap (x - y))):=by simp [binA,arithA]
@[simp] theorem GJ:binA P .mul t (.int k x) (.int k y)=some (.int k (k.wrap (x*y))):=by simp [binA,arithA]
@[simp] theorem GK:binA P .rem t (.int k x) (.int k y)=bif decide (y=0) then none else some (.int k (x.tmod y)):=by simp [binA,arithA]
@[simp] theorem GL:binA P .eql t (.int k x) (.int k y)=some (.bool (decide (x=y))):=by simp [binA,arithA];rfl
@[simp] theorem GM:binA P .neq t (.int k x) (.int k y)=some (.bool (!decide (x=y))):=by simp [binA,arithA];rfl
@[simp] theorem GN:binA P .lss t (.int k x) (.int k y)=some (.bool (decide (x < y))):=by simp [binA,arithA]
@[simp] theorem GO:binA P .leq t (.int k x) (.int k y)=some (.bool (decide (x≤y))):=by simp [binA,arithA]
@[simp] theorem GP:binA P .gtr t (.int k x) (.int k y)=some (.bool (decide (y < x))):=by simp [binA,arithA]
@[simp] theorem GQ:binA P .geq t (.int k x) (.int k y)=some (.bool (decide (y≤x))):=by simp [binA,arithA]
@[simp] theorem wu:binA P .or t (.int k x) (.int k y)=some (.int k (k.wrap (BitVec.ofInt k.bits x ||| BitVec.ofInt k.bits y).toNat)):=by simp [binA,arithA,bitsA]
@[simp] theorem GR:binA P .shr t (.int k x) (.int k' y)=bif decide (y < 0) then none else some (.int k (x.fdiv (2 ^ min y.toNat k.bits))):=by simp [binA,shiftA]
@[simp] theorem rG:binA P .shl t (.int k x) (.int k' y)=bif decide (y < 0) then none else some (.int k (k.wrap (x*2 ^ min y.toNat k.bits))):=by simp [binA,shiftA]
end
theorem wv {α:Type} [BEq α] [LawfulBEq α] [DecidableEq α] (x y:α):(x==y)=decide (x=y):=by
 cases h:(x==y)
 ·rw [eq_comm,decide_eq_false_iff_not];intro k;subst k;simp at h
 ·rw [eq_comm,decide_eq_true_eq];exact eq_of_beq h
section
variable (P : Program) (t : TypeId) (x y : List UInt8)
@[simp] theorem BQ:binA P .add t (.str x) (.str y)=bif Nat.ble (x.length+y.length) 4611686018427387904 then some (.str (x++y)) else none:=rfl
@[simp] theorem BR:binA P .eql t (.str x) (.str y)=some (.bool (decide (x=y))):=by simp [binA,strA,wv]
@[simp] theorem BS:binA P .neq t (.str x) (.str y)=some (.bool (!decide (x=y))):=by simp [binA,strA,wv]
@[simp] theorem BT:binA P .lss t (.str x) (.str y)=some (.bool (Op.bytesLess x y)):=rfl
end
@[simp] theorem H5 (b:Bool):unA .not (.bool b)=some (.bool (!b)):=rfl
@[simp] theorem H6 (k:IntKind) (n:Int):unA .neg (.int k n)=some (.int k (k.wrap (0 - n))):=rfl
@[simp] theorem FM (f:AV→AV→Option AV) (a:AV):foldA f a []=some a:=rfl
@[simp] theorem D3 (f:AV→AV→Option AV) (a b:AV) (r:List AV):foldA f a (b::r)=(f a b).bind fun c=>foldA f c r:=rfl
@[simp] theorem FN (k:IntKind) (x y:Int):max2A (.int k x) (.int k y)=some (.int k (max x y)):=by
 simp [max2A];omega
@[simp] theorem FO (k:IntKind) (x y:Int):min2A (.int k x) (.int k y)=some (.int k (min x y)):=by
 simp [min2A];omega
@[simp] theorem FP (m:Mem) (n:Nat):srcA m n .nils=some (0,[]):=rfl
@[simp] theorem GS (m:Mem) (size:Nat) (x:Bool) (n:Nat) (cs:List AV):srcA m size (.fsl x n cs)=bif cs.length==n*size then some (n,cs) else none:=rfl
@[simp] theorem H7 (len sz:Nat) (cs:List AV):bslF len (some (sz,cs))=bif closedL cs then some (.fsl true len cs) else none:=rfl
@[simp] theorem H8 (m:Mem) (len es:Nat) (cs:List AV):bslM m len (some (es,cs))=some (.sl m.nx es 0 len cs.length,m.new (.cells cs)):=rfl
attribute [simp] bslA bldA
@[simp] theorem FQ (pl:Nat→Option (Nat×Nat)) (cs:List AV):fillA pl cs []=some cs:=rfl
@[simp] theorem D5 (pl:Nat→Option (Nat×Nat)) (cs:List AV) (i:Nat) (v:AV) (r:List (Nat×AV)) :
  fillA pl cs ((i,v)::r)=(pl i).bind fun x=>bif v.cells.length==x.2&&(Nat.ble (x.1+x.2) cs.length&&oneL v.cells) then fillA pl (splice cs x.1 v.cells) r else none:=rfl
@[simp] theorem Ia (n i:Nat):plcA n i=some (i*n,n):=rfl
attribute [simp] splice
@[simp] theorem IF (l:List (Nat×Nat)) (i:Nat):plc l i=l[i]?:=rfl
@[simp] theorem GU (n:Nat) (z:AV):repl n [z]=List.replicate n z:=rfl
@[simp] theorem GV (n:Nat) (z y:AV) (r:List AV):repl n (z::y::r)=(List.replicate n (z::y::r)).flatten:=rfl
def frzPt (m:Mem) (id off top:Nat) (o:Option AObj):Option (AV×Mem):=match o with
 | some (.cells xs)=>bif xs.length==top then some (bif closedL xs then .fptr (xs.drop off) else .sptr (xs.drop off),m.set id none) else none
 | _=>none
def frzSl (m:Mem) (id es off n top:Nat) (o:Option AObj):Option (AV×Mem):=match o with
 | some (.cells xs)=>bif xs.length==top&&(closedL xs&&Nat.ble (off+n*es) top) then some (.fsl false n ((xs.drop off).take (n*es)),m.set id none) else none
 | _=>none
section
variable (m : Mem)
@[simp] theorem GW (id off top:Nat):frzV (.ptr id off top) m=frzPt m id off top (m.h id):=rfl
@[simp] theorem Ib (id es off n top:Nat):frzV (.sl id es off n top) m=frzSl m id es off n top (m.h id):=rfl
@[simp] theorem GX (id off top:Nat) (xs:List AV):frzPt m id off top (some (.cells xs))=bif xs.length==top then some (bif closedL xs then .fptr (xs.drop off) else .sptr (xs.drop off),m.set id none) else none:=rfl
@[simp] theorem GY (id es off n top:Nat) (xs:List AV):frzSl m id es off n top (some (.cells xs))=bif xs.length==top&&(closedL xs&&Nat.ble (off+n*es) top) then some (.fsl false n ((xs.drop off).take (n*es)),m.set id none) else none:=rfl
@[simp] theorem GZ (k:IntKind) (n:Int):frzV (.int k n) m=some (.int k n,m):=rfl
@[simp] theorem FR (b:Bool):frzV (.bool b) m=some (.bool b,m):=rfl
@[simp] theorem G0 (b:List UInt8):frzV (.str b) m=some (.str b,m):=rfl
@[simp] theorem FT:frzV .nils m=some (.nils,m):=rfl
@[simp] theorem FU:frzV .nilp m=some (.nilp,m):=rfl
@[simp] theorem G1 (x:Bool) (n:Nat) (cs:List AV):frzV (.fsl x n cs) m=some (.fsl x n cs,m):=rfl
@[simp] theorem FV (cs:List AV):frzV (.fptr cs) m=some (.fptr cs,m):=rfl
@[simp] theorem FW (cs:List AV):frzV (.sptr cs) m=some (.sptr cs,m):=rfl
@[simp] theorem G2 (cs:List AV):frzV (.agg cs) m=some (.agg cs,m):=rfl
@[simp] theorem G3 (cs:List AV):frzV (.tup cs) m=some (.tup cs,m):=rfl
@[simp] theorem Ic (f:FuncId) (a c:List AV):frzV (.fn f a c) m=some (.fn f a c,m):=rfl
@[simp] theorem D7:frzV .undef m=some (.undef,m):=rfl
@[simp] theorem G4 (i:Nat):frzV (.map i) m=some (.map i,m):=rfl
@[simp] theorem FX (a b:List AV):frzV (.fmap a b) m=some (.fmap a b,m):=rfl
end
@[simp] theorem Ie (t:List (Nat×AV)) (n:Nat) (m:Mem) (i:Nat) (h:Nat.blt i 1000=true):frz1 ⟨t,n,m⟩ i=(frzV (AM.get t i) m).bind fun r=>St.put ⟨t,n,r.2⟩ (some i) r.1:=by
 simp only [frz1,h,cond_true];rfl
@[simp] theorem C6 (m:Mem):frzArgs [] m=some ([],m):=rfl
@[simp] theorem BU (a:AV) (r:List AV) (m:Mem):frzArgs (a::r) m=(frzV a m).bind fun q=>(frzArgs r q.2).bind fun p=>some (q.1::p.1,p.2):=rfl
def srcO (size es off n top:Nat) (o:Option AObj):Option (Nat×List AV):=match o with
 | some (.cells xs)=>bif xs.length==top&&(es==size&&Nat.ble (off+n*size) top) then some (n,(xs.drop off).take (n*size)) else none
 | _=>none
@[simp] theorem Ig (m:Mem) (size id es off n top:Nat):srcA m size (.sl id es off n top)=srcO size es off n top (m.h id):=rfl
@[simp] theorem Ih (size es off n top:Nat) (xs:List AV):srcO size es off n top (some (.cells xs))=bif xs.length==top&&(es==size&&Nat.ble (off+n*size) top) then some (n,(xs.drop off).take (n*size)) else none:=rfl
@[simp] theorem G5 (m:Mem) (size:Nat) (s:List UInt8):srcA m size (.str s)=bif size==1 then some (s.length,s.map fun b=>.int .u8 b.toNat) else none:=rfl
def appO (size bytes:Nat) (m:Mem) (id es off n0 top n:Nat) (news:List AV) (o:Option AObj):Option (AV×Mem):=match o with
 | some (.cells xs)=>bif xs.length==top&&(es==size&&off+n0*size==top) then
    (bif n==0 then some (.sl id es off n0 top,m) else
     bif room (n0+n) bytes then
     (bif off==0 then some (.sl id es 0 (n0+n) (xs++news).length,m.set id (some (.cells (xs++news))))
      else some (.sl m.nx es 0 (n0+n) (xs.drop off++news).length,(m.set id none).new (.cells (xs.drop off++news))))
     else none) else none
 | _=>none
def appT (size bytes:Nat) (m:Mem) (s:AV) (q:Option (Nat×List AV)):Option (AV×Mem):=match q with
 | some (n,news)=>(match s with
  | .nils=>bif n==0 then some (.nils,m) else bif room n bytes then some (.sl m.nx size 0 n news.length,m.new (.cells news)) else none
  | .fsl true n0 cells=>bif n==0 then some (.fsl true n0 cells,m) else
   bif room (n0+n) bytes&&cells.length==n0*size then some (.sl m.nx size 0 (n0+n) (cells++news).length,m.new (.cells (cells++news))) else none
  | .sl id es off n0 top=>appO size bytes m id es off n0 top n news (m.h id)
  | _=>none)
 | none=>none
@[simp] theorem D8 (size bytes:Nat) (m:Mem) (s x:AV) (h:(size==0)=false):appendA size bytes m s x=appT size bytes m s (srcA m size x):=by
 unfold appendA
 rw [h]
 simp only [cond_false]
 cases srcA m size x with
 | none=>rfl
 | some q=>rfl
section
variable (size bytes : Nat) (m : Mem) (n : Nat) (news : List AV)
@[simp] theorem FY:appT size bytes m .nils (some (n,news))=bif n==0 then some (.nils,m) else bif room n bytes then some (.sl m.nx size 0 n news.length,m.new (.cells news)) else none:=rfl
@[simp] theorem G6 (n0:Nat) (cells:List AV):appT size bytes m (.fsl true n0 cells) (some (n,news))=bif n==0 then some (.fsl true n0 cells,m) else
   bif room (n0+n) bytes&&cells.length==n0*size then some (.sl m.nx size 0 (n0+n) (cells++news).length,m.new (.cells (cells++news))) else none:=rfl
@[simp] theorem Ii (id es off n0 top:Nat):appT size bytes m (.sl id es off n0 top) (some (n,news))=appO size bytes m id es off n0 top n news (m.h id):=rfl
@[simp] theorem jO (id es off n0 top:Nat) (xs:List AV):appO size bytes m id es off n0 top n news (some (.cells xs))=bif xs.length==top&&(es==size&&off+n0*size==top) then
    (bif n==0 then some (.sl id es off n0 top,m) else
     bif room (n0+n) bytes then
     (bif off==0 then some (.sl id es 0 (n0+n) (xs++news).length,m.set id (some (.cells (xs++news))))
      else some (.sl m.nx es 0 (n0+n) (xs.drop off++news).length,(m.set id none).new (.cells (xs.drop off++news))))
     else none) else none:=rfl
end
@[simp] theorem G7 (n bytes:Nat):room n bytes=(decide (n≤4611686018427387904)&&decide (n*bytes≤70368744177664)):=by simp [room]
@[simp] theorem FZ (size bytes:Nat) (z:AV) (m:Mem) (l c:Int):makeA size bytes z m (.int .i64 l) (.int .i64 c) =
   bif decide (0≤l)&&(decide (l=c)&&(room l.toNat bytes&&(z.cells.length==size&&oneL z.cells))) then
    some (.sl m.nx size 0 l.toNat (repl l.toNat z.cells).length,m.new (.cells (repl l.toNat z.cells))) else none:=rfl
end Go.AM

/-
  DATA IN THE ABSTRACT MACHINE: lists of numbers as cells. Conditions: none.
-/
namespace Go.AM
set_option linter.all false
def ints (l:List Int):List AV:=l.map (.int .i64)
@[simp] theorem Hv:ints []=[]:=rfl
@[simp] theorem yF (a:Int) (l:List Int):ints (a::l)=.int .i64 a::ints l:=rfl
@[simp] theorem dP (l:List Int):(ints l).length=l.length:=by simp [ints]
@[simp] theorem F0 (l:List Int) (n:Nat):(ints l).drop n=ints (l.drop n):=by simp [ints,List.map_drop]
@[simp] theorem F1 (l:List Int) (n:Nat):(ints l).take n=ints (l.take n):=by simp [ints,List.map_take]
@[simp] theorem ints_set (l:List Int) (n:Nat) (a:Int):(ints l).set n (.int .i64 a)=ints (l.set n a):=by simp [ints,List.map_set]
@[simp] theorem yG (l:List Int):oneL (ints l)=true:=by induction l<;>simp [ints,oneL,AV.one] at *;assumption
@[simp] theorem Co (l:List Int):closedL (ints l)=true:=by induction l<;>simp [ints,closedL,AV.closed] at *;assumption
@[simp] theorem yH (l:List Int) (i:Nat):(ints l)[i]?=l[i]?.map (.int .i64):=by simp [ints]
def nth (l:List Int) (i:Nat):Int:=l.getD i 0
theorem dF (a:Int) (l:List Int):nth (a::l) 0=a:=rfl
theorem dp (a:Int) (l:List Int) (i:Nat):nth (a::l) (i+1)=nth l i:=rfl
theorem mZ {l:List Int} {i:Nat} (h:i < l.length):l[i]?=some (nth l i):=by
 rw [List.getElem?_eq_getElem h];simp [nth,List.getD,List.getElem?_eq_getElem h]
theorem gF {l:List Int} {i:Nat} (h:i < l.length):l[i]=nth l i:=by
 simp [nth,List.getD,List.getElem?_eq_getElem h]
theorem dO {l:List Int} {i:Nat} (h:l.length≤i):nth l i=0:=by
 simp [nth,List.getD,List.getElem?_eq_none h]
theorem dQ {l:List Int} {i:Nat} (h:i < l.length):l.drop i=nth l i::l.drop (i+1):=by
 rw [List.drop_eq_getElem_cons h,gF h]
theorem iA {l:List Int} {i:Nat} (h:i < l.length):(ints l)[i]?=some (.int .i64 (nth l i)):=by
 rw [yH,mZ h];rfl
@[simp] theorem Cp {l:List Int} {i:Nat} (h:i < (ints l).length):(ints l)[i]=.int .i64 (nth l i):=by
 have h':i < l.length:=by simpa using h
 have:=iA h'
 rw [List.getElem?_eq_getElem h] at this
 simpa using this
theorem bF {l:List Int} {i:Nat} (h:i < l.length):(ints (l.drop i)).head?=some (.int .i64 (nth l i)):=by
 rw [dQ h];rfl
theorem lS (a b:List AV):closedL (a++b)=(closedL a&&closedL b):=by
 induction a with
 | nil=>simp
 | cons x a ih=>simp [ih,Bool.and_assoc]
attribute [simp] lS
@[simp] theorem o9 (h:Nat→Option AObj) (d:Nat) (l:List Int):mapO (deep h (d+1)) (ints l)=some (ints l) :=
 ia fun a ha=>by
  simp only [ints,List.mem_map] at ha
  obtain⟨n,_,rfl⟩:=ha
  rfl
def IsInts (v:AV) (l:List Int):Prop:=(v=.nils∧l=[])∨∃ex,v=.fsl ex l.length (ints l)
theorem IsInts.fsl (ex:Bool) (l:List Int):IsInts (.fsl ex l.length (ints l)) l:=.inr ⟨ex,rfl⟩
theorem IsInts.nils:IsInts .nils []:=.inl ⟨rfl,rfl⟩
theorem IsInts.closed {v:AV} {l:List Int} (h:IsInts v l):v.closed=true:=by rcases h with ⟨rfl,_⟩ | ⟨_,rfl⟩<;>rfl
theorem IsInts.one {v:AV} {l:List Int} (h:IsInts v l):v.one=true:=by rcases h with ⟨rfl,_⟩ | ⟨_,rfl⟩<;>rfl
theorem IsInts.cells {v:AV} {l:List Int} (h:IsInts v l):v.cells=[v]:=by rcases h with ⟨rfl,_⟩ | ⟨_,rfl⟩<;>rfl
theorem IsInts.len {v:AV} {l:List Int} (h:IsInts v l):lenSl v=some (.int .i64 l.length):=by rcases h with ⟨rfl,rfl⟩ | ⟨_,rfl⟩<;>simp
theorem IsInts.deep {v:AV} {l:List Int} (h:IsInts v l) (hp:Nat→Option AObj) (d:Nat):deep hp (d+1) v=some v:=by rcases h with ⟨rfl,_⟩ | ⟨_,rfl⟩<;>rfl
theorem IsInts.idx {v:AV} {l:List Int} (h:IsInts v l) {i:Nat} (hi:i < l.length) (k:IntKind):idxSl 1 v (.int k (i:Int))=some (.fptr (ints (l.drop i))):=by
 rcases h with ⟨rfl,rfl⟩ | ⟨_,rfl⟩
 ·simp at hi
 ·simp [hi]
theorem IsInts.sO {v:AV} {l:List Int} (h:IsInts v l) {j:Int} (h0:0≤j) (hj:j < l.length) (k:IntKind):idxSl 1 v (.int k j)=some (.fptr (ints (l.drop j.toNat))):=by
 obtain⟨i,rfl⟩:∃i:Nat,j=i:=⟨j.toNat,by omega⟩
 exact h.idx (by omega) k
theorem IsInts.src {v:AV} {l:List Int} (h:IsInts v l) (m:Mem):srcA m 1 v=some (l.length,ints l):=by
 rcases h with ⟨rfl,rfl⟩ | ⟨_,rfl⟩<;>simp
theorem dh {l:List Int} {j:Int} (h0:0≤j) (h:j < l.length):(ints (l.drop j.toNat)).head?=some (.int .i64 (nth l j.toNat)):=bF (by omega)
theorem oS {h:Nat→Option AObj} {id n:Nat} {l:List Int} (ho:h id=some (.cells (ints l))) (hl:l.length=n) (d:Nat):deep h (d+2) (.sl id 1 0 n n)=some (.fsl false n (ints l)):=by
 subst hl
 simp [ho]
def flatC {α:Type} (f:α→List AV) (l:List α):List AV:=l.flatMap f
section
variable {α : Type} {f : α → List AV} {k : Nat}
@[simp] theorem F2:flatC f []=[]:=rfl
theorem cC (a:α) (l:List α):flatC f (a::l)=f a++flatC f l:=rfl
theorem fg (a b:List α):flatC f (a++b)=flatC f a++flatC f b:=by simp [flatC]
theorem fV (a:α):flatC f [a]=f a:=by simp [flatC]
theorem cK:∀ {l:List α},(∀a∈l,(f a).length=k)→(flatC f l).length=l.length*k
 | [],_=>by simp
 | a::l,h=>by
  rw [cC,List.length_append,h a (by simp),cK (l:=l) (fun b hb=>h b (by simp [hb])),List.length_cons,Nat.succ_mul];omega
theorem fD:∀ {l:List α} (i:Nat),(∀a∈l,(f a).length=k)→(flatC f l).drop (i*k)=flatC f (l.drop i)
 | l,0,_=>by simp
 | [],i+1,_=>by simp
 | a::l,i+1,h=>by
  rw [cC,Nat.succ_mul,Nat.add_comm,← List.drop_drop,List.drop_left' (h a (by simp)),fD i (fun b hb=>h b (by simp [hb]))];rfl
theorem nh:∀ {l:List α} (i:Nat),(∀a∈l,(f a).length=k)→(flatC f l).take (i*k)=flatC f (l.take i)
 | l,0,_=>by simp
 | [],i+1,_=>by simp
 | a::l,i+1,h=>by
  rw [cC,Nat.succ_mul,Nat.add_comm,List.take_add,List.take_left' (h a (by simp)),List.drop_left' (h a (by simp)),nh i (fun b hb=>h b (by simp [hb]))];rfl
theorem np {l:List α} {i:Nat} {a:α} (hi:l[i]?=some a):flatC f (l.drop i)=f a++flatC f (l.drop (i+1)):=by
 obtain⟨h1,rfl⟩:=List.getElem?_eq_some_iff.1 hi
 rw [List.drop_eq_getElem_cons h1,cC]
theorem fR (h:∀a:α,closedL (f a)=true):∀l:List α,closedL (flatC f l)=true
 | []=>rfl
 | a::l=>by rw [cC];simp [h a,fR h l]
theorem gD (hp:Nat→Option AObj) (d:Nat) (h:∀a:α,mapO (deep hp (d+1)) (f a)=some (f a)):∀l:List α,mapO (deep hp (d+1)) (flatC f l)=some (flatC f l)
 | []=>rfl
 | a::l=>by rw [cC,ik,h a,gD hp d h l];rfl
theorem yI {l:List α} {i:Nat} {a:α} (h:∀b∈l,(f b).length=k) (ha:(f a).length=k) (hi:i < l.length):splice (flatC f l) (i*k) (f a)=flatC f (l.set i a):=by
 unfold splice
 rw [nh i h,ha,show i*k+k=(i+1)*k by rw [Nat.succ_mul],fD (i+1) h]
 rw [List.set_eq_take_append_cons_drop,if_pos hi,fg,cC,List.append_assoc]
def IsSl (f:α→List AV) (v:AV) (l:List α):Prop:=(v=.nils∧l=[])∨∃ex,v=.fsl ex l.length (flatC f l)
theorem IsSl.fsl (ex:Bool) (l:List α):IsSl f (.fsl ex l.length (flatC f l)) l:=.inr ⟨ex,rfl⟩
theorem IsSl.nils:IsSl f .nils []:=.inl ⟨rfl,rfl⟩
theorem IsSl.closed {v:AV} {l:List α} (h:IsSl f v l):v.closed=true:=by rcases h with ⟨rfl,_⟩ | ⟨_,rfl⟩<;>rfl
theorem IsSl.one {v:AV} {l:List α} (h:IsSl f v l):v.one=true:=by rcases h with ⟨rfl,_⟩ | ⟨_,rfl⟩<;>rfl
theorem IsSl.cells {v:AV} {l:List α} (h:IsSl f v l):v.cells=[v]:=by rcases h with ⟨rfl,_⟩ | ⟨_,rfl⟩<;>rfl
theorem IsSl.len {v:AV} {l:List α} (h:IsSl f v l):lenSl v=some (.int .i64 l.length):=by rcases h with ⟨rfl,rfl⟩ | ⟨_,rfl⟩<;>simp
theorem IsSl.deep {v:AV} {l:List α} (h:IsSl f v l) (hp:Nat→Option AObj) (d:Nat):AM.deep hp (d+1) v=some v:=by rcases h with ⟨rfl,_⟩ | ⟨_,rfl⟩<;>rfl
theorem IsSl.idx {v:AV} {l:List α} (h:IsSl f v l) (hk:∀a∈l,(f a).length=k) {i:Nat} (hi:i < l.length) (kd:IntKind):idxSl k v (.int kd (i:Int))=some (.fptr (flatC f (l.drop i))):=by
 rcases h with ⟨rfl,rfl⟩ | ⟨_,rfl⟩
 ·simp at hi
 ·simp [hi,fD i hk]
theorem IsSl.src {v:AV} {l:List α} (h:IsSl f v l) (hk:∀a∈l,(f a).length=k) (m:Mem):srcA m k v=some (l.length,flatC f l):=by
 rcases h with ⟨rfl,rfl⟩ | ⟨_,rfl⟩
 ·simp
 ·simp [cK hk]
end
theorem iS {l:List Int} {r:List AV} {n:Nat} (h:l.length=n):loadF true n (.fptr (ints l++r))=some (.agg (ints l)):=by
 have:(ints l++r).take n=ints l:=List.take_left' (by simp [h])
 simp only [mR,cond_true,this,wq,List.length_append,dP,h]
 simp
def cth (l:List (List Int)) (i:Nat):List Int:=l.getD i []
theorem kY {l:List (List Int)} {i:Nat} (h:i < l.length):l[i]?=some (cth l i):=by
 rw [List.getElem?_eq_getElem h];simp [cth,List.getD,List.getElem?_eq_getElem h]
theorem cm {l:List (List Int)} {i:Nat} (h:i < l.length):cth l i∈l:=List.mem_of_getElem? (kY h)
def Four (l:List (List Int)):Prop:=∀c∈l,c.length=4
theorem Four.cells {l:List (List Int)} (h:Four l):∀c∈l,(ints c).length=4:=fun c hc=>by simp [h c hc]
theorem j9 {l:List (List Int)} (hl:Four l) {i:Nat} (hi:i < l.length):loadF true 4 (.fptr (flatC ints (l.drop i)))=some (.agg (ints (cth l i))):=by
 rw [np (kY hi)];exact iS (hl _ (cm hi))
@[simp] theorem bc {x:Int} (h1 : -9223372036854775808≤x) (h2:x < 9223372036854775808):IntKind.wrap .i64 x=x:=by
 simp [IntKind.wrap,IntKind.min,IntKind.max,IntKind.signed,IntKind.bits]
 omega
end Go.AM
