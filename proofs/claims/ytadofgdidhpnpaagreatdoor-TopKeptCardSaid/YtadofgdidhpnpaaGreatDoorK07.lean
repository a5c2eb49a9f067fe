/-
  WHAT THE REFERENCE's SMALL FUNCTIONS COMPUTE: the order of lists, the same list. Conditions: none.
-/
import Derived.Test.YtadofgdidhpnpaaGreatDoorK06
import Derived.Test.YtadofgdidhpnpaaGreatDoorKAmG
set_option linter.all false
namespace Go.Proofs.YtadofgdidhpnpaaGreatDoor
open Go.AM
open Go.Proofs.Tryz (prog)
set_option linter.all false
set_option maxRecDepth 10000
def lexLt:List Int→List Int→Bool
 | [],[]=>false
 | [],_::_=>true
 | _::_,[]=>false
 | a::x,b::y=>if a=b then lexLt x y else decide (a < b)
theorem nD {a b:List Int} {i:Nat} (h1:i < a.length) (h2:i < b.length):lexLt (a.drop i) (b.drop i)=if nth a i=nth b i then lexLt (a.drop (i+1)) (b.drop (i+1)) else decide (nth a i < nth b i):=by
 rw [dQ h1,dQ h2];simp [lexLt]
theorem sT {va vb:AV} {a b:List Int} (ha:IsInts va a) (hb:IsInts vb b) (hla:a.length < 4611686018427387904):∀(n i:Nat) (m:Mem),a.length - i≤n→i≤a.length→i≤b.length →
  eF.L0 va vb (.int .i64 i) m [.code eF.r6,.code .ret]=some (.bool (lexLt (a.drop i) (b.drop i)),Mem.empty):=by
 intro n
 induction n with
 | zero =>
  intro i m hn hi hi2
  have e:i=a.length:=by omega
  subst e
  rw [eF.aM]
  simp [ha.len,hb.len]
  rcases Nat.lt_or_ge a.length b.length with h | h
  ·simp [h,dQ h,lexLt]
  ·have e2:a.length=b.length:=by omega
   simp [e2,lexLt]
 | succ n ih =>
  intro i m hn hi hi2
  rw [eF.aM]
  simp [ha.len,hb.len]
  by_cases h1:i < a.length
  ·by_cases h2:i < b.length
   ·simp [ha.len,hb.len,h1,h2,ha.idx,hb.idx,bF]
    by_cases h3:nth a i=nth b i
    ·simp [h3]
     rw [bc (by omega) (by omega)]
     have:=ih (i+1) ⟨m.h,m.nx+9⟩ (by omega) (by omega) (by omega)
     simp at this
     rw [this,nD h1 h2]
     simp [h3]
    ·simp [h3,ha.idx,hb.idx,h1,h2,bF]
     rw [nD h1 h2]
     simp [h3]
   ·have e:i=b.length:=by omega
    subst e
    simp [ha.len,hb.len,h1]
    have h4:¬a.length < b.length:=by omega
    simp [h4,dQ h1,lexLt]
  ·have e:i=a.length:=by omega
   subst e
   simp [ha.len,hb.len]
   rcases Nat.lt_or_ge a.length b.length with h | h
   ·simp [h,dQ h,lexLt]
   ·have e2:a.length=b.length:=by omega
    simp [e2,lexLt]
theorem iD {va vb:AV} {a b:List Int} (ha:IsInts va a) (hb:IsInts vb b) (hla:a.length < 4611686018427387904) (m:Mem) :
  denC prog ann 38 [va,vb] m=some (.bool (lexLt a b),m):=by
 rw [eF.al _ _ _ (by simp [ha.closed,hb.closed])]
 have:=sT ha hb hla _ 0 Mem.empty (Nat.le_refl _) (by omega) (by omega)
 simp at this
 simp [this]
theorem nE:∀a b:List Int,(!lexLt a b&&!lexLt b a)=decide (a=b)
 | [],[]=>by simp [lexLt]
 | [],_::_=>by simp [lexLt]
 | _::_,[]=>by simp [lexLt]
 | a::x,b::y=>by
  have ih:=nE x y
  by_cases h:a=b
  ·subst h;simpa [lexLt] using ih
  ·have h':¬b=a:=fun e=>h e.symm
   simp only [lexLt,h,h',if_false]
   by_cases h1:a < b
   ·simp [h1,h]
   ·have:b < a:=by omega
    simp [this,h]
theorem oT {va vb:AV} {a b:List Int} (ha:IsInts va a) (hb:IsInts vb b) (hla:a.length < 4611686018427387904) (hlb:b.length < 4611686018427387904) (m:Mem) :
  denC prog ann 15 [va,vb] m=some (.bool (decide (a=b)),m):=by
 rw [sU.al _ _ _ (by simp [ha.closed,hb.closed])]
 simp [ha.closed,hb.closed,iD ha hb hla,iD hb ha hlb]
 have h:=nE a b
 cases h1:lexLt a b<;>cases h2:lexLt b a<;>simp [h1,h2] at h<;>(try subst h)<;>simp [ha.closed,hb.closed,iD hb ha hlb,h1,h2, *]
end Go.Proofs.YtadofgdidhpnpaaGreatDoor

/-
  WHAT THE PROGRAM's FUNCTIONS ON CUTS COMPUTE. Conditions: none.
-/
namespace Go.Proofs.YtadofgdidhpnpaaGreatDoor
open Go.AM
open Go.Proofs.Tryz (prog)
set_option linter.all false
set_option maxRecDepth 10000
theorem four {c:List Int} (h:c.length=4):∃a0 a1 a2 a3,c=[a0,a1,a2,a3]:=by
 match c,h with
 | [a0,a1,a2,a3],_=>exact⟨a0,a1,a2,a3,rfl⟩
def zmax (a b:List Int):List Int:=List.zipWith max a b
theorem ph {a b:List Int} (ha:a.length=4) (hb:b.length=4) (m:Mem):denC prog ann 62 [.agg (ints a),.agg (ints b)] m=some (.agg (ints (zmax a b)),m):=by
 obtain⟨a0,a1,a2,a3,rfl⟩:=four ha
 obtain⟨b0,b1,b2,b3,rfl⟩:=four hb
 rw [jA.al _ _ _ (by simp)]
 simp [jA.aM,zmax]
@[simp] theorem iB {a b:List Int} (ha:a.length=4) (hb:b.length=4):(zmax a b).length=4:=by simp [zmax,ha,hb]
theorem uz:flatT prog 62=some [3,3,3,3]:=by kernel_rfl
theorem Hu:prog.underlying 3=some (.int .i64):=by kernel_rfl
theorem HD:prog.underlying 25=some (.slice 3):=by kernel_rfl
theorem la:∀(n:Nat) (a b:List Int),a.length=n→b.length=n→eqCs prog (List.replicate n 3) (ints a) (ints b)=some (decide (a=b))
 | 0,a,b,ha,hb=>by
  have:a=[]:=by simpa using ha
  have:b=[]:=by simpa using hb
  subst a b;rfl
 | n+1,a,b,ha,hb=>by
  match a,b,ha,hb with
  | x::a,y::b,ha,hb =>
   have ih:=la n a b (by simpa using ha) (by simpa using hb)
   simp only [List.replicate,yF,eqCs,scV,Hu,eqSc]
   by_cases h:x=y
   ·subst h;simp [ih]
   ·have:(x==y)=false:=by simpa using h
    simp [this,h]
theorem wM {a b:List Int} (ha:a.length=4) (hb:b.length=4):binA prog .eql 62 (.agg (ints a)) (.agg (ints b))=some (.bool (decide (a=b))):=by
 have h:=la 4 a b ha hb
 simp only [binA,eqT,eqA,uz,Option.bind_some,cond_true,dP,ha,hb]
 simp only [List.replicate] at h
 simp [h]
theorem Dh {a b:List Int} (ha:a.length=4) (hb:b.length=4):binA prog .neq 62 (.agg (ints a)) (.agg (ints b))=some (.bool (!decide (a=b))):=by
 have h:=wM ha hb
 simp only [binA,eqT,cond_true] at h ⊢
 cases hq:eqA prog 62 (.agg (ints a)) (.agg (ints b)) with
 | none=>rw [hq] at h;cases h
 | some q=>rw [hq] at h;simp at h;simp [h]
theorem Hw (x:Bool) (n:Nat) (cs:List AV):binA prog .eql 25 (.fsl x n cs) .nils=some (.bool false):=by simp [binA,eqT,eqA,HD]
theorem uO {v:AV} {l:List (List Int)} {c:List Int} (h:IsSl ints v l) (hf:Four l) (hc:c.length=4) (hl:l.length < 1073741824):∀(n i:Nat) (m:Mem),l.length - i≤n→i≤l.length →
  cG.L0 v (.fptr (ints c)) (.int .i64 l.length) (.int .i64 i) m [.code cG.r7,.code .ret]=some (.int .i64 (match (l.drop i).findIdx? (fun d=>c==d) with | some j=>((i+j:Nat):Int) | none => -1),Mem.empty):=by
 intro n
 induction n with
 | zero =>
  intro i m h1 h2
  rw [cG.aM]
  have e:i=l.length:=by omega
  subst e
  simp
 | succ n ih =>
  intro i m h1 h2
  rw [cG.aM]
  by_cases h3:i < l.length
  ·have hld:=j9 hf h3
   have hcc:=iS (r:=[]) hc
   simp only [List.append_nil] at hcc
   simp [h3,h.idx hf.cells h3,hld,hcc,wM hc (hf _ (cm h3))]
   rw [List.drop_eq_getElem_cons h3,List.findIdx?_cons]
   have e:l[i]=cth l i:=by simp [cth,List.getD,List.getElem?_eq_getElem h3]
   rw [e]
   by_cases h4:c=cth l i
   ·simp [h4]
   ·have h5:(c==cth l i)=false:=by simpa using h4
    simp [h4,h5]
    have:=ih (i+1) ⟨m.h,m.nx+6⟩ (by omega) (by omega)
    simp at this
    rw [bc (by omega) (by omega),this]
    cases hq:List.findIdx? (fun d=>c==d) (List.drop (i+1) l) with
    | none=>simp
    | some j=>simp;omega
  ·have e:i=l.length:=by omega
   subst e
   simp
theorem uP {v:AV} {l:List (List Int)} {c:List Int} (h:IsSl ints v l) (hf:Four l) (hc:c.length=4) (hl:l.length < 1073741824) (m:Mem) :
  denC prog ann 81 [v,.agg (ints c)] m=some (.int .i64 (match l.findIdx? (fun d=>c==d) with | some j=>(j:Int) | none => -1),m):=by
 rw [cG.al _ _ _ (by simp [h.closed])]
 have:=uO h hf hc hl _ 0 Mem.empty (Nat.le_refl _) (by omega)
 simp at this
 simp [h.len,this]
theorem iZ {v:AV} {l:List (List Int)} {c:List Int} (h:IsSl ints v l) (hf:Four l) (hc:c.length=4) (hl:l.length < 1073741824) (m:Mem) :
  denC prog ann 63 [v,.agg (ints c)] m=some (.bool (decide (c∈l)),m):=by
 rw [fa.al _ _ _ (by simp [h.closed])]
 have hcc:=iS (r:=[]) hc
 simp only [List.append_nil] at hcc
 simp [hcc,h.closed,uP h hf hc hl]
 cases hq:List.findIdx? (fun d=>c==d) l with
 | none =>
  rw [List.findIdx?_eq_none_iff] at hq
  have:c ∉ l:=fun hm=>by simpa using hq c hm
  simp [this]
 | some j =>
  rw [List.findIdx?_eq_some_iff_getElem] at hq
  obtain⟨h1,h2,_⟩:=hq
  have:c∈l:=by rw [eq_of_beq h2];exact List.getElem_mem h1
  simp [this]
end Go.Proofs.YtadofgdidhpnpaaGreatDoor

/-
  WHAT THE PROGRAM's METHODS ON STORIES COMPUTE: list, forth, consistent. Conditions: none.
-/
namespace Go.Proofs.YtadofgdidhpnpaaGreatDoor
open Go.AM
open Go.Proofs.Tryz (prog)
set_option linter.all false
set_option maxRecDepth 10000
def vth (V:List AV) (i:Nat):AV:=V.getD i .undef
theorem Bg {V:List AV} {i:Nat} (h:i < V.length):V[i]?=some (vth V i):=by
 rw [List.getElem?_eq_getElem h];simp [vth,List.getD,List.getElem?_eq_getElem h]
theorem Bk {V:List AV} {i:Nat} (h:i < V.length):(V.drop i).head?=some (vth V i):=by rw [List.head?_drop,Bg h]
def kth (K:List (List (List Int))) (h:Nat):List (List Int):=K.getD h []
abbrev clk (K:List (List (List Int))) (h i:Nat):List Int:=cth (kth K h) i
structure IsStory (v:AV) (n:Nat) (D:List Int) (K:List (List (List Int))):Prop where
 V:∃V,v=.fptr (.int .i64 n::(ints D++V))∧V.length=4∧∀h,h < 4→IsSl ints (vth V h) (kth K h)
 D4:D.length=4
 n4:n≤4
 n1:1≤n
 four:∀h,Four (kth K h)
 few:∀h,(kth K h).length≤6
 rows:∀h,h < n→((kth K h).length:Int)=nth D h
 zero:∀h,n≤h→nth D h=0
 pos:∀h,0≤nth D h
theorem IsStory.D6 {v:AV} {n:Nat} {D:List Int} {K:List (List (List Int))} (s:IsStory v n D K) (h:Nat):nth D h≤6:=by
 rcases Nat.lt_or_ge h n with h1 | h1
 ·have:=s.rows h h1;have:=s.few h;omega
 ·have:=s.zero h h1;omega
structure IsCut (n:Nat) (D:List Int) (c:List Int):Prop where
 len:c.length=4
 lo:∀h,0≤nth c h
 hi:∀h,nth c h≤nth D h
def forthR (K:List (List (List Int))) (c:List Int):Nat→Nat→List Int→List Int
 | 0,_,out=>out
 | k+1,h,out=>forthR K c k (h+1) (if 0 < nth c h then zmax out (clk K h ((nth c h).toNat - 1)) else out)
theorem uM {V:List AV} {n:Nat} {D:List Int} {K:List (List (List Int))} (hV:V.length=4) (hS:∀h,h < 4→IsSl ints (vth V h) (kth K h)) {v:AV} (s:IsStory v n D K) {c:List Int} (hc:IsCut n D c):∀(k h:Nat) (out:List Int) (nx:Nat),h+k=n→out.length=4 →
  cB.L0 (.fptr (.int .i64 n::(ints D++V))) (.fptr (ints c)) (.ptr 0 0 4) (.ptr 1 0 4) (.int .i64 n) (.int .i64 h) ⟨upd (upd Mem.empty.h 0 (some (.cells (ints [0,0,0,0])))) 1 (some (.cells (ints out))),nx⟩ [.code cB.r8,.code .ret] =
   some (.agg (ints (forthR K c k h out)),Mem.empty):=by
 intro k
 induction k with
 | zero =>
  intro h out nx hk ho
  have e:h=n:=by omega
  subst e
  rw [cB.aM]
  have ht:out.take 4=out:=List.take_of_length_le (by omega)
  simp [forthR,ho,ht]
 | succ k ih =>
  intro h out nx hk ho
  rw [cB.aM]
  have h1:h < n:=by omega
  have hn:=s.n4
  have hD:=s.D4
  have hl:=hc.len
  have h4:h < c.length:=by omega
  have h4':h < 4:=by omega
  have hi:=hc.hi h
  have h6:=s.D6 h
  have hr:=s.rows h h1
  have ht:out.take 4=out:=List.take_of_length_le (by omega)
  have hw:IntKind.wrap .i64 ((h:Int)+1)=(h:Int)+1:=bc (by omega) (by omega)
  simp [h1,hl,bF h4,h4']
  by_cases h2:0 < nth c h
  ·have h7:IntKind.wrap .i64 (nth c h - 1)=(((nth c h).toNat - 1:Nat):Int):=by rw [bc (by omega) (by omega)];omega
   have h8:(nth c h).toNat - 1 < (kth K h).length:=by omega
   have h9:(clk K h ((nth c h).toNat - 1)).length=4:=s.four h _ (cm h8)
   have hz:=iB ho h9
   simp [h2,ho,hD,h4',Bk (show h < V.length by omega),bF h4,h7,(hS h h4').idx (s.four h).cells h8,j9 (s.four h) h8,ht]
   have hd:out.drop 4=[]:=List.drop_of_length_le (by omega)
   simp only [clk] at hz
   simp [ph ho (s.four h _ (cm h8)),hw,hz,ho,hd]
   have:=ih (h+1) (zmax out (cth (kth K h) ((nth c h).toNat - 1))) (nx+15) (by omega) hz
   simp at this
   simp [this,forthR,h2]
  ·simp [h2,hw]
   have:=ih (h+1) out nx (by omega) ho
   simp at this
   simp [this,forthR,h2]
def forthL (K:List (List (List Int))) (n:Nat) (c:List Int):List Int:=forthR K c n 0 c
theorem uN {v:AV} {n:Nat} {D:List Int} {K:List (List (List Int))} (s:IsStory v n D K) {c:List Int} (hc:IsCut n D c) (m:Mem) :
  denC prog ann 64 [v,.agg (ints c)] m=some (.agg (ints (forthL K n c)),m):=by
 obtain⟨V,rfl,hV,hS⟩:=s.V
 rw [cB.al _ _ _ (by simp)]
 have hl:=hc.len
 have ht:c.take 4=c:=List.take_of_length_le (by omega)
 have:=uM hV hS s hc n 0 c 2 (by omega) hl
 simp at this
 simp [hl,ht,this,forthL,show c.drop 4=[] from List.drop_of_length_le (by omega)]
theorem nC {v:AV} {n:Nat} {D:List Int} {K:List (List (List Int))} (s:IsStory v n D K) {c:List Int} (hc:IsCut n D c):∀(k h:Nat) (out:List Int),h+k≤n→out.length=4→(forthR K c k h out).length=4
 | 0,_,_,_,ho=>ho
 | k+1,h,out,hk,ho=>by
  refine nC s hc k (h+1) _ (by omega) ?_
  split
  ·rename_i h2
   have:=s.rows h (by omega);have:=hc.hi h
   exact iB ho (s.four h _ (cm (by omega)))
  ·exact ho
theorem gO {v:AV} {n:Nat} {D:List Int} {K:List (List (List Int))} (s:IsStory v n D K) {c:List Int} (hc:IsCut n D c) (m:Mem) :
  denC prog ann 37 [v,.agg (ints c)] m=some (.bool (decide (forthL K n c=c)),m):=by
 have hcl:v.closed=true:=by obtain⟨V,rfl,_⟩:=s.V;rfl
 rw [dT.al _ _ _ (by simp [hcl])]
 have hl:=hc.len
 have ht:c.take 4=c:=List.take_of_length_le (by omega)
 have h4:(forthL K n c).length=4:=nC s hc n 0 c (by omega) hl
 simp [hl,ht,hcl,uN s hc,wM h4 hl]
end Go.Proofs.YtadofgdidhpnpaaGreatDoor

/-
  WHAT THE PROGRAM's all COMPUTES: the consistent cuts in lexicographic order. Conditions: none.
-/
namespace Go.Proofs.YtadofgdidhpnpaaGreatDoor
open Go.AM
open Go.Proofs.Tryz (prog)
set_option linter.all false
set_option maxRecDepth 10000
theorem lW {l:List Int} {i j:Nat} {a:Int}:nth (l.set i a) j=if i=j∧i < l.length then a else nth l j:=by
 simp only [nth,List.getD,List.getElem?_set]
 by_cases h:i=j
 ·subst h
  by_cases h2:i < l.length
  ·simp [h2]
  ·simp [h2,List.getElem?_eq_none (Nat.le_of_not_lt h2)]
 ·simp [h]
theorem IsCut.set {n:Nat} {D c:List Int} (hc:IsCut n D c) {h i:Nat} (hi:(i:Int)≤nth D h):IsCut n D (c.set h i):=by
 refine⟨by simp [hc.len],fun j=>?_,fun j=>?_⟩<;>rw [lW]<;>split
 ·omega
 ·exact hc.lo j
 ·rename_i h1;rw [← h1.1];exact hi
 ·exact hc.hi j
structure Frame (b:Nat) (m m':Mem) (o o':Option Nat):Prop where
 nx:m.nx≤m'.nx
 keep:∀id,id < m.nx→id≠0→id≠b→some id≠o→m'.h id=m.h id
 o:o'=o∨(o=none∧∃i,o'=some i∧m.nx≤i)
theorem Frame.trans {x:Nat} {a b c:Mem} {o p q:Option Nat} (h:Frame x a b o p) (k:Frame x b c p q):Frame x a c o q:=by
 refine⟨Nat.le_trans h.nx k.nx,fun id h1 h2 hx h3=>?_,?_⟩
 ·rw [k.keep id (Nat.lt_of_lt_of_le h1 h.nx) h2 hx ?_,h.keep id h1 h2 hx h3]
  rcases h.o with e | ⟨_,i,e,hi⟩
  ·rw [e];exact h3
  ·rw [e];simp;omega
 ·rcases h.o with e | ⟨e,i,e2,hi⟩
  ·subst e
   rcases k.o with e | ⟨e,i,e2,hi⟩
   ·exact .inl e
   ·exact .inr ⟨e,i,e2,Nat.le_trans h.nx hi⟩
  ·rcases k.o with e3 | ⟨e3,_⟩
   ·exact .inr ⟨e,i,e3.trans e2,hi⟩
   ·rw [e2] at e3;cases e3
theorem Frame.od {b:Nat} {m m':Mem} {o o':Option Nat} (h:Frame m.nx m m' o o'):Frame b m m' o o' :=
 ⟨h.nx,fun id h1 h2 _ h3=>h.keep id h1 h2 (by omega) h3,h.o⟩
end Go.Proofs.YtadofgdidhpnpaaGreatDoor

/-
  WHAT THE REFERENCE COMPUTES OF A STORY: which cuts are consistent. Conditions: none.
-/
namespace Go.Proofs.YtadofgdidhpnpaaGreatDoor
open Go.AM
open Go.Proofs.Tryz (prog)
set_option linter.all false
set_option maxRecDepth 10000
structure Note where
 f:Int
 s:Int
 t:Int
 r:Int
deriving Inhabited
def noteC (x:Note):List AV:=[.int .i64 x.f,.int .i64 x.s,.int .i64 x.t,.int .i64 x.r]
theorem cr (l:List Note):∀x∈l,(noteC x).length=4:=fun _ _=>rfl
@[simp] theorem F3 (x:Note):oneL (noteC x)=true:=rfl
@[simp] theorem pX (x:Note):closedL (noteC x)=true:=rfl
def nt (l:List Note) (i:Nat):Note:=l.getD i default
theorem wR {l:List Note} {i:Nat} (h:i < l.length):l[i]?=some (nt l i):=by
 rw [List.getElem?_eq_getElem h];simp [nt,List.getD,List.getElem?_eq_getElem h]
theorem uF {l:List Note} {i:Nat} (h:i < l.length):nt l i∈l:=List.mem_of_getElem? (wR h)
theorem cL {l:List Note} {i:Nat} (h:i < l.length):loadF true 4 (.fptr (flatC noteC (l.drop i)))=some (.agg (noteC (nt l i))):=by
 rw [np (wR h)];simp [noteC]
theorem lY {l:List Note} {i:Nat} (h:i < l.length):l.drop i=nt l i::l.drop (i+1):=by
 obtain⟨h1,h2⟩:=List.getElem?_eq_some_iff.1 (wR h)
 rw [List.drop_eq_getElem_cons h1,h2]
structure IsTale (v:AV) (D:List Int) (N:List Note):Prop where
 ex:∃vD vN,v=.agg [vD,vN]∧IsInts vD D∧IsSl noteC vN N
theorem IsTale.closed {v:AV} {D:List Int} {N:List Note} (h:IsTale v D N):v.closed=true:=by
 obtain⟨vD,vN,rfl,h1,h2⟩:=h.ex;simp [h1.closed,h2.closed]
def noteOk (c:List Int) (x:Note):Bool:=!(decide (x.r≤nth c x.t.toNat)&&decide (nth c x.f.toNat < x.s))
def conR (N:List Note) (c:List Int):Bool:=N.all (noteOk c)
theorem c7 (v lo hi:Int) (m:Mem):denC prog ann 16 [.int .i64 v,.int .i64 lo,.int .i64 hi] m=some (.bool (decide (lo≤v)&&decide (v≤hi)),m):=by
 rw [Bj.al _ _ _ _ (by simp)]
 simp
 by_cases h:lo≤v<;>simp [h]
def readyOk (done:List Int) (h:Nat) (x:Note):Bool:=!(decide (x.t=h)&&(decide (x.r=nth done h+1)&&decide (nth done x.f.toNat < x.s)))
def readyL (N:List Note) (done:List Int) (h:Nat):Bool:=N.all (readyOk done h)
theorem uL {vD vN vd:AV} {N:List Note} {done:List Int} (hN:IsSl noteC vN N) (hd:IsInts vd done) (hl:N.length < 1000000) {h:Nat} (hh:h < done.length) (hb:nth done h < 1000000) (hb0:0≤nth done h)
  (hr:∀x∈N,0≤x.f∧x.f < done.length∧0≤x.t∧x.t < done.length):∀(n i:Nat) (m:Mem),N.length - i≤n→i≤N.length →
  eu.L0 vd (.int .i64 h) (.fptr [vD,vN]) (.int .i64 i) m [.code eu.r7,.code .ret]=some (.bool (readyL (N.drop i) done h),Mem.empty):=by
 intro n
 induction n with
 | zero =>
  intro i m h1 h2
  have e:i=N.length:=by omega
  subst e
  rw [eu.aM]
  simp [hN.len,readyL]
 | succ n ih =>
  intro i m h1 h2
  by_cases h3:i < N.length
  ·rw [eu.aM]
   obtain⟨f0,f1,t0,t1⟩:=hr _ (uF h3)
   have hw:IntKind.wrap .i64 ((i:Int)+1)=(i:Int)+1:=bc (by omega) (by omega)
   have hw2:IntKind.wrap .i64 (nth done h+1)=nth done h+1:=bc (by omega) (by omega)
   have hi:=fun m=>ih (i+1) m (by omega) (by omega)
   simp at hi
   have hd':readyL (N.drop i) done h=(readyOk done h (nt N i)&&readyL (N.drop (i+1)) done h):=by rw [lY h3];rfl
   rw [hd']
   simp [hN.len,h3,hN.idx (cr N) h3,cL h3]
   by_cases q0:(nt N i).t=h
   ·by_cases q1:(nt N i).r=nth done h+1
    ·by_cases q2:nth done (nt N i).f.toNat < (nt N i).s
     ·simp [noteC,q0,q1,q2,hd.idx hh,bF hh,hd.sO f0 f1,dh f0 f1,readyOk,hw2]
     ·simp [noteC,q0,q1,q2,hd.idx hh,bF hh,hd.sO f0 f1,dh f0 f1,readyOk,hw2,hw,hi]
    ·simp [noteC,q0,q1,hd.idx hh,bF hh,readyOk,hw2,hw,hi]
   ·simp [noteC,q0,readyOk,hw,hi]
  ·have e:i=N.length:=by omega
   subst e
   rw [eu.aM]
   simp [hN.len,readyL]
theorem uK {v vd:AV} {D:List Int} {N:List Note} {done:List Int} (hs:IsTale v D N) (hd:IsInts vd done) (hl:N.length < 1000000) {h:Nat} (hh:h < done.length) (hb:nth done h < 1000000) (hb0:0≤nth done h)
  (hr:∀x∈N,0≤x.f∧x.f < done.length∧0≤x.t∧x.t < done.length) (m:Mem):denC prog ann 17 [v,vd,.int .i64 h] m=some (.bool (readyL N done h),m):=by
 obtain⟨vD,vN,rfl,hD,hN⟩:=hs.ex
 rw [eu.al _ _ _ _ (by simp [hd.closed,hD.closed,hN.closed])]
 have:=uL (vD:=vD) hN hd hl hh hb hb0 hr _ 0 Mem.empty (Nat.le_refl _) (by omega)
 simp at this
 simp [hD.one,hN.one,hD.closed,hN.closed,this]
end Go.Proofs.YtadofgdidhpnpaaGreatDoor

/-
  WHAT THE REFERENCE's Cuts COMPUTES: the consistent ones among all tuples, in lexicographic order. Conditions: none.
-/
namespace Go.Proofs.YtadofgdidhpnpaaGreatDoor
open Go.AM
open Go.Proofs.Tryz (prog)
set_option linter.all false
set_option maxRecDepth 10000
def tuplesL:List Int→List (List Int)
 | []=>[[]]
 | d::D=>(List.range (d.toNat+1)).flatMap fun(i:Nat)=>(tuplesL D).map (List.cons (i:Int))
def rowC (c:List Int):List AV:=[.fsl false c.length (ints c)]
@[simp] theorem HC (c:List Int):oneL (rowC c)=true:=rfl
@[simp] theorem Di (c:List Int):closedL (rowC c)=true:=rfl
structure InBox (D c:List Int):Prop where
 len:c.length=D.length
 lo:∀i,0≤nth c i
 hi:∀i,nth c i≤nth D i
structure Lims (D:List Int) (N:List Note):Prop where
 n1:1≤D.length
 n4:D.length≤4
 lo:∀i,0≤nth D i
 hi:∀i,nth D i≤6
 N24:N.length≤24
 notes:∀x∈N,0≤x.f∧x.f < D.length∧0≤x.t∧x.t < D.length
theorem Lims.all {D:List Int} {N:List Note} (L:Lims D N):∀d∈D,0≤d∧d≤6:=by
 intro d hd
 obtain⟨i,hi,rfl⟩:=List.mem_iff_getElem.1 hd
 rw [gF hi];exact⟨L.lo i,L.hi i⟩
def cutsL (D:List Int) (N:List Note):List (List Int):=(tuplesL D).filter (conR N)
end Go.Proofs.YtadofgdidhpnpaaGreatDoor

/-
  WHAT THE REFERENCE's Valid COMPUTES: within the limits, and all deeds can be done one by one. Conditions: none.
-/
namespace Go.Proofs.YtadofgdidhpnpaaGreatDoor
open Go.AM
open Go.Proofs.Tryz (prog)
set_option linter.all false
set_option maxRecDepth 10000
def Step (D:List Int) (N:List Note) (done:List Int) (h:Nat):Prop:=h < D.length∧nth done h < nth D h∧readyL N done h=true
inductive Reach (D:List Int) (N:List Note):List Int→Prop where
 | zero:Reach D N (List.replicate D.length 0)
 | step {done:List Int} {h:Nat}:Reach D N done→Step D N done h→Reach D N (done.set h (nth done h+1))
theorem Reach.box {D:List Int} {N:List Note} (lo:∀i,0≤nth D i) {done:List Int} (r:Reach D N done):InBox D done:=by
 induction r with
 | zero =>
  have hz:∀i,nth (List.replicate D.length 0) i=0:=fun i=>by
   simp only [nth,List.getD,List.getElem?_replicate];split<;>rfl
  exact⟨by simp,fun i=>by rw [hz];omega,fun i=>by rw [hz];exact lo i⟩
 | @step done h r s ih =>
  obtain⟨s1,s2,_⟩:=s
  have hl:=ih.len
  refine⟨by simp [hl],fun i=>?_,fun i=>?_⟩
  ·by_cases e:h=i
   ·subst e
    have:nth (done.set h (nth done h+1)) h=nth done h+1:=by simp [nth,List.getD,List.getElem?_set,show h < done.length by omega]
    have:=ih.lo h;omega
   ·have:nth (done.set h (nth done h+1)) i=nth done i:=by simp [nth,List.getD,List.getElem?_set,e]
    have:=ih.lo i;omega
  ·by_cases e:h=i
   ·subst e
    have:nth (done.set h (nth done h+1)) h=nth done h+1:=by simp [nth,List.getD,List.getElem?_set,show h < done.length by omega]
    omega
   ·have:nth (done.set h (nth done h+1)) i=nth done i:=by simp [nth,List.getD,List.getElem?_set,e]
    have:=ih.hi i;omega
def Stuck (D:List Int) (N:List Note) (done:List Int):Prop:=∀h,¬Step D N done h
theorem uI {D:List Int} {N:List Note} {done x:List Int} (hd:done.length=D.length) (st:Stuck D N done) (r:Reach D N x) (lo:∀i,0≤nth D i) (hn:∀i,0≤nth done i):∀i,nth x i≤nth done i:=by
 induction r with
 | zero=>intro i;have:nth (List.replicate D.length 0) i=0:=by { simp only [nth,List.getD,List.getElem?_replicate];split<;>rfl };have:=hn i;omega
 | @step x h r s ih =>
  obtain⟨s1,s2,s3⟩:=s
  have hl:=(Reach.box lo r).len
  intro i
  by_cases e:h=i
  ·subst e
   have e1:nth (x.set h (nth x h+1)) h=nth x h+1:=by simp [nth,List.getD,List.getElem?_set,show h < x.length by omega]
   rw [e1]
   have h1:=ih h
   rcases Int.lt_or_eq_of_le h1 with h2 | h2
   ·omega
   ·exfalso
    refine st h ⟨s1,by omega,?_⟩
    simp only [readyL,List.all_eq_true] at s3 ⊢
    intro y hy
    have:=s3 y hy
    simp only [readyOk] at this ⊢
    rw [← h2]
    have h3:=ih y.f.toNat
    by_cases q1:y.t=h<;>by_cases q2:y.r=nth x h+1<;>simp [q1,q2] at this ⊢
    omega
  ·have:nth (x.set h (nth x h+1)) i=nth x i:=by simp [nth,List.getD,List.getElem?_set,e]
   rw [this];exact ih i
theorem gC {a b:List Int} (hl:a.length=b.length) (h:∀i,nth a i=nth b i):a=b:=by
 refine List.ext_getElem hl fun i h1 h2=>?_
 rw [gF h1,gF h2];exact h i
structure NoteIn (D:List Int) (x:Note):Prop where
 f0:0≤x.f
 f1:x.f < D.length
 t0:0≤x.t
 t1:x.t < D.length
 ne:x.f≠x.t
 s0:1≤x.s
 s1:x.s≤nth D x.f.toNat
 r0:1≤x.r
 r1:x.r≤nth D x.t.toNat
structure ValidS (D:List Int) (N:List Note):Prop where
 n1:1≤D.length
 n4:D.length≤4
 lo:∀i,0≤nth D i
 hi:∀i,nth D i≤6
 N24:N.length≤24
 notes:∀x∈N,NoteIn D x
 all:Reach D N D
theorem ValidS.I2 {D:List Int} {N:List Note} (v:ValidS D N):Lims D N:=⟨v.n1,v.n4,v.lo,v.hi,v.N24,fun x hx=>⟨(v.notes x hx).f0,(v.notes x hx).f1,(v.notes x hx).t0,(v.notes x hx).t1⟩⟩
theorem ka:∀(l:List Int) (i:Nat) (a:Int),i < l.length→(l.set i a).sum=l.sum - nth l i+a
 | x::l,0,a,_=>by simp [dF];omega
 | x::l,i+1,a,h=>by
  have:=ka l i a (by simpa using h)
  simp only [List.set_cons_succ,List.sum_cons,dp,this];omega
theorem ld:∀(a b:List Int),a.length=b.length→(∀i,nth a i≤nth b i)→a.sum≤b.sum
 | [],[],_,_=>by simp
 | x::a,y::b,hl,h=>by
  have h0:=h 0
  have:=ld a b (by simpa using hl) (fun i=>by simpa [dp] using h (i+1))
  simp only [dF] at h0
  simp only [List.sum_cons];omega
theorem uJ {vD vN:AV} {D:List Int} {N:List Note} (hD:IsInts vD D) (hN:IsSl noteC vN N) (L:Lims D N) {id:Nat} {done0:List Int}:∀(k h:Nat) (done:List Int) (mv:Bool) (m:Mem),h+k=D.length→Reach D N done →
  m.h id=some (.cells (ints done))→((mv=false∧done=done0∧∀g,g < h→¬Step D N done0 g)∨(mv=true∧done0.sum < done.sum)) →
  ∃done' mv' m',aG.L6 (.fptr [vD,vN]) (.sl id 1 0 D.length D.length) (.bool mv) (.int .i64 h) m [.inBlock 5,.inLoop aG.l4,.inBlock 4,.code aG.r24,.code .ret] =
    aG.L4 (.fptr [vD,vN]) (.sl id 1 0 D.length D.length) (.bool mv') m' [.code aG.r24,.code .ret]∧Reach D N done'∧m'.h id=some (.cells (ints done')) ∧
    ((mv'=false∧done'=done0∧Stuck D N done0)∨(mv'=true∧done0.sum < done'.sum)):=by
 intro k
 induction k with
 | zero =>
  intro h done mv m hk hr hm hp
  have e:h=D.length:=by omega
  subst e
  refine⟨done,mv,m,?_,hr,hm,hp.imp (fun⟨a,b,c⟩=>⟨a,b,fun g hg=>c g hg.1 hg⟩) (fun h=>h)⟩
  rw [aG.jS]
  simp
 | succ k ih =>
  intro h done mv m hk hr hm hp
  have hh:h < D.length:=by omega
  have hb:=hr.box L.lo
  have hl:=hb.len
  have b1:=hb.lo h;have b2:=hb.hi h;have b3:=L.hi h
  have hn4:=L.n4
  have htale:IsTale (.agg [vD,vN]) D N:=⟨vD,vN,rfl,hD,hN⟩
  have hrd:=uK htale (vd:=.fsl false D.length (ints done)) (done:=done) (.inr ⟨false,by rw [hl]⟩) (by have:=L.N24;omega) (h:=h) (by omega) (by omega) b1 (fun x hx=>by rw [hl];exact L.notes x hx) Mem.empty
  have hw:IntKind.wrap .i64 ((h:Int)+1)=(h:Int)+1:=bc (by omega) (by omega)
  have hw2:IntKind.wrap .i64 (nth done h+1)=nth done h+1:=bc (by omega) (by omega)
  have htk:(ints done).take D.length=ints done:=List.take_of_length_le (by simp;omega)
  rw [aG.jS]
  by_cases q1:nth done h < nth D h
  ·by_cases q2:readyL N done h=true
   ·
    have st:Step D N done h:=⟨hh,q1,q2⟩
    have:=ih (h+1) (done.set h (nth done h+1)) true ⟨upd m.h id (some (.cells (ints (done.set h (nth done h+1))))),m.nx+16⟩ (by omega) (hr.step st) (by simp) (.inr ⟨rfl,by
     rw [ka _ _ _ (by omega)]
     rcases hp with ⟨_,e,_⟩ | ⟨_,e⟩
     ·subst e;omega
     ·omega⟩)
    obtain⟨done',mv',m',e,r⟩:=this
    refine⟨done',mv',m',?_,r⟩
    rw [← e]
    simp [hh,hm,hl,hD.idx hh,bF hh,q1,hD.closed,hN.closed,hD.deep m.h 4,hN.deep m.h 4,htk,hrd,AV.flat,AV.flat1,q2,hw,hw2]
   ·have q2':readyL N done h=false:=by simpa using q2
    have:=ih (h+1) done mv ⟨m.h,m.nx+16⟩ (by omega) hr (by simpa using hm) (by
     rcases hp with ⟨a,b,c⟩ | hp
     ·refine .inl ⟨a,b,fun g hg=>?_⟩
      by_cases e:g=h
      ·subst e;subst b;intro st;rw [st.2.2] at q2';cases q2'
      ·exact c g (by omega)
     ·exact .inr hp)
    obtain⟨done',mv',m',e,r⟩:=this
    refine⟨done',mv',m',?_,r⟩
    rw [← e]
    simp [hh,hm,hl,hD.idx hh,bF hh,q1,hD.closed,hN.closed,hD.deep m.h 4,hN.deep m.h 4,htk,hrd,AV.flat,AV.flat1,q2',hw,hw2]
  ·have:=ih (h+1) done mv ⟨m.h,m.nx+16⟩ (by omega) hr (by simpa using hm) (by
     rcases hp with ⟨a,b,c⟩ | hp
     ·refine .inl ⟨a,b,fun g hg=>?_⟩
      by_cases e:g=h
      ·subst e;subst b;intro st;exact q1 st.2.1
      ·exact c g (by omega)
     ·exact .inr hp)
   obtain⟨done',mv',m',e,r⟩:=this
   refine⟨done',mv',m',?_,r⟩
   rw [← e]
   simp [hh,hm,hl,hD.idx hh,bF hh,q1,hw]
theorem Bi {vD vN:AV} {D:List Int} {N:List Note} (hD:IsInts vD D) (hN:IsSl noteC vN N) (L:Lims D N) {id:Nat}:∀(n:Nat) (done:List Int) (mv:Bool) (m:Mem),(D.sum - done.sum).toNat≤n→Reach D N done →
  m.h id=some (.cells (ints done))→(mv=false→Stuck D N done) →
  ∃fin,Reach D N fin∧Stuck D N fin∧aG.L4 (.fptr [vD,vN]) (.sl id 1 0 D.length D.length) (.bool mv) m [.code aG.r24,.code .ret]=some (.bool (decide (fin=D)),Mem.empty):=by
 have last:∀(done:List Int) (m:Mem),Reach D N done→m.h id=some (.cells (ints done))→aG.L4 (.fptr [vD,vN]) (.sl id 1 0 D.length D.length) (.bool false) m [.code aG.r24,.code .ret]=some (.bool (decide (done=D)),Mem.empty):=by
  intro done m hr hm
  have hl:=(hr.box L.lo).len
  have hn4:=L.n4
  have htk:(ints done).take D.length=ints done:=List.take_of_length_le (by simp;omega)
  have hs:=oT (va:=.fsl false D.length (ints done)) (a:=done) (.inr ⟨false,by rw [hl]⟩) hD (by omega) (by omega) Mem.empty
  rw [aG.ir]
  simp [hm,hl,htk,hD.deep m.h 5,hs,AV.flat,AV.flat1]
 have sweep:∀(done:List Int) (m:Mem),Reach D N done→m.h id=some (.cells (ints done))→∃done' mv' m',aG.L4 (.fptr [vD,vN]) (.sl id 1 0 D.length D.length) (.bool true) m [.code aG.r24,.code .ret] =
    aG.L4 (.fptr [vD,vN]) (.sl id 1 0 D.length D.length) (.bool mv') m' [.code aG.r24,.code .ret]∧Reach D N done'∧m'.h id=some (.cells (ints done')) ∧
    ((mv'=false∧done'=done∧Stuck D N done)∨(mv'=true∧done.sum < done'.sum)):=by
  intro done m hr hm
  obtain⟨done',mv',m',e,r⟩:=uJ hD hN L (id:=id) (done0:=done) D.length 0 done false m (by omega) hr hm (.inl ⟨rfl,rfl,fun g hg=>by omega⟩)
  refine⟨done',mv',m',?_,r⟩
  rw [← e,aG.ir]
  simp
 intro n
 induction n with
 | zero =>
  intro done mv m hn hr hm hst
  cases mv with
  | false=>exact⟨done,hr,hst rfl,last done m hr hm⟩
  | true =>
   obtain⟨done',mv',m',e,r1,r2,r3⟩:=sweep done m hr hm
   rcases r3 with ⟨rfl,rfl,h3⟩ | ⟨rfl,h3⟩
   ·exact⟨_,r1,h3,by rw [e];exact last _ m' r1 r2⟩
   ·exfalso
    have hb:=r1.box L.lo
    have:=ld done' D hb.len hb.hi
    omega
 | succ n ih =>
  intro done mv m hn hr hm hst
  cases mv with
  | false=>exact⟨done,hr,hst rfl,last done m hr hm⟩
  | true =>
   obtain⟨done',mv',m',e,r1,r2,r3⟩:=sweep done m hr hm
   rcases r3 with ⟨rfl,rfl,h3⟩ | ⟨rfl,h3⟩
   ·exact⟨_,r1,h3,by rw [e];exact last _ m' r1 r2⟩
   ·obtain⟨fin,f1,f2,f3⟩:=ih done' true m' (by omega) r1 r2 (fun h=>by cases h)
    exact⟨fin,f1,f2,by rw [e];exact f3⟩
end Go.Proofs.YtadofgdidhpnpaaGreatDoor

/-
  WHAT THE REFERENCE's Valid COMPUTES: whether a story is valid. Conditions: none.
-/
namespace Go.Proofs.YtadofgdidhpnpaaGreatDoor
open Go.AM
open Go.Proofs.Tryz (prog)
set_option linter.all false
set_option maxRecDepth 10000
theorem Cs {D:List Int} {N:List Note} (lo:∀i,0≤nth D i) {fin:List Int} (r:Reach D N fin) (st:Stuck D N fin):fin=D↔Reach D N D:=by
 constructor
 ·intro e;rw [e] at r;exact r
 ·intro rD
  have hb:=r.box lo
  have h1:=uI hb.len st rD lo hb.lo
  exact gC hb.len fun i=>Int.le_antisymm (hb.hi i) (h1 i)
section
variable {vD vN : AV} {D : List Int} {N : List Note}
theorem lP (hD:IsInts vD D) (hl:D.length < 1000000) {R:Option Res} (T:D.all (fun d=>decide (0≤d)&&decide (d≤6))=true→∀t m,AM.get t 1=.fptr [vD,vN]→den prog ann 4 [.code aG.r6,.code aG.i2,.code aG.r8,.code aG.k2,.code aG.r14,.code aG.r15,.code aG.k4,.code aG.r24,.code .ret] ⟨t,132,m⟩=R) :
  ∀(n i:Nat) (m:Mem),D.length - i≤n→i≤D.length→(D.take i).all (fun d=>decide (0≤d)&&decide (d≤6))=true →
  aG.L0 (.fptr [vD,vN]) (.int .i64 i) m [.code aG.r6,.code aG.i2,.code aG.r8,.code aG.k2,.code aG.r14,.code aG.r15,.code aG.k4,.code aG.r24,.code .ret] =
   if (D.drop i).all (fun d=>decide (0≤d)&&decide (d≤6)) then R else some (.bool false,Mem.empty):=by
 intro n
 induction n with
 | zero =>
  intro i m h1 h2 hp
  have e:i=D.length:=by omega
  subst e
  rw [List.take_length] at hp
  rw [aG.aM]
  simp [hD.len,-aG.bo,T hp]
 | succ n ih =>
  intro i m h1 h2 hp
  by_cases h3:i < D.length
  ·have hw:IntKind.wrap .i64 ((i:Int)+1)=(i:Int)+1:=bc (by omega) (by omega)
   rw [aG.aM,dQ h3]
   by_cases q:0≤nth D i∧nth D i≤6
   ·have hi:=fun m=>ih (i+1) m (by omega) (by omega) (by
     rw [List.take_succ,mZ h3,List.all_append,hp];simp [q.1,q.2])
    simp only [Int.natCast_add,Int.cast_ofNat_Int] at hi
    simp [hD.len,h3,hD.idx h3,bF h3,c7,q.1,q.2,hw,hi]
   ·have q':(decide (0≤nth D i)&&decide (nth D i≤6))=false:=by
     by_cases q1:0≤nth D i
     ·have:¬nth D i≤6:=fun q2=>q ⟨q1,q2⟩
      simp [this]
     ·simp [q1]
    simp [hD.len,h3,hD.idx h3,bF h3,c7,q']
  ·have e:i=D.length:=by omega
   subst e
   rw [List.take_length] at hp
   rw [aG.aM]
   simp [hD.len,-aG.bo,T hp]
def noteIn (D:List Int) (x:Note):Bool :=
 (decide (0≤x.f)&&decide (x.f≤(D.length:Int) - 1))&&((decide (0≤x.t)&&decide (x.t≤(D.length:Int) - 1))&&(!decide (x.f=x.t)&&((decide (1≤x.s)&&decide (x.s≤nth D x.f.toNat))&&(decide (1≤x.r)&&decide (x.r≤nth D x.t.toNat)))))
theorem nB {x:Note}:noteIn D x=true↔NoteIn D x:=by
 simp only [noteIn,Bool.and_eq_true,decide_eq_true_eq,Bool.not_eq_true',decide_eq_false_iff_not]
 constructor
 ·rintro⟨⟨a,b⟩,⟨c,d⟩,e,⟨f,g⟩,h,i⟩
  exact⟨a,by omega,c,by omega,e,f,g,h,i⟩
 ·rintro⟨a,b,c,d,e,f,g,h,i⟩
  exact⟨⟨a,by omega⟩,⟨c,by omega⟩,e,⟨f,g⟩,h,i⟩
theorem lQ (hD:IsInts vD D) (hN:IsSl noteC vN N) (hl:D.length < 1000000) (hn:N.length < 1000000) {R:Option Res} (T:N.all (noteIn D)=true→∀t m,AM.get t 1=.fptr [vD,vN]→den prog ann 4 [.code aG.r14,.code aG.r15,.code aG.k4,.code aG.r24,.code .ret] ⟨t,132,m⟩=R) :
  ∀(n i:Nat) (m:Mem),N.length - i≤n→i≤N.length→(N.take i).all (noteIn D)=true →
  aG.L2 (.fptr [vD,vN]) (.int .i64 i) m [.code aG.r14,.code aG.r15,.code aG.k4,.code aG.r24,.code .ret] =
   if (N.drop i).all (noteIn D) then R else some (.bool false,Mem.empty):=by
 intro n
 induction n with
 | zero =>
  intro i m h1 h2 hp
  have e:i=N.length:=by omega
  subst e
  rw [List.take_length] at hp
  rw [aG.dt]
  simp [hN.len,-aG.cY,T hp]
 | succ n ih =>
  intro i m h1 h2 hp
  by_cases h3:i < N.length
  ·have hw:IntKind.wrap .i64 ((i:Int)+1)=(i:Int)+1:=bc (by omega) (by omega)
   have hw2:IntKind.wrap .i64 ((D.length:Int) - 1)=(D.length:Int) - 1:=bc (by omega) (by omega)
   rw [aG.dt,lY h3]
   by_cases q1:(decide (0≤(nt N i).f)&&decide ((nt N i).f≤(D.length:Int) - 1))=true
   ·have ⟨f0,f1⟩:0≤(nt N i).f∧(nt N i).f < D.length:=by simp at q1;omega
    by_cases q2:(decide (0≤(nt N i).t)&&decide ((nt N i).t≤(D.length:Int) - 1))=true
    ·have ⟨t0,t1⟩:0≤(nt N i).t∧(nt N i).t < D.length:=by simp at q2;omega
     by_cases q3:(nt N i).f=(nt N i).t
     ·simp [noteIn,hN.len,h3,hN.idx (cr N) h3,cL h3,noteC,hD.len,c7,hw2,q1,q2,q3,hw]
     ·by_cases q4:(decide (1≤(nt N i).s)&&decide ((nt N i).s≤nth D (nt N i).f.toNat))=true
      ·by_cases q5:(decide (1≤(nt N i).r)&&decide ((nt N i).r≤nth D (nt N i).t.toNat))=true
       ·have hni:noteIn D (nt N i)=true:=by simp only [noteIn,q1,q2,q3,q4,q5];rfl
        have hi:=fun m=>ih (i+1) m (by omega) (by omega) (by
         rw [List.take_succ,wR h3,List.all_append,hp];simp [hni])
        simp only [Int.natCast_add,Int.cast_ofNat_Int] at hi
        simp [noteIn,hN.len,h3,hN.idx (cr N) h3,cL h3,noteC,hD.len,c7,hw2,q1,q2,q3,q4,q5,hw,hi,hD.sO f0 f1,dh f0 f1,hD.sO t0 t1,dh t0 t1]
       ·have q5':(decide (1≤(nt N i).r)&&decide ((nt N i).r≤nth D (nt N i).t.toNat))=false:=by simpa using q5
        simp [noteIn,hN.len,h3,hN.idx (cr N) h3,cL h3,noteC,hD.len,c7,hw2,q1,q2,q3,q4,q5',hw,hD.sO f0 f1,dh f0 f1,hD.sO t0 t1,dh t0 t1]
      ·have q4':(decide (1≤(nt N i).s)&&decide ((nt N i).s≤nth D (nt N i).f.toNat))=false:=by simpa using q4
       simp [noteIn,hN.len,h3,hN.idx (cr N) h3,cL h3,noteC,hD.len,c7,hw2,q1,q2,q3,q4',hw,hD.sO f0 f1,dh f0 f1]
    ·have q2':(decide (0≤(nt N i).t)&&decide ((nt N i).t≤(D.length:Int) - 1))=false:=by simpa using q2
     simp [noteIn,hN.len,h3,hN.idx (cr N) h3,cL h3,noteC,hD.len,c7,hw2,q1,q2',hw]
   ·have q1':(decide (0≤(nt N i).f)&&decide ((nt N i).f≤(D.length:Int) - 1))=false:=by simpa using q1
    simp [noteIn,hN.len,h3,hN.idx (cr N) h3,cL h3,noteC,hD.len,c7,hw2,q1',hw]
  ·have e:i=N.length:=by omega
   subst e
   rw [List.take_length] at hp
   rw [aG.dt]
   simp [hN.len,-aG.cY,T hp]
end
theorem wS {p:Int→Bool} {D:List Int}:D.all p=true↔∀i,i < D.length→p (nth D i)=true:=by
 rw [List.all_eq_true]
 constructor
 ·intro h i hi;rw [← gF hi];exact h _ (List.getElem_mem hi)
 ·intro h d hd
  obtain⟨i,hi,rfl⟩:=List.mem_iff_getElem.1 hd
  rw [gF hi];exact h i hi
theorem uf {v:AV} {D:List Int} {N:List Note} (hs:IsTale v D N) (hl:D.length < 1000000) (hn:N.length < 1000000):∃b:Bool,(b=true↔ValidS D N)∧∀m,denC prog ann 4 [v] m=some (.bool b,m):=by
 obtain⟨vD,vN,rfl,hD,hN⟩:=hs.ex
 have T14:∀b:Bool,Lims D N→(b=true↔Reach D N D)→∀t m,AM.get t 1=.fptr [vD,vN]→den prog ann 4 [.code aG.r14,.code aG.r15,.code aG.k4,.code aG.r24,.code .ret] ⟨t,132,m⟩=some (.bool b,Mem.empty):=by
  intro b L hb t m ht
  have hn4:=L.n4
  have hone:oneL (List.replicate D.length (AV.int .i64 0))=true:=by
   have:=yG (List.replicate D.length 0)
   simpa [ints] using this
  obtain⟨fin,f1,f2,f3⟩:=Bi hD hN L (id:=m.nx) _ (List.replicate D.length 0) true ⟨upd m.h m.nx (some (.cells (List.replicate D.length (.int .i64 0)))),m.nx+1⟩ (Nat.le_refl _) Reach.zero (by simp [ints]) (fun h=>by cases h)
  have e:decide (fin=D)=b:=by
   have:=Cs L.lo f1 f2
   cases b with
   | true=>exact decide_eq_true (this.2 (hb.1 rfl))
   | false=>exact decide_eq_false fun h=>by have:=hb.2 (this.1 h);cases this
  rw [e] at f3
  simp [ht,hD.len,hone,show D.length≤4611686018427387904 by omega,show D.length*8≤70368744177664 by omega,f3]
 have T6:∀b:Bool,(∀i,0≤nth D i∧nth D i≤6)→(b=true↔ValidS D N)→∀t m,AM.get t 1=.fptr [vD,vN]→den prog ann 4 [.code aG.r6,.code aG.i2,.code aG.r8,.code aG.k2,.code aG.r14,.code aG.r15,.code aG.k4,.code aG.r24,.code .ret] ⟨t,132,m⟩=some (.bool b,Mem.empty):=by
  intro b hD6 hb t m ht
  have no:¬ValidS D N→b=false:=fun h=>by cases b with | false=>rfl | true=>exact absurd (hb.1 rfl) h
  by_cases q1:(decide (1≤(D.length:Int))&&decide ((D.length:Int)≤4))=true
  ·have ⟨n1,n4⟩:1≤D.length∧D.length≤4:=by simp only [Bool.and_eq_true,decide_eq_true_eq] at q1;omega
   by_cases q2:(24:Int) < N.length
   ·have:=no (fun v=>by have:=v.N24;omega)
    subst this
    simp [ht,hD.len,hN.len,c7,q1,q2]
   ·by_cases q3:N.all (noteIn D)=true
    ·have hno:∀x∈N,NoteIn D x:=fun x hx=>nB.1 (List.all_eq_true.1 q3 x hx)
     have L:Lims D N:=⟨n1,n4,fun i=>(hD6 i).1,fun i=>(hD6 i).2,by omega,fun x hx=>⟨(hno x hx).f0,(hno x hx).f1,(hno x hx).t0,(hno x hx).t1⟩⟩
     have hb':b=true↔Reach D N D:=hb.trans ⟨fun v=>v.all,fun r=>⟨n1,n4,L.lo,L.hi,L.N24,hno,r⟩⟩
     have h2:=fun m=>lQ hD hN hl hn (fun _=>T14 b L hb') _ 0 m (Nat.le_refl _) (by omega) rfl
     simp only [List.drop_zero,q3,if_true] at h2
     simp at h2
     simp [ht,hD.len,hN.len,c7,q1,q2,h2]
    ·have:=no (fun v=>q3 (List.all_eq_true.2 fun x hx=>nB.2 (v.notes x hx)))
     subst this
     have h2:=fun m=>lQ (R:=none) hD hN hl hn (fun h=>absurd h q3) _ 0 m (Nat.le_refl _) (by omega) rfl
     simp only [List.drop_zero,q3] at h2
     simp at h2
     simp [ht,hD.len,hN.len,c7,q1,q2,h2]
  ·have:=no (fun v=>q1 (by have:=v.n1;have:=v.n4;simp;omega))
   subst this
   have q1':(decide (1≤(D.length:Int))&&decide ((D.length:Int)≤4))=false:=by simpa using q1
   simp [ht,hD.len,hN.len,c7,q1']
 have hcl:closedL [AV.agg [vD,vN]]=true:=by simp [hD.closed,hN.closed]
 obtain⟨b,hb⟩:∃b:Bool,b=true↔ValidS D N:=by
  rcases Classical.em (ValidS D N) with h | h
  ·exact⟨true,by simp [h]⟩
  ·exact⟨false,by simp [h]⟩
 refine⟨b,hb,fun m=>?_⟩
 rw [aG.al _ _ hcl]
 by_cases q:D.all (fun d=>decide (0≤d)&&decide (d≤6))=true
 ·have hD6:∀i,0≤nth D i∧nth D i≤6:=by
   intro i
   rcases Nat.lt_or_ge i D.length with h | h
   ·have:=wS.1 q i h;simpa using this
   ·rw [dO h];omega
  have h0:=lP (vN:=vN) hD hl (fun _=>T6 b hD6 hb) _ 0 Mem.empty (Nat.le_refl _) (by omega) rfl
  simp only [List.drop_zero,q,if_true] at h0
  simp at h0
  simp [hD.one,hN.one,hD.closed,hN.closed,h0]
 ·have:b=false:=by
   cases b with
   | false=>rfl
   | true =>
    have v:=hb.1 rfl
    exact absurd (wS.2 fun i hi=>by simp [v.lo i,v.hi i]) q
  subst this
  have h0:=lP (vN:=vN) (R:=none) hD hl (fun h=>absurd h q) _ 0 Mem.empty (Nat.le_refl _) (by omega) rfl
  simp only [List.drop_zero,q] at h0
  simp at h0
  simp [hD.one,hN.one,hD.closed,hN.closed,h0]
end Go.Proofs.YtadofgdidhpnpaaGreatDoor

/-
  THE PROGRAM READS A STORY (1): how it lies in memory, and the last test. Conditions: none.
-/
namespace Go.Proofs.YtadofgdidhpnpaaGreatDoor
open Go.AM
open Go.Proofs.Tryz (prog)
set_option linter.all false
set_option maxRecDepth 10000
def slK (ids:Nat→Nat) (K:List (List (List Int))) (h:Nat):AV:=if kth K h=[] then .nils else .sl (ids h) 4 0 (kth K h).length ((kth K h).length*4)
structure SAt (m:Mem) (sid:Nat) (ids:Nat→Nat) (n:Nat) (D:List Int) (K:List (List (List Int))):Prop where
 st:∃V,m.h sid=some (.cells (.int .i64 n::(ints D++V)))∧V.length=4∧∀h,h < 4→vth V h=slK ids K h
 D4:D.length=4
 cl:∀h,h < 4→kth K h≠[]→m.h (ids h)=some (.cells (flatC ints (kth K h)))
 slt:sid < m.nx
 lt:∀h,h < 4→kth K h≠[]→ids h < m.nx
 ne:∀h,h < 4→kth K h≠[]→ids h≠sid
 inj:∀g h,g < 4→h < 4→kth K g≠[]→kth K h≠[]→ids g=ids h→g=h
 four:∀h,Four (kth K h)
 few:∀h,(kth K h).length≤6
theorem SAt.mono {m m':Mem} {sid:Nat} {ids:Nat→Nat} {n:Nat} {D:List Int} {K:List (List (List Int))} (s:SAt m sid ids n D K) (hnx:m.nx≤m'.nx) (hh:∀id,id < m.nx→m'.h id=m.h id):SAt m' sid ids n D K:=by
 obtain⟨V,h1,h2,h3⟩:=s.st
 exact⟨⟨V,by rw [hh _ s.slt];exact h1,h2,h3⟩,s.D4,fun h a b=>by rw [hh _ (s.lt h a b)];exact s.cl h a b,Nat.lt_of_lt_of_le s.slt hnx,fun h a b=>Nat.lt_of_lt_of_le (s.lt h a b) hnx,s.ne,s.inj,s.four,s.few⟩
theorem SAt.at {m:Mem} {sid:Nat} {ids:Nat→Nat} {n:Nat} {D:List Int} {K:List (List (List Int))} (s:SAt m sid ids n D K):∃V,m.h sid=some (.cells (.int .i64 n::(ints D++V)))∧V.length=4∧(∀h,h < 4→(AV.int .i64 (n:Int)::(ints D++V))[5+h]?=some (slK ids K h))∧(AV.int .i64 (n:Int)::(ints D++V)).length=9:=by
 obtain⟨V,h1,h2,h3⟩:=s.st
 refine⟨V,h1,h2,fun h hh=>?_,by simp [h2,s.D4]⟩
 rw [show 5+h=(4+h)+1 by omega,List.getElem?_cons_succ,List.getElem?_append_right (by simp [s.D4])]
 simp only [dP,s.D4,Nat.add_sub_cancel_left]
 rw [Bg (by omega),h3 h hh]
theorem SAt.clock {m:Mem} {sid:Nat} {ids:Nat→Nat} {n:Nat} {D:List Int} {K:List (List (List Int))} (s:SAt m sid ids n D K) {h i:Nat} (hh:h < 4) (hi:i < (kth K h).length) :
  slK ids K h=.sl (ids h) 4 0 (kth K h).length ((kth K h).length*4)∧loadO true 4 (i*4) ((kth K h).length*4) (m.h (ids h))=some (.agg (ints (cth (kth K h) i))):=by
 have hne:kth K h≠[]:=fun e=>by rw [e] at hi;simp at hi
 refine⟨by simp [slK,hne],?_⟩
 have hc:=s.cl h hh hne
 have hl:(flatC ints (kth K h)).length=(kth K h).length*4:=cK (s.four h).cells
 have hd:(flatC ints (kth K h)).drop (i*4)=flatC ints ((kth K h).drop i):=fD i (s.four h).cells
 have hload:=j9 (s.four h) hi
 simp only [mR,cond_true] at hload
 rw [hc]
 simp only [rF,hl,beq_self_eq_true,cond_true,hd]
 have hb:Nat.ble (i*4+4) ((kth K h).length*4)=true:=by rw [Nat.ble_eq];omega
 rw [hb,cond_true]
 cases hq:Nat.ble 4 (flatC ints ((kth K h).drop i)).length with
 | false=>rw [hq] at hload;cases hload
 | true=>rw [hq] at hload;simpa using hload
theorem oe {m:Mem} {sid:Nat} {ids:Nat→Nat} {n:Nat} {D:List Int} {K:List (List (List Int))} (s:SAt m sid ids n D K) {g:Nat} (hg:g < 4) {c:List Int} (hc:c.length=4) :
  callA (fun g=>(ann g).pure) (denC prog ann) 0 m (.fn 63 [] []) [slK ids K g,.agg (ints c)]=some (.bool (decide (c∈kth K g)),m):=by
 have hf:=s.four g
 have hw:=s.few g
 by_cases e:kth K g=[]
 ·have:=iZ (v:=.nils) (l:=[]) (c:=c) IsSl.nils (fun _ h=>by cases h) hc (by simp) Mem.empty
  simp [slK,e,this]
 ·have:=iZ (v:=.fsl false (kth K g).length (flatC ints (kth K g))) (IsSl.fsl _ _) hf hc (by omega) Mem.empty
  have hl:(flatC ints (kth K g)).length=(kth K g).length*4:=cK hf.cells
  have hd:=gD m.h 4 (f:=ints) (fun a=>o9 m.h 4 a) (kth K g)
  have ht:(flatC ints (kth K g)).take ((kth K g).length*4)=flatC ints (kth K g):=List.take_of_length_le (by omega)
  simp [slK,e,s.cl g hg e,hl,ht,hd,this,AV.flat,AV.flat1]
def badIn (K:List (List (List Int))) (n h g:Nat) (c:List Int):Bool:=(List.range' g (n - g)).any fun g=>!decide (g=h)&&decide (c∈kth K g)
def failR:Option Res:=some (.tup [.nilp,.bool false],Mem.empty)
theorem HA {sid:Nat} {ids:Nat→Nat} {n:Nat} {D:List Int} {K:List (List (List Int))} (hn:n≤4) {h i:Nat} (hi100:i < 1000) {c:List Int} (hc:c.length=4) (x190:AV) (x191:Nat):∀(k g:Nat) (m:Mem),n - g≤k→g≤n→SAt m sid ids n D K →
  ∃m',SAt m' sid ids n D K∧ai.L18 (.fptr [.int .i64 n]) (.sptr [.ptr sid 0 9]) (.int .i64 h) (.fptr (ints c)) (.int .i64 n) (.int .i64 h) x190 (.int .i64 x191) (.int .i64 i) (.int .i64 n) (.int .i64 g) m
    [.inBlock 17,.code ai.r57,.inLoop ai.l16,.inBlock 16,.inBlock 15,.code ai.r58,.inLoop ai.l14,.inBlock 14,.code ai.r59,.code .ret] =
   if badIn K n h g c then failR else ai.L16 (.fptr [.int .i64 n]) (.sptr [.ptr sid 0 9]) (.int .i64 h) (.int .i64 n) (.int .i64 h) x190 (.int .i64 x191) (.int .i64 ((i:Int)+1)) m' [.inBlock 15,.code ai.r58,.inLoop ai.l14,.inBlock 14,.code ai.r59,.code .ret]:=by
 have hwi:IntKind.wrap .i64 ((i:Int)+1)=(i:Int)+1:=bc (by omega) (by omega)
 intro k
 induction k with
 | zero =>
  intro g m h1 h2 s
  have e:g=n:=by omega
  subst e
  refine⟨m,s,?_⟩
  rw [ai.uG]
  simp [badIn,hwi]
 | succ k ih =>
  intro g m h1 h2 s
  by_cases h3:g < n
  ·obtain⟨V,v1,v2,v3,v4⟩:=s.at
   have hg4:g < 4:=by omega
   have hcc:=oe (m:=⟨m.h,m.nx+13⟩) (s.mono (by simp) (fun _ _=>rfl)) hg4 hc
   have hcl:=iS (r:=[]) hc
   simp only [List.append_nil] at hcl
   have hb:badIn K n h g c=((!decide (g=h)&&decide (c∈kth K g))||badIn K n h (g+1) c):=by
    simp only [badIn]
    rw [show n - g=(n - (g+1))+1 by omega,List.range'_succ,List.any_cons]
   have hw:IntKind.wrap .i64 ((g:Int)+1)=(g:Int)+1:=bc (by omega) (by omega)
   obtain⟨m',i1,i2⟩:=ih (g+1) ⟨m.h,m.nx+13⟩ (by omega) (by omega) (s.mono (by simp) (fun _ _=>rfl))
   refine⟨m',i1,?_⟩
   rw [hb,ai.uG]
   simp only [Int.natCast_add,Int.cast_ofNat_Int] at i2
   have v3':=v3 g hg4
   simp only [List.length_cons,List.length_append,dP] at v4
   have ht4:c.take 4=c:=List.take_of_length_le (by omega)
   by_cases q1:g=h
   ·subst q1
    simp [h3,hw,i2]
   ·have q1':¬(g:Int)=h:=by omega
    by_cases q2:c∈kth K g
    ·simp [h3,q1,q1',v1,v4,v3',hg4,hc,ht4,hcc,q2,failR]
    ·simp [h3,q1,q1',v1,v4,v3',hg4,hc,ht4,hcc,q2,hw,i2]
  ·have e:g=n:=by omega
   subst e
   refine⟨m,s,?_⟩
   rw [ai.uG]
   simp [badIn,hwi]
def badRow (K:List (List (List Int))) (n h i:Nat):Bool:=(List.range' i ((kth K h).length - i)).any fun i=>!decide (nth (cth (kth K h) i) h=(i:Int)+1)||badIn K n h 0 (cth (kth K h) i)
theorem HB {sid:Nat} {ids:Nat→Nat} {n:Nat} {D:List Int} {K:List (List (List Int))} (hn:n≤4) {h:Nat} (hh:h < n):∀(k i:Nat) (m:Mem),(kth K h).length - i≤k→i≤(kth K h).length→SAt m sid ids n D K →
  ∃m',SAt m' sid ids n D K∧ai.L16 (.fptr [.int .i64 n]) (.sptr [.ptr sid 0 9]) (.int .i64 h) (.int .i64 n) (.int .i64 h) (slK ids K h) (.int .i64 ((kth K h).length:Nat)) (.int .i64 i) m [.inBlock 15,.code ai.r58,.inLoop ai.l14,.inBlock 14,.code ai.r59,.code .ret] =
   if badRow K n h i then failR else ai.L14 (.fptr [.int .i64 n]) (.sptr [.ptr sid 0 9]) (.int .i64 n) (.int .i64 ((h:Int)+1)) m' [.code ai.r59,.code .ret]:=by
 have hwh:IntKind.wrap .i64 ((h:Int)+1)=(h:Int)+1:=bc (by omega) (by omega)
 intro k
 induction k with
 | zero =>
  intro i m h1 h2 s
  have e:i=(kth K h).length:=by omega
  refine⟨m,s,?_⟩
  rw [ai.uH]
  simp [badRow,e,hwh]
 | succ k ih =>
  intro i m h1 h2 s
  by_cases h3:i < (kth K h).length
  ·obtain⟨c1,c2⟩:=s.clock (show h < 4 by omega) h3
   have hc:(cth (kth K h) i).length=4:=s.four h _ (cm h3)
   have hfew:=s.few h
   have hb:badRow K n h i=((!decide (nth (cth (kth K h) i) h=(i:Int)+1)||badIn K n h 0 (cth (kth K h) i))||badRow K n h (i+1)):=by
    simp only [badRow]
    rw [show(kth K h).length - i=((kth K h).length - (i+1))+1 by omega,List.range'_succ,List.any_cons]
   have hw:IntKind.wrap .i64 ((i:Int)+1)=(i:Int)+1:=bc (by omega) (by omega)
   have s1:SAt ⟨upd m.h m.nx none,m.nx+1⟩ sid ids n D K:=s.mono (by simp) (fun id hid=>by have:(id==m.nx)=false:=by { simp;omega };simp [this])
   obtain⟨m1,j1,j2⟩:=HA hn (h:=h) (i:=i) (by omega) hc (slK ids K h) ((kth K h).length) n 0 ⟨upd m.h m.nx none,m.nx+1⟩ (by omega) (by omega) s1
   obtain⟨m',i1,i2⟩:=ih (i+1) m1 (by omega) (by omega) j1
   refine⟨m',i1,?_⟩
   simp only [Int.natCast_add,Int.cast_ofNat_Int] at i2
   rw [i2] at j2
   rw [hb,ai.uH]
   simp at j2
   have hh4:h < (cth (kth K h) i).length:=by omega
   rw [c1] at j2 ⊢
   by_cases q1:nth (cth (kth K h) i) h=(i:Int)+1
   ·simp [h3,c2,hc,bF hh4,show h < 4 by omega,q1,hw,j2]
    by_cases q3:badIn K n h 0 (cth (kth K h) i)=true<;>simp [q3]
   ·simp [h3,c2,hc,bF hh4,show h < 4 by omega,q1,hw,failR]
  ·have e:i=(kth K h).length:=by omega
   refine⟨m,s,?_⟩
   rw [ai.uH]
   simp [badRow,e,hwh]
def badAll (K:List (List (List Int))) (n h:Nat):Bool:=(List.range' h (n - h)).any fun h=>badRow K n h 0
def valK (K:List (List (List Int))) (h:Nat):AV:=if kth K h=[] then .nils else .fsl false (kth K h).length (flatC ints (kth K h))
def vals4 (K:List (List (List Int))):List AV:=[valK K 0,valK K 1,valK K 2,valK K 3]
def okR (n:Nat) (D:List Int) (K:List (List (List Int))):Option Res:=some (.tup [.fptr (.int .i64 n::(ints D++vals4 K)),.bool true],Mem.empty)
theorem km {m:Mem} {sid:Nat} {ids:Nat→Nat} {n:Nat} {D:List Int} {K:List (List (List Int))} (s:SAt m sid ids n D K) {h:Nat} (hh:h < 4) (d:Nat):deep m.h (d+2) (slK ids K h)=some (valK K h):=by
 by_cases e:kth K h=[]
 ·simp [slK,valK,e]
 ·have hl:(flatC ints (kth K h)).length=(kth K h).length*4:=cK (s.four h).cells
  have hd:=gD m.h d (f:=ints) (fun a=>o9 m.h d a) (kth K h)
  have ht:(flatC ints (kth K h)).take ((kth K h).length*4)=flatC ints (kth K h):=List.take_of_length_le (by omega)
  simp [slK,valK,e,s.cl h hh e,hl,ht,hd]
theorem Hz {sid:Nat} {ids:Nat→Nat} {n:Nat} {D:List Int} {K:List (List (List Int))} (hn:n≤4):∀(k h:Nat) (m:Mem),n - h≤k→h≤n→SAt m sid ids n D K →
  ai.L14 (.fptr [.int .i64 n]) (.sptr [.ptr sid 0 9]) (.int .i64 n) (.int .i64 h) m [.code ai.r59,.code .ret]=if badAll K n h then failR else okR n D K:=by
 have fin:∀(m:Mem),SAt m sid ids n D K→ai.L14 (.fptr [.int .i64 n]) (.sptr [.ptr sid 0 9]) (.int .i64 n) (.int .i64 n) m [.code ai.r59,.code .ret]=okR n D K:=by
  intro m s
  obtain⟨V,v1,v2,v3⟩:=s.st
  have hD4:=s.D4
  obtain⟨a0,a1,a2,a3,rfl⟩:∃a0 a1 a2 a3,V=[a0,a1,a2,a3]:=by
   match V,v2 with
   | [a0,a1,a2,a3],_=>exact⟨a0,a1,a2,a3,rfl⟩
  have e0:a0=slK ids K 0:=v3 0 (by omega)
  have e1:a1=slK ids K 1:=v3 1 (by omega)
  have e2:a2=slK ids K 2:=v3 2 (by omega)
  have e3:a3=slK ids K 3:=v3 3 (by omega)
  subst e0 e1 e2 e3
  rw [ai.Bh]
  simp [v1,hD4,ik,km s (show 0 < 4 by omega) 2,km s (show 1 < 4 by omega) 2,km s (show 2 < 4 by omega) 2,km s (show 3 < 4 by omega) 2,okR,vals4]
 intro k
 induction k with
 | zero =>
  intro h m h1 h2 s
  have e:h=n:=by omega
  subst e
  rw [fin m s]
  simp [badAll]
 | succ k ih =>
  intro h m h1 h2 s
  by_cases h3:h < n
  ·obtain⟨V,v1,v2,v3,v4⟩:=s.at
   have hh4:h < 4:=by omega
   simp only [List.length_cons,List.length_append,dP] at v4
   have v3':=v3 h hh4
   have hb:badAll K n h=(badRow K n h 0||badAll K n (h+1)):=by
    simp only [badAll]
    rw [show n - h=(n - (h+1))+1 by omega,List.range'_succ,List.any_cons]
   obtain⟨m',j1,j2⟩:=HB hn h3 (kth K h).length 0 m (by omega) (by omega) s
   have i2:=ih (h+1) m' (by omega) (by omega) j1
   simp only [Int.natCast_add,Int.cast_ofNat_Int] at i2
   rw [i2] at j2
   simp at j2
   have hlen:lenSl (slK ids K h)=some (.int .i64 (kth K h).length):=by
    by_cases e:kth K h=[]<;>simp [slK,e]
   rw [hb,ai.Bh]
   simp [h3,v1,v4,v3',hh4,hlen,j2]
   by_cases q3:badRow K n h 0=true<;>simp [q3]
  ·have e:h=n:=by omega
   subst e
   rw [fin m s]
   simp [badAll]
end Go.Proofs.YtadofgdidhpnpaaGreatDoor

/-
  THE PROGRAM READS A STORY (2): clocks grow. Conditions: none.
-/
namespace Go.Proofs.YtadofgdidhpnpaaGreatDoor
open Go.AM
open Go.Proofs.Tryz (prog)
set_option linter.all false
set_option maxRecDepth 10000
def growK (K:List (List (List Int))) (h i:Nat) (c:List Int):List (List (List Int)):=K.set h ((kth K h).set i (zmax (cth (kth K h) i) c))
def grows (K:List (List (List Int))) (h i:Nat) (c:List Int):Bool:=!decide (zmax (cth (kth K h) i) c=cth (kth K h) i)
theorem gH {K:List (List (List Int))} {h g:Nat} {r:List (List Int)} (hh:h < K.length):kth (K.set h r) g=if g=h then r else kth K g:=by
 simp only [kth,List.getD,List.getElem?_set]
 by_cases e:h=g
 ·subst e;simp [hh]
 ·have:¬g=h:=fun x=>e x.symm
  simp [e,this]
theorem ny {α:Type} {l:List α} {i:Nat} {a:α} (h:l[i]?=some a):l.set i a=l:=by
 obtain⟨h1,rfl⟩:=List.getElem?_eq_some_iff.1 h
 simp
theorem nz {K:List (List (List Int))} {h:Nat} (hh:h < K.length):K[h]?=some (kth K h):=by
 rw [List.getElem?_eq_getElem hh];simp [kth,List.getD,List.getElem?_eq_getElem hh]
theorem nA {K:List (List (List Int))} {h i:Nat} {c:List Int} (hh:h < K.length) (hi:i < (kth K h).length) (hg:grows K h i c=false):growK K h i c=K:=by
 have e:zmax (cth (kth K h) i) c=cth (kth K h) i:=by simpa [grows] using hg
 unfold growK
 rw [e,ny (kY hi),ny (nz hh)]
structure MAt (m:Mem) (sid:Nat) (ids:Nat→Nat) (n:Nat) (D:List Int) (K:List (List (List Int))) (mid:Nat) (mv:Bool):Prop where
 s:SAt m sid ids n D K
 K4:K.length=4
 more:m.h mid=some (.cells [.bool mv])
 mlt:mid < m.nx
 ms:mid≠sid
 mi:∀h,h < 4→kth K h≠[]→mid≠ids h
theorem MAt.mono {m m':Mem} {sid:Nat} {ids:Nat→Nat} {n:Nat} {D:List Int} {K:List (List (List Int))} {mid:Nat} {mv:Bool} (s:MAt m sid ids n D K mid mv) (hnx:m.nx≤m'.nx) (hh:∀id,id < m.nx→m'.h id=m.h id):MAt m' sid ids n D K mid mv :=
 ⟨s.s.mono hnx hh,s.K4,by rw [hh _ s.mlt];exact s.more,Nat.lt_of_lt_of_le s.mlt hnx,s.ms,s.mi⟩
theorem sS {m:Mem} {sid:Nat} {ids:Nat→Nat} {n:Nat} {D:List Int} {K:List (List (List Int))} {mid:Nat} {mv:Bool} (s:MAt m sid ids n D K mid mv) {h i:Nat} (hh:h < 4) (hi:i < (kth K h).length) {c:List Int} (hc:c.length=4) :
  ∃m',denC prog ann 61 [.int .i64 h,.int .i64 i,.agg (ints c),.sptr [.ptr sid 0 9],.ptr mid 0 1] m=some (.tup [],m')∧MAt m' sid ids n D (growK K h i c) mid (mv||grows K h i c)∧m.nx≤m'.nx:=by
 obtain⟨V,v1,v2,v3,v4⟩:=s.s.at
 simp only [List.length_cons,List.length_append,dP] at v4
 have v3':=v3 h hh
 obtain⟨c1,c2⟩:=s.s.clock hh hi
 have hne:kth K h≠[]:=fun e=>by rw [e] at hi;simp at hi
 have hc0:(cth (kth K h) i).length=4:=s.s.four h _ (cm hi)
 have hj:=ph hc0 hc Mem.empty
 have hz:=iB hc0 hc
 have hcm:=s.s.cl h hh hne
 have hfl:(flatC ints (kth K h)).length=(kth K h).length*4:=cK (s.s.four h).cells
 have hlt:=s.s.lt h hh hne
 have hslt:=s.s.slt
 have hidsid:=s.s.ne h hh hne
 have hmlt:=s.mlt
 have n1:(sid==m.nx+11)=false:=by simp;omega
 have n2:(ids h==m.nx+11)=false:=by simp;omega
 have n3:(mid==m.nx+11)=false:=by simp;omega
 have ht4:c.take 4=c:=List.take_of_length_le (by omega)
 have hz4:(zmax (cth (kth K h) i) c).take 4=zmax (cth (kth K h) i) c:=List.take_of_length_le (by omega)
 have hc04:(cth (kth K h) i).take 4=cth (kth K h) i:=List.take_of_length_le (by omega)
 rw [kj.al]
 rw [c1] at v3'
 by_cases hg:zmax (cth (kth K h) i) c=cth (kth K h) i
 ·
  have hgr:grows K h i c=false:=by simp [grows,hg]
  rw [nA (by rw [s.K4];exact hh) hi hgr,hgr,Bool.or_false]
  refine⟨⟨upd m.h (m.nx+11) none,m.nx+13+11⟩,?_,s.mono (by simp;omega) (fun id hid=>by have:(id==m.nx+11)=false:=by { simp;omega };simp [this]),by simp;omega⟩
  simp [ht4,hc04,hc,v1,v4,v3',hh,hi,c2,hj,hc0,hz,hz4,n1,n2,hg,Dh hc0 hc0,hc0]
 ·have hgr:grows K h i c=true:=by simp [grows,hg]
  rw [hgr,Bool.or_true]
  have hs:=yI (f:=ints) (k:=4) (l:=kth K h) (i:=i) (a:=zmax (cth (kth K h) i) c) (s.s.four h).cells (by simp [hz]) hi
  simp [hz] at hs
  have hmi:=s.mi h hh hne
  have hms:=s.ms
  have n4:(mid==ids h)=false:=by simpa using hmi
  have n5:(sid==ids h)=false:=by simpa using (fun e=>hidsid e.symm)
  have n6:(ids h==mid)=false:=by simpa using (fun e=>hmi e.symm)
  have n7:(sid==mid)=false:=by simpa using (fun e=>hms e.symm)
  have hb:i*4+4≤(kth K h).length*4:=by omega
  have htd:((flatC ints (kth K h)).drop (i*4)).take 4=ints (cth (kth K h) i):=by
   rw [fD i (s.s.four h).cells,np (kY hi)];exact List.take_left' (by simp [hc0])
  refine⟨⟨upd (upd (upd m.h (m.nx+11) none) (ids h) (some (.cells (flatC ints ((kth K h).set i (zmax (cth (kth K h) i) c)))))) mid (some (.cells [.bool true])),m.nx+13+11+11⟩,?_,?_,by simp;omega⟩
  ·simp [ht4,hc,v1,v4,v3',hh,hi,c2,hj,hc0,hz,hz4,n1,n2,n3,n4,hg,Dh hz hc0,hcm,hfl,hs,hb,htd,s.more]
  ·obtain⟨V,w1,w2,w3⟩:=s.s.st
   have hk:=fun g=>gH (K:=K) (h:=h) (g:=g) (r:=(kth K h).set i (zmax (cth (kth K h) i) c)) (by rw [s.K4];exact hh)
   have hkn:∀g,kth (growK K h i c) g=[]↔kth K g=[]:=by
    intro g
    rw [growK,hk]
    split
    ·rename_i e;subst e;simp
    ·rfl
   have hkl:∀g,(kth (growK K h i c) g).length=(kth K g).length:=by
    intro g
    rw [growK,hk]
    split
    ·rename_i e;subst e;simp
    ·rfl
   have hsl:∀g,slK ids (growK K h i c) g=slK ids K g:=by
    intro g;simp only [slK,hkl,hkn]
   refine⟨⟨⟨V,?_,w2,fun g hg'=>by rw [hsl];exact w3 g hg'⟩,s.s.D4,fun g hg' hne'=>?_,by simp;omega,fun g hg' hne'=>?_,fun g hg' hne'=>s.s.ne g hg' (by rwa [ne_eq,hkn] at hne'),fun g g' a b c' d'=>s.s.inj g g' a b (by rwa [ne_eq,hkn] at c') (by rwa [ne_eq,hkn] at d'),fun g=>?_,fun g=>by rw [hkl];exact s.s.few g⟩,by simp [growK,s.K4],by simp,by simp;omega,s.ms,fun g hg' hne'=>s.mi g hg' (by rwa [ne_eq,hkn] at hne')⟩
   ·simp [n1,n5,n7,w1]
   ·rw [ne_eq,hkn] at hne'
    have m1:(ids g==mid)=false:=by simpa using (fun e=>s.mi g hg' hne' e.symm)
    by_cases e:g=h
    ·subst e
     simp only [growK,hk,if_true]
     simp [m1]
    ·have m2:(ids g==ids h)=false:=by simpa using (fun e'=>e (s.s.inj g h hg' hh hne' hne e'))
     have m3:(ids g==m.nx+11)=false:=by have:=s.s.lt g hg' hne';simp;omega
     have:kth (growK K h i c) g=kth K g:=by rw [growK,hk,if_neg e]
     rw [this]
     simp [m1,m2,m3,s.s.cl g hg' hne']
   ·rw [ne_eq,hkn] at hne'
    have:=s.s.lt g hg' hne'
    simp;omega
   ·rw [growK,hk]
    split
    ·intro x hx
     rcases List.mem_or_eq_of_mem_set hx with hx | rfl
     ·exact s.s.four h x hx
     ·exact hz
    ·exact s.s.four g
end Go.Proofs.YtadofgdidhpnpaaGreatDoor

/-
  THE PROGRAM READS A STORY (3): clocks grow till all messages are in order: the least clocks. Conditions: none.
-/
namespace Go.Proofs.YtadofgdidhpnpaaGreatDoor
open Go.AM
open Go.Proofs.Tryz (prog)
set_option linter.all false
set_option maxRecDepth 10000
structure Super (D:List Int) (N:List Note) (V:Nat→Nat→Nat→Int):Prop where
 unit:∀(h i:Nat),(i:Int) < nth D h→(i:Int)+1≤V h i h
 pos:∀h i g,0≤V h i g
 own:∀(h i g:Nat),(i:Int)+1 < nth D h→V h i g≤V h (i+1) g
 note:∀x∈N,∀g,V x.f.toNat (x.s.toNat - 1) g≤V x.t.toNat (x.r.toNat - 1) g
structure Inv (D:List Int) (N:List Note) (K:List (List (List Int))):Prop where
 rows:∀h,h < D.length→((kth K h).length:Int)=nth D h
 none:∀h,D.length≤h→kth K h=[]
 low:∀V,Super D N V→∀h i,i < (kth K h).length→∀g,nth (cth (kth K h) i) g≤V h i g
 unit:∀(h i:Nat),i < (kth K h).length→(i:Int)+1≤nth (cth (kth K h) i) h
 pos:∀h i,i < (kth K h).length→∀g,0≤nth (cth (kth K h) i) g
theorem dS {a b:List Int} (hl:a.length=b.length) (g:Nat):nth (zmax a b) g=max (nth a g) (nth b g):=by
 simp only [nth,List.getD,zmax,List.getElem?_zipWith]
 rcases Nat.lt_or_ge g a.length with h | h
 ·simp [List.getElem?_eq_getElem h,List.getElem?_eq_getElem (show g < b.length by omega)]
 ·simp [List.getElem?_eq_none h,List.getElem?_eq_none (show b.length≤g by omega)]
theorem Inv.grow {D:List Int} {N:List Note} {K:List (List (List Int))} (I:Inv D N K) (hK:K.length=4) (hf:∀h,Four (kth K h)) {h i:Nat} (hh:h < 4) (hi:i < (kth K h).length) {c:List Int} (hc:c.length=4)
  (hl:∀V,Super D N V→∀g,nth c g≤V h i g):Inv D N (growK K h i c):=by
 have hk:=fun g=>gH (K:=K) (h:=h) (g:=g) (r:=(kth K h).set i (zmax (cth (kth K h) i) c)) (by rw [hK];exact hh)
 have hkl:∀g,(kth (growK K h i c) g).length=(kth K g).length:=by
  intro g;rw [growK,hk];split
  ·rename_i e;subst e;simp
  ·rfl
 have hc0:(cth (kth K h) i).length=4:=hf h _ (cm hi)
 have hcth:∀g j,j < (kth K g).length→cth (kth (growK K h i c) g) j=if g=h∧j=i then zmax (cth (kth K h) i) c else cth (kth K g) j:=by
  intro g j hj
  rw [growK,hk]
  by_cases e:g=h
  ·subst e
   simp only [if_true,true_and]
   simp only [cth,List.getD,List.getElem?_set]
   by_cases e2:i=j
   ·subst e2;simp [hi]
   ·have:¬j=i:=fun x=>e2 x.symm
    simp [e2,this]
  ·simp [e]
 refine⟨fun g hg=>by rw [hkl];exact I.rows g hg,fun g hg=>List.length_eq_zero_iff.1 (by rw [hkl,I.none g hg];rfl),fun V hV g j hj q=>?_,fun g j hj=>?_,fun g j hj q=>?_⟩
 ·rw [hkl] at hj
  rw [hcth g j hj]
  split
  ·rename_i e;obtain⟨rfl,rfl⟩:=e
   rw [dS (by rw [hc0,hc])]
   have:=I.low V hV g j hj q;have:=hl V hV q;omega
  ·exact I.low V hV g j hj q
 ·rw [hkl] at hj
  rw [hcth g j hj]
  split
  ·rename_i e;obtain⟨rfl,rfl⟩:=e
   rw [dS (by rw [hc0,hc])]
   have:=I.unit g j hj;omega
  ·exact I.unit g j hj
 ·rw [hkl] at hj
  rw [hcth g j hj]
  split
  ·rename_i e;obtain⟨rfl,rfl⟩:=e
   rw [dS (by rw [hc0,hc])]
   have:=I.pos g j hj q;omega
  ·exact I.pos g j hj q
def tot (K:List (List (List Int))):Int:=(K.map fun r=>(r.map List.sum).sum).sum
theorem iC {α:Type} (f:α→Int):∀(l:List α) (i:Nat) (a b:α),l[i]?=some b→((l.set i a).map f).sum=(l.map f).sum - f b+f a
 | [],i,a,b,h=>by simp at h
 | x::l,0,a,b,h=>by simp at h;subst h;simp;omega
 | x::l,i+1,a,b,h=>by
  have:=iC f l i a b (by simpa using h)
  simp only [List.set_cons_succ,List.map_cons,List.sum_cons,this];omega
theorem sR:∀(a b:List Int),a.length=b.length→a.sum≤(zmax a b).sum∧(zmax a b≠a→a.sum < (zmax a b).sum)
 | [],[],_=>⟨by simp [zmax],fun h=>absurd rfl h⟩
 | x::a,y::b,h=>by
  obtain⟨h1,h2⟩:=sR a b (by simpa using h)
  simp only [zmax,List.zipWith_cons_cons,List.sum_cons] at h1 h2 ⊢
  refine⟨by omega,fun hne=>?_⟩
  by_cases e:max x y=x
  ·have:List.zipWith max a b≠a:=fun e2=>hne (by rw [e,e2])
   have:=h2 this
   omega
  ·omega
theorem Bc {K:List (List (List Int))} (hK:K.length=4) (hf:∀h,Four (kth K h)) {h i:Nat} (hh:h < 4) (hi:i < (kth K h).length) {c:List Int} (hc:c.length=4) :
  (grows K h i c=false→growK K h i c=K)∧(grows K h i c=true→tot K < tot (growK K h i c)):=by
 refine⟨nA (by rw [hK];exact hh) hi,fun hg=>?_⟩
 have hc0:(cth (kth K h) i).length=4:=hf h _ (cm hi)
 have hne:zmax (cth (kth K h) i) c≠cth (kth K h) i:=by simpa [grows] using hg
 have h1:=(sR (cth (kth K h) i) c (by rw [hc0,hc])).2 hne
 have h2:=iC (fun r:List (List Int)=>(r.map List.sum).sum) K h ((kth K h).set i (zmax (cth (kth K h) i) c)) (kth K h) (nz (by rw [hK];exact hh))
 have h3:=iC (List.sum:List Int→Int) (kth K h) i (zmax (cth (kth K h) i) c) (cth (kth K h) i) (kY hi)
 simp only [tot,growK]
 rw [h2,h3]
 omega
def Prog (K0 K:List (List (List Int))) (mv:Bool) (E:Prop):Prop:=(mv=false∧K=K0∧E)∨(mv=true∧tot K0 < tot K)
theorem Prog.step {K0 K:List (List (List Int))} {mv:Bool} {E E':Prop} (p:Prog K0 K mv E) (hK:K.length=4) (hf:∀h,Four (kth K h)) {h i:Nat} (hh:h < 4) (hi:i < (kth K h).length) {c:List Int} (hc:c.length=4)
  (hE:E→K=K0→grows K0 h i c=false→E'):Prog K0 (growK K h i c) (mv||grows K h i c) E':=by
 obtain⟨t1,t2⟩:=Bc hK hf hh hi hc
 cases hg:grows K h i c with
 | false =>
  rw [t1 hg,Bool.or_false]
  rcases p with ⟨a,b,e⟩ | p
  ·subst b;exact .inl ⟨a,rfl,hE e rfl hg⟩
  ·exact .inr p
 | true =>
  have:=t2 hg
  rw [Bool.or_true]
  rcases p with ⟨a,b,e⟩ | ⟨a,b⟩
  ·subst b;exact .inr ⟨rfl,this⟩
  ·exact .inr ⟨rfl,by omega⟩
theorem Prog.od {K0 K:List (List (List Int))} {mv:Bool} {E E':Prop} (p:Prog K0 K mv E) (h:E→E'):Prog K0 K mv E':=p.imp (fun⟨a,b,c⟩=>⟨a,b,h c⟩) fun h=>h
def okOwn (K:List (List (List Int))) (h i:Nat):Prop:=grows K h i (cth (kth K h) (i - 1))=false
def okNote (K:List (List (List Int))) (x:Note):Prop:=grows K x.t.toNat (x.r.toNat - 1) (cth (kth K x.f.toNat) (x.s.toNat - 1))=false
structure Pre (D:List Int) (N:List Note):Prop where
 L:Lims D N
 notes:∀x∈N,NoteIn D x
noncomputable def t6:List Item:=[.inBlock 7,.code ai.r41,.code ai.r42,.inLoop ai.l6,.inBlock 6,.code ai.r43,.code ai.k14,.code ai.r59,.code .ret]
theorem Bd {vD vN:AV} {D D4:List Int} {N:List Note} (hD:IsInts vD D) (P:Pre D N) {sid:Nat} {ids:Nat→Nat} {mid:Nat} {K0:List (List (List Int))} {h:Nat} (hh:h < D.length):∀(k i:Nat) (m:Mem) (K:List (List (List Int))) (mv:Bool) (E:Prop),(nth D h).toNat - i≤k→1≤i →
  MAt m sid ids D.length D4 K mid mv→Inv D N K→Prog K0 K mv E →
  ∃m' K' mv',ai.L10 (.fptr [vD,vN]) (.fptr [.int .i64 D.length]) (.sptr [.ptr sid 0 9]) (.ptr mid 0 1) (.fn 61 [] [.sptr [.ptr sid 0 9],.ptr mid 0 1]) (.int .i64 h) (.int .i64 i) (.int .i64 D.length) (.int .i64 h) m (.inBlock 9::.code ai.r35::.inLoop ai.l8::.inBlock 8::.code ai.r36::.code ai.k12::t6) =
    ai.L8 (.fptr [vD,vN]) (.fptr [.int .i64 D.length]) (.sptr [.ptr sid 0 9]) (.ptr mid 0 1) (.fn 61 [] [.sptr [.ptr sid 0 9],.ptr mid 0 1]) (.int .i64 D.length) (.int .i64 ((h:Int)+1)) m' (.code ai.r36::.code ai.k12::t6) ∧
   MAt m' sid ids D.length D4 K' mid mv'∧Inv D N K'∧Prog K0 K' mv' (E∧∀j,i≤j→(j:Int) < nth D h→okOwn K0 h j):=by
 have hn4:=P.L.n4
 have hwh:IntKind.wrap .i64 ((h:Int)+1)=(h:Int)+1:=bc (by omega) (by omega)
 have hpos:=P.L.lo h
 have h6:=P.L.hi h
 intro k
 induction k with
 | zero =>
  intro i m K mv E hk h1 s I p
  refine⟨m,K,mv,?_,s,I,p.od fun e=>⟨e,fun j h2 h3=>by omega⟩⟩
  rw [ai.uE]
  have hni:¬(i:Int) < nth D h:=by omega
  simp [hD.idx hh,bF hh,hni,hwh,t6]
 | succ k ih =>
  intro i m K mv E hk h1 s I p
  by_cases h3:(i:Int) < nth D h
  ·have hr:=I.rows h hh
   have hi:i < (kth K h).length:=by omega
   have hi1:i - 1 < (kth K h).length:=by omega
   have hh4:h < 4:=by omega
   have hc:(cth (kth K h) (i - 1)).length=4:=s.s.four h _ (cm hi1)
   obtain⟨V,v1,v2,v3,v4⟩:=s.s.at
   simp only [List.length_cons,List.length_append,dP] at v4
   have v3':=v3 h hh4
   obtain⟨c1,c2⟩:=s.s.clock hh4 hi1
   rw [c1] at v3'
   have hw1:IntKind.wrap .i64 ((i:Int) - 1)=((i - 1:Nat):Int):=by rw [bc (by omega) (by omega)];omega
   have hwi:IntKind.wrap .i64 ((i:Int)+1)=(i:Int)+1:=bc (by omega) (by omega)
   obtain⟨m1,g1,g2,g3⟩:=sS s hh4 hi hc
   have I1:Inv D N (growK K h i (cth (kth K h) (i - 1))):=I.grow s.K4 s.s.four hh4 hi hc fun V hV g=>by
    have e1:=I.low V hV h (i - 1) hi1 g
    have e2:=hV.own h (i - 1) g (by omega)
    rw [show i - 1+1=i by omega] at e2
    omega
   have p1:=p.step s.K4 s.s.four hh4 hi hc (E':=E∧okOwn K0 h i) fun e eK hg=>⟨e,by subst eK;exact hg⟩
   obtain⟨m',K',mv',i1,i2,i3,i4⟩:=ih (i+1) m1 _ _ _ (by omega) (by omega) g2 I1 p1
   refine⟨m',K',mv',?_,i2,i3,i4.od fun⟨⟨e1,e2⟩,e3⟩=>⟨e1,fun j h4 h5=>?_⟩⟩
   ·rw [← i1,ai.uE]
    simp [hD.idx hh,bF hh,h3,v1,v4,v3',hh4,hw1,hi1,c2,g1,hwi]
   ·by_cases e:j=i
    ·subst e;exact e2
    ·exact e3 j (by omega) h5
  ·refine⟨m,K,mv,?_,s,I,p.od fun e=>⟨e,fun j h2 h3=>by omega⟩⟩
   rw [ai.uE]
   simp [hD.idx hh,bF hh,h3,hwh,t6]
theorem yT {vD vN:AV} {D D4:List Int} {N:List Note} (hD:IsInts vD D) (P:Pre D N) {sid:Nat} {ids:Nat→Nat} {mid:Nat} {K0:List (List (List Int))}:∀(k h:Nat) (m:Mem) (K:List (List (List Int))) (mv:Bool) (E:Prop),h+k=D.length →
  MAt m sid ids D.length D4 K mid mv→Inv D N K→Prog K0 K mv E →
  ∃m' K' mv',ai.L8 (.fptr [vD,vN]) (.fptr [.int .i64 D.length]) (.sptr [.ptr sid 0 9]) (.ptr mid 0 1) (.fn 61 [] [.sptr [.ptr sid 0 9],.ptr mid 0 1]) (.int .i64 D.length) (.int .i64 h) m (.code ai.r36::.code ai.k12::t6) =
    ai.L8 (.fptr [vD,vN]) (.fptr [.int .i64 D.length]) (.sptr [.ptr sid 0 9]) (.ptr mid 0 1) (.fn 61 [] [.sptr [.ptr sid 0 9],.ptr mid 0 1]) (.int .i64 D.length) (.int .i64 D.length) m' (.code ai.r36::.code ai.k12::t6) ∧
   MAt m' sid ids D.length D4 K' mid mv'∧Inv D N K'∧Prog K0 K' mv' (E∧∀(g j:Nat),h≤g→g < D.length→1≤j→(j:Int) < nth D g→okOwn K0 g j):=by
 have hn4:=P.L.n4
 intro k
 induction k with
 | zero =>
  intro h m K mv E hk s I p
  have e:h=D.length:=by omega
  subst e
  exact⟨m,K,mv,rfl,s,I,p.od fun e=>⟨e,fun g j h2 h3=>by omega⟩⟩
 | succ k ih =>
  intro h m K mv E hk s I p
  have hh:h < D.length:=by omega
  obtain⟨m1,K1,mv1,a1,a2,a3,a4⟩:=Bd hD P (vN:=vN) (sid:=sid) (ids:=ids) (mid:=mid) (D4:=D4) (K0:=K0) hh _ 1 m K mv E (Nat.le_refl _) (by omega) s I p
  obtain⟨m',K',mv',i1,i2,i3,i4⟩:=ih (h+1) m1 K1 mv1 _ (by omega) a2 a3 a4
  refine⟨m',K',mv',?_,i2,i3,i4.od fun⟨⟨e1,e2⟩,e3⟩=>⟨e1,fun g j h2 h3 h4 h5=>?_⟩⟩
  ·rw [← i1,ai.Dg]
   simp at a1
   simp [hh,a1]
  ·by_cases e:g=h
   ·subst e;exact e2 j h4 h5
   ·exact e3 g j (by omega) h3 h4 h5
theorem yU {vD vN:AV} {D D4:List Int} {N:List Note} (hN:IsSl noteC vN N) (P:Pre D N) {sid:Nat} {ids:Nat→Nat} {mid:Nat} {K0:List (List (List Int))}:∀(k i:Nat) (m:Mem) (K:List (List (List Int))) (mv:Bool) (E:Prop),N.length - i≤k→i≤N.length →
  MAt m sid ids D.length D4 K mid mv→Inv D N K→Prog K0 K mv E →
  ∃m' K' mv',ai.L12 (.fptr [vD,vN]) (.fptr [.int .i64 D.length]) (.sptr [.ptr sid 0 9]) (.ptr mid 0 1) (.fn 61 [] [.sptr [.ptr sid 0 9],.ptr mid 0 1]) vN (.int .i64 N.length) (.int .i64 i) m t6 =
    ai.L12 (.fptr [vD,vN]) (.fptr [.int .i64 D.length]) (.sptr [.ptr sid 0 9]) (.ptr mid 0 1) (.fn 61 [] [.sptr [.ptr sid 0 9],.ptr mid 0 1]) vN (.int .i64 N.length) (.int .i64 N.length) m' t6 ∧
   MAt m' sid ids D.length D4 K' mid mv'∧Inv D N K'∧Prog K0 K' mv' (E∧∀x∈N.drop i,okNote K0 x):=by
 have hn4:=P.L.n4
 have h24:=P.L.N24
 intro k
 induction k with
 | zero =>
  intro i m K mv E hk h1 s I p
  have e:i=N.length:=by omega
  subst e
  exact⟨m,K,mv,rfl,s,I,p.od fun e=>⟨e,fun x hx=>by simp at hx⟩⟩
 | succ k ih =>
  intro i m K mv E hk h1 s I p
  by_cases h3:i < N.length
  ·have hx:=P.notes _ (uF h3)
   obtain⟨f0,f1,t0,t1,ne,s0,s1,r0,r1⟩:=hx
   have hlf:=P.L.hi (nt N i).f.toNat
   have hlt:=P.L.hi (nt N i).t.toNat
   have rf:=I.rows (nt N i).f.toNat (by omega)
   have rt:=I.rows (nt N i).t.toNat (by omega)
   have if1:(nt N i).s.toNat - 1 < (kth K (nt N i).f.toNat).length:=by omega
   have it1:(nt N i).r.toNat - 1 < (kth K (nt N i).t.toNat).length:=by omega
   have hf4:(nt N i).f.toNat < 4:=by omega
   have ht4:(nt N i).t.toNat < 4:=by omega
   have hc:(cth (kth K (nt N i).f.toNat) ((nt N i).s.toNat - 1)).length=4:=s.s.four _ _ (cm if1)
   have s1':MAt ⟨upd m.h m.nx none,m.nx+1+19⟩ sid ids D.length D4 K mid mv:=s.mono (by simp;omega) (fun id hid=>by have:(id==m.nx)=false:=by { simp;omega };simp [this])
   obtain⟨V,v1,v2,v3,v4⟩:=s1'.s.at
   simp only [List.length_cons,List.length_append,dP] at v4
   have v3':=v3 _ hf4
   obtain⟨c1,c2⟩:=s1'.s.clock hf4 if1
   rw [c1] at v3'
   have hws:IntKind.wrap .i64 ((nt N i).s - 1)=(((nt N i).s.toNat - 1:Nat):Int):=by rw [bc (by omega) (by omega)];omega
   have hwr:IntKind.wrap .i64 ((nt N i).r - 1)=(((nt N i).r.toNat - 1:Nat):Int):=by rw [bc (by omega) (by omega)];omega
   have hwi:IntKind.wrap .i64 ((i:Int)+1)=(i:Int)+1:=bc (by omega) (by omega)
   have et:(((nt N i).t.toNat:Nat):Int)=(nt N i).t:=by omega
   obtain⟨m1,g1,g2,g3⟩:=sS s1' ht4 it1 hc
   rw [et] at g1
   have I1:Inv D N (growK K (nt N i).t.toNat ((nt N i).r.toNat - 1) (cth (kth K (nt N i).f.toNat) ((nt N i).s.toNat - 1))):=I.grow s.K4 s.s.four ht4 it1 hc fun V hV g=>by
    have e1:=I.low V hV _ _ if1 g
    have e2:=hV.note _ (uF h3) g
    omega
   have p1:=p.step s.K4 s.s.four ht4 it1 hc (E':=E∧okNote K0 (nt N i)) fun e eK hg=>⟨e,by subst eK;exact hg⟩
   obtain⟨m',K',mv',i1,i2,i3,i4⟩:=ih (i+1) m1 _ _ _ (by omega) (by omega) g2 I1 p1
   refine⟨m',K',mv',?_,i2,i3,i4.od fun⟨⟨e1,e2⟩,e3⟩=>⟨e1,fun x hx=>?_⟩⟩
   ·rw [← i1,ai.Be]
    have hf5:(decide (0≤(nt N i).f)&&decide ((nt N i).f < 4))=true:=by simp;omega
    simp at v1 c2
    simp [h3,hN.idx (cr N) h3,cL h3,noteC,hws,hwr,f0,show(nt N i).f < 4 by omega,v1,v4,v3',if1,c2,g1,hwi]
   ·rw [lY h3] at hx
    rcases List.mem_cons.1 hx with rfl | hx
    ·exact e2
    ·exact e3 x hx
  ·have e:i=N.length:=by omega
   subst e
   exact⟨m,K,mv,rfl,s,I,p.od fun e=>⟨e,fun x hx=>by simp at hx⟩⟩
def Closed (D:List Int) (N:List Note) (K:List (List (List Int))):Prop:=(∀(g j:Nat),g < D.length→1≤j→(j:Int) < nth D g→okOwn K g j)∧∀x∈N,okNote K x
theorem iU {B:Int} (hB:0≤B):∀(l:List Int),(∀x∈l,x≤B)→l.sum≤l.length*B
 | [],_=>by simp
 | x::l,h=>by
  have h1:=h x (by simp)
  have h2:=iU hB l (fun y hy=>h y (by simp [hy]))
  simp only [List.sum_cons,List.length_cons,Int.natCast_add,Int.add_mul]
  omega
theorem Inv.tot {D:List Int} {N:List Note} {K:List (List (List Int))} (I:Inv D N K) (L:Lims D N) (hK:K.length=4) (hf:∀h,Four (kth K h)) (h6:∀h,(kth K h).length≤6):Proofs.YtadofgdidhpnpaaGreatDoor.tot K≤576:=by
 have hV:Super D N (fun h i g=>nth D g):=⟨fun h i hi=>by omega,fun h i g=>L.lo g,fun _ _ _ _=>Int.le_refl _,fun _ _ _=>Int.le_refl _⟩
 have hc:∀h,∀c∈kth K h,c.sum≤24:=by
  intro h c hc
  obtain⟨i,hi,rfl⟩:=List.mem_iff_getElem.1 hc
  have e:(kth K h)[i]=cth (kth K h) i:=by simp [cth,List.getD,List.getElem?_eq_getElem hi]
  rw [e]
  have h4:=hf h _ (cm hi)
  have:=iU (B:=6) (by omega) (cth (kth K h) i) (fun x hx=>by
   obtain⟨g,hg,rfl⟩:=List.mem_iff_getElem.1 hx
   rw [gF hg]
   have h1:=I.low _ hV h i hi g
   have h2:=L.hi g
   omega)
  omega
 have hr:∀r∈K,(r.map List.sum).sum≤144:=by
  intro r hr
  obtain⟨h,hh,rfl⟩:=List.mem_iff_getElem.1 hr
  have e:K[h]=kth K h:=by simp [kth,List.getD,List.getElem?_eq_getElem hh]
  rw [e]
  have:=iU (B:=24) (by omega) ((kth K h).map List.sum) (fun x hx=>by
   obtain⟨c,h1,rfl⟩:=List.mem_map.1 hx
   exact hc h c h1)
  have h2:=h6 h
  rw [List.length_map] at this
  omega
 have:=iU (B:=144) (by omega) (K.map fun r=>(r.map List.sum).sum) (fun x hx=>by
  obtain⟨r,h1,rfl⟩:=List.mem_map.1 hx
  exact hr r h1)
 rw [List.length_map,hK] at this
 exact this
theorem Bf {vD vN:AV} {D D4:List Int} {N:List Note} (hD:IsInts vD D) (hN:IsSl noteC vN N) (P:Pre D N) {sid:Nat} {ids:Nat→Nat} {mid:Nat} {m:Mem} {K:List (List (List Int))} (s:MAt m sid ids D.length D4 K mid true) (I:Inv D N K) :
  ∃m' K' mv' mid',ai.L6 (.fptr [vD,vN]) (.fptr [.int .i64 D.length]) (.sptr [.ptr sid 0 9]) (.ptr mid 0 1) m [.code ai.r43,.code ai.k14,.code ai.r59,.code .ret] =
    ai.L6 (.fptr [vD,vN]) (.fptr [.int .i64 D.length]) (.sptr [.ptr sid 0 9]) (.ptr mid' 0 1) m' [.code ai.r43,.code ai.k14,.code ai.r59,.code .ret] ∧
   MAt m' sid ids D.length D4 K' mid' mv'∧Inv D N K'∧Prog K K' mv' (Closed D N K):=by
 have s0:MAt ⟨upd m.h mid (some (.cells [.bool false])),m.nx⟩ sid ids D.length D4 K mid false:=by
  obtain⟨V,w1,w2,w3⟩:=s.s.st
  have n1:(sid==mid)=false:=by simpa using (fun e=>s.ms e.symm)
  refine⟨⟨⟨V,by simpa [n1] using w1,w2,w3⟩,s.s.D4,fun h a b=>?_,s.s.slt,s.s.lt,s.s.ne,s.s.inj,s.s.four,s.s.few⟩,s.K4,by simp,s.mlt,s.ms,s.mi⟩
  have n2:(ids h==mid)=false:=by simpa using (fun e=>s.mi h a b e.symm)
  simpa [n2] using s.s.cl h a b
 obtain⟨m1,K1,mv1,a1,a2,a3,a4⟩:=yT hD P (vN:=vN) (sid:=sid) (ids:=ids) (mid:=mid) (D4:=D4) (K0:=K) D.length 0 _ K false True (by omega) s0 I (.inl ⟨rfl,rfl,trivial⟩)
 obtain⟨m2,K2,mv2,b1,b2,b3,b4⟩:=yU (vD:=vD) hN P (sid:=sid) (ids:=ids) (mid:=mid) (D4:=D4) (K0:=K) N.length 0 m1 K1 mv1 _ (by omega) (by omega) a2 a3 a4
 refine⟨⟨upd m2.h m2.nx (some (.cells [.bool mv2])),m2.nx+1⟩,K2,mv2,m2.nx,?_,?_,b3,b4.od fun⟨⟨_,e1⟩,e2⟩=>⟨fun g j hg h1 h2=>e1 g j (by omega) hg h1 h2,by simpa using e2⟩⟩
 ·
  have x1:ai.L8 (.fptr [vD,vN]) (.fptr [.int .i64 D.length]) (.sptr [.ptr sid 0 9]) (.ptr mid 0 1) (.fn 61 [] [.sptr [.ptr sid 0 9],.ptr mid 0 1]) (.int .i64 D.length) (.int .i64 D.length) m1 (.code ai.r36::.code ai.k12::t6) =
    ai.L12 (.fptr [vD,vN]) (.fptr [.int .i64 D.length]) (.sptr [.ptr sid 0 9]) (.ptr mid 0 1) (.fn 61 [] [.sptr [.ptr sid 0 9],.ptr mid 0 1]) vN (.int .i64 N.length) (.int .i64 0) m1 t6:=by
   rw [ai.Dg]
   simp [hN.len]
  have x2:ai.L12 (.fptr [vD,vN]) (.fptr [.int .i64 D.length]) (.sptr [.ptr sid 0 9]) (.ptr mid 0 1) (.fn 61 [] [.sptr [.ptr sid 0 9],.ptr mid 0 1]) vN (.int .i64 N.length) (.int .i64 N.length) m2 t6 =
    ai.L6 (.fptr [vD,vN]) (.fptr [.int .i64 D.length]) (.sptr [.ptr sid 0 9]) (.ptr m2.nx 0 1) ⟨upd m2.h m2.nx (some (.cells [.bool mv2])),m2.nx+1⟩ [.code ai.r43,.code ai.k14,.code ai.r59,.code .ret]:=by
   rw [ai.Be]
   simp [t6,b2.more]
  rw [← x2,← b1]
  simp at x1 a1
  rw [ai.jS]
  simp [s.more]
  simp only [t6] at x1 a1 ⊢
  rw [a1,x1]
 ·have s2:=b2.s.mono (m':=⟨upd m2.h m2.nx (some (.cells [.bool mv2])),m2.nx+1⟩) (by simp) (fun id hid=>by have:(id==m2.nx)=false:=by { simp;omega };simp [this])
  exact⟨s2,b2.K4,by simp,by simp,by have:=b2.s.slt;omega,fun h a b=>by have:=b2.s.lt h a b;omega⟩
theorem A6 {vD vN:AV} {D D4:List Int} {N:List Note} (hD:IsInts vD D) (hN:IsSl noteC vN N) (P:Pre D N) {sid:Nat} {ids:Nat→Nat}:∀(k:Nat) (mid:Nat) (m:Mem) (K:List (List (List Int))) (mv:Bool),(576 - tot K).toNat≤k →
  MAt m sid ids D.length D4 K mid mv→Inv D N K→(mv=false→Closed D N K) →
  ∃K',Inv D N K'∧Closed D N K'∧K'.length=4∧(∀h,Four (kth K' h))∧(∀h,(kth K' h).length≤6)∧ai.L6 (.fptr [vD,vN]) (.fptr [.int .i64 D.length]) (.sptr [.ptr sid 0 9]) (.ptr mid 0 1) m [.code ai.r43,.code ai.k14,.code ai.r59,.code .ret] =
   if badAll K' D.length 0 then failR else okR D.length D4 K':=by
 have last:∀(mid:Nat) (m:Mem) (K:List (List (List Int))),MAt m sid ids D.length D4 K mid false→ai.L6 (.fptr [vD,vN]) (.fptr [.int .i64 D.length]) (.sptr [.ptr sid 0 9]) (.ptr mid 0 1) m [.code ai.r43,.code ai.k14,.code ai.r59,.code .ret] =
   if badAll K D.length 0 then failR else okR D.length D4 K:=by
  intro mid m K s
  have:=Hz P.L.n4 D.length 0 m (by omega) (by omega) s.s
  simp at this
  rw [ai.jS]
  simp [s.more,this]
 intro k
 induction k with
 | zero =>
  intro mid m K mv hk s I hcl
  cases mv with
  | false=>exact⟨K,I,hcl rfl,s.K4,s.s.four,s.s.few,last mid m K s⟩
  | true =>
   obtain⟨m',K',mv',mid',e,s',I',p⟩:=Bf hD hN P s I
   rcases p with ⟨rfl,rfl,hc⟩ | ⟨rfl,hlt⟩
   ·exact⟨_,I',hc,s'.K4,s'.s.four,s'.s.few,by rw [e];exact last mid' m' _ s'⟩
   ·exfalso
    have:=I'.tot P.L s'.K4 s'.s.four s'.s.few
    omega
 | succ k ih =>
  intro mid m K mv hk s I hcl
  cases mv with
  | false=>exact⟨K,I,hcl rfl,s.K4,s.s.four,s.s.few,last mid m K s⟩
  | true =>
   obtain⟨m',K',mv',mid',e,s',I',p⟩:=Bf hD hN P s I
   rcases p with ⟨rfl,rfl,hc⟩ | ⟨rfl,hlt⟩
   ·exact⟨_,I',hc,s'.K4,s'.s.four,s'.s.few,by rw [e];exact last mid' m' _ s'⟩
   ·obtain⟨Kf,i1,i2,i3,i4,i5,i6⟩:=ih mid' m' K' true (by have:=I'.tot P.L s'.K4 s'.s.four s'.s.few;omega) s' I' (fun h=>by cases h)
    exact⟨Kf,i1,i2,i3,i4,i5,by rw [e];exact i6⟩
end Go.Proofs.YtadofgdidhpnpaaGreatDoor

/-
  THE PROGRAM READS A STORY (4): the whole of it. Conditions: none.
-/
namespace Go.Proofs.YtadofgdidhpnpaaGreatDoor
open Go.AM
open Go.Proofs.Tryz (prog)
set_option linter.all false
set_option maxRecDepth 10000
def unitC (h i:Nat):List Int:=[0,0,0,0].set h ((i:Int)+1)
def units (h k:Nat):List (List Int):=(List.range k).map (unitC h)
noncomputable def tK:List Item:=[.code ai.r24,.code ai.k6,.code ai.r43,.code ai.k14,.code ai.r59,.code .ret]
theorem SAt.push {m m':Mem} {sid:Nat} {ids:Nat→Nat} {n:Nat} {D:List Int} {K:List (List (List Int))} (s:SAt m sid ids n D K) (hK:K.length=4) {h:Nat} (hh:h < 4) {c:List Int} (hc:c.length=4) (hl:(kth K h).length < 6) {V:List AV}
  (hV:m.h sid=some (.cells (.int .i64 n::(ints D++V)))) (j:Nat) (hj:(kth K h=[]∧m.nx≤j∧j < m'.nx)∨(kth K h≠[]∧j=ids h)) (hnx:m.nx≤m'.nx)
  (h1:m'.h sid=some (.cells ((AV.int .i64 (n:Int)::(ints D++V)).set (5+h) (.sl j 4 0 ((kth K h).length+1) ((kth K h).length*4+4))))) (h2:m'.h j=some (.cells (flatC ints (kth K h++[c]))))
  (h3:∀id,id < m.nx→id≠sid→id≠j→m'.h id=m.h id):SAt m' sid (fun g=>if g=h then j else ids g) n D (K.set h (kth K h++[c])):=by
 have hk:=fun g=>gH (K:=K) (h:=h) (g:=g) (r:=kth K h++[c]) (by omega)
 obtain⟨V0,w1,w2,w3⟩:=s.st
 have eV:V0=V:=by
  rw [hV] at w1
  simpa using w1.symm
 subst eV
 have hjs:j≠sid:=by
  rcases hj with ⟨_,a,_⟩ | ⟨a,e⟩
  ·have:=s.slt;omega
  ·rw [e];exact s.ne h hh a
 have hjl:j < m'.nx:=by
  rcases hj with ⟨_,_,a⟩ | ⟨a,e⟩
  ·exact a
  ·rw [e];exact Nat.lt_of_lt_of_le (s.lt h hh a) hnx
 have hjg:∀g,g < 4→kth K g≠[]→g≠h→ids g≠j:=by
  intro g hg hne e
  rcases hj with ⟨_,a,_⟩ | ⟨a,e2⟩
  ·have:=s.lt g hg hne;omega
  ·rw [e2];exact fun e3=>e (s.inj g h hg hh hne a e3)
 have es:(AV.int .i64 (n:Int)::(ints D++V0)).set (5+h) (.sl j 4 0 ((kth K h).length+1) ((kth K h).length*4+4))=.int .i64 n::(ints D++V0.set h (.sl j 4 0 ((kth K h).length+1) ((kth K h).length*4+4))):=by
  rw [show 5+h=(4+h)+1 by omega,List.set_cons_succ,List.set_append_right _ _ (by simp [s.D4])]
  simp [s.D4]
 rw [es] at h1
 refine⟨⟨_,h1,by simp [w2],fun g hg=>?_⟩,s.D4,fun g hg hne=>?_,Nat.lt_of_lt_of_le s.slt hnx,fun g hg hne=>?_,fun g hg hne=>?_,fun g g' hg hg' hne hne' e=>?_,fun g=>?_,fun g=>?_⟩
 ·simp only [slK,hk]
  by_cases e:g=h
  ·subst e
   simp [vth,List.getD,List.getElem?_set,show g < V0.length by omega,Nat.add_mul]
  ·have e':¬h=g:=fun x=>e x.symm
   have:=w3 g hg
   simp only [slK] at this
   simp only [e,if_false,← this]
   simp [vth,List.getD,List.getElem?_set,e']
 ·simp only [hk] at hne ⊢
  by_cases e:g=h
  ·subst e;simpa using h2
  ·simp only [e,if_false] at hne ⊢
   rw [h3 _ (s.lt g hg hne) (s.ne g hg hne) (hjg g hg hne e)]
   exact s.cl g hg hne
 ·simp only [hk] at hne
  by_cases e:g=h
  ·subst e;simpa using hjl
  ·simp only [e,if_false] at hne ⊢
   exact Nat.lt_of_lt_of_le (s.lt g hg hne) hnx
 ·simp only [hk] at hne
  by_cases e:g=h
  ·subst e;simpa using hjs
  ·simp only [e,if_false] at hne ⊢
   exact s.ne g hg hne
 ·simp only [hk] at hne hne'
  by_cases e1:g=h
  ·by_cases e2:g'=h
   ·rw [e1,e2]
   ·simp only [e1,e2,if_true,if_false] at e hne'
    exact absurd e.symm (hjg g' hg' hne' e2)
  ·by_cases e2:g'=h
   ·simp only [e1,e2,if_true,if_false] at e hne
    exact absurd e (hjg g hg hne e1)
   ·simp only [e1,e2,if_false] at e hne hne'
    exact s.inj g g' hg hg' hne hne' e
 ·rw [hk]
  split
  ·intro x hx
   rcases List.mem_append.1 hx with hx | hx
   ·exact s.four h x hx
   ·simp at hx;rw [hx];exact hc
  ·exact s.four g
 ·rw [hk]
  split
  ·simp;omega
  ·exact s.few g
theorem yR {vD vN:AV} {D D4:List Int} (hD:IsInts vD D) (lo:∀i,0≤nth D i) (h6:∀i,nth D i≤6) (n4:D.length≤4) {sid:Nat} {h:Nat} (hh:h < D.length):∀(k i:Nat) (m:Mem) (ids:Nat→Nat) (K:List (List (List Int))),i+k=(nth D h).toNat→K.length=4→SAt m sid ids D.length D4 K→kth K h=units h i →
  ∃m' ids',SAt m' sid ids' D.length D4 (K.set h (units h (nth D h).toNat)) ∧
   ai.L4 (.fptr [vD,vN]) (.fptr [.int .i64 D.length]) (.sptr [.ptr sid 0 9]) (.int .i64 h) (.int .i64 D.length) (.int .i64 h) (.int .i64 (nth D h)) (.int .i64 i) m (.inBlock 3::.code ai.r23::.inLoop ai.l2::.inBlock 2::tK) =
    ai.L2 (.fptr [vD,vN]) (.fptr [.int .i64 D.length]) (.sptr [.ptr sid 0 9]) (.int .i64 D.length) (.int .i64 ((h:Int)+1)) m' tK:=by
 have hwh:IntKind.wrap .i64 ((h:Int)+1)=(h:Int)+1:=bc (by omega) (by omega)
 have hlo:=lo h
 have hhi:=h6 h
 intro k
 induction k with
 | zero =>
  intro i m ids K hk hK s hu
  have e:K.set h (units h (nth D h).toNat)=K:=by
   rw [show(nth D h).toNat=i by omega,← hu];exact ny (nz (by omega))
  refine⟨m,ids,by rw [e];exact s,?_⟩
  rw [ai.ir]
  have:¬(i:Int) < nth D h:=by omega
  simp [this,hwh,tK]
 | succ k ih =>
  intro i m ids K hk hK s hu
  have hh4:h < 4:=by omega
  have hi:(i:Int) < nth D h:=by omega
  have hwi:IntKind.wrap .i64 ((i:Int)+1)=(i:Int)+1:=bc (by omega) (by omega)
  obtain⟨V,v1,v2,v3,v4⟩:=s.at
  simp only [List.length_cons,List.length_append,dP] at v4
  have v3':=v3 h hh4
  have hlen:(kth K h).length=i:=by rw [hu];simp [units]
  have hlt:=s.slt
  have n1:(sid==m.nx)=false:=by simp;omega
  have hkk:=fun g=>gH (K:=K) (h:=h) (g:=g) (r:=kth K h++[unitC h i]) (by omega)
  have huc:(unitC h i).length=4:=by simp [unitC]
  have huK:kth K h++[unitC h i]=units h (i+1):=by rw [hu];simp [units,List.range_succ]
  have hset:(K.set h (kth K h++[unitC h i])).set h (units h (nth D h).toNat)=K.set h (units h (nth D h).toNat):=by simp
  have huci:[AV.int .i64 0,.int .i64 0,.int .i64 0,.int .i64 0].set h (.int .i64 ((i:Int)+1))=ints (unitC h i):=by
   have:=ints_set [0,0,0,0] h ((i:Int)+1)
   simpa [unitC] using this
  have hut:(unitC h i).take 4=unitC h i:=List.take_of_length_le (by omega)
  have hud:(unitC h i).drop 4=[]:=List.drop_of_length_le (by omega)
  have hw105:IntKind.wrap .i64 ((i:Int)+1)=(i:Int)+1:=hwi
  have fin:∀(m1:Mem) (ids1:Nat→Nat),SAt m1 sid ids1 D.length D4 (K.set h (kth K h++[unitC h i]))→ai.L4 (.fptr [vD,vN]) (.fptr [.int .i64 D.length]) (.sptr [.ptr sid 0 9]) (.int .i64 h) (.int .i64 D.length) (.int .i64 h) (.int .i64 (nth D h)) (.int .i64 i) m (.inBlock 3::.code ai.r23::.inLoop ai.l2::.inBlock 2::tK) =
    ai.L4 (.fptr [vD,vN]) (.fptr [.int .i64 D.length]) (.sptr [.ptr sid 0 9]) (.int .i64 h) (.int .i64 D.length) (.int .i64 h) (.int .i64 (nth D h)) (.int .i64 ((i+1:Nat):Int)) m1 (.inBlock 3::.code ai.r23::.inLoop ai.l2::.inBlock 2::tK) →
    ∃m' ids',SAt m' sid ids' D.length D4 (K.set h (units h (nth D h).toNat)) ∧
   ai.L4 (.fptr [vD,vN]) (.fptr [.int .i64 D.length]) (.sptr [.ptr sid 0 9]) (.int .i64 h) (.int .i64 D.length) (.int .i64 h) (.int .i64 (nth D h)) (.int .i64 i) m (.inBlock 3::.code ai.r23::.inLoop ai.l2::.inBlock 2::tK) =
    ai.L2 (.fptr [vD,vN]) (.fptr [.int .i64 D.length]) (.sptr [.ptr sid 0 9]) (.int .i64 D.length) (.int .i64 ((h:Int)+1)) m' tK:=by
   intro m1 ids1 s1 e
   obtain⟨m',ids',a1,a2⟩:=ih (i+1) m1 ids1 (K.set h (kth K h++[unitC h i])) (by omega) (by simp [hK]) s1 (by rw [hkk];simp [huK])
   rw [hset] at a1
   exact⟨m',ids',a1,by rw [e,a2]⟩
  have hfl:(flatC ints (kth K h)).length=(kth K h).length*4:=cK (s.four h).cells
  by_cases he:kth K h=[]
  ·
   have hi0:i=0:=by rw [he] at hlen;simpa using hlen.symm
   have n2:(sid==m.nx+11)=false:=by simp;omega
   have n3:(m.nx==sid)=false:=by simp;omega
   have n4:(m.nx+11==sid)=false:=by simp;omega
   refine fin ⟨upd (upd (upd m.h m.nx (some (.cells (ints (unitC h i))))) (m.nx+11) (some (.cells (ints (unitC h i))))) sid (some (.cells ((AV.int .i64 (D.length:Int)::(ints D4++V)).set (5+h) (.sl (m.nx+11) 4 0 1 4)))),m.nx+1+15⟩ _
    (s.push hK hh4 huc (by omega) v1 (m.nx+11) (.inl ⟨he,by omega,by simp⟩) (by simp;omega) (by simp [he]) (by simp [he,n4,fV]) (fun id a b c=>by
     have q1:(id==sid)=false:=by simpa using b
     have q2:(id==m.nx+11)=false:=by simpa using c
     have q3:(id==m.nx)=false:=by simp;omega
     simp [q1,q2,q3])) ?_
   rw [ai.ir]
   have hsl:slK ids K h=.nils:=by simp [slK,he]
   rw [hsl] at v3'
   have v3g:∀(p:5+h < (AV.int .i64 (D.length:Int)::(ints D4++V)).length),(AV.int .i64 (D.length:Int)::(ints D4++V))[5+h]=.nils:=fun p=>by
    have:=v3'
    rw [List.getElem?_eq_getElem p] at this
    exact Option.some.inj this
   simp [v3g,hi,hwi,hh4,v1,v4,v3',huci,hut,hud,huc,n1,n2,n3,n4,tK,show 5+h < 9 by omega,Nat.add_assoc]
  ·have hid:=s.lt h hh4 he
   have hne:=s.ne h hh4 he
   have n2:(ids h==m.nx)=false:=by simp;omega
   have n3:(ids h==sid)=false:=by simpa using hne
   have n4:(sid==ids h)=false:=by simpa using (fun e=>hne e.symm)
   refine fin ⟨upd (upd (upd m.h m.nx (some (.cells (ints (unitC h i))))) (ids h) (some (.cells (flatC ints (kth K h++[unitC h i]))))) sid (some (.cells ((AV.int .i64 (D.length:Int)::(ints D4++V)).set (5+h) (.sl (ids h) 4 0 ((kth K h).length+1) ((kth K h).length*4+4))))),m.nx+1+15⟩ _
    (s.push hK hh4 huc (by omega) v1 (ids h) (.inr ⟨he,rfl⟩) (by simp;omega) (by simp) (by simp [n3]) (fun id a b c=>by
     have q1:(id==sid)=false:=by simpa using b
     have q2:(id==ids h)=false:=by simpa using c
     have q3:(id==m.nx)=false:=by simp;omega
     simp [q1,q2,q3])) ?_
   rw [ai.ir]
   have hsl:slK ids K h=.sl (ids h) 4 0 (kth K h).length ((kth K h).length*4):=by simp [slK,he]
   rw [hsl] at v3'
   have v3g:∀(p:5+h < (AV.int .i64 (D.length:Int)::(ints D4++V)).length),(AV.int .i64 (D.length:Int)::(ints D4++V))[5+h]=.sl (ids h) 4 0 (kth K h).length ((kth K h).length*4):=fun p=>by
    have:=v3'
    rw [List.getElem?_eq_getElem p] at this
    exact Option.some.inj this
   simp [v3g,hi,hwi,hh4,v1,v4,v3',huci,hut,hud,huc,n1,n2,n3,n4,s.cl h hh4 he,hfl,show(kth K h).length≤4611686018427387903 by omega,show((kth K h).length+1)*32≤70368744177664 by omega,fg,fV,tK,show 5+h < 9 by omega]
def unitK (D:List Int) (h:Nat):List (List (List Int)):=(List.range 4).map fun g=>if g < h then units g (nth D g).toNat else []
theorem ga (D:List Int) (h g:Nat):kth (unitK D h) g=if g < 4∧g < h then units g (nth D g).toNat else []:=by
 simp only [kth,unitK,List.getD,List.getElem?_map]
 by_cases e:g < 4
 ·rw [List.getElem?_range e];simp [e]
 ·rw [List.getElem?_eq_none (by simp;omega)];simp [e]
theorem yS (D:List Int) {h:Nat} (hh:h < 4):(unitK D h).set h (units h (nth D h).toNat)=unitK D (h+1):=by
 refine List.ext_getElem (by simp [unitK]) fun g h1 h2=>?_
 have hg:g < 4:=by simpa [unitK] using h2
 rw [List.getElem_set]
 simp only [unitK,List.getElem_map,List.getElem_range]
 by_cases e:h=g
 ·subst e;simp
 ·have:g < h+1↔g < h:=by omega
  simp [e,this]
theorem yQ {vD vN:AV} {D D4:List Int} (hD:IsInts vD D) (lo:∀i,0≤nth D i) (h6:∀i,nth D i≤6) (n4:D.length≤4) {sid:Nat}:∀(k h:Nat) (m:Mem) (ids:Nat→Nat),h+k=D.length→SAt m sid ids D.length D4 (unitK D h) →
  ∃m' ids',SAt m' sid ids' D.length D4 (unitK D D.length) ∧
   ai.L2 (.fptr [vD,vN]) (.fptr [.int .i64 D.length]) (.sptr [.ptr sid 0 9]) (.int .i64 D.length) (.int .i64 h) m tK =
    ai.L2 (.fptr [vD,vN]) (.fptr [.int .i64 D.length]) (.sptr [.ptr sid 0 9]) (.int .i64 D.length) (.int .i64 D.length) m' tK:=by
 intro k
 induction k with
 | zero =>
  intro h m ids hk s
  have e:h=D.length:=by omega
  subst e
  exact⟨m,ids,s,rfl⟩
 | succ k ih =>
  intro h m ids hk s
  have hh:h < D.length:=by omega
  obtain⟨m1,ids1,s1,e1⟩:=yR hD lo h6 n4 (vN:=vN) hh _ 0 m ids (unitK D h) (Nat.zero_add _) (by simp [unitK]) s (by rw [ga];simp [units])
  rw [yS D (by omega)] at s1
  obtain⟨m',ids',s',e'⟩:=ih (h+1) m1 ids1 (by omega) s1
  refine⟨m',ids',s',?_⟩
  rw [← e',ai.dt]
  simp at e1
  simp [hh,hD.idx hh,bF hh,e1]
end Go.Proofs.YtadofgdidhpnpaaGreatDoor

/-
  THE PROGRAM READS A STORY (5): the tests ahead. Conditions: none.
-/
namespace Go.Proofs.YtadofgdidhpnpaaGreatDoor
open Go.AM
open Go.Proofs.Tryz (prog)
set_option linter.all false
set_option maxRecDepth 10000
theorem Ba {v:AV} {l:List Int} (h:IsInts v l) (hl:l.length < 1000000):∀(k i:Nat) (x:Int) (m:Mem),l.length - i≤k→i≤l.length →
  cI.L0 v (.int .i64 x) (.int .i64 i) m [.code cI.r8,.code .ret]=some (.int .i64 ((l.drop i).foldl min x),Mem.empty):=by
 intro k
 induction k with
 | zero =>
  intro i x m h1 h2
  have e:i=l.length:=by omega
  subst e
  rw [cI.aM]
  simp [h.len]
 | succ k ih =>
  intro i x m h1 h2
  by_cases h3:i < l.length
  ·have hw:IntKind.wrap .i64 ((i:Int)+1)=(i:Int)+1:=bc (by omega) (by omega)
   have hi:=fun x m=>ih (i+1) x m (by omega) (by omega)
   simp at hi
   rw [cI.aM,dQ h3]
   simp [h.len,h3,h.idx h3,bF h3,hw,hi]
  ·have e:i=l.length:=by omega
   subst e
   rw [cI.aM]
   simp [h.len]
theorem Bb {v:AV} {l:List Int} (h:IsInts v l) (hl:l.length < 1000000):∀(k i:Nat) (x:Int) (m:Mem),l.length - i≤k→i≤l.length →
  cJ.L0 v (.int .i64 x) (.int .i64 i) m [.code cJ.r8,.code .ret]=some (.int .i64 ((l.drop i).foldl max x),Mem.empty):=by
 intro k
 induction k with
 | zero =>
  intro i x m h1 h2
  have e:i=l.length:=by omega
  subst e
  rw [cJ.aM]
  simp [h.len]
 | succ k ih =>
  intro i x m h1 h2
  by_cases h3:i < l.length
  ·have hw:IntKind.wrap .i64 ((i:Int)+1)=(i:Int)+1:=bc (by omega) (by omega)
   have hi:=fun x m=>ih (i+1) x m (by omega) (by omega)
   simp at hi
   rw [cJ.aM,dQ h3]
   simp [h.len,h3,h.idx h3,bF h3,hw,hi]
  ·have e:i=l.length:=by omega
   subst e
   rw [cJ.aM]
   simp [h.len]
theorem A8 {v:AV} {x:Int} {l:List Int} (h:IsInts v (x::l)) (hl:l.length < 100000) (m:Mem):denC prog ann 58 [v] m=some (.int .i64 (l.foldl min x),m):=by
 rw [cI.al _ _ (by simp [h.closed])]
 have:=Ba h (by simp;omega) _ 1 x Mem.empty (Nat.le_refl _) (by simp)
 simp at this
 have hn:¬((l.length:Int)+1 < 1):=by omega
 have h0:=h.idx (i:=0) (by simp) .i64
 simp at h0
 simp [h.len,hn,h0,this]
theorem A9 {v:AV} {x:Int} {l:List Int} (h:IsInts v (x::l)) (hl:l.length < 100000) (m:Mem):denC prog ann 59 [v] m=some (.int .i64 (l.foldl max x),m):=by
 rw [cJ.al _ _ (by simp [h.closed])]
 have:=Bb h (by simp;omega) _ 1 x Mem.empty (Nat.le_refl _) (by simp)
 simp at this
 have hn:¬((l.length:Int)+1 < 1):=by omega
 have h0:=h.idx (i:=0) (by simp) .i64
 simp at h0
 simp [h.len,hn,h0,this]
theorem foldl_min:∀(l:List Int) (x:Int),l.foldl min x≤x∧(∀y∈l,l.foldl min x≤y)∧(l.foldl min x=x∨l.foldl min x∈l)
 | [],x=>⟨Int.le_refl _,(fun _ h=>by cases h),.inl rfl⟩
 | y::l,x=>by
  obtain⟨h1,h2,h3⟩:=foldl_min l (min x y)
  simp only [List.foldl_cons]
  refine⟨by omega,fun z hz=>?_,?_⟩
  ·rcases List.mem_cons.1 hz with rfl | hz
   ·omega
   ·exact h2 z hz
  ·rcases h3 with h3 | h3
   ·rw [h3]
    by_cases e:x≤y
    ·left;omega
    ·right;have:min x y=y:=by omega
     rw [this];simp
   ·right;simp [h3]
theorem foldl_max:∀(l:List Int) (x:Int),x≤l.foldl max x∧(∀y∈l,y≤l.foldl max x)∧(l.foldl max x=x∨l.foldl max x∈l)
 | [],x=>⟨Int.le_refl _,(fun _ h=>by cases h),.inl rfl⟩
 | y::l,x=>by
  obtain⟨h1,h2,h3⟩:=foldl_max l (max x y)
  simp only [List.foldl_cons]
  refine⟨by omega,fun z hz=>?_,?_⟩
  ·rcases List.mem_cons.1 hz with rfl | hz
   ·omega
   ·exact h2 z hz
  ·rcases h3 with h3 | h3
   ·rw [h3]
    by_cases e:y≤x
    ·left;omega
    ·right;have:max x y=y:=by omega
     rw [this];simp
   ·right;simp [h3]
def deedOk (D:List Int) (h i:Int):Bool:=((decide (0≤h)&&decide (h < D.length))&&decide (1≤i))&&decide (i≤nth D h.toNat)
theorem iT {vD vN:AV} {D:List Int} (hD:IsInts vD D) (hl:D.length < 1000000) (h i:Int) (m:Mem):denC prog ann 60 [.int .i64 h,.int .i64 i,.fptr [.int .i64 D.length],.fptr [vD,vN]] m=some (.bool (deedOk D h i),m):=by
 rw [ki.al]
 by_cases q1:0≤h
 ·by_cases q2:h < D.length
  ·by_cases q3:1≤i
   ·simp [q1,q2,q3,hD.sO q1 q2,dh q1 q2,deedOk]
   ·simp [q1,q2,q3,deedOk]
  ·simp [q1,q2,deedOk]
 ·simp [q1,deedOk]
def noteP (D:List Int) (x:Note):Bool:=(deedOk D x.f x.s&&deedOk D x.t x.r)&&!decide (x.f=x.t)
theorem pe {D:List Int} {x:Note}:noteP D x=true↔NoteIn D x:=by
 simp only [noteP,deedOk,Bool.and_eq_true,decide_eq_true_eq,Bool.not_eq_true',decide_eq_false_iff_not]
 constructor
 ·rintro⟨⟨⟨⟨⟨a,b⟩,c⟩,d⟩,⟨⟨e,f⟩,g⟩,h⟩,i⟩
  exact⟨a,b,e,f,i,c,d,g,h⟩
 ·rintro⟨a,b,c,d,e,f,g,h,i⟩
  exact⟨⟨⟨⟨⟨a,b⟩,f⟩,g⟩,⟨⟨c,d⟩,h⟩,i⟩,e⟩
theorem uD {vD vN:AV} {D D4:List Int} {N:List Note} (hD:IsInts vD D) (hN:IsSl noteC vN N) (hl:D.length < 1000000) (hn:N.length < 1000000) {sid:Nat} {ids:Nat→Nat} {K:List (List (List Int))} (Kc:List Item):∀(k i:Nat) (m:Mem),N.length - i≤k→i≤N.length→SAt m sid ids D.length D4 K →
  ((N.drop i).all (noteP D)=true→∃m',SAt m' sid ids D.length D4 K∧ai.L0 (.fptr [vD,vN]) (.fptr [.int .i64 D.length]) (.sptr [.ptr sid 0 9]) (.fn 60 [] [.fptr [.int .i64 D.length],.fptr [vD,vN]]) vN (.int .i64 N.length) (.int .i64 i) m Kc =
   ai.L0 (.fptr [vD,vN]) (.fptr [.int .i64 D.length]) (.sptr [.ptr sid 0 9]) (.fn 60 [] [.fptr [.int .i64 D.length],.fptr [vD,vN]]) vN (.int .i64 N.length) (.int .i64 N.length) m' Kc) ∧
  ((N.drop i).all (noteP D)=false→ai.L0 (.fptr [vD,vN]) (.fptr [.int .i64 D.length]) (.sptr [.ptr sid 0 9]) (.fn 60 [] [.fptr [.int .i64 D.length],.fptr [vD,vN]]) vN (.int .i64 N.length) (.int .i64 i) m Kc=failR):=by
 intro k
 induction k with
 | zero =>
  intro i m h1 h2 s
  have e:i=N.length:=by omega
  subst e
  exact⟨fun _=>⟨m,s,rfl⟩,fun h=>by simp at h⟩
 | succ k ih =>
  intro i m h1 h2 s
  by_cases h3:i < N.length
  ·have hw:IntKind.wrap .i64 ((i:Int)+1)=(i:Int)+1:=bc (by omega) (by omega)
   have s1:SAt ⟨upd m.h m.nx none,m.nx+1⟩ sid ids D.length D4 K:=s.mono (by simp) (fun id hid=>by have:(id==m.nx)=false:=by { simp;omega };simp [this])
   obtain⟨i1,i2⟩:=ih (i+1) ⟨upd m.h m.nx none,m.nx+1⟩ (by omega) (by omega) s1
   simp only [Int.natCast_add,Int.cast_ofNat_Int] at i1 i2
   rw [lY h3,List.all_cons]
   have step:ai.L0 (.fptr [vD,vN]) (.fptr [.int .i64 D.length]) (.sptr [.ptr sid 0 9]) (.fn 60 [] [.fptr [.int .i64 D.length],.fptr [vD,vN]]) vN (.int .i64 N.length) (.int .i64 i) m Kc =
     if noteP D (nt N i) then ai.L0 (.fptr [vD,vN]) (.fptr [.int .i64 D.length]) (.sptr [.ptr sid 0 9]) (.fn 60 [] [.fptr [.int .i64 D.length],.fptr [vD,vN]]) vN (.int .i64 N.length) (.int .i64 ((i:Int)+1)) ⟨upd m.h m.nx none,m.nx+1⟩ Kc else failR:=by
    rw [ai.aM]
    by_cases q1:deedOk D (nt N i).f (nt N i).s=true
    ·by_cases q2:deedOk D (nt N i).t (nt N i).r=true
     ·by_cases q3:(nt N i).f=(nt N i).t
      ·have q1':=q1
       rw [q3] at q1'
       simp [h3,hN.idx (cr N) h3,cL h3,noteC,iT hD hl,q1,q1',q2,q3,noteP,failR]
      ·simp [h3,hN.idx (cr N) h3,cL h3,noteC,iT hD hl,q1,q2,q3,noteP,hw]
     ·have q2':deedOk D (nt N i).t (nt N i).r=false:=by simpa using q2
      simp [h3,hN.idx (cr N) h3,cL h3,noteC,iT hD hl,q1,q2',noteP,failR]
    ·have q1':deedOk D (nt N i).f (nt N i).s=false:=by simpa using q1
     simp [h3,hN.idx (cr N) h3,cL h3,noteC,iT hD hl,q1',noteP,failR]
   rw [step]
   cases hq:noteP D (nt N i) with
   | true=>simp only [Bool.true_and,if_true];exact⟨i1,i2⟩
   | false=>simp
  ·have e:i=N.length:=by omega
   subst e
   exact⟨fun _=>⟨m,s,rfl⟩,fun h=>by simp at h⟩
end Go.Proofs.YtadofgdidhpnpaaGreatDoor

/-
  THE PROGRAM READS A STORY (6): what read hands back. Conditions: none.
-/
namespace Go.Proofs.YtadofgdidhpnpaaGreatDoor
open Go.AM
open Go.Proofs.Tryz (prog)
set_option linter.all false
set_option maxRecDepth 10000
def pad (D:List Int):List Int:=D++List.replicate (4 - D.length) 0
theorem gE {D:List Int} (h:D.length≤4):(pad D).length=4:=by simp [pad];omega
theorem cZ (D:List Int) (h:Nat):nth (pad D) h=nth D h:=by
 simp only [nth,pad,List.getD]
 rcases Nat.lt_or_ge h D.length with h1 | h1
 ·rw [List.getElem?_append_left h1]
 ·rw [List.getElem?_append_right h1,List.getElem?_eq_none h1,List.getElem?_replicate]
  split<;>rfl
theorem A5 {D:List Int} {N:List Note} (P:Pre D N):Inv D N (unitK D D.length):=by
 have n4:=P.L.n4
 have hk:∀h,h < D.length→kth (unitK D D.length) h=units h (nth D h).toNat:=fun h hh=>by rw [ga,if_pos ⟨by omega,hh⟩]
 have hk0:∀h,D.length≤h→kth (unitK D D.length) h=[]:=fun h hh=>by rw [ga,if_neg (by omega)]
 have hc:∀h i,i < (nth D h).toNat→cth (units h (nth D h).toNat) i=unitC h i:=by
  intro h i hi
  simp [cth,units,List.getD,List.getElem?_map,List.getElem?_range hi]
 have hn:∀h i g,nth (unitC h i) g=if g=h∧h < 4 then(i:Int)+1 else 0:=by
  intro h i g
  simp only [unitC,lW]
  have z:nth [0,0,0,0] g=0:=by match g with | 0 | 1 | 2 | 3=>rfl | _+4=>rfl
  rw [z]
  by_cases e:h=g
  ·subst e;simp
  ·have:¬g=h:=fun x=>e x.symm
   simp [e,this]
 refine⟨fun h hh=>by rw [hk h hh];have:=P.L.lo h;simp [units];omega,hk0,fun V hV h i hi g=>?_,fun h i hi=>?_,fun h i hi g=>?_⟩
 all_goals
  rcases Nat.lt_or_ge h D.length with hh | hh
  ·rw [hk h hh] at hi ⊢
   have hi':i < (nth D h).toNat:=by simpa [units] using hi
   rw [hc h i hi',hn]
   first
    | (split
       ·rename_i e;rw [e.1];exact hV.unit h i (by omega)
       ·exact hV.pos h i g)
    | (rw [if_pos ⟨rfl,by omega⟩];omega)
    | (split<;>omega)
  ·rw [hk0 h hh] at hi;simp at hi
theorem yO (D:List Int) (k h:Nat):Four (kth (unitK D k) h):=by
 rw [ga]
 split
 ·intro c hc
  simp only [units,List.mem_map] at hc
  obtain⟨i,_,rfl⟩:=hc
  simp [unitC]
 ·intro c hc;cases hc
theorem yP {vD vN:AV} {D:List Int} {N:List Note} (hD:IsInts vD D) (hN:IsSl noteC vN N) (P:Pre D N) {sid:Nat} {ids:Nat→Nat} {m:Mem} (s:SAt m sid ids D.length (pad D) (unitK D 0)) :
  ∃K',Inv D N K'∧Closed D N K'∧K'.length=4∧(∀h,Four (kth K' h))∧(∀h,(kth K' h).length≤6) ∧
   ai.L0 (.fptr [vD,vN]) (.fptr [.int .i64 D.length]) (.sptr [.ptr sid 0 9]) (.fn 60 [] [.fptr [.int .i64 D.length],.fptr [vD,vN]]) vN (.int .i64 N.length) (.int .i64 N.length) m
    (.code ai.r13::.code ai.k2::tK)=if badAll K' D.length 0 then failR else okR D.length (pad D) K':=by
 obtain⟨m1,ids1,s1,e1⟩:=yQ hD P.L.lo P.L.hi P.L.n4 (vN:=vN) D.length 0 m ids (by omega) s
 have hslt:=s1.slt
 have I:=A5 P
 have M:MAt ⟨upd m1.h m1.nx (some (.cells [.bool true])),m1.nx+1⟩ sid ids1 D.length (pad D) (unitK D D.length) m1.nx true :=
  ⟨s1.mono (by simp) (fun id hid=>by have:(id==m1.nx)=false:=by { simp;omega };simp [this]),by simp [unitK],by simp,by simp,by omega,fun h a b=>by have:=s1.lt h a b;omega⟩
 obtain⟨K',i1,i2,i3,i4,i5,i6⟩:=A6 hD hN P _ m1.nx _ _ true (Nat.le_refl _) M I (fun h=>by cases h)
 refine⟨K',i1,i2,i3,i4,i5,?_⟩
 rw [← i6]
 have x1:ai.L2 (.fptr [vD,vN]) (.fptr [.int .i64 D.length]) (.sptr [.ptr sid 0 9]) (.int .i64 D.length) (.int .i64 D.length) m1 tK =
   ai.L6 (.fptr [vD,vN]) (.fptr [.int .i64 D.length]) (.sptr [.ptr sid 0 9]) (.ptr m1.nx 0 1) ⟨upd m1.h m1.nx (some (.cells [.bool true])),m1.nx+1⟩ [.code ai.r43,.code ai.k14,.code ai.r59,.code .ret]:=by
  rw [ai.dt]
  simp [tK]
 rw [← x1,← e1,ai.aM]
 simp [tK]
theorem nr {v:AV} {l:List Int} (h:IsInts v l):v.isStr=false:=by rcases h with ⟨rfl,_⟩ | ⟨_,rfl⟩<;>rfl
noncomputable def firstM (D:List Int):Mem:=⟨upd (upd (upd Mem.empty.h 0 none) 1 (some (.cells (.int .i64 D.length::(ints (pad D)++[.nils,.nils,.nils,.nils]))))) 2 none,10⟩
theorem A7 {D:List Int} (h:D.length≤4):SAt (firstM D) 1 (fun _=>0) D.length (pad D) (unitK D 0):=by
 have e:∀g,kth (unitK D 0) g=[]:=fun g=>by rw [ga];simp
 refine⟨⟨[.nils,.nils,.nils,.nils],rfl,rfl,fun g hg=>?_⟩,gE h,fun g _ hne=>absurd (e g) hne,by simp [firstM],fun g _ hne=>absurd (e g) hne,fun g _ hne=>absurd (e g) hne,fun g _ _ _ hne=>absurd (e g) hne,yO D 0,fun g=>by rw [e];simp⟩
 simp only [slK,e,if_true]
 match g,hg with | 0,_=>rfl | 1,_=>rfl | 2,_=>rfl | 3,_=>rfl
def failV:AV:=.tup [.nilp,.bool false]
def okV (D:List Int) (K:List (List (List Int))):AV:=.tup [.fptr (.int .i64 D.length::(ints (pad D)++vals4 K)),.bool true]
def ReadRes (D:List Int) (N:List Note) (r:AV):Prop :=
 (Pre D N∧∃K',Inv D N K'∧Closed D N K'∧K'.length=4∧(∀h,Four (kth K' h))∧(∀h,(kth K' h).length≤6)∧r=if badAll K' D.length 0 then failV else okV D K')∨(¬Pre D N∧r=failV)
theorem yN {v:AV} {D:List Int} {N:List Note} (hs:IsTale v D N) (hl:D.length < 100000) (hn:N.length < 100000):∃r,ReadRes D N r∧∀m,denC prog ann 35 [v] m=some (r,m):=by
 obtain⟨vD,vN,rfl,hD,hN⟩:=hs.ex
 have hcl:closedL [AV.agg [vD,vN]]=true:=by simp [hD.closed,hN.closed]
 cases D with
 | nil =>
  refine⟨failV,.inr ⟨fun P=>by have:=P.L.n1;simp at this,rfl⟩,fun m=>?_⟩
  rw [ai.al _ _ hcl]
  simp [hD.one,hN.one,hD.closed,hN.closed,hD.len,failV]
 | cons x l =>
  have hmin:=A8 hD (by simp at hl;omega)
  have hmax:=A9 hD (by simp at hl;omega)
  obtain⟨a1,a2,a3⟩:=foldl_min l x
  obtain⟨b1,b2,b3⟩:=foldl_max l x
  have hn1:¬((l.length:Int)+1 < 1):=by omega
  by_cases q1:(4:Int) < (l.length:Int)+1
  ·refine⟨failV,.inr ⟨fun P=>by have:=P.L.n4;simp at this;omega,rfl⟩,fun m=>?_⟩
   rw [ai.al _ _ hcl]
   simp [hD.one,hN.one,hD.closed,hN.closed,hD.len,hn1,q1,failV]
  ·by_cases q2:(24:Int) < N.length
   ·refine⟨failV,.inr ⟨fun P=>by have:=P.L.N24;omega,rfl⟩,fun m=>?_⟩
    rw [ai.al _ _ hcl]
    simp [hD.one,hN.one,hD.closed,hN.closed,hD.len,hN.len,hn1,q1,q2,failV]
   ·by_cases q3:l.foldl min x < 0
    ·refine⟨failV,.inr ⟨fun P=>?_,rfl⟩,fun m=>?_⟩
     ·have:∃d∈x::l,d < 0:=by
       rcases a3 with e | e
       ·exact⟨x,by simp,by omega⟩
       ·exact⟨_,List.mem_cons_of_mem _ e,q3⟩
      obtain⟨d,hd,hneg⟩:=this
      have:=(P.L.all d hd).1
      omega
     ·rw [ai.al _ _ hcl]
      simp [hD.one,hN.one,hD.closed,hN.closed,hD.len,hN.len,hn1,q1,q2,hmin,q3,failV]
    ·by_cases q4:6 < l.foldl max x
     ·refine⟨failV,.inr ⟨fun P=>?_,rfl⟩,fun m=>?_⟩
      ·have:∃d∈x::l,6 < d:=by
        rcases b3 with e | e
        ·exact⟨x,by simp,by omega⟩
        ·exact⟨_,List.mem_cons_of_mem _ e,q4⟩
       obtain⟨d,hd,hneg⟩:=this
       have:=(P.L.all d hd).2
       omega
      ·rw [ai.al _ _ hcl]
       simp [hD.one,hN.one,hD.closed,hN.closed,hD.len,hN.len,hn1,q1,q2,hmin,hmax,q3,q4,failV]
     ·
      have hd6:∀d∈x::l,0≤d∧d≤6:=by
       intro d hd
       rcases List.mem_cons.1 hd with rfl | hd
       ·omega
       ·have:=a2 d hd;have:=b2 d hd;omega
      have hlen:(x::l).length≤4:=by simp;omega
      have hN24:N.length≤24:=by omega
      have key:∀m,denC prog ann 35 [.agg [vD,vN]] m =
        (ai.L0 (.fptr [vD,vN]) (.fptr [.int .i64 (x::l).length]) (.sptr [.ptr 1 0 9]) (.fn 60 [] [.fptr [.int .i64 (x::l).length],.fptr [vD,vN]]) vN (.int .i64 N.length) (.int .i64 0) (firstM (x::l)) (.code ai.r13::.code ai.k2::tK)).bind fun r=>some (r.1,m):=by
       clear a1 a2 a3 b1 b2 b3 hd6
       generalize l.foldl min x=lo at hmin q3
       generalize l.foldl max x=hi at hmax q4
       intro m
       rw [ai.al _ _ hcl]
       rcases l with _ | ⟨b,_ | ⟨c,_ | ⟨d,_ | ⟨e,l⟩⟩⟩⟩
       all_goals first
        | (simp at hlen;done)
        | (simp [hD.one,hN.one,hD.closed,hN.closed,hD.len,hN.len,hn1,q1,q2,hmin,hmax,q3,q4,tK,sliceArr,bnds,bnd,copyA,hD.src,nr hD,Mem.set,firstM,pad,ints,splice];done)
      have s:=A7 hlen
      have L:¬Pre (x::l) N→ReadRes (x::l) N failV:=fun h=>.inr ⟨h,rfl⟩
      obtain⟨n1,n2⟩:=uD hD hN (by omega) (by omega) (.code ai.r13::.code ai.k2::tK) N.length 0 (firstM (x::l)) (by omega) (by omega) s
      simp only [List.drop_zero,Int.cast_ofNat_Int,Int.ofNat_zero] at n1 n2
      cases hq:N.all (noteP (x::l)) with
      | false =>
       refine⟨failV,L fun P=>?_,fun m=>?_⟩
       ·rw [List.all_eq_false] at hq
        obtain⟨y,hy,h⟩:=hq
        exact h (pe.2 (P.notes y hy))
       ·rw [key,n2 hq];rfl
      | true =>
       have P:Pre (x::l) N:=by
        have hb:∀i,0≤nth (x::l) i∧nth (x::l) i≤6:=by
         intro i
         rcases Nat.lt_or_ge i (x::l).length with h | h
         ·have e:nth (x::l) i=(x::l)[i]:=by simp [nth,List.getD,List.getElem?_eq_getElem h]
          rw [e];exact hd6 _ (List.getElem_mem h)
         ·have e:nth (x::l) i=0:=by simp only [nth,List.getD,List.getElem?_eq_none h];rfl
          rw [e];omega
        have hb2:∀y∈N,NoteIn (x::l) y:=fun y hy=>pe.1 (List.all_eq_true.1 hq y hy)
        exact⟨⟨by simp,hlen,fun i=>(hb i).1,fun i=>(hb i).2,hN24,fun y hy=>⟨(hb2 y hy).f0,(hb2 y hy).f1,(hb2 y hy).t0,(hb2 y hy).t1⟩⟩,hb2⟩
       obtain⟨m1,s1,e1⟩:=n1 hq
       obtain⟨K',i1,i2,i3,i4,i5,i6⟩:=yP hD hN P s1
       refine⟨_,.inl ⟨P,K',i1,i2,i3,i4,i5,rfl⟩,fun m=>?_⟩
       rw [key,e1,i6]
       split<;>rfl
end Go.Proofs.YtadofgdidhpnpaaGreatDoor
