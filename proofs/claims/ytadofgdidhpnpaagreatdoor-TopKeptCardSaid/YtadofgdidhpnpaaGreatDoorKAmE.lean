/-
  THE ABSTRACT MACHINE WITHOUT FUEL: 'den' and 'denC' are the limits of the runs with fuel, and they meet the machine's own equations. Conditions: none.
-/
import Derived.Test.YtadofgdidhpnpaaGreatDoorKAmA
set_option linter.all false
namespace Go.AM
def Tends {R:Type} (X:Nat→Option R) (x:Option R):Prop :=
 (∀n r,X n=some r→X (n+1)=some r)∧∀r,x=some r↔∃n,X n=some r
theorem Tends.le {R:Type} {X:Nat→Option R} {x:Option R} (h:Tends X x) {n m:Nat} (hnm:n≤m) {r:R} (k:X n=some r):X m=some r:=by
 induction hnm with
 | refl=>exact k
 | step _ ih=>exact h.1 _ _ ih
theorem Tends.const {R:Type} (x:Option R):Tends (fun _=>x) x:=⟨fun _ _ h=>h,fun _=>⟨fun h=>⟨0,h⟩,fun⟨_,h⟩=>h⟩⟩
theorem Tends.bind {R T:Type} {X:Nat→Option R} {x:Option R} {F:Nat→R→Option T} {f:R→Option T} (h:Tends X x) (k:∀a,Tends (fun n=>F n a) (f a)) :
  Tends (fun n=>(X n).bind (F n)) (x.bind f):=by
 refine⟨fun n r hr=>?_,fun r=>⟨fun hr=>?_,fun⟨n,hr⟩=>?_⟩⟩
 ·simp only [Option.bind_eq_some_iff] at hr ⊢
  obtain⟨a,h1,h2⟩:=hr
  exact⟨a,h.1 _ _ h1,(k a).1 _ _ h2⟩
 ·simp only [Option.bind_eq_some_iff] at hr
  obtain⟨a,h1,h2⟩:=hr
  obtain⟨n,hn⟩:=(h.2 a).1 h1
  obtain⟨m,hm⟩:=((k a).2 r).1 h2
  refine⟨max n m,?_⟩
  simp only [Option.bind_eq_some_iff]
  exact⟨a,h.le (Nat.le_max_left ..) hn,(k a).le (Nat.le_max_right ..) hm⟩
 ·simp only [Option.bind_eq_some_iff] at hr ⊢
  obtain⟨a,h1,h2⟩:=hr
  exact⟨a,(h.2 a).2 ⟨n,h1⟩,((k a).2 r).2 ⟨n,h2⟩⟩
theorem Tends.map {R T:Type} {X:Nat→Option R} {x:Option R} {f:R→T} (h:Tends X x):Tends (fun n=>(X n).map f) (x.map f):=by
 have:=Tends.bind (F:=fun _ a=>some (f a)) (f:=fun a=>some (f a)) h (fun a=>Tends.const _)
 simpa [Option.map_eq_bind,Function.comp_def] using this
theorem Tends.cond {R:Type} {b:Bool} {X Y:Nat→Option R} {x y:Option R} (h:Tends X x) (k:Tends Y y):Tends (fun n=>bif b then X n else Y n) (bif b then x else y):=by
 cases b<;>assumption
theorem Tends.shift {R:Type} {X:Nat→Option R} {x:Option R} (h:Tends (fun n=>X (n+1)) x) (h0:X 0=none):Tends X x:=by
 refine⟨fun n r hr=>?_,fun r=>⟨fun hr=>?_,fun⟨n,hr⟩=>?_⟩⟩
 ·cases n with
  | zero=>rw [h0] at hr;cases hr
  | succ n=>exact h.1 _ _ hr
 ·obtain⟨n,hn⟩:=(h.2 r).1 hr
  exact⟨n+1,hn⟩
 ·cases n with
  | zero=>rw [h0] at hr;cases hr
  | succ n=>exact(h.2 r).2 ⟨n,hr⟩
theorem Tends.uniq {R:Type} {X:Nat→Option R} {x y:Option R} (h:Tends X x) (k:Tends X y):x=y:=by
 refine Option.ext fun r=>?_
 rw [show(x=some r)↔_ from h.2 r,show(y=some r)↔_ from k.2 r]
theorem oI {R:Type} {X:Nat→Nat→Option R} {f:Nat→Option R} (h:∀i,Tends (fun n=>X n i) (f i)) {r:R}:∀k,(∀i,i < k→f i=some r)→∃n,∀i,i < k→X n i=some r
 | 0,_=>⟨0,fun i hi=>by omega⟩
 | k+1,hk=>by
  obtain⟨n,hn⟩:=oI h k (fun i hi=>hk i (by omega))
  obtain⟨m,hm⟩:=((h k).2 r).1 (hk k (by omega))
  refine⟨max n m,fun i hi=>?_⟩
  rcases Nat.lt_or_ge i k with h1 | h1
  ·exact(h i).le (Nat.le_max_left ..) (hn i h1)
  ·obtain rfl:i=k:=by omega
   exact(h i).le (Nat.le_max_right ..) hm
theorem Tends.allOf {R:Type} {k:Nat} {X:Nat→Nat→Option R} {f:Nat→Option R} (h:∀i,Tends (fun n=>X n i) (f i)):Tends (fun n=>AM.allOf k (X n)) (AM.allOf k f):=by
 refine⟨fun n r hr=>?_,fun r=>⟨fun hr=>?_,fun⟨n,hr⟩=>?_⟩⟩
 ·rw [fo] at hr ⊢
  exact⟨hr.1,fun i hi=>(h i).1 _ _ (hr.2 i hi)⟩
 ·rw [fo] at hr
  obtain⟨n,hn⟩:=oI h k hr.2
  exact⟨n,fo.2 ⟨hr.1,hn⟩⟩
 ·rw [fo] at hr ⊢
  exact⟨hr.1,fun i hi=>((h i).2 r).2 ⟨n,hr.2 i hi⟩⟩
def TendsC (C:Nat→CallF) (c:CallF):Prop:=∀g args m,Tends (fun n=>C n g args m) (c g args m)
theorem ru {pf:FuncId→Bool} {C:Nat→CallF} {c:CallF} (h:TendsC C c) (md:Nat) (m:Mem) (f:AV) (args:List AV):Tends (fun n=>callA pf (C n) md m f args) (callA pf c md m f args):=by
 cases f<;>try exact Tends.const _
 unfold callA
 refine Tends.cond ?_ (Tends.cond (Tends.const _) (h _ _ _))
 refine Tends.cond ?_ (Tends.cond ?_ ?_)
 ·refine Tends.bind (Tends.const _) fun p=>Tends.cond ?_ (Tends.const _)
  exact Tends.bind (h _ _ _) fun _=>Tends.const _
 ·exact Tends.bind (h _ _ _) fun _=>Tends.const _
 ·exact Tends.bind (Tends.const _) fun _=>Tends.bind (h _ _ _) fun _=>Tends.const _
theorem iN {P:Program} {pf:FuncId→Bool} {C:Nat→CallF} {c:CallF} (h:TendsC C c) (md:Nat) (o:Oper) (s:St):Tends (fun n=>opA P pf (C n) md o s) (opA P pf c md o s):=by
 unfold opA
 split<;>try exact Tends.const _
 split<;>try exact Tends.const _
 split<;>try exact Tends.const _
 exact Tends.bind (ru h _ _ _ _) fun _=>Tends.const _
theorem xJ {P:Program} {pf:FuncId→Bool} {C:Nat→CallF} {c:CallF} (h:TendsC C c) (md:Nat) (b:Option Nat) (i:Nat) (o:Oper) (s:St):Tends (fun n=>opI P pf (C n) md b i o s) (opI P pf c md b i o s):=by
 unfold opI
 split
 ·exact iN h _ _ _
 ·split
  ·exact Tends.map (iN h _ _ _)
  ·exact Tends.map (iN h _ _ _)
  ·exact iN h _ _ _
theorem pM {R:Type} (ops:Array Oper) (o:Oper) (s:St) {T F:Nat→St→Option R} {t f:St→Option R} (ht:∀s,Tends (fun n=>T n s) (t s)) (hf:∀s,Tends (fun n=>F n s) (f s)) :
  Tends (fun n=>guardA ops o s (T n) (F n)) (guardA ops o s t f):=by
 unfold guardA
 split
 ·exact ht s
 ·split
  ·exact Tends.const _
  ·split
   ·split
    ·exact Tends.cond (Tends.cond (ht _) (hf _)) (Tends.const _)
    ·exact Tends.cond (Tends.cond (hf _) (ht _)) (Tends.const _)
   ·exact hf s
   ·exact Tends.const _
theorem rv {R:Type} {P:Program} (s:St) (o:Oper) {K:Nat→St→Option R} {k:St→Option R} (h:∀s,Tends (fun n=>K n s) (k s)):Tends (fun n=>nextA P s o (K n)) (nextA P s o k):=by
 unfold nextA
 split
 ·split<;>try exact Tends.const _
  split<;>try exact Tends.const _
  split
  ·exact Tends.bind (Tends.const _) h
  ·exact Tends.allOf fun i=>Tends.bind (Tends.const _) fun _=>Tends.bind (Tends.const _) fun _=>Tends.bind (Tends.const _) h
 ·split<;>try exact Tends.const _
  exact Tends.bind (Tends.const _) fun _=>Tends.bind (Tends.const _) h
 ·exact Tends.const _
theorem fB {R:Type} {P:Program} {pf:FuncId→Bool} {C:Nat→CallF} {c:CallF} (h:TendsC C c) (md:Nat→Nat) (ops:Array Oper) (b:Option Nat) {K:Nat→St→Option R} {k:St→Option R} (hk:∀s,Tends (fun n=>K n s) (k s)) :
  ∀(l:List Oper) (i:Nat) (s:St),Tends (fun n=>opsA P pf (C n) md ops b i l s (K n)) (opsA P pf c md ops b i l s k)
 | [],i,s=>by simp only [opsA];exact hk s
 | o::l,i,s=>by
  simp only [opsA]
  refine pM ops o s (fun s=>?_) (fun s=>?_)
  ·split
   ·exact rv s o fun s=>fB h md ops b hk l _ s
   ·exact Tends.bind (xJ h _ _ _ _ _) fun s=>fB h md ops b hk l _ s
  ·exact Tends.bind (Tends.const _) fun s=>fB h md ops b hk l _ s
theorem lJ {P:Program} {A:FnAnn} {pf:FuncId→Bool} {C:Nat→CallF} {c:CallF} (h:TendsC C c) (fn:Func) {X:Nat→List Item→St→Option Res} {x:List Item→St→Option Res} (hx:∀K s,Tends (fun n=>X n K s) (x K s)) (K:List Item) (s:St) :
  Tends (fun n=>stepA P A pf (C n) fn (X n) K s) (stepA P A pf c fn x K s):=by
 unfold stepA
 split<;>try first | exact Tends.const _ | exact hx _ _
 ·split<;>try exact Tends.const _
  split<;>exact Tends.cond (hx _ _) (Tends.const _)
 ·exact Tends.cond (hx _ _) (hx _ _)
 ·split
  ·exact hx _ _
  ·exact Tends.const _
 ·refine Tends.cond (Tends.const _) (Tends.bind (Tends.const _) fun s=>?_)
  exact fB h _ _ _ (fun s=>Tends.bind (Tends.const _) fun s=>hx _ _) _ _ _
theorem two {R:Type} {x y:Option R} (h:∀r,x=some r→y=some r):Tends (fun n=>match n with | 0=>x | _+1=>y) y:=by
 refine⟨fun n r hr=>?_,fun r=>⟨fun hr=>⟨1,hr⟩,fun⟨n,hr⟩=>?_⟩⟩
 ·cases n with
  | zero=>exact h r hr
  | succ n=>exact hr
 ·cases n with
  | zero=>exact h r hr
  | succ n=>exact hr
theorem tN {P:Program} {A:FnAnn} {pf:FuncId→Bool} {c c':CallF} (h:∀g a m r,c g a m=some r→c' g a m=some r) (fn:Func) {x x':List Item→St→Option Res} (hx:∀K s r,x K s=some r→x' K s=some r) (K:List Item) (s:St) {r:Res}
  (hr:stepA P A pf c fn x K s=some r):stepA P A pf c' fn x' K s=some r:=by
 have:=(lJ (P:=P) (A:=A) (pf:=pf) (C:=fun n=>match n with | 0=>c | _+1=>c') (c:=c') (fun g a m=>by
   have h1:=two (x:=c g a m) (y:=c' g a m) (h g a m)
   have h2:(fun n=>match n with | 0=>c g a m | _+1=>c' g a m)=(fun n=>(match n with | 0=>c | _+1=>c':CallF) g a m):=by
    funext n;cases n<;>rfl
   rw [h2] at h1;exact h1) fn (X:=fun n=>match n with | 0=>x | _+1=>x') (x:=x') (fun K s=>by
   have h1:=two (x:=x K s) (y:=x' K s) (hx K s)
   have h2:(fun n=>match n with | 0=>x K s | _+1=>x' K s)=(fun n=>(match n with | 0=>x | _+1=>x':List Item→St→Option Res) K s):=by
    funext n;cases n<;>rfl
   rw [h2] at h1;exact h1) K s).2 r
 exact this.2 ⟨0,hr⟩
theorem kM {P:Program} {A:Ann}:∀n,(∀f K s r,runA P A n f K s=some r→runA P A (n+1) f K s=some r)∧(∀g a m r,dH P A n g a m=some r→dH P A (n+1) g a m=some r)
 | 0=>⟨fun f K s r h=>by simp [runA] at h,fun g a m r h=>by simp [dH] at h⟩
 | n+1=>by
  obtain⟨h1,h2⟩:=kM n
  constructor
  ·intro f K s r h
   rw [runA] at h ⊢
   simp only [Option.bind_eq_some_iff] at h ⊢
   obtain⟨fn,hf,h⟩:=h
   exact⟨fn,hf,tN h2 fn (h1 f) K s h⟩
  ·intro g a m r h
   rw [dH] at h ⊢
   simp only [Option.bind_eq_some_iff] at h ⊢
   obtain⟨fn,hf,b,hb,h⟩:=h
   refine⟨fn,hf,b,hb,?_⟩
   cases hso:(A g).srt with
   | true=>simpa only [hso,cond_true] using h
   | false =>
   simp only [hso,cond_false] at h ⊢
   cases hle:Nat.ble a.length fn.ntmps with
   | false=>simp [hle] at h
   | true =>
    simp only [hle,cond_true] at h ⊢
    cases hp:(A g).pure with
    | false=>simp only [hp,cond_false] at h ⊢;exact h1 _ _ _ _ h
    | true =>
     simp only [hp,cond_true] at h ⊢
     cases hc:closedL a with
     | false=>simp [hc] at h
     | true =>
      simp only [hc,cond_true,Option.bind_eq_some_iff] at h ⊢
      obtain⟨rr,h3,h4⟩:=h
      exact⟨rr,h1 _ _ _ _ h3,h4⟩
open Classical in
noncomputable def lim {R:Type} (X:Nat→Option R):Option R:=if h:∃r n,X n=some r then some h.choose else none
theorem oJ {R:Type} {X:Nat→Option R} (h:∀n r,X n=some r→X (n+1)=some r):Tends X (lim X):=by
 have le:∀ {n m r},n≤m→X n=some r→X m=some r:=by
  intro n m r hnm k
  induction hnm with
  | refl=>exact k
  | step _ ih=>exact h _ _ ih
 refine⟨h,fun r=>?_⟩
 unfold lim
 constructor
 ·intro hr
  split at hr
  ·rename_i h1
   cases hr
   exact h1.choose_spec
  ·cases hr
 ·rintro⟨n,hn⟩
  have h1:∃r n,X n=some r:=⟨r,n,hn⟩
  rw [dif_pos h1]
  obtain⟨m,hm⟩:=h1.choose_spec
  have h2:=le (Nat.le_max_left n m) hn
  rw [le (Nat.le_max_right n m) hm] at h2
  exact h2
noncomputable def den (P:Program) (A:Ann) (f:FuncId) (K:List Item) (s:St):Option Res:=lim fun n=>runA P A n f K s
noncomputable def denC (P:Program) (A:Ann):CallF:=fun g args m=>lim fun n=>dH P A n g args m
theorem dZ {P:Program} {A:Ann} (f:FuncId) (K:List Item) (s:St):Tends (fun n=>runA P A n f K s) (den P A f K s):=oJ fun n=>(kM n).1 f K s
theorem gm {P:Program} {A:Ann}:TendsC (fun n g args m=>dH P A n g args m) (denC P A):=fun g a m=>oJ fun n=>(kM n).2 g a m
theorem cT (P:Program) (A:Ann) (f:FuncId) (K:List Item) (s:St) :
  den P A f K s=(P.funcs[f]?).bind fun fn=>stepA P (A f) (fun g=>(A g).pure) (denC P A) fn (den P A f) K s:=by
 refine Tends.uniq (dZ f K s) (Tends.shift ?_ (by simp [runA]))
 simp only [runA]
 exact Tends.bind (Tends.const _) fun fn=>lJ gm fn (fun K s=>dZ f K s) K s
theorem pN (P:Program) (A:Ann) (g:FuncId) (args:List AV) (m:Mem) :
  denC P A g args m=(P.funcs[g]?).bind fun fn=>fn.body.bind fun b =>
   bif (A g).srt then libA (A g) g args m else bif Nat.ble args.length fn.ntmps then
    (bif (A g).pure then(bif closedL args then(den P A g [.code b] (initA fn args Mem.empty)).bind fun r=>some (r.1,m) else none)
     else den P A g [.code b] (initA fn args m))
   else none:=by
 refine Tends.uniq (gm g args m) (Tends.shift ?_ (by simp [dH]))
 simp only [dH]
 refine Tends.bind (Tends.const _) fun fn=>Tends.bind (Tends.const _) fun b=>Tends.cond (Tends.const _) (Tends.cond (Tends.cond (Tends.cond ?_ (Tends.const _)) (dZ _ _ _)) (Tends.const _))
 exact Tends.bind (dZ _ _ _) fun _=>Tends.const _
theorem oF {P:Program} {A:Ann} {g:FuncId} {args:List AV} {m:Mem} {r:Res} (h:denC P A g args m=some r):∃n,dH P A n g args m=some r :=
 ((gm g args m).2 r).1 h
end Go.AM

/-
  THE ABSTRACT MACHINE, STEP BY STEP AS EQUATIONS: regions as lists of small operations with plain values, and the equations by which 'simp' runs them. Conditions: none.
-/
namespace Go.AM
def parts:Code→List Code
 | .seq a b=>.seq a b::(parts a++parts b)
 | .cond c a b=>.cond c a b::(parts a++parts b)
 | .block id b=>.block id b::parts b
 | .loop b=>.loop b::parts b
 | .scope b=>.scope b::parts b
 | c=>[c]
def isReg (n:Nat):Code→Bool
 | .region id _ _=>id==n
 | _=>false
def isBlk (n:Nat):Code→Bool
 | .block id _=>id==n
 | _=>false
def isCond:Code→Bool
 | .cond _ _ _=>true
 | _=>false
def aa (c:Code) (n:Nat):Code:=((parts c).find? (isReg n)).getD .skip
def ax (c:Code) (n:Nat):Code:=((parts c).find? (isBlk n)).getD .skip
def ak (c:Code) (n:Nat):Code:=(((parts c).filter isCond)[n]?).getD .skip
def bw:Code→Code
 | .block _ (.loop b)=>b
 | _=>.skip
def blkOf:Code→Code
 | .block _ b=>b
 | _=>.skip
def az:Code→Code
 | .cond _ a _=>a
 | _=>.skip
def aA:Code→Code
 | .cond _ _ b=>b
 | _=>.skip
def flat:Code→List Code
 | .seq a b=>flat a++flat b
 | .skip=>[]
 | .label _=>[]
 | c=>[c]
def codes (l:List Code) (K:List Item):List Item:=l.map .code++K
def norm:List Item→List Item
 | []=>[]
 | .code c::K=>codes (flat c) (norm K)
 | .inBlock i::K=>.inBlock i::norm K
 | .inLoop c::K=>.inLoop c::norm K
 | x::K=>x::norm K
def isReal:Code→Bool
 | .seq _ _ | .skip | .label _=>false
 | _=>true
theorem iO:∀(c:Code),isReal c=true→flat c=[c]:=by
 intro c h;cases c<;>first | rfl | cases h
theorem mM:∀(c x:Code),x∈flat c→isReal x=true
 | .seq a b,x,h=>by
  simp only [flat,List.mem_append] at h
  exact h.elim (mM a x) (mM b x)
 | .skip,x,h=>by simp [flat] at h
 | .label _,x,h=>by simp [flat] at h
 | .region ..,x,h=>by simp [flat] at h;subst h;rfl
 | .cond ..,x,h=>by simp [flat] at h;subst h;rfl
 | .block ..,x,h=>by simp [flat] at h;subst h;rfl
 | .loop ..,x,h=>by simp [flat] at h;subst h;rfl
 | .rangeFunc ..,x,h=>by simp [flat] at h;subst h;rfl
 | .exit ..,x,h=>by simp [flat] at h;subst h;rfl
 | .scope ..,x,h=>by simp [flat] at h;subst h;rfl
 | .goto ..,x,h=>by simp [flat] at h;subst h;rfl
 | .ret,x,h=>by simp [flat] at h;subst h;rfl
 | .refuse ..,x,h=>by simp [flat] at h;subst h;rfl
theorem gK:∀(l:List Code) (K:List Item),(∀x∈l,isReal x=true)→norm (codes l K)=codes l (norm K)
 | [],K,_=>rfl
 | c::l,K,h=>by
  show codes (flat c) (norm (codes l K))=_
  rw [iO c (h c (by simp)),gK l K (fun x hx=>h x (by simp [hx]))]
  rfl
theorem xL (c:Code) (K:List Item):norm (.code c::K)=norm (codes (flat c) K):=by
 rw [gK _ _ (mM c)];rfl
theorem jP (id:Nat):∀(l:List Code) (K:List Item),exitTo id (codes l K)=exitTo id K
 | [],_=>rfl
 | c::l,K=>by show exitTo id (.code c::codes l K)=_;rw [exitTo,jP id l K];simp
theorem eQ (id:Nat):∀(K:List Item),exitTo id (norm K)=(exitTo id K).map norm
 | []=>rfl
 | x::K=>by
  cases x
  case inBlock i =>
   simp only [norm,exitTo]
   by_cases h:(i==id)=true
   ·simp [h]
   ·simp only [h];exact eQ id K
  case code c=>simp only [norm,jP];rw [eQ id K];rfl
  all_goals simp only [norm,exitTo];exact eQ id K
def wt:Code→Nat
 | .seq a b=>wt a+wt b+1
 | _=>1
def wts:List Item→Nat
 | []=>0
 | .code c::K=>wt c+wts K
 | _::K=>wts K
theorem zR (c:Code):0 < wt c:=by cases c<;>simp [wt]
section
variable {P : Program} {A : Ann} {f : FuncId} {fn : Func}
theorem lV (hf:P.funcs[f]?=some fn) (a b:Code) (K:List Item) (s:St):den P A f (.code (.seq a b)::K) s=den P A f (.code a::.code b::K) s:=by
 rw [cT,hf];rfl
theorem rz (hf:P.funcs[f]?=some fn) (K:List Item) (s:St):den P A f (.code .skip::K) s=den P A f K s:=by
 rw [cT,hf];rfl
theorem oK (hf:P.funcs[f]?=some fn) (l:Nat) (K:List Item) (s:St):den P A f (.code (.label l)::K) s=den P A f K s:=by
 rw [cT,hf];rfl
def sel {α:Type} (x y:α):Nat→α
 | 0=>x
 | _+1=>y
theorem oL {R:Type} {x y:Option R} (h:∀r,x=some r→y=some r):Tends (sel x y) y:=by
 refine⟨fun n r hr=>?_,fun r=>⟨fun hr=>⟨1,hr⟩,fun⟨n,hr⟩=>?_⟩⟩
 ·cases n with
  | zero=>exact h r hr
  | succ n=>exact hr
 ·cases n with
  | zero=>exact h r hr
  | succ n=>exact hr
theorem Dl (hf:P.funcs[f]?=some fn):∀(n:Nat) (K:List Item) (x:Item) (L:List Item) (s:St),wts K≤n→norm K=x::L→(∀c,x=.code c→isReal c=true) →
  ∃K',den P A f K s=den P A f (x::K') s∧norm K'=L:=by
 intro n
 induction n with
 | zero =>
  intro K x L s h hk hr
  cases K with
  | nil=>simp [norm] at hk
  | cons y K =>
   cases y
   case code c=>have:=zR c;simp [wts] at h;omega
   all_goals
    simp only [norm,List.cons.injEq] at hk
    obtain⟨rfl,hk⟩:=hk
    exact⟨K,rfl,hk⟩
 | succ n ih =>
  intro K x L s h hk hr
  cases K with
  | nil=>simp [norm] at hk
  | cons y K =>
   cases y
   case code c =>
    cases hc:isReal c with
    | true =>
     simp only [norm,iO c hc,codes,List.map,List.cons_append,List.nil_append,List.cons.injEq] at hk
     obtain⟨rfl,hk⟩:=hk
     exact⟨K,rfl,hk⟩
    | false =>
     cases c<;>simp [isReal] at hc
     case seq a b =>
      rw [lV hf]
      exact ih _ x L s (by simp [wts,wt] at h ⊢;omega) (by rw [← hk];simp [norm,flat,codes]) hr
     case skip =>
      rw [rz hf]
      exact ih _ x L s (by simp [wts,wt] at h ⊢;omega) (by rw [← hk];simp [norm,flat,codes]) hr
     case label l =>
      rw [oK hf]
      exact ih _ x L s (by simp [wts,wt] at h ⊢;omega) (by rw [← hk];simp [norm,flat,codes]) hr
   all_goals
    simp only [norm,List.cons.injEq] at hk
    obtain⟨rfl,hk⟩:=hk
    exact⟨K,rfl,hk⟩
theorem xM {R:Type} {P:Program} {pf:FuncId→Bool} {c c':CallF} (h:∀g a m r,c g a m=some r→c' g a m=some r) (md:Nat→Nat) (ops:Array Oper) (b:Option Nat) {k k':St→Option R} (hk:∀s r,k s=some r→k' s=some r) (l:List Oper) (i:Nat) (s:St) {r:R}
  (hr:opsA P pf c md ops b i l s k=some r):opsA P pf c' md ops b i l s k'=some r:=by
 have e1:∀g a m,(fun n=>sel c c' n g a m)=sel (c g a m) (c' g a m):=by intro g a m;funext n;cases n<;>rfl
 have e2:∀s,(fun n=>sel k k' n s)=sel (k s) (k' s):=by intro s;funext n;cases n<;>rfl
 have:=(fB (P:=P) (pf:=pf) (C:=sel c c') (c:=c') (fun g a m=>by rw [e1];exact oL (h g a m)) md ops b (K:=sel k k') (k:=k') (fun s=>by rw [e2];exact oL (hk s)) l i s).2 r
 exact this.2 ⟨0,hr⟩
theorem nR {g:FuncId} {a:List AV} {m:Mem} {n:Nat} {r:Res} (h:dH P A n g a m=some r):denC P A g a m=some r:=((gm g a m).2 r).2 ⟨n,h⟩
theorem mN (hf:P.funcs[f]?=some fn):∀(n:Nat) (K K':List Item) (s:St) (r:Res),norm K=norm K'→runA P A n f K s=some r→den P A f K' s=some r
 | 0,_,_,_,_,_,h=>by simp [runA] at h
 | n+1,K,K',s,r,hn,h=>by
  rw [runA,hf] at h
  simp only [Option.bind_some] at h
  have ih:=mN hf n
  cases K with
  | nil =>
   have:∀(m:Nat) (K':List Item) (s:St),wts K'≤m→norm K'=[]→den P A f K' s=den P A f [] s:=by
    intro m
    induction m with
    | zero =>
     intro K' s h hk
     cases K' with
     | nil=>rfl
     | cons y K' =>
      cases y
      case code c=>have:=zR c;simp [wts] at h;omega
      all_goals simp [norm] at hk
    | succ m ihm =>
     intro K' s h hk
     cases K' with
     | nil=>rfl
     | cons y K' =>
      cases y
      case code c =>
       cases hc:isReal c with
       | true=>simp [norm,iO c hc,codes] at hk
       | false =>
        cases c<;>simp [isReal] at hc
        case seq a b=>rw [lV hf];exact ihm _ s (by simp [wts,wt] at h ⊢;omega) (by rw [← hk];simp [norm,flat,codes])
        case skip=>rw [rz hf];exact ihm _ s (by simp [wts,wt] at h ⊢;omega) (by rw [← hk];simp [norm,flat,codes])
        case label l=>rw [oK hf];exact ihm _ s (by simp [wts,wt] at h ⊢;omega) (by rw [← hk];simp [norm,flat,codes])
      all_goals simp [norm] at hk
   rw [this _ K' s (Nat.le_refl _) hn.symm,cT,hf]
   exact h
  | cons x K =>
   by_cases hx:∃c,x=.code c∧isReal c=false
   ·obtain⟨c,rfl,hc⟩:=hx
    cases c<;>simp [isReal] at hc
    case seq a b=>exact ih _ _ s r (by rw [← hn];simp [norm,flat,codes]) h
    case skip=>exact ih _ _ s r (by rw [← hn];simp [norm,flat,codes]) h
    case label l=>exact ih _ _ s r (by rw [← hn];simp [norm,flat,codes]) h
   ·have hr:∀c,x=.code c→isReal c=true:=by
     intro c hc
     cases h':isReal c with
     | true=>rfl
     | false=>exact absurd ⟨c,hc,h'⟩ hx
    have hk:norm (x::K)=x::norm K:=by
     cases x<;>try rfl
     rename_i c
     simp [norm,iO c (hr c rfl),codes]
    obtain⟨K'',h1,h2⟩:=Dl (A:=A) hf _ K' x (norm K) s (Nat.le_refl _) (by rw [← hn,hk]) hr
    rw [h1,cT,hf]
    show stepA _ _ _ _ _ _ _ _=_
    have cong:∀X,norm (X::K)=norm (X::K''):=by
     intro X;cases X<;>simp [norm,h2]
    have cong2:∀X Y,norm (X::Y::K)=norm (X::Y::K''):=by
     intro X Y;cases X<;>simp only [norm,cong Y]
    have exits:∀id X,exitTo id K=some X→∃X',exitTo id K''=some X'∧norm X=norm X':=by
     intro id X hX
     have e1:=eQ id K
     have e2:=eQ id K''
     rw [hX] at e1
     rw [h2,e1] at e2
     cases hq:exitTo id K'' with
     | none=>rw [hq] at e2;cases e2
     | some X'=>rw [hq] at e2;simp at e2;exact⟨X',rfl,e2⟩
    cases x
    case inBlock i=>exact ih _ _ s r (h2.symm) h
    case inLoop c=>exact ih _ _ s r (cong2 _ _) h
    case code c =>
     cases c
     case region id ops draw =>
      simp only [stepA] at h ⊢
      cases hd:(draw&&!(bh (fun g=>(A g).pure) (bj (A f) id) (bN (A f) id) ops)) with
      | true=>simp [hd] at h
      | false =>
       simp only [hd,cond_false,Option.bind_eq_some_iff] at h ⊢
       obtain⟨s1,h3,h4⟩:=h
       refine⟨s1,h3,xM (fun g a m r hc=>nR hc) _ _ _ (fun s r hs=>?_) _ _ _ h4⟩
       simp only [Option.bind_eq_some_iff] at hs ⊢
       obtain⟨s2,h5,h6⟩:=hs
       exact⟨s2,h5,ih _ _ s2 r h2.symm h6⟩
     case cond c a b =>
      cases c
      case tmp c =>
       simp only [stepA] at h ⊢
       cases hg:s.get c<;>simp only [hg] at h ⊢<;>try cases h
       rename_i b'
       cases b'
       all_goals
        simp only at h ⊢
        cases hb:Nat.blt c s.nt
        ·simp [hb] at h
        ·simp only [hb,cond_true] at h ⊢;exact ih _ _ _ r (cong _) h
      case const v =>
       cases v<;>simp only [stepA] at h ⊢<;>try cases h
       rename_i b'
       cases b'<;>exact ih _ _ _ r (cong _) h
      all_goals simp [stepA] at h
     case block id c=>exact ih _ _ s r (cong2 _ _) h
     case loop c=>exact ih _ _ s r (cong2 _ _) h
     case exit id =>
      simp only [stepA] at h ⊢
      cases hX:exitTo id K with
      | none=>simp [hX] at h
      | some X =>
       obtain⟨X',h3,h4⟩:=exits id X hX
       simp only [hX] at h
       simp only [h3]
       exact ih _ _ s r h4 h
     case ret=>exact h
     case seq a b=>exact absurd (hr _ rfl) (by simp [isReal])
     case skip=>exact absurd (hr _ rfl) (by simp [isReal])
     case label l=>exact absurd (hr _ rfl) (by simp [isReal])
     all_goals simp [stepA] at h
    all_goals simp [stepA] at h
theorem zS (hf:P.funcs[f]?=some fn) {K K':List Item} (s:St) (h:norm K=norm K'):den P A f K s=den P A f K' s:=by
 refine Option.ext fun r=>⟨fun h1=>?_,fun h1=>?_⟩
 ·obtain⟨n,hn⟩:=((dZ f K s).2 r).1 h1
  exact mN hf n K K' s r h hn
 ·obtain⟨n,hn⟩:=((dZ f K' s).2 r).1 h1
  exact mN hf n K' K s r h.symm hn
theorem af (hf:P.funcs[f]?=some fn) {c:Code} {l:List Code} (h:flat c=l) (K:List Item) (s:St):den P A f (.code c::K) s=den P A f (codes l K) s:=by
 subst h;exact zS hf s (xL c K)
end
end Go.AM

/-
  THE ABSTRACT MACHINE, STEP BY STEP AS EQUATIONS (2): a region as a list of small operations whose types are already looked up, and the equations by which 'simp' runs them. Conditions: none.
-/
namespace Go.AM
def pickA (c a b:AV):Option AV:=match c with
 | .bool b'=>some (bif b' then a else b)
 | _=>none
def nilA (x:AV):Option AV:=match x with
 | .ptr id off top=>some (.ptr id off top)
 | .fptr cs=>some (.fptr cs)
 | .sptr cs=>some (.sptr cs)
 | .fn f a b=>some (.fn f a b)
 | _=>none
def fieldV (g:Bool) (n off:Nat) (x:AV):Option AV:=match x with
 | .agg cs=>partA g n off cs
 | _=>none
def idxStr (x i:AV):Option AV:=match x,i with
 | .str b,.int _ j=>bif inR j b.length then(b[j.toNat]?).map fun c=>.int .u8 c.toNat else none
 | _,_=>none
def idxAgg (l n:Nat) (g:Bool) (x i:AV):Option AV:=match x,i with
 | .agg cs,.int _ j=>bif inR j l then partA g n (j.toNat*n) cs else none
 | _,_=>none
def extA (x:AV) (i:Nat):Option AV:=match x with
 | .tup vs=>vs[i]?
 | _=>none
def lenSl (x:AV):Option AV:=match x with
 | .str _=>none
 | v=>(lenA v).map fun n=>.int .i64 (n:Nat)
def lenStr (x:AV):Option AV:=match x with
 | .str b=>some (.int .i64 (b.length:Nat))
 | _=>none
def convInt (k:IntKind) (x:AV):Option AV:=match x with
 | .int _ n=>some (.int k (k.wrap n))
 | _=>none
def convStr (m:Mem) (x:AV):Option AV:=match x with
 | .nils=>some (.str [])
 | .str _=>none
 | x=>(srcA m 1 x).bind fun(_,cs)=>(bytesOf cs).map .str
def bslA (sz len:Nat) (z:List AV) (parts:List (Nat×AV)):Option (Nat×List AV) :=
 bif Nat.ble (len*sz) 16777216&&z.length==sz then(fillA (fun i=>some (i*sz,sz)) (repl len z) parts).bind fun cs=>bif oneL cs then some (sz,cs) else none else none
def bslF (len:Nat) (x:Option (Nat×List AV)):Option AV:=x.bind fun(_,cs)=>bif closedL cs then some (.fsl true len cs) else none
def bslM (m:Mem) (len:Nat) (x:Option (Nat×List AV)):Option (AV×Mem):=x.bind fun(es,cs)=>some (.sl m.nx es 0 len cs.length,m.new (.cells cs))
def plc (l:List (Nat×Nat)) (i:Nat):Option (Nat×Nat):=l[i]?
def plcA (n:Nat) (i:Nat):Option (Nat×Nat):=some (i*n,n)
def bldA (place:Nat→Option (Nat×Nat)) (z:List AV) (parts:List (Nat×AV)):Option AV:=(fillA place z parts).map .agg
def stA (g:Bool) (n:Nat) (m:Mem) (a v:AV):Option (AV×Mem):=(storeA g n m a v).map fun m=>(.tup [],m)
def lookP (P:Program) (m:Mem) (kt:TypeId) (z:AV) (x k:AV) (ok:Bool):Option AV :=
 bif keyT P kt k then(lookA P m kt x k).bind fun r=>match r with
  | some v=>some (bif ok then .tup [v,.bool true] else v)
  | none=>some (bif ok then .tup [z,.bool false] else z) else none
def updP (P:Program) (m:Mem) (kt:TypeId) (x k v:AV):Option Mem :=
 bif keyT P kt k then(match x with
  | .map id=>match m.h id with
   | some (.map g ks vs)=>(setK P kt k v ks vs).bind fun(a,b)=>some (m.set id (some (.map (g+1) a b)))
   | _=>none
  | _=>none) else none
def updM (P:Program) (m:Mem) (kt:TypeId) (x k v:AV):Option (AV×Mem):=(updP P m kt x k v).map fun m=>(.tup [],m)
def appV (size bytes:Nat) (x y:AV):Option AV:=bif x.closed&&y.closed then appF size bytes x y else none
inductive MB where
 | v (e:St→Option AV)
 | w (fz:Bool) (off:Option Nat) (e:St→Option (AV×Mem))
 | c (md:Nat) (f:St→AV) (args:St→List AV)
 | n (x:St→AV)
 | r (x:St→AV)
structure Mop where
 d:Option Nat
 g:Option (Nat×Bool)
 b:MB
abbrev qC (d a:Nat):Mop:=⟨some d,none,.v fun s=>some (s.get a)⟩
abbrev qA (d:Nat) (f:AV→Option AV) (a:Nat):Mop:=⟨some d,none,.v fun s=>f (s.get a)⟩
abbrev qB (d:Nat) (f:AV→AV→Option AV) (a b:Nat):Mop:=⟨some d,none,.v fun s=>f (s.get a) (s.get b)⟩
abbrev qF (d:Nat) (f:St→Option AV):Mop:=⟨some d,none,.v f⟩
section
variable (P : Program) (A : Ann) (f : FuncId)
noncomputable def mb (b:Option Nat) (d:Option Nat):MB→St→Option St
 | .v e,s=>(e s).bind fun v=>s.put d v
 | .w fz off e,s=>match b,off with
  | none,_=>(e s).bind fun r=>(bif fz then frzV r.1 r.2 else some r).bind fun r=>(s.mem r.2).put d r.1
  | some b,none=>(e s).bind fun r=>(bif fz then frzV r.1 r.2 else some r).bind fun r=>(s.mem r.2).put d r.1
  | some b,some i=>((e (s.nx (b+i))).bind fun r=>(bif fz then frzV r.1 r.2 else some r).bind fun r=>((s.nx (b+i)).mem r.2).put d r.1).map fun s'=>s'.nx s.m.nx
 | .c md g args,s=>(callA (fun g=>(A g).pure) (denC P A) md s.m (g s) (args s)).bind fun r=>(s.mem r.2).put d r.1
 | _,_=>none
noncomputable def nextM {R:Type} (s:St) (d:Option Nat) (x:AV) (k:St→Option R):Option R :=
 match x with
 | .iter id=>match s.m.h id with
  | some (.iter _ ks vs)=>match ks with
   | []=>(s.put d (.tup [.bool false])).bind k
   | _::_=>allOf ks.length fun i=>(ks[i]?).bind fun kv=>(vs[i]?).bind fun v =>
     ((s.mem (s.m.set id (some (.iter [kv,v] (ks.eraseIdx i) (vs.eraseIdx i))))).put d (.tup [.bool true,kv,v])).bind k
  | _=>none
 | _=>none
noncomputable def mOne {R:Type} (b:Option Nat) (d:Option Nat) (o:MB) (s:St) (k:St→Option R):Option R :=
 match o with
 | .n x=>nextM s d (x s) k
 | .r x=>(rangeA s.m (x s)).bind fun q=>((s.mem q.2).put d q.1).bind k
 | .v e=>(mb P A b d (.v e) s).bind k
 | .w fz off e=>(mb P A b d (.w fz off e) s).bind k
 | .c md g args=>(mb P A b d (.c md g args) s).bind k
def mg {R:Type} (d:Nat) (want:Bool) (s:St) (kt kf:St→Option R):Option R :=
 match s.get d with
 | .bool b=>match b with
  | true=>bif Nat.blt d s.nt then(bif want then kt (s.lit d true) else kf (s.lit d true)) else none
  | false=>bif Nat.blt d s.nt then(bif want then kf (s.lit d false) else kt (s.lit d false)) else none
 | .tup []=>kf s
 | _=>none
noncomputable def mrun (b:Option Nat) (fz:List Nat) (K:List Item):List Mop→St→Option Res
 | [],s=>(frzL fz s).bind fun s=>den P A f K s
 | o::r,s=>match o.g with
  | none=>mOne P A b o.d o.b s fun s=>mrun b fz K r s
  | some (d,want)=>mg d want s (fun s=>mOne P A b o.d o.b s fun s=>mrun b fz K r s) (fun s=>(s.put o.d (.tup [])).bind fun s=>mrun b fz K r s)
noncomputable def ah (keep:Option (List Nat)) (pre:List Nat) (draw:Option Nat) (fz:List Nat) (l:List Mop) (K:List Item) (s:St):Option Res :=
 (frzL pre (match keep with | some l=>s.keep l | none=>s)).bind fun s=>match draw with
  | none=>mrun P A f none fz K l s
  | some n=>mrun P A f (some s.m.nx) fz K l (s.nx (s.m.nx+n))
end
section
variable {P : Program} {A : Ann} {f : FuncId} {fn : Func}
noncomputable def regA (P:Program) (A:Ann) (f:FuncId) (c:Code) (K:List Item) (s:St):Option Res :=
 match c with
 | .region id ops draw=>bif draw&&!(bh (fun g=>(A g).pure) (bj (A f) id) (bN (A f) id) ops) then none else
   (preAt (A f) id (keepAt (A f) id s)).bind fun s=>opsA P (fun g=>(A g).pure) (denC P A) (bj (A f) id) ops (bif draw then some s.m.nx else none) 0 ops.toList (bif draw then s.nx (s.m.nx+ops.size) else s) fun s=>(frzAt (A f) id s).bind fun s=>den P A f K s
 | _=>den P A f (.code c::K) s
theorem ae (hf:P.funcs[f]?=some fn) (c:Code) (K:List Item) (s:St):den P A f (.code c::K) s=regA P A f c K s:=by
 cases c<;>try rfl
 rw [cT,hf];rfl
noncomputable def regD (P:Program) (A:Ann) (f:FuncId) (c:Code) (K:List Item) (s:St):Option Res :=
 match c with
 | .region id ops draw =>
   (preAt (A f) id (keepAt (A f) id s)).bind fun s=>opsA P (fun g=>(A g).pure) (denC P A) (bj (A f) id) ops (bif draw then some s.m.nx else none) 0 ops.toList (bif draw then s.nx (s.m.nx+ops.size) else s) fun s=>(frzAt (A f) id s).bind fun s=>den P A f K s
 | _=>den P A f (.code c::K) s
def opsOf:Code→Array Oper
 | .region _ ops _=>ops
 | _=>#[]
def bI:Code→Nat
 | .region id _ _=>id
 | _=>0
theorem aW (hf:P.funcs[f]?=some fn) {c:Code} (h:bh (fun g=>(A g).pure) (bj (A f) (bI c)) (bN (A f) (bI c)) (opsOf c)=true) (K:List Item) (s:St):den P A f (.code c::K) s=regD P A f c K s:=by
 rw [ae hf]
 cases c<;>try rfl
 rename_i id ops draw
 simp only [bI,opsOf] at h
 simp only [regA,regD,h,Bool.not_true,Bool.and_false,cond_false]
def drawB (pf:FuncId→Bool) (md:Nat→Nat) (fz:List Nat) (opsa:Array Oper) (ops:List Oper) (an:List Nat):Bool :=
 (ops.zipIdx.all fun(oj,j)=>oj.after.all (fun e=>!(Region.binds .any e)||Nat.blt e.on j)&&(ops.take j).zipIdx.all fun(oi,i) =>
  (an.getD j 0).testBit i||((pairOk (classD pf (md i) oi) (classD pf (md j) oj)||lmOk md i j oi oj||spOk fz md ops (an.getD j 0) i j oi oj||llOk fz md ops (an.getD j 0) i j oi oj)&&oi.apart opsa oj)) &&
 ops.zipIdx.all fun(o,i)=>Nat.blt (classOf (md i) o.op) 4&&(!(classOf (md i) o.op==2)||!(md i==1))||classOf (md i) o.op==6
theorem aQ {pf:FuncId→Bool} {md:Nat→Nat} {fz:List Nat} {ops:Array Oper} {an:List Nat} (h:anc ops.toList []=an) (h2:drawB pf md fz ops ops.toList an=true):bh pf md fz ops=true:=by
 subst h;exact h2
noncomputable def ifV (P:Program) (A:Ann) (f:FuncId) (c:Nat) (a b:Code) (K:List Item) (s:St) (v:AV):Option Res :=
 match v with
 | .bool b'=>match b' with
  | true=>bif Nat.blt c s.nt then den P A f (.code a::K) (s.lit c true) else none
  | false=>bif Nat.blt c s.nt then den P A f (.code b::K) (s.lit c false) else none
 | _=>none
theorem aB (hf:P.funcs[f]?=some fn) {c:Code} {n:Nat} {a b:Code} (h:c=.cond (.tmp n) a b) (K:List Item) (s:St):den P A f (.code c::K) s=ifV P A f n a b K s (s.get n):=by
 subst h;rw [cT,hf];rfl
theorem aS (hf:P.funcs[f]?=some fn) {c b:Code} {id:Nat} {l:List Code} (h:c=.block id b) (hl:flat b=l) (K:List Item) (s:St):den P A f (.code c::K) s=den P A f (codes l (.inBlock id::K)) s:=by
 subst h;rw [cT,hf];exact af hf hl _ _
theorem aR (hf:P.funcs[f]?=some fn) (id:Nat) (K:List Item) (s:St):den P A f (.inBlock id::K) s=den P A f K s:=by
 rw [cT,hf];rfl
theorem aO (hf:P.funcs[f]?=some fn) (K:List Item) (s:St):den P A f (.code .ret::K) s=finA P (A f).pure fn s:=by
 rw [cT,hf];rfl
theorem gk (hf:P.funcs[f]?=some fn) (s:St):den P A f [] s=finA P (A f).pure fn s:=by
 rw [cT,hf];rfl
noncomputable def exitV (P:Program) (A:Ann) (f:FuncId) (x:Option (List Item)) (s:St):Option Res:=match x with
 | some K=>den P A f K s
 | none=>none
theorem bp (hf:P.funcs[f]?=some fn) (id:Nat) (K:List Item) (s:St):den P A f (.code (.exit id)::K) s=exitV P A f (exitTo id K) s:=by
 rw [cT,hf];rfl
def resM:List (St→Option AV)→St→Option (List AV)
 | [],_=>some []
 | r::rs,s=>(r s).bind fun v=>(resM rs s).bind fun vs=>some (v::vs)
def finM (pure:Bool) (l:List (St→Option AV)) (s:St):Option Res :=
 (resM l s).bind fun vs=>bif pure then(deep s.m.h deepNo (tupOf vs)).bind fun v=>some (v,Mem.empty) else some (tupOf vs,s.m)
def headReg:Code→Option Nat
 | .region id _ _=>some id
 | .seq a _=>headReg a
 | .block _ b=>headReg b
 | .loop b=>headReg b
 | _=>none
theorem xK (s:St) (l:List Nat):(s.keep l).keep l=s.keep l:=by
 have hg:∀(l:List Nat) i,i∈l→AM.get (l.map fun i=>(i,s.get i)) i=s.get i:=by
  intro l
  induction l with
  | nil=>intro i hi;simp at hi
  | cons j l ih =>
   intro i hi
   simp only [List.map,AM.get]
   by_cases h:i=j
   ·subst h;simp
   ·have:(i==j)=false:=by simpa using h
    rw [this,cond_false]
    exact ih i (by simpa [h] using hi)
 simp only [St.keep,St.mk.injEq,and_true]
 refine List.map_congr_left fun i hi=>?_
 simp only [Prod.mk.injEq,true_and]
 exact hg l i hi
theorem ry (hf:P.funcs[f]?=some fn) {id:Nat} {l:List Nat} (hk:assoc (A f).keeps id=some l):∀(c:Code),headReg c=some id→∀(K:List Item) (s:St),den P A f (.code c::K) s=den P A f (.code c::K) (s.keep l):=by
 intro c
 induction c with
 | region i ops draw =>
  intro h K s
  simp only [headReg,Option.some.injEq] at h
  subst h
  rw [ae hf,ae hf]
  have:keepAt (A f) i s=keepAt (A f) i (s.keep l):=by simp only [keepAt,hk,xK]
  simp only [regA,this]
 | seq a b iha _=>intro h K s;rw [lV hf,lV hf];exact iha h _ s
 | block i b ih=>intro h K s;rw [cT,cT,hf];exact ih h _ s
 | loop b ih=>intro h K s;rw [cT,cT,hf];exact ih h _ s
 | _=>intro h;simp [headReg] at h
theorem ar (hf:P.funcs[f]?=some fn) {c b:Code} {i id:Nat} {l:List Nat} (hc:c=.block i (.loop b)) (hh:headReg b=some id) (hk:assoc (A f).keeps id=some l) (K:List Item) (s:St) :
  den P A f (.code c::K) s=den P A f (.code b::.inLoop b::.inBlock i::K) (s.keep l):=by
 subst hc
 rw [ry hf hk _ (by exact hh) K s,cT,hf]
 show den P A f (.code (.loop b)::_) _=_
 rw [cT,hf];rfl
theorem ay (hf:P.funcs[f]?=some fn) {b:Code} {id:Nat} {l:List Nat} (hh:headReg b=some id) (hk:assoc (A f).keeps id=some l) (K:List Item) (s:St) :
  den P A f (.inLoop b::K) s=den P A f (.code b::.inLoop b::K) (s.keep l):=by
 rw [← ry hf hk _ hh,cT,hf];rfl
theorem bD (hf:P.funcs[f]?=some fn) {b:Code} (hb:fn.body=some b) {args:List AV} (hn:Nat.ble args.length fn.ntmps=true) (hp:(A f).pure=true) (hc:closedL args=true) (m:Mem) :
  denC P A f args m=(den P A f [.code b] (initA fn args Mem.empty)).bind fun r=>some (r.1,m):=by
 have hs:(A f).srt=false:=by simp [FnAnn.srt,hp]
 rw [pN,hf];simp [hb,hn,hp,hc,hs]
theorem aJ (hf:P.funcs[f]?=some fn) {b:Code} (hb:fn.body=some b) {args:List AV} (hn:Nat.ble args.length fn.ntmps=true) (hp:((A f).pure||(A f).srt)=false) (m:Mem) :
  denC P A f args m=den P A f [.code b] (initA fn args m):=by
 obtain⟨hp,hs⟩:=Bool.or_eq_false_iff.1 hp
 rw [pN,hf];simp [hb,hn,hp,hs]
theorem dY (hf:P.funcs[f]?=some fn) {b:Code} (hb:fn.body=some b) (hs:(A f).srt=true) (args:List AV) (m:Mem):denC P A f args m=libA (A f) f args m:=by
 rw [pN,hf];simp [hb,hs]
end
end Go.AM
