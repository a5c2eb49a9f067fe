/-
  THE PLAIN LAW: the program's clocks and the reference's. Conditions: none.
-/
import Derived.Test.YtadofgdidhpnpaaGreatDoorK07
import Derived.Test.YtadofgdidhpnpaaGreatDoorK05
set_option linter.all false
namespace Go.Proofs.YtadofgdidhpnpaaGreatDoor
open Go.AM
open Go.Proofs.Tryz (prog)
set_option linter.all false
set_option maxRecDepth 10000
abbrev kn (K:List (List (List Int))) (h i g:Nat):Int:=nth (cth (kth K h) i) g
theorem sQ {K:List (List (List Int))} {h i:Nat} {c:List Int} (hc:c.length=4) (h4:(cth (kth K h) i).length=4) (hg:grows K h i c=false) (g:Nat):nth c g≤kn K h i g:=by
 have e:zmax (cth (kth K h) i) c=cth (kth K h) i:=by simpa [grows] using hg
 have:=dS (a:=cth (kth K h) i) (b:=c) (by omega) g
 rw [e] at this
 show nth c g≤nth (cth (kth K h) i) g
 omega
structure Clocks (D:List Int) (N:List Note) (K:List (List (List Int))):Prop where
 P:Pre D N
 I:Inv D N K
 C:Closed D N K
 F:∀h,Four (kth K h)
section
variable {D : List Int} {N : List Note} {K : List (List (List Int))}
theorem Clocks.in (c:Clocks D N K) {h i:Nat} (hh:h < D.length) (hi:(i:Int) < nth D h):i < (kth K h).length:=by
 have:=c.I.rows h hh;omega
theorem Clocks.own (c:Clocks D N K) {h i:Nat} (hh:h < D.length) (hi:(i:Int)+1 < nth D h) (g:Nat):kn K h i g≤kn K h (i+1) g:=by
 have a:=c.in hh (i:=i) (by omega)
 have b:=c.in hh (i:=i+1) (by omega)
 have:=c.C.1 h (i+1) hh (by omega) (by omega)
 exact sQ (c.F h _ (cm a)) (c.F h _ (cm b)) (by simpa [okOwn] using this) g
theorem Clocks.mono (c:Clocks D N K) {h:Nat} (hh:h < D.length) (g:Nat):∀(d i:Nat),((i+d:Nat):Int) < nth D h→kn K h i g≤kn K h (i+d) g
 | 0,i,_=>Int.le_refl _
 | d+1,i,hi=>by
  have:=c.mono hh g d i (by omega)
  have:=c.own hh (i:=i+d) (by omega) g
  rw [show i+(d+1)=i+d+1 by omega];omega
theorem Clocks.note (c:Clocks D N K) {x:Note} (hx:x∈N) (g:Nat):kn K x.f.toNat (x.s.toNat - 1) g≤kn K x.t.toNat (x.r.toNat - 1) g:=by
 have q:=c.P.notes x hx
 obtain⟨f0,f1,t0,t1,ne,s0,s1,r0,r1⟩:=q
 have a:=c.in (h:=x.f.toNat) (i:=x.s.toNat - 1) (by omega) (by omega)
 have b:=c.in (h:=x.t.toNat) (i:=x.r.toNat - 1) (by omega) (by omega)
 exact sQ (c.F _ _ (cm a)) (c.F _ _ (cm b)) (c.C.2 x hx) g
theorem cW (n i:Nat):nth (List.replicate n 0) i=0:=by
 simp only [nth,List.getD,List.getElem?_replicate];split<;>rfl
structure Sched (N:List Note) (n:Nat) (x:List Int) (V:Nat→Nat→Nat→Int):Prop where
 len:x.length=n
 pos:∀h,0≤nth x h
 self:∀(h i:Nat),(i:Int) < nth x h→V h i h=(i:Int)+1
 lo:∀h i g,0≤V h i g
 hi:∀(h i g:Nat),(i:Int) < nth x h→V h i g≤nth x g
 own:∀(h i g:Nat),(i:Int)+1 < nth x h→V h i g≤V h (i+1) g
 Hy:∀y∈N,y.r≤nth x y.t.toNat→y.s≤nth x y.f.toNat
 note:∀y∈N,y.r≤nth x y.t.toNat→∀g,V y.f.toNat (y.s.toNat - 1) g≤V y.t.toNat (y.r.toNat - 1) g
 diff:∀h g,h≠g→∀(i j:Nat),(i:Int) < nth x h→(j:Int) < nth x g→¬((i:Int)+1≤V g j h∧(j:Int)+1≤V h i g)
theorem sched {D:List Int} {N:List Note} (P:Pre D N) {x:List Int} (r:Reach D N x):∃V,Sched N D.length x V:=by
 induction r with
 | zero =>
  refine⟨fun _ _ _=>0,by simp,?_,?_,fun _ _ _=>Int.le_refl _,?_,?_,?_,?_,?_⟩
  ·intro h;rw [cW];omega
  ·intro h i hi;rw [cW] at hi;omega
  ·intro h i g hi;rw [cW] at hi;omega
  ·intro h i g hi;exact Int.le_refl _
  ·intro y hy hr
   have:=(P.notes y hy).r0
   rw [cW] at hr;omega
  ·intro y hy hr;exact fun _=>Int.le_refl _
  ·intro h g _ i j hi;rw [cW] at hi;omega
 | @step x h0 r s ih =>
  obtain⟨V,v⟩:=ih
  obtain⟨s1,s2,s3⟩:=s
  have hl:=v.len
  have hx:∀g,nth (x.set h0 (nth x h0+1)) g=if h0=g then nth x h0+1 else nth x g:=by
   intro g
   rw [lW]
   by_cases e:h0=g
   ·simp [e,show g < x.length by omega]
   ·simp [e]
  generalize hx':x.set h0 (nth x h0+1)=x' at hx
  have hle:∀g,nth x g≤nth x' g:=by
   intro g;rw [hx];split
   ·rename_i e;subst e;omega
   ·omega
  have hl':x'.length=D.length:=by rw [← hx'];simpa using hl
  have p0:=v.pos h0
  obtain⟨a,ha⟩:∃a:Nat,nth x h0=a:=⟨(nth x h0).toNat,by omega⟩
  let W:Nat→Nat→Nat→Int:=fun h i g=>if h=h0∧i=a then nth x' g else V h i g
  have hW:∀h i g,W h i g=if h=h0∧i=a then nth x' g else V h i g:=fun _ _ _=>rfl
  have old:∀(h i:Nat),(i:Int) < nth x h→¬(h=h0∧i=a):=by
   rintro h i hi ⟨rfl,rfl⟩;omega
  have new:∀(h i:Nat),(i:Int) < nth x' h→(i:Int) < nth x h∨(h=h0∧i=a):=by
   intro h i hi
   rw [hx] at hi
   split at hi
   ·rename_i e;subst e
    by_cases e2:i=a
    ·exact .inr ⟨rfl,e2⟩
    ·left;omega
   ·exact .inl hi
  have oldN:∀y∈N,y.r≤nth x' y.t.toNat→y.r≤nth x y.t.toNat∨(y.t.toNat=h0∧y.r=(a:Int)+1∧y.s≤nth x y.f.toNat):=by
   intro y hy hr
   obtain⟨f0,f1,t0,t1,ne,s0,s1,r0,r1⟩:=P.notes y hy
   rw [hx] at hr
   split at hr
   ·rename_i e
    by_cases e2:y.r≤nth x y.t.toNat
    ·exact .inl e2
    ·right
     rw [← e] at e2
     refine⟨e.symm,by omega,?_⟩
     simp only [readyL,List.all_eq_true] at s3
     have:=s3 y hy
     have e3:y.t=(h0:Int):=by omega
     have e4:y.r=nth x h0+1:=by omega
     simp [readyOk,e3,e4] at this
     exact this
   ·exact .inl hr
  refine⟨W,hl',?_,?_,?_,?_,?_,?_,?_,?_⟩
  ·intro h;have:=v.pos h;have:=hle h;omega
  ·intro h i hi
   rw [hW]
   rcases new h i hi with h1 | ⟨h1,h2⟩
   ·rw [if_neg (old h i h1)];exact v.self h i h1
   ·rw [if_pos ⟨h1,h2⟩,h1,hx,if_pos rfl];omega
  ·intro h i g
   rw [hW];split
   ·have:=v.pos g;have:=hle g;omega
   ·exact v.lo h i g
  ·intro h i g hi
   rw [hW]
   rcases new h i hi with h1 | ⟨h1,h2⟩
   ·rw [if_neg (old h i h1)];have:=v.hi h i g h1;have:=hle g;omega
   ·rw [if_pos ⟨h1,h2⟩];exact Int.le_refl _
  ·intro h i g hi
   have hi0:(i:Int) < nth x h:=by
    rcases new h (i+1) (by omega) with h1 | ⟨h1,h2⟩
    ·omega
    ·subst h1;omega
   rw [hW,if_neg (old h i hi0),hW]
   split
   ·have:=v.hi h i g hi0;have:=hle g;omega
   ·rename_i e
    rcases new h (i+1) (by omega) with h1 | h1
    ·exact v.own h i g (by omega)
    ·exact absurd h1 e
  ·intro y hy hr
   have:=hle y.f.toNat
   rcases oldN y hy hr with h1 | ⟨_,_,h1⟩
   ·have:=v.Hy y hy h1;omega
   ·omega
  ·intro y hy hr g
   obtain⟨f0,f1,t0,t1,ne,s0,s1,r0,r1⟩:=P.notes y hy
   rcases oldN y hy hr with h1 | ⟨h1,h2,h3⟩
   ·have h4:=v.Hy y hy h1
    rw [hW,if_neg (old _ _ (by omega)),hW,if_neg (old _ _ (by omega))]
    exact v.note y hy h1 g
   ·rw [hW,if_neg (old _ _ (by omega)),hW,if_pos ⟨h1,by omega⟩]
    have:=v.hi y.f.toNat (y.s.toNat - 1) g (by omega)
    have:=hle g;omega
  ·intro h g hne i j hi hj
   rw [hW,hW]
   rcases new h i hi with h1 | ⟨h1,h2⟩
   ·rw [if_neg (old h i h1)]
    rcases new g j hj with k1 | ⟨k1,k2⟩
    ·rw [if_neg (old g j k1)];exact v.diff h g hne i j h1 k1
    ·have:=v.hi h i g h1
     subst k1;omega
   ·rcases new g j hj with k1 | ⟨k1,k2⟩
    ·rw [if_neg (old g j k1)]
     have:=v.hi g j h k1
     subst h1;omega
    ·omega
theorem nY (c:Clocks D N K) (r:Reach D N D):badAll K D.length 0=false:=by
 obtain⟨V,v⟩:=sched c.P r
 have S:Super D N V:=by
  refine⟨fun h i hi=>by rw [v.self h i hi];omega,v.lo,fun h i g hi=>v.own h i g hi,fun x hx g=>v.note x hx (c.P.notes x hx).r1 g⟩
 have low:∀(h i:Nat),h < D.length→(i:Int) < nth D h→∀g,kn K h i g≤V h i g:=fun h i hh hi g=>c.I.low V S h i (c.in hh hi) g
 have self:∀(h i:Nat),h < D.length→(i:Int) < nth D h→kn K h i h=(i:Int)+1:=by
  intro h i hh hi
  have:=low h i hh hi h
  rw [v.self h i hi] at this
  have:=c.I.unit h i (c.in hh hi)
  show nth _ _=_
  simp only [kn] at *;omega
 cases hb:badAll K D.length 0 with
 | false=>rfl
 | true =>
  exfalso
  simp only [badAll,List.any_eq_true,List.mem_range'_1,badRow,Bool.or_eq_true,Bool.not_eq_true',decide_eq_false_iff_not,badIn,Bool.and_eq_true,decide_eq_true_eq] at hb
  obtain⟨h,hh,i,hi,hb⟩:=hb
  have hh':h < D.length:=by omega
  have hrow:=c.I.rows h hh'
  have hi':(i:Int) < nth D h:=by omega
  rcases hb with hb | ⟨g,hg,hne,hm⟩
  ·exact hb (self h i hh' hi')
  ·have hg':g < D.length:=by omega
   have hrow2:=c.I.rows g hg'
   obtain⟨j,hj,e⟩:=List.getElem_of_mem hm
   have hj':(j:Int) < nth D g:=by omega
   have e2:cth (kth K g) j=cth (kth K h) i:=by rw [← e];simp [cth,List.getD,List.getElem?_eq_getElem hj]
   refine v.diff h g (fun x=>hne x.symm) i j hi' hj' ⟨?_,?_⟩
   ·have a:=self h i hh' hi'
    have b:=low g j hg' hj' h
    simp only [kn] at a b;rw [e2] at b;omega
   ·have a:=self g j hg' hj'
    have b:=low h i hh' hi' g
    simp only [kn] at a b;rw [← e2] at b;omega
theorem qh (L:Lims D N):∀(k:Nat) (x:List Int),Reach D N x→(D.sum - x.sum).toNat≤k→∃y,Reach D N y∧Stuck D N y:=by
 intro k
 induction k with
 | zero =>
  intro x r hk
  refine⟨x,r,fun h s=>?_⟩
  have r2:=Reach.step r s
  have b:=r.box L.lo
  have b2:=r2.box L.lo
  have hs:=s.1
  have:=ka x h (nth x h+1) (by have:=b.len;omega)
  have:=ld _ _ b2.len b2.hi
  omega
 | succ k ih =>
  intro x r hk
  by_cases hst:Stuck D N x
  ·exact⟨x,r,hst⟩
  ·have:∃h,Step D N x h:=Classical.byContradiction fun hh=>hst fun h s=>hh ⟨h,s⟩
   obtain⟨h,s⟩:=this
   have b:=r.box L.lo
   have hs:=s.1
   have:=ka x h (nth x h+1) (by have:=b.len;omega)
   exact ih _ (Reach.step r s) (by omega)
theorem uq:∀(a b:List Int),a.length=b.length→(∀i,nth a i≤nth b i)→b.sum≤a.sum→a=b
 | [],[],_,_,_=>rfl
 | x::a,y::b,hl,h,hs=>by
  have h0:=h 0
  have ht:∀i,nth a i≤nth b i:=fun i=>by simpa [dp] using h (i+1)
  have:=ld a b (by simpa using hl) ht
  simp only [dF] at h0
  simp only [List.sum_cons] at hs
  have e1:x=y:=by omega
  rw [e1,uq a b (by simpa using hl) ht (by omega)]
theorem nZ (c:Clocks D N K) (hb:badAll K D.length 0=false):Reach D N D:=by
 obtain⟨y,r,st⟩:=qh c.P.L _ _ (Reach.zero (D:=D) (N:=N)) (Nat.le_refl _)
 have b:=r.box c.P.L.lo
 have none:∀(k h:Nat),h < D.length→nth y h < nth D h→((cth (kth K h) (nth y h).toNat).sum).toNat≤k→False:=by
  intro k
  induction k with
  | zero=>?_
  | succ k ih=>?_
  all_goals
   intro h hh hlt hk
   have hny:readyL N y h=false:=by
    cases e:readyL N y h with
    | false=>rfl
    | true=>exact absurd ⟨hh,hlt,e⟩ (st h)
   have p0:=b.lo h
   simp only [readyL,List.all_eq_false] at hny
   obtain⟨x,hx,e⟩:=hny
   obtain⟨f0,f1,t0,t1,ne,s0,s1,r0,r1⟩:=c.P.notes x hx
   have e':x.t=(h:Int)∧x.r=nth y h+1∧nth y x.f.toNat < x.s:=by
    simpa [readyOk] using e
   obtain⟨e1,e2,e3⟩:=e'
   have pf:=b.lo x.f.toNat
   have m1:=fun g=>c.note hx g
   have m2:=fun g=>c.mono (h:=x.f.toNat) (by omega) g (x.s.toNat - 1 - (nth y x.f.toNat).toNat) (nth y x.f.toNat).toNat (by omega)
   have ei:(nth y x.f.toNat).toNat+(x.s.toNat - 1 - (nth y x.f.toNat).toNat)=x.s.toNat - 1:=by omega
   rw [ei] at m2
   have et:x.t.toNat=h:=by omega
   have er:x.r.toNat - 1=(nth y h).toNat:=by omega
   rw [et,er] at m1
   have le:∀g,kn K x.f.toNat (nth y x.f.toNat).toNat g≤kn K h (nth y h).toNat g:=fun g=>Int.le_trans (m2 g) (m1 g)
   have in1:=c.in (h:=h) (i:=(nth y h).toNat) hh (by omega)
   have in2:=c.in (h:=x.f.toNat) (i:=(nth y x.f.toNat).toNat) (by omega) (by omega)
   have l1:=c.F h _ (cm in1)
   have l2:=c.F x.f.toNat _ (cm in2)
   have pos2:∀g,0≤nth (cth (kth K x.f.toNat) (nth y x.f.toNat).toNat) g:=c.I.pos _ _ in2
   have sle:=ld _ _ (by rw [l2,l1]) le
   have s0':0≤(cth (kth K x.f.toNat) (nth y x.f.toNat).toNat).sum:=by
    have:=ld [0,0,0,0] _ (by rw [l2];rfl) (fun i=>by have:=pos2 i;have z:nth [0,0,0,0] i=0:=cW 4 i;omega)
    simpa using this
   by_cases eq:(cth (kth K h) (nth y h).toNat).sum≤(cth (kth K x.f.toNat) (nth y x.f.toNat).toNat).sum
   ·have e4:=uq _ _ (by rw [l2,l1]) le eq
    rw [← Bool.not_eq_true] at hb
    apply hb
    simp only [badAll,List.any_eq_true,List.mem_range'_1,badRow,Bool.or_eq_true,Bool.not_eq_true',decide_eq_false_iff_not,badIn,Bool.and_eq_true,decide_eq_true_eq]
    refine⟨h,by omega,(nth y h).toNat,by omega,.inr ⟨x.f.toNat,by omega,by omega,?_⟩⟩
    rw [← e4];exact cm in2
   ·first
     | exact ih x.f.toNat (by omega) (by omega) (by omega)
     | omega
 have e:y=D:=gC b.len fun i=>by
  have h1:=b.hi i
  rcases Nat.lt_or_ge i D.length with h2 | h2
  ·rcases Int.lt_or_eq_of_le h1 with h3 | h3
   ·exact absurd (none _ i h2 h3 (Nat.le_refl _)) id
   ·exact h3
  ·rw [dO h2,dO (by have:=b.len;omega)]
 rw [e] at r;exact r
end
end Go.Proofs.YtadofgdidhpnpaaGreatDoor

/-
  THE PLAIN LAW (2): the program's consistent cuts are the reference's. Conditions: none.
-/
namespace Go.Proofs.YtadofgdidhpnpaaGreatDoor
open Go.AM
open Go.Proofs.Tryz (prog)
set_option linter.all false
set_option maxRecDepth 10000
section
variable {D : List Int} {N : List Note} {K : List (List (List Int))}
def In (K:List (List (List Int))) (c:List Int) (n h:Nat):Prop:=∀g,h≤g→g < n→0 < nth c g→∀q,kn K g ((nth c g).toNat - 1) q≤nth c q
theorem lb (F:∀h,Four (kth K h)) {c:List Int} {n:Nat} (hi:∀h,h < n→nth c h≤(kth K h).length):∀(k h:Nat) (out:List Int),h+k≤n→out.length=4→∀q,nth out q≤nth (forthR K c k h out) q
 | 0,_,_,_,ho,_=>Int.le_refl _
 | k+1,h,out,hk,ho,q=>by
  simp only [forthR]
  by_cases h2:0 < nth c h
  ·have h3:=hi h (by omega)
   have h4:(clk K h ((nth c h).toNat - 1)).length=4:=F h _ (cm (by omega))
   rw [if_pos h2]
   have h5:=lb F hi k (h+1) (zmax out (clk K h ((nth c h).toNat - 1))) (by omega) (iB ho h4) q
   rw [dS (by omega)] at h5
   omega
  ·rw [if_neg h2];exact lb F hi k (h+1) _ (by omega) ho q
theorem nu (F:∀h,Four (kth K h)) {c:List Int} {n:Nat} (hc:c.length=4) (hi:∀h,h < n→nth c h≤(kth K h).length):∀(k h:Nat),h+k=n→(forthR K c k h c=c↔In K c n h)
 | 0,h,hk=>⟨fun _ g h1 h2=>by omega,fun _=>rfl⟩
 | k+1,h,hk=>by
  simp only [forthR]
  have ih:=nu F hc hi k (h+1) (by omega)
  by_cases h2:0 < nth c h
  ·have h3:=hi h (by omega)
   have h4:(clk K h ((nth c h).toNat - 1)).length=4:=F h _ (cm (by omega))
   rw [if_pos h2]
   have hz:=fun q=>dS (a:=c) (b:=clk K h ((nth c h).toNat - 1)) (by omega) q
   have hzl:(zmax c (clk K h ((nth c h).toNat - 1))).length=4:=iB hc h4
   constructor
   ·intro e
    have ge:=lb F hi k (h+1) _ (by omega) hzl
    rw [e] at ge
    have ez:zmax c (clk K h ((nth c h).toNat - 1))=c:=gC (by omega) fun q=>by have:=ge q;have:=hz q;omega
    rw [ez] at e
    intro g g1 g2 g3 q
    rcases Nat.lt_or_ge h g with h5 | h5
    ·exact ih.1 e g h5 g2 g3 q
    ·have:g=h:=by omega
     subst this
     have:=hz q;rw [ez] at this
     show nth (clk K g _) q≤_
     omega
   ·intro a
    have ez:zmax c (clk K h ((nth c h).toNat - 1))=c:=gC (by omega) fun q=>by
     have:=a h (Nat.le_refl _) (by omega) h2 q
     rw [hz]
     show max (nth c q) (kn K h _ q)=_
     omega
    rw [ez]
    exact ih.2 fun g g1 g2=>a g (by omega) g2
  ·rw [if_neg h2,ih]
   constructor
   ·intro a g g1 g2 g3
    rcases Nat.lt_or_ge h g with h5 | h5
    ·exact a g h5 g2 g3
    ·have:g=h:=by omega
     subst this;exact absurd g3 h2
   ·intro a g g1 g2;exact a g (by omega) g2
theorem du {l:List Int} {n i:Nat} (h:i < n):nth (l.take n) i=nth l i:=by simp [nth,List.getD,List.getElem?_take,h]
theorem j0 {c:List Int}:conR N c=true↔∀x∈N,x.r≤nth c x.t.toNat→x.s≤nth c x.f.toNat:=by
 simp only [conR,List.all_eq_true,noteOk]
 constructor
 ·intro h x hx hr
  have:=h x hx
  simp [hr] at this;exact this
 ·intro h x hx
  by_cases q:x.r≤nth c x.t.toNat
  ·have:=h x hx q
   simp [q];omega
  ·simp [q]
theorem uw (k:Clocks D N K) {c:List Int} (hc:IsCut D.length (pad D) c):forthL K D.length c=c↔conR N (c.take D.length)=true:=by
 have hD:∀h,nth c h≤nth D h:=fun h=>by have:=hc.hi h;rw [cZ] at this;exact this
 have hi:∀h,h < D.length→nth c h≤(kth K h).length:=fun h hh=>by rw [k.I.rows h hh];exact hD h
 rw [forthL,nu k.F hc.len hi _ 0 (by omega),j0]
 constructor
 ·intro a x hx hr
  obtain⟨f0,f1,t0,t1,ne,s0,s1,r0,r1⟩:=k.P.notes x hx
  rw [du (by omega)] at hr ⊢
  have h1:=a x.t.toNat (by omega) (by omega) (by omega) x.f.toNat
  have h2:=k.mono (h:=x.t.toNat) (by omega) x.f.toNat ((nth c x.t.toNat).toNat - x.r.toNat) (x.r.toNat - 1) (by have:=hD x.t.toNat;omega)
  rw [show x.r.toNat - 1+((nth c x.t.toNat).toNat - x.r.toNat)=(nth c x.t.toNat).toNat - 1 by omega] at h2
  have h3:=k.note hx x.f.toNat
  have h4:=k.I.unit x.f.toNat (x.s.toNat - 1) (k.in (by omega) (by omega))
  have h4':((x.s.toNat - 1:Nat):Int)+1≤kn K x.f.toNat (x.s.toNat - 1) x.f.toNat:=h4
  omega
 ·intro a g _ hg hpos q
  let V:Nat→Nat→Nat→Int:=fun h i q=>if (i:Int) < nth c h then nth c q else nth D q
  have hV:∀h i q,V h i q=if (i:Int) < nth c h then nth c q else nth D q:=fun _ _ _=>rfl
  have S:Super D N V:=by
   refine⟨fun h i h1=>?_,fun h i g=>?_,fun h i g h1=>?_,fun x hx g=>?_⟩
   ·rw [hV];split<;>omega
   ·rw [hV];split
    ·exact hc.lo g
    ·exact k.P.L.lo g
   ·rw [hV,hV]
    have:=hD g
    split<;>split<;>omega
   ·obtain⟨f0,f1,t0,t1,ne,s0,s1,r0,r1⟩:=k.P.notes x hx
    have h1:=a x hx
    rw [du (by omega),du (by omega)] at h1
    rw [hV,hV]
    have:=hD g
    split<;>split<;>omega
  have h1:=k.I.low V S g ((nth c g).toNat - 1) (k.in hg (by have:=hD g;omega)) q
  rw [hV,if_pos (by omega)] at h1
  exact h1
end
end Go.Proofs.YtadofgdidhpnpaaGreatDoor

/-
  At, AND WHAT THE LAWS CALL. Conditions: none.
-/
namespace Go.Proofs.YtadofgdidhpnpaaGreatDoor
open Go.AM
open Go.Proofs.Tryz (prog)
set_option linter.all false
set_option maxRecDepth 100000
theorem yM {D:List Int} {N:List Note} {K:List (List (List Int))} (P:Pre D N) (I:Inv D N K) (h4:K.length=4) (F:∀h,Four (kth K h)) (few:∀h,(kth K h).length≤6) :
  IsStory (.fptr (.int .i64 D.length::(ints (pad D)++vals4 K))) D.length (pad D) K:=by
 have hs:∀h,IsSl ints (valK K h) (kth K h):=fun h=>by
  by_cases e:kth K h=[]
  ·exact .inl ⟨by simp [valK,e],e⟩
  ·exact .inr ⟨false,by simp [valK,e]⟩
 refine⟨⟨vals4 K,rfl,rfl,fun h hh=>?_⟩,gE P.L.n4,P.L.n4,P.L.n1,F,few,fun h hh=>by rw [cZ];exact I.rows h hh,fun h hh=>by rw [cZ];exact dO hh,fun h=>by rw [cZ];exact P.L.lo h⟩
 match h,hh with
 | 0,_=>exact hs 0
 | 1,_=>exact hs 1
 | 2,_=>exact hs 2
 | 3,_=>exact hs 3
theorem IsStory.closed {v:AV} {n:Nat} {D:List Int} {K:List (List (List Int))} (s:IsStory v n D K):v.closed=true:=by obtain⟨V,rfl,_⟩:=s.V;rfl
theorem IsStory.one {v:AV} {n:Nat} {D:List Int} {K:List (List (List Int))} (s:IsStory v n D K):v.one=true:=by obtain⟨V,rfl,_⟩:=s.V;rfl
theorem ValidS.pre {D:List Int} {N:List Note} (v:ValidS D N):Pre D N:=⟨v.I2,v.notes⟩
theorem Pre.valid {D:List Int} {N:List Note} (P:Pre D N) (r:Reach D N D):ValidS D N:=⟨P.L.n1,P.L.n4,P.L.lo,P.L.hi,P.L.N24,P.notes,r⟩
inductive IsRead (D:List Int) (N:List Note):AV→Prop where
 | ok {sv:AV} {K:List (List (List Int))} (v:ValidS D N) (k:Clocks D N K) (s:IsStory sv D.length (pad D) K):IsRead D N (.tup [sv,.bool true])
 | no (h:¬ValidS D N):IsRead D N (.tup [.nilp,.bool false])
theorem nf {v:AV} {D:List Int} {N:List Note} (hs:IsTale v D N) (hl:D.length < 100000) (hn:N.length < 100000):∃r,IsRead D N r∧∀m,denC prog ann 35 [v] m=some (r,m):=by
 obtain⟨r,h,e⟩:=yN hs hl hn
 refine⟨r,?_,e⟩
 rcases h with ⟨P,K,I,C,h4,F,few,rfl⟩ | ⟨h,rfl⟩
 ·have k:Clocks D N K:=⟨P,I,C,F⟩
  cases hb:badAll K D.length 0 with
  | true =>
   refine .no fun v=>?_
   rw [nY k v.all] at hb;cases hb
  | false=>exact .ok (P.valid (nZ k hb)) k (yM P I h4 F few)
 ·exact .no fun v=>h v.pre
structure AtRes (D:List Int) (N:List Note) (rank:Int) (v:AV) (e:Int):Prop where
 bad:¬ValidS D N→v=.nils∧e=1
 none:ValidS D N→(rank < 0∨(cutsL D N).length≤rank)→v=.nils∧e=5
 ok:ValidS D N→0≤rank→rank < (cutsL D N).length→IsInts v ((cutsL D N).getD rank.toNat [])∧e=0
end Go.Proofs.YtadofgdidhpnpaaGreatDoor

/-
  CUTS AS ARGUMENTS: what is a cut, for the reference and for the program. Conditions: none.
-/
namespace Go.Proofs.YtadofgdidhpnpaaGreatDoor
open Go.AM
open Go.Proofs.Tryz (prog)
set_option linter.all false
set_option maxRecDepth 100000
def boxB (l D:List Int) (k i:Nat):Bool:=(List.range' i k).all fun h=>decide (0≤nth l h)&&decide (nth l h≤nth D h)
theorem pd (l D:List Int) (k i:Nat):boxB l D (k+1) i=((decide (0≤nth l i)&&decide (nth l i≤nth D i))&&boxB l D k (i+1)):=by
 simp only [boxB,List.range'_succ,List.all_cons]
structure CutL (D l:List Int):Prop where
 len:l.length=D.length
 lo:∀h,0≤nth l h
 hi:∀h,nth l h≤nth D h
theorem kg {l D:List Int}:∀(k i:Nat),boxB l D k i=true↔∀h,i≤h→h < i+k→0≤nth l h∧nth l h≤nth D h:=by
 intro k i
 simp only [boxB,List.all_eq_true,List.mem_range'_1,Bool.and_eq_true,decide_eq_true_eq]
 exact⟨fun h g a b=>h g ⟨a,b⟩,fun h g a=>h g a.1 a.2⟩
def cutB (D l:List Int):Bool:=decide (l.length=D.length)&&boxB l D D.length 0
theorem iq {D l:List Int}:cutB D l=true↔CutL D l:=by
 simp only [cutB,Bool.and_eq_true,decide_eq_true_eq,kg]
 constructor
 ·rintro⟨a,b⟩
  have z:∀h,0≤nth l h∧nth l h≤nth D h:=fun h=>by
   rcases Nat.lt_or_ge h D.length with h1 | h1
   ·exact b h (by omega) (by omega)
   ·rw [dO h1,dO (by omega)];omega
  exact⟨a,fun h=>(z h).1,fun h=>(z h).2⟩
 ·rintro⟨a,b,c⟩
  exact⟨a,fun h _ _=>⟨b h,c h⟩⟩
theorem yL {vD vN vl:AV} {D l:List Int} (hD:IsInts vD D) (hv:IsInts vl l) (hl:l.length < 1000000) (he:l.length=D.length):∀(k i:Nat) (m:Mem),i+k=D.length →
  fO.L0 vl (.fptr [vD,vN]) (.int .i64 i) m [.code fO.r6,.code .ret]=some (.bool (boxB l D k i),Mem.empty):=by
 intro k
 induction k with
 | zero =>
  intro i m h1
  have e:i=D.length:=by omega
  subst e
  rw [fO.aM]
  simp [hv.len,hD.len,he,boxB]
 | succ k ih =>
  intro i m h1
  have h3:i < D.length:=by omega
  have h4:i < l.length:=by omega
  have hw:IntKind.wrap .i64 ((i:Int)+1)=(i:Int)+1:=bc (by omega) (by omega)
  have hi:=fun m=>ih (i+1) m (by omega)
  simp only [Int.natCast_add,Int.cast_ofNat_Int] at hi
  rw [fO.aM,pd]
  by_cases q1:0≤nth l i
  ·by_cases q2:nth l i≤nth D i
   ·simp [hv.len,hD.len,he,h3,hv.idx h4,hD.idx h3,bF h4,bF h3,c7,q1,q2,hw,hi]
   ·simp [hv.len,hD.len,he,h3,hv.idx h4,hD.idx h3,bF h4,bF h3,c7,q1,q2]
  ·simp [hv.len,hD.len,he,h3,hv.idx h4,hD.idx h3,bF h4,bF h3,c7,q1]
theorem yf {v vl:AV} {D l:List Int} {N:List Note} (hs:IsTale v D N) (hv:IsInts vl l) (hl:l.length < 1000000) (m:Mem):denC prog ann 13 [v,vl] m=some (.bool (cutB D l),m):=by
 obtain⟨vD,vN,rfl,hD,hN⟩:=hs.ex
 rw [fO.al _ _ _ (by simp [hD.closed,hN.closed,hv.closed])]
 by_cases he:l.length=D.length
 ·have:=yL (vN:=vN) hD hv hl he D.length 0 Mem.empty (by omega)
  simp at this
  simp [hD.one,hN.one,hD.closed,hN.closed,hv.closed,this,cutB,he]
 ·have he':¬(l.length:Int)=D.length:=by omega
  have hz:(decide ((0:Int) < l.length)&&decide ((l.length:Int)=D.length))=false:=by simp [he']
  by_cases q:0 < l.length
  ·simp [hD.one,hN.one,hD.closed,hN.closed,hv.closed,hv.len,hD.len,fO.aM,cutB,he,he',q]
  ·simp [hD.one,hN.one,hD.closed,hN.closed,hv.closed,hv.len,hD.len,fO.aM,cutB,he,he',q]
theorem uC {V:List AV} {n:Nat} {D c:List Int} (hV:V.length=4) (hD4:D.length=4) (hc:c.length=4):∀(k i nx:Nat),i+k=4 →
  cq.L0 (.fptr (.int .i64 n::(ints D++V))) (.ptr 0 0 4) (.ptr 1 0 4) (.agg (ints c)) (.int .i64 i) ⟨upd (upd Mem.empty.h 0 (some (.cells (ints [0,0,0,0])))) 1 (some (.cells (ints c))),nx⟩ [.code cq.r11,.code .ret] =
   some (.tup [.agg (ints c),.bool (boxB c D k i)],Mem.empty):=by
 intro k
 induction k with
 | zero =>
  intro i nx h1
  have e:i=4:=by omega
  subst e
  rw [cq.aM]
  have ht:c.take 4=c:=List.take_of_length_le (by omega)
  simp [boxB,hc,ht]
 | succ k ih =>
  intro i nx h1
  have h3:i < 4:=by omega
  have h3':(i:Int) < 4:=by omega
  have h4:i < c.length:=by omega
  have h5:i < D.length:=by omega
  have hDV:(ints D++V)[i]?=some (.int .i64 (nth D i)):=by rw [List.getElem?_append_left (by simpa using h5),iA h5]
  have hw:IntKind.wrap .i64 ((i:Int)+1)=(i:Int)+1:=bc (by omega) (by omega)
  have hi:=fun nx=>ih (i+1) nx (by omega)
  simp at hi
  have ht:c.take 4=c:=List.take_of_length_le (by omega)
  rw [cq.aM,pd]
  by_cases q1:0≤nth c i
  ·have q1':¬nth c i < 0:=by omega
   by_cases q2:nth c i≤nth D i
   ·have q2':¬nth D i < nth c i:=by omega
    simp [h3,h3',h4,h5,q1,q1',q2,q2',hw,hi,hc,hD4,hV,hDV]
   ·have q2':nth D i < nth c i:=by omega
    simp [h3,h3',h4,h5,q1,q1',q2,q2',hc,hD4,hV,ht,hDV]
  ·have q1':nth c i < 0:=by omega
   simp [h3,h3',h4,h5,q1,q1',hc,hD4,hV,ht]
theorem AZ {l:List Int} {n:Nat} (hn:n≤4) (h:l.length=n):(pad l).take n=l:=by
 subst h
 simp [pad]
theorem A0 {D l:List Int} (h:l.length=D.length) (h4:D.length≤4):boxB (pad l) (pad D) 4 0=boxB l D D.length 0:=by
 cases hq:boxB l D D.length 0 with
 | true =>
  have h1:=(iq (D:=D) (l:=l)).1 (by simp [cutB,h,hq])
  rw [kg]
  intro g _ _
  rw [cZ,cZ]
  exact⟨h1.lo g,h1.hi g⟩
 | false =>
  cases hr:boxB (pad l) (pad D) 4 0 with
  | false=>rfl
  | true =>
   rw [kg] at hr
   rw [← Bool.not_eq_true,kg] at hq
   refine absurd (fun g a b=>?_) hq
   have:=hr g (by omega) (by omega)
   rw [cZ,cZ] at this
   exact this
theorem nd {sv vl:AV} {D l:List Int} {K:List (List (List Int))} (s:IsStory sv D.length (pad D) K) (hv:IsInts vl l) (hl:l.length < 1000000) :
  ∃c,(cutB D l=true→c=pad l)∧c.length=4∧∀m,denC prog ann 36 [sv,vl] m=some (.tup [.agg (ints c),.bool (cutB D l)],m):=by
 obtain⟨V,rfl,hV,_⟩:=s.V
 have h4:=s.n4
 have hD4:=s.D4
 by_cases he:l.length=D.length
 ·refine⟨pad l,fun _=>rfl,gE (by omega),fun m=>?_⟩
  rw [cq.al _ _ _ (by simp [hv.closed])]
  have hc:(pad l).length=4:=gE (by omega)
  have hb:cutB D l=boxB (pad l) (pad D) 4 0:=by rw [A0 he h4];simp [cutB,he]
  have:=fun nx=>uC (n:=D.length) (V:=V) hV hD4 hc 4 0 nx (by omega)
  simp at this
  have hsrc:=hv.src
  have hst:=nr hv
  have hlen:=hv.len
  have hcl:=hv.closed
  clear hv s
  rw [hb]
  clear hb
  generalize pad D=E at this
  generalize D.length=n at he this h4
  subst he
  rcases l with _ | ⟨a,_ | ⟨b,_ | ⟨c,_ | ⟨d,_ | ⟨e,l⟩⟩⟩⟩⟩
  all_goals first
   | (simp at h4;done)
   | (simp [pad] at this ⊢
      simp [hlen,sliceArr,bnds,bnd,copyA,hsrc,hst,Mem.set,splice,this];done)
 ·refine⟨[0,0,0,0],fun h=>absurd (iq.1 h).len he,rfl,fun m=>?_⟩
  rw [cq.al _ _ _ (by simp [hv.closed])]
  have hne:¬(l.length:Int)=D.length:=by omega
  simp [hv.len,hne,cutB,he]
end Go.Proofs.YtadofgdidhpnpaaGreatDoor

/-
  THE PROGRAM's Back, Forth, Consistent, Rank. Conditions: none.
-/
namespace Go.Proofs.YtadofgdidhpnpaaGreatDoor
open Go.AM
open Go.Proofs.Tryz (prog)
set_option linter.all false
set_option maxRecDepth 100000
def bk (K:List (List (List Int))) (c:List Int) (h:Nat):Nat→Nat
 | 0=>0
 | j+1=>if zmax (clk K h j) c=c then j+1 else bk K c h j
theorem AY (K:List (List (List Int))) (c:List Int) (h:Nat):∀j,bk K c h j≤j
 | 0=>Nat.le_refl _
 | j+1=>by rw [bk];split;exact Nat.le_refl _;have:=AY K c h j;omega
theorem wQ {D l:List Int} (h4:D.length≤4) (h:CutL D l):IsCut D.length (pad D) (pad l):=by
 refine⟨gE (by have:=h.len;omega),fun g=>by rw [cZ];exact h.lo g,fun g=>by rw [cZ,cZ];exact h.hi g⟩
structure ConsRes (D:List Int) (N:List Note) (l:List Int) (b:Bool) (e:Int):Prop where
 bad:¬ValidS D N→b=false∧e=1
 form:ValidS D N→cutB D l=false→b=false∧e=2
 ok:ValidS D N→cutB D l=true→b=conR N l∧e=0
theorem Cr {D l:List Int} {N:List Note} {K:List (List (List Int))} (k:Clocks D N K) (h:CutL D l):decide (forthL K D.length (pad l)=pad l)=conR N l:=by
 have:=uw k (wQ k.P.L.n4 h)
 rw [AZ k.P.L.n4 h.len] at this
 cases hq:conR N l with
 | true=>simp [this.2 hq]
 | false=>simp;intro h;rw [this.1 h] at hq;cases hq
theorem kQ {v vl:AV} {D l:List Int} {N:List Note} (hs:IsTale v D N) (hl:D.length < 100000) (hn:N.length < 100000) (hv:IsInts vl l) (hll:l.length < 1000000) :
  ∃b e,ConsRes D N l b e∧∀m,denC prog ann 14 [v,vl] m=some (.tup [.bool b,.int .i64 e],m):=by
 have hs':=hs
 obtain⟨r,hr,er⟩:=nf hs hl hn
 obtain⟨vD,vN,rfl,h1,h2⟩:=hs.ex
 have hcl:closedL [.agg [vD,vN],vl]=true:=by simp [h1.closed,h2.closed,hv.closed]
 cases hr with
 | no h =>
  refine⟨false,1,⟨fun _=>⟨rfl,rfl⟩,fun v=>absurd v h,fun v=>absurd v h⟩,fun m=>?_⟩
  rw [dq.al _ _ _ hcl]
  simp [h1.one,h2.one,h1.closed,h2.closed,er]
 | @ok sv K val k s =>
  obtain⟨c,hc,hc4,ec⟩:=nd s hv hll
  cases hq:cutB D l with
  | false =>
   rw [hq] at ec
   refine⟨false,2,⟨fun h=>absurd val h,fun _ _=>⟨rfl,rfl⟩,fun _ h=>(by rw [hq] at h;cases h)⟩,fun m=>?_⟩
   rw [dq.al _ _ _ hcl]
   simp [h1.one,h2.one,h1.closed,h2.closed,er,ec,s.closed,s.one,hv.closed,hc4]
  | true =>
   have hcut:=iq.1 hq
   have hic:=wQ k.P.L.n4 hcut
   have hce:=hc hq
   subst hce
   rw [hq] at ec
   have ht:(pad l).take 4=pad l:=List.take_of_length_le (by have:=hic.len;omega)
   refine⟨conR N l,0,⟨fun h=>absurd val h,fun _ h=>(by rw [hq] at h;cases h),fun _ _=>⟨rfl,rfl⟩⟩,fun m=>?_⟩
   rw [dq.al _ _ _ hcl]
   have hx:=fun m=>gO s hic m
   rw [Cr k hcut] at hx
   simp [h1.one,h2.one,h1.closed,h2.closed,er,ec,s.closed,s.one,hv.closed,hx,hic.len,ht]
def rankOf (D:List Int) (N:List Note) (l:List Int):Int:=match (cutsL D N).findIdx? (fun x=>l==x) with | some j=>(j:Int) | none => -1
structure RankRes (D:List Int) (N:List Note) (l:List Int) (r:Int) (e:Int):Prop where
 bad:¬ValidS D N→r=0∧e=1
 form:ValidS D N→cutB D l=false→r=0∧e=2
 none:ValidS D N→cutB D l=true→rankOf D N l < 0→r=0∧e=5
 ok:ValidS D N→cutB D l=true→0≤rankOf D N l→r=rankOf D N l∧e=0
inductive MoveRes (move:List (List (List Int))→Nat→List Int→List Int) (D:List Int) (N:List Note) (l:List Int):AV→Int→Prop where
 | bad (h:¬ValidS D N):MoveRes move D N l .nils 1
 | form (v:ValidS D N) (h:cutB D l=false):MoveRes move D N l .nils 2
 | ok {K:List (List (List Int))} {r:AV} (v:ValidS D N) (h:cutB D l=true) (k:Clocks D N K) (hr:IsInts r ((move K D.length (pad l)).take D.length)):MoveRes move D N l r 0
end Go.Proofs.YtadofgdidhpnpaaGreatDoor

/-
  THE PLAIN LAW (3): Back and Forth are what the reference says. Conditions: none.
-/
namespace Go.Proofs.YtadofgdidhpnpaaGreatDoor
open Go.AM
open Go.Proofs.Tryz (prog)
set_option linter.all false
set_option maxRecDepth 10000
theorem lX {a b:List Int} (h:a.length=b.length):zmax a b=b↔∀g,nth a g≤nth b g:=by
 constructor
 ·intro e g
  have:=dS h g
  rw [e] at this;omega
 ·intro e
  refine gC (by simp [zmax,h]) fun g=>?_
  rw [dS h];have:=e g;omega
section
variable {D : List Int} {N : List Note} {K : List (List (List Int))}
theorem Clocks.sP (c:Clocks D N K) {h i:Nat} (hh:h < D.length) (hi:(i:Int) < nth D h):(clk K h i).length=4:=c.F h _ (cm (c.in hh hi))
theorem Clocks.self (c:Clocks D N K) (r:Reach D N D) {h i:Nat} (hh:h < D.length) (hi:(i:Int) < nth D h):kn K h i h=(i:Int)+1:=by
 obtain⟨V,v⟩:=sched c.P r
 have S:Super D N V:=by
  refine⟨fun h i hi=>by rw [v.self h i hi];omega,v.lo,fun h i g hi=>v.own h i g hi,fun x hx g=>v.note x hx (c.P.notes x hx).r1 g⟩
 have a:=c.I.low V S h i (c.in hh hi) h
 rw [v.self h i hi] at a
 have b:=c.I.unit h i (c.in hh hi)
 show nth _ _=_
 omega
theorem Clocks.leD (c:Clocks D N K) {h i:Nat} (hh:h < D.length) (hi:(i:Int) < nth D h) (g:Nat):kn K h i g≤nth D g :=
 c.I.low (fun _ _ g=>nth D g) ⟨fun h i h1=>by omega,fun _ _ g=>c.P.L.lo g,fun _ _ _ _=>Int.le_refl _,fun _ _ _=>Int.le_refl _⟩ h i (c.in hh hi) g
theorem uB (K:List (List (List Int))) (c:List Int) (h:Nat) {i:Nat} (hi:zmax (clk K h i) c=c):∀j,i < j→i+1≤bk K c h j
 | 0,h1=>by omega
 | j+1,h1=>by
  rw [bk]
  split
  ·omega
  ·rename_i q
   rcases Nat.lt_or_ge i j with h2 | h2
   ·exact uB K c h hi j h2
   ·have:i=j:=by omega
    subst this;exact absurd hi q
theorem AX (K:List (List (List Int))) (c:List Int) (h:Nat):∀j,0 < bk K c h j→zmax (clk K h (bk K c h j - 1)) c=c
 | 0,h1=>by simp [bk] at h1
 | j+1,h1=>by
  rw [bk] at h1 ⊢
  split
  ·rename_i q;exact q
  ·rename_i q
   rw [if_neg q] at h1
   exact AX K c h j h1
theorem Clocks.inD (c:Clocks D N K) {h i:Nat} (hi:(i:Int) < nth D h):h < D.length:=by
 rcases Nat.lt_or_ge h D.length with h1 | h1
 ·exact h1
 ·rw [dO h1] at hi;omega
theorem Clocks.trans (c:Clocks D N K) {h i q j:Nat} (hh:h < D.length) (hi:(i:Int) < nth D h) (hj:(j:Int) < kn K h i q) (g:Nat):kn K q j g≤kn K h i g:=by
 have hjD:(j:Int) < nth D q:=by have:=c.leD hh hi q;omega
 have hq:=c.inD hjD
 have S:Super D N (fun h i q=>(bk K (clk K h i) q (nth D q).toNat:Nat)):=by
  have mono:∀ {h i h' i':Nat},(clk K h i).length=4→(clk K h' i').length=4→(∀g,kn K h i g≤kn K h' i' g)→∀q,bk K (clk K h i) q (nth D q).toNat≤bk K (clk K h' i') q (nth D q).toNat:=by
   intro h i h' i' l1 l2 le q
   rcases Nat.eq_zero_or_pos (bk K (clk K h i) q (nth D q).toNat) with e | e
   ·omega
   ·have a:=AX K (clk K h i) q _ e
    have b:=AY K (clk K h i) q (nth D q).toNat
    have hqi:((bk K (clk K h i) q (nth D q).toNat - 1:Nat):Int) < nth D q:=by have:=c.P.L.lo q;omega
    have l3:=c.sP (c.inD hqi) hqi
    rw [lX (by omega)] at a
    have:=uB K (clk K h' i') q (i:=bk K (clk K h i) q (nth D q).toNat - 1) ((lX (by omega)).2 fun g=>Int.le_trans (a g) (le g)) (nth D q).toNat (by omega)
    omega
  refine⟨fun h i h1=>?_,fun _ _ _=>by omega,fun h i g h1=>?_,fun x hx g=>?_⟩
  ·have l1:=c.sP (c.inD h1) h1
   have:=uB K (clk K h i) h (i:=i) ((lX rfl).2 fun _=>Int.le_refl _) (nth D h).toNat (by omega)
   show(i:Int)+1≤((bk K (clk K h i) h (nth D h).toNat:Nat):Int)
   omega
  ·have hh:=c.inD h1
   have:=mono (c.sP hh (i:=i) (by omega)) (c.sP hh h1) (c.own hh h1) g
   exact Int.ofNat_le.2 this
  ·obtain⟨f0,f1,t0,t1,ne,s0,s1,r0,r1⟩:=c.P.notes x hx
   have:=mono (c.sP (h:=x.f.toNat) (i:=x.s.toNat - 1) (by omega) (by omega)) (c.sP (h:=x.t.toNat) (i:=x.r.toNat - 1) (by omega) (by omega)) (c.note hx) g
   exact Int.ofNat_le.2 this
 have low:=c.I.low _ S h i (c.in hh hi) q
 have low':kn K h i q≤(bk K (clk K h i) q (nth D q).toNat:Nat):=low
 have a:=AX K (clk K h i) q (nth D q).toNat (by omega)
 have b:=AY K (clk K h i) q (nth D q).toNat
 have l1:=c.sP hh hi
 have hqi:((bk K (clk K h i) q (nth D q).toNat - 1:Nat):Int) < nth D q:=by omega
 rw [lX (by rw [c.sP hq hqi,l1])] at a
 have m:=c.mono hq g (bk K (clk K h i) q (nth D q).toNat - 1 - j) j (by omega)
 rw [show j+(bk K (clk K h i) q (nth D q).toNat - 1 - j)=bk K (clk K h i) q (nth D q).toNat - 1 by omega] at m
 exact Int.le_trans m (a g)
theorem jy:∀ {E x:List Int},(∀d∈E,0≤d)→(x∈tuplesL E↔CutL E x)
 | [],x,_=>by
  simp only [tuplesL,List.mem_singleton]
  constructor
  ·rintro rfl;exact⟨rfl,fun h=>by simp [nth],fun h=>by simp [nth]⟩
  ·intro h;exact List.length_eq_zero_iff.1 h.len
 | d::E,x,hp=>by
  simp only [tuplesL,List.mem_flatMap,List.mem_map,List.mem_range]
  have hd:=hp d (by simp)
  constructor
  ·rintro⟨i,hi,y,hy,rfl⟩
   have h:=(jy (fun e he=>hp e (by simp [he]))).1 hy
   refine⟨by simp [h.len],fun g=>?_,fun g=>?_⟩
   ·cases g with
    | zero=>rw [dF];omega
    | succ g=>rw [dp];exact h.lo g
   ·cases g with
    | zero=>rw [dF,dF];omega
    | succ g=>rw [dp,dp];exact h.hi g
  ·intro h
   cases x with
   | nil=>have:=h.len;simp at this
   | cons a y =>
    have h0:=h.lo 0
    have h1:=h.hi 0
    rw [dF] at h0 h1
    rw [dF] at h1
    refine⟨a.toNat,by omega,y,(jy (fun e he=>hp e (by simp [he]))).2 ⟨by have:=h.len;simpa using this,fun g=>by have:=h.lo (g+1);rwa [dp] at this,fun g=>by have:=h.hi (g+1);rwa [dp,dp] at this⟩,by rw [show((a.toNat:Nat):Int)=a by omega]⟩
theorem da (L:Lims D N) {x:List Int}:x∈cutsL D N↔CutL D x∧conR N x=true:=by
 rw [cutsL,List.mem_filter,jy (fun d hd=>(L.all d hd).1)]
end
end Go.Proofs.YtadofgdidhpnpaaGreatDoor

/-
  A STORY MADE OF ARBITRARY NUMBERS (1): the deeds. Conditions: none.
-/
namespace Go.Proofs.YtadofgdidhpnpaaGreatDoor
open Go.AM
open Go.Proofs.Tryz (prog)
set_option linter.all false
set_option maxRecDepth 100000
def u8s (l:List Int):List AV:=l.map (.int .u8)
@[simp] theorem Ij:u8s []=[]:=rfl
@[simp] theorem Hx (a:Int) (l:List Int):u8s (a::l)=.int .u8 a::u8s l:=rfl
def Byte (n:Int):Prop:=0≤n∧n≤255
structure IsTaleN (a:AV) (hh:Int) (ds:List Int) (vT:AV) (T:List (List Int)):Prop where
 eq:a=.agg (.int .u8 hh::(u8s ds++[vT]))
 hB:Byte hh
 d4:ds.length=4
 dB:∀i,Byte (nth ds i)
 vT:IsSl u8s vT T
 t4:∀x∈T,x.length=4
 tB:∀x∈T,∀i,Byte (nth x i)
 tl:(T.length:Int)≤9223372036854775807
structure SM (m:Mem) (D:List Int) (vN:AV):Prop where
 r:m.h 0=some (.cells [.nils,.nils])
 nx:2≤m.nx
 s:(D=[]∧m.h 1=some (.cells [.nils,vN]))∨∃id,D≠[]∧m.h 1=some (.cells [.sl id 1 0 D.length D.length,vN])∧m.h id=some (.cells (ints D))∧2≤id∧id < m.nx
end Go.Proofs.YtadofgdidhpnpaaGreatDoor

/-
  A STORY MADE OF ARBITRARY NUMBERS (2): one message. Conditions: none.
-/
namespace Go.Proofs.YtadofgdidhpnpaaGreatDoor
open Go.AM
open Go.Proofs.Tryz (prog)
set_option linter.all false
set_option maxRecDepth 100000
set_option maxHeartbeats 4000000
structure SN (m:Mem) (D:List Int) (vN:AV) (N:List Note):Prop where
 r:m.h 0=some (.cells [.nils,.nils])
 s:∃id,m.h 1=some (.cells [.sl id 1 0 D.length D.length,vN])∧m.h id=some (.cells (ints D))∧2≤id∧id < m.nx
 n:IsSl noteC vN N
 v:ValidS D N
 few:N.length≤12
end Go.Proofs.YtadofgdidhpnpaaGreatDoor

/-
  THE PLAIN LAW (4): Back and Forth. Conditions: none.
-/
namespace Go.Proofs.YtadofgdidhpnpaaGreatDoor
open Go.AM
open Go.Proofs.Tryz (prog)
set_option linter.all false
set_option maxRecDepth 10000
section
variable {D : List Int} {N : List Note} {K : List (List (List Int))}
theorem o6 (L:Lims D N) (P:Pre D N):List.replicate D.length 0∈cutsL D N:=by
 refine(da L).2 ⟨⟨by simp,fun h=>by rw [cW];omega,fun h=>by rw [cW];exact L.lo h⟩,?_⟩
 rw [j0]
 intro x hx hr
 have:=(P.notes x hx).r0
 rw [cW] at hr;omega
theorem ke {c:List Int} {n g:Nat} (h:n≤g):nth (c.take n) g=0:=dO (by simp;omega)
end
end Go.Proofs.YtadofgdidhpnpaaGreatDoor

/-
  THE PLAIN LAW (5): the reference's clocks settle deed by deed, and are the program's. Conditions: none.
-/
namespace Go.Proofs.YtadofgdidhpnpaaGreatDoor
open Go.AM
open Go.Proofs.Tryz (prog)
set_option linter.all false
set_option maxRecDepth 10000
section
variable {D : List Int} {N : List Note} {K : List (List (List Int))}
structure RInv (D:List Int) (N:List Note) (C:List (List (List Int))):Prop where
 len:C.length=D.length
 rows:∀h,h < D.length→((kth C h).length:Int)=nth D h
 wid:∀h,∀c∈kth C h,c.length=D.length
 low:∀V,Super D N V→∀h i,i < (kth C h).length→∀g,kn C h i g≤V h i g
 unit:∀(h i:Nat),i < (kth C h).length→(i:Int)+1≤kn C h i h
 pos:∀h i,i < (kth C h).length→∀g,0≤kn C h i g
def Ge (C C':List (List (List Int))):Prop:=∀h i q,kn C h i q≤kn C' h i q
theorem Ge.trans {A B C:List (List (List Int))} (h:Ge A B) (k:Ge B C):Ge A C:=fun a b c=>Int.le_trans (h a b c) (k a b c)
theorem Cq {C:List (List (List Int))} {h i n:Nat} {c:List Int} (hh:h < C.length) (hi:i < (kth C h).length) (hw:(cth (kth C h) i).length=n) (hc:c.length=n) (g j q:Nat):kn (growK C h i c) g j q=if g=h∧j=i then max (kn C h i q) (nth c q) else kn C g j q:=by
 show nth (cth (kth (growK C h i c) g) j) q=_
 rw [growK,gH hh]
 by_cases e:g=h
 ·subst e
  simp only [if_true,true_and]
  by_cases e2:j=i
  ·subst e2
   rw [if_pos rfl,← dS (by omega)]
   congr 1
   simp [cth,List.getD,List.getElem?_set,hi]
  ·rw [if_neg e2]
   have:¬i=j:=fun x=>e2 x.symm
   show nth _ _=nth _ _
   congr 1
   simp [cth,List.getD,List.getElem?_set,this]
 ·simp [e]
theorem RInv.grow {C:List (List (List Int))} (I:RInv D N C) {h i:Nat} (hh:h < D.length) (hi:i < (kth C h).length) {c:List Int} (hc:c.length=D.length) (hl:∀V,Super D N V→∀g,nth c g≤V h i g):RInv D N (growK C h i c)∧Ge C (growK C h i c)∧∀q,nth c q≤kn (growK C h i c) h i q:=by
 have hhC:h < C.length:=by rw [I.len];exact hh
 have hw:=I.wid h _ (cm hi)
 have e:=Cq (n:=D.length) hhC hi hw hc
 have hk:=fun g=>gH (K:=C) (h:=h) (g:=g) (r:=(kth C h).set i (zmax (cth (kth C h) i) c)) hhC
 have hkl:∀g,(kth (growK C h i c) g).length=(kth C g).length:=by
  intro g;rw [growK,hk];split
  ·rename_i e;subst e;simp
  ·rfl
 refine⟨⟨by simp [growK,I.len],fun g hg=>by rw [hkl];exact I.rows g hg,fun g d hd=>?_,fun V hV g j hj q=>?_,fun g j hj=>?_,fun g j hj q=>?_⟩,fun g j q=>?_,fun q=>?_⟩
 ·rw [growK,hk] at hd
  split at hd
  ·rcases List.mem_or_eq_of_mem_set hd with h1 | h1
   ·exact I.wid h d h1
   ·rw [h1];simp [zmax,hw,hc]
  ·exact I.wid g d hd
 ·rw [hkl] at hj
  rw [e];split
  ·rename_i e2;obtain⟨rfl,rfl⟩:=e2
   have:=I.low V hV g j hj q;have:=hl V hV q;omega
  ·exact I.low V hV g j hj q
 ·rw [hkl] at hj
  rw [e];split
  ·rename_i e2;obtain⟨rfl,rfl⟩:=e2
   have:=I.unit g j hj;omega
  ·exact I.unit g j hj
 ·rw [hkl] at hj
  rw [e];split
  ·rename_i e2;obtain⟨rfl,rfl⟩:=e2
   have:=I.pos g j hj q;omega
  ·exact I.pos g j hj q
 ·rw [e];split
  ·rename_i e2;obtain⟨rfl,rfl⟩:=e2;omega
  ·exact Int.le_refl _
 ·rw [e,if_pos ⟨rfl,rfl⟩];omega
structure Round (D:List Int) (N:List Note) (C C':List (List (List Int))):Prop where
 inv:RInv D N C'
 ge:Ge C C'
 own:∀(h i:Nat),h < D.length→(i:Int)+1 < nth D h→∀q,kn C h i q≤kn C' h (i+1) q
 note:∀x∈N,∀q,kn C x.f.toNat (x.s.toNat - 1) q≤kn C' x.t.toNat (x.r.toNat - 1) q
end
end Go.Proofs.YtadofgdidhpnpaaGreatDoor

/-
  THE REFERENCE's CLOCKS IN MEMORY (4): the rounds, as growth. Conditions: none.
-/
namespace Go.Proofs.YtadofgdidhpnpaaGreatDoor
open Go.AM
open Go.Proofs.Tryz (prog)
set_option linter.all false
set_option maxRecDepth 100000
set_option maxHeartbeats 4000000
theorem yK (R:List (List Int)):flatC rowC R=R.map fun c=>.fsl false c.length (ints c):=by
 induction R with
 | nil=>rfl
 | cons a R ih=>rw [cC,ih];rfl
theorem nX (R:List (List Int)):(flatC rowC R).length=R.length:=by rw [yK];simp
theorem wN (D:List Int) (h4:D.length≤4) (hi:∀i,nth D i≤6):D.sum≤24:=by
 have h0:=hi 0;have h1:=hi 1;have h2:=hi 2;have h3:=hi 3
 match D,h4 with
 | [],_=>simp
 | [a],_=>simp [nth] at *;omega
 | [a,b],_=>simp [nth] at *;omega
 | [a,b,c],_=>simp [nth] at *;omega
 | [a,b,c,d],_=>simp [nth] at *;omega
end Go.Proofs.YtadofgdidhpnpaaGreatDoor

/-
  watch.Clocks: ITS ROWS IN MEMORY. Conditions: none.
-/
namespace Go.Proofs.YtadofgdidhpnpaaGreatDoor
open Go.AM
open Go.Proofs.Tryz (prog)
set_option linter.all false
set_option maxRecDepth 100000
set_option maxHeartbeats 4000000
theorem yJ {size by' n:Nat} {ex:Bool} {cs:List AV} (h:size≠0) (hl:cs.length=n*size) (hc:closedL cs=true) (hr:room n by'=true) (hn:n≠0) :
  appV size by' (.fsl true 0 []) (.fsl ex n cs)=some (.fsl false n cs):=by
 have h':(size==0)=false:=by simpa using h
 have hn':(n==0)=false:=by simpa using hn
 have hr':=hr
 simp at hr'
 simp [appV,appF,h',hl,hn',hr',hc]
 simp [← hl]
theorem sJ {v:AV} {n:Nat} {D:List Int} {K:List (List (List Int))} (s:IsStory v n D K) {c:List Int} (hc:c.length=4) (m:Mem) :
  denC prog ann 20 [v,.agg (ints c)] m=some (.fsl false n (ints (c.take n)),m):=by
 obtain⟨V,rfl,hV,_⟩:=s.V
 have hn:=s.n4
 have hn1:=s.n1
 have he:=yJ (size:=1) (by':=8) (n:=n) (ex:=n==4) (cs:=ints (c.take n)) (by simp) (by simp [hc];omega) (by simp) (by simp [room];omega) (by omega)
 have hcl:∀m,denC prog ann 39 [.fsl (n==4) n (ints (c.take n))] m=some (.fsl false n (ints (c.take n)),m):=by
  intro m
  rw [fY.al _ _ (by simp)]
  simp [Hw,he]
 rw [fZ.al _ _ _ (by simp)]
 have hn':(n:Int)≤4:=by omega
 simp [sliceArr,bnds,bnd,hc,hn',hcl]
def slR (ids:Nat→Nat) (R:List (List (List Int))) (g:Nat):AV:=if kth R g=[] then .nils else .sl (ids g) 1 0 (kth R g).length (kth R g).length
def outR (ids:Nat→Nat) (R:List (List (List Int))) (n:Nat):List AV:=(List.range n).map (slR ids R)
@[simp] theorem gG (ids:Nat→Nat) (R:List (List (List Int))) {n h:Nat} (hh:h < (outR ids R n).length):(outR ids R n)[h]=slR ids R h:=by simp [outR]
structure WAt (m:Mem) (oid:Nat) (ids:Nat→Nat) (n:Nat) (R:List (List (List Int))):Prop where
 o:m.h oid=some (.cells (outR ids R n))
 r:∀h,kth R h≠[]→m.h (ids h)=some (.cells (flatC rowC (kth R h)))
 ol:oid < m.nx
 rl:∀h,kth R h≠[]→ids h < m.nx
 ne:∀h,kth R h≠[]→oid≠ids h
 inj:∀g h,kth R g≠[]→kth R h≠[]→ids g=ids h→g=h
def pushR (R:List (List (List Int))) (h:Nat) (x:List Int):List (List (List Int)):=R.set h (kth R h++[x])
theorem dR {R:List (List (List Int))} {h:Nat} {x:List Int} (hh:h < R.length) (g:Nat):kth (pushR R h x) g=if g=h then kth R h++[x] else kth R g:=by rw [pushR,gH hh]
theorem AW {ids:Nat→Nat} {R:List (List (List Int))} {n h:Nat} {x:List Int} (hh:h < R.length) (hn:h < n) {ids':Nat→Nat} (hi:∀g,g≠h→ids' g=ids g) :
  (outR ids R n).set h (.sl (ids' h) 1 0 ((kth R h).length+1) ((kth R h).length+1))=outR ids' (pushR R h x) n:=by
 refine List.ext_getElem (by simp [outR]) fun g h1 h2=>?_
 rw [List.getElem_set]
 have hg:g < n:=by simpa [outR] using h2
 by_cases e:h=g
 ·subst e
  rw [if_pos rfl,gG]
  simp [slR,dR hh]
 ·rw [if_neg e,gG,gG]
  have e':¬g=h:=fun x=>e x.symm
  simp [slR,dR hh,e',hi g e']
theorem WAt.push {m m':Mem} {oid:Nat} {ids:Nat→Nat} {n:Nat} {R:List (List (List Int))} (w:WAt m oid ids n R) {h:Nat} (hh:h < R.length) (hn:h < n) {x:List Int} {ids':Nat→Nat} (hi:∀g,g≠h→ids' g=ids g)
  (h1:m'.h oid=some (.cells ((outR ids R n).set h (.sl (ids' h) 1 0 ((kth R h).length+1) ((kth R h).length+1)))))
  (h2:m'.h (ids' h)=some (.cells (flatC rowC (kth R h++[x]))))
  (h3:∀id,id < m.nx→id≠oid→id≠ids' h→m'.h id=m.h id) (h4:m.nx≤m'.nx) (h5:ids' h < m'.nx) (h6:oid≠ids' h) (h7:∀g,g≠h→kth R g≠[]→ids g≠ids' h):WAt m' oid ids' n (pushR R h x):=by
 refine⟨by rw [h1,AW (ids':=ids') hh hn hi],fun g hg=>?_,Nat.lt_of_lt_of_le w.ol h4,fun g hg=>?_,fun g hg=>?_,fun g g' hg hg' e=>?_⟩
 ·by_cases e:g=h
  ·subst e;rw [dR hh,if_pos rfl];exact h2
  ·rw [dR hh,if_neg e] at hg ⊢
   rw [hi g e,h3 _ (w.rl g hg) (fun x=>w.ne g hg x.symm) (h7 g e hg)];exact w.r g hg
 ·by_cases e:g=h
  ·subst e;exact h5
  ·rw [dR hh,if_neg e] at hg
   rw [hi g e];exact Nat.lt_of_lt_of_le (w.rl g hg) h4
 ·by_cases e:g=h
  ·subst e;exact h6
  ·rw [dR hh,if_neg e] at hg
   rw [hi g e];exact w.ne g hg
 ·by_cases e1:g=h
  ·by_cases e2:g'=h
   ·omega
   ·rw [dR hh,if_neg e2] at hg'
    rw [e1,hi g' e2] at e;exact absurd e.symm (h7 g' e2 hg')
  ·rw [dR hh,if_neg e1] at hg
   by_cases e2:g'=h
   ·rw [e2,hi g e1] at e;exact absurd e (h7 g e1 hg)
   ·rw [dR hh,if_neg e2] at hg'
    rw [hi g e1,hi g' e2] at e;exact w.inj g g' hg hg' e
end Go.Proofs.YtadofgdidhpnpaaGreatDoor

/-
  FLAGS: WHAT THE HANDS SAY. Conditions: none.
-/
namespace Go.Proofs.YtadofgdidhpnpaaGreatDoor
open Go.AM
open Go.Proofs.Tryz (prog)
set_option linter.all false
set_option maxRecDepth 100000
set_option maxHeartbeats 4000000
structure FlagsOk (D:List Int) (F:List (List Bool)):Prop where
 n:F.length=D.length
 w:∀h,h < D.length→((gth F h).length:Int)=nth D h+1
inductive FlagsRes (D:List Int) (N:List Note) (F:List (List Bool)) (vF:AV):AV→Int→Prop where
 | bad (h:¬ValidS D N):FlagsRes D N F vF (.agg [.nilp,.nils]) 1
 | form (v:ValidS D N) (h:¬FlagsOk D F):FlagsRes D N F vF (.agg [.nilp,.nils]) 2
 | ok {sv:AV} {K:List (List (List Int))} (v:ValidS D N) (h:FlagsOk D F) (k:Clocks D N K) (s:IsStory sv D.length (pad D) K):FlagsRes D N F vF (.agg [sv,vF]) 0
end Go.Proofs.YtadofgdidhpnpaaGreatDoor

/-
  FLAGS: WHAT ALL CUTS AT WHICH ALL HANDS SAY YES BECOME. Conditions: none.
-/
namespace Go.Proofs.YtadofgdidhpnpaaGreatDoor
open Go.AM
open Go.Proofs.Tryz (prog)
set_option linter.all false
set_option maxRecDepth 100000
set_option maxHeartbeats 4000000
structure IsOp (fb:Nat) (op:List Int→List Int→List Int):Prop where
 pure:(ann fb).pure=true
 call:∀a b:List Int,a.length=4→b.length=4→∀m,denC prog ann fb [.agg (ints a),.agg (ints b)] m=some (.agg (ints (op a b)),m)
 len:∀a b:List Int,a.length=4→b.length=4→(op a b).length=4
section
variable {fb : Nat} {op : List Int → List Int → List Int} {sv vF : AV} {n : Nat} {D4 : List Int} {K : List (List (List Int))}
theorem IsStory.frz (s:IsStory sv n D4 K) (m:Mem):frzV sv m=some (sv,m):=by obtain⟨V,rfl,_⟩:=s.V;rfl
def outX (oid:Nat) (acc:List (List Int)):AV:=if acc=[] then .nils else .sl oid 4 0 acc.length (acc.length*4)
def OutX (m:Mem) (oid:Nat) (acc:List (List Int)):Prop:=acc≠[]→m.h oid=some (.cells (flatC ints acc))∧oid < m.nx
end
end Go.Proofs.YtadofgdidhpnpaaGreatDoor

/-
  MAPS KEYED BY CUTS. Conditions: none.
-/
namespace Go.Proofs.YtadofgdidhpnpaaGreatDoor
open Go.AM
open Go.Proofs.Tryz (prog)
set_option linter.all false
set_option maxRecDepth 100000
theorem wP {a b:List Int} (ha:a.length=4) (hb:b.length=4):keyEq prog 62 (.agg (ints a)) (.agg (ints b))=some (decide (a=b)):=by
 have h:=la 4 a b ha hb
 simp only [List.replicate] at h
 simp [keyEq,uz,ha,hb,h]
theorem uA {a:List Int} (ha:a.length=4):keyT prog 62 (.agg (ints a))=true:=by
 obtain⟨a0,a1,a2,a3,rfl⟩:=four ha
 simp [keyT,uz,scL,scV,Hu]
abbrev Ents:=List (List Int×AV)
def keysL (L:Ents):List AV:=L.map fun e=>.agg (ints e.1)
def valsL (L:Ents):List AV:=L.map (·.2)
def lkL:Ents→List Int→Option AV
 | [],_=>none
 | e::L,c=>if e.1=c then some e.2 else lkL L c
def setL:Ents→List Int→AV→Ents
 | [],c,v=>[(c,v)]
 | e::L,c,v=>if e.1=c then(c,v)::L else e::setL L c v
def Keys4 (L:Ents):Prop:=∀e∈L,e.1.length=4
theorem qg:∀ {L:Ents} {c:List Int},Keys4 L→c.length=4→findK prog 62 (.agg (ints c)) (keysL L) (valsL L)=some (lkL L c)
 | [],c,_,_=>rfl
 | e::L,c,h,hc=>by
  have ih:=qg (L:=L) (c:=c) (fun x hx=>h x (by simp [hx])) hc
  have he:e.1.length=4:=h e (by simp)
  simp only [keysL,valsL,List.map_cons,findK,wP hc he,Option.bind_some]
  simp only [keysL,valsL] at ih
  by_cases q:e.1=c
  ·simp [q,lkL]
  ·have q':¬c=e.1:=fun x=>q x.symm
   simp [q,q',lkL,ih]
theorem AQ:∀ {L:Ents} {c:List Int} {v:AV},Keys4 L→c.length=4→setK prog 62 (.agg (ints c)) v (keysL L) (valsL L)=some (keysL (setL L c v),valsL (setL L c v))
 | [],c,v,_,_=>rfl
 | e::L,c,v,h,hc=>by
  have ih:=AQ (L:=L) (c:=c) (v:=v) (fun x hx=>h x (by simp [hx])) hc
  have he:e.1.length=4:=h e (by simp)
  simp only [keysL,valsL,List.map_cons,setK,wP hc he,Option.bind_some]
  simp only [keysL,valsL] at ih
  by_cases q:e.1=c
  ·simp [q,setL]
  ·have q':¬c=e.1:=fun x=>q x.symm
   simp [q,q',setL,ih]
theorem gB:∀ {L:Ents} {c:List Int} {v:AV},Keys4 L→c.length=4→Keys4 (setL L c v)
 | [],c,v,_,hc=>fun e he=>by simp [setL] at he;rw [he];exact hc
 | x::L,c,v,h,hc=>fun e he=>by
  rw [setL] at he
  split at he
  ·rcases List.mem_cons.1 he with rfl | he
   ·exact hc
   ·exact h e (by simp [he])
  ·rcases List.mem_cons.1 he with rfl | he
   ·exact h e (by simp)
   ·exact gB (fun y hy=>h y (by simp [hy])) hc e he
theorem uu:∀(L:Ents) (c:List Int) (v:AV) (d:List Int),lkL (setL L c v) d=if c=d then some v else lkL L d
 | [],c,v,d=>by simp [setL,lkL]
 | e::L,c,v,d=>by
  rw [setL]
  by_cases q:e.1=c
  ·rw [if_pos q,lkL,lkL]
   by_cases q2:c=d
   ·rw [if_pos q2,if_pos q2]
   ·rw [if_neg q2,if_neg q2,if_neg (by rw [q];exact q2)]
  ·rw [if_neg q,lkL,lkL,uu L c v d]
   by_cases q2:e.1=d
   ·rw [if_pos q2,if_pos q2,if_neg (fun x=>q (q2.trans x.symm))]
   ·rw [if_neg q2,if_neg q2]
theorem uy (L:Ents) (h:Nat→Option AObj) (d:Nat):mapO (deep h (d+2)) (keysL L)=some (keysL L):=by
 refine ia fun a ha=>?_
 simp only [keysL,List.mem_map] at ha
 obtain⟨e,_,rfl⟩:=ha
 simp
def mapV (L:Ents):AV:=.fmap (keysL L) (valsL L)
theorem Em {L:Ents} {c:List Int} (h:Keys4 L) (hc:c.length=4) (m:Mem) (z:AV) (ok:Bool):lookP prog m 62 z (mapV L) (.agg (ints c)) ok=some (match lkL L c with
  | some v=>bif ok then .tup [v,.bool true] else v
  | none=>bif ok then .tup [z,.bool false] else z):=by
 simp only [lookP,uA hc,cond_true,lookA,mapV,qg h hc,Option.bind_some]
 cases lkL L c<;>rfl
theorem Ck {L:Ents} {c:List Int} {m:Mem} {id g:Nat} (hm:m.h id=some (.map g (keysL L) (valsL L))) (h:Keys4 L) (hc:c.length=4) (z:AV) (ok:Bool):lookP prog m 62 z (.map id) (.agg (ints c)) ok=some (match lkL L c with
  | some v=>bif ok then .tup [v,.bool true] else v
  | none=>bif ok then .tup [z,.bool false] else z):=by
 simp only [lookP,uA hc,cond_true,lookA,hm,qg h hc,Option.bind_some]
 cases lkL L c<;>rfl
theorem De {L:Ents} {c:List Int} {m:Mem} {id g:Nat} {v:AV} (hm:m.h id=some (.map g (keysL L) (valsL L))) (h:Keys4 L) (hc:c.length=4):updM prog m 62 (.map id) (.agg (ints c)) v=some (.tup [],m.set id (some (.map (g+1) (keysL (setL L c v)) (valsL (setL L c v))))):=by
 simp only [updM,AM.updP,uA hc,cond_true,hm,AQ h hc,Option.bind_some,Option.map_some]
end Go.Proofs.YtadofgdidhpnpaaGreatDoor

/-
  SETS OF CUTS; Possibly. Conditions: none.
-/
namespace Go.Proofs.YtadofgdidhpnpaaGreatDoor
open Go.AM
open Go.Proofs.Tryz (prog)
set_option linter.all false
set_option maxRecDepth 100000
set_option maxHeartbeats 4000000
def setE (rows:List (List Int)) (E:Ents):Ents:=rows.foldl (fun E r=>setL E (pad r) (.bool true)) E
def TrueE (E:Ents):Prop:=∀e∈E,e.2=.bool true
theorem iR:∀ {L:Ents} {c:List Int},TrueE L→TrueE (setL L c (.bool true))
 | [],c,_=>fun e he=>by simp [setL] at he;rw [he]
 | x::L,c,h=>fun e he=>by
  rw [setL] at he
  split at he
  ·rcases List.mem_cons.1 he with rfl | he
   ·rfl
   ·exact h e (by simp [he])
  ·rcases List.mem_cons.1 he with rfl | he
   ·exact h e (by simp)
   ·exact iR (fun y hy=>h y (by simp [hy])) e he
theorem wO:∀(rows:List (List Int)) (E:Ents) (c:List Int),lkL (setE rows E) c=if c∈rows.map pad then some (.bool true) else lkL E c
 | [],E,c=>by simp [setE]
 | r::rows,E,c=>by
  show lkL (setE rows (setL E (pad r) (.bool true))) c=_
  rw [wO rows,uu]
  by_cases q:c∈rows.map pad
  ·rw [if_pos q,if_pos (by simp only [List.map_cons,List.mem_cons];exact .inr q)]
  ·rw [if_neg q]
   by_cases q2:pad r=c
   ·rw [if_pos q2,if_pos (by simp only [List.map_cons,List.mem_cons];exact .inl q2.symm)]
   ·rw [if_neg q2,if_neg (by simp only [List.map_cons,List.mem_cons];exact fun x=>x.elim (fun y=>q2 y.symm) q)]
theorem ux {E:Ents} (h:TrueE E) (hp:Nat→Option AObj) (d:Nat):mapO (deep hp (d+1)) (valsL E)=some (valsL E):=by
 refine ia fun a ha=>?_
 simp only [valsL,List.mem_map] at ha
 obtain⟨e,he,rfl⟩:=ha
 rw [h e he];rfl
inductive SetRes (D:List Int) (N:List Note) (L:List (List Int)):AV→AV→Int→Prop where
 | bad (h:¬ValidS D N):SetRes D N L .nilp .nilm 1
 | long (v:ValidS D N) (h:2500 < L.length):SetRes D N L .nilp .nilm 3
 | form (v:ValidS D N) (h:L.length≤2500) (h2:L.all (cutB D)=false):SetRes D N L .nilp .nilm 2
 | ok {sv:AV} {K:List (List (List Int))} (v:ValidS D N) (h:L.length≤2500) (h2:L.all (cutB D)=true) (k:Clocks D N K) (s:IsStory sv D.length (pad D) K):SetRes D N L sv (mapV (setE L [])) 0
theorem AP {sv vL:AV} {D:List Int} {K:List (List (List Int))} (s:IsStory sv D.length (pad D) K) {cs:List AV} {L:List (List Int)} (hL:IsVec IsInts vL cs L) (hl:L.length≤2500) (hw:∀i,i < L.length→(gth L i).length < 1000000) {id:Nat}:∀(k i:Nat) (E:Ents) (g:Nat) (m:Mem),i+k=L.length→Keys4 E→TrueE E→m.h id=some (.map g (keysL E) (valsL E))→id < m.nx →
  cO.L1 sv (.map id) vL (.int .i64 L.length) (.int .i64 i) m [.code cO.r15,.code .ret] =
   some (if (L.drop i).all (cutB D)=true then .tup [sv,mapV (setE (L.drop i) E),.int .i64 0] else .tup [.nilp,.nilm,.int .i64 2],Mem.empty):=by
 have hn4:=s.n4
 have hfz:∀h d,deep h (d+1) sv=some sv:=by obtain⟨V,rfl,_⟩:=s.V;exact fun _ _=>rfl
 intro k
 induction k with
 | zero =>
  intro i E g m h1 hE hT hm hid
  have e:i=L.length:=by omega
  rw [cO.Df]
  simp [e,hm,hfz,uy,ux hT,setE,mapV]
  done
 | succ k ih =>
  intro i E g m h1 hE hT hm hid
  have hi:i < L.length:=by omega
  have hwr:IntKind.wrap .i64 ((i:Int)+1)=(i:Int)+1:=bc (by omega) (by omega)
  have hb:=hL.at hi
  obtain⟨c,hc,hc4,ec⟩:=nd s hb (hw i hi)
  have hd:=m5 hi
  have htc:(ints c).take 4=ints c:=List.take_of_length_le (by simp [hc4])
  have hd0:(ints c).drop 4=[]:=List.drop_of_length_le (by simp [hc4])
  simp at htc hd0
  have e1:(id==m.nx)=false:=beq_eq_false_iff_ne.2 (by omega)
  rw [cO.Df,hd,List.all_cons]
  cases q:cutB D (gth L i) with
  | false =>
   rw [q] at ec
   simp [hi,hL.idx hi,hL.load hi,s.closed,hb.closed,ec,hc4,htc,hd0]
   done
  | true =>
   rw [q] at ec
   have hcp:=hc q
   have hst:=ih (i+1) (setL E c (.bool true)) (g+1) ⟨upd (upd m.h m.nx none) id (some (.map (g+1) (keysL (setL E c (.bool true))) (valsL (setL E c (.bool true))))),m.nx+1⟩ (by omega) (gB hE hc4) (iR hT) (by simp) (by show id < m.nx+1;omega)
   have hu:=De (m:=⟨upd m.h m.nx none,m.nx+1⟩) (id:=id) (g:=g) (L:=E) (c:=c) (v:=.bool true) (by simp [e1,hm]) hE hc4
   simp only [Int.natCast_add,Int.cast_ofNat_Int] at hst
   have hse:setE (gth L i::L.drop (i+1)) E=setE (L.drop (i+1)) (setL E c (.bool true)):=by rw [hcp];rfl
   rw [hse,Bool.true_and,← hst]
   simp [hi,hL.idx hi,hL.load hi,s.closed,hb.closed,ec,hc4,htc,hd0,hu,Mem.set,hwr]
   done
theorem ur {v vL:AV} {D:List Int} {N:List Note} {cs:List AV} {L:List (List Int)} (hs:IsTale v D N) (hl:D.length < 100000) (hn:N.length < 100000) (hL:IsVec IsInts vL cs L) (hLl:L.length < 1000000) (hw:∀i,i < L.length→(gth L i).length < 1000000) :
  ∃x y e,SetRes D N L x y e∧∀m,denC prog ann 18 [v,vL] m=some (.tup [x,y,.int .i64 e],m):=by
 obtain⟨r,hr,er⟩:=nf hs hl hn
 obtain⟨vD,vN,rfl,h1,h2⟩:=hs.ex
 have hcl:closedL [.agg [vD,vN],vL]=true:=by simp [h1.closed,h2.closed,hL.closed]
 cases hr with
 | no h =>
  refine⟨_,_,_,.bad h,fun m=>?_⟩
  rw [cO.al _ _ _ hcl]
  simp [h1.one,h2.one,h1.closed,h2.closed,er]
  done
 | @ok sv K val k s =>
  by_cases q:2500 < L.length
  ·refine⟨_,_,_,.long val q,fun m=>?_⟩
   rw [cO.al _ _ _ hcl]
   simp [h1.one,h2.one,h1.closed,h2.closed,er,hL.len,show(2500:Int) < L.length by omega]
   done
  ·have lp:=AP s hL (by omega) hw (id:=0) L.length 0 [] 0 ⟨upd Mem.empty.h 0 (some (.map 0 [] [])),1⟩ (by omega) (fun e he=>by cases he) (fun e he=>by cases he) (by simp [keysL,valsL]) (by show 0 < 1;omega)
   simp only [Int.cast_ofNat_Int,Int.ofNat_zero,List.drop_zero] at lp
   cases hq:L.all (cutB D) with
   | true =>
    rw [hq] at lp
    refine⟨_,_,_,.ok val (by omega) hq k s,fun m=>?_⟩
    rw [cO.al _ _ _ hcl]
    simp at lp
    simp [h1.one,h2.one,h1.closed,h2.closed,er,hL.len,show ¬(2500:Int) < L.length by omega,lp]
    done
   | false =>
    rw [hq] at lp
    refine⟨_,_,_,.form val (by omega) hq,fun m=>?_⟩
    rw [cO.al _ _ _ hcl]
    simp at lp
    simp [h1.one,h2.one,h1.closed,h2.closed,er,hL.len,show ¬(2500:Int) < L.length by omega,lp]
    done
end Go.Proofs.YtadofgdidhpnpaaGreatDoor

/-
  Possibly: WHAT IT HANDS BACK. Conditions: none.
-/
namespace Go.Proofs.YtadofgdidhpnpaaGreatDoor
open Go.AM
open Go.Proofs.Tryz (prog)
set_option linter.all false
set_option maxRecDepth 100000
set_option maxHeartbeats 4000000
def inE (E:Ents) (c:List Int):Bool:=(lkL E c).isSome
theorem sH {E:Ents} (hT:TrueE E) {c:List Int}:(match lkL E c with
  | some v=>bif false then AV.tup [v,.bool true] else v
  | none=>bif false then AV.tup [.bool false,.bool false] else .bool false)=.bool (inE E c):=by
 unfold inE
 have:∀(E:Ents),TrueE E→∀v,lkL E c=some v→v=.bool true:=by
  intro E
  induction E with
  | nil=>intro _ v h;cases h
  | cons e E ih =>
   intro hT v h
   rw [lkL] at h
   split at h
   ·rw [← Option.some.inj h];exact hT e (by simp)
   ·exact ih (fun x hx=>hT x (by simp [hx])) v h
 cases h:lkL E c with
 | none=>rfl
 | some v=>rw [this E hT v h];rfl
inductive PosRes (D:List Int) (N:List Note) (L:List (List Int)):AV→Int→Prop where
 | bad (h:¬ValidS D N):PosRes D N L .nils 1
 | long (v:ValidS D N) (h:2500 < L.length):PosRes D N L .nils 3
 | form (v:ValidS D N) (h:L.length≤2500) (h2:L.all (cutB D)=false):PosRes D N L .nils 2
 | none (v:ValidS D N) (h:L.length≤2500) (h2:L.all (cutB D)=true) (e:(cutsL D N).find? (fun c=>decide (c∈L))=none):PosRes D N L .nils 5
 | ok {x:AV} {c:List Int} (v:ValidS D N) (h:L.length≤2500) (h2:L.all (cutB D)=true) (e:(cutsL D N).find? (fun c=>decide (c∈L))=some c) (i:IsInts x c):PosRes D N L x 0
theorem sK {l:List Int} {n:Nat} (h:l.length=n):(pad l).take n=l:=by simp [pad,← h]
theorem sL {n:Nat} {D c:List Int} (hn:D.length=n) (h:IsCut n (pad D) c) (h4:n≤4):pad (c.take n)=c:=by
 have hl:=h.len
 refine gC (by rw [gE (by simp;omega),hl]) fun g=>?_
 rw [cZ]
 rcases Nat.lt_or_ge g n with hg | hg
 ·exact du hg
 ·rw [dO (by simp;omega)]
  have:=h.lo g
  have:=h.hi g
  rw [cZ,dO (l:=D) (by omega)] at this
  omega
theorem o7:∀ {rows:List (List Int)} {E:Ents},Keys4 E→(∀r∈rows,r.length≤4)→Keys4 (setE rows E)
 | [],E,h,_=>h
 | r::rows,E,h,hr=>o7 (rows:=rows) (gB h (gE (hr r (by simp)))) fun x hx=>hr x (by simp [hx])
theorem o8:∀ {rows:List (List Int)} {E:Ents},TrueE E→TrueE (setE rows E)
 | [],E,h=>h
 | r::rows,E,h=>o8 (rows:=rows) (iR h)
theorem sN {D:List Int} {L:List (List Int)} (h:L.all (cutB D)=true):∀r∈L,CutL D r:=fun r hr=>iq.1 (List.all_eq_true.1 h r hr)
theorem Cm {D:List Int} {L:List (List Int)} (h4:D.length≤4) (h:L.all (cutB D)=true) {c:List Int} (hc:IsCut D.length (pad D) c):inE (setE L []) c=decide (c.take D.length∈L):=by
 rw [inE,wO]
 have e:c∈L.map pad↔c.take D.length∈L:=by
  simp only [List.mem_map]
  constructor
  ·rintro⟨r,hr,rfl⟩
   rw [sK (sN h r hr).len];exact hr
  ·intro hr
   exact⟨_,hr,sL rfl hc h4⟩
 by_cases q:c.take D.length∈L
 ·rw [if_pos (e.2 q),decide_eq_true q];rfl
 ·rw [if_neg (fun x=>q (e.1 x)),decide_eq_false q];rfl
end Go.Proofs.YtadofgdidhpnpaaGreatDoor

/-
  Definitely (1): the cuts with one deed more. Conditions: none.
-/
namespace Go.Proofs.YtadofgdidhpnpaaGreatDoor
open Go.AM
open Go.Proofs.Tryz (prog)
set_option linter.all false
set_option maxRecDepth 100000
set_option maxHeartbeats 4000000
def bump (c:List Int) (h:Nat):List Int:=c.set h (nth c h+1)
theorem j8 (c:List Int) (h:Nat):(bump c h).length=c.length:=by simp [bump]
theorem db {c:List Int} {h:Nat} (hh:h < c.length) (g:Nat):nth (bump c h) g=if g=h then nth c h+1 else nth c g:=by
 rw [bump,lW]
 by_cases e:h=g
 ·subst e;simp [hh]
 ·have e':¬g=h:=fun x=>e x.symm
  simp [e,e']
def stepOk (D4:List Int) (K:List (List (List Int))) (n:Nat) (c:List Int) (h:Nat):Bool:=decide (nth c h+1≤nth D4 h)&&decide (forthL K n (bump c h)=bump c h)
def nextR (D4:List Int) (K:List (List (List Int))) (n:Nat) (c:List Int):Nat→List (List Int)
 | 0=>[]
 | k+1=>(if stepOk D4 K n c k=true then [bump c k] else [])++nextR D4 K n c k
def nextV (acc:List (List Int)):AV:=if acc=[] then .nils else .fsl false acc.length (flatC ints acc)
theorem sM (acc:List (List Int)):IsSl ints (nextV acc) acc:=by
 by_cases e:acc=[]
 ·exact .inl ⟨by rw [nextV,if_pos e],e⟩
 ·exact .inr ⟨false,by rw [nextV,if_neg e]⟩
theorem yE {V:List AV} {n:Nat} {D4:List Int} {K:List (List (List Int))} (hV:V.length=4) (s:IsStory (.fptr (.int .i64 n::(ints D4++V))) n D4 K) {c:List Int} (hc:IsCut n D4 c):∀(k:Nat) (acc:List (List Int)) (oid:Nat) (m:Mem),k≤n→Four acc→acc.length+k≤n→OutX m oid acc →
  cy.L0 (.fptr (.int .i64 n::(ints D4++V))) (.fptr (ints c)) (outX oid acc) (.int .i64 ((k:Int) - 1)) m [.code cy.r9,.code .ret]=some (nextV (acc++nextR D4 K n c k),Mem.empty):=by
 have hn4:=s.n4
 have hD4:=s.D4
 have hc4:=hc.len
 intro k
 induction k with
 | zero =>
  intro acc oid m h1 h2 h3 h4
  by_cases e:acc=[]
  ·subst e
   rw [cy.aM]
   simp [outX,nextR,nextV]
   done
  ·obtain⟨a,b⟩:=h4 e
   have hl:=cK (f:=ints) (k:=4) (l:=acc) (fun x hx=>by simp [h2 x hx])
   have htk:(flatC ints acc).take (acc.length*4)=flatC ints acc:=List.take_of_length_le (by omega)
   have hdp:∀d,mapO (deep m.h (d+1)) (flatC ints acc)=some (flatC ints acc):=fun d=>gD _ _ (fun a=>by simp) _
   rw [cy.aM]
   simp [outX,e,nextR,nextV,a,hl,htk,hdp]
   done
 | succ k ih =>
  intro acc oid m h1 h2 h3 h4
  have hk4:k < 4:=by omega
  have e0:((k+1:Nat):Int) - 1=(k:Int):=by omega
  have hw:IntKind.wrap .i64 ((k:Int) - 1)=(k:Int) - 1:=bc (by omega) (by omega)
  have hlo:=hc.lo k
  have hhi:=hc.hi k
  have hd6:=s.D6 k
  have hw2:IntKind.wrap .i64 (nth c k+1)=nth c k+1:=bc (by omega) (by omega)
  have hld:(ints D4++V)[k]?=some (.int .i64 (nth D4 k)):=by rw [List.getElem?_append_left (by simp;omega),iA (by omega)]
  have htc:(ints c).take 4=ints c:=List.take_of_length_le (by simp [hc4])
  have hd0:(ints c).drop 4=[]:=List.drop_of_length_le (by simp [hc4])
  simp at htc hd0
  have hbl:(bump c k).length=4:=by rw [j8,hc4]
  have hset:c.set k (nth c k+1)=bump c k:=rfl
  have htb:(ints (bump c k)).take 4=ints (bump c k):=List.take_of_length_le (by simp [hbl])
  simp at htb
  have hgb:nth (bump c k) k=nth c k+1:=by rw [db (by omega),if_pos rfl]
  have hgk:(ints (bump c k))[k]?=some (.int .i64 (nth c k+1)):=by rw [iA (by omega),hgb]
  have hga:(ints c)[k]?=some (.int .i64 (nth c k)):=iA (by omega)
  have hnew:∀nx,m.nx≤nx→OutX ⟨upd m.h m.nx (some (.cells (ints (bump c k)))),nx+1⟩ oid acc:=fun nx hnx hn=>by
   obtain⟨a,b⟩:=h4 hn
   exact⟨by simp [show(oid==m.nx)=false from beq_eq_false_iff_ne.2 (by omega),a],by show oid < nx+1;omega⟩
  rw [e0,cy.aM,nextR]
  by_cases q:nth c k+1≤nth D4 k
  ·have hcut:IsCut n D4 (bump c k):=⟨hbl,fun g=>by rw [db (by omega)];split;omega;exact hc.lo g,fun g=>by
    rw [db (by omega)];split
    ·rename_i e;rw [e];exact q
    ·exact hc.hi g⟩
   have hcon:=gO s hcut
   by_cases q2:forthL K n (bump c k)=bump c k
   ·rw [if_pos (by simp [stepOk,q,q2])]
    rw [decide_eq_true q2] at hcon
    have hacl:=cK (f:=ints) (k:=4) (l:=acc) (fun a ha=>by simp [h2 a ha])
    have h2':Four (acc++[bump c k]):=fun x hx=>by
     rcases List.mem_append.1 hx with h | h
     ·exact h2 x h
     ·simp at h;rw [h];exact hbl
    by_cases hn:acc=[]
    ·subst hn
     have hst:=ih [bump c k] (m.nx+1+15) ⟨upd (upd m.h m.nx (some (.cells (ints (bump c k))))) (m.nx+1+15) (some (.cells (ints (bump c k)))),m.nx+1+15+1⟩ (by omega) h2' (by simp;omega) (fun _=>⟨by simp [fV],by show m.nx+1+15 < m.nx+1+15+1;omega⟩)
     have e3:outX (m.nx+1+15) [bump c k]=.sl (m.nx+1+15) 4 0 1 4:=by simp [outX]
     rw [e3] at hst
     rw [List.nil_append,← hst]
     simp [hc4,htc,hd0,hk4,hga,hw2,hset,hgk,hgb,htb,hbl,hld,q,hcon,hw,outX]
     done
    ·obtain⟨a,b⟩:=h4 hn
     have e1:(oid==m.nx)=false:=beq_eq_false_iff_ne.2 (by omega)
     have e2:(m.nx==oid)=false:=beq_eq_false_iff_ne.2 (by omega)
     have hst:=ih (acc++[bump c k]) oid ⟨upd (upd m.h m.nx (some (.cells (ints (bump c k))))) oid (some (.cells (flatC ints acc++ints (bump c k)))),m.nx+1+15⟩ (by omega) h2' (by simp;omega) (fun _=>⟨by simp [fg,fV],by show oid < m.nx+1+15;omega⟩)
     have e3:outX oid (acc++[bump c k])=.sl oid 4 0 (acc.length+1) (acc.length*4+4):=by simp [outX,Nat.add_mul]
     have e4:outX oid acc=.sl oid 4 0 acc.length (acc.length*4):=by simp [outX,hn]
     rw [e3] at hst
     rw [← List.append_assoc,← hst,e4]
     simp [hc4,htc,hd0,hk4,hga,hw2,hset,hgk,hgb,htb,hbl,hld,q,hcon,hw,e1,e2,a,hacl,show acc.length+1≤4611686018427387904 by omega,show acc.length≤4611686018427387903 by omega,show(acc.length+1)*32≤70368744177664 by omega]
     done
   ·rw [if_neg (by simp [stepOk,q2])]
    rw [decide_eq_false q2] at hcon
    have hst:=ih acc oid ⟨upd m.h m.nx (some (.cells (ints (bump c k)))),m.nx+1+15⟩ (by omega) h2 (by omega) (hnew (m.nx+15) (by omega))
    rw [List.nil_append,← hst]
    simp [hc4,htc,hd0,hk4,hga,hw2,hset,hgk,hgb,htb,hbl,hld,q,hcon,hw]
    done
  ·rw [if_neg (by simp [stepOk,q])]
   have hst:=ih acc oid ⟨upd m.h m.nx (some (.cells (ints (bump c k)))),m.nx+1+15⟩ (by omega) h2 (by omega) (hnew (m.nx+15) (by omega))
   rw [List.nil_append,← hst]
   simp [hc4,htc,hd0,hk4,hga,hw2,hset,hgk,hgb,htb,hbl,hld,q,hw]
   done
theorem yC {sv:AV} {n:Nat} {D4:List Int} {K:List (List (List Int))} (s:IsStory sv n D4 K) {c:List Int} (hc:IsCut n D4 c) (m:Mem):denC prog ann 21 [sv,.agg (ints c)] m=some (nextV (nextR D4 K n c n),m):=by
 have hn4:=s.n4
 obtain⟨V,e,hV,hS⟩:=s.V
 subst e
 have hw:IntKind.wrap .i64 ((n:Int) - 1)=(n:Int) - 1:=bc (by omega) (by omega)
 have lp:=yE hV s hc n [] 0 Mem.empty (Nat.le_refl _) (fun c hc=>by cases hc) (by simp) (fun h=>absurd rfl h)
 rw [show outX 0 []=.nils by simp [outX],List.nil_append] at lp
 rw [cy.al _ _ _ (by simp)]
 simp [hw,lp]
end Go.Proofs.YtadofgdidhpnpaaGreatDoor

/-
  Definitely (2): courses that avoid a set, as a plain law. Conditions: none.
-/
namespace Go.Proofs.YtadofgdidhpnpaaGreatDoor
open Go.AM
open Go.Proofs.Tryz (prog)
set_option linter.all false
set_option maxRecDepth 100000
inductive Can (D:List Int) (N:List Note) (S:List (List Int)):List Int→Prop where
 | last (h:D∈cutsL D N) (h2:D ∉ S):Can D N S D
 | step {c:List Int} {h:Nat} (hc:c∈cutsL D N) (h2:c ∉ S) (hh:h < D.length) (r:Can D N S (bump c h)):Can D N S c
inductive Path (D:List Int) (N:List Note) (S:List (List Int)):List Int→List (List Int)→Prop where
 | last:Path D N S D [D]
 | step {c:List Int} {h:Nat} {l:List (List Int)} (hc:c≠D) (hh:h < D.length) (r:Can D N S (bump c h)) (ng:∀g,h < g→g < D.length→¬Can D N S (bump c g)) (p:Path D N S (bump c h) l):Path D N S c (c::l)
section
variable {D : List Int} {N : List Note} {S : List (List Int)}
theorem Can.mem {c:List Int} (h:Can D N S c):c∈cutsL D N:=by cases h<;>assumption
theorem Can.out {c:List Int} (h:Can D N S c):c ∉ S:=by cases h<;>assumption
theorem Can.on {c:List Int} (h:Can D N S c) (hc:c≠D):∃h,h < D.length∧Can D N S (bump c h):=by
 cases h with
 | last _ _=>exact absurd rfl hc
 | @step _ h _ _ hh r=>exact⟨h,hh,r⟩
theorem Path.ne {c:List Int} {l:List (List Int)} (p:Path D N S c l):l≠[]:=by cases p<;>simp
theorem jV {c:List Int} {h:Nat} (hh:h < c.length):(bump c h).sum=c.sum+1:=by
 have:=ka c h (nth c h+1) hh
 rw [bump];omega
theorem Can.sum {c:List Int} (h:Can D N S c) (L:Lims D N):c.sum≤D.sum:=by
 induction h with
 | last=>exact Int.le_refl _
 | @step c h hc _ hh _ ih =>
  have:=jV (c:=c) (h:=h) (by rw [((da L).1 hc).1.len];exact hh)
  omega
theorem kZ {c:List Int} {n h:Nat} (hh:h < n) (hl:n≤c.length):(bump c h).take n=bump (c.take n) h:=by
 refine gC (by simp [bump]) fun g=>?_
 rw [db (by simp;omega),du hh]
 rcases Nat.lt_or_ge g n with hg | hg
 ·rw [du hg,db (by omega),du hg]
 ·have:¬g=h:=by omega
  rw [ke hg,if_neg this,ke hg]
theorem yD {c:List Int} (h4:D.length≤4) (hc:IsCut D.length (pad D) c):CutL D (c.take D.length):=by
 have hl:=hc.len
 refine⟨by simp;omega,fun h=>?_,fun h=>?_⟩
 ·rcases Nat.lt_or_ge h D.length with hh | hh
  ·rw [du hh];exact hc.lo h
  ·rw [ke hh];exact Int.le_refl _
 ·rcases Nat.lt_or_ge h D.length with hh | hh
  ·rw [du hh];have:=hc.hi h;rw [cZ] at this;exact this
  ·rw [ke hh,dO hh];exact Int.le_refl _
theorem qf {c:List Int} (hc:IsCut D.length (pad D) c) {h:Nat} (hh:h < 4) (q:nth c h+1≤nth (pad D) h):IsCut D.length (pad D) (bump c h):=by
 have hl:=hc.len
 refine⟨by rw [j8,hl],fun g=>?_,fun g=>?_⟩
 ·rw [db (by omega)];split
  ·have:=hc.lo h;omega
  ·exact hc.lo g
 ·rw [db (by omega)];split
  ·rename_i e;rw [e];exact q
  ·exact hc.hi g
theorem nc {K:List (List (List Int))} (k:Clocks D N K) {c:List Int} (hc:IsCut D.length (pad D) c) {h:Nat} (hh:h < D.length):stepOk (pad D) K D.length c h=true↔bump (c.take D.length) h∈cutsL D N:=by
 have h4:=k.P.L.n4
 have hl:=hc.len
 simp only [stepOk,Bool.and_eq_true,decide_eq_true_eq]
 constructor
 ·rintro⟨q1,q2⟩
  have hb:=qf hc (by omega) q1
  rw [← kZ hh (by omega)]
  exact(da k.P.L).2 ⟨yD h4 hb,(uw k hb).1 q2⟩
 ·intro hm
  obtain⟨a,b⟩:=(da k.P.L).1 hm
  have q1:nth c h+1≤nth (pad D) h:=by
   have:=a.hi h
   rw [db (by simp;omega),if_pos rfl,du hh] at this
   rw [cZ];exact this
  have hb:=qf hc (by omega) q1
  refine⟨q1,(uw k hb).2 ?_⟩
  rw [kZ hh (by omega)];exact b
end
end Go.Proofs.YtadofgdidhpnpaaGreatDoor

/-
  Definitely (3): the search for a course. Conditions: none.
-/
namespace Go.Proofs.YtadofgdidhpnpaaGreatDoor
open Go.AM
open Go.Proofs.Tryz (prog)
set_option linter.all false
set_option maxRecDepth 100000
set_option maxHeartbeats 4000000
theorem Cn:prog.underlying 32=some (.slice 25):=by kernel_rfl
theorem Ht:binA prog .neq 32 .nils .nils=some (.bool false):=by simp [binA,eqT,eqA,Cn]
theorem Eo (ex:Bool) (n:Nat) (cs:List AV):binA prog .neq 32 (.fsl ex n cs) .nils=some (.bool true):=by simp [binA,eqT,eqA,Cn]
theorem Hs:binA prog .eql 32 .nils .nils=some (.bool true):=by simp [binA,eqT,eqA,Cn]
theorem En (ex:Bool) (n:Nat) (cs:List AV):binA prog .eql 32 (.fsl ex n cs) .nils=some (.bool false):=by simp [binA,eqT,eqA,Cn]
def crsV (E:Ents) (id cid:Nat) (sv:AV):AV:=.fn 19 [] [.fptr [mapV E],.sptr [.map id],.fptr [sv],.ptr cid 0 1]
structure CInv (D:List Int) (N:List Note) (S:List (List Int)) (m:Mem) (E:Ents) (id cid:Nat) (sv:AV):Prop where
 mp:∃g L,m.h id=some (.map g (keysL L) (valsL L))∧Keys4 L∧TrueE L∧∀c,IsCut D.length (pad D) c→inE L c=true→¬Can D N S (c.take D.length)
 fn:m.h cid=some (.cells [crsV E id cid sv])
 ne:id≠cid
 l1:id < m.nx
 l2:cid < m.nx
theorem CInv.more {D:List Int} {N:List Note} {S:List (List Int)} {m:Mem} {E:Ents} {id cid:Nat} {sv:AV} (c:CInv D N S m E id cid sv) {m':Mem} (h:∀i,i < m.nx→m'.h i=m.h i) (hn:m.nx≤m'.nx):CInv D N S m' E id cid sv:=by
 obtain⟨g,L,a,b⟩:=c.mp
 exact⟨⟨g,L,by rw [h _ c.l1];exact a,b⟩,by rw [h _ c.l2];exact c.fn,c.ne,Nat.lt_of_lt_of_le c.l1 hn,Nat.lt_of_lt_of_le c.l2 hn⟩
def CRes (D:List Int) (N:List Note) (S:List (List Int)) (x:List Int) (v:AV):Prop :=
 (Can D N S x∧∃l ex,Path D N S x l∧v=.fsl ex l.length (flatC rowC l))∨(¬Can D N S x∧v=.nils)
section
variable {sv : AV} {D : List Int} {N : List Note} {S : List (List Int)} {K : List (List (List Int))} {E : Ents} {id cid : Nat}
theorem AL (k:Clocks D N K) (s:IsStory sv D.length (pad D) K) {c:List Int} (hc:IsCut D.length (pad D) c) (hm:c.take D.length∈cutsL D N) (hS:c.take D.length ∉ S) (hD:c.take D.length≠D)
  (rec:∀(d:List Int) (m:Mem),IsCut D.length (pad D) d→d.take D.length∈cutsL D N→(d.take D.length).sum=(c.take D.length).sum+1→CInv D N S m E id cid sv→∃v m',denC prog ann 19 [.agg (ints d),.fptr [mapV E],.sptr [.map id],.fptr [sv],.ptr cid 0 1] m=some (v,m')∧CInv D N S m' E id cid sv∧CRes D N S (d.take D.length) v) :
  ∀(j i:Nat) (m:Mem),j≤D.length→(nextR (pad D) K D.length c D.length).drop i=nextR (pad D) K D.length c j→(∀g,j≤g→g < D.length→¬Can D N S (bump (c.take D.length) g))→CInv D N S m E id cid sv →
  ∃v m',bK.L0 (.sptr [.map id]) (.fptr [sv]) (.ptr cid 0 1) (.fptr (ints c)) (nextV (nextR (pad D) K D.length c D.length)) (.int .i64 (nextR (pad D) K D.length c D.length).length) (.int .i64 i) m [.code bK.r12,.code bK.r13,.code .ret]=some (v,m')∧CInv D N S m' E id cid sv∧CRes D N S (c.take D.length) v:=by
 have hn4:=s.n4
 have hc4:=hc.len
 have hfz:=s.frz
 have htc:(ints c).take 4=ints c:=List.take_of_length_le (by simp [hc4])
 simp at htc
 generalize hNL:nextR (pad D) K D.length c D.length=NL
 have hav:=sM NL
 have hln:∀(j:Nat),(nextR (pad D) K D.length c j).length≤j:=by
  intro j
  induction j with
  | zero=>simp [nextR]
  | succ j ih=>rw [nextR,List.length_append];split<;>simp<;>omega
 have hNl:NL.length≤4:=by rw [← hNL];have:=hln D.length;omega
 intro j
 induction j with
 | zero =>
  intro i m h1 h2 h3 ci
  have hi:NL.length≤i:=by
   have:=congrArg List.length h2
   simp [nextR] at this;omega
  have hno:¬Can D N S (c.take D.length):=fun x=>by
   obtain⟨h,hh,r⟩:=x.on hD
   exact h3 h (by omega) hh r
  obtain⟨g,L,a1,a2,a3,a4⟩:=ci.mp
  have hu:=De (v:=.bool true) a1 a2 hc4
  refine⟨.nils,⟨upd m.h id (some (.map (g+1) (keysL (setL L c (.bool true))) (valsL (setL L c (.bool true))))),m.nx⟩,?_,⟨⟨g+1,setL L c (.bool true),by simp,gB a2 hc4,iR a3,fun d hd hin=>?_⟩,by simp [show(cid==id)=false from beq_eq_false_iff_ne.2 (fun x=>ci.ne x.symm),ci.fn],ci.ne,ci.l1,ci.l2⟩,.inr ⟨hno,rfl⟩⟩
  ·rw [bK.aM]
   simp [show ¬i < NL.length by omega,hc4,htc,hu,Mem.set]
   done
  ·rw [inE,uu] at hin
   by_cases q:c=d
   ·rw [← q];exact hno
   ·rw [if_neg q] at hin;exact a4 d hd hin
 | succ j ih =>
  intro i m h1 h2 h3 ci
  by_cases q:stepOk (pad D) K D.length c j=true
  ·have hmem:=(nc k hc (h:=j) (by omega)).1 q
   simp only [nextR,if_pos q,List.singleton_append] at h2
   have hi:i < NL.length:=by
    rcases Nat.lt_or_ge i NL.length with h | h
    ·exact h
    ·rw [List.drop_of_length_le h] at h2;cases h2
   have hd:NL.drop i=cth NL i::NL.drop (i+1):=by
    obtain⟨g1,g2⟩:=List.getElem?_eq_some_iff.1 (kY hi)
    rw [List.drop_eq_getElem_cons g1,g2]
   rw [hd] at h2
   obtain⟨hce,hdr⟩:=List.cons.inj h2
   have q1:nth c j+1≤nth (pad D) j:=by
    simp only [stepOk,Bool.and_eq_true,decide_eq_true_eq] at q;exact q.1
   have hb:=qf hc (h:=j) (by omega) q1
   have hbt:(bump c j).take D.length=bump (c.take D.length) j:=kZ (by omega) (by omega)
   have hbm:(bump c j).take D.length∈cutsL D N:=by rw [hbt];exact hmem
   have hA:Four NL:=fun d hd=>by
    have key:∀j,∀d∈nextR (pad D) K D.length c j,d.length=4:=by
     intro j
     induction j with
     | zero=>intro d hd;cases hd
     | succ j ih =>
      intro d hd
      rw [nextR] at hd
      rcases List.mem_append.1 hd with h | h
      ·split at h
       ·simp at h;rw [h,j8];exact hc4
       ·cases h
      ·exact ih d h
    rw [← hNL] at hd;exact key _ d hd
   have hidx:=hav.idx hA.cells hi .i64
   have hld:=j9 hA hi
   rw [hce] at hld
   have hb4:(bump c j).length=4:=hb.len
   have htb:(ints (bump c j)).take 4=ints (bump c j):=List.take_of_length_le (by simp [hb4])
   simp at htb
   obtain⟨v,m1,e1,ci1,r1⟩:=rec (bump c j) ⟨upd m.h m.nx none,m.nx+1⟩ hb hbm (by rw [hbt,jV (by simp;omega)]) (ci.more (fun i hi=>by simp [show(i==m.nx)=false from beq_eq_false_iff_ne.2 (by omega)]) (by simp))
   have hcn:(cid==m.nx)=false:=beq_eq_false_iff_ne.2 (by have:=ci.l2;omega)
   have hfnc:=ci.fn
   have hpu:(ann 19).pure=false:=by kernel_rfl
   have hwr:IntKind.wrap .i64 ((i:Int)+1)=(i:Int)+1:=bc (by omega) (by omega)
   rcases r1 with ⟨rc,l,ex,rp,rfl⟩ | ⟨rn,rfl⟩
   ·have hlist:=sJ s hc4
    rw [hbt] at rc rp
    have hcan:Can D N S (c.take D.length):=.step hm hS (h:=j) (by omega) rc
    have hpath:Path D N S (c.take D.length) (c.take D.length::l):=.step hD (by omega) rc (fun g hg hgd=>h3 g (by omega) hgd) rp
    have hll:l.length≤25:=by
     have key:∀(x:List Int) (l:List (List Int)),Path D N S x l→x∈cutsL D N→(l.length:Int)+x.sum≤D.sum+1:=by
      intro x l p
      induction p with
      | last=>intro _;simp;omega
      | @step c h l hc hh r ng p ih =>
       intro hm
       have:=ih r.mem
       have hl:=((da k.P.L).1 hm).1.len
       have:=jV (c:=c) (h:=h) (by omega)
       simp;omega
     have a:=key _ _ rp rc.mem
     have b:=wN D hn4 k.P.L.hi
     have c0:0≤(bump (c.take D.length) j).sum:=by
      have hcl:=((da k.P.L).1 rc.mem).1
      have:∀(y:List Int),(∀g,0≤nth y g)→0≤y.sum:=by
       intro y
       induction y with
       | nil=>intro _;simp
       | cons z y ih =>
        intro h
        have h0:0≤z:=h 0
        have:=ih fun g=>h (g+1)
        simp;omega
      exact this _ hcl.lo
     omega
    have htl:(c.take D.length).length=D.length:=by simp [hc4];omega
    have hflr:(flatC rowC l).length=l.length:=nX l
    have hcl:closedL (flatC rowC l)=true:=fR (fun _=>rfl) l
    have hrow:AV.fsl false (l.length+1) (.fsl false D.length (ints (c.take D.length))::flatC rowC l)=.fsl false (c.take D.length::l).length (flatC rowC (c.take D.length::l)):=by rw [cC];simp only [rowC,htl];rfl
    have htk2:(AV.fsl false D.length (ints (c.take D.length))::flatC rowC l).take (l.length+1)=.fsl false D.length (ints (c.take D.length))::flatC rowC l:=List.take_of_length_le (by simp [hflr])
    have htk3:(flatC rowC l).take l.length=flatC rowC l:=List.take_of_length_le (by omega)
    have hne0:¬l.length=0:=fun h=>rp.ne (List.length_eq_zero_iff.1 h)
    have hne0b:(l.length==0)=false:=beq_eq_false_iff_ne.2 hne0
    refine⟨.fsl false (c.take D.length::l).length (flatC rowC (c.take D.length::l)),⟨upd (upd m1.h m1.nx none) m1.nx none,m1.nx+1⟩,?_,ci1.more (fun i hi=>by simp [show(i==m1.nx)=false from beq_eq_false_iff_ne.2 (by omega)]) (by simp),.inl ⟨hcan,_,false,hpath,rfl⟩⟩
    rw [← hrow]
    generalize c.take D.length=x at hlist htl ⊢
    rw [bK.aM]
    simp [hi,hidx,hld,hb4,htb,hcn,hfnc,crsV,hpu,e1,Eo,hc4,htc,hfz,hlist,s.closed,hne0b,hflr,hcl,htk2,htk3,show 1+l.length=l.length+1 by omega,show l.length+1≤4611686018427387904 by omega,show(l.length+1)*24≤70368744177664 by omega]
    done
   ·rw [hbt] at rn
    obtain⟨v,m2,e2,ci2,r2⟩:=ih (i+1) m1 (by omega) hdr (fun g hg hgd=>by
     by_cases e:g=j
     ·rw [e];exact rn
     ·exact h3 g (by omega) hgd) ci1
    refine⟨v,m2,?_,ci2,r2⟩
    simp only [Int.natCast_add,Int.cast_ofNat_Int] at e2
    rw [← e2,bK.aM]
    simp [hi,hidx,hld,hb4,htb,hcn,hfnc,crsV,hpu,e1,Ht,hwr]
    done
  ·have hnot:¬Can D N S (bump (c.take D.length) j):=fun x=>q ((nc k hc (by omega)).2 x.mem)
   simp only [nextR,if_neg q,List.nil_append] at h2
   exact ih i m (by omega) h2 (fun g hg hgd=>by
    by_cases e:g=j
    ·rw [e];exact hnot
    ·exact h3 g (by omega) hgd) ci
end
end Go.Proofs.YtadofgdidhpnpaaGreatDoor

/-
  Definitely (4): WHAT IT HANDS BACK. Conditions: none.
-/
namespace Go.Proofs.YtadofgdidhpnpaaGreatDoor
open Go.AM
open Go.Proofs.Tryz (prog)
set_option linter.all false
set_option maxRecDepth 100000
set_option maxHeartbeats 4000000
theorem El {L:Ents} {c:List Int} {m:Mem} {id g:Nat} (hm:m.h id=some (.map g (keysL L) (valsL L))) (h:Keys4 L) (hT:TrueE L) (hc:c.length=4):lookP prog m 62 (.bool false) (.map id) (.agg (ints c)) false=some (.bool (inE L c)) :=
 (Ck hm h hc _ _).trans (congrArg some (sH hT))
theorem Cl {L:Ents} {c:List Int} (m:Mem) (h:Keys4 L) (hT:TrueE L) (hc:c.length=4):lookP prog m 62 (.bool false) (mapV L) (.agg (ints c)) false=some (.bool (inE L c)) :=
 (Em h hc m _ _).trans (congrArg some (sH hT))
section
variable {sv : AV} {D : List Int} {N : List Note} {S : List (List Int)} {K : List (List (List Int))} {E : Ents} {id cid : Nat}
theorem sI (k:Clocks D N K) (s:IsStory sv D.length (pad D) K) (hE:Keys4 E) (hT:TrueE E) (hin:∀c,IsCut D.length (pad D) c→inE E c=decide (c.take D.length∈S)) {c:List Int} (hc:IsCut D.length (pad D) c) (hm:c.take D.length∈cutsL D N)
  (rec:c.take D.length≠D→∀(d:List Int) (m:Mem),IsCut D.length (pad D) d→d.take D.length∈cutsL D N→(d.take D.length).sum=(c.take D.length).sum+1→CInv D N S m E id cid sv→∃v m',denC prog ann 19 [.agg (ints d),.fptr [mapV E],.sptr [.map id],.fptr [sv],.ptr cid 0 1] m=some (v,m')∧CInv D N S m' E id cid sv∧CRes D N S (d.take D.length) v)
  (m:Mem) (ci:CInv D N S m E id cid sv) :
  ∃v m',denC prog ann 19 [.agg (ints c),.fptr [mapV E],.sptr [.map id],.fptr [sv],.ptr cid 0 1] m=some (v,m')∧CInv D N S m' E id cid sv∧CRes D N S (c.take D.length) v:=by
 have hn4:=s.n4
 have hfz:=s.frz
 have hc4:=hc.len
 have htc:(ints c).take 4=ints c:=List.take_of_length_le (by simp [hc4])
 simp at htc
 have hv:=Cl m hE hT hc4
 obtain⟨g,L,a1,a2,a3,a4⟩:=ci.mp
 have hl:=El a1 a2 a3 hc4
 have hmo:(mapV E).one=true:=rfl
 by_cases q1:c.take D.length∈S
 ·rw [hin c hc,decide_eq_true q1] at hv
  refine⟨.nils,m,?_,ci,.inr ⟨fun x=>x.out q1,rfl⟩⟩
  rw [bK.al]
  simp [hc4,htc,hv]
  done
 ·rw [hin c hc,decide_eq_false q1] at hv
  cases q2:inE L c with
  | true =>
   rw [q2] at hl
   refine⟨.nils,m,?_,ci,.inr ⟨a4 c hc q2,rfl⟩⟩
   rw [bK.al]
   simp [hc4,htc,hv,hl]
   done
  | false =>
   rw [q2] at hl
   have hD4:=s.D4
   have hlist:=sJ s hc4
   have hnext:=yC s hc
   have hsc:=s.closed
   have hcm:=ci.more (m':=⟨m.h,m.nx+6⟩) (fun _ _=>rfl) (by simp)
   obtain⟨V,hsv,hV,hS⟩:=s.V
   have htD:(ints (pad D)++V).take 4=ints (pad D):=List.take_left' (by simp [hD4])
   have hlD:4≤(ints (pad D)).length+V.length:=by simp [hD4]
   have heq:=wM hc4 hD4
   by_cases q3:c=pad D
   ·have hxD:c.take D.length=D:=by rw [q3];exact sK rfl
    rw [decide_eq_true q3] at heq
    have hmD:=hm
    have q1D:=q1
    rw [hxD] at hmD q1D
    have hcan:Can D N S D:=.last hmD q1D
    refine⟨.fsl true 1 [.fsl false D.length (ints (c.take D.length))],⟨m.h,m.nx+6⟩,?_,hcm,.inl ⟨by rw [hxD];exact hcan,[D],true,by rw [hxD];exact .last,by rw [hxD];rfl⟩⟩
    rw [bK.al]
    generalize c.take D.length=x at hlist
    rw [hsv] at hlist hfz hsc ⊢
    simp [hc4,htc,hv,hl,htD,hD4,hlD,heq,hlist,hfz]
    done
   ·have hxD:c.take D.length≠D:=fun h=>q3 (by rw [← sL rfl hc hn4,h])
    rw [decide_eq_false q3] at heq
    have hav:=sM (nextR (pad D) K D.length c D.length)
    obtain⟨v,m',e1,ci',r'⟩:=AL k s hc hm q1 hxD (rec hxD) D.length 0 ⟨m.h,m.nx+6⟩ (Nat.le_refl _) (by simp) (fun g hg hgd=>by omega) hcm
    refine⟨v,m',?_,ci',r'⟩
    simp only [Int.cast_ofNat_Int,Int.ofNat_zero] at e1
    rw [bK.al,← e1]
    generalize nextR (pad D) K D.length c D.length=NL at hnext hav ⊢
    rw [hsv] at hnext hfz hsc ⊢
    simp [hc4,htc,hv,hl,htD,hD4,hlD,heq,hnext,hfz,hav.len]
    done
theorem AO (k:Clocks D N K) (s:IsStory sv D.length (pad D) K) (hE:Keys4 E) (hT:TrueE E) (hin:∀c,IsCut D.length (pad D) c→inE E c=decide (c.take D.length∈S)):∀(f:Nat) (c:List Int) (m:Mem),IsCut D.length (pad D) c→c.take D.length∈cutsL D N→D.sum≤(c.take D.length).sum+f→CInv D N S m E id cid sv →
  ∃v m',denC prog ann 19 [.agg (ints c),.fptr [mapV E],.sptr [.map id],.fptr [sv],.ptr cid 0 1] m=some (v,m')∧CInv D N S m' E id cid sv∧CRes D N S (c.take D.length) v:=by
 intro f
 induction f with
 | zero =>
  intro c m hc hm hf ci
  have hcl:=((da k.P.L).1 hm).1
  have hcD:c.take D.length=D:=uq _ _ hcl.len hcl.hi (by omega)
  exact sI k s hE hT hin hc hm (fun h=>absurd hcD h) m ci
 | succ f ih =>
  intro c m hc hm hf ci
  exact sI k s hE hT hin hc hm (fun _ d m hd hdm hds cd=>ih d m hd hdm (by omega) cd) m ci
end
inductive DefRes (D:List Int) (N:List Note) (L:List (List Int)):AV→Int→Prop where
 | bad (h:¬ValidS D N):DefRes D N L .nils 1
 | long (v:ValidS D N) (h:2500 < L.length):DefRes D N L .nils 3
 | form (v:ValidS D N) (h:L.length≤2500) (h2:L.all (cutB D)=false):DefRes D N L .nils 2
 | none (v:ValidS D N) (h:L.length≤2500) (h2:L.all (cutB D)=true) (e:¬Can D N L (List.replicate D.length 0)):DefRes D N L .nils 5
 | ok {ex:Bool} {l:List (List Int)} (v:ValidS D N) (h:L.length≤2500) (h2:L.all (cutB D)=true) (e:Can D N L (List.replicate D.length 0)) (p:Path D N L (List.replicate D.length 0) l):DefRes D N L (.fsl ex l.length (flatC rowC l)) 0
theorem yi {v vL:AV} {D:List Int} {N:List Note} {cs:List AV} {L:List (List Int)} (hs:IsTale v D N) (hl:D.length < 100000) (hn:N.length < 100000) (hL:IsVec IsInts vL cs L) (hLl:L.length < 1000000) (hw:∀i,i < L.length→(gth L i).length < 1000000) :
  ∃x e,DefRes D N L x e∧∀m,denC prog ann 5 [v,vL] m=some (.tup [x,.int .i64 e],m):=by
 obtain⟨x,y,e,hr,er⟩:=ur hs hl hn hL hLl hw
 obtain⟨vD,vN,rfl,h1,h2⟩:=hs.ex
 have hcl:closedL [.agg [vD,vN],vL]=true:=by simp [h1.closed,h2.closed,hL.closed]
 cases hr with
 | bad h =>
  refine⟨_,_,.bad h,fun m=>?_⟩
  rw [cF.al _ _ _ hcl]
  simp [h1.one,h2.one,h1.closed,h2.closed,hL.closed,er]
  done
 | long v h =>
  refine⟨_,_,.long v h,fun m=>?_⟩
  rw [cF.al _ _ _ hcl]
  simp [h1.one,h2.one,h1.closed,h2.closed,hL.closed,er]
  done
 | form v h h' =>
  refine⟨_,_,.form v h h',fun m=>?_⟩
  rw [cF.al _ _ _ hcl]
  simp [h1.one,h2.one,h1.closed,h2.closed,hL.closed,er]
  done
 | @ok sv K val h h' k s =>
  have hn4:=s.n4
  have hE:Keys4 (setE L []):=o7 (fun e he=>by cases he) fun r hr=>by rw [(sN h' r hr).len];exact hn4
  have hT:TrueE (setE L []):=o8 (fun e he=>by cases he)
  have hmc:(mapV (setE L [])).closed=true:=rfl
  have hmo:(mapV (setE L [])).one=true:=rfl
  have hmce:(mapV (setE L [])).cells=[mapV (setE L [])]:=rfl
  have hz:([0,0,0,0]:List Int)=List.replicate 4 0:=rfl
  have hzc:IsCut D.length (pad D) [0,0,0,0]:=⟨rfl,fun h=>by rw [hz,cW];exact Int.le_refl _,fun h=>by rw [hz,cW];exact s.pos h⟩
  have hzt:([0,0,0,0]:List Int).take D.length=List.replicate D.length 0:=by rw [hz,List.take_replicate];congr 1;omega
  have hs6:=wN D hn4 k.P.L.hi
  have hsum0:(List.replicate D.length (0:Int)).sum=0:=by simp
  have ci0:CInv D N L ⟨upd (upd (upd (upd (upd (upd Mem.empty.h 0 none) 1 none) 2 (some (.map 0 [] []))) 3 none) 4 (some (.cells [.nilf]))) 4 (some (.cells [crsV (setE L []) 2 4 x])),5⟩ (setE L []) 2 4 x:=by
   refine⟨⟨0,[],by simp [keysL,valsL],(fun e he=>by cases he),(fun e he=>by cases he),(fun c _ hin=>by simp [inE,lkL] at hin)⟩,by simp,by omega,by show 2 < 5;omega,by show 4 < 5;omega⟩
  obtain⟨w,m',ew,_,rw'⟩:=AO k s hE hT (fun c hc=>Cm hn4 h' hc) 24 [0,0,0,0] _ hzc (by rw [hzt];exact o6 k.P.L k.P) (by rw [hzt,hsum0];omega) ci0
  rw [hzt] at rw'
  have hpu:(ann 19).pure=false:=by kernel_rfl
  have hso:=s.one
  have hsc:=s.closed
  have hsce:x.cells=[x]:=by obtain⟨V,rfl,_⟩:=s.V;rfl
  simp [crsV,ints] at ew
  rcases rw' with ⟨rc,l,ex,rp,rfl⟩ | ⟨rn,rfl⟩
  ·refine⟨_,_,.ok (ex:=ex) val h h' rc rp,fun m=>?_⟩
   rw [cF.al _ _ _ hcl]
   simp [h1.one,h2.one,h1.closed,h2.closed,hL.closed,er,hmc,hmo,hmce,hso,hsc,hsce,hpu,ew,En]
   done
  ·refine⟨_,_,.none val h h' rn,fun m=>?_⟩
   rw [cF.al _ _ _ hcl]
   simp [h1.one,h2.one,h1.closed,h2.closed,hL.closed,er,hmc,hmo,hmce,hso,hsc,hsce,hpu,ew,Hs]
   done
end Go.Proofs.YtadofgdidhpnpaaGreatDoor

/-
  COURSES: that there is one; its cuts. Conditions: none.
-/
namespace Go.Proofs.YtadofgdidhpnpaaGreatDoor
open Go.AM
open Go.Proofs.Tryz (prog)
set_option linter.all false
set_option maxRecDepth 100000
set_option maxHeartbeats 4000000
section
variable {D : List Int} {N : List Note} {S : List (List Int)}
theorem o5 (P:Pre D N):D∈cutsL D N:=by
 refine(da P.L).2 ⟨⟨rfl,P.L.lo,fun _=>Int.le_refl _⟩,?_⟩
 rw [j0]
 exact fun x hx _=>(P.notes x hx).s1
structure Way (D:List Int) (N:List Note) (S:List (List Int)) (c:List Int) (l:List (List Int)):Prop where
 first:gth l 0=c
 pos:0 < l.length
 all:∀i,i < l.length→Can D N S (gth l i)
 step:∀i,i+1 < l.length→∃h,h < D.length∧gth l (i+1)=bump (gth l i) h
 last:gth l (l.length - 1)=D
theorem AK (x:List Int) (l:List (List Int)) (i:Nat):gth (x::l) (i+1)=gth l i:=rfl
theorem Path.way {c:List Int} {l:List (List Int)} (p:Path D N S c l):Can D N S c→Way D N S c l:=by
 induction p with
 | last =>
  intro hc
  exact⟨rfl,by simp,fun i hi=>by
   have:i=0:=by simpa using hi
   subst this;exact hc,fun i hi=>by simp at hi,rfl⟩
 | @step c h l hc hh r ng p ih =>
  intro hcan
  have w:=ih r
  have wp:=w.pos
  refine⟨rfl,by simp,fun i hi=>?_,fun i hi=>?_,?_⟩
  ·cases i with
   | zero=>exact hcan
   | succ i=>exact w.all i (by simpa using hi)
  ·cases i with
   | zero=>exact⟨h,hh,w.first⟩
   | succ i=>exact w.step i (by simpa using hi)
  ·have e:(c::l).length - 1=(l.length - 1)+1:=by simp;omega
   rw [e,AK];exact w.last
theorem yB (P:Pre D N) {x:List Int} (r:Reach D N x):x∈cutsL D N:=by
 induction r with
 | zero=>exact o6 P.L P
 | @step done h r s ih =>
  obtain⟨c,q⟩:=(da P.L).1 ih
  obtain⟨s1,s2,s3⟩:=s
  have cl:=c.len
  have e:done.set h (nth done h+1)=bump done h:=rfl
  rw [e]
  refine(da P.L).2 ⟨⟨by rw [j8,cl],fun g=>?_,fun g=>?_⟩,?_⟩
  ·rw [db (by omega)];have:=c.lo g;have:=c.lo h;split<;>omega
  ·rw [db (by omega)];split
   ·rename_i e;rw [e];omega
   ·exact c.hi g
  ·rw [j0] at q ⊢
   intro y hy hr
   obtain⟨f0,f1,t0,t1,ne,s0,s1',r0,r1⟩:=P.notes y hy
   have key:y.s≤nth done y.f.toNat:=by
    by_cases q1:y.r≤nth done y.t.toNat
    ·exact q y hy q1
    ·rw [db (by omega)] at hr
     split at hr
     ·rename_i e1
      simp only [readyL,List.all_eq_true] at s3
      have h3:=s3 y hy
      have e2:y.t=(h:Int):=by omega
      have e3:y.r=nth done h+1:=by rw [e1] at q1;omega
      simp [readyOk,e2,e3] at h3
      exact h3
     ·omega
   rw [db (by omega)]
   split
   ·rename_i e1;rw [← e1];omega
   ·exact key
theorem Ak (P:Pre D N) (r:Reach D N D) (hS:∀c∈cutsL D N,c ∉ S):Can D N S (List.replicate D.length 0):=by
 have key:∀x,Reach D N x→Can D N S x→Can D N S (List.replicate D.length 0):=by
  intro x r
  induction r with
  | zero=>exact id
  | @step done h r s ih =>
   intro hc
   have hm:=yB P r
   exact ih (.step hm (hS _ hm) s.1 hc)
 exact key D r (.last (o5 P) (hS _ (o5 P)))
end
end Go.Proofs.YtadofgdidhpnpaaGreatDoor

/-
  PAGES (2): commits, torn or not, and what is read behind them. Conditions: none.
-/
namespace Go.Proofs.YtadofgdidhpnpaaGreatDoor
open Go.AM
open Go.Proofs
open Go.Proofs.Tryz (prog)
set_option linter.all false
set_option maxRecDepth 100000
set_option maxHeartbeats 4000000
theorem dE (p:Nat→List UInt8) (k:Nat) (b:List UInt8):updP p k b k=b:=by simp [updP]
theorem cX (p:Nat→List UInt8) {k i:Nat} (b:List UInt8) (h:i≠k):updP p k b i=p i:=by simp [updP,h]
theorem kR {n:Nat} (h:n≠0):tt n=2∨tt n=3:=by
 unfold tt;rw [if_neg h];split<;>simp
theorem Da (n:Nat):tt n≠tt (n+1):=by
 unfold tt;repeat' split
 all_goals omega
def isC (c:List Int):Prop:=c.length=4∧∀x∈c,0≤x∧x < 4
structure Crs (l:List (List Int)):Prop where
 one:∀i,i < l.length→isC (gth l i)
 ne:∀i,i+1 < l.length→gth l i≠gth l (i+1)
 len:l.length≤13
structure Pg (p:Nat→List UInt8) (l:List (List Int)) (n:Nat):Prop where
 new:p (n % 2)=rtp n
 old:p ((n+1) % 2)=ort n
 leaf:∀k,n=k+1→p (tt n)=leafP (gth l k)
def keyN (n:Nat):List (List UInt8):=if n=0 then [] else K0
def vlN (l:List (List Int)) (n:Nat):List (List UInt8):=if n=0 then [] else valC (gth l (n - 1))
def Reads (p:Nat→List UInt8) (l:List (List Int)) (n:Nat):Prop :=
 Pick p (n+1) (tt n)∧∃ks2 vs2,Tree p (tt n) ((keyN n).map .str) ((vlN l n).map .str) ks2 vs2
section
variable {p : Nat → List UInt8} {l : List (List Int)} {n : Nat}
theorem pY (hc:Crs l) (hn:n≤l.length) (h:∀k,n=k+1→p (tt n)=leafP (gth l k)):∃ks2 vs2,Tree p (tt n) ((keyN n).map .str) ((vlN l n).map .str) ks2 vs2:=by
 by_cases h0:n=0
 ·subst h0
  exact⟨[],[],.inl ⟨rfl,rfl,rfl,rfl,rfl⟩⟩
 ·obtain⟨k,rfl⟩:∃k,n=k+1:=⟨n - 1,by omega⟩
  have ht:=kR (n:=k+1) (by omega)
  obtain⟨h1,h2⟩:=hc.one k (by omega)
  refine⟨_,_,.inr ⟨by omega,by omega,K0,valC (gth l k),?_,by decide,by rw [keyN,if_neg (by omega)],?_,rfl,rfl⟩⟩
  ·rw [h k rfl];exact kT h1 h2
  ·rw [vlN,if_neg (by omega)];rfl
theorem pZ (h1:rootOf (p (n % 2))=true) (h2:numL (p (n % 2))=n+1) (h3:tp (p (n % 2))=tt n) (hn:n < 100) (h:rootOf (p ((n+1) % 2))=false∨numL (p ((n+1) % 2)) < n+1):Pick p (n+1) (tt n):=by
 rcases Nat.mod_two_eq_zero_or_one n with e | e
 ·have e':(n+1) % 2=1:=by omega
  rw [e] at h1 h2 h3
  rw [e'] at h
  cases hr:rootOf (p 1) with
  | false=>exact .inl ⟨h1,hr,h2.symm,h3.symm⟩
  | true =>
   have h4:numL (p 1) < n+1:=by
    rcases h with h | h
    ·rw [hr] at h;cases h
    ·exact h
   exact .inr (.inr ⟨h1,hr,by omega,by omega,.inr ⟨by omega,h2.symm,h3.symm⟩⟩)
 ·have e':(n+1) % 2=0:=by omega
  rw [e] at h1 h2 h3
  rw [e'] at h
  cases hr:rootOf (p 0) with
  | false=>exact .inr (.inl ⟨hr,h1,h2.symm,h3.symm⟩)
  | true =>
   have h4:numL (p 0) < n+1:=by
    rcases h with h | h
    ·rw [hr] at h;cases h
    ·exact h
   exact .inr (.inr ⟨hr,h1,by omega,by omega,.inl ⟨by omega,h2.symm,h3.symm⟩⟩)
theorem Ap (hn:n < 15):rootOf (ort n)=false∨numL (ort n) < n+1:=by
 unfold ort
 by_cases h:n=0
 ·rw [if_pos h];exact .inl kU
 ·rw [if_neg h]
  have:=(iP (n:=n - 1) (by omega)).2.1
  exact .inr (by omega)
theorem Pg.reads (h:Pg p l n) (hc:Crs l) (hn:n≤l.length):Reads p l n:=by
 have hl:=hc.len
 obtain⟨h1,h2,h3⟩:=iP (n:=n) (by omega)
 refine⟨pZ (by rw [h.new,h1]) (by rw [h.new,h2]) (by rw [h.new,h3]) (by omega) ?_,pY hc hn h.leaf⟩
 rw [h.old]
 exact Ap (by omega)
theorem Ef (n:Nat):tt n=0∨2≤tt n:=by
 unfold tt;repeat' split
 all_goals omega
theorem Pg.wD (h:Pg p l n) (b:List UInt8):Pg (updP p (tt (n+1)) b) l n:=by
 have ht:=kR (n:=n+1) (by omega)
 refine⟨?_,?_,fun k hk=>?_⟩
 ·rw [cX _ _ (by omega),h.new]
 ·rw [cX _ _ (by omega),h.old]
 ·rw [cX _ _ (Da n),h.leaf k hk]
theorem Pg.step (h:Pg p l n):Pg (updP (updP p (tt (n+1)) (leafP (gth l n))) ((n+1) % 2) (rtp (n+1))) l (n+1):=by
 have ht:=kR (n:=n+1) (by omega)
 refine⟨dE _ _ _,?_,fun k hk=>?_⟩
 ·rw [cX _ _ (by omega),cX _ _ (by omega),show(n+1+1) % 2=n % 2 by omega,h.new,ort,if_neg (by omega)]
  rfl
 ·have:k=n:=by omega
  subst this
  rw [cX _ _ (by omega),dE]
theorem Pg.Hi (h:Pg p l n) (hc:Crs l) (hn:n < l.length) (c:Nat) {b:List UInt8} (hb:b=(rtp (n+1)).take c++(p ((n+1) % 2)).drop c) :
  Reads (updP (updP p (tt (n+1)) (leafP (gth l n))) ((n+1) % 2) b) l n∨Reads (updP (updP p (tt (n+1)) (leafP (gth l n))) ((n+1) % 2) b) l (n+1):=by
 have hl:=hc.len
 have ht:=kR (n:=n+1) (by omega)
 have htn:=Da n
 have ht2:=Ef n
 obtain⟨P,hP⟩:∃P,updP (updP p (tt (n+1)) (leafP (gth l n))) ((n+1) % 2) b=P:=⟨_,rfl⟩
 have e1:P ((n+1) % 2)=b:=by rw [← hP,dE]
 have e2:P (n % 2)=rtp n:=by rw [← hP,cX _ _ (by omega),cX _ _ (by omega),h.new]
 have e3:P (tt (n+1))=leafP (gth l n):=by rw [← hP,cX _ _ (by omega),dE]
 have e4:n≠0→P (tt n)=p (tt n):=fun h0=>by
  have:=kR h0
  rw [← hP,cX _ _ (by omega),cX _ _ htn]
 have e5:P ((n+1+1) % 2)=rtp n:=by rw [show(n+1+1) % 2=n % 2 by omega,e2]
 rw [hP]
 rw [h.old] at hb
 obtain⟨f1,f2,f3⟩:=iP (n:=n) (by omega)
 have old:rootOf b=false∨numL b < n+1→Reads P l n:=fun hb=>⟨pZ (by rw [e2,f1]) (by rw [e2,f2]) (by rw [e2,f3]) (by omega) (by rw [e1];exact hb),pY hc (by omega) fun k hk=>by rw [e4 (by omega),h.leaf k hk]⟩
 rcases yk (n:=n) (c:=c) (by omega) hb with h1 | ⟨h1,h2⟩ | h1
 ·exact .inl (old (.inl h1))
 ·cases hr:rootOf b with
  | false=>exact .inl (old (.inl hr))
  | true=>exact .inr ⟨pZ (by rw [e1,hr]) (by rw [e1,h1]) (by rw [e1,h2]) (by omega) (by rw [e5,f2];exact .inr (by omega)),pY hc (by omega) fun k hk=>by
    have:k=n:=by omega
    subst this;exact e3⟩
 ·exact .inl (old (.inr h1))
theorem Ec (l:List (List Int)):Pg (updP (fun _=>zp) 0 (padB (rootW 1 0))) l 0:=⟨dE _ _ _,cX _ _ (by decide),fun k hk=>by omega⟩
end
end Go.Proofs.YtadofgdidhpnpaaGreatDoor
