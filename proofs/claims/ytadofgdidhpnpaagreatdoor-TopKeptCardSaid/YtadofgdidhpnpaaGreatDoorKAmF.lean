/-
  FROM THE ABSTRACT MACHINE TO A LAW'S STATEMENT: arguments that read as data stand for abstract values; a run that answers true is a call that returns true and leaves all old memory as it was. Conditions: none.
-/
import Derived.WideShapes
import Derived.Below
import Derived.Test.YtadofgdidhpnpaaGreatDoorKAmD
import Derived.Test.YtadofgdidhpnpaaGreatDoorKAmE
set_option linter.all false
namespace Go.AM
open Go.WideShapes Go.RowKit
def DatV (P:Program) (d:Nat) (t:TypeId) (a:AV):Prop:=match P.underlying t with
 | some (.struct _) | some (.array _ _)=>∃cs,a=.agg cs∧Dat P d t cs
 | _=>Dat P d t [a]
theorem pj {H:Type} {enc:TypeId×Value→H} {P:Program} {w:World} {base b0:Nat} {sp:Nat→Bool} {held:Bool} {d:Nat} {t:TypeId} {v:Value} {x:DataW H} {ps:List MemPlace}
  (hd:datT P d t=true) (hval:Value.okWide P w .any b0 t v) (h:DataW.Trod enc P w base sp held t v x ps):∃a,Rep w (fun b=>b < w.heap.size) P0 a v∧DatV P d t a:=by
 obtain⟨fuel,h⟩:=h
 obtain⟨as,h1,h2⟩:=jB d fuel t _ _ hd h
 have single:v.cells=#[v]→∃a,Rep w (fun b=>b < w.heap.size) P0 a v∧as=[a]:=by
  intro hc
  rw [hc] at h1
  match as,h1 with
  | [],h1=>cases h1
  | a::r,⟨u,q,e,h3,h4⟩ =>
   simp at e
   obtain⟨rfl,rfl⟩:=e
   match r,h4 with
   | [],_=>exact⟨a,h3,rfl⟩
   | _::_,⟨_,_,e,_⟩=>cases e
 cases d with
 | zero=>exact h2.elim
 | succ d =>
  unfold DatV
  unfold datT at hd
  split at hd
  ·rename_i hu
   obtain⟨b,rfl⟩:=okWide_bool hu hval
   obtain⟨a,h3,rfl⟩:=single rfl
   exact⟨a,h3,by simp only [hu];exact h2⟩
  ·rename_i k hu
   obtain⟨n,rfl⟩:=okWide_int hu hval
   obtain⟨a,h3,rfl⟩:=single rfl
   exact⟨a,h3,by simp only [hu];exact h2⟩
  ·rename_i hu
   obtain⟨s,rfl⟩:=okWide_string hu hval
   obtain⟨a,h3,rfl⟩:=single rfl
   exact⟨a,h3,by simp only [hu];exact h2⟩
  ·rename_i e hu
   obtain⟨b,l,c,rfl⟩:=okWide_slice hu hval
   obtain⟨a,h3,rfl⟩:=single rfl
   exact⟨a,h3,by simp only [hu];exact h2⟩
  ·rename_i n e hu
   have:∃cs,v=.agg cs:=by
    simp only [Value.okWide,hu] at hval
    obtain⟨cs,h,_⟩:=hval
    exact⟨cs,h⟩
   obtain⟨cs,rfl⟩:=this
   exact⟨.agg as,⟨cs,rfl,by simpa [Value.cells] using h1⟩,by simp only [hu];exact⟨as,rfl,h2⟩⟩
  ·rename_i fs hu
   obtain⟨cs,rfl,_⟩:=okWide_struct hu hval
   exact⟨.agg as,⟨cs,rfl,by simpa [Value.cells] using h1⟩,by simp only [hu];exact⟨as,rfl,h2⟩⟩
  ·cases hd
theorem wU {P:Program} {A:Ann} (hP:NoNum P) (hm:P.follows .mixedOrders=true) (hS:∀g,(A g).srt=true→fT P A g) {f:FuncId} {as:List AV} {us:List Value} {m':Mem} {w:World}
  (hr:denC P A f as Mem.empty=some (.bool true,m')) (hG:de w (fun b=>b < w.heap.size)) (ha:RepL w (fun b=>b < w.heap.size) P0 as us) :
  Calls P f us.toArray w fun e w'=>e=.returned (.bool true)∧Below w.heap.size w w':=by
 obtain⟨n,hr⟩:=oF hr
 obtain⟨_,h⟩:=(main P A hP (oh P hm) hS n).2 f as Mem.empty _ hr
 refine Calls.mono (h w _ P0 us (dV fun _ h=>h) (fun _ _ _=>rfl) hG ha) ?_
 rintro e w' ⟨v,N',i',rfl,_,e',hv,_⟩
 have:v=.bool true:=hv
 subst this
 exact⟨rfl,e'.os,e'.tape,e'.output,e'.size,fun b hb=>e'.keep b hb bL⟩
end Go.AM
