/-
  THE ABSTRACT MACHINE: what the texts of bodies import. Conditions: none.
-/
import Derived.Test.YtdkmepjedjclkaaAmMop
import Derived.Test.YtdkmepjedjclkaaAmAnn
import Derived.Test.YtdkmepjedjclkaaProg
import Derived.KernelRfl
