/- What the lexer's texts lean on. -/
import Derived.Test.YtkdbenoleendcaaDoorProg
import Derived.Test.YtkdbenoleendcaaDoorRow
import Derived.Test.YtkdbenoleendcaaDoorMC
import Derived.IntWalk
import Derived.Deep.DeepCutAuto
