/- What functions of the given program do, one after the other, told by that layer. -/
import Derived.Test.YtkbagleekpgdeaaGreatDoorEM1x7081
namespace Go.Nm
open Go.Cv
set_option maxRecDepth 10000
end Go.Nm
