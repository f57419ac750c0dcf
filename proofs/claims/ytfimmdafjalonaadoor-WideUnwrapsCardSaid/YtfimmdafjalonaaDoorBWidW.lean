/- What functions of the given program do, one after the other, told by that layer. -/
import Derived.Test.YtfimmdafjalonaaDoorBCha
/- The example of the wide blocks' chapter, reckoned. -/
namespace Go.Sha
theorem works_none : (wtext (wopen [108] (wshut [107] (wplain [104, 101, 108, 108, 111] 100)))).isNone = true := by decide +kernel
end Go.Sha
