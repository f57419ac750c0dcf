/- The example of the wide blocks' chapter, reckoned. -/
import Derived.Test.YtkjaehdfmmcgmaaGreatDoorBCha
namespace Go.Sha
end Go.Sha
