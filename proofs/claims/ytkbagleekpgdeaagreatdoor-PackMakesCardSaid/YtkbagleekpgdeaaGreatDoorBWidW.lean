/- The example of the wide blocks' chapter, reckoned. -/
import Derived.Test.YtkbagleekpgdeaaGreatDoorBCha
namespace Go.Sha
end Go.Sha
