/- The example of the wide blocks' chapter, reckoned. -/
import Derived.Test.YtlfhhkdjahcglaaGreatDoorBCha
namespace Go.Sha
end Go.Sha
