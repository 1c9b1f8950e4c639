/- The document's Make. No statement is proved here. -/
import Derived.Test.YtdcinifcpaldiaaGreatDoorMakes
import Derived.Test.YtdcinifcpaldiaaGreatDoorRputs
import Derived.Test.YtdcinifcpaldiaaGreatDoorRise2
namespace Go.Proofs.YtdcinifcpaldiaaGreatDoor
open Go.RowKit Go.Maps

end Go.Proofs.YtdcinifcpaldiaaGreatDoor
