/- the reference's Mkdir, Write, Remove -/
import Derived.Test.YtfbbjfbnkcklgaaGreatDoorI9
namespace Go.Proofs.YtfbbjfbnkcklgaaGreatDoor
open Go.RowKit

end Go.Proofs.YtfbbjfbnkcklgaaGreatDoor
