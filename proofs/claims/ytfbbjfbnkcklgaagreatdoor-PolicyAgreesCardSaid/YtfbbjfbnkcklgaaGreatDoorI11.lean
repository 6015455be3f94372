/- the reference's Write -/
import Derived.Test.YtfbbjfbnkcklgaaGreatDoorI10
namespace Go.Proofs.YtfbbjfbnkcklgaaGreatDoor
open Go.RowKit

theorem foundDir_some {t : List AIt} {q : List UInt8} (h : (findA t q).isSome = false) : foundDir t q = false := by
  unfold foundDir
  cases hf : findA t q
  · rfl
  · rw [hf] at h; cases h

end Go.Proofs.YtfbbjfbnkcklgaaGreatDoor
