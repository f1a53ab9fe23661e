/- The fixed examples. Conditions: none. -/
import Derived.Test.YtdhpibcacnndaaaGreatDoorPT8b
set_option linter.all false
set_option maxRecDepth 1000000
namespace Go.Proofs.YtdhpibcacnndaaaGreatDoor
open Go Go.Idl Go.Sv Go.Proofs
theorem awake : H16 () = some true := by kernel_rfl
end Go.Proofs.YtdhpibcacnndaaaGreatDoor
