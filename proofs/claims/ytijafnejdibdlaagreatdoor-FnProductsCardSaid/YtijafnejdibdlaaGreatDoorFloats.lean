/- The helpers of the statements on float32 and lists of it. -/
import Derived.Test.YtijafnejdibdlaaGreatDoorFloat
import Derived.Test.YtijafnejdibdlaaGreatDoorProg
import Derived.Deep.RegionWith
import Derived.BigRegion
import Derived.Deep.RegionHeld3
namespace Go.Proofs.YtijafnejdibdlaaGreatDoor
open Go.RowKit
set_option maxRecDepth 100000
attribute [local go_sem] run_store_float'

theorem info_f32 : (Tryz.prog.info? 28).map (fun i => (i.zero, i.size, i.bytes)) = some (some (.float .f32 0), 1, 4) := by kernel_rfl

end Go.Proofs.YtijafnejdibdlaaGreatDoor
