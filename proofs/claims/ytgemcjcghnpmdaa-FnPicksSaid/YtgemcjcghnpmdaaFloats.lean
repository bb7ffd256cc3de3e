/- The helpers of the statements on float32 and lists of it. -/
import Derived.Test.YtgemcjcghnpmdaaFloat
import Derived.Test.YtgemcjcghnpmdaaProg
import Derived.Deep.RegionWith
import Derived.BigRegion
import Derived.Deep.RegionHeld3
namespace Go.Proofs.Ytgemcjcghnpmdaa
open Go.RowKit
set_option maxRecDepth 100000
attribute [local go_sem] run_store_float'

theorem info_f32 : (Try.prog.info? 40).map (fun i => (i.zero, i.size, i.bytes)) = some (some (.float .f32 0), 1, 4) := by kernel_rfl

end Go.Proofs.Ytgemcjcghnpmdaa
