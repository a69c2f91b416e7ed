import Derived.Test.YtdicgiljgelkfaaRows
import Derived.Test.YtdicgiljgelkfaaQW0
import Derived.Test.YtdicgiljgelkfaaQC
import Derived.WalkKit
import Derived.ProofKit
import Derived.OpenShut
import Derived.ShutString
import Derived.ChangeOld
import Derived.Below
set_option maxRecDepth 100000
namespace Go.Proofs.Ytdicgiljgelkfaa
open Go.V
theorem own : ownKnob Try.prog.godebug = none := by kernel_rfl
theorem laidOut : laidOutB Try.prog = true := by kernel_rfl
theorem tab2 : ∀ t, tyOk2 Try.prog ti t (ti t) = true := tabOf2 Try.prog tiL (by kernel_rfl)
end Go.Proofs.Ytdicgiljgelkfaa
