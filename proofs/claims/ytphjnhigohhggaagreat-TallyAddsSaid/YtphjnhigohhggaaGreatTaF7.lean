import Derived.Test.YtphjnhigohhggaaGreatRows
import Derived.JoinedOf
import Derived.KernelRfl
/- A closed fact of the row. -/
namespace Go.Proofs.YtphjnhigohhggaaGreat.tallyAdds
open Go
theorem fact_heard : (Tryz.prog.stopsHeard : Bool) = true := by kernel_rfl
end Go.Proofs.YtphjnhigohhggaaGreat.tallyAdds
