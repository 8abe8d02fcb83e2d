/- The base of the texts of layer 7. -/
import Derived.Test.YtafiafkeigdjhaaW3
import Derived.Test.YtafiafkeigdjhaaFwW
import Derived.Test.YtafiafkeigdjhaaWQ
namespace Go.Proofs.Ytafiafkeigdjhaa
open Go.Rq Go
abbrev uv (n : Nat) : AV := .v1 (.sc (.w .u64 n))
end Go.Proofs.Ytafiafkeigdjhaa
