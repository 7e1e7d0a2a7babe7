/- Words of the prefix layer's proofs. -/
import Derived.Test.YtgngbcmhapmokaaDoorAmWp
import Derived.Test.YtgngbcmhapmokaaDoorAmPure1
namespace Go.Am
open Go
def hLit : AHeap := H0 8 []
end Go.Am
