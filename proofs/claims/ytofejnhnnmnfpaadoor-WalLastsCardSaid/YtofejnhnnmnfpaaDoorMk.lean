/- A string of bytes. No condition. -/
import Derived.Test.YtofejnhnnmnfpaaDoorProg
namespace Go.Proofs.YtofejnhnnmnfpaaDoor
set_option maxRecDepth 100000
/-- A string of these bytes. -/
def mk (l : List UInt8) : ByteArray := ⟨l.toArray⟩
end Go.Proofs.YtofejnhnnmnfpaaDoor
