/-
  NO VARIABLE IS LAID.
-/
import Derived.Test.YtommbfigioeghaaXy
namespace Go.Nx
def tgl (g : Nat) : Option (List T) := none
end Go.Nx
