/-
  IsExpr, IsBlock and IsScript: both sides.
-/
import Derived.Test.YtamjpcmcpcdggaaTreeW
namespace Go.Proofs.Ytamjpcmcpcdggaa
set_option maxRecDepth 8000
end Go.Proofs.Ytamjpcmcpcdggaa
