/- Two sums held against each other, as an operation. -/
import Derived.Test.YtdlliajghfflnaaOpen
namespace Go.Proofs.Ytdlliajghfflnaa
open Go.RowKit Go.Bz
section
variable {w : World} {a : Act} {o : Oper}
end
end Go.Proofs.Ytdlliajghfflnaa
