/- What the exact laws call: lists of ints sized, copied, compared. -/
import Derived.Test.YtjkeapkpdgfhcaaEx
import Derived.Test.YtjkeapkpdgfhcaaRe
set_option linter.all false
namespace Go.Proofs.Ytjkeapkpdgfhcaa
open Go.RowKit

end Go.Proofs.Ytjkeapkpdgfhcaa
