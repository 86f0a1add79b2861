/- Graphs drawn; the laws of graphs that are only looked at. -/
import Derived.Test.YthajlhmebkjbbaaGv
import Derived.Test.YthajlhmebkjbbaaVs
import Derived.Test.YthajlhmebkjbbaaFrame
set_option linter.all false
namespace Go.Proofs.Ythajlhmebkjbbaa
open Go.RowKit

theorem bv_all {vs : List Vx} (h : ∀ v ∈ vs, BV v) : ∀ v ∈ vs, v.ps.length ≤ 10000000 := fun v hv => by have := (h v hv).2.2.1; omega

end Go.Proofs.Ythajlhmebkjbbaa
