/- Contracts and walk: the magic square. -/
import Derived.Test.YtjlaoocomkonhaaC0
import Derived.Test.YtjlaoocomkonhaaB2
import Derived.Test.YtjlaoocomkonhaaB3
namespace Go.Proofs.Ytjlaoocomkonhaa
open Go.RowKit
def thirdT (x y : Int) : Int := (6 - x - y) % 3
def thirdC (x y : Card) : Card := ⟨thirdT x.a y.a, thirdT x.b y.b, thirdT x.c y.c, thirdT x.d y.d⟩
def lineC (x y z : Card) : Bool := !decide (x = y) && decide (thirdC x y = z)
def planeC (x y z : Card) : Bool := isCard x && isCard y && isCard z && !decide (x = y) && !decide (x = z) && !decide (y = z) && !lineC x y z
end Go.Proofs.Ytjlaoocomkonhaa
