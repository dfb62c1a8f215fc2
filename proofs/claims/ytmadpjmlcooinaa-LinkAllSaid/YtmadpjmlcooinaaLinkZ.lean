/- The walks of the laws LinkOrder and LinkAll, whole. -/
import Derived.Test.YtmadpjmlcooinaaLined
import Derived.Test.YtmadpjmlcooinaaLinkOrderW
import Derived.Test.YtmadpjmlcooinaaLinkAllW
namespace Go.Proofs.Ytmadpjmlcooinaa
open Go.RowKit
theorem linkOrder_walk (w : World) (v1 : Value) (l1 : List (List Int)) (h1 : IsR 2 w v1 l1) (v2 : Value) (l2 : List (List Int)) (h2 : IsR 2 w v2 l2) :
    Calls Try.prog 3 #[v1, v2] w fun e w' => e = .returned (.bool true) ∧ Below w.heap.size w w' := linkOrder_walk0 (Lib.hid lined_spec) w v1 l1 h1 v2 l2 h2
theorem linkAll_walk (w : World) (v1 : Value) (l1 : List (List Int)) (h1 : IsR 2 w v1 l1) (v2 : Value) (l2 : List (List Int)) (h2 : IsR 2 w v2 l2) :
    Calls Try.prog 4 #[v1, v2] w fun e w' => e = .returned (.bool true) ∧ Below w.heap.size w w' := linkAll_walk0 (Lib.hid lined_spec) w v1 l1 h1 v2 l2 h2
end Go.Proofs.Ytmadpjmlcooinaa
