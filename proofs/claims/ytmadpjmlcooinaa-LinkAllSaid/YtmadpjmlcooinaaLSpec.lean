/- What the loop of the link's laws is shown to do, as a statement: so that the laws are walked beside it. -/
import Derived.Test.YtmadpjmlcooinaaPLink
namespace Go.Proofs.Ytmadpjmlcooinaa
open Go.RowKit
def LinedSpec : Prop := ∀ (p q : Option Addr) (n c m d : Nat) (l : List Ml) (trips : List (List Int)) (more : Nat) (w : World), Sl w 2 (.slice p n c) n (mcs l) → n ≤ 12 → IsR 2 w (.slice q m d) trips → m ≤ 60 → more ≤ 60 →
    Calls Try.prog 15 #[.slice p n c, .slice q m d, .int .i64 (more : Int)] w fun e w' => ∃ (s : LS) (p6 : Option Addr) (c6 : Nat) (pl : Option Addr) (cl : Nat), e = .returned (.tuple #[.slice p6 s.got.length c6, sndV 1 s.ba (.slice pl s.loads.length cl), .bool true]) ∧ LInv l s ∧ Prog l.length m (m + more) s ∧ w'.ownsRow w.heap.size 41 2 (.slice p6 s.got.length c6) s.got.length (mcs s.got) ∧ Below w.heap.size w w'
end Go.Proofs.Ytmadpjmlcooinaa
