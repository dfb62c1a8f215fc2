/- What stays of a file behind a sync, an append and a crash. No program walked. -/
import Derived.Test.YtmadpjmlcooinaaPSy
namespace Go.Proofs.Ytmadpjmlcooinaa
open Go.RowKit
theorem rdF_keep {a : ByteArray} {S : List Nat} (Q : List Nat) (k : Nat) : ∀ {fs : List Fl}, rdF fs a = some S → rdF (crF (apF (syF fs a) a Q) k) a = some ((S ++ Q).take (S.length + min k Q.length))
  | [], h => by cases h
  | f :: l, h => by
    rw [rdF_cons] at h
    rw [syF_cons]
    by_cases hf : f.nm.toList = a.toList
    · rw [if_pos hf] at h ⊢
      injection h with h
      rw [apF_cons]
      rw [if_pos (show ({ f with sy := f.dt.length } : Fl).nm.toList = a.toList from hf), crF_cons, rdF_cons]
      show (if f.nm.toList = a.toList then some ((f.dt ++ Q).take (f.dt.length + min k ((f.dt ++ Q).length - f.dt.length))) else _) = _
      rw [if_pos hf, h, List.length_append, Nat.add_sub_cancel_left]
    · rw [if_neg hf] at h ⊢
      rw [apF_cons, if_neg hf, crF_cons, rdF_cons]
      show (if f.nm.toList = a.toList then _ else _) = _
      rw [if_neg hf]
      exact rdF_keep Q k h
end Go.Proofs.Ytmadpjmlcooinaa
