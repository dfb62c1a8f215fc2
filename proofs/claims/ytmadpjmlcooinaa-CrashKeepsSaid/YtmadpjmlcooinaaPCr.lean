/- What a crashed disk reads. No program walked. -/
import Derived.Test.YtmadpjmlcooinaaPRen
namespace Go.Proofs.Ytmadpjmlcooinaa
open Go.RowKit
theorem crF1_twice {k k2 : Nat} {f : Fl} (h : f.sy ≤ f.dt.length) : crF1 k2 (crF1 k f) = crF1 k f := by
  unfold crF1
  have e : (f.dt.take (f.sy + min k (f.dt.length - f.sy))).length = f.sy + min k (f.dt.length - f.sy) := by rw [List.length_take]; omega
  simp only [e, Nat.sub_self, Nat.min_zero, Nat.add_zero]
  rw [List.take_take, Nat.min_self]
theorem crF_twice {k k2 : Nat} {fs : List Fl} (h : ∀ f ∈ fs, f.sy ≤ f.dt.length) : crF (crF fs k) k2 = crF fs k := by
  unfold crF
  rw [List.map_map]
  exact List.map_congr_left (fun f hf => crF1_twice (h f hf))
theorem rdF_crF (k : Nat) (nm : ByteArray) : ∀ fs : List Fl, (rdF (crF fs k) nm = none ↔ rdF fs nm = none)
  | [] => Iff.rfl
  | f :: l => by
    have ih := rdF_crF k nm l
    show rdF (crF1 k f :: crF l k) nm = none ↔ _
    rw [rdF_cons, rdF_cons]
    show (if f.nm.toList = nm.toList then some _ else _) = none ↔ _
    by_cases h : f.nm.toList = nm.toList
    · rw [if_pos h, if_pos h]; simp
    · rw [if_neg h, if_neg h]; exact ih
end Go.Proofs.Ytmadpjmlcooinaa
