/- What a synced disk reads. No program walked. -/
import Derived.Test.YtmadpjmlcooinaaPCr
namespace Go.Proofs.Ytmadpjmlcooinaa
open Go.RowKit
theorem crF_cons (f : Fl) (l : List Fl) (k : Nat) : crF (f :: l) k = crF1 k f :: crF l k := rfl
theorem rdF_syF (a b : ByteArray) : ∀ fs : List Fl, rdF (syF fs a) b = rdF fs b
  | [] => rfl
  | f :: l => by
    have ih := rdF_syF a b l
    rw [syF_cons, rdF_cons f l]
    by_cases h : f.nm.toList = a.toList
    · rw [if_pos h, rdF_cons]
    · rw [if_neg h, rdF_cons, ih]
/-- what was synced is there behind a crash -/
theorem rdF_crF_syF (a : ByteArray) (k : Nat) : ∀ fs : List Fl, rdF (crF (syF fs a) k) a = rdF fs a
  | [] => rfl
  | f :: l => by
    have ih := rdF_crF_syF a k l
    rw [syF_cons, rdF_cons f l]
    by_cases h : f.nm.toList = a.toList
    · rw [if_pos h, if_pos h, crF_cons, rdF_cons]
      show (if f.nm.toList = a.toList then some (f.dt.take (f.dt.length + min k (f.dt.length - f.dt.length))) else _) = _
      rw [if_pos h, Nat.sub_self, Nat.min_zero, Nat.add_zero, List.take_length]
    · rw [if_neg h, if_neg h, crF_cons, rdF_cons]
      show (if f.nm.toList = a.toList then _ else _) = _
      rw [if_neg h]
      exact ih
/-- another file is as it was -/
theorem rdF_crF_syF_ne {a b : ByteArray} (k : Nat) (hne : a.toList ≠ b.toList) : ∀ fs : List Fl, rdF (crF (syF fs a) k) b = rdF (crF fs k) b
  | [] => rfl
  | f :: l => by
    have ih := rdF_crF_syF_ne k hne l
    rw [syF_cons, crF_cons]
    by_cases h : f.nm.toList = a.toList
    · rw [if_pos h, crF_cons, rdF_cons, rdF_cons]
      show (if f.nm.toList = b.toList then _ else _) = (if f.nm.toList = b.toList then _ else _)
      rw [if_neg (by rw [h]; exact hne), if_neg (by rw [h]; exact hne)]
    · rw [if_neg h, crF_cons, rdF_cons, rdF_cons, ih]
theorem syF_len (fs : List Fl) (nm : ByteArray) : (syF fs nm).length = fs.length := by
  have := congrArg List.length (syF_names fs nm)
  simpa using this
def erO (o : Option (List Nat)) : Int := if o.isSome then 0 else 7
theorem read_u (nm : ByteArray) (v : Value) (l : List (Fl × Value)) (o : Option (List Nat)) (w : World) (hR : RDk w 0 v l) (hD : DnOk 20 (l.map (·.1))) (hd : rdF (l.map (·.1)) nm = o) :
    Calls Try.prog 28 #[.agg #[v], .string nm] w fun e w' => ∃ q c, e = .returned (.tuple #[.slice q (o.getD []).length c, .int .i64 (erO o)]) ∧ Hid (IsB w' (.slice q (o.getD []).length c) (o.getD [])) ∧ Below w.heap.size w w' := by
  rcases o with _ | d
  · refine (read_miss nm v l w hR (hD.dk (by omega)) hd).mono ?_
    rintro e w' ⟨rfl, hb⟩
    exact ⟨none, 0, rfl, Lib.hid ⟨⟨none, 0, rfl, Nat.le_refl _, by decide, rfl, fun _ => rfl, .inl rfl⟩, fun x hx => by cases hx⟩, hb⟩
  · refine (read_hit nm v l d w hR (hD.dk (by omega)) hd).mono ?_
    rintro e w' ⟨q, c, rfl, hr, hb⟩
    exact ⟨q, c, rfl, Lib.hid (hr.isB (hD.allB hd)), hb⟩
theorem same_u (p q : Option Addr) (c d : Nat) (a : List Nat) (w : World) (ha : IsB w (.slice p a.length c) a) (hb : IsB w (.slice q a.length d) a) :
    Calls Try.prog 31 #[.slice p a.length c, .slice q a.length d] w fun e w' => e = .returned (.bool true) ∧ w = w' :=
  (sameBytes_any p q c d a.length a.length a a w ha hb).mono (by rintro e w' ⟨rfl, h⟩; exact ⟨by simp, h⟩)
end Go.Proofs.Ytmadpjmlcooinaa
