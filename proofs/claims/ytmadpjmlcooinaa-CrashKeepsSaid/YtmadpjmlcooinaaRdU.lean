/- The contract of disk.Read for both answers: what it hands out is the call's own. No program walked. -/
import Derived.Test.YtmadpjmlcooinaaPKeep
import Derived.Test.YtmadpjmlcooinaaDRead2
namespace Go.Proofs.Ytmadpjmlcooinaa
open Go.RowKit
theorem DnOk.rd_le {i : Nat} {fs : List Fl} (h : DnOk i fs) (nm : ByteArray) : AllB ((rdF fs nm).getD []) ∧ ((rdF fs nm).getD []).length ≤ 30 * i := by
  rcases hd : rdF fs nm with _ | d
  · exact ⟨fun x hx => (by cases hx), Nat.zero_le _⟩
  · obtain ⟨hi, rfl⟩ := rdF_some hd
    exact ⟨h.allB hd, (h.ok _ (List.getElem_mem hi)).2.2.1⟩
theorem read_o (i : Nat) (nm : ByteArray) (v : Value) (l : List (Fl × Value)) (o : Option (List Nat)) (w : World) (hR : RDk w 0 v l) (hD : DnOk i (l.map (·.1))) (hi : i ≤ 30) (hd : rdF (l.map (·.1)) nm = o) :
    Calls Try.prog 28 #[.agg #[v], .string nm] w fun e w' => ∃ q c, e = .returned (.tuple #[.slice q (o.getD []).length c, .int .i64 (erO o)]) ∧ Hid (w'.ownsRow w.heap.size 5 1 (.slice q (o.getD []).length c) (o.getD []).length (bys (o.getD []))) ∧ Below w.heap.size w w' := by
  rcases o with _ | d
  · refine (read_miss nm v l w hR (hD.dk (by omega)) hd).mono ?_
    rintro e w' ⟨rfl, hb⟩
    exact ⟨none, 0, rfl, Lib.hid (World.ownsRow_nil _ _ _ _), hb⟩
  · refine (read_own nm v l d w hR (hD.dk (by omega)) hd).mono ?_
    rintro e w' ⟨q, c, rfl, hr, hb⟩
    exact ⟨q, c, rfl, Lib.hid hr, hb⟩
theorem erO_or (o : Option (List Nat)) : erO o = 0 ∨ erO o = 7 := by
  rcases o with _ | d
  · exact .inr rfl
  · exact .inl rfl
theorem isB_own {w : World} {B : Nat} {e : TypeId} {q : Option Addr} {c : Nat} {l : List Nat} (h : w.ownsRow B e 1 (.slice q l.length c) l.length (bys l)) (ha : AllB l) : IsB w (.slice q l.length c) l := ⟨Sl.of_own h, ha⟩
end Go.Proofs.Ytmadpjmlcooinaa
