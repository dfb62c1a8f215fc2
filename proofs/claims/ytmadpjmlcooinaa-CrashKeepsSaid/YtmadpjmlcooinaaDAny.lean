/- The disk's operations, whichever way they go. -/
import Derived.Test.YtmadpjmlcooinaaDApp
import Derived.Test.YtmadpjmlcooinaaDRen
import Derived.Test.YtmadpjmlcooinaaDCrash
import Derived.Test.YtmadpjmlcooinaaPDone
namespace Go.Proofs.Ytmadpjmlcooinaa
open Go.RowKit
/-- an operation's answer: the disk X, or refused (there is no such file) -/
def OpRes (e : Ending) (w w' : World) (X : List Fl) : Prop := ∃ (er : Int) (p : Option Addr) (c : Nat) (l : List (Fl × Value)), e = .returned (.tuple #[.agg #[.slice p l.length c], .int .i64 er]) ∧ ((er = 0 ∧ Hid (l.map (·.1) = X)) ∨ (er = 7 ∧ l = [])) ∧ RDk w' w.heap.size (.slice p l.length c) l ∧ Below w.heap.size w w'
theorem sync_any (nm : ByteArray) (v : Value) (l : List (Fl × Value)) (w : World) (hR : RDk w 0 v l) (hD : DkOk (l.map (·.1))) :
    Calls Try.prog 33 #[.agg #[v], .string nm] w fun e w' => OpRes e w w' (syF (l.map (·.1)) nm) := by
  by_cases hi : ixF (l.map (·.1)) nm < l.length
  · refine (sync_hit nm v l w hR hD hi).mono ?_
    rintro e w' ⟨p, c, l', rfl, h1, h2, h3⟩
    exact ⟨0, p, c, l', rfl, .inl ⟨rfl, h1⟩, h2, h3⟩
  · have hle := ixF_le (l.map (·.1)) nm
    rw [List.length_map] at hle
    refine (sync_miss nm v l w hR hD (by omega)).mono ?_
    rintro e w' ⟨rfl, h3⟩
    exact ⟨7, none, 0, [], rfl, .inr ⟨rfl, rfl⟩, RDk.nil _ _, h3⟩
theorem remove_any (nm : ByteArray) (v : Value) (l : List (Fl × Value)) (w : World) (hR : RDk w 0 v l) (hD : DkOk (l.map (·.1))) :
    Calls Try.prog 43 #[.agg #[v], .string nm] w fun e w' => OpRes e w w' (rmF (l.map (·.1)) nm) := by
  by_cases hi : ixF (l.map (·.1)) nm < l.length
  · refine (remove_hit nm v l w hR hD hi).mono ?_
    rintro e w' ⟨p, c, l', rfl, h1, h2, h3⟩
    exact ⟨0, p, c, l', rfl, .inl ⟨rfl, h1⟩, h2, h3⟩
  · have hle := ixF_le (l.map (·.1)) nm
    rw [List.length_map] at hle
    refine (remove_miss nm v l w hR hD (by omega)).mono ?_
    rintro e w' ⟨rfl, h3⟩
    exact ⟨7, none, 0, [], rfl, .inr ⟨rfl, rfl⟩, RDk.nil _ _, h3⟩
theorem rename_any (nm tn : ByteArray) (v : Value) (l : List (Fl × Value)) (w : World) (hR : RDk w 0 v l) (hD : DkOk (l.map (·.1))) (ht : NmOk tn) :
    Calls Try.prog 32 #[.agg #[v], .string nm, .string tn] w fun e w' => OpRes e w w' (reF (l.map (·.1)) nm tn) := by
  by_cases hi : ixF (l.map (·.1)) nm < l.length
  · by_cases he : nm.toList = tn.toList
    · refine (rename_same nm v l tn w hR hD ht hi he).mono ?_
      rintro e w' ⟨p, c, l', rfl, h1, h2, h3⟩
      exact ⟨0, p, c, l', rfl, .inl ⟨rfl, Lib.hid (by unfold reF; rw [if_pos he]; exact h1.out)⟩, h2, h3⟩
    · refine (rename_hit nm v l tn w hR hD ht hi he).mono ?_
      rintro e w' ⟨p, c, l', rfl, h1, h2, h3⟩
      exact ⟨0, p, c, l', rfl, .inl ⟨rfl, h1⟩, h2, h3⟩
  · have hle := ixF_le (l.map (·.1)) nm
    rw [List.length_map] at hle
    refine (rename_miss nm v l tn w hR hD ht (by omega)).mono ?_
    rintro e w' ⟨rfl, h3⟩
    exact ⟨7, none, 0, [], rfl, .inr ⟨rfl, rfl⟩, RDk.nil _ _, h3⟩
theorem append_any (i : Nat) (nm : ByteArray) (v : Value) (l : List (Fl × Value)) (b : List Nat) (q : Option Addr) (d : Nat) (w : World) (hR : RDk w 0 v l) (hD : DnOk i (l.map (·.1))) (hi30 : i ≤ 30) (hnm : NmOk nm) (hq : Sl w 1 (.slice q b.length d) b.length (bys b)) (hb : b.length ≤ 30) :
    Calls Try.prog 30 #[.agg #[v], .string nm, .slice q b.length d] w fun e w' => ∃ p c l', e = .returned (.tuple #[.agg #[.slice p l'.length c], .int .i64 0]) ∧ Hid (l'.map (·.1) = apF (l.map (·.1)) nm b) ∧ RDk w' w.heap.size (.slice p l'.length c) l' ∧ Below w.heap.size w w' := by
  have hdk := hD.dk (by omega)
  have hlen := hD.len
  rw [List.length_map] at hlen
  by_cases hi : ixF (l.map (·.1)) nm < l.length
  · exact append_hit nm v l b q d w hR hdk hnm hq (by omega) hi (fun f hf => by have := (hD.ok f hf).2.2.1; omega)
  · have hle := ixF_le (l.map (·.1)) nm
    rw [List.length_map] at hle
    exact append_miss nm v l b q d w hR hdk hnm hq (by omega) (by omega) (by omega)
theorem apF_pos (l : List Fl) (nm : ByteArray) (b : List Nat) : 0 < (apF l nm b).length := by
  cases l with
  | nil => exact Nat.zero_lt_one
  | cons f l => rw [apF_cons]; split <;> simp
end Go.Proofs.Ytmadpjmlcooinaa
