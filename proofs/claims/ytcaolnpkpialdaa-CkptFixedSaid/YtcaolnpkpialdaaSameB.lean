/- The walk of pacelinekeep.sameBytes. -/
import Derived.Test.YtcaolnpkpialdaaBysOne
import Derived.Laws.BytesArg
namespace Go.Proofs.Ytcaolnpkpialdaa
open Go.RowKit
/-- bytes as a string -/
def strN (l : List Nat) : ByteArray := strOfNums (l.map fun x : Nat => (x : Int))
theorem strN_inj {a b : List Nat} (ha : AllB a) (hb : AllB b) (h : strN a = strN b) : a = b := by
  have h2 := congrArg (fun s : ByteArray => s.data.toList.map UInt8.toNat) h
  simp only [strN, strOfNums_data, List.map_map] at h2
  have key : ∀ l : List Nat, AllB l → l.map (UInt8.toNat ∘ ((fun n : Int => UInt8.ofNat n.toNat) ∘ fun x : Nat => (x : Int))) = l := by
    intro l hl
    rw [List.map_congr_left (g := id)]
    · simp
    · intro x hx
      have := hl x hx
      show (UInt8.ofNat ((x : Int).toNat)).toNat = x
      rw [Int.toNat_natCast, UInt8.toNat_ofNat']
      exact Nat.mod_eq_of_lt this
  rw [key a ha, key b hb] at h2
  exact h2
theorem convB {P : Program} {w : World} {p : Option Addr} {c : Nat} {l : List Nat} (h : IsB w (.slice p l.length c) l) (src e dst : TypeId) (hs : P.underlying src = some (.slice e)) (he : P.underlying e = some (.int .u8)) (hd : P.underlying dst = some .string) :
    (convert src dst (.slice p l.length c)).run P w = .ok (.string (strN l)) w := by
  obtain ⟨⟨p', c', hp, h1, h2, h3, h4, h5⟩, hb⟩ := h
  cases hp
  rcases h5 with h5 | ⟨b, off, rfl, h5⟩
  · have hl : l = [] := by cases l with | nil => rfl | cons x r => simp [bys] at h5
    subst hl
    show (convert src dst (.slice p 0 c)).run P w = _
    rw [run_convert_bytes_string w src dst e _ 0 c hs he hd]
    cases p <;> simp [Conv.bytesToString, loadCells]
    all_goals rfl
  · refine run_convert_bytes_arg w src e hs he b off l.length c _ (by simp) (fun i hi => ?_) dst hd
    have h6 : (bys l)[i]? = some (.int .u8 ((l.map fun x : Nat => (x : Int)).getD i 0)) := by
      rw [bys, List.getElem?_map, List.getElem?_eq_getElem hi, List.getD_eq_getElem?_getD, List.getElem?_map, List.getElem?_eq_getElem hi]; rfl
    exact h5 i _ h6
set_option maxHeartbeats 400000 in
set_option maxRecDepth 100000 in
theorem sameBytes_any (p q : Option Addr) (c d n m : Nat) (a b : List Nat) (w : World) (ha : IsB w (.slice p n c) a) (hb : IsB w (.slice q m d) b) :
    Calls Try.prog 26 #[.slice p n c, .slice q m d] w fun e w' => e = .returned (.bool (decide (a = b))) ∧ w = w' := by
  obtain ⟨rfl, _⟩ := ha.lens
  obtain ⟨rfl, _⟩ := hb.lens
  have c1 := convB (P := Try.prog) ha 56 5 9 Try.underlying56 Try.underlying5 Try.underlying9
  have c2 := convB (P := Try.prog) hb 56 5 9 Try.underlying56 Try.underlying5 Try.underlying9
  have hinj := Lib.hid (fun h => strN_inj ha.2 hb.2 h)
  clear ha hb
  generalize hs : strN a = s at *
  generalize ht : strN b = t at *
  have HS := Lib.hid hs
  have HT := Lib.hid ht
  clear hs ht
  go_enter Try.func26, Try.ntmps26
  go_wp2
  go_ret
  refine ⟨congrArg (fun z => Ending.returned (.bool z)) ?_, rfl⟩
  show (s.toList == t.toList) = decide (a = b)
  by_cases hab : a = b
  · have hst : s = t := by rw [← HS.out, ← HT.out, hab]
    subst hst
    simp [hab]
  · have hne : s.toList ≠ t.toList := fun h => by
      rw [ByteArray.toList_eq, ByteArray.toList_eq] at h
      exact hab (hinj.out (ByteArray.ext (Array.toList_inj.1 h)))
    simp [hab, hne]
end Go.Proofs.Ytcaolnpkpialdaa
