/- The calls of ckpt and disk.Crash at disks that are known by their files alone. -/
import Derived.Test.YtmdbcknlipahgaaDoorKeptW
import Derived.Test.YtmdbcknlipahgaaDoorCkSeal
import Derived.Test.YtmdbcknlipahgaaDoorCkPutH
import Derived.Test.YtmdbcknlipahgaaDoorCkLoad
import Derived.Test.YtmdbcknlipahgaaDoorDCrash
namespace Go.Proofs.YtmdbcknlipahgaaDoor
open Go.RowKit Go.Sort Go.Proofs
/-- a disk that may be read, by its files -/
def IsD (w : World) (B : Nat) (v : Value) (fs : List Fl) : Prop := ∃ l, l.map (·.1) = fs ∧ RDk w B v l
theorem IsD.later {w w' : World} {B : Nat} {v : Value} {fs : List Fl} (h : IsD w B v fs) (hb : Below w.heap.size w w') : IsD w' B v fs := by
  obtain ⟨l, h1, h2⟩ := h; exact ⟨l, h1, h2.later hb⟩
theorem IsD.mono {w : World} {B B' : Nat} {v : Value} {fs : List Fl} (h : IsD w B v fs) (hb : B' ≤ B) : IsD w B' v fs := by
  obtain ⟨l, h1, h2⟩ := h; exact ⟨l, h1, h2.mono hb⟩
theorem IsD.setCell {w : World} {B : Nat} {v : Value} {fs : List Fl} (h : IsD w B v fs) {a : Addr} (ha : a.block < B) (u : Value) : IsD (w.setCell a u) B v fs := by
  obtain ⟨l, h1, h2⟩ := h; exact ⟨l, h1, h2.setCell ha u⟩
theorem IsD.len {w : World} {B n c : Nat} {p : Option Addr} {fs : List Fl} (h : IsD w B (.slice p n c) fs) : n = fs.length := by
  obtain ⟨l, rfl, h2⟩ := h
  obtain ⟨p', c', e, -⟩ := h2.val
  cases e
  rw [List.length_map]
def encK (x : KeptR) : List Nat := wrapL (encL (keptS x))
theorem encK_len (x : KeptR) : (encK x).length ≤ 1000 := by
  unfold encK
  rw [wrapL_len]
  have := put_len_le 1 (encL (keptS x)).length (by have := keptS_enc x; omega)
  have := keptS_enc x
  omega
theorem encK_allB (x : KeptR) : AllB (encK x) := wrapL_bytes (encL_bytes _)
theorem encK_pos (x : KeptR) : 8 < (encK x).length := by
  unfold encK
  rw [wrapL_len]
  unfold encL
  simp only [List.length_append]
  have h := put_pos (keptS x).step
  have h1 := put_pos (keptS x).phase
  have h2 := put_pos (b01 (keptS x).fresh)
  have h3 := put_pos (keptS x).vals.length
  have h4 := put_pos (keptS x).mail.length
  omega
/-- what a call on disks answers -/
def GivesD (fs : List Fl) (w : World) (e : Ending) (w' : World) : Prop :=
  ∃ (p : Option Addr) (n c : Nat), e = .returned (.tuple #[.agg #[.slice p n c], .int .i64 0]) ∧ IsD w' w.heap.size (.slice p n c) fs ∧ Below w.heap.size w w'
theorem putD (dv v : Value) (fs : List Fl) (x : KeptR) (w : World) (hv : IsSv w v (keptS x)) (hD : IsD w 0 dv fs) (hok : DkOk fs) (h39 : fs.length ≤ 39) :
    Calls Tryd.prog 21 #[.agg #[dv], v] w (GivesD (apF (rmF fs nxN) nxN (encK x)) w) := by
  obtain ⟨l, rfl, hR⟩ := hD
  rw [List.length_map] at h39
  by_cases hi : ixF (l.map (·.1)) nxN = l.length
  · refine (ckput_miss v dv (keptS x) l w hv (keptS_ok x) (keptS_enc x) hR hok hi h39).mono ?_
    rintro e w' ⟨p, c, l', rfl, hl', hR', hb⟩
    refine ⟨p, l'.length, c, rfl, ⟨l', ?_, hR'⟩, hb⟩
    rw [rm_miss (by rw [List.length_map]; exact hi)]
    exact hl'.out
  · have hlt : ixF (l.map (·.1)) nxN < l.length := by have := ixF_le (l.map (·.1)) nxN; rw [List.length_map] at this; omega
    refine (ckput_hit v dv (keptS x) l w hv (keptS_ok x) (keptS_enc x) hR hok hlt).mono ?_
    rintro e w' ⟨p, c, l', rfl, hl', hR', hb⟩
    exact ⟨p, l'.length, c, rfl, ⟨l', hl'.out, hR'⟩, hb⟩
theorem sealD (n : Nat) (hn : n < 2) (dv : Value) (fs : List Fl) (w : World) (hD : IsD w 0 dv fs) (hok : DkOk fs) (hi : ixF fs nxN < fs.length) :
    Calls Tryd.prog 22 #[.agg #[dv], .int .i64 (n : Int)] w (GivesD (reF (syF fs nxN) nxN (svN n)) w) := by
  obtain ⟨l, rfl, hR⟩ := hD
  refine (ckseal_ok n hn dv l w hR hok (by rw [List.length_map] at hi; exact hi)).mono ?_
  rintro e w' ⟨p, c, l', rfl, hl', hR', hb⟩
  exact ⟨p, l'.length, c, rfl, ⟨l', hl'.out, hR'⟩, hb⟩
theorem crashD (k : Nat) (hk : k ≤ 1000) (dv : Value) (fs : List Fl) (w : World) (hD : IsD w 0 dv fs) (hok : DkOk fs) :
    Calls Tryd.prog 23 #[.agg #[dv], .int .i64 (k : Int)] w (GivesD (crF fs k) w) := by
  obtain ⟨l, rfl, hR⟩ := hD
  refine (crash_ok dv l k w hR hok hk).mono ?_
  rintro e w' ⟨p, c, l', rfl, hl', hR', hb⟩
  exact ⟨p, l'.length, c, rfl, ⟨l', hl'.out, hR'⟩, hb⟩
/-- what Load answers -/
def GivesS (s : Sv) (w : World) (e : Ending) (w' : World) : Prop := ∃ v, e = .returned (.tuple #[v, .int .i64 0]) ∧ OwnSv w' w.heap.size v s ∧ Below w.heap.size w w'
theorem loadD (n : Nat) (hn : n < 2) (dv : Value) (fs : List Fl) (x : KeptR) (w : World) (hD : IsD w 0 dv fs) (hok : DkOk fs) (hr : rdF fs (svN n) = some (encK x)) :
    Calls Tryd.prog 24 #[.agg #[dv], .int .i64 (n : Int)] w (GivesS (keptS x) w) := by
  obtain ⟨l, rfl, hR⟩ := hD
  exact ckload_hit n hn dv (keptS x) l w (keptS_ok x) (keptS_enc x) hR hok hr (encK_allB x)
theorem nm3_of (n : Nat) (hn : n < 2) : Nm3 nxN (svN n) (svN (1 - n)) := by
  obtain rfl | rfl : n = 0 ∨ n = 1 := by omega
  · exact nm3
  · exact nm3.swap
end Go.Proofs.YtmdbcknlipahgaaDoor
