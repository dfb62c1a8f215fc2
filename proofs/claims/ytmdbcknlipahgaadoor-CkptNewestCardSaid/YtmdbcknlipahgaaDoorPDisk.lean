/- What a disk is: files. No program in sight. -/
import Derived.Test.YtmdbcknlipahgaaDoorPPut
namespace Go.Proofs.YtmdbcknlipahgaaDoor
structure Fl where
  nm : ByteArray
  dt : List Nat
  sy : Nat
/-- a name that a file may have -/
structure NmOk (s : ByteArray) : Prop where
  n1 : 1 ≤ s.size
  n20 : s.size ≤ 20
  ne : s.toList.isEmpty = false
  nn : ¬ s.toList = []
structure FlOk (f : Fl) : Prop where
  nm : NmOk f.nm
  sy : f.sy ≤ f.dt.length
  d : f.dt.length ≤ 5000
  b : ∀ x ∈ f.dt, x < 256
structure DkOk (fs : List Fl) : Prop where
  ok : ∀ f ∈ fs, FlOk f
  one : fs.Pairwise (fun a b => a.nm.toList ≠ b.nm.toList)
  len : fs.length ≤ 40
/-- where a file of a name lies; the length: nowhere -/
def ixF : List Fl → ByteArray → Nat
  | [], _ => 0
  | f :: l, nm => if f.nm.toList = nm.toList then 0 else ixF l nm + 1
theorem ixF_le (l : List Fl) (nm : ByteArray) : ixF l nm ≤ l.length := by
  induction l with
  | nil => exact Nat.le_refl _
  | cons f l ih => unfold ixF; split <;> simp <;> omega
theorem ixF_before {l : List Fl} {nm : ByteArray} {i : Nat} (h : i < ixF l nm) (hl : i < l.length) : l[i].nm.toList ≠ nm.toList := by
  induction l generalizing i with
  | nil => simp at hl
  | cons f l ih =>
    unfold ixF at h
    by_cases hf : f.nm.toList = nm.toList
    · rw [if_pos hf] at h; omega
    · rw [if_neg hf] at h
      cases i with
      | zero => exact hf
      | succ i => exact ih (by omega) (by simpa using hl)
theorem ixF_at {l : List Fl} {nm : ByteArray} (h : ixF l nm < l.length) : (l[ixF l nm]'h).nm.toList = nm.toList := by
  induction l with
  | nil => simp at h
  | cons f l ih =>
    by_cases hf : f.nm.toList = nm.toList
    · simp only [ixF, if_pos hf]; exact hf
    · simp only [ixF, if_neg hf, List.getElem_cons_succ]
      exact ih (by simpa [ixF, if_neg hf] using h)
theorem ixF_eq {l : List Fl} {nm : ByteArray} {k : Nat} (hb : ∀ i, (h : i < l.length) → i < k → l[i].nm.toList ≠ nm.toList) (hk : k = l.length ∨ ∃ h : k < l.length, (l[k]'h).nm.toList = nm.toList) : ixF l nm = k := by
  have hle := ixF_le l nm
  rcases Nat.lt_trichotomy (ixF l nm) k with h | h | h
  · have hl : ixF l nm < l.length := by
      rcases hk with hk | ⟨hk, _⟩
      · omega
      · omega
    exact absurd (ixF_at hl) (hb _ hl h)
  · exact h
  · rcases hk with hk | ⟨hk, hn⟩
    · omega
    · exact absurd hn (ixF_before h hk)
/-- the data of a file; none: there is no such one -/
def rdF (l : List Fl) (nm : ByteArray) : Option (List Nat) := if h : ixF l nm < l.length then some (l[ixF l nm].dt) else none
/-- appending -/
def apF (l : List Fl) (nm : ByteArray) (b : List Nat) : List Fl := if h : ixF l nm < l.length then l.set (ixF l nm) { l[ixF l nm] with dt := l[ixF l nm].dt ++ b } else l ++ [{ nm := nm, dt := b, sy := 0 }]
def syF (l : List Fl) (nm : ByteArray) : List Fl := if h : ixF l nm < l.length then l.set (ixF l nm) { l[ixF l nm] with sy := l[ixF l nm].dt.length } else l
def rmF (l : List Fl) (nm : ByteArray) : List Fl := l.filter fun f => !decide (f.nm.toList = nm.toList)
def reF (l : List Fl) (a b : ByteArray) : List Fl := if a.toList = b.toList then l else
  let m := rmF l b
  if h : ixF m a < m.length then m.set (ixF m a) { m[ixF m a] with nm := b } else m
def crF1 (k : Nat) (f : Fl) : Fl := { f with dt := f.dt.take (f.sy + min k (f.dt.length - f.sy)), sy := f.sy + min k (f.dt.length - f.sy) }
def crF (l : List Fl) (k : Nat) : List Fl := l.map (crF1 k)
theorem rdF_some {l : List Fl} {nm : ByteArray} {d : List Nat} (h : rdF l nm = some d) : ∃ hi : ixF l nm < l.length, (l[ixF l nm]'hi).dt = d := by
  unfold rdF at h
  split at h
  · rename_i hi; exact ⟨hi, by injection h⟩
  · cases h
theorem rdF_none {l : List Fl} {nm : ByteArray} (h : rdF l nm = none) : ixF l nm = l.length := by
  unfold rdF at h
  split at h
  · cases h
  · rename_i hi; have := ixF_le l nm; omega
theorem ixF_snoc {l : List Fl} {nm : ByteArray} {f : Fl} (h : ixF l nm = l.length) (hf : f.nm = nm) : ixF (l ++ [f]) nm = l.length :=
  ixF_eq (fun i hi hlt => by
    rw [List.getElem_append_left hlt]
    exact ixF_before (by omega) hlt) (.inr ⟨by simp, by simp [hf]⟩)
end Go.Proofs.YtmdbcknlipahgaaDoor
