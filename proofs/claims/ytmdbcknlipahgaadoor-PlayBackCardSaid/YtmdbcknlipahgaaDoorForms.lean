/- The table of forms, as it lies. No program walked. -/
import Derived.Test.YtmdbcknlipahgaaDoorPPlay
import Derived.Test.YtmdbcknlipahgaaDoorShelfS
import Derived.Test.YtmdbcknlipahgaaDoorIdxA
namespace Go.Proofs.YtmdbcknlipahgaaDoor
open Go.RowKit Go.Proofs
def formW (k : Nat) : ByteArray := ⟨(formF k).1.toArray⟩
/-- the table's cells -/
def formCells : List Value := (List.range 8).flatMap fun k => [.string (formW k), .bool (formF k).2.1, .bool (formF k).2.2]
/-- the table lies as the text lays it -/
def FormsAt (w : World) : Prop := w.var? Tryd.prog "paceline/play.forms" = some formCells.toArray
theorem FormsAt.later {w w' : World} (h : FormsAt w) (hb : Below w.heap.size w w') : FormsAt w' := var_later h hb
theorem forms_block {w : World} (h : FormsAt w) : ∃ t fz, w.heap[0]? = some (.cells formCells.toArray t fz) := by
  unfold FormsAt World.var? at h
  have hg : Tryd.prog.globalNamed "paceline/play.forms" = some 0 := by kernel_rfl
  rw [hg] at h
  simp only [Option.bind_some] at h
  cases hh : w.heap[0]? with
  | none => rw [hh] at h; cases h
  | some o =>
    rw [hh] at h
    cases o <;> simp at h
    subst h
    exact ⟨_, _, rfl⟩
/-- a row of the table -/
theorem forms_at {w : World} (h : FormsAt w) {k : Nat} (hk : k < 8) : w.cell? ⟨0, k * 3, none⟩ = some (.string (formW k)) ∧ w.cell? ⟨0, k * 3 + 1, none⟩ = some (.bool (formF k).2.1) ∧ w.cell? ⟨0, k * 3 + 2, none⟩ = some (.bool (formF k).2.2) := by
  obtain ⟨t, fz, hb⟩ := forms_block h
  have hc : ∀ i, w.cell? ⟨0, i, none⟩ = formCells.toArray[i]? := fun i => by
    have := World.var?_cell (by kernel_rfl : Tryd.prog.globalNamed "paceline/play.forms" = some 0) h i
    exact this
  rw [hc, hc, hc]
  match k, hk with
  | 0, _ => exact ⟨rfl, rfl, rfl⟩
  | 1, _ => exact ⟨rfl, rfl, rfl⟩
  | 2, _ => exact ⟨rfl, rfl, rfl⟩
  | 3, _ => exact ⟨rfl, rfl, rfl⟩
  | 4, _ => exact ⟨rfl, rfl, rfl⟩
  | 5, _ => exact ⟨rfl, rfl, rfl⟩
  | 6, _ => exact ⟨rfl, rfl, rfl⟩
  | 7, _ => exact ⟨rfl, rfl, rfl⟩
  | k + 8, h => omega
/-- a row of the table by value -/
theorem idx_forms {k : Nat} (hk : k < 8) (W : World) : (Instr.index 131 (.agg formCells.toArray) (.int .i64 (k : Int))).run Tryd.prog W = .ok (.agg #[.string (formW k), .bool (formF k).2.1, .bool (formF k).2.2]) W := by
  have hl : Tryd.prog.arrayLen 131 = 8 := by kernel_rfl
  rw [run_index_arr _ _ _ _ _ (by kernel_rfl), hl, if_pos (by omega)]
  have hs : (sizeOf (Tryd.prog.elem 131)).run Tryd.prog W = .ok 3 W := by simp [go_sem]
  rw [hs]
  have ha : (isAgg 130).run Tryd.prog W = .ok true W := by simp [go_sem]
  have hz : (sizeOf 130).run Tryd.prog W = .ok 3 W := by simp [go_sem]
  rw [show Tryd.prog.elem 131 = 130 from by kernel_rfl]
  simp only [Result.andThen_ok, part, Sem.run_bind, ha, hz, if_true, Sem.run_pure]
  match k, hk with
  | 0, _ => rfl
  | 1, _ => rfl
  | 2, _ => rfl
  | 3, _ => rfl
  | 4, _ => rfl
  | 5, _ => rfl
  | 6, _ => rfl
  | 7, _ => rfl
  | k + 8, h => omega
end Go.Proofs.YtmdbcknlipahgaaDoor
