/- strings.Builder at this program. -/
import Derived.Test.YtmdbcknlipahgaaDoorShelfS
import Derived.Shelf.Strings.BuilderK
namespace Go.Proofs.YtmdbcknlipahgaaDoor
open Go.RowKit Go.Shelf Go.Proofs
theorem ex_ws : Builder.Extra Tryd.prog layWriteString_ren := { sizeBuilder := by kernel_rfl, liesBuilder := by kernel_rfl, t5 := Tryd.underlying5, a5 := Tryd.isAgg5, z5 := Tryd.sizeOf5, v5 := Tryd.zeroValue5, infoByte := by kernel_rfl, cellsByte := by kernel_rfl, sizeByte := by kernel_rfl, neB5 := by decide }
theorem ex_wb : Builder.Extra Tryd.prog layWriteByte_ren := { sizeBuilder := by kernel_rfl, liesBuilder := by kernel_rfl, t5 := Tryd.underlying5, a5 := Tryd.isAgg5, z5 := Tryd.sizeOf5, v5 := Tryd.zeroValue5, infoByte := by kernel_rfl, cellsByte := by kernel_rfl, sizeByte := by kernel_rfl, neB5 := by decide }
theorem ex_bs : Builder.Extra Tryd.prog layBString_ren := { sizeBuilder := by kernel_rfl, liesBuilder := by kernel_rfl, t5 := Tryd.underlying5, a5 := Tryd.isAgg5, z5 := Tryd.sizeOf5, v5 := Tryd.zeroValue5, infoByte := by kernel_rfl, cellsByte := by kernel_rfl, sizeByte := by kernel_rfl, neB5 := by decide }
/-- a builder at block b, that holds l -/
def IsBld (b : Nat) (l : List UInt8) (w : World) : Prop := Lib.IsBuilderF 74 5 b b (Lib.byteCells l) w
theorem IsBld.lt {b : Nat} {l : List UInt8} {w : World} (h : IsBld b l w) : b < w.heap.size := by
  rcases h with ⟨_, v, h, _⟩ | ⟨_, v, h, _⟩ <;> exact (Array.getElem?_eq_some_iff.1 h).1
theorem wbyte_ok (b : Nat) (l : List UInt8) (c : UInt8) (w : World) (h : IsBld b l w) (hl : l.length ≤ 1000000000) :
    Calls Tryd.prog 29 #[.pointer (some ⟨b, 0, none⟩), .int .u8 (c.toNat : Int)] w fun e w' => e = .returned .nilIface ∧ IsBld b (l ++ [c]) w' ∧ Below b w w' ∧ Lib.OthersKept 5 (some b) w w' := by
  have hc := Any.Builder_WriteByte_k layWriteByte ex_wb b b (Lib.byteCells l) (c.toNat : Int) w h (by rw [Lib.byteCells_length]; omega) (Nat.le_of_lt h.lt)
  change Calls Tryd.prog 29 _ _ _ at hc
  refine hc.mono ?_
  rintro e w' ⟨rfl, h1, h2, h3⟩
  refine ⟨rfl, .inr ?_, h2, h3⟩
  have e1 : Lib.byteCells (l ++ [c]) = Lib.byteCells l ++ [Value.int .u8 (c.toNat : Int)] := by simp [Lib.byteCells]
  rw [e1]
  exact h1
theorem wstr_ok (b : Nat) (l x : List UInt8) (w : World) (h : IsBld b l w) (hl : l.length ≤ 1000000000) (hx : x.length ≤ 1000000000) :
    Calls Tryd.prog 30 #[.pointer (some ⟨b, 0, none⟩), .string ⟨x.toArray⟩] w fun e w' => (∃ v, e = .returned v) ∧ IsBld b (l ++ x) w' ∧ Below b w w' ∧ Lib.OthersKept 5 (some b) w w' := by
  have hc := Any.Builder_WriteString_k layWriteString ex_ws b b (Lib.byteCells l) ⟨x.toArray⟩ w h (by rw [Lib.byteCells_length]; show _ + x.toArray.size ≤ _; simp; omega) (Nat.le_of_lt h.lt)
  change Calls Tryd.prog 30 _ _ _ at hc
  refine hc.mono ?_
  rintro e w' ⟨rfl, h1, h2, h3⟩
  refine ⟨⟨_, rfl⟩, .inr ?_, h2, h3⟩
  have e1 : Lib.byteCells (l ++ x) = Lib.byteCells l ++ Lib.strCells ⟨x.toArray⟩ := by simp [Lib.byteCells, Lib.strCells]
  rw [e1]
  exact h1
theorem bstr_ok (b : Nat) (l : List UInt8) (w : World) (h : IsBld b l w) (h0 : l ≠ []) :
    Calls Tryd.prog 32 #[.pointer (some ⟨b, 0, none⟩)] w fun e w' => e = .returned (.string ⟨l.toArray⟩) ∧ Below b w w' := by
  have hc := Any.Builder_String_k layBString ex_bs b b l w h h0
  change Calls Tryd.prog 32 _ _ _ at hc
  refine hc.mono ?_
  rintro e w' ⟨rfl, h1, h2, h3⟩
  exact ⟨rfl, h2⟩
theorem bstr0_ok (b : Nat) (w : World) (h : IsBld b [] w) :
    Calls Tryd.prog 32 #[.pointer (some ⟨b, 0, none⟩)] w fun e w' => e = .returned (.string ⟨#[]⟩) ∧ Below b w w' := by
  have hc := Any.Builder_String_empty_k layBString ex_bs b b w h (Nat.le_of_lt h.lt)
  change Calls Tryd.prog 32 _ _ _ at hc
  refine hc.mono ?_
  rintro e w' ⟨rfl, h1, h2, h3⟩
  exact ⟨rfl, h2⟩
theorem bld_later {b : Nat} {l : List UInt8} {w w' : World} (h : IsBld b l w) (hb : Below w.heap.size w w') : IsBld b l w' := by
  have key : ∀ p, Lib.BuilderAtF 74 5 b b p (Lib.byteCells l) w → Lib.BuilderAtF 74 5 b b p (Lib.byteCells l) w' := by
    rintro p ⟨h1, v, h2, h3, h4⟩
    refine ⟨h1, v, (hb.block b (Array.getElem?_eq_some_iff.1 h2).1).trans h2, ⟨h3.1, ?_⟩, h4⟩
    rcases h3.2 with hn | ⟨g, cap, cur, fz, hv, h5, h6, h7⟩
    · exact .inl hn
    · exact .inr ⟨g, cap, cur, fz, hv, h5, (hb.block g (Array.getElem?_eq_some_iff.1 h6).1).trans h6, h7⟩
  exact h.elim (fun x => .inl (key _ x)) (fun x => .inr (key _ x))
/-- numbers that a closure is handed, in a block of their own -/
def ArgI (w : World) (q : Nat) (ns : List Int) : Prop := w.heap[q]? = some (.cells (its ns).toArray 3 (0, 0))
theorem ArgI.kept {w w' : World} {q b : Nat} {ns : List Int} (h : ArgI w q ns) (hq : q ≠ b) (hk : Lib.OthersKept 5 (some b) w w') : ArgI w' q ns :=
  hk q _ h (fun e => hq (Option.some.inj e)) (fun c fz e => by cases e)
theorem ArgI.next {w w' : World} {q : Nat} {ns : List Int} (h : ArgI w q ns) (hb : Below w.heap.size w w') : ArgI w' q ns :=
  (hb.block q (Array.getElem?_eq_some_iff.1 h).1).trans h
theorem ArgI.cell {w : World} {q : Nat} {ns : List Int} (h : ArgI w q ns) {k : Nat} (hk : k < ns.length) : w.cell? ⟨q, k, none⟩ = some (.int .i64 ns[k]) := by
  rw [cell_of_row w q k _ _ _ h]
  simp [its, hk]
end Go.Proofs.YtmdbcknlipahgaaDoor
