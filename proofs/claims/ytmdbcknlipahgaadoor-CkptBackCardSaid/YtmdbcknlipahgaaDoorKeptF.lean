/- An argument of the type Kept, opened. -/
import Derived.Test.YtmdbcknlipahgaaDoorPKept
import Derived.Test.YtmdbcknlipahgaaDoorRead
import Derived.Deep.Fields
import Derived.ChangeSame
namespace Go.Proofs.YtmdbcknlipahgaaDoor
open Go.ChangeShapes Go.WideShapes Go.RowKit Go.Deep
/-- raw numbers that may be read -/
def IsKp (w : World) (v : Value) (x : KeptR) : Prop :=
  ∃ v3 v4, v = .agg #[.int .i64 x.step, .int .i64 x.phase, .bool x.fresh, v3, v4] ∧ IsR 2 w v3 x.values ∧ IsR 2 w v4 x.mail ∧ (-9223372036854775808 ≤ x.step ∧ x.step ≤ 9223372036854775807) ∧ (-9223372036854775808 ≤ x.phase ∧ x.phase ≤ 9223372036854775807)
theorem IsKp.later {w w' : World} {v : Value} {x : KeptR} (h : IsKp w v x) (hb : Below w.heap.size w w') : IsKp w' v x := by
  obtain ⟨v3, v4, rfl, h1, h2, h3, h4⟩ := h
  exact ⟨v3, v4, rfl, h1.later hb, h2.later hb, h3, h4⟩
set_option maxRecDepth 100000 in
theorem isPosts_of {H : Type} {enc : TypeId × Value → H} {w : World} {base : Nat} {spare : Nat → Bool} {held : Bool} {v : Value} {n : Nat} {y : DataW H × List MemPlace}
    (h : DataW.trod enc Tryd.prog w base spare held n 45 [v] = some y) : ∃ l, IsR 2 w v l := by
  have hv : ∃ a len cap, v = .slice a len cap := by
    rcases DataW.trod_slice Tryd.underlying45 h with ⟨hc, _⟩ | ⟨a, len, cap, _, _, _, _, hc, _⟩
    · exact ⟨none, 0, 0, by simpa using hc⟩
    · exact ⟨some a, len, cap, by simpa using hc⟩
  obtain ⟨a, len, cap, rfl⟩ := hv
  exact isR_of (k := 2) (d := y.1) (pl := y.2) Tryd.underlying45 Tryd.underlying94 rfl (by decide) (by kernel_rfl) (by kernel_rfl) (fun j f hj => by
    rcases j with _ | _ | _ <;> simp at hj <;> subst hj <;> exact Tryd.underlying3) ⟨n, by simpa [Value.cells] using h⟩
set_option maxRecDepth 100000 in
theorem isKp_of {H : Type} {enc : TypeId × Value → H} {w : World} {base b0 : Nat} {r : Reach} {spare : Nat → Bool} {held : Bool} {v : Value} {d : DataW H} {pl : List MemPlace}
    (hv : Value.okWide Tryd.prog w r b0 47 v) (h : DataW.Trod enc Tryd.prog w base spare held 47 v d pl) : ∃ x, IsKp w v x := by
  obtain ⟨cs, rfl, hsz⟩ := okWide_struct Tryd.underlying47 hv
  have h5 : cs.size = 5 := hsz.trans (by kernel_rfl)
  obtain ⟨l⟩ := cs
  match l, h5 with
  | [c0, c1, c2, c3, c4], _ =>
    obtain ⟨fuel, hf⟩ := h
    obtain ⟨xs, n, _, hx, _, hlen, hg⟩ := DataW.trod_struct Tryd.underlying47 hf
    match xs, hlen with
    | [y0, y1, y2, y3, y4], _ =>
      have g0 := hg 0 _ rfl
      have g1 := hg 1 _ rfl
      have g2 := hg 2 _ rfl
      have g3 := hg 3 _ rfl
      have g4 := hg 4 _ rfl
      have e1 : Tryd.prog.cellsOf 3 = 1 := by kernel_rfl
      have e2 : Tryd.prog.cellsOf 4 = 1 := by kernel_rfl
      have e3 : Tryd.prog.cellsOf 45 = 1 := by kernel_rfl
      simp [Value.cells, e1, e2, e3] at g0 g1 g2 g3 g4
      obtain ⟨s, h0, _, w0⟩ := DataW.trod_int Tryd.underlying3 g0
      obtain ⟨ph, h1, _, w1⟩ := DataW.trod_int Tryd.underlying3 g1
      obtain ⟨fr, h2, _⟩ := DataW.trod_bool Tryd.underlying4 g2
      obtain ⟨l3, h3⟩ := isPosts_of g3
      obtain ⟨l4, h4⟩ := isPosts_of g4
      cases h0
      cases h1
      cases h2
      exact ⟨⟨s, ph, fr, l3, l4⟩, c3, c4, rfl, h3, h4, by simpa [Lit.wf, IntKind.min, IntKind.max, IntKind.signed, IntKind.bits] using w0, by simpa [Lit.wf, IntKind.min, IntKind.max, IntKind.signed, IntKind.bits] using w1⟩
end Go.Proofs.YtmdbcknlipahgaaDoor
