/- An argument of the type Graph, opened. -/
import Derived.Test.YtmdbcknlipahgaaDoorChkG
import Derived.Test.YtmdbcknlipahgaaDoorRead
import Derived.Deep.Fields
import Derived.ChangeSame
namespace Go.Proofs.YtmdbcknlipahgaaDoor
open Go.ChangeShapes Go.WideShapes Go.RowKit Go.Deep
theorem ges_of : ∀ (l : List (List Int)), (∀ r ∈ l, r.length = 3) → ∃ E : List Ge, rws l = ges E
  | [], _ => ⟨[], rfl⟩
  | r :: l, h => by
    obtain ⟨E, hE⟩ := ges_of l (fun x hx => h x (by simp [hx]))
    match r, h r (by simp) with
    | [a, b, c], _ => exact ⟨(a, b, c) :: E, by show its [a, b, c] ++ rws l = _; rw [hE]; rfl⟩
/-- a graph that may be read -/
def IsGr (w : World) (v : Value) (N : Int) (p : Option Addr) (n c : Nat) (E : List Ge) : Prop :=
  v = .agg #[.int .i64 N, .slice p n c] ∧ Sl w 3 (.slice p n c) n (ges E) ∧ (-9223372036854775808 ≤ N ∧ N ≤ 9223372036854775807)
set_option maxRecDepth 100000 in
theorem isEdges_of {H : Type} {enc : TypeId × Value → H} {w : World} {base : Nat} {spare : Nat → Bool} {held : Bool} {v : Value} {n : Nat} {y : DataW H × List MemPlace}
    (h : DataW.trod enc Tryd.prog w base spare held n 22 [v] = some y) : ∃ p n c E, v = .slice p n c ∧ Sl w 3 (.slice p n c) n (ges E) := by
  have hv : ∃ a len cap, v = .slice a len cap := by
    rcases DataW.trod_slice Tryd.underlying22 h with ⟨hc, _⟩ | ⟨a, len, cap, _, _, _, _, hc, _⟩
    · exact ⟨none, 0, 0, by simpa using hc⟩
    · exact ⟨some a, len, cap, by simpa using hc⟩
  obtain ⟨a, len, cap, rfl⟩ := hv
  obtain ⟨l, hl⟩ := isR_of (k := 3) (d := y.1) (pl := y.2) Tryd.underlying22 Tryd.underlying84 rfl (by decide) (by kernel_rfl) (by kernel_rfl) (fun j f hj => by
    rcases j with _ | _ | _ | _ <;> simp at hj <;> subst hj <;> exact Tryd.underlying3) ⟨n, by simpa [Value.cells] using h⟩
  obtain ⟨hl1, hl2⟩ := hl
  obtain ⟨E, hE⟩ := ges_of l (fun r hr => (hl2 r hr).1)
  obtain ⟨p', c', he, hrest⟩ := hl1
  have he2 := he
  injection he2 with e1 e2 e3
  subst e2
  refine ⟨a, _, cap, E, rfl, ?_⟩
  rw [← hE]
  exact ⟨p', c', he, hrest⟩
set_option maxRecDepth 100000 in
theorem isGr_of {H : Type} {enc : TypeId × Value → H} {w : World} {base b0 : Nat} {r : Reach} {spare : Nat → Bool} {held : Bool} {v : Value} {d : DataW H} {pl : List MemPlace}
    (hv : Value.okWide Tryd.prog w r b0 24 v) (h : DataW.Trod enc Tryd.prog w base spare held 24 v d pl) : ∃ N p n c E, IsGr w v N p n c E := by
  obtain ⟨cs, rfl, hsz⟩ := okWide_struct Tryd.underlying24 hv
  have h5 : cs.size = 2 := hsz.trans (by kernel_rfl)
  obtain ⟨l⟩ := cs
  match l, h5 with
  | [c0, c1], _ =>
    obtain ⟨fuel, hf⟩ := h
    obtain ⟨xs, n, _, hx, _, hlen, hg⟩ := DataW.trod_struct Tryd.underlying24 hf
    match xs, hlen with
    | [y0, y1], _ =>
      have g0 := hg 0 _ rfl
      have g1 := hg 1 _ rfl
      have e1 : Tryd.prog.cellsOf 3 = 1 := by kernel_rfl
      have e3 : Tryd.prog.cellsOf 22 = 1 := by kernel_rfl
      simp [Value.cells, e1, e3] at g0 g1
      obtain ⟨s, h0, _, w0⟩ := DataW.trod_int Tryd.underlying3 g0
      obtain ⟨p, m, c, E, rfl, h3⟩ := isEdges_of g1
      cases h0
      exact ⟨s, p, m, c, E, rfl, h3, by simpa [Lit.wf, IntKind.min, IntKind.max, IntKind.signed, IntKind.bits] using w0⟩
end Go.Proofs.YtmdbcknlipahgaaDoor
