/- The laid table of forms gives FormsAt. No program walked. -/
import Derived.Test.YtmdbcknlipahgaaDoorForms
import Derived.Test.YtmdbcknlipahgaaDoorRows
import Derived.ProofKit
import Derived.OpenShut
import Derived.LaidLaws
import Derived.ChangeArms
namespace Go.Proofs.YtmdbcknlipahgaaDoor
open Go Go.RowKit
theorem form_cells {H : Type} {enc : TypeId × Value → H} {w : World} {base : Nat} {spare : Nat → Bool} {held : Bool} {fuel : Nat} {u0 u1 u2 : Value} {l : List UInt8} {a b : Bool} {pl : List MemPlace}
    (h : DataW.trod enc Tryd.prog w base spare held fuel 130 [u0, u1, u2] = some (.agg [.lit (.string l), .lit (.bool a), .lit (.bool b)], pl)) : u0 = .string ⟨l.toArray⟩ ∧ u1 = .bool a ∧ u2 = .bool b := by
  obtain ⟨xs, n, _, hx, _, hlen, hg⟩ := DataW.trod_struct Tryd.underlying130 h
  match xs, hlen with
  | [y0, y1, y2], _ =>
    have g0 := hg 0 _ rfl
    have g1 := hg 1 _ rfl
    have g2 := hg 2 _ rfl
    have e1 : Tryd.prog.cellsOf 9 = 1 := by kernel_rfl
    have e2 : Tryd.prog.cellsOf 4 = 1 := by kernel_rfl
    simp [e1, e2] at g0 g1 g2
    obtain ⟨s, h0, hy0, _⟩ := DataW.trod_string Tryd.underlying9 g0
    obtain ⟨b1, h1, hy1⟩ := DataW.trod_bool Tryd.underlying4 g1
    obtain ⟨b2, h2, hy2⟩ := DataW.trod_bool Tryd.underlying4 g2
    subst hy0 hy1 hy2
    simp at hx h0 h1 h2
    obtain ⟨⟨hs, ha, hb⟩, _⟩ := hx
    refine ⟨?_, by rw [h1, ha], by rw [h2, hb]⟩
    rw [h0, hs]
set_option maxRecDepth 100000 in
theorem forms_of {W : World} {r : List (String × DataW Unit)} (h : laidMet Tryd.prog (("paceline/play.forms", Rows.laid_paceline_play_forms) :: r) W) : FormsAt W := by
  obtain ⟨ps, ⟨g', t', cs, fuel, p, q, hg', ht', hvar, hd, _, _⟩, _⟩ := h
  obtain rfl := Option.some.inj ((show Tryd.prog.globalNamed "paceline/play.forms" = some 0 by kernel_rfl).symm.trans hg')
  obtain rfl := Option.some.inj ((show (Tryd.prog.globals[0]?).map (·.type) = some 131 by kernel_rfl).symm.trans ht')
  unfold FormsAt
  rw [hvar]
  obtain ⟨cs⟩ := cs
  change DataW.trod _ _ _ _ _ _ _ _ cs = _ at hd
  obtain ⟨xs, m, _, hx, hl, hlen, hg⟩ := DataW.trod_array Tryd.underlying131 hd
  have e3 : Tryd.prog.cellsOf 130 = 3 := by kernel_rfl
  have hl24 : cs.length = 24 := hl.trans (by kernel_rfl)
  rw [e3] at hg
  clear hd hvar
  match cs, hl24, xs, hlen with
  | [c0, c1, c2, c3, c4, c5, c6, c7, c8, c9, c10, c11, c12, c13, c14, c15, c16, c17, c18, c19, c20, c21, c22, c23], _, [x0, x1, x2, x3, x4, x5, x6, x7], _ =>
    simp only [Rows.laid_paceline_play_forms, List.map_cons, List.map_nil] at hx
    have hx1 := congrArg Prod.fst hx
    simp only [DataW.agg.injEq] at hx1
    simp only [List.cons.injEq, and_true] at hx1
    obtain ⟨k0, k1, k2, k3, k4, k5, k6, k7⟩ := hx1
    have h0 := hg 0 (by decide)
    simp only [List.getElem?_cons_zero] at h0
    rw [show x0 = (x0.1, x0.2) from rfl, ← k0] at h0
    obtain ⟨rfl, rfl, rfl⟩ := form_cells h0
    have h1 := hg 1 (by decide)
    simp only [List.getElem?_cons_zero, List.getElem?_cons_succ] at h1
    rw [show x1 = (x1.1, x1.2) from rfl, ← k1] at h1
    obtain ⟨rfl, rfl, rfl⟩ := form_cells h1
    have h2 := hg 2 (by decide)
    simp only [List.getElem?_cons_zero, List.getElem?_cons_succ] at h2
    rw [show x2 = (x2.1, x2.2) from rfl, ← k2] at h2
    obtain ⟨rfl, rfl, rfl⟩ := form_cells h2
    have h3 := hg 3 (by decide)
    simp only [List.getElem?_cons_zero, List.getElem?_cons_succ] at h3
    rw [show x3 = (x3.1, x3.2) from rfl, ← k3] at h3
    obtain ⟨rfl, rfl, rfl⟩ := form_cells h3
    have h4 := hg 4 (by decide)
    simp only [List.getElem?_cons_zero, List.getElem?_cons_succ] at h4
    rw [show x4 = (x4.1, x4.2) from rfl, ← k4] at h4
    obtain ⟨rfl, rfl, rfl⟩ := form_cells h4
    have h5 := hg 5 (by decide)
    simp only [List.getElem?_cons_zero, List.getElem?_cons_succ] at h5
    rw [show x5 = (x5.1, x5.2) from rfl, ← k5] at h5
    obtain ⟨rfl, rfl, rfl⟩ := form_cells h5
    have h6 := hg 6 (by decide)
    simp only [List.getElem?_cons_zero, List.getElem?_cons_succ] at h6
    rw [show x6 = (x6.1, x6.2) from rfl, ← k6] at h6
    obtain ⟨rfl, rfl, rfl⟩ := form_cells h6
    have h7 := hg 7 (by decide)
    simp only [List.getElem?_cons_zero, List.getElem?_cons_succ] at h7
    rw [show x7 = (x7.1, x7.2) from rfl, ← k7] at h7
    obtain ⟨rfl, rfl, rfl⟩ := form_cells h7
    rfl
end Go.Proofs.YtmdbcknlipahgaaDoor
