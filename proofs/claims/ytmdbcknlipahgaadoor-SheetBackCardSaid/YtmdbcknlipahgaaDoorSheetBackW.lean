/- The walk of the law SheetBack. -/
import Derived.Test.YtmdbcknlipahgaaDoorSRead
import Derived.Test.YtmdbcknlipahgaaDoorSameGe
namespace Go.Proofs.YtmdbcknlipahgaaDoor
open Go.RowKit
theorem edgeL_len {e : Ge} (h1 : 0 ≤ e.1 ∧ e.1 < 200) (h2 : 0 ≤ e.2.1 ∧ e.2.1 < 200) (h3 : 0 ≤ e.2.2 ∧ e.2.2 ≤ 1099511627776) : (edgeL e).length ≤ 22 := by
  have a1 := itoa_len h1.1 3 (by omega) (by omega)
  have a2 := itoa_len h2.1 3 (by omega) (by omega)
  have a3 := itoa_len h3.1 13 (by omega) (by omega)
  show (Go.Lib.itoa e.1 ++ 32 :: (Go.Lib.itoa e.2.1 ++ 32 :: (Go.Lib.itoa e.2.2 ++ [10]))).length ≤ 22
  simp only [List.length_append, List.length_cons, List.length_nil]
  omega
theorem show_len {N : Int} {E : List Ge} (h : chkF N E = 0) : (showL N E).length ≤ 20000 := by
  obtain ⟨h1, h2, h3, h4⟩ := chk_ok h
  have a0 : (lineL [N]).length ≤ 1 * (3 + 1) + 1 := lineL_len 3 (by omega) (by intro n hn; simp at hn; subst hn; omega)
  have : ∀ (E : List Ge), (∀ e ∈ E, 0 ≤ e.1 ∧ e.1 < N ∧ 0 ≤ e.2.1 ∧ e.2.1 < N ∧ 0 ≤ e.2.2 ∧ e.2.2 ≤ 1099511627776) → (E.flatMap edgeL).length ≤ 22 * E.length := by
    intro E
    induction E with
    | nil => intro _; simp
    | cons e E ih =>
      intro h
      rw [List.flatMap_cons, List.length_append, List.length_cons]
      have he := h e (by simp)
      have h5 := ih (fun x hx => h x (by simp [hx]))
      have h6 := edgeL_len (e := e) (by omega) (by omega) (by omega)
      omega
  have h5 := this E h4
  unfold showL
  rw [List.length_append]
  omega
theorem show_ne (N : Int) (E : List Ge) : showL N E ≠ [] := by unfold showL; rw [lineL_words]; simp
set_option maxHeartbeats 4000000 in
set_option maxRecDepth 100000 in
theorem sheetBack_walk (w : World) (N : Int) (hN1 : -9223372036854775808 ≤ N) (hN2 : N ≤ 9223372036854775807) (p : Option Addr) (n c : Nat) (E : List Ge) (h : Sl w 3 (.slice p n c) n (ges E)) (ht : Tabs w) :
    Calls Tryd.prog 3 #[.agg #[.int .i64 N, .slice p n c]] w fun e w' => e = .returned (.bool true) ∧ Below w.heap.size w w' := by
  have HSH := Lib.hid (fun (W : World) (hW : Below w.heap.size w W) => show_ok N hN1 hN2 p n c E W (h.later hW) (ht.later hW))
  have HCK := Lib.hid (fun (W : World) (hW : Below w.heap.size w W) => chkG_ok N hN1 hN2 p n c E W (h.later hW))
  obtain ⟨b1, B1, z1⟩ := boxed0 w [.int .i64 N, .slice p n c] 24
  have HL := Lib.hid h
  have HT := Lib.hid ht
  clear h ht
  generalize hw1 : (w.alloc (.cells #[.int .i64 N, .slice p n c] 24)) = w1 at *
  have HX := Lib.hid B1
  have HB := Lib.hid b1
  obtain ⟨hx0, hx1, _, _⟩ := HX.out.two
  clear b1 B1 z1
  go_enter Tryd.func3, Tryd.ntmps3
  go_upto_region 1 with fail
  clear hw1
  go_wp2_with fail
  refine (HSH.out _ HB.out).mono ?_; rintro e w2 ⟨rfl, hb2⟩
  have HB2 := Lib.hid (HB.out.trans (hb2.mono HB.out.size))
  have HX2 := Lib.hid (HX.out.next hb2)
  obtain ⟨hx0, hx1, _, _⟩ := HX2.out.two
  clear hb2 HX HB
  go_wp2_with fail
  refine (HCK.out _ HB2.out).mono ?_; rintro e w3 ⟨rfl, hb3⟩
  have HB3 := Lib.hid (HB2.out.trans (hb3.mono HB2.out.size))
  have HX3 := Lib.hid (HX2.out.next hb3)
  obtain ⟨hx0, hx1, _, _⟩ := HX3.out.two
  clear hb3 HX2 HB2
  by_cases h0 : chkF N E = 0
  · have hse : shF N E = ⟨(showL N E).toArray⟩ := by unfold shF; rw [if_pos h0]
    have hsd : (shF N E).data.toList = showL N E := by rw [hse]
    have hrd : readL (shF N E).data.toList = (N, E) := by rw [hsd]; exact read_show h0
    have hsz : (shF N E).size ≤ 20000 := by rw [Lib.size_eq, hsd]; exact show_len h0
    have hbs : bigS (shF N E).data.toList := ⟨by rw [hrd]; exact h0, by rw [hrd]⟩
    have hne : ((shF N E).toList == ([] : List UInt8)) = false := by rw [ByteArray.toList_eq, hsd]; simp; exact show_ne N E
    have HRD := Lib.hid ((read_ok (shF N E) w3 (HT.out.later HB3.out)).mono (R' := fun e w' => ∃ p' n' c', e = .returned (.tuple #[.agg #[.int .i64 N, .slice p' n' c'], .int .i64 0]) ∧ Sl w' 3 (.slice p' n' c') n' (ges E) ∧ Below w3.heap.size w3 w') (by
      rintro e w' ⟨hok, hb⟩
      rcases hok with ⟨hx, _⟩ | ⟨_, hx, _⟩ | ⟨_, _, p', n', c', rfl, hn, ho⟩
      · omega
      · exact absurd hbs hx
      · rw [hrd] at hn ho ⊢
        exact ⟨p', n', c', rfl, Sl.of_own ho, hb⟩))
    rw [h0]
    clear h0 hse hsd hrd hsz hbs HSH HCK
    generalize shF N E = sh at *
    go_wp2_with fail
    refine HRD.out.mono ?_; rintro e w4 ⟨p', n', c', rfl, hsl, hb4⟩
    have HB4 := Lib.hid (HB3.out.trans (hb4.mono HB3.out.size))
    have HX4 := Lib.hid (HX3.out.next hb4)
    have HSL := Lib.hid hsl
    clear hb4 hsl HX3 HB3
    obtain ⟨b5, B5, z5⟩ := boxed0 w4 [.int .i64 N, .slice p' n' c'] 24
    have HX5 := Lib.hid (HX4.out.next b5)
    have HB5 := Lib.hid (HB4.out.trans (b5.mono HB4.out.size))
    have HSG := Lib.hid (sameGe_ok N n' c' n c p' p E (w4.alloc (.cells #[.int .i64 N, .slice p' n' c'] 24)) (HSL.out.later b5) (HL.out.later HB5.out))
    obtain ⟨hx0, hx1, _, _⟩ := HX5.out.two
    obtain ⟨hy0, hy1, _, _⟩ := B5.two
    clear b5 B5 z5
    go_wp2_with fail
    refine HSG.out.mono ?_; rintro e w6 ⟨rfl, hb6⟩
    go_wp2_with fail
    go_ret
    exact ⟨rfl, HB5.out.trans (hb6.mono HB5.out.size)⟩
  · have hse : shF N E = ⟨#[]⟩ := by unfold shF; rw [if_neg h0]
    rw [hse]
    have hne : (chkF N E != 0) = true := by simp; exact h0
    have hne2 : (chkF N E == 0) = false := by simp; exact h0
    obtain ⟨ce, hce⟩ : ∃ ce, ce = chkF N E := ⟨_, rfl⟩
    rw [← hce] at hne hne2 ⊢
    clear h0 hce
    go_wp2_with fail
    go_ret
    exact ⟨rfl, HB3.out⟩
end Go.Proofs.YtmdbcknlipahgaaDoor
