/- The walk of ckpt.Load. -/
import Derived.Test.YtmdbcknlipahgaaDoorDecode
import Derived.Test.YtmdbcknlipahgaaDoorDSync
import Derived.Test.YtmdbcknlipahgaaDoorPCkD
import Derived.Deep.DeepCutAuto
import Derived.Deep.RegionHeld3
namespace Go.Proofs.YtmdbcknlipahgaaDoor
open Go.RowKit Go.Sort Go.Proofs
set_option maxHeartbeats 4000000 in
set_option maxRecDepth 100000 in
theorem ckload_hit (n : Nat) (hn : n < 2) (dv : Value) (s : Sv) (l : List (Fl × Value)) (w : World) (hok : SvOk s) (hle : (encL s).length ≤ 400) (hR : RDk w 0 dv l) (hD : DkOk (l.map (·.1))) (hr : rdF (l.map (·.1)) (svN n) = some (wrapL (encL s))) (hb : AllB (wrapL (encL s))) :
    Calls Tryd.prog 24 #[.agg #[dv], .int .i64 (n : Int)] w fun e w' => ∃ v, e = .returned (.tuple #[v, .int .i64 0]) ∧ OwnSv w' w.heap.size v s ∧ Below w.heap.size w w' := by
  have HRD := Lib.hid (fun (W : World) (hW : Below w.heap.size w W) => read_hit (svN n) dv l (wrapL (encL s)) W (hR.later hW) hD hr)
  have HSL := Lib.hid (fun (W : World) => slot_ok n hn W)
  have HDE := Lib.hid (decodeL_enc hok (by omega))
  obtain ⟨pd, cd, rfl, hcd1, hcd2⟩ := hR.val
  generalize wrapL (encL s) = B at *
  have hn1 : decide ((n : Int) < 0) = false := by simp <;> omega
  have hn2 : decide ((1 : Int) < (n : Int)) = false := by simp; omega
  have hn3 : decide (1 < n) = false := by simp; omega
  clear hok hle hR hD hr
  obtain ⟨b1, B1, z1⟩ := boxed0 w [.slice pd l.length cd] 61
  have hs1 : (w.alloc (.cells #[.slice pd l.length cd] 61)).heap.size = w.heap.size + 1 := by simp
  obtain ⟨b2, B2, z2⟩ := boxed0 (w.alloc (.cells #[.slice pd l.length cd] 61)) [.int .i64 0, .int .i64 0, .bool false, .slice none 0 0, .slice none 0 0] 51
  have hb0 : Below w.heap.size w _ := b1.trans (b2.mono (by omega))
  have X1 := B1.next b2
  rw [hs1] at B2
  go_enter Tryd.func24, Tryd.ntmps24
  go_upto_region 3 with fail
  generalize hW0 : ((w.alloc (.cells #[.slice pd l.length cd] 61)).alloc (.cells #[.int .i64 0, .int .i64 0, .bool false, .slice none 0 0, .slice none 0 0] 51)) = W0 at *
  clear hW0 b1 b2 B1 z1 z2 hs1
  have hk0 := X1.one
  have HB0 := Lib.hid hb0
  go_cut [6, 7] (fun s6 s7 wx => ∃ (q : Option Addr) (c : Nat), s6 = .slice q B.length c ∧ s7 = .int .i64 0 ∧ RdB wx W0.heap.size 1 (.slice q B.length c) B.length (bys B) ∧ Below W0.heap.size W0 wx)
  case first =>
    go_region_held3 (fun w' => w'.cell? ⟨w.heap.size, 0, none⟩ = some (Value.slice pd l.length cd)) (first | (exact hk0) | go_keep)
      (first
        | (go_at_call 50; refine (HSL.out _).mono ?_; rintro e w2 ⟨rfl, rfl⟩)
        | (go_at_call 52; refine (HRD.out W0.drew (HB0.out.drew)).mono ?_; rintro e w3 ⟨q, c, rfl, hrd, hb3⟩; have hbx : Below W0.heap.size W0 w3 := ((Below.refl _ W0).drew).trans hb3; have hk0 := (X1.next hbx).one)
        | fail)
    all_goals go_wp2_with fail
    all_goals go_meet
    case rel => exact ⟨q, c, rfl, rfl, hrd, hbx⟩
  case rest =>
  obtain ⟨q, c, rfl, rfl, hrd, hbx⟩ := hcut
  obtain ⟨w3, rfl⟩ : ∃ w3 : World, w3 = wc := ⟨_, rfl⟩
  have hIB : IsB w3 (.slice q B.length c) B := ⟨hrd.1, hb⟩
  have hzz := B2.lt
  have Y4 := B2.next hbx
  have hzy := Y4.lt
  have hb03 := hb0.trans (hbx.mono hb0.size)
  clear hk0
  go_wp2_with fail
  refine (decode_own q c B.length B w3 hIB).mono ?_; rintro e w4 ⟨v, er, rfl, hb4, -, hS, -⟩
  obtain ⟨rfl, hv⟩ := hS s HDE.out
  obtain ⟨p5, p6, n5, c5, n6, c6, rfl, h5, h6⟩ := hv
  have V4 := Y4.next hb4
  obtain ⟨hx0, hx1, hx2, hx3, hx4⟩ := V4.five
  obtain ⟨hf0, hf1, hf2, hf3, hf4⟩ := V4.fiveF
  have H5 := Lib.hid h5
  have H6 := Lib.hid h6
  have hbw := hb03.trans (hb4.mono hb03.size)
  clear h5 h6 hS
  go_wp2_with fail
  refine bodyPost_ret (v := .tuple #[.agg #[.int .i64 (s.step : Int), .int .i64 (s.phase : Int), .bool s.fresh, .slice p5 n5 c5, .slice p6 n6 c6], .int .i64 0]) ?_ rfl ⟨_, rfl, ⟨p5, p6, n5, c5, n6, c6, rfl, own_mono (own_set5 H5.out hzy _ _ _ _ _) hb03.size, own_mono (own_set5 H6.out hzy _ _ _ _ _) hb03.size⟩, setc5 hbw (by omega) _ _ _ _ _⟩
  rw [results_cell_tmp rfl]
  go_simp
end Go.Proofs.YtmdbcknlipahgaaDoor
