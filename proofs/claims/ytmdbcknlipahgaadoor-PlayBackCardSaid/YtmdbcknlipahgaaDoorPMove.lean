/- The walk of play.move. -/
import Derived.Test.YtmdbcknlipahgaaDoorPLine
import Derived.Test.YtmdbcknlipahgaaDoorNums
namespace Go.Proofs.YtmdbcknlipahgaaDoor
open Go.RowKit
/-- what Atoi answers, with its number -/
theorem atoi_val (s : ByteArray) (hs : s.size ≤ 10000000) (w : World) (h : Tabs w) :
    Calls Tryd.prog 60 #[.string s] w fun e w' => (∃ ev : Value, e = .returned (.tuple #[.int .i64 (atV s.data.toList), ev])) ∧ Below w.heap.size w w' := by
  rcases ha : Lib.atoiAll s.data.toList with v | _ | _
  · have hc := Any.strconv_Atoi_ok layAtoi s (by omega) v ha w
    change Calls Tryd.prog 60 _ _ _ at hc
    refine hc.mono ?_
    rintro e w' ⟨rfl, hw⟩
    refine ⟨⟨.nilIface, by unfold atV; rw [ha]⟩, ?_⟩
    rcases hw with rfl | ⟨t, rfl⟩
    · exact Below.refl _ _
    · exact Lib.bytesWorld_below w _ t
  · obtain ⟨t2, p2, h2⟩ := h.syn
    have hc := Any.strconv_Atoi_syntax_var layAtoi s (by omega) ha t2 p2 w h2
    change Calls Tryd.prog 60 _ _ _ at hc
    refine hc.mono ?_
    rintro e w' ⟨N, rfl, -, -, hb⟩
    exact ⟨⟨_, by unfold atV; rw [ha]⟩, hb⟩
  · obtain ⟨t2, p2, h2⟩ := h.rng
    have hc := Any.strconv_Atoi_range_var layAtoi s (by omega) ha t2 p2 w h2
    change Calls Tryd.prog 60 _ _ _ at hc
    refine hc.mono ?_
    rintro e w' ⟨N, rfl, -, -, hb⟩
    exact ⟨⟨_, by unfold atV; rw [ha]⟩, hb⟩
set_option maxHeartbeats 4000000 in
set_option maxRecDepth 100000 in
theorem move_ok (s : ByteArray) (hs : s.size ≤ 5000000) (w : World) (ht : Tabs w) (hf : FormsAt w) :
    Calls Tryd.prog 37 #[.string s] w fun e w' => e = .returned (.agg #[.int .i64 (moveM s.data.toList).1, .int .i64 (moveM s.data.toList).2.1, .int .i64 (moveM s.data.toList).2.2]) ∧ Below w.heap.size w w' := by
  obtain ⟨W1, hW1⟩ : ∃ W1 : World, W1 = ((w.alloc (.cells #[.int .i64 0, .int .i64 0, .int .i64 0] 37)).alloc (.cells #[.int .i64 0, .int .i64 0, .int .i64 0] 37)) := ⟨_, rfl⟩
  have HTR := Lib.hid (trim_ok s (by omega) W1)
  have hsz : (⟨(Lib.trimSuffix s.data.toList [10]).toArray⟩ : ByteArray).size ≤ 5000000 := Nat.le_trans (trim_size s) hs
  have HSP := Lib.hid (split_ok ⟨(Lib.trimSuffix s.data.toList [10]).toArray⟩ (by omega) W1)
  have HT := Lib.hid ht
  have HF := Lib.hid hf
  have HB1 := Lib.hid (show Below w.heap.size w W1 from by rw [hW1]; exact ((Below.refl _ w).alloc (Nat.le_refl _) _).alloc (by simp) _)
  have HX1 := Lib.hid (show Bx W1 w.heap.size [.int .i64 0, .int .i64 0, .int .i64 0] from by rw [hW1]; exact (bx_new w [.int .i64 0, .int .i64 0, .int .i64 0] _).alloc _)
  have HX2 := Lib.hid (show Bx W1 (w.heap.size + 1) [.int .i64 0, .int .i64 0, .int .i64 0] from by rw [hW1]; have := bx_new (w.alloc (.cells #[.int .i64 0, .int .i64 0, .int .i64 0] 37)) [.int .i64 0, .int .i64 0, .int .i64 0] 37; rw [World.size_alloc] at this; exact this)
  clear ht hf
  go_enter Tryd.func37, Tryd.ntmps37
  go_upto_region 2 with fail
  rw [← hW1]
  clear hW1
  go_wp2_with fail
  refine HTR.out.mono ?_; rintro e w' ⟨rfl, rfl⟩
  go_wp2_with fail
  refine HSP.out.mono ?_; rintro e w1 ⟨l, g, rfl, hl, hx, hl1, hl2, hsl, hb1⟩
  have HF1 := HF.out.later (HB1.out.trans (hb1.mono HB1.out.size))
  obtain ⟨t0, fz0, hblk⟩ := forms_block HF1
  obtain ⟨FA, hFA⟩ : ∃ FA, FA = formCells.toArray := ⟨_, rfl⟩
  rw [← hFA] at hblk
  have hsz0 : (Tryd.prog.info? 131).map (·.size) = some FA.size := by rw [hFA]; kernel_rfl
  have HIX := Lib.hid (fun (k : Nat) (hk : k < 8) (W : World) => (show (Instr.index 131 (.agg FA) (.int .i64 (k : Int))).run Tryd.prog W = .ok (.agg #[.string (formW k), .bool (formF k).2.1, .bool (formF k).2.2]) W from by rw [hFA]; exact idx_forms hk W))
  clear hFA HF1
  have HX := Lib.hid hx
  have HS := Lib.hid hsl
  have HL := Lib.hid hl
  have HB2 := Lib.hid (HB1.out.trans (hb1.mono HB1.out.size))
  have HY1 := Lib.hid (HX1.out.next hb1)
  have HY2 := Lib.hid (HX2.out.next hb1)
  clear hx hsl hl hb1 HX1 HX2 HB1 HTR HSP hsz
  obtain ⟨n, hn⟩ : ∃ n, n = l.length := ⟨_, rfl⟩
  rw [← hn] at HS ⊢
  have HN := Lib.hid hn
  have hn1 : 1 ≤ n := by omega
  have hn2 : n ≤ 5000001 := by rw [Lib.size_eq] at hl2; have := trim_sz s.data.toList; rw [Lib.size_eq] at hs; simp at hl2; omega
  clear hn hl1 hl2
  have HW1 := Lib.hid (show w1 = w1 from rfl)
  have hbg : g ≠ w.heap.size + 1 := fun e => by
    obtain ⟨b, off, he, hc⟩ := HS.out.get (j := 0) (show (strs l)[0]? = some (.string l[0]) from by unfold strs; rw [List.getElem?_map, List.getElem?_eq_getElem (by have := HN.out; omega)]; rfl)
    cases he
    have h1 := HY2.out.three.1
    rw [e] at hc
    rw [hc] at h1
    cases h1
  have HBG := Lib.hid hbg
  clear hbg
  obtain ⟨b, hb⟩ : ∃ b, b = w.heap.size + 1 := ⟨_, rfl⟩
  rw [← hb] at HBG HY2 ⊢
  have HBE := Lib.hid hb
  clear hb
  go_upto_region 4 with ((with_reducible refine wp_load_row 131 (.global 0) ?_ 0 ?_ _ _ _ _ hblk Tryd.underlying131 ?_ hsz0 ?_); (focus rfl); (focus rfl); (focus rfl))
  obtain ⟨w0, ws, hws⟩ : ∃ w0 ws, l = w0 :: ws := by
    cases l with
    | nil => have h := HN.out; simp at h; omega
    | cons a b => exact ⟨a, b, rfl⟩
  subst hws
  have HC0 := Lib.hid (show ∀ W : World, W.heap[g]? = w1.heap[g]? → W.cell? ⟨g, 0, none⟩ = some (.string w0) from fun W hW => by
    obtain ⟨b, off, he, hc⟩ := HS.out.get (j := 0) (show (strs (w0 :: ws))[0]? = some (.string w0) from rfl)
    cases he
    exact (World.cell?_of_block (a := ⟨g, 0, none⟩) hW).trans hc)
  clear hblk
  have HGL := Lib.hid (show ∀ W : World, W.heap[g]? = w1.heap[g]? → g < W.heap.size from fun W hW => by
    have h := HC0.out W hW
    rcases Nat.lt_or_ge g W.heap.size with h1 | h1
    · exact h1
    · unfold World.cell? at h
      rw [Array.getElem?_eq_none h1] at h
      cases h)
  go_loopg [15] 8 (fun gk v15 wr => ∃ k : Nat, v15 = .int .i64 (k : Int) ∧ k + gk = 8 ∧ Hid (Bx wr b [.int .i64 (kindUp w0.data.toList k), .int .i64 0, .int .i64 0]) ∧ Hid (Bx wr w.heap.size [.int .i64 0, .int .i64 0, .int .i64 0]) ∧ Hid (wr.heap[g]? = w1.heap[g]?) ∧ Hid (Below w.heap.size w wr))
  case atStart => exact ⟨0, rfl, rfl, HY2, HY1, Lib.hid rfl, HB2⟩
  case round =>
    obtain ⟨k, rfl, hgk, HM, HR, HG, HB⟩ := hrel
    have HGK := Lib.hid hgk
    have hk8 : k ≤ 8 := by omega
    clear hgk
    by_cases hk : k < 8
    · have hix := HIX.out k hk
      have hc0 := HC0.out wr HG.out
      have hk0 : (0 : Int) ≤ (k : Int) := by omega
      have hkn : (k : Int) < 8 := by omega
      have hn0 : 0 < n := by omega
      have hn0i : (0 : Int) < (n : Int) := by omega
      have hd1 : decide ((k : Int) < 8) = true := by simp; omega
      have hd2 : decide (k < 8) = true := by simp; omega
      have HKU := Lib.hid (show kindUp w0.data.toList (k + 1) = if (formF k).1 = w0.data.toList then (k : Int) + 1 else kindUp w0.data.toList k from rfl)
      have hxl : (formW k).toList = (formF k).1 := by rw [ByteArray.toList_eq]; simp [formW]
      have hx0 : w0.toList = w0.data.toList := ByteArray.toList_eq w0
      obtain ⟨w2, hw2⟩ : ∃ w2 : World, w2 = wr.alloc (.cells #[.string (formW k), .bool (formF k).2.1, .bool (formF k).2.2] 130) := ⟨_, rfl⟩
      have HM2 := Lib.hid (show Bx w2 b _ from hw2 ▸ HM.out.alloc _)
      have HR2 := Lib.hid (show Bx w2 w.heap.size _ from hw2 ▸ HR.out.alloc _)
      have HG2 := Lib.hid (show w2.heap[g]? = w1.heap[g]? from hw2 ▸ (Below.heap_alloc _ _ _ (HGL.out _ HG.out)).trans HG.out)
      have HB2 := Lib.hid (show Below w.heap.size w w2 from hw2 ▸ HB.out.alloc HB.out.size _)
      have HF2 := Lib.hid (show Bx w2 wr.heap.size [.string (formW k), .bool (formF k).2.1, .bool (formF k).2.2] from hw2 ▸ bx_new wr [.string (formW k), .bool (formF k).2.1, .bool (formF k).2.2] _)
      have hc2 := HC0.out w2 HG2.out
      have hf2 := HF2.out.three.1
      have hm2 := HM2.out.three.1
      have hmf : w2.frozen? ⟨b, 0, none⟩ = false := HM2.out.three.2.2.2.1
      by_cases he : (formF k).1 = w0.data.toList
      · have he1 : ((formW k).toList == w0.toList) = true := by rw [hxl, hx0, he]; simp
        rw [if_pos he] at HKU
        clear he hk8 hxl hx0
        go_upto_region 6 with fail
        rw [← hw2]
        clear hw2 hc0
        go_quiet (fail)
        go_wp2_with fail
        go_roundg (8 - (k + 1))
        case measure => have := HGK.out; omega
        case rel =>
          refine ⟨k + 1, by go_num, by omega, Lib.hid ?_, Lib.hid ?_, Lib.hid ?_, Lib.hid ?_⟩
          · rw [HKU.out]; exact HM2.out.setc 0 _
          · exact bx_oth HR2.out (by show w.heap.size ≠ b; rw [HBE.out]; omega) _
          · exact (Below.heap_setCell _ _ _ g HBG.out).trans HG2.out
          · exact (below_drewN HB2.out _).setCell (by show w.heap.size ≤ b; rw [HBE.out]; omega) _
      · have he1 : ((formW k).toList == w0.toList) = false := by rw [hxl, hx0, beq_eq_false_iff_ne]; exact he
        rw [if_neg he] at HKU
        clear he hk8 hxl hx0
        go_upto_region 6 with fail
        rw [← hw2]
        clear hw2 hc0
        go_quiet (fail)
        go_wp2_with fail
        go_roundg (8 - (k + 1))
        case measure => have := HGK.out; omega
        case rel => exact ⟨k + 1, by go_num, by omega, by rw [HKU.out]; exact HM2, HR2, HG2, Lib.hid (below_drewN HB2.out _)⟩
    · obtain rfl : k = 8 := by omega
      have hd1 : decide ((8 : Int) < 8) = false := by decide
      clear hk hk8 HGK HC0 HIX hsz0
      have HMV := Lib.hid (show moveM s.data.toList = (kindUp w0.data.toList 8, numsUp (ws.map (·.data.toList)) ws.length) from by
        have h := HL.out
        unfold moveM
        have h2 : Lib.split (Lib.trimSuffix s.data.toList [10]) [32] = (w0 :: ws).map (·.data.toList) := by rw [h]
        rw [h2, List.map_cons]
        show (kindUp w0.data.toList 8, numsUp (ws.map (·.data.toList)) (ws.map (·.data.toList)).length) = _
        rw [List.length_map])
      have HCJ := Lib.hid (show ∀ W : World, W.heap[g]? = w1.heap[g]? → ∀ j (hj : j < ws.length), W.cell? ⟨g, 1 + j, none⟩ = some (.string ws[j]) from fun W hW j hj => by
        obtain ⟨b, off, he, hc⟩ := HS.out.get (j := 1 + j) (show (strs (w0 :: ws))[1 + j]? = some (.string ws[j]) from by unfold strs; rw [List.map_cons, Nat.add_comm 1 j, List.getElem?_cons_succ, List.getElem?_map, List.getElem?_eq_getElem hj]; rfl)
        cases he
        rw [Nat.zero_add] at hc
        exact (World.cell?_of_block (a := ⟨g, 1 + j, none⟩) hW).trans hc)
      obtain ⟨m, hm⟩ : ∃ m, m = ws.length := ⟨_, rfl⟩
      have hnm : n = m + 1 := by rw [HN.out, hm]; rfl
      have HX9 := Lib.hid (show ∀ x ∈ ws, x.size ≤ 5000000 from fun x hx => by have := HX.out x (by simp [hx]); have h2 := trim_size s; omega)
      rw [← hm] at HMV
      have HMM := Lib.hid hm
      have hm2 : m ≤ 5000000 := by omega
      clear hm HX HN HL HS hn1 hn2
      subst hnm
      generalize hKU : kindUp w0.data.toList 8 = ku at HMV HM
      have hku : -9223372036854775808 ≤ ku ∧ ku ≤ 9223372036854775807 := by have := kindUp_bd w0.data.toList 8; rw [hKU] at this; omega
      clear hKU
      obtain ⟨wo, rfl⟩ : ∃ wo : World, wo = wr := ⟨_, rfl⟩
      obtain ⟨hm0, hm1, hm3, hmf0, hmf1, hmf2⟩ := HM.out.three
      obtain ⟨hr0, hr1, hr3, hrf0, hrf1, hrf2⟩ := HR.out.three
      have hbw : b ≠ w.heap.size := by rw [HBE.out]; omega
      by_cases h0 : m = 0
      · subst h0
        go_wp2_with fail
        go_loopg [32] 0 (fun gk v32 wr => v32 = .int .i64 0 ∧ gk = 0 ∧ wo = wr)
        case atStart => exact ⟨rfl, rfl, rfl⟩
        case round =>
          obtain ⟨rfl, rfl, rfl⟩ := hrel
          go_wp2_with fail
          have hE := (((HR.out.setc 0 (.int .i64 ku)).setc 1 (.int .i64 0)).setc 2 (.int .i64 0))
          obtain ⟨te, hE⟩ := hE
          exact bodyPost_ret (v := .agg #[.int .i64 ku, .int .i64 0, .int .i64 0]) (results_cell_row (t := te) (fr := (0, 0)) rfl _ _ w.heap.size _ _ rfl hE Tryd.underlying37 rfl (by kernel_rfl)) rfl ⟨by rw [HMV.out]; rfl, ((HB.out.setCell (p := ⟨w.heap.size, 0, none⟩) (Nat.le_refl _) _).setCell (p := ⟨w.heap.size, 1, none⟩) (Nat.le_refl _) _).setCell (p := ⟨w.heap.size, 2, none⟩) (Nat.le_refl _) _⟩
      · have hm0' : 0 < m := by omega
        have hm0i : (0 : Int) < (m : Int) := by omega
        clear h0
        go_wp2_with fail
        clear hm0 hm1 hm3 hmf0 hmf1 hmf2 hr0 hr1 hr3 hrf0 hrf1 hrf2
        go_loopg [32] m (fun gk v32 wr => ∃ j : Nat, v32 = .int .i64 (j : Int) ∧ j + gk = m ∧ Hid (Bx wr b [.int .i64 ku, .int .i64 (numsUp (ws.map (·.data.toList)) j).1, .int .i64 (numsUp (ws.map (·.data.toList)) j).2]) ∧ Hid (Bx wr w.heap.size [.int .i64 0, .int .i64 0, .int .i64 0]) ∧ Hid (wr.heap[g]? = w1.heap[g]?) ∧ Hid (Below w.heap.size w wr))
        case atStart => exact ⟨0, rfl, by omega, HM, HR, HG, HB⟩
        case round =>
          clear HM HR HG HB
          obtain ⟨j, rfl, hgk, HM, HR, HG, HB⟩ := hrel
          have HGK := Lib.hid hgk
          have hj : j ≤ m := by omega
          clear hgk
          by_cases hlt : j < m
          · have hjl : j < ws.length := by have := HMM.out; omega
            have hcj := HCJ.out wr HG.out j hjl
            have HAT := Lib.hid (atoi_val ws[j] (by have := HX9.out _ (List.getElem_mem hjl); omega) wr (HT.out.later HB.out))
            have HNU := Lib.hid (show numsUp (ws.map (·.data.toList)) (j + 1) = if j = 0 then (atV ws[j].data.toList, (numsUp (ws.map (·.data.toList)) j).2) else ((numsUp (ws.map (·.data.toList)) j).1, atV ws[j].data.toList) from by
              have h : (ws.map (·.data.toList)).getD j [] = ws[j].data.toList := by rw [List.getD_eq_getElem?_getD, List.getElem?_map, List.getElem?_eq_getElem hjl]; rfl
              rw [← h]; rfl)
            have hav := atV_bd ws[j].data.toList
            generalize ws[j] = x at *
            generalize atV x.data.toList = av at *
            have hj0 : (0 : Int) ≤ (j : Int) := by omega
            have hjm : (j : Int) < (m : Int) := by omega
            have hd1 : decide ((j : Int) < (m : Int)) = true := by simp; omega
            have hd2 : decide (j < m) = true := by simp; omega
            have HLT := Lib.hid hlt
            clear hlt hjl hj
            go_wp2_with fail
            refine HAT.out.mono ?_; rintro e w2 ⟨⟨ev, rfl⟩, hb2⟩
            have HM2 := Lib.hid (HM.out.next hb2)
            have HR2 := Lib.hid (HR.out.next hb2)
            have HG2 := Lib.hid (show w2.heap[g]? = w1.heap[g]? from (hb2.block g (HGL.out _ HG.out)).trans HG.out)
            have HB2 := Lib.hid (HB.out.trans (hb2.mono HB.out.size))
            obtain ⟨hm0, hm1, hm3, hmf0, hmf1, hmf2⟩ := HM2.out.three
            clear hb2 HM HR HG HB HAT hcj
            by_cases h00 : j = 0
            · subst h00
              rw [if_pos rfl] at HNU
              go_wp2_with fail
              go_roundg (m - 1)
              case measure => have := HGK.out; have := HLT.out; omega
              case rel =>
                refine ⟨1, by go_num, by have := HLT.out; omega, Lib.hid ?_, Lib.hid ?_, Lib.hid ?_, Lib.hid ?_⟩
                · rw [HNU.out]; exact HM2.out.setc 1 _
                · exact bx_oth HR2.out (by show w.heap.size ≠ b; rw [HBE.out]; omega) _
                · exact (Below.heap_setCell _ _ _ g HBG.out).trans HG2.out
                · exact HB2.out.setCell (by show w.heap.size ≤ b; rw [HBE.out]; omega) _
            · rw [if_neg h00] at HNU
              have he1 : ((j : Int) == 0) = false := by simp; omega
              have he2 : decide ((j : Int) = 0) = false := by simp; omega
              clear h00
              go_wp2_with fail
              go_roundg (m - (j + 1))
              case measure => have := HGK.out; have := HLT.out; omega
              case rel =>
                refine ⟨j + 1, by go_num, by have := HLT.out; omega, Lib.hid ?_, Lib.hid ?_, Lib.hid ?_, Lib.hid ?_⟩
                · rw [HNU.out]; exact HM2.out.setc 2 _
                · exact bx_oth HR2.out (by show w.heap.size ≠ b; rw [HBE.out]; omega) _
                · exact (Below.heap_setCell _ _ _ g HBG.out).trans HG2.out
                · exact HB2.out.setCell (by show w.heap.size ≤ b; rw [HBE.out]; omega) _
          · obtain rfl : j = m := by omega
            have hd1 : decide ((j : Int) < (j : Int)) = false := by simp
            have hd2 : decide (j < j) = false := by simp
            obtain ⟨hm0, hm1, hm3, hmf0, hmf1, hmf2⟩ := HM.out.three
            obtain ⟨hr0, hr1, hr3, hrf0, hrf1, hrf2⟩ := HR.out.three
            clear hlt
            go_wp2_with fail
            have hE := (((HR.out.setc 0 (.int .i64 ku)).setc 1 (.int .i64 (numsUp (ws.map (fun x : ByteArray => x.data.toList)) j).1)).setc 2 (.int .i64 (numsUp (ws.map (fun x : ByteArray => x.data.toList)) j).2))
            obtain ⟨te, hE⟩ := hE
            exact bodyPost_ret (v := .agg #[.int .i64 ku, .int .i64 (numsUp (ws.map (fun x : ByteArray => x.data.toList)) j).1, .int .i64 (numsUp (ws.map (fun x : ByteArray => x.data.toList)) j).2]) (results_cell_row (t := te) (fr := (0, 0)) rfl _ _ w.heap.size _ _ rfl hE Tryd.underlying37 rfl (by kernel_rfl)) rfl ⟨by rw [HMV.out], ((HB.out.setCell (p := ⟨w.heap.size, 0, none⟩) (Nat.le_refl _) _).setCell (p := ⟨w.heap.size, 1, none⟩) (Nat.le_refl _) _).setCell (p := ⟨w.heap.size, 2, none⟩) (Nat.le_refl _) _⟩
end Go.Proofs.YtmdbcknlipahgaaDoor
