/- The walk of the law LinkEpoch. -/
import Derived.Test.YtmadpjmlcooinaaLinkF
import Derived.Test.YtmadpjmlcooinaaTake
import Derived.Deep.RegionHeld3
import Derived.Deep.DeepCutAuto
import Derived.Deep.LoopGhost
import Derived.IntWalk
namespace Go.Proofs.Ytmadpjmlcooinaa
open Go.RowKit
theorem dueF_at : ∀ (r : List Ml) (b i : Nat) (q : Nat × Ml), (dueF b r)[i]? = some q → q.1 = b + i := by
  intro r
  induction r with
  | nil => intro b i q h; simp [dueF] at h
  | cons a r ih =>
    intro b i q h
    cases i with
    | zero => simp [dueF] at h; rw [← h]; rfl
    | succ i =>
      have := ih (b + 1) i q (by simpa [dueF] using h)
      omega
theorem hear_ab (a b no : Nat) (m : Ml) (ha : a ≤ 1000) (hb : b ≤ 1000) : ∃ (x0 x1 k0 k1 er : Int) (len : Nat), (∀ W, Calls Try.prog 21 #[.agg #[.int .i64 (b : Int), .int .i64 0], .agg #[.int .i64 (a : Int), .int .i64 (no : Int), .int .i64 (m.1 : Int), .int .i64 (m.2 : Int)]] W fun e w' => ∃ p c, e = .returned (.tuple #[.agg #[.int .i64 x0, .int .i64 x1], .slice p len c, .agg #[.int .i64 k0, .int .i64 k1], .int .i64 er]) ∧ Below W.heap.size W w') ∧ (a = b → er = 0 ∧ len = hrN 0 no) ∧ (a ≠ b → er = 11 ∧ len = 0 ∧ k1 = 0) := by
  by_cases h : a = b
  · subst h
    refine ⟨a, hrW 0 no, a, hrW 0 no, 0, hrN 0 no, fun W => ?_, fun _ => ⟨rfl, rfl⟩, fun h => absurd rfl h⟩
    refine (hear_any a 0 no m W (by omega) (by omega)).mono ?_
    rintro e w' ⟨p, c, rfl, _, hb⟩
    exact ⟨p, c, rfl, hb⟩
  · refine ⟨0, 0, 0, 0, 11, 0, fun W => ?_, fun h' => absurd h' h, fun _ => ⟨rfl, rfl, rfl⟩⟩
    refine (hear_epoch b 0 a no m W (by omega) (by omega) h).mono ?_
    rintro e w' ⟨rfl, hb⟩
    exact ⟨none, 0, rfl, hb⟩
set_option maxHeartbeats 8000000 in
set_option maxRecDepth 100000 in
theorem linkEpoch_walk (w : World) (v1 : Value) (l1 : List (List Int)) (h1 : IsR 2 w v1 l1) (x : Int) (hx0 : -9223372036854775808 ≤ x) (hx1 : x ≤ 9223372036854775807) (y : Int) (hy0 : -9223372036854775808 ≤ y) (hy1 : y ≤ 9223372036854775807) :
    Calls Try.prog 5 #[v1, .int .i64 x, .int .i64 y] w fun e w' => e = .returned (.bool true) ∧ Below w.heap.size w w' := by
  obtain ⟨p1, c1, rfl⟩ := h1.val
  have HL1 := Lib.hid h1
  clear h1
  go_enter Try.func5, Try.ntmps5
  go_wp2_with fail
  refine (picked_i x 100 100 _ rfl hx0 hx1 (by omega) (by omega)).mono ?_; rintro e w' ⟨rfl, rfl⟩
  have ha := pickN_lt x (m := 100) (by omega)
  generalize pickN x 100 = a at *
  go_wp2_with fail
  refine (picked_i y 100 100 _ rfl hy0 hy1 (by omega) (by omega)).mono ?_; rintro e w' ⟨rfl, rfl⟩
  have hb := pickN_lt y (m := 100) (by omega)
  generalize pickN y 100 = b at *
  clear hx0 hx1 hy0 hy1
  have HOa := Lib.hid (fun W => open_ok a W (by omega))
  have HOb := Lib.hid (fun W => open_ok b W (by omega))
  unfold sndV rcvV at HOa HOb
  rw [show ((0 : Nat) : Int) = 0 from rfl] at HOa HOb
  go_wp2_with fail
  refine (HOa.out _).mono ?_; rintro e w1 ⟨rfl, hb1⟩
  have Y9 := (bx_new w1 [.int .i64 (a : Int), .int .i64 0, .slice none 0 0] 27).alloc (.cells #[.int .i64 (a : Int), .int .i64 0] 34)
  have hW1 := (hb1.alloc hb1.size (.cells #[.int .i64 (a : Int), .int .i64 0, .slice none 0 0] 27)).alloc (by simp; have := hb1.size; omega) (.cells #[.int .i64 (a : Int), .int .i64 0] 34)
  go_wp2_with fail
  refine (HOb.out _).mono ?_; rintro e w2 ⟨rfl, hb2⟩
  have Y9' := ((Y9.later hb2 Y9.lt).alloc (.cells #[.int .i64 (b : Int), .int .i64 0, .slice none 0 0] 27)).alloc (.cells #[.int .i64 (b : Int), .int .i64 0] 34)
  have Y13 := bx_fresh (w2.alloc (.cells #[.int .i64 (b : Int), .int .i64 0, .slice none 0 0] 27)) (w2.heap.size + 1) #[.int .i64 (b : Int), .int .i64 0] 34 (by simp)
  have hb2' := hW1.trans (hb2.mono (by simp; have := hb1.size; omega))
  have hW2 := (hb2'.alloc hb2'.size (.cells #[.int .i64 (b : Int), .int .i64 0, .slice none 0 0] 27)).alloc (by simp; have := hb2'.size; omega) (.cells #[.int .i64 (b : Int), .int .i64 0] 34)
  go_wp2_with fail
  generalize hWe : ((w2.alloc (.cells #[.int .i64 (b : Int), .int .i64 0, .slice none 0 0] 27)).alloc (.cells #[.int .i64 (b : Int), .int .i64 0] 34)) = W at *
  have hg9W : w1.heap.size < W.heap.size := Y9'.lt
  have hg13W : w2.heap.size + 1 < W.heap.size := Y13.lt
  have hg9w : w.heap.size ≤ w1.heap.size := hb1.size
  have hg13w : w.heap.size ≤ w2.heap.size := hb2'.size
  have hg913 : w1.heap.size < w2.heap.size + 1 := by have := hb2.size; simp at this; omega
  generalize w1.heap.size = g9 at *
  generalize w2.heap.size + 1 = g13 at *
  clear hWe HOa HOb hW1 hb1 hb2 hb2' Y9
  refine (posts_any p1 c1 _ l1 5 W (HL1.out.later hW2) (by omega)).mono ?_; rintro e w3 ⟨q1, d1, rfl, ho1, hb3⟩
  have hpl : (postsL l1 5).length ≤ 5 := by unfold postsL; rw [List.length_map]; exact List.length_take_le _ _
  generalize postsL l1 5 = l at *
  have X9 := Y9'.later hb3 hg9W
  have X13 := Y13.later hb3 hg13W
  have hWB := hb3.size
  have hbw := hW2.trans (hb3.mono hW2.size)
  clear Y9' Y13 hW2 hb3
  generalize W.heap.size = B at *
  obtain ⟨n, hn⟩ : ∃ n, n = l.length := ⟨_, rfl⟩
  rw [← hn] at ho1 hpl ⊢
  have HLN := Lib.hid hn
  clear hn
  have HSE := Lib.hid (fun (W : World) (k c : Nat) (p : Option Addr) (hk : k < 5000) (h : Sl W 2 (.slice p k c) k (mcs (l.take k))) (mm : Ml) => send_ok a k c p (l.take k) mm W (by omega) hk h)
  unfold sndV mlV at HSE
  rw [show ((0 : Nat) : Int) = 0 from rfl] at HSE
  go_wp2_with fail
  go_loopg [16] n (fun gk v16 wr => ∃ (k : Nat) (pl : Option Addr) (cl : Nat), v16 = .int .i64 (k : Int) ∧ k + gk = n ∧ Bx wr g9 [.int .i64 (a : Int), .int .i64 0, .slice pl k cl] ∧ Bx wr g13 [.int .i64 (b : Int), .int .i64 0] ∧ wr.ownsRow B 41 2 (.slice q1 n d1) n (mcs l) ∧ wr.ownsRow B 41 2 (.slice pl k cl) k (mcs (l.take k)) ∧ Below w.heap.size w wr ∧ B ≤ wr.heap.size)
  case atStart => exact ⟨0, none, 0, rfl, by omega, X9, X13, ho1, World.ownsRow_nil _ _ _ _, hbw, hWB⟩
  case round =>
    obtain ⟨k, pl, cl, rfl, hgk, Y9, Y13, hol, hlo, hbr, hBr⟩ := hrel
    clear X9 X13 ho1 hbw hWB
    have hk : k ≤ n := by omega
    have HGK := Lib.hid hgk
    clear hgk
    by_cases hlt : k < n
    · have hkl : k < l.length := by have := HLN.out; omega
      have hTk := Lib.hid (List.take_succ_eq_append_getElem hkl)
      obtain ⟨hg0, hg1⟩ := mcs_get hkl
      obtain ⟨bb, off, rfl, hc0⟩ := (Sl.of_own hol).get hg0
      obtain ⟨b', off', hbe, hc1⟩ := (Sl.of_own hol).get hg1
      cases hbe
      have hbb : bb < wr.heap.size := World.block_lt_of_cell? wr _ hc0
      rw [← Nat.add_assoc] at hc1
      generalize l[k] = mm at hTk hc0 hc1
      obtain ⟨ta, va⟩ := mm
      dsimp only at hc0 hc1
      clear hg0 hg1
      obtain ⟨hR0, hR1, hR2, hF0, hF1, hF2⟩ := Y9.three
      have HSK := Lib.hid (fun (W : World) (hb : Below wr.heap.size wr W) => HSE.out W k cl pl (by omega) ((Sl.of_own hlo).later hb) (ta, va))
      have HO := Lib.hid hol
      have HB9 := Lib.hid Y9
      have HB13 := Lib.hid Y13
      clear hol Y9 Y13
      have h9 : g9 < wr.heap.size := by omega
      have hd1 : decide ((k : Int) < (n : Int)) = true := by simp <;> omega
      have hd2 : decide (k < n) = true := by simp <;> omega
      have hn1 : ¬ g9 = wr.heap.size := by omega
      have hn2 : ¬ wr.heap.size = g9 := by omega
      have hn3 : ¬ bb = wr.heap.size := by omega
      have hn4 : ¬ wr.heap.size = bb := by omega
      have hk0 : (0 : Int) ≤ (k : Int) := by omega
      have hkn : (k : Int) < (n : Int) := by omega
      go_upto_region 9 with fail
      go_cut [17, 18] (fun s17 s18 wx => ∃ (g17 : Nat) (p2 : Option Addr) (c2 : Nat), s17 = .pointer (some ⟨g17, 0, none⟩) ∧ s18 = .int .i64 0 ∧ Bx wx g17 [.int .i64 (a : Int), .int .i64 0, .slice p2 (k + 1) c2] ∧ wx.ownsRow wr.heap.size 41 2 (.slice p2 (k + 1) c2) (k + 1) (mcs (l.take k ++ [(ta, va)])) ∧ Below wr.heap.size wr wx ∧ wr.heap.size ≤ g17)
      case first =>
        go_region_held3 (fun w' => w'.cell? ⟨g9, 0, none⟩ = some (Value.int .i64 (a : Int)) ∧ w'.cell? ⟨g9, 1, none⟩ = some (Value.int .i64 0) ∧ w'.cell? ⟨g9, 2, none⟩ = some (Value.slice pl k cl) ∧ w'.cell? ⟨bb, off + k * 2, none⟩ = some (Value.int .i64 (ta : Int)) ∧ w'.cell? ⟨bb, off + k * 2 + 1, none⟩ = some (Value.int .i64 (va : Int)))
          (first | (exact ⟨hy0, hy1, hy2, hy3, hy4⟩) | go_keep)
          (first
            | (go_at_call 19; refine (HSK.out _ (Below.drew (Below.refl _ _))).mono ?_; rintro e w2 ⟨p2, c2, rfl, hown', hb2⟩; have hcz := box_kept0 hb2; have hs2 := hcz.size; obtain ⟨hy0, hy1, hy2, hv0, hv1, hv2⟩ := (HB9.out.later hcz h9).three; have hy3 := (hcz.cell (p := ⟨bb, off + k * 2, none⟩) hbb).trans hc0; have hy4 := (hcz.cell (p := ⟨bb, off + k * 2 + 1, none⟩) hbb).trans hc1; have hm1 : ¬ bb = w2.heap.size := (by omega); have hm2 : ¬ w2.heap.size = bb := (by omega); have hm3 : ¬ g9 = w2.heap.size := (by omega); have hm4 : ¬ w2.heap.size = g9 := (by omega))
            | (go_at_call 19; refine (HSK.out _ (Below.drew ((Below.refl _ _).alloc (Nat.le_refl _) (.cells #[.int .i64 0, .int .i64 0, .slice none 0 0] 27)))).mono ?_; rintro e w2 ⟨p2, c2, rfl, hown', hb2⟩; obtain ⟨hcz, hZ, hsz⟩ := box_kept1 hb2; have hs2 := hcz.size; obtain ⟨hy0, hy1, hy2, hv0, hv1, hv2⟩ := (HB9.out.later hcz h9).three; have hy3 := (hcz.cell (p := ⟨bb, off + k * 2, none⟩) hbb).trans hc0; have hy4 := (hcz.cell (p := ⟨bb, off + k * 2 + 1, none⟩) hbb).trans hc1; obtain ⟨hz0, hz1, hz2, hj0, hj1, hj2⟩ := hZ.three))
        · go_wp2_with fail
          go_meet
          case rel => exact ⟨_, p2, c2, rfl, rfl, bx_new w2 [_, _, _] _, own_mono (hown'.alloc _) (by simp), hcz.alloc hs2 _, hs2⟩
        · go_wp2_with fail
          go_meet
          case rel => exact ⟨_, p2, c2, rfl, rfl, bx_store3 hZ _ _ _, own_mono (own_store3 hown' (by simp) _ _ _) (by simp), below_store3 hcz (Nat.le_refl _) _ _ _, Nat.le_refl _⟩
      case rest =>
        obtain ⟨g17, p2, c2, rfl, rfl, hB17, hown2, hcw, hg17⟩ := hcut
        clear hR0 hR1 hR2 hF0 hF1 hF2 hc0 hc1
        obtain ⟨hR0, hR1, hR2, hF0, hF1, hF2⟩ := (HB9.out.later hcw h9).three
        obtain ⟨hX0, hX1, hX2, _, _, _⟩ := hB17.three
        have hne : ¬ g17 = g9 := by omega
        have hne' : ¬ g9 = g17 := by omega
        go_wp2_with fail
        go_roundg (n - (k + 1))
        case measure => have := HGK.out; omega
        case rel => exact ⟨k + 1, p2, c2, by go_num, by omega, bx_store3 (HB9.out.later hcw h9) _ _ _, bx_far3 (HB13.out.later hcw HB13.out.lt) (by omega) _ _ _, own_store3 (own_later HO.out hcw) (by omega) _ _ _, by rw [hTk.out]; exact own_mono (own_store3 hown2 (by omega) _ _ _) hBr, below_store3 (hbr.trans (hcw.mono hbr.size)) (by omega) _ _ _, by simp only [size_setCell]; exact Nat.le_trans hBr hcw.size⟩
    · obtain rfl : k = n := by omega
      have hd1 : decide ((k : Int) < (k : Int)) = false := by simp
      have hd2 : decide (k < k) = false := by simp
      have hlk : l.take k = l := by rw [HLN.out]; exact List.take_length
      rw [hlk] at hlo
      have HDU := Lib.hid (due_ok a 0 k cl pl l wr (by omega) (by omega) (by omega) (Sl.of_own hlo))
      unfold sndV at HDU
      rw [show ((0 : Nat) : Int) = 0 from rfl] at HDU
      clear hlk HSE hlt
      obtain ⟨hR0, hR1, hR2, hF0, hF1, hF2⟩ := Y9.three
      have HB9 := Lib.hid Y9
      have HB13 := Lib.hid Y13
      have HO := Lib.hid hlo
      clear hol Y9 Y13 hlo
      have h9 : g9 < wr.heap.size := by omega
      have h13 : g13 < wr.heap.size := by omega
      go_upto_region 14 with (first | (go_at_call 20; refine HDU.out.mono ?_; rintro e w4 ⟨p4, c4, rfl, hown4, hb4⟩))
      have hmn : (dueF 0 (l.take (min k 4))).length = min k 4 := by rw [dueF_len, List.length_take]; have := HLN.out; omega
      have HMN := Lib.hid hmn
      have HD := Lib.hid (dueF_at (l.take (min k 4)) 0)
      clear hmn
      generalize dueF 0 (l.take (min k 4)) = pk at *
      have hmk : min k 4 ≤ 4 := Nat.min_le_right _ _
      have hmm : (k ≤ 4 ∧ min k 4 = k) ∨ (4 < k ∧ min k 4 = 4) := by omega
      generalize min k 4 = mn at *
      have HMM := Lib.hid hmm
      clear hmm
      obtain ⟨hX0, hX1, hX2, _, _, _⟩ := (HB9.out.later hb4 h9).three
      obtain ⟨hU0, hU1, _, _⟩ := (HB13.out.later hb4 h13).two
      go_cut [98] (fun s98 wx => s98 = .bool false ∧ w4 = wx)
      case first =>
        rcases HMM.out with ⟨h4, h5⟩ | ⟨h4, h5⟩
        · subst h5
          go_wp2_with fail
          go_meet
          case rel => exact ⟨rfl, rfl⟩
        · subst h5
          go_wp2_with fail
          go_meet
          case rel => exact ⟨rfl, rfl⟩
      case rest =>
        obtain ⟨rfl, rfl⟩ := hcut
        go_wp2_with fail
        have Z9 := HB9.out.later hb4 h9
        have Z13 := HB13.out.later hb4 h13
        have hbw4 := hbr.trans (hb4.mono hbr.size)
        have hB4 := Nat.le_trans hBr hb4.size
        have ho4 := own_mono (base' := B) hown4 hBr
        clear hown4 hR0 hR1 hR2 hF0 hF1 hF2 hX0 hX1 hX2 hU0 hU1
        go_loopg [21] mn (fun gk v21 wr' => ∃ i : Nat, v21 = .int .i64 (i : Int) ∧ i + gk = mn ∧ Bx wr' g9 [.int .i64 (a : Int), .int .i64 0, .slice pl k cl] ∧ Bx wr' g13 [.int .i64 (b : Int), .int .i64 0] ∧ wr'.ownsRow B 50 4 (.slice p4 mn c4) mn (pkc a pk) ∧ Below w.heap.size w wr' ∧ B ≤ wr'.heap.size)
        case atStart => exact ⟨0, rfl, by omega, Z9, Z13, ho4, hbw4, hB4⟩
        case round =>
          clear HDU HB9 HB13 HO Z9 Z13 hbw4 hB4 ho4 h9 h13 hb4 hbr hBr HMM HGK
          obtain ⟨i, rfl, hgk, Y9, Y13, ho4, hbr, hBr⟩ := hrel
          have hi : i ≤ mn := by omega
          have HGK := Lib.hid hgk
          clear hgk
          by_cases hlt : i < mn
          · have hil : i < pk.length := by have := HMN.out; omega
            obtain ⟨e0, e1, e2, e3⟩ := pkc_get (ep := a) hil
            have hno := HD.out i pk[i] (List.getElem?_eq_getElem hil)
            obtain ⟨bb, off, rfl, hc0⟩ := (Sl.of_own ho4).get e0
            obtain ⟨_, _, h1, hc1⟩ := (Sl.of_own ho4).get e1
            cases h1
            obtain ⟨_, _, h1, hc2⟩ := (Sl.of_own ho4).get e2
            cases h1
            obtain ⟨_, _, h1, hc3⟩ := (Sl.of_own ho4).get e3
            cases h1
            clear e0 e1 e2 e3
            rw [show off + (i * 4 + 1) = off + i * 4 + 1 from rfl] at hc1
            rw [show off + (i * 4 + 2) = off + i * 4 + 1 + 1 from rfl] at hc2
            rw [show off + (i * 4 + 3) = off + i * 4 + 1 + 1 + 1 from rfl] at hc3
            generalize pk[i] = q at hno hc0 hc1 hc2 hc3
            obtain ⟨no, tt, vv⟩ := q
            dsimp only at hno hc0 hc1 hc2 hc3
            have HNO := Lib.hid hno
            clear hno
            obtain ⟨x0, x1, k0, k1, er, len, hH, hEq, hNe⟩ := hear_ab a b no (tt, vv) (by omega) (by omega)
            have HH := Lib.hid hH
            dsimp only at HH
            have HEq := Lib.hid hEq
            have HNe := Lib.hid hNe
            have HB9 := Lib.hid Y9
            have HB13 := Lib.hid Y13
            have HO := Lib.hid ho4
            obtain ⟨hU0, hU1, hV0, hV1⟩ := Y13.two
            clear hH hEq hNe Y9 Y13 ho4
            have h9 : g9 < wr.heap.size := by omega
            have h13 : g13 < wr.heap.size := by omega
            have hbb : bb < wr.heap.size := World.block_lt_of_cell? wr _ hc0
            have hn1 : ¬ bb = wr.heap.size := by omega
            have hn2 : ¬ wr.heap.size = bb := by omega
            have hn3 : ¬ g13 = wr.heap.size := by omega
            have hn4 : ¬ wr.heap.size = g13 := by omega
            have hn5 : ¬ g13 = wr.heap.size + 1 := by omega
            have hn6 : ¬ wr.heap.size + 1 = g13 := by omega
            have hn7 : ¬ bb = wr.heap.size + 1 := by omega
            have hn8 : ¬ wr.heap.size + 1 = bb := by omega
            have hi0 : (0 : Int) ≤ (i : Int) := by omega
            have hin : (i : Int) < (mn : Int) := by omega
            have hd1 : decide ((i : Int) < (mn : Int)) = true := by simp; omega
            have hd2 : decide (i < mn) = true := by simp; omega
            go_upto_region 19 with fail
            go_cut [22, 23, 24, 25] (fun _ s23 s24 s25 wx => ∃ (g24 : Nat) (p2 : Option Addr) (c2 : Nat), s23 = .slice p2 len c2 ∧ s24 = .pointer (some ⟨g24, 0, none⟩) ∧ s25 = .int .i64 er ∧ Bx wx g24 [.int .i64 k0, .int .i64 k1] ∧ Below wr.heap.size wr wx ∧ wr.heap.size ≤ g24)
            case first => as_aux_lemma =>
              go_region_held3 (fun w' => w'.cell? ⟨g13, 0, none⟩ = some (Value.int .i64 (b : Int)) ∧ w'.cell? ⟨g13, 1, none⟩ = some (Value.int .i64 0) ∧ w'.cell? ⟨bb, off + i * 4, none⟩ = some (Value.int .i64 (a : Int)) ∧ w'.cell? ⟨bb, off + i * 4 + 1, none⟩ = some (Value.int .i64 (no : Int)) ∧ w'.cell? ⟨bb, off + i * 4 + 1 + 1, none⟩ = some (Value.int .i64 (tt : Int)) ∧ w'.cell? ⟨bb, off + i * 4 + 1 + 1 + 1, none⟩ = some (Value.int .i64 (vv : Int)))
                (first | (exact ⟨hy0, hy1, hy2, hy3, hy4, hy5⟩) | go_keep)
                (first
                  | (go_at_call 21; refine (HH.out (wr).drew).mono ?_; rintro e w2 ⟨p2, c2, rfl, hb2⟩; have hcz := box_kept0 hb2; have hs2 := hcz.size; obtain ⟨hy0, hy1, hv0, hv1⟩ := (HB13.out.later hcz h13).two; have hy2 := (hcz.cell (p := ⟨bb, off + i * 4, none⟩) hbb).trans hc0; have hy3 := (hcz.cell (p := ⟨bb, off + i * 4 + 1, none⟩) hbb).trans hc1; have hy4 := (hcz.cell (p := ⟨bb, off + i * 4 + 1 + 1, none⟩) hbb).trans hc2; have hy5 := (hcz.cell (p := ⟨bb, off + i * 4 + 1 + 1 + 1, none⟩) hbb).trans hc3; have hm1 : ¬ bb = w2.heap.size := (by omega); have hm2 : ¬ w2.heap.size = bb := (by omega); have hm3 : ¬ g13 = w2.heap.size := (by omega); have hm4 : ¬ w2.heap.size = g13 := (by omega))
                  | (go_at_call 21; refine (HH.out (wr.alloc (.cells #[.int .i64 0, .int .i64 0] 34)).drew).mono ?_; rintro e w2 ⟨p2, c2, rfl, hb2⟩; obtain ⟨hcz, hZ, hsz⟩ := box_kept1 hb2; have hs2 := hcz.size; obtain ⟨hy0, hy1, hv0, hv1⟩ := (HB13.out.later hcz h13).two; have hy2 := (hcz.cell (p := ⟨bb, off + i * 4, none⟩) hbb).trans hc0; have hy3 := (hcz.cell (p := ⟨bb, off + i * 4 + 1, none⟩) hbb).trans hc1; have hy4 := (hcz.cell (p := ⟨bb, off + i * 4 + 1 + 1, none⟩) hbb).trans hc2; have hy5 := (hcz.cell (p := ⟨bb, off + i * 4 + 1 + 1 + 1, none⟩) hbb).trans hc3; have hm1 : ¬ bb = w2.heap.size := (by omega); have hm2 : ¬ w2.heap.size = bb := (by omega); have hm3 : ¬ g13 = w2.heap.size := (by omega); have hm4 : ¬ w2.heap.size = g13 := (by omega); obtain ⟨hz0, hz1, hj0, hj1⟩ := (hZ.alloc (.cells #[.int .i64 0, .int .i64 0] 46)).two; have hm5 : ¬ wr.heap.size = w2.heap.size := (by omega); have hm6 : ¬ w2.heap.size = wr.heap.size := (by omega))
                  | (go_at_call 21; refine (HH.out (wr.alloc (.cells #[.int .i64 0, .int .i64 0] 46)).drew).mono ?_; rintro e w2 ⟨p2, c2, rfl, hb2⟩; obtain ⟨hcz, hZ, hsz⟩ := box_kept1 hb2; have hs2 := hcz.size; obtain ⟨hy0, hy1, hv0, hv1⟩ := (HB13.out.later hcz h13).two; have hy2 := (hcz.cell (p := ⟨bb, off + i * 4, none⟩) hbb).trans hc0; have hy3 := (hcz.cell (p := ⟨bb, off + i * 4 + 1, none⟩) hbb).trans hc1; have hy4 := (hcz.cell (p := ⟨bb, off + i * 4 + 1 + 1, none⟩) hbb).trans hc2; have hy5 := (hcz.cell (p := ⟨bb, off + i * 4 + 1 + 1 + 1, none⟩) hbb).trans hc3; have hm1 : ¬ bb = w2.heap.size := (by omega); have hm2 : ¬ w2.heap.size = bb := (by omega); have hm3 : ¬ g13 = w2.heap.size := (by omega); have hm4 : ¬ w2.heap.size = g13 := (by omega); obtain ⟨hz0, hz1, hj0, hj1⟩ := (hZ.alloc (.cells #[.int .i64 x0, .int .i64 x1] 34)).two; have hm5 : ¬ wr.heap.size = w2.heap.size := (by omega); have hm6 : ¬ w2.heap.size = wr.heap.size := (by omega))
                  | (go_at_call 21; refine (HH.out ((wr.alloc (.cells #[.int .i64 0, .int .i64 0] 34)).alloc (.cells #[.int .i64 0, .int .i64 0] 46)).drew).mono ?_; rintro e w2 ⟨p2, c2, rfl, hb2⟩; obtain ⟨hcz, hZ, hY, hsz⟩ := box_kept2 hb2; have hs2 := hcz.size; obtain ⟨hy0, hy1, hv0, hv1⟩ := (HB13.out.later hcz h13).two; have hy2 := (hcz.cell (p := ⟨bb, off + i * 4, none⟩) hbb).trans hc0; have hy3 := (hcz.cell (p := ⟨bb, off + i * 4 + 1, none⟩) hbb).trans hc1; have hy4 := (hcz.cell (p := ⟨bb, off + i * 4 + 1 + 1, none⟩) hbb).trans hc2; have hy5 := (hcz.cell (p := ⟨bb, off + i * 4 + 1 + 1 + 1, none⟩) hbb).trans hc3; have hm1 : ¬ bb = w2.heap.size := (by omega); have hm2 : ¬ w2.heap.size = bb := (by omega); have hm3 : ¬ g13 = w2.heap.size := (by omega); have hm4 : ¬ w2.heap.size = g13 := (by omega); obtain ⟨hz0, hz1, hj0, hj1⟩ := hZ.two; obtain ⟨hx0, hx1, hk0, hk1⟩ := hY.two)
                  | (go_at_call 21; refine (HH.out ((wr.alloc (.cells #[.int .i64 0, .int .i64 0] 46)).alloc (.cells #[.int .i64 0, .int .i64 0] 34)).drew).mono ?_; rintro e w2 ⟨p2, c2, rfl, hb2⟩; obtain ⟨hcz, hZ, hY, hsz⟩ := box_kept2 hb2; have hs2 := hcz.size; obtain ⟨hy0, hy1, hv0, hv1⟩ := (HB13.out.later hcz h13).two; have hy2 := (hcz.cell (p := ⟨bb, off + i * 4, none⟩) hbb).trans hc0; have hy3 := (hcz.cell (p := ⟨bb, off + i * 4 + 1, none⟩) hbb).trans hc1; have hy4 := (hcz.cell (p := ⟨bb, off + i * 4 + 1 + 1, none⟩) hbb).trans hc2; have hy5 := (hcz.cell (p := ⟨bb, off + i * 4 + 1 + 1 + 1, none⟩) hbb).trans hc3; have hm1 : ¬ bb = w2.heap.size := (by omega); have hm2 : ¬ w2.heap.size = bb := (by omega); have hm3 : ¬ g13 = w2.heap.size := (by omega); have hm4 : ¬ w2.heap.size = g13 := (by omega); obtain ⟨hz0, hz1, hj0, hj1⟩ := hZ.two; obtain ⟨hx0, hx1, hk0, hk1⟩ := hY.two))
              · go_wp2_with fail
                go_meet
                case rel => exact ⟨_, p2, c2, rfl, rfl, rfl, bx_fresh (w2.alloc _) _ #[_, _] _ (by simp), (hcz.alloc hs2 _).alloc (by simp; omega) _, by omega⟩
              · go_wp2_with fail
                go_meet
                case rel => exact ⟨_, p2, c2, rfl, rfl, rfl, (bx_new w2 [_, _] _).alloc _, (hcz.alloc hs2 _).alloc (by simp; omega) _, hs2⟩
              · go_wp2_with fail
                go_meet
                case rel => exact ⟨_, p2, c2, rfl, rfl, rfl, bx_store2 (bx_far2 (bx_new w2 [_, _] _) (by omega) _ _) _ _, below_store2 (below_store2 (hcz.alloc hs2 _) (Nat.le_refl _) _ _) hs2 _ _, hs2⟩
              · go_wp2_with fail
                go_meet
                case rel => exact ⟨_, p2, c2, rfl, rfl, rfl, bx_store2 (bx_far2 hY (by omega) _ _) _ _, below_store2 (below_store2 hcz (Nat.le_refl _) _ _) (by omega) _ _, by omega⟩
              · go_wp2_with fail
                go_meet
                case rel => exact ⟨_, p2, c2, rfl, rfl, rfl, bx_store2 (hZ.alloc _) _ _, below_store2 (hcz.alloc hs2 _) (Nat.le_refl _) _ _, Nat.le_refl _⟩
              · go_wp2_with fail
                go_meet
                case rel => exact ⟨_, p2, c2, rfl, rfl, rfl, bx_store2 (bx_far2 hZ (by omega) _ _) _ _, below_store2 (below_store2 hcz (by omega) _ _) (Nat.le_refl _) _ _, Nat.le_refl _⟩
            case rest => as_aux_lemma =>
              obtain ⟨g24, p2, c2, rfl, rfl, rfl, hB24, hcw, hg24⟩ := hcut
              have hy2 := (hcw.cell (p := ⟨bb, off + i * 4 + 1, none⟩) hbb).trans hc1
              clear hU0 hU1 hV0 hV1 hc0 hc1 hc2 hc3 HH
              obtain ⟨hU0, hU1, hV0, hV1⟩ := (HB13.out.later hcw h13).two
              obtain ⟨hX0, hX1, _, _⟩ := hB24.two
              have hend : ∀ W : World, Below wc.heap.size wc W → Hid (Bx W g9 [.int .i64 (a : Int), .int .i64 0, .slice pl k cl] ∧ Bx W g13 [.int .i64 (b : Int), .int .i64 0] ∧ W.ownsRow B 50 4 (.slice (some ⟨bb, off, none⟩) mn c4) mn (pkc a pk) ∧ Below w.heap.size w W ∧ B ≤ W.heap.size) := fun W hW =>
                let h := hcw.trans (hW.mono hcw.size)
                Lib.hid ⟨HB9.out.later h h9, HB13.out.later h h13, own_later HO.out h, hbr.trans (h.mono hbr.size), Nat.le_trans hBr h.size⟩
              have HEND := Lib.hid hend
              clear hend
              by_cases hab : a = b
              · obtain ⟨rfl, hlen⟩ := HEq.out hab
                subst hab
                rcases (show (len = 1 ∧ no = 0) ∨ (len = 0 ∧ no ≠ 0) by unfold hrN at hlen; split at hlen <;> omega) with ⟨rfl, hz⟩ | ⟨rfl, hz⟩
                all_goals
                  clear hlen
                · have hb0 : ((no : Int) == 0) = true := by simp; omega
                  clear hz
                  go_wp2_with fail
                  go_quiet (fail)
                  go_wp2_with fail
                  go_roundg (mn - (i + 1))
                  case measure => have := HGK.out; omega
                  case rel => exact ⟨i + 1, by go_num, by omega, (HEND.out _ (below_drewN (Below.refl _ wc) _)).out⟩
                · have hb0 : ((no : Int) == 0) = false := by simp; omega
                  clear hz
                  go_wp2_with fail
                  go_quiet (fail)
                  go_wp2_with fail
                  go_roundg (mn - (i + 1))
                  case measure => have := HGK.out; omega
                  case rel => exact ⟨i + 1, by go_num, by omega, (HEND.out _ (below_drewN (Below.refl _ wc) _)).out⟩
              · obtain ⟨rfl, rfl, rfl⟩ := HNe.out hab
                have hb0 : ((a : Int) == (b : Int)) = false := by simp; omega
                have hb1 : ((a : Int) != (b : Int)) = true := by simp; omega
                clear hab
                have HAC := Lib.hid (fun W => acked_epoch a 0 k cl b 1 pl W (by omega) (by omega) (by omega) (by intro h; rw [h] at hb0; simp at hb0))
                unfold sndV ackV at HAC
                rw [show ((0 : Nat) : Int) = 0 from rfl, show ((1 : Nat) : Int) = 1 from rfl] at HAC
                obtain ⟨hR0, hR1, hR2, _, _, _⟩ := (HB9.out.later hcw h9).three
                go_wp2_with fail
                go_quiet (fail)
                go_wp2_with (go_at_call 22; refine (HAC.out _).mono ?_; rintro e w5 ⟨rfl, hb5⟩)
                go_roundg (mn - (i + 1))
                case measure => have := HGK.out; omega
                case rel => exact ⟨i + 1, by go_num, by omega, (HEND.out _ (((below_drewN (Below.refl _ wc) _).trans hb5).alloc hb5.size _)).out⟩
          · have hd1 : decide ((i : Int) < (mn : Int)) = false := by simp; omega
            have hd2 : decide (i < mn) = false := by simp; omega
            go_wp2_with fail
            go_ret
            exact ⟨rfl, hbr⟩
end Go.Proofs.Ytmadpjmlcooinaa
