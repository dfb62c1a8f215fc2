/- The walk of pacelinekeep.lined. -/
import Derived.Test.YtmadpjmlcooinaaLHear
import Derived.Test.YtmadpjmlcooinaaLSpec
import Derived.Deep.RegionHeld3
import Derived.Deep.DeepCutAuto
import Derived.IntWalk
import Derived.Deep.LoopGhost
namespace Go.Proofs.Ytmadpjmlcooinaa
open Go.RowKit
set_option maxHeartbeats 16000000 in
set_option maxRecDepth 100000 in
theorem lined_ok (p q : Option Addr) (n c m d : Nat) (l : List Ml) (trips : List (List Int)) (more : Nat) (w : World) (hl : Sl w 2 (.slice p n c) n (mcs l)) (hl12 : n ≤ 12) (ht : IsR 2 w (.slice q m d) trips) (ht60 : m ≤ 60) (hmore : more ≤ 60) :
    Calls Try.prog 15 #[.slice p n c, .slice q m d, .int .i64 (more : Int)] w fun e w' => ∃ (s : LS) (p6 : Option Addr) (c6 : Nat) (pl : Option Addr) (cl : Nat), e = .returned (.tuple #[.slice p6 s.got.length c6, sndV 1 s.ba (.slice pl s.loads.length cl), .bool true]) ∧ LInv l s ∧ Prog l.length m (m + more) s ∧ w'.ownsRow w.heap.size 41 2 (.slice p6 s.got.length c6) s.got.length (mcs s.got) ∧ Below w.heap.size w w' := by
  obtain ⟨hmt, hmd, hd63⟩ := ht.lens
  obtain ⟨hn1, hc63, hll⟩ : n ≤ c ∧ c ≤ 9223372036854775807 ∧ n = l.length := by
    obtain ⟨p', c', hp, h1, h2, h3, _⟩ := hl
    cases hp
    rw [mcs_len] at h3
    exact ⟨h1, by unfold maxLen at h2; omega, by omega⟩
  have HL := Lib.hid hl
  have HT := Lib.hid ht
  have HLN := Lib.hid hll
  have HMT := Lib.hid hmt
  clear hl ht hll hmt
  have HO := Lib.hid (fun W => open_ok 1 W (by omega))
  unfold sndV rcvV at HO
  rw [show ((1 : Nat) : Int) = 1 from rfl, show ((0 : Nat) : Int) = 0 from rfl] at HO
  go_enter Try.func15, Try.ntmps15
  have X0 := bx_new w [.int .i64 0, .int .i64 0, .slice none 0 0] 27
  have hW0 := (Below.refl w.heap.size w).alloc (Nat.le_refl _) (.cells #[.int .i64 0, .int .i64 0, .slice none 0 0] 27)
  go_wp2_with (go_at_call 18; refine (HO.out _).mono ?_; rintro e w1 ⟨rfl, hb1⟩; replace X0 := X0.later hb1 (by simp); have hg7 := X0.lt; replace hW0 := hW0.trans (hb1.mono (by simp)); clear hb1)
  generalize hg9 : w1.heap.size = g9 at *
  generalize hg10 : g9 + 1 = g10 at *
  have X9 := (bx_fresh w1 g9 #[.int .i64 1, .int .i64 0, .slice none 0 0] 27 hg9.symm).alloc (.cells #[.int .i64 1, .int .i64 0] 34)
  have X10 := bx_fresh (w1.alloc (.cells #[.int .i64 1, .int .i64 0, .slice none 0 0] 27)) g10 #[.int .i64 1, .int .i64 0] 34 (by simp; omega)
  have X7 := (X0.alloc (.cells #[.int .i64 1, .int .i64 0, .slice none 0 0] 27)).alloc (.cells #[.int .i64 1, .int .i64 0] 34)
  have hWW := (hW0.alloc (by omega) (.cells #[.int .i64 1, .int .i64 0, .slice none 0 0] 27)).alloc (by simp; omega) (.cells #[.int .i64 1, .int .i64 0] 34)
  have hBB : g10 + 1 ≤ ((w1.alloc (.cells #[.int .i64 1, .int .i64 0, .slice none 0 0] 27)).alloc (.cells #[.int .i64 1, .int .i64 0] 34)).heap.size := by simp; omega
  generalize ((w1.alloc (.cells #[.int .i64 1, .int .i64 0, .slice none 0 0] 27)).alloc (.cells #[.int .i64 1, .int .i64 0] 34)) = W at *
  have hg910 : g9 < g10 := by omega
  have hdw : Below g9 w1 W ∨ True := .inr trivial
  clear hg9 hg10 X0 hW0 hdw HO
  dsimp only at X9 X10
  have HSE := Lib.hid (fun (W : World) (k c : Nat) (p : Option Addr) (hk : k < 5000) (h : Sl W 2 (.slice p k c) k (mcs (l.take k))) (mm : Ml) => send_ok 1 k c p (l.take k) mm W (by omega) hk h)
  unfold sndV mlV at HSE
  rw [show ((1 : Nat) : Int) = 1 from rfl, show ((0 : Nat) : Int) = 0 from rfl] at HSE
  go_loopw [12] (fun i wr => ∃ (k : Nat) (pl : Option Addr) (cl : Nat), i = .int .i64 (k : Int) ∧ k ≤ n ∧ Bx wr w.heap.size [.int .i64 0, .int .i64 0, .slice none 0 0] ∧ Bx wr g9 [.int .i64 1, .int .i64 0, .slice pl k cl] ∧ Bx wr g10 [.int .i64 1, .int .i64 0] ∧ wr.ownsRow (g10 + 1) 41 2 (.slice pl k cl) k (mcs (l.take k)) ∧ Below w.heap.size w wr ∧ g10 + 1 ≤ wr.heap.size) (fun i _ => 2000 - (intOf i).toNat)
  case atStart => exact ⟨0, none, 0, rfl, by omega, X7, X9, X10, World.ownsRow_nil _ _ _ _, hWW, hBB⟩
  case round =>
    obtain ⟨k, pl, cl, rfl, hk, Y7, Y9, Y10, hlo, hbw, hBr⟩ := hrel
    clear X7 X9 X10 hWW hBB
    by_cases hlt : k < n
    · as_aux_lemma =>
      have hkl : k < l.length := by have := HLN.out; omega
      have hTk := Lib.hid (List.take_succ_eq_append_getElem hkl)
      obtain ⟨hg0, hg1⟩ := mcs_get hkl
      obtain ⟨b, off, rfl, hcw0⟩ := HL.out.get hg0
      obtain ⟨b', off', hbe, hcw1⟩ := HL.out.get hg1
      cases hbe
      have hbb : b < w.heap.size := World.block_lt_of_cell? w _ hcw0
      rw [← Nat.add_assoc] at hcw1
      generalize l[k] = mm at hTk hcw0 hcw1
      obtain ⟨ta, va⟩ := mm
      dsimp only at hcw0 hcw1
      clear hg0 hg1
      have HC := Lib.hid (fun (W : World) (h : Below w.heap.size w W) => (show W.cell? ⟨b, off + k * 2, none⟩ = some _ ∧ W.cell? ⟨b, off + k * 2 + 1, none⟩ = some _ from ⟨(h.cell (p := ⟨b, off + k * 2, none⟩) hbb).trans hcw0, (h.cell (p := ⟨b, off + k * 2 + 1, none⟩) hbb).trans hcw1⟩))
      obtain ⟨hc0, hc1⟩ := HC.out wr hbw
      clear hcw0 hcw1
      obtain ⟨hR0, hR1, hR2, hF0, hF1, hF2⟩ := Y9.three
      have HSK := Lib.hid (fun (W : World) (hb : Below wr.heap.size wr W) => HSE.out W k cl pl (by omega) ((Sl.of_own hlo).later hb) (ta, va))
      have hd1 : decide ((k : Int) < (n : Int)) = true := by simp <;> omega
      have hd2 : decide (k < n) = true := by simp <;> omega
      have hn1 : ¬ g9 = wr.heap.size := by omega
      have hn2 : ¬ wr.heap.size = g9 := by omega
      have hn3 : ¬ b = wr.heap.size := by have := hbw.size; omega
      have hn4 : ¬ wr.heap.size = b := by have := hbw.size; omega
      have hk0 : (0 : Int) ≤ (k : Int) := by omega
      have hkn : (k : Int) < (n : Int) := by omega
      go_wp2_with fail
      go_region_held3 (fun w' => w'.cell? ⟨g9, 0, none⟩ = some (Value.int .i64 1) ∧ w'.cell? ⟨g9, 1, none⟩ = some (Value.int .i64 0) ∧ w'.cell? ⟨g9, 2, none⟩ = some (Value.slice pl k cl) ∧ w'.cell? ⟨b, off + k * 2, none⟩ = some (Value.int .i64 (ta : Int)) ∧ w'.cell? ⟨b, off + k * 2 + 1, none⟩ = some (Value.int .i64 (va : Int))) (first | (exact ⟨hy0, hy1, hy2, hy3, hy4⟩) | go_keep)
        (first
          | (go_at_call 19; refine (HSK.out _ (Below.drew (Below.refl _ _))).mono ?_; rintro e w2 ⟨p2, c2, rfl, hown', hb2⟩; have hown := own_mono (base' := wr.heap.size) hown' (by simp); have hc2 : Below wr.heap.size wr w2 := below_undrew hb2; obtain ⟨hy0, hy1, hy2, _, _, _⟩ := (Y9.later hc2 Y9.lt).three; obtain ⟨hy3, hy4⟩ := HC.out w2 (hbw.trans (hc2.mono hbw.size)); obtain ⟨hz0, hz1, hz2, hf0, hf1, hf2⟩ := ((Y9.later hc2 Y9.lt).alloc (.cells #[.int .i64 1, .int .i64 0, .slice p2 (k + 1) c2] 27)).three)
          | (go_at_call 19; refine (HSK.out _ (Below.drew ((Below.refl _ _).alloc (Nat.le_refl _) _))).mono ?_; rintro e w2 ⟨p2, c2, rfl, hown', hb2⟩; have hown := own_mono (base' := wr.heap.size) hown' (by simp); have hc2 : Below wr.heap.size wr w2 := ((Below.refl _ wr).alloc (Nat.le_refl _) _).drew.trans (hb2.mono (by simp)); obtain ⟨hy0, hy1, hy2, hf0, hf1, hf2⟩ := (Y9.later hc2 Y9.lt).three; obtain ⟨hy3, hy4⟩ := HC.out w2 (hbw.trans (hc2.mono hbw.size)); have Z := Bx.later (w := (wr.alloc (.cells #[.int .i64 0, .int .i64 0, .slice none 0 0] 27)).drew) (bx_fresh wr wr.heap.size #[.int .i64 0, .int .i64 0, .slice none 0 0] 27 rfl) hb2 (by simp); obtain ⟨hz0, hz1, hz2, hj0, hj1, hj2⟩ := Z.three))
      all_goals go_wp2_with fail
      all_goals go_roundw
      case rel =>
        exact ⟨k + 1, p2, c2, by go_num, by omega, bx_far3 ((Y7.later hc2 Y7.lt).alloc _) (by omega) _ _ _, bx_store3 ((Y9.later hc2 Y9.lt).alloc _) _ _ _, bx_far3 ((Y10.later hc2 Y10.lt).alloc _) (by omega) _ _ _,
              by rw [hTk.out]; exact own_mono (own_store3 (hown.alloc _) (by omega) _ _ _) (by omega), below_store3 ((hbw.trans (hc2.mono hbw.size)).alloc (Nat.le_trans hbw.size hc2.size) _) (by omega) _ _ _, by simp only [size_setCell]; have := hc2.size; simp; omega⟩
      case measure => simp [intOf]; omega
      case rel =>
        exact ⟨k + 1, p2, c2, by go_num, by omega, bx_far3 (bx_far3 (Y7.later hc2 Y7.lt) (by omega) _ _ _) (by omega) _ _ _, bx_store3 (bx_far3 (Y9.later hc2 Y9.lt) (by omega) _ _ _) _ _ _, bx_far3 (bx_far3 (Y10.later hc2 Y10.lt) (by omega) _ _ _) (by omega) _ _ _,
              by rw [hTk.out]; exact own_mono (own_store3 (own_store3 hown' (by simp) _ _ _) (by simp; omega) _ _ _) (by simp; omega), below_store3 (below_store3 (hbw.trans (hc2.mono hbw.size)) hbw.size _ _ _) (by omega) _ _ _, by simp only [size_setCell]; exact Nat.le_trans hBr hc2.size⟩
      case measure => simp [intOf]; omega
    · obtain rfl : k = n := by omega
      have hd1 : decide ((k : Int) < (k : Int)) = false := by simp
      have hd2 : decide (k < k) = false := by simp
      go_wp2_with fail
      have hlk : l.take k = l := by rw [HLN.out]; exact List.take_length
      have HLK := Lib.hid hlk
      have R0 : LRep wr (g10 + 1) w.heap.size g9 g10 ⟨0, l, 0, [], [], []⟩ (.slice none 0 0) (.slice none 0 0) (.slice none 0 0) pl cl := by
        have e : l.length = k := HLN.out.symm
        refine ⟨⟨_, _, _, Y7⟩, ?_, Y10, ?_, World.ownsRow_nil _ _ _ _, World.ownsRow_nil _ _ _ _, World.ownsRow_nil _ _ _ _, fun k hk => (by cases hk), hBr⟩
        · show Bx wr g9 [_, _, .slice pl l.length cl]
          rw [e]; exact Y9
        · show wr.ownsRow _ _ _ (.slice pl l.length cl) l.length (mcs l)
          rw [e]; rw [hlk] at hlo; exact hlo
      clear hlk hlo Y7 Y9 Y10 hBr HSE hd1 hd2 hlt
      generalize hB : g10 + 1 = B at *
      have hgB : g10 < B := by omega
      clear hB
      have hsum : IntKind.i64.wrap ((m : Int) + (more : Int)) = (m : Int) + (more : Int) := IntWalk.i64_in _ (by omega)
      go_loopg [15, 16, 17, 18] (m + more) (fun gk v15 v16 v17 v18 wr => ∃ (i : Nat) (s : LS) (p15 p16 p17 pl : Option Addr) (c15 c16 c17 cl : Nat), v18 = .int .i64 (i : Int) ∧ i + gk = m + more ∧ v15 = .slice p15 s.pk.length c15 ∧ v16 = .slice p16 s.ak.length c16 ∧ v17 = .slice p17 s.got.length c17 ∧ LRep wr B w.heap.size g9 g10 s (.slice p15 s.pk.length c15) (.slice p16 s.ak.length c16) (.slice p17 s.got.length c17) pl cl ∧ LInv l s ∧ Prog l.length m i s ∧ s.pk.length ≤ 4 * i ∧ s.ak.length ≤ 480 * i ∧ Below w.heap.size w wr)
      case atStart => exact ⟨0, _, none, none, none, _, 0, 0, 0, _, rfl, by omega, rfl, rfl, rfl, R0, linv_start l, prog_early _ _ _ _ (by omega), by simp, by simp, hbw⟩
      case round =>
        obtain ⟨i, s, p15, p16, p17, pl', c15, c16, c17, cl', rfl, hgk, rfl, rfl, rfl, R, hI, hP, hpk, hak, hbr⟩ := hrel
        have hi : i ≤ m + more := by omega
        have HGK := Lib.hid hgk
        clear R0 hbw hgk
        by_cases hlt : i < m + more
        · have hd1 : decide ((i : Int) < (m : Int) + (more : Int)) = true := by simp; omega
          have hi63 : (i : Int) ≤ 1000 := by omega
          have hi0 : (0 : Int) ≤ (i : Int) := by omega
          have hX := bxT_new wr [.int .i64 ((i : Int) % 3), .int .i64 0] 95
          go_upto_if 80 with (fail)
          go_cut [] (fun wx => ∃ K At : Int, BxT wx wr.heap.size [.int .i64 K, .int .i64 At] 95 ∧ (-9223372036854775808 ≤ K ∧ K ≤ 9223372036854775807 ∧ -9223372036854775808 ≤ At ∧ At ≤ 9223372036854775807) ∧ Hid (m ≤ i → K = (i : Int) % 3) ∧ Below wr.heap.size wr wx ∧ wr.heap.size < wx.heap.size)
          case first =>
            by_cases hm : i < m
            · as_aux_lemma =>
              have hmt : i < trips.length := by have := HMT.out; omega
              have hd2 : decide ((i : Int) < (m : Int)) = true := by simp; omega
              have hr := HT.out.2 trips[i] (List.getElem_mem hmt)
              obtain ⟨K, At, he⟩ : ∃ K At, trips[i] = [K, At] := by
                have h2 := hr.1
                generalize trips[i] = r at h2 ⊢
                match r, h2 with
                | [a, b], _ => exact ⟨a, b, rfl⟩
              have hb := hr.2
              rw [he] at hb
              have hbK := hb K (by simp)
              have hbA := hb At (by simp)
              obtain ⟨b, off, rfl, hcw0⟩ := HT.out.get hmt (j := 0) (x := K) (by rw [he]; rfl)
              obtain ⟨b', off', hbe, hcw1⟩ := HT.out.get hmt (j := 1) (x := At) (by rw [he]; rfl)
              cases hbe
              rw [Nat.add_zero] at hcw0
              rw [← Nat.add_assoc] at hcw1
              have hbb : b < w.heap.size := World.block_lt_of_cell? w _ hcw0
              have hc0 := (hbr.cell (p := ⟨b, off + i * 2, none⟩) hbb).trans hcw0
              have hc1 := (hbr.cell (p := ⟨b, off + i * 2 + 1, none⟩) hbb).trans hcw1
              have hn3 : ¬ b = wr.heap.size := by have := hbr.size; omega
              have hn4 : ¬ wr.heap.size = b := by have := hbr.size; omega
              have him : (i : Int) < (m : Int) := by omega
              have hAl : Below wr.heap.size wr (wr.alloc (.cells #[.int .i64 ((i : Int) % 3), .int .i64 0] 95)) := (Below.refl _ _).alloc (Nat.le_refl _) _
              have hz0 := (hAl.cell (p := ⟨b, off + i * 2, none⟩) (World.block_lt_of_cell? wr _ hc0)).trans hc0
              have hz1 := (hAl.cell (p := ⟨b, off + i * 2 + 1, none⟩) (World.block_lt_of_cell? wr _ hc1)).trans hc1
              clear hcw0 hcw1 he hr hb
              go_wp2_with fail
              go_meet
              case rel => exact ⟨K, At, bxT_new wr [_, _] _, ⟨hbK.1, hbK.2, hbA.1, hbA.2⟩, Lib.hid fun h => absurd h (by omega), (Below.refl _ _).alloc (Nat.le_refl _) _, by simp⟩
            · have hd2 : decide ((i : Int) < (m : Int)) = false := by simp; omega
              go_wp2_with fail
              go_meet
              case rel => exact ⟨_, 0, hX, ⟨by omega, by omega, by omega, by omega⟩, Lib.hid fun _ => rfl, (Below.refl _ _).alloc (Nat.le_refl _) _, by simp⟩
          case rest =>
            obtain ⟨K, At, hbx, ⟨hK0, hK1, hA0, hA1⟩, HK, hbx2, hszx⟩ := hcut
            obtain ⟨wo, rfl⟩ : ∃ wo : World, wo = wr := ⟨_, rfl⟩
            have HPK := Lib.hid (fun (W : World) => picked_i K 5 5 W rfl hK0 hK1 (by omega) (by omega))
            have hkd := pickN_lt K (m := 5) (by omega)
            have HKD : Hid (m ≤ i → pickN K 5 = i % 3) := Lib.hid fun h => by
              rw [HK.out h]
              unfold pickN
              rw [if_neg (by omega)]
              omega
            clear HK hX
            generalize pickN K 5 = kd at *
            have hBo : B ≤ wo.heap.size := R.hB
            have RX := R.later hbx2
            obtain ⟨hR0, hR1, hR2, hF0, hF1, hF2⟩ := RX.b9.three
            obtain ⟨hT0, hT1, _, _⟩ := hbx.bx.two
            have hlo12 : s.loads.length ≤ 12 := by rw [hI.hl, List.length_drop]; have := HLN.out; omega
            have hba12 : s.ba ≤ 12 := by have := HLN.out; have := hI.hb; have := hI.hw; omega
            have hpk500 : s.pk.length ≤ 1000 := by omega
            have hbrx := hbr.trans (hbx2.mono hbr.size)
            rcases (show kd = 0 ∨ (kd = 1 ∨ kd = 3) ∨ kd = 2 ∨ kd = 4 by omega) with rfl | h13 | rfl | rfl
            · as_aux_lemma =>
              have HDU := Lib.hid (fun (W : World) (hb : Below wc.heap.size wc W) => due_ok 1 s.ba s.loads.length cl' pl' s.loads W (by omega) (by omega) (by omega) (Sl.of_own (own_later RX.lo hb)))
              unfold sndV at HDU
              rw [show ((1 : Nat) : Int) = 1 from rfl] at HDU
              go_wp2_with (first
                | (go_at_call 17; refine (HPK.out _).mono ?_; rintro e w2 ⟨rfl, rfl⟩)
                | (go_at_call 20; refine (HDU.out _ (Below.refl _ _)).mono ?_; rintro e w2 ⟨p2, c2, rfl, hown, hb2⟩; have R2 := RX.later hb2)
                | (at_builtin; refine wp_app (w0 := w2) rfl _ _ _ rfl B 50 rfl inf_pkt rfl (by decide) rfl R2.pk rfl (Sl.of_own hown) (pkc_one _ _) (by unfold maxLen; omega) (by omega) (Below.refl _ _) R2.hB ?_; intro p3 c3 w3 hown3 hb3 hs3 hg3 _))
              have hlen : s.due.pk.length = s.pk.length + min s.loads.length 4 := by
                show (s.pk ++ _).length = _
                rw [List.length_append, dueF_len, List.length_take]; omega
              have R3 : LRep w3 B w.heap.size g9 g10 s.due (.slice p3 s.due.pk.length c3) (.slice p16 s.ak.length c16) (.slice p17 s.got.length c17) pl' cl' :=
                R2.app_pk hg3 (by omega) (by omega) hgB (by
                  show w3.ownsRow _ _ _ (.slice p3 s.due.pk.length c3) s.due.pk.length _
                  rw [hlen, pkc_append]; exact hown3)
              have hbz : Below w.heap.size w w3 := (hbrx.trans (hb2.mono hbrx.size)).trans (hb3.mono (by omega))
              have hP2 : Prog l.length m (i + 1) s.due := by
                by_cases hm : i < m
                · exact prog_early _ _ _ _ (by omega)
                · exact prog_due hI hP (HKD.out (by omega)).symm
              go_roundg (m + more - (i + 1))
              case measure => have := HGK.out; omega
              case rel => exact ⟨i + 1, s.due, p3, p16, p17, pl', c3, c16, c17, cl', by go_num, by omega, by rw [hlen], rfl, rfl, R3, linv_due hI, hP2, by rw [hlen]; omega, by show s.ak.length ≤ _; omega, hbz⟩
            · as_aux_lemma =>
              have hk0 : ((kd : Int) == 0) = false := by simp; omega
              go_upto_if 101 with (first | (go_at_call 17; refine (HPK.out _).mono ?_; rintro e w2 ⟨rfl, rfl⟩))
              go_cut [101] (fun s101 wx => s101 = .bool true ∧ wc = wx)
              case first =>
                rcases h13 with rfl | rfl
                all_goals
                  go_wp2_with fail
                  go_meet
                  case rel => exact ⟨rfl, rfl⟩
              case rest =>
                obtain ⟨rfl, rfl⟩ := hcut
                have hL : (s.pk.length : Int) ≤ 1000 := by omega
                go_upto_if 107 with fail
                go_cut [22] (fun s22 wx => (∃ N : Nat, s22 = .int .i64 (N : Int) ∧ N ≤ 480 ∧ Hid (m ≤ i → N = s.pk.length)) ∧ wc = wx)
                case first =>
                  by_cases hm : i < m
                  · have hd2 : decide ((m : Int) ≤ (i : Int)) = false := by simp; omega
                    go_wp2_with fail
                    go_meet
                    case rel => exact ⟨⟨1, rfl, by omega, Lib.hid fun h => by omega⟩, rfl⟩
                  · have hd2 : decide ((m : Int) ≤ (i : Int)) = true := by simp; omega
                    go_wp2_with fail
                    go_meet
                    case rel => exact ⟨⟨_, rfl, by omega, Lib.hid fun _ => rfl⟩, rfl⟩
                case rest =>
                  obtain ⟨⟨N, rfl, hN480, HN⟩, rfl⟩ := hcut
                  go_wp2_with fail
                  go_loopg [16, 17, 23] N (fun gk v16 v17 v23 wr' => ∃ (k : Nat) (s' : LS) (q16 q17 : Option Addr) (d16 d17 : Nat), v23 = .int .i64 (k : Int) ∧ k + gk = N ∧ v16 = .slice q16 s'.ak.length d16 ∧ v17 = .slice q17 s'.got.length d17 ∧ LRep wr' B w.heap.size g9 g10 s' (.slice p15 s.pk.length c15) (.slice q16 s'.ak.length d16) (.slice q17 s'.got.length d17) pl' cl' ∧ LInv l s' ∧ Hid (s'.ba = s.ba ∧ s'.pk = s.pk ∧ s'.ak.length = s.ak.length + k) ∧ Hid (m ≤ i → HearPr k s') ∧ BxT wr' wo.heap.size [.int .i64 K, .int .i64 At] 95 ∧ Below w.heap.size w wr')
                  case atStart => exact ⟨0, s, p16, p17, c16, c17, rfl, by omega, rfl, rfl, RX, hI, Lib.hid ⟨rfl, rfl, rfl⟩, Lib.hid fun _ => hearPr_zero s, hbx, hbrx⟩
                  case round =>
                    obtain ⟨k, s', q16, q17, d16, d17, rfl, hgk, rfl, rfl, R', hI', HS', HP', hbx', hbr'⟩ := hrel
                    have hkN : k ≤ N := by omega
                    have HGK2 := Lib.hid hgk
                    clear hgk RX hbx hbrx hbx2 hszx
                    obtain ⟨hT0, hT1, _, _⟩ := hbx'.bx.two
                    by_cases hgo : k < N ∧ 0 < s.pk.length
                    · obtain ⟨hkn, hpp⟩ := hgo
                      have hdk : decide ((k : Int) < (N : Int)) = true := by simp; omega
                      have hdk' : decide (k < N) = true := by simp; omega
                      have hdp : decide (0 < s.pk.length) = true := by simp; omega
                      have hdp' : decide ((0 : Int) < (s.pk.length : Int)) = true := by simp; omega
                      have HPA := Lib.hid (fun (W : World) => picked_i At (s.pk.length : Int) s.pk.length W rfl hA0 hA1 (by omega) (by omega))
                      have hat := pickN_lt At (m := s.pk.length) (by omega)
                      go_upto_if 128 with (first | (go_at_call 17; refine (HPA.out _).mono ?_; rintro e w2 ⟨rfl, rfl⟩))
                      go_cut [24] (fun s24 wx => (∃ a : Nat, s24 = .int .i64 (a : Int) ∧ a < s.pk.length ∧ Hid (m ≤ i → a = k)) ∧ wr = wx)
                      case first =>
                        by_cases hm : i < m
                        · have hd2 : decide ((m : Int) ≤ (i : Int)) = false := by simp; omega
                          go_wp2_with fail
                          go_meet
                          case rel => exact ⟨⟨_, rfl, hat, Lib.hid fun h => by omega⟩, rfl⟩
                        · have hd2 : decide ((m : Int) ≤ (i : Int)) = true := by simp; omega
                          go_wp2_with fail
                          go_meet
                          case rel => exact ⟨⟨_, rfl, by have := HN.out (by omega); omega, Lib.hid fun _ => rfl⟩, rfl⟩
                      case rest =>
                        obtain ⟨⟨a, rfl, haL, HA⟩, rfl⟩ := hcut
                        clear hat HPA
                        have hpkE := HS'.out.2.1
                        have hpk' : wr.ownsRow B 50 4 (.slice p15 s.pk.length c15) s.pk.length (pkc 1 s.pk) := by have h := R'.pk; rw [hpkE] at h; exact h
                        have HR := Lib.hid R'
                        have HB10 := Lib.hid R'.b10
                        have hwl : s'.want ≤ 12 := by have := hI'.hw; have := HLN.out; omega
                        obtain ⟨e0, e1, e2, e3⟩ := pkc_get (ep := 1) haL
                        have HQ := Lib.hid (List.getElem?_eq_getElem haL)
                        clear R' hpkE
                        obtain ⟨b, off, rfl, hc0⟩ := (Sl.of_own hpk').get e0
                        obtain ⟨_, _, h1, hc1⟩ := (Sl.of_own hpk').get e1
                        cases h1
                        obtain ⟨_, _, h1, hc2⟩ := (Sl.of_own hpk').get e2
                        cases h1
                        obtain ⟨_, _, h1, hc3⟩ := (Sl.of_own hpk').get e3
                        cases h1
                        clear e0 e1 e2 e3 hpk'
                        rw [show off + (a * 4 + 1) = off + a * 4 + 1 from rfl] at hc1
                        rw [show off + (a * 4 + 2) = off + a * 4 + 1 + 1 from rfl] at hc2
                        rw [show off + (a * 4 + 3) = off + a * 4 + 1 + 1 + 1 from rfl] at hc3
                        generalize s.pk[a] = q at HQ hc0 hc1 hc2 hc3
                        obtain ⟨no, tt, vv⟩ := q
                        dsimp only at hc0 hc1 hc2 hc3
                        have hbb : b < wr.heap.size := World.block_lt_of_cell? wr _ hc0
                        have HH := Lib.hid (fun (W : World) => hear_any 1 s'.want no (tt, vv) W (by omega) (by omega))
                        unfold rcvV pktV ackV at HH
                        rw [show ((1 : Nat) : Int) = 1 from rfl] at HH hc0
                        dsimp only at HH
                        have hn1 : ¬ b = wr.heap.size := by omega
                        have hn2 : ¬ wr.heap.size = b := by omega
                        have h10 := HB10.out.lt
                        have hn3 : ¬ g10 = wr.heap.size := by omega
                        have hn4 : ¬ wr.heap.size = g10 := by omega
                        obtain ⟨hU0, hU1, hV0, hV1⟩ := HB10.out.two
                        have hn5 : ¬ g10 = wr.heap.size + 1 := by omega
                        have hn6 : ¬ wr.heap.size + 1 = g10 := by omega
                        have hn7 : ¬ b = wr.heap.size + 1 := by omega
                        have hn8 : ¬ wr.heap.size + 1 = b := by omega
                        have ha0 : (0 : Int) ≤ (a : Int) := by omega
                        have haI : (a : Int) < (s.pk.length : Int) := by omega
                        go_upto_region 39 with fail
                        go_cut [25, 26, 27, 28] (fun s25 s26 s27 s28 wx => ∃ (g25 g27 : Nat) (p2 : Option Addr) (c2 : Nat), s25 = .pointer (some ⟨g25, 0, none⟩) ∧ s26 = .slice p2 (hrN s'.want no) c2 ∧ s27 = .pointer (some ⟨g27, 0, none⟩) ∧ s28 = .int .i64 0 ∧ Bx wx g25 [.int .i64 1, .int .i64 (hrW s'.want no : Int)] ∧ Bx wx g27 [.int .i64 1, .int .i64 (hrW s'.want no : Int)] ∧ wx.ownsRow wr.heap.size 41 2 (.slice p2 (hrN s'.want no) c2) (hrN s'.want no) (mcs (hrM s'.want no (tt, vv))) ∧ Below wr.heap.size wr wx ∧ wr.heap.size ≤ g25 ∧ wr.heap.size ≤ g27)
                        case first => as_aux_lemma =>
                          go_region_held3 (fun w' => w'.cell? ⟨g10, 0, none⟩ = some (Value.int .i64 1) ∧ w'.cell? ⟨g10, 1, none⟩ = some (Value.int .i64 (s'.want : Int)) ∧ w'.cell? ⟨b, off + a * 4, none⟩ = some (Value.int .i64 1) ∧ w'.cell? ⟨b, off + a * 4 + 1, none⟩ = some (Value.int .i64 (no : Int)) ∧ w'.cell? ⟨b, off + a * 4 + 1 + 1, none⟩ = some (Value.int .i64 (tt : Int)) ∧ w'.cell? ⟨b, off + a * 4 + 1 + 1 + 1, none⟩ = some (Value.int .i64 (vv : Int)))
                            (first | (exact ⟨hy0, hy1, hy2, hy3, hy4, hy5⟩) | go_keep)
                            (first
                              | (go_at_call 21; refine (HH.out (wr).drew).mono ?_; rintro e w2 ⟨p2, c2, rfl, hown', hb2⟩; have hcz := box_kept0 hb2; have hs2 := hcz.size; obtain ⟨hy0, hy1, hv0, hv1⟩ := (HB10.out.later hcz h10).two; have hy2 := (hcz.cell (p := ⟨b, off + a * 4, none⟩) hbb).trans hc0; have hy3 := (hcz.cell (p := ⟨b, off + a * 4 + 1, none⟩) hbb).trans hc1; have hy4 := (hcz.cell (p := ⟨b, off + a * 4 + 1 + 1, none⟩) hbb).trans hc2; have hy5 := (hcz.cell (p := ⟨b, off + a * 4 + 1 + 1 + 1, none⟩) hbb).trans hc3; have hm1 : ¬ b = w2.heap.size := (by omega); have hm2 : ¬ w2.heap.size = b := (by omega); have hm3 : ¬ g10 = w2.heap.size := (by omega); have hm4 : ¬ w2.heap.size = g10 := (by omega))
                              | (go_at_call 21; refine (HH.out (wr.alloc (.cells #[.int .i64 0, .int .i64 0] 34)).drew).mono ?_; rintro e w2 ⟨p2, c2, rfl, hown', hb2⟩; obtain ⟨hcz, hZ, hsz⟩ := box_kept1 hb2; have hs2 := hcz.size; obtain ⟨hy0, hy1, hv0, hv1⟩ := (HB10.out.later hcz h10).two; have hy2 := (hcz.cell (p := ⟨b, off + a * 4, none⟩) hbb).trans hc0; have hy3 := (hcz.cell (p := ⟨b, off + a * 4 + 1, none⟩) hbb).trans hc1; have hy4 := (hcz.cell (p := ⟨b, off + a * 4 + 1 + 1, none⟩) hbb).trans hc2; have hy5 := (hcz.cell (p := ⟨b, off + a * 4 + 1 + 1 + 1, none⟩) hbb).trans hc3; have hm1 : ¬ b = w2.heap.size := (by omega); have hm2 : ¬ w2.heap.size = b := (by omega); have hm3 : ¬ g10 = w2.heap.size := (by omega); have hm4 : ¬ w2.heap.size = g10 := (by omega); obtain ⟨hz0, hz1, hj0, hj1⟩ := (hZ.alloc (.cells #[.int .i64 0, .int .i64 0] 46)).two; have hm5 : ¬ wr.heap.size = w2.heap.size := (by omega); have hm6 : ¬ w2.heap.size = wr.heap.size := (by omega))
                              | (go_at_call 21; refine (HH.out (wr.alloc (.cells #[.int .i64 0, .int .i64 0] 46)).drew).mono ?_; rintro e w2 ⟨p2, c2, rfl, hown', hb2⟩; obtain ⟨hcz, hZ, hsz⟩ := box_kept1 hb2; have hs2 := hcz.size; obtain ⟨hy0, hy1, hv0, hv1⟩ := (HB10.out.later hcz h10).two; have hy2 := (hcz.cell (p := ⟨b, off + a * 4, none⟩) hbb).trans hc0; have hy3 := (hcz.cell (p := ⟨b, off + a * 4 + 1, none⟩) hbb).trans hc1; have hy4 := (hcz.cell (p := ⟨b, off + a * 4 + 1 + 1, none⟩) hbb).trans hc2; have hy5 := (hcz.cell (p := ⟨b, off + a * 4 + 1 + 1 + 1, none⟩) hbb).trans hc3; have hm1 : ¬ b = w2.heap.size := (by omega); have hm2 : ¬ w2.heap.size = b := (by omega); have hm3 : ¬ g10 = w2.heap.size := (by omega); have hm4 : ¬ w2.heap.size = g10 := (by omega); obtain ⟨hz0, hz1, hj0, hj1⟩ := (hZ.alloc (.cells #[.int .i64 1, .int .i64 (hrW s'.want no : Int)] 34)).two; have hm5 : ¬ wr.heap.size = w2.heap.size := (by omega); have hm6 : ¬ w2.heap.size = wr.heap.size := (by omega))
                              | (go_at_call 21; refine (HH.out ((wr.alloc (.cells #[.int .i64 0, .int .i64 0] 34)).alloc (.cells #[.int .i64 0, .int .i64 0] 46)).drew).mono ?_; rintro e w2 ⟨p2, c2, rfl, hown', hb2⟩; obtain ⟨hcz, hZ, hY, hsz⟩ := box_kept2 hb2; have hs2 := hcz.size; obtain ⟨hy0, hy1, hv0, hv1⟩ := (HB10.out.later hcz h10).two; have hy2 := (hcz.cell (p := ⟨b, off + a * 4, none⟩) hbb).trans hc0; have hy3 := (hcz.cell (p := ⟨b, off + a * 4 + 1, none⟩) hbb).trans hc1; have hy4 := (hcz.cell (p := ⟨b, off + a * 4 + 1 + 1, none⟩) hbb).trans hc2; have hy5 := (hcz.cell (p := ⟨b, off + a * 4 + 1 + 1 + 1, none⟩) hbb).trans hc3; have hm1 : ¬ b = w2.heap.size := (by omega); have hm2 : ¬ w2.heap.size = b := (by omega); have hm3 : ¬ g10 = w2.heap.size := (by omega); have hm4 : ¬ w2.heap.size = g10 := (by omega); obtain ⟨hz0, hz1, hj0, hj1⟩ := hZ.two; obtain ⟨hx0, hx1, hk0, hk1⟩ := hY.two)
                              | (go_at_call 21; refine (HH.out ((wr.alloc (.cells #[.int .i64 0, .int .i64 0] 46)).alloc (.cells #[.int .i64 0, .int .i64 0] 34)).drew).mono ?_; rintro e w2 ⟨p2, c2, rfl, hown', hb2⟩; obtain ⟨hcz, hZ, hY, hsz⟩ := box_kept2 hb2; have hs2 := hcz.size; obtain ⟨hy0, hy1, hv0, hv1⟩ := (HB10.out.later hcz h10).two; have hy2 := (hcz.cell (p := ⟨b, off + a * 4, none⟩) hbb).trans hc0; have hy3 := (hcz.cell (p := ⟨b, off + a * 4 + 1, none⟩) hbb).trans hc1; have hy4 := (hcz.cell (p := ⟨b, off + a * 4 + 1 + 1, none⟩) hbb).trans hc2; have hy5 := (hcz.cell (p := ⟨b, off + a * 4 + 1 + 1 + 1, none⟩) hbb).trans hc3; have hm1 : ¬ b = w2.heap.size := (by omega); have hm2 : ¬ w2.heap.size = b := (by omega); have hm3 : ¬ g10 = w2.heap.size := (by omega); have hm4 : ¬ w2.heap.size = g10 := (by omega); obtain ⟨hz0, hz1, hj0, hj1⟩ := hZ.two; obtain ⟨hx0, hx1, hk0, hk1⟩ := hY.two))
                          · go_wp2_with fail
                            go_meet
                            case rel => exact ⟨_, _, p2, c2, rfl, rfl, rfl, rfl, (bx_new w2 [_, _] _).alloc _, bx_fresh (w2.alloc _) _ #[_, _] _ (by simp), own_mono ((hown'.alloc _).alloc _) (by simp), (hcz.alloc hs2 _).alloc (by simp; omega) _, hs2, by omega⟩
                          · go_wp2_with fail
                            go_meet
                            case rel => exact ⟨_, _, p2, c2, rfl, rfl, rfl, rfl, bx_fresh (w2.alloc _) _ #[_, _] _ (by simp), (bx_new w2 [_, _] _).alloc _, own_mono ((hown'.alloc _).alloc _) (by simp), (hcz.alloc hs2 _).alloc (by simp; omega) _, by omega, hs2⟩
                          · go_wp2_with fail
                            go_meet
                            case rel => exact ⟨_, _, p2, c2, rfl, rfl, rfl, rfl, bx_far2 (bx_store2 (hZ.alloc _) _ _) (by omega) _ _, bx_store2 (bx_far2 (bx_new w2 [_, _] _) (by omega) _ _) _ _, own_mono (own_ne_store (own_ne_store (own_store2 (hown'.alloc _) (by simp) _ _) (own_top hown') 0 _) (own_top hown') 1 _) (by simp), below_store2 (below_store2 (hcz.alloc hs2 _) (Nat.le_refl _) _ _) hs2 _ _, Nat.le_refl _, hs2⟩
                          · go_wp2_with fail
                            go_meet
                            case rel => exact ⟨_, _, p2, c2, rfl, rfl, rfl, rfl, bx_far2 (bx_store2 hZ _ _) (by omega) _ _, bx_store2 (bx_far2 hY (by omega) _ _) _ _, own_mono (own_store2 (own_store2 hown' (by simp; omega) _ _) (by simp) _ _) (by simp; omega), below_store2 (below_store2 hcz (Nat.le_refl _) _ _) (by omega) _ _, Nat.le_refl _, by omega⟩
                          · go_wp2_with fail
                            go_meet
                            case rel => exact ⟨_, _, p2, c2, rfl, rfl, rfl, rfl, bx_far2 (bx_new w2 [_, _] _) (by omega) _ _, bx_store2 (hZ.alloc _) _ _, own_mono (own_store2 (hown'.alloc _) (by simp) _ _) (by simp), below_store2 (hcz.alloc hs2 _) (Nat.le_refl _) _ _, hs2, Nat.le_refl _⟩
                          · go_wp2_with fail
                            go_meet
                            case rel => exact ⟨_, _, p2, c2, rfl, rfl, rfl, rfl, bx_far2 (bx_store2 hY _ _) (by omega) _ _, bx_store2 (bx_far2 hZ (by omega) _ _) _ _, own_mono (own_store2 (own_store2 hown' (by simp) _ _) (by simp; omega) _ _) (by simp; omega), below_store2 (below_store2 hcz (by omega) _ _) (Nat.le_refl _) _ _, by omega, Nat.le_refl _⟩
                        case rest => as_aux_lemma =>
                          obtain ⟨g25, g27, p2, c2, rfl, rfl, rfl, rfl, hB25, hB27, hown2, hcw, hg25, hg27⟩ := hcut
                          clear hU0 hU1 hV0 hV1 hc0 hc1 hc2 hc3
                          obtain ⟨hU0, hU1, hV0, hV1⟩ := (HB10.out.later hcw h10).two
                          obtain ⟨hX0, hX1, _, _⟩ := hB25.two
                          have hne : ¬ g25 = g10 := by omega
                          have hne' : ¬ g10 = g25 := by omega
                          have hnf : ¬ g27 = g10 := by omega
                          have hnf' : ¬ g10 = g27 := by omega
                          have hak6 : s'.ak.length ≤ 58080 := by have := HS'.out.2.2; omega
                          have hgo12 : s'.got.length ≤ 12 := by rw [hI'.hg]; have := List.length_take_le s'.want l; omega
                          have hrn := hrN_le s'.want no
                          have R4 := (HR.out.later hcw).heard (by omega) (by omega) hgB (hrW s'.want no)
                          have hS4 := own_store2 hown2 h10 (.int .i64 1) (.int .i64 (hrW s'.want no : Int))
                          have hF17 : (Value.slice q17 s'.got.length d17).ownBlock ≠ some g27 := (HR.out.far hg27).2.2.2
                          have hC4 : Below B ((wc.setCell ⟨g10, 0, none⟩ (.int .i64 1)).setCell ⟨g10, 1, none⟩ (.int .i64 (hrW s'.want no : Int))) ((wc.setCell ⟨g10, 0, none⟩ (.int .i64 1)).setCell ⟨g10, 1, none⟩ (.int .i64 (hrW s'.want no : Int))) := Below.refl _ _
                          have HR4 := Lib.hid R4
                          clear R4 HH
                          go_wp2_with (first
                            | (at_builtin; refine wp_app (n := s'.got.length) (xs := mcs s'.got) (v := .slice q17 s'.got.length d17) (m := hrN s'.want no) rfl (.tmp 145) (.tmp 146) _ rfl B 41 rfl inf_mail' rfl (by decide) rfl HR4.out.go rfl (Sl.of_own hS4) (mcs_one _) (by unfold maxLen; omega) (by omega) hC4 HR4.out.hB ?_; intro p3 c3 w3 hown3 hb3 hs3 hg3 ho3; have hB27' := (bx_far2 hB27 hnf (.int .i64 1) (.int .i64 (hrW s'.want no : Int))).grown hg3 hF17; obtain ⟨hq0, hq1, _, _⟩ := hB27'.two; have HR5 := Lib.hid (HR4.out.app_got (new := hrM s'.want no (tt, vv)) hg3 ho3 (by omega) (by omega) hgB (by rw [List.length_append, hrM_len, mcs_append]; exact hown3)))
                            | (at_builtin; refine wp_app1 (w0 := w3) (n := s'.ak.length) (xs := akc 1 s'.ak) (v := .slice q16 s'.ak.length d16) rfl (.tmp 148) (.tmp 150) _ rfl B 46 rfl inf_ack rfl (by decide) rfl HR5.out.ak (us := [.int .i64 1, .int .i64 (hrW s'.want no : Int)]) rfl rfl (by simp [Value.oneCell']) (by unfold maxLen; omega) (by omega) (Below.refl _ _) HR5.out.hB ?_; intro p4 c4 w4 hown4 hb4 hs4 hg4 ho4))
                          have R6 := HR5.out.app_ak (new := [hrW s'.want no]) hg4 (by omega) (by omega) hgB (u16 := .slice p4 (s'.ak.length + 1) c4) (by rw [List.length_append, akc_append]; exact hown4)
                          have HE := Lib.hid (hear_eq s' (no, (tt, vv)))
                          have hmem : (no, (tt, vv)) ∈ s'.pk := by rw [HS'.out.2.1]; exact List.mem_of_getElem? HQ.out
                          have hI2 := linv_hear hI' hmem
                          have hlg : (s'.hear (no, (tt, vv))).got.length = s'.got.length + hrN s'.want no := by rw [HE.out]; show (s'.got ++ _).length = _; rw [List.length_append, hrM_len]
                          have hla : (s'.hear (no, (tt, vv))).ak.length = s'.ak.length + 1 := by rw [HE.out]; show (s'.ak ++ _).length = _; rw [List.length_append]; rfl
                          have R7 : LRep w4 B w.heap.size g9 g10 (s'.hear (no, (tt, vv))) (.slice (some ⟨b, off, none⟩) s.pk.length c15) (.slice p4 (s'.hear (no, (tt, vv))).ak.length c4) (.slice p3 (s'.hear (no, (tt, vv))).got.length c3) pl' cl' := by
                            rw [hlg, hla, HE.out]; exact R6
                          have HS2 : Hid ((s'.hear (no, (tt, vv))).ba = s.ba ∧ (s'.hear (no, (tt, vv))).pk = s.pk ∧ (s'.hear (no, (tt, vv))).ak.length = s.ak.length + (k + 1)) := Lib.hid (by
                            refine ⟨?_, ?_, ?_⟩
                            · rw [HE.out]; exact HS'.out.1
                            · rw [HE.out]; exact HS'.out.2.1
                            · rw [hla, HS'.out.2.2]; omega)
                          have HP2 : Hid (m ≤ i → HearPr (k + 1) (s'.hear (no, (tt, vv)))) := Lib.hid fun h => hearPr_step hI' (HP'.out h) (by
                            have hq := HQ.out
                            rw [HA.out h] at hq
                            rw [HS'.out.2.1]; exact hq)
                          have hT3 : BxT w3 wo.heap.size _ _ := (((hbx'.later hcw hbx'.lt).other (a := ⟨g10, 0, none⟩) (by show wo.heap.size ≠ g10; omega) (.int .i64 1)).other (a := ⟨g10, 1, none⟩) (by show wo.heap.size ≠ g10; omega) (.int .i64 (hrW s'.want no : Int))).grown hg3 (own_box HR4.out.go (((hbx'.later hcw hbx'.lt).other (a := ⟨g10, 0, none⟩) (by show wo.heap.size ≠ g10; omega) (.int .i64 1)).other (a := ⟨g10, 1, none⟩) (by show wo.heap.size ≠ g10; omega) (.int .i64 (hrW s'.want no : Int))) (by decide))
                          have hT4 := hT3.grown hg4 (own_box HR5.out.ak hT3 (by decide))
                          have hbz := ((below_store2 (hbr'.trans (hcw.mono hbr'.size)) (f := g10) (by omega) (.int .i64 1) (.int .i64 (hrW s'.want no : Int))).trans (hb3.mono (by omega))).trans (hb4.mono (by omega))
                          go_roundg (N - (k + 1))
                          case measure => have := HGK2.out; omega
                          case rel => exact ⟨k + 1, s'.hear (no, (tt, vv)), p4, p3, c4, c3, by go_num, by omega, by rw [hla], by rw [hlg], R7, hI2, HS2, HP2, hT4, hbz⟩
                    · as_aux_lemma =>
                      have HE1 := Lib.hid HS'.out.1
                      have HE2 := Lib.hid HS'.out.2.1
                      have HE3 := Lib.hid HS'.out.2.2
                      have R2 : LRep wr B w.heap.size g9 g10 s' (.slice p15 s'.pk.length c15) (.slice q16 s'.ak.length d16) (.slice q17 s'.got.length d17) pl' cl' := by rw [HE2.out]; exact R'
                      have hP2 : Prog l.length m (i + 1) s' := by
                        by_cases hm : i < m
                        · exact prog_early _ _ _ _ (by omega)
                        · have hNN := HN.out (by omega)
                          have hkd3 := HKD.out (by omega)
                          have hk2 : k = s.pk.length := by
                            by_cases h0 : 0 < s.pk.length
                            · have : ¬ k < N := fun h => hgo ⟨h, h0⟩
                              omega
                            · omega
                          exact prog_hear hP (by omega) (by rw [← hk2]; exact HP'.out (by omega)) HE1.out HE2.out
                      have hak2 : s'.ak.length ≤ 480 * (i + 1) := by have := HE3.out; omega
                      have hpk2 : s'.pk.length ≤ 4 * (i + 1) := by rw [HE2.out]; omega
                      by_cases hkn : k < N
                      · have h0 : ¬ 0 < s.pk.length := fun h => hgo ⟨hkn, h⟩
                        have hdk : decide ((k : Int) < (N : Int)) = true := by simp; omega
                        have hdk' : decide (k < N) = true := by simp; omega
                        have hdp : decide (0 < s.pk.length) = false := decide_eq_false h0
                        have hdp' : decide ((0 : Int) < (s.pk.length : Int)) = false := decide_eq_false (by omega)
                        clear hgo
                        go_wp2_with fail
                        go_roundg (m + more - (i + 1))
                        case measure => have := HGK.out; omega
                        case rel => exact ⟨i + 1, s', p15, q16, q17, pl', c15, d16, d17, cl', by go_num, by omega, by rw [HE2.out], rfl, rfl, R2, hI', hP2, hpk2, hak2, hbr'⟩
                      · have hdk : decide ((k : Int) < (N : Int)) = false := by simp; omega
                        have hdk' : decide (k < N) = false := by simp; omega
                        clear hgo
                        go_wp2_with fail
                        go_roundg (m + more - (i + 1))
                        case measure => have := HGK.out; omega
                        case rel => exact ⟨i + 1, s', p15, q16, q17, pl', c15, d16, d17, cl', by go_num, by omega, by rw [HE2.out], rfl, rfl, R2, hI', hP2, hpk2, hak2, hbr'⟩
            · as_aux_lemma =>
              go_upto_if 157 with (first | (go_at_call 17; refine (HPK.out _).mono ?_; rintro e w2 ⟨rfl, rfl⟩))
              have hL : (s.ak.length : Int) ≤ 60000 := by omega
              have hLN : s.ak.length ≤ 60000 := by omega
              go_cut [29] (fun s29 wx => (∃ N : Nat, s29 = .int .i64 (N : Int) ∧ N ≤ 60000 ∧ Hid (m ≤ i → N = s.ak.length)) ∧ wc = wx)
              case first =>
                by_cases hm : i < m
                · have hd2 : decide ((m : Int) ≤ (i : Int)) = false := by simp; omega
                  go_wp2_with fail
                  go_meet
                  case rel => exact ⟨⟨1, rfl, by omega, Lib.hid fun h => by omega⟩, rfl⟩
                · have hd2 : decide ((m : Int) ≤ (i : Int)) = true := by simp; omega
                  go_wp2_with fail
                  go_meet
                  case rel => exact ⟨⟨_, rfl, by omega, Lib.hid fun _ => rfl⟩, rfl⟩
              case rest =>
                obtain ⟨⟨N, rfl, hN480, HN⟩, rfl⟩ := hcut
                go_wp2_with fail
                go_loopg [30] N (fun gk v30 wr' => ∃ (k : Nat) (s' : LS) (pl2 : Option Addr) (cl2 : Nat), v30 = .int .i64 (k : Int) ∧ k + gk = N ∧ LRep wr' B w.heap.size g9 g10 s' (.slice p15 s.pk.length c15) (.slice p16 s.ak.length c16) (.slice p17 s.got.length c17) pl2 cl2 ∧ LInv l s' ∧ Hid (s'.pk = s.pk ∧ s'.ak = s.ak ∧ s'.got = s.got ∧ s.ba ≤ s'.ba) ∧ Hid (m ≤ i → ∀ x ∈ s.ak.take k, x ≤ s'.ba) ∧ BxT wr' wo.heap.size [.int .i64 K, .int .i64 At] 95 ∧ Below w.heap.size w wr')
                case atStart => exact ⟨0, s, pl', cl', rfl, by omega, RX, hI, Lib.hid ⟨rfl, rfl, rfl, Nat.le_refl _⟩, Lib.hid fun _ x hx => by simp at hx, hbx, hbrx⟩
                case round =>
                  obtain ⟨k, s', pl2, cl2, rfl, hgk, R', hI', HS', HP', hbx', hbr'⟩ := hrel
                  have hkN : k ≤ N := by omega
                  have HGK2 := Lib.hid hgk
                  clear hgk RX hbx hbrx hbx2 hszx
                  obtain ⟨hT0, hT1, _, _⟩ := hbx'.bx.two
                  by_cases hgo : k < N ∧ 0 < s.ak.length
                  · obtain ⟨hkn, hpp⟩ := hgo
                    have hdk : decide ((k : Int) < (N : Int)) = true := by simp; omega
                    have hdk' : decide (k < N) = true := by simp; omega
                    have hdp : decide (0 < s.ak.length) = true := by simp; omega
                    have hdp' : decide ((0 : Int) < (s.ak.length : Int)) = true := by simp; omega
                    have HPA := Lib.hid (fun (W : World) => picked_i At (s.ak.length : Int) s.ak.length W rfl hA0 hA1 (by omega) (by omega))
                    have hat := pickN_lt At (m := s.ak.length) (by omega)
                    go_upto_if 178 with (first | (go_at_call 17; refine (HPA.out _).mono ?_; rintro e w2 ⟨rfl, rfl⟩))
                    go_cut [31] (fun s31 wx => (∃ a : Nat, s31 = .int .i64 (a : Int) ∧ a < s.ak.length ∧ Hid (m ≤ i → a = k)) ∧ wr = wx)
                    case first =>
                      by_cases hm : i < m
                      · have hd2 : decide ((m : Int) ≤ (i : Int)) = false := by simp; omega
                        go_wp2_with fail
                        go_meet
                        case rel => exact ⟨⟨_, rfl, hat, Lib.hid fun h => by omega⟩, rfl⟩
                      · have hd2 : decide ((m : Int) ≤ (i : Int)) = true := by simp; omega
                        go_wp2_with fail
                        go_meet
                        case rel => exact ⟨⟨_, rfl, by have := HN.out (by omega); omega, Lib.hid fun _ => rfl⟩, rfl⟩
                    case rest =>
                      obtain ⟨⟨a, rfl, haL, HA⟩, rfl⟩ := hcut
                      clear hat HPA
                      have hakE := HS'.out.2.1
                      have hgotE := HS'.out.2.2.1
                      have hak' : wr.ownsRow B 46 2 (.slice p16 s.ak.length c16) s.ak.length (akc 1 s.ak) := by have h := R'.ak; rw [hakE] at h; exact h
                      have HR := Lib.hid R'
                      have HB9 := Lib.hid R'.b9
                      have hl12' : s'.loads.length ≤ 12 := by rw [hI'.hl, List.length_drop]; have := HLN.out; omega
                      have hb12' : s'.ba ≤ 12 := by have := hI'.hb; have := hI'.hw; have := HLN.out; omega
                      obtain ⟨e0, e1⟩ := akc_get (ep := 1) haL
                      have HQ := Lib.hid (List.getElem?_eq_getElem haL)
                      have hmem : s.ak[a] ∈ s'.ak := by rw [hakE]; exact List.getElem_mem haL
                      have HF := Lib.hid (linv_flies hI' hmem)
                      have HI2 := Lib.hid (linv_acked hI' hmem)
                      clear R' hakE hgotE hmem
                      obtain ⟨b, off, rfl, hc0⟩ := (Sl.of_own hak').get e0
                      obtain ⟨_, _, h1, hc1⟩ := (Sl.of_own hak').get e1
                      cases h1
                      clear e0 e1 hak'
                      rw [show off + (a * 2 + 1) = off + a * 2 + 1 from rfl] at hc1
                      generalize s.ak[a] = no at HQ hc0 hc1 HF HI2
                      have hbb : b < wr.heap.size := World.block_lt_of_cell? wr _ hc0
                      have HH := Lib.hid (fun (W : World) (hw : Below wr.heap.size wr W) => acked_ok 1 s'.ba no s'.loads.length cl2 (no - s'.ba) pl2 s'.loads W (by omega) (by omega) (by omega) ((Sl.of_own HR.out.lo).later hw) (own_addr HR.out.lo) HF.out rfl)
                      unfold sndV ackV at HH
                      rw [show ((1 : Nat) : Int) = 1 from rfl] at HH hc0
                      have hn1 : ¬ b = wr.heap.size := by omega
                      have hn2 : ¬ wr.heap.size = b := by omega
                      have h9 := HB9.out.lt
                      have hn3 : ¬ g9 = wr.heap.size := by omega
                      have hn4 : ¬ wr.heap.size = g9 := by omega
                      obtain ⟨hU0, hU1, hU2, hV0, hV1, hV2⟩ := HB9.out.three
                      have ha0 : (0 : Int) ≤ (a : Int) := by omega
                      have haI : (a : Int) < (s.ak.length : Int) := by omega
                      go_upto_region 55 with fail
                      go_cut [32, 33] (fun s32 s33 wx => ∃ (g32 : Nat) (p2 : Option Addr) (c2 : Nat), s32 = .pointer (some ⟨g32, 0, none⟩) ∧ s33 = .int .i64 0 ∧ Bx wx g32 [.int .i64 1, .int .i64 ((s'.ba : Int) + ((no - s'.ba : Nat) : Int)), .slice p2 (s'.loads.length - (no - s'.ba)) c2] ∧ wx.ownsRow wr.heap.size 41 2 (.slice p2 (s'.loads.length - (no - s'.ba)) c2) (s'.loads.length - (no - s'.ba)) (mcs (s'.loads.drop (no - s'.ba))) ∧ Below wr.heap.size wr wx ∧ wr.heap.size ≤ g32)
                      case first => as_aux_lemma =>
                        go_region_held3 (fun w' => w'.cell? ⟨g9, 0, none⟩ = some (Value.int .i64 1) ∧ w'.cell? ⟨g9, 1, none⟩ = some (Value.int .i64 (s'.ba : Int)) ∧ w'.cell? ⟨g9, 2, none⟩ = some (Value.slice pl2 s'.loads.length cl2) ∧ w'.cell? ⟨b, off + a * 2, none⟩ = some (Value.int .i64 1) ∧ w'.cell? ⟨b, off + a * 2 + 1, none⟩ = some (Value.int .i64 (no : Int)))
                          (first | (exact ⟨hy0, hy1, hy2, hy3, hy4⟩) | go_keep)
                          (first
                            | (go_at_call 22; refine (HH.out _ (Below.drew (Below.refl _ _))).mono ?_; rintro e w2 ⟨p2, c2, rfl, hown', hb2⟩; have hcz := box_kept0 hb2; have hs2 := hcz.size; obtain ⟨hy0, hy1, hy2, hv0, hv1, hv2⟩ := (HB9.out.later hcz h9).three; have hy3 := (hcz.cell (p := ⟨b, off + a * 2, none⟩) hbb).trans hc0; have hy4 := (hcz.cell (p := ⟨b, off + a * 2 + 1, none⟩) hbb).trans hc1; have hm1 : ¬ b = w2.heap.size := (by omega); have hm2 : ¬ w2.heap.size = b := (by omega); have hm3 : ¬ g9 = w2.heap.size := (by omega); have hm4 : ¬ w2.heap.size = g9 := (by omega))
                            | (go_at_call 22; refine (HH.out _ (Below.drew ((Below.refl _ _).alloc (Nat.le_refl _) (.cells #[.int .i64 0, .int .i64 0, .slice none 0 0] 27)))).mono ?_; rintro e w2 ⟨p2, c2, rfl, hown', hb2⟩; obtain ⟨hcz, hZ, hsz⟩ := box_kept1 hb2; have hs2 := hcz.size; obtain ⟨hy0, hy1, hy2, hv0, hv1, hv2⟩ := (HB9.out.later hcz h9).three; have hy3 := (hcz.cell (p := ⟨b, off + a * 2, none⟩) hbb).trans hc0; have hy4 := (hcz.cell (p := ⟨b, off + a * 2 + 1, none⟩) hbb).trans hc1; obtain ⟨hz0, hz1, hz2, hj0, hj1, hj2⟩ := hZ.three))
                        · go_wp2_with fail
                          go_meet
                          case rel => exact ⟨_, p2, c2, rfl, rfl, bx_new w2 [_, _, _] _, own_mono (hown'.alloc _) (by simp), hcz.alloc hs2 _, hs2⟩
                        · go_wp2_with fail
                          go_meet
                          case rel => exact ⟨_, p2, c2, rfl, rfl, bx_store3 hZ _ _ _, own_mono (own_store3 hown' (by simp) _ _ _) (by simp), below_store3 hcz (Nat.le_refl _) _ _ _, Nat.le_refl _⟩
                      case rest => as_aux_lemma =>
                        obtain ⟨g32, p2, c2, rfl, rfl, hB32, hown2, hcw, hg32⟩ := hcut
                        clear hU0 hU1 hU2 hV0 hV1 hV2 hc0 hc1
                        obtain ⟨hU0, hU1, hU2, hV0, hV1, hV2⟩ := (HB9.out.later hcw h9).three
                        obtain ⟨hX0, hX1, hX2, _, _, _⟩ := hB32.three
                        have hne : ¬ g32 = g9 := by omega
                        have hne' : ¬ g9 = g32 := by omega
                        clear HH
                        go_wp2_with fail
                        have R2 := (HR.out.later hcw).acked (by omega) (by omega) (by omega) (s'.ba + (no - s'.ba)) (s'.loads.drop (no - s'.ba)) (pl' := p2) (cl' := c2)
                          (by rw [List.length_drop]; exact own_mono hown2 HR.out.hB) (fun kk hk hk' => by
                            have h1 := (HR.out.go.lt kk hk).2
                            rw [List.length_drop] at hk'
                            have h2 := (hown2.lt kk hk').1
                            omega)
                        simp only [List.length_drop, Int.natCast_add] at R2
                        have HS2 : Hid ((s'.acked no).pk = s.pk ∧ (s'.acked no).ak = s.ak ∧ (s'.acked no).got = s.got ∧ s.ba ≤ (s'.acked no).ba) := Lib.hid ⟨HS'.out.1, HS'.out.2.1, HS'.out.2.2.1, Nat.le_trans HS'.out.2.2.2 (Nat.le_add_right _ _)⟩
                        have HP2 : Hid (m ≤ i → ∀ x ∈ s.ak.take (k + 1), x ≤ (s'.acked no).ba) := Lib.hid fun h x hx => by
                          have hak := HA.out h
                          have hq := HQ.out
                          rw [hak] at hq
                          rw [List.take_add_one, hq] at hx
                          show x ≤ s'.ba + (no - s'.ba)
                          rcases List.mem_append.1 hx with hx | hx
                          · have := HP'.out h x hx; omega
                          · have e : x = no := by simpa using hx
                            omega
                        have hT2 := ((((hbx'.later hcw hbx'.lt).other (a := ⟨g9, 0, none⟩) (by show wo.heap.size ≠ g9; omega) (.int .i64 1)).other (a := ⟨g9, 1, none⟩) (by show wo.heap.size ≠ g9; omega) (.int .i64 ((s'.ba : Int) + ((no - s'.ba : Nat) : Int)))).other (a := ⟨g9, 2, none⟩) (by show wo.heap.size ≠ g9; omega) (.slice p2 (s'.loads.length - (no - s'.ba)) c2))
                        go_roundg (N - (k + 1))
                        case measure => have := HGK2.out; omega
                        case rel => exact ⟨k + 1, s'.acked no, p2, c2, by go_num, by omega, R2, HI2.out, HS2, HP2, hT2, below_store3 (hbr'.trans (hcw.mono hbr'.size)) (by omega) _ _ _⟩
                  · as_aux_lemma =>
                    have HE1 := Lib.hid HS'.out.1
                    have HE2 := Lib.hid HS'.out.2.1
                    have HE3 := Lib.hid HS'.out.2.2.1
                    have R2 : LRep wr B w.heap.size g9 g10 s' (.slice p15 s'.pk.length c15) (.slice p16 s'.ak.length c16) (.slice p17 s'.got.length c17) pl2 cl2 := by rw [HE1.out, HE2.out, HE3.out]; exact R'
                    have hP2 : Prog l.length m (i + 1) s' := by
                      by_cases hm : i < m
                      · exact prog_early _ _ _ _ (by omega)
                      · refine prog_ack hP (HKD.out (by omega)).symm (fun x hx => ?_) HS'.out.2.2.2
                        have hNN := HN.out (by omega)
                        have hk2 : s.ak.length ≤ k := by
                          by_cases h0 : 0 < s.ak.length
                          · have : ¬ k < N := fun h => hgo ⟨h, h0⟩
                            omega
                          · omega
                        refine HP'.out (by omega) x ?_
                        rw [List.take_of_length_le hk2]; exact hx
                    by_cases hkn : k < N
                    · have h0 : ¬ 0 < s.ak.length := fun h => hgo ⟨hkn, h⟩
                      have hdk : decide ((k : Int) < (N : Int)) = true := by simp; omega
                      have hdk' : decide (k < N) = true := by simp; omega
                      have hdp : decide (0 < s.ak.length) = false := decide_eq_false h0
                      have hdp' : decide ((0 : Int) < (s.ak.length : Int)) = false := decide_eq_false (by omega)
                      clear hgo
                      go_wp2_with fail
                      go_roundg (m + more - (i + 1))
                      case measure => have := HGK.out; omega
                      case rel => exact ⟨i + 1, s', p15, p16, p17, pl2, c15, c16, c17, cl2, by go_num, by omega, by rw [HE1.out], by rw [HE2.out], by rw [HE3.out], R2, hI', hP2, by rw [HE1.out]; omega, by rw [HE2.out]; omega, hbr'⟩
                    · have hdk : decide ((k : Int) < (N : Int)) = false := by simp; omega
                      have hdk' : decide (k < N) = false := by simp; omega
                      clear hgo
                      go_wp2_with fail
                      go_roundg (m + more - (i + 1))
                      case measure => have := HGK.out; omega
                      case rel => exact ⟨i + 1, s', p15, p16, p17, pl2, c15, c16, c17, cl2, by go_num, by omega, by rw [HE1.out], by rw [HE2.out], by rw [HE3.out], R2, hI', hP2, by rw [HE1.out]; omega, by rw [HE2.out]; omega, hbr'⟩
            · go_wp2_with (first | (go_at_call 17; refine (HPK.out _).mono ?_; rintro e w2 ⟨rfl, rfl⟩))
              have hP2 : Prog l.length m (i + 1) { s with pk := [], ak := [] } := by
                by_cases hm : i < m
                · exact prog_early _ _ _ _ (by omega)
                · have := HKD.out (by omega); omega
              go_roundg (m + more - (i + 1))
              case measure => have := HGK.out; omega
              case rel => exact ⟨i + 1, { s with pk := [], ak := [] }, none, none, p17, pl', 0, 0, c17, cl', by go_num, by omega, rfl, rfl, rfl, ⟨RX.b7, RX.b9, RX.b10, RX.lo, World.ownsRow_nil _ _ _ _, World.ownsRow_nil _ _ _ _, RX.go, RX.sep, RX.hB⟩, linv_lost hI, hP2, by simp, by simp, hbrx⟩
        · have hd1 : decide ((i : Int) < (m : Int) + (more : Int)) = false := by simp; omega
          obtain ⟨x, y, z, h7⟩ := R.b7
          obtain ⟨hR0, hR1, hR2, hF0, hF1, hF2⟩ := R.b9.three
          obtain ⟨_, _, _, hG0, hG1, hG2⟩ := h7.three
          go_wp2_with fail
          go_region
          go_wp2_with fail
          obtain rfl : i = m + more := by omega
          refine bodyPost_ret (v := .tuple #[.slice p17 s.got.length c17, sndV 1 s.ba (.slice pl' s.loads.length cl'), .bool true]) ?_ rfl ⟨s, p17, c17, pl', cl', rfl, hI, hP, ?_, ?_⟩
          · rw [results_tct rfl]
            unfold sndV
            go_simp
          · exact own_drew (own_mono (own_store3 R.go (by omega) _ _ _) (by omega))
          · exact Below.drew (below_store3 hbr (Nat.le_refl _) _ _ _)
theorem lined_spec : LinedSpec := fun p q n c m d l trips more w h1 h2 h3 h4 h5 => lined_ok p q n c m d l trips more w h1 h2 h3 h4 h5
end Go.Proofs.Ytmadpjmlcooinaa
