/- The walk of the law DiskBack. -/
import Derived.Test.YtmadpjmlcooinaaDone
import Derived.Test.YtmadpjmlcooinaaRdU
import Derived.Test.YtmadpjmlcooinaaAppG
import Derived.Deep.RegionHeld3
import Derived.Deep.DeepCutAuto
namespace Go.Proofs.Ytmadpjmlcooinaa
open Go.RowKit
theorem RDk.grownG {w w' : World} {B : Nat} {v : Value} {l : List (Fl × Value)} {o : Option Nat} (h : RDk w B v l) (hg : w.grownBy w' o) (ho : ∀ k, o = some k → k < B) : RDk w' B v l :=
  ⟨h.outer.grown hg (fun k hk e => by have h1 := h.outer.2 k hk; have h2 := ho k e; omega), fun x hx => (h.inn x hx).grown hg (fun k hk e => by have h1 := (h.inn x hx).2 k hk; have h2 := ho k e; omega)⟩
theorem Bx.grownG {w w' : World} {g : Nat} {cs : List Value} {o : Option Nat} (h : Bx w g cs) (hg : w.grownBy w' o) (ho : o ≠ some g) : Bx w' g cs := by
  have hl := h.lt
  obtain ⟨t, ht⟩ := h
  exact ⟨t, by rw [hg.block g hl (fun e => ho e.symm)]; exact ht⟩
theorem own_grownG {w w' : World} {B : Nat} {e : TypeId} {v : Value} {n : Nat} {xs : List Value} {o : Option Nat} (h : w.ownsRow B e 1 v n xs) (hg : w.grownBy w' o) (ho : ∀ k, o = some k → k < B) : RdB w' B 1 v n xs :=
  (RdB.of_own h).grown hg (fun k hk e => by have h1 := (h.lt k hk).1; have h2 := ho k e; omega)
theorem same_v (p q : Option Addr) (c d n m : Nat) (a : List Nat) (w : World) (ha : IsB w (.slice p n c) a) (hb : IsB w (.slice q m d) a) :
    Calls Try.prog 31 #[.slice p n c, .slice q m d] w fun e w' => e = .returned (.bool true) ∧ w = w' :=
  (sameBytes_any p q c d n m a a w ha hb).mono (by rintro e w' ⟨rfl, h⟩; exact ⟨by simp, h⟩)
set_option linter.unusedVariables false in
set_option maxHeartbeats 8000000 in
set_option maxRecDepth 100000 in
theorem diskBack_walk (w : World) (v0 : Value) (L : List Nt) (h0 : IsNt w v0 L) (x : Int) (hx0 : -9223372036854775808 ≤ x) (hx1 : x ≤ 9223372036854775807) (v2 : Value) (P : List Nat) (h2 : IsB w v2 P) (z : Int) (hz0 : -9223372036854775808 ≤ z) (hz1 : z ≤ 9223372036854775807) :
    Calls Try.prog 9 #[v0, .int .i64 x, v2, .int .i64 z] w fun e w' => e = .returned (.bool true) ∧ Below w.heap.size w w' := by
  have HDN := Lib.hid (done_ok v0 L w h0)
  have HNX := Lib.hid (fun w' => name_ok x w' hx0 hx1)
  have HNZ := Lib.hid (fun w' => name_ok z w' hz0 hz1)
  obtain ⟨p0, c0, rfl, _⟩ := h0.val
  obtain ⟨p2, c2, rfl⟩ := h2.val
  have hsm := fun W (hW : Below w.heap.size w W) => some_any p2 c2 _ P 30 W (h2.later hW) (by omega)
  rw [show ((30:Nat):Int) = 30 from rfl] at hsm
  have HSM := Lib.hid hsm
  have hb30 : (P.take 30).length ≤ 30 := List.length_take_le _ _
  have HAB := Lib.hid (show AllB (P.take 30) from fun x hx => h2.2 x (List.mem_of_mem_take hx))
  clear h0 h2 hsm
  have hxa := pickN_lt x (m := 4) (by omega)
  have hza := pickN_lt z (m := 4) (by omega)
  generalize pickN x 4 = a at *
  generalize pickN z 4 = o at *
  generalize P.take 30 = b at *
  go_enter Try.func9, Try.ntmps9
  go_wp2_with fail
  refine HDN.out.mono ?_; rintro e w1 ⟨p, c, l, rfl, HD, hR, hb1⟩
  obtain ⟨b2, B2, z2⟩ := boxed0 w1 [.slice p l.length c] 75
  have hR2 := hR.later b2
  have hb2 := below_next hb1 (Nat.le_refl _) b2
  go_wp2_with fail
  generalize (w1.alloc (.cells #[.slice p l.length c] 75)) = w2 at *
  refine (HSM.out _ hb2).mono ?_; rintro e w3 ⟨p3, c3, rfl, ho3, hb3⟩
  have HB3 := Lib.hid (B2.next hb3)
  have HR3 := Lib.hid (hR2.later hb3)
  have hw3 := Lib.hid (below_next hb2 (Nat.le_refl _) hb3)
  have HO3 := Lib.hid (own_mono ho3 (Nat.zero_le _))
  have HDK := Lib.hid (HD.out.dk (by omega))
  obtain ⟨gd, hgd⟩ : ∃ gd, gd = w1.heap.size := ⟨_, rfl⟩
  rw [← hgd] at HB3 ⊢
  have HDB := Lib.hid (fun (W : World) (hW : Below w3.heap.size w3 W) => (show W.cell? ⟨gd, 0, none⟩ = some (.slice p l.length c) from (HB3.out.next hW).one))
  have HRD := Lib.hid (fun (W : World) (hW : Below w3.heap.size w3 W) => read_o 20 (nmC a) _ l (rdF (l.map (·.1)) (nmC a)) W ((HR3.out.later hW).mono (Nat.zero_le _)) HD.out (by omega) rfl)
  have HRO := Lib.hid (fun (W : World) (hW : Below w3.heap.size w3 W) => read_o 20 (nmC o) _ l (rdF (l.map (·.1)) (nmC o)) W ((HR3.out.later hW).mono (Nat.zero_le _)) HD.out (by omega) rfl)
  have HAP := Lib.hid (fun (W : World) (hW : Below w3.heap.size w3 W) => append_any 20 (nmC a) _ l b p3 c3 W ((HR3.out.later hW).mono (Nat.zero_le _)) HD.out (by omega) (nmC_ok hxa) (Sl.of_own (own_later HO3.out hW)) hb30)
  have HRF := Lib.hid (rdF_apF (l.map (·.1)) (nmC a) b)
  have HRG := Lib.hid (fun h : a ≠ o => rdF_apF_ne (l.map (·.1)) (nmC a) (nmC o) b (fun e => h (nmC_inj hxa hza e)))
  have HAO := Lib.hid (HD.out.rd_le (nmC a)).1
  have hold := (HD.out.rd_le (nmC a)).2
  have HAX := Lib.hid (HD.out.rd_le (nmC o)).1
  have HAP2 := Lib.hid (HD.out.ap (c := a) hxa hb30 HAB.out)
  clear hgd hR hR2 hb1 hb2 hb3 b2 B2 z2 ho3
  have hcur : Below w3.heap.size w3 w3 := Below.refl _ _
  have hk0 := HDB.out w3 hcur
  have her := erO_or (rdF (l.map (·.1)) (nmC a))
  obtain ⟨er, hero⟩ : ∃ er, er = erO (rdF (l.map (·.1)) (nmC a)) := ⟨_, rfl⟩
  rw [← hero] at HRD her
  clear hero
  go_upto_region 3 with fail
  go_region_held3 (fun w' => w'.cell? ⟨gd, 0, none⟩ = some (Value.slice p l.length c)) (first | (exact hk0) | go_keep)
    (first
      | (go_at_call 29; refine (HNX.out _).mono ?_; rintro e wn ⟨rfl, hbn⟩; (first | (replace hcur := below_next hcur (Nat.le_refl _) hbn) | (replace hcur := below_next hcur.drew (Nat.le_refl _) hbn)); have hk0 := HDB.out wn hcur)
      | (go_at_call 28; refine (HRD.out _ hcur).mono ?_; rintro e w4 ⟨q4, c4, rfl, H4, hb4⟩; have hpre := hcur.size; (replace hcur := below_next hcur (Nat.le_refl _) hb4); have hk0 := HDB.out w4 hcur))
  have HOLD := Lib.hid (own_mono H4.out hpre)
  have hlt4 := Lib.hid (fun k hk => (HOLD.out.lt k hk).2)
  generalize hLo : (rdF (l.map (·.1)) (nmC a)).getD [] = Lo at *
  have HLo := Lib.hid hLo
  clear hLo H4 HRD hpre hb4
  have hc4 := Lib.hid hcur
  have hgd4 : gd < w4.heap.size := Nat.lt_of_lt_of_le HB3.out.lt hc4.out.size
  have hn1 : ¬ gd = w4.heap.size := by omega
  have hn2 : ¬ w4.heap.size = gd := by omega
  replace hcur : Below w4.heap.size w4 w4 := Below.refl _ _
  go_upto_region 4 with fail
  go_cut [14, 15] (fun s1 s2 wx => ∃ (gq : Nat) (pq : Option Addr) (cq : Nat) (lq : List (Fl × Value)), s1 = .pointer (some ⟨gq, 0, none⟩) ∧ s2 = .int .i64 0 ∧ Bx wx gq [.slice pq lq.length cq] ∧ w4.heap.size ≤ gq ∧ Hid (lq.map (·.1) = apF (l.map (·.1)) (nmC a) b) ∧ RDk wx w4.heap.size (.slice pq lq.length cq) lq ∧ Below w4.heap.size w4 wx)
  case first =>
    go_region_held3 (fun w' => w'.cell? ⟨gd, 0, none⟩ = some (Value.slice p l.length c)) (first | (exact hk0) | go_keep)
      (first
        | (go_at_call 29; refine (HNX.out (w4.drew)).mono ?_; rintro e wn ⟨rfl, hbn⟩; replace hcur := below_next hcur.drew (Nat.le_refl _) hbn; have hn3 : ¬ gd = wn.heap.size := (by have := hcur.size; omega); have hn4 : ¬ wn.heap.size = gd := (by have := hcur.size; omega); have hk0 := HDB.out wn (hc4.out.trans (hcur.mono hc4.out.size)))
        | (go_at_call 29; refine (HNX.out (w4.alloc (.cells #[.slice none 0 0] 75)).drew).mono ?_; rintro e wn ⟨rfl, hbn⟩; replace hcur := below_next (alloc_below w4 _).drew (Nat.le_refl _) hbn; have hbz := Bx.next (show Bx (w4.alloc (.cells #[.slice none 0 0] 75)).drew w4.heap.size [.slice none 0 0] from bx_new w4 _ _) hbn; have hk0 := HDB.out wn (hc4.out.trans (hcur.mono hc4.out.size)))
        | (go_at_call 30; refine (HAP.out _ (hc4.out.trans (hcur.mono hc4.out.size))).mono ?_; rintro e w5 ⟨p5, c5, l5, rfl, hm5, hr5, hb5⟩; have hpre := hcur.size; replace hcur := below_next hcur (Nat.le_refl _) hb5; (first | (replace hbz := hbz.next hb5; have hbz' := hbz; obtain ⟨tz, htz⟩ := hbz'; have hzf : w5.frozen? ⟨w4.heap.size, 0, none⟩ = false := (by simp [World.frozen?, htz]); have hzc : w5.cell? ⟨w4.heap.size, 0, none⟩ = some (.slice none 0 0) := (by simp [World.cell?, htz])) | skip); have hk0 := HDB.out w5 (hc4.out.trans (hcur.mono hc4.out.size)))
        | (go_at_call 30; refine (HAP.out _ (hc4.out.trans ((below_next hcur (Nat.le_refl _) (alloc_below wn _)).mono hc4.out.size))).mono ?_; rintro e w5 ⟨p5, c5, l5, rfl, hm5, hr5, hb5⟩; have hpre := Nat.le_trans hcur.size (alloc_below wn (.cells #[.slice none 0 0] 75)).size; have hpn := hcur.size; replace hcur := below_next (below_next hcur (Nat.le_refl _) (alloc_below wn (.cells #[.slice none 0 0] 75))) (Nat.le_refl _) hb5; have hbz := Bx.next (show Bx (wn.alloc (.cells #[.slice none 0 0] 75)) wn.heap.size [.slice none 0 0] from bx_new wn _ _) hb5; have hbz' := hbz; obtain ⟨tz, htz⟩ := hbz'; have hzf : w5.frozen? ⟨wn.heap.size, 0, none⟩ = false := (by simp [World.frozen?, htz]); have hzc : w5.cell? ⟨wn.heap.size, 0, none⟩ = some (.slice none 0 0) := (by simp [World.cell?, htz]); have hk0 := HDB.out w5 (hc4.out.trans (hcur.mono hc4.out.size))))
    all_goals go_wp2_with fail
    all_goals go_meet
    case rel => exact ⟨_, p5, c5, l5, rfl, rfl, bx_new w5 _ _, hcur.size, hm5, ((hr5.mono hpre).later (alloc_below _ _)), hcur.trans ((alloc_below _ _).mono hcur.size)⟩
    case rel => exact ⟨_, p5, c5, l5, rfl, rfl, Bx.setc hbz 0 _, hpn, hm5, (hr5.setCell (by simp) _).mono hpre, hcur.setCell hpn _⟩
    case rel => exact ⟨_, p5, c5, l5, rfl, rfl, Bx.setc hbz 0 _, Nat.le_refl _, hm5, (hr5.setCell (by have := hbn.size; simp at this; show w4.heap.size < _; omega) _).mono hpre, hcur.setCell (Nat.le_refl _) _⟩
  case rest =>
  obtain ⟨g2, p5, c5, l5, rfl, rfl, Bq, hg2, hm5, hr5, hb45⟩ := hcut
  obtain ⟨w5, rfl⟩ : ∃ w5 : World, w5 = wc := ⟨_, rfl⟩
  have HC5 := Lib.hid (hc4.out.trans (hb45.mono hc4.out.size))
  have HB5 := Lib.hid Bq
  have HR5 := Lib.hid hr5
  have hpos5 : 0 < l5.length := by have := congrArg List.length hm5.out; rw [List.length_map] at this; rw [this]; exact apF_pos _ _ _
  have hpi5 : (0 : Int) < (l5.length : Int) := by omega
  have HD5 := Lib.hid (show DnOk 21 (l5.map (·.1)) by rw [hm5.out]; exact HAP2.out)
  have HOLD5 := Lib.hid (own_later HOLD.out hb45)
  have HBW := Lib.hid (own_later HO3.out HC5.out)
  have HNL := Lib.hid (fun (W : World) (hW : Below w5.heap.size w5 W) => (show W.cell? ⟨gd, 0, none⟩ = some (.slice p l.length c) ∧ W.cell? ⟨g2, 0, none⟩ = some (.slice p5 l5.length c5) from ⟨HDB.out W (HC5.out.trans (hW.mono HC5.out.size)), (HB5.out.next hW).one⟩))
  have HRN := Lib.hid (fun (W : World) (hW : Below w5.heap.size w5 W) => (show Calls Try.prog 28 #[.agg #[.slice p5 l5.length c5], .string (nmC a)] W fun e w' => ∃ q c, e = .returned (.tuple #[.slice q (Lo ++ b).length c, .int .i64 0]) ∧ Hid (w'.ownsRow W.heap.size 5 1 (.slice q (Lo ++ b).length c) (Lo ++ b).length (bys (Lo ++ b))) ∧ Below W.heap.size W w' from read_o 21 (nmC a) _ l5 (some (Lo ++ b)) W ((HR5.out.later hW).mono (Nat.zero_le _)) HD5.out (by omega) (by rw [hm5.out, HRF.out])))
  have HAN := Lib.hid (show AllB (Lo ++ b) from fun x hx => (List.mem_append.1 hx).elim (HAO.out x) (HAB.out x))
  have hlN : Lo.length ≤ 600 := by omega
  have hg35 := Nat.le_trans hc4.out.size hb45.size
  replace hcur : Below w5.heap.size w5 w5 := Below.refl _ _
  obtain ⟨hk0, hk2⟩ := HNL.out w5 hcur
  have HG2 := Lib.hid hg2
  clear Bq hr5 hb45 HAP HAP2 HOLD HRF hn1 hn2 hg2 hold HO3 hg35
  go_upto_region 5 with fail
  go_region_held3 (fun w' => w'.cell? ⟨g2, 0, none⟩ = some (Value.slice p5 l5.length c5)) (first | (exact hk2) | go_keep)
    (first
      | (go_at_call 29; refine (HNX.out _).mono ?_; rintro e wn ⟨rfl, hbn⟩; (first | (replace hcur := below_next hcur (Nat.le_refl _) hbn) | (replace hcur := below_next hcur.drew (Nat.le_refl _) hbn)); obtain ⟨hk0, hk2⟩ := HNL.out wn hcur)
      | (go_at_call 28; refine (HRN.out _ hcur).mono ?_; rintro e w6 ⟨q6, c6, rfl, H6, hb6⟩; have hpre := hcur.size; have HL6 := Lib.hid (own_later HOLD5.out (below_next hcur (Nat.le_refl _) hb6)); (replace hcur := below_next hcur (Nat.le_refl _) hb6); obtain ⟨hk0, hk2⟩ := HNL.out w6 hcur))
  go_upto_region 6 with fail
  have hne5 : ¬ l5 = [] := (by intro e; rw [e] at hpos5; exact absurd hpos5 (by decide))
  have HN6 := Lib.hid (own_mono H6.out hpre)
  have HB6 := Lib.hid (own_later HBW.out hcur)
  have hb36 := Lib.hid (HC5.out.trans (hcur.mono HC5.out.size))
  have hs36 := Lib.hid hb36.out.size
  have HX6 := Lib.hid (HB5.out.next hcur)
  have HR6 := Lib.hid (HR5.out.later hcur)
  have hs45 : w4.heap.size ≤ w5.heap.size := Nat.le_trans HG2.out (Nat.le_of_lt HB5.out.lt)
  have HS45 := Lib.hid hs45
  have hs45i : w4.heap.size ≤ w5.heap.size := hs45
  clear hs45 hs45i H6 hpre hb6 HRN HOLD5 HBW HDK
  rcases her with rfl | rfl
  · have hcur : w6 = w6 := rfl
    clear hcur
    go_wp2_with (first
      | (go_at_call 31; refine (same_v _ _ _ _ _ _ _ _ I7.out J7.out).mono ?_; rintro e w' ⟨rfl, rfl⟩)
      | (at_builtin; refine wp_appG (w0 := w3) (by first | rfl | (simp [Region.wanted, yielded, hne5])) _ _ _ rfl w3.heap.size 5 Try.underlying72 inf_u8 rfl (by decide) rfl HL6.out rfl (Sl.of_own HB6.out) (bys_one _) (by unfold maxLen; omega) (by omega) hb36.out hs36.out ?_; intro p7 c7 w7 ho7 hb37 hsz7 hg7 _; have J7 := Lib.hid (IsB.of_own (l := Lo ++ b) (show w7.ownsRow w3.heap.size 5 1 (.slice p7 (Lo.length + b.length) c7) (Lo.length + b.length) (bys (Lo ++ b)) from (by rw [show bys (Lo ++ b) = bys Lo ++ bys b from by simp [bys]]; exact ho7)) HAN.out); have I7 := Lib.hid (show IsB w7 (.slice q6 (Lo.length + b.length) c6) (Lo ++ b) from by rw [← List.length_append]; exact ⟨(own_grownG HN6.out hg7 (fun k hk => Nat.lt_of_lt_of_le (hlt4.out k hk) HS45.out)).1, HAN.out⟩); have B7 := Lib.hid (HX6.out.grownG hg7 (fun e => absurd (hlt4.out _ e) (Nat.not_lt.2 HG2.out))); have R7 := Lib.hid (HR6.out.grownG hg7 hlt4.out); have hk2 := B7.out.one; have hk0 := HDB.out w7 hb37; have H37 := Lib.hid hb37; clear ho7 hsz7 hg7 hb37))
    refine (HNZ.out _).mono ?_; rintro e w8 ⟨rfl, hb8⟩
    have h38 := Lib.hid (below_next H37.out (Nat.le_refl _) hb8)
    have R8 := Lib.hid (R7.out.later hb8)
    have B8 := Lib.hid (B7.out.next hb8)
    clear I7 J7 hb8
    go_wp2_with fail
    refine (HNX.out _).mono ?_; rintro e w9 ⟨rfl, hb9⟩
    have h39 := Lib.hid (below_next h38.out (Nat.le_refl _) hb9)
    have R9 := Lib.hid (R8.out.later hb9)
    have B9 := Lib.hid (B8.out.next hb9)
    have hk0 := HDB.out w9 h39.out
    have hk2 := B9.out.one
    clear hb9 h38 R8 B8 R7 B7
    by_cases hao : a = o
    · have hbe : ((nmC o).toList == (nmC a).toList) = true := by rw [hao]; simp
      go_wp2_with fail
      go_ret
      exact ⟨rfl, hw3.out.trans (h39.out.mono hw3.out.size)⟩
    · have hbe : ((nmC o).toList == (nmC a).toList) = false := by
        have : (nmC o).toList ≠ (nmC a).toList := fun h => hao (nmC_inj hza hxa h).symm
        simp [this]
      have HRP := Lib.hid (fun (W : World) (hW : Below w9.heap.size w9 W) => read_o 21 (nmC o) _ l5 (rdF (l.map (·.1)) (nmC o)) W ((R9.out.later hW).mono (Nat.zero_le _)) HD5.out (by omega) (by rw [hm5.out]; exact HRG.out hao))
      have h93 := Lib.hid (fun (W : World) (hW : Below w9.heap.size w9 W) => h39.out.trans (hW.mono h39.out.size))
      have HCK := Lib.hid (fun (W : World) (hW : Below w9.heap.size w9 W) => (show W.cell? ⟨gd, 0, none⟩ = some (.slice p l.length c) ∧ W.cell? ⟨g2, 0, none⟩ = some (.slice p5 l5.length c5) from ⟨HDB.out W (h93.out W hW), (B9.out.next hW).one⟩))
      have hcur : Below w9.heap.size w9 w9 := Below.refl _ _
      clear hao HRG
      generalize (rdF (l.map (·.1)) (nmC o)).getD [] = Lx at *
      generalize erO (rdF (l.map (·.1)) (nmC o)) = ex at *
      go_upto_region 10 with fail
      go_region_held3 (fun w' => w'.cell? ⟨gd, 0, none⟩ = some (Value.slice p l.length c)) (first | (exact hk0) | go_keep)
        (first
          | (go_at_call 29; refine (HNZ.out _).mono ?_; rintro e wn ⟨rfl, hbn⟩; (first | (replace hcur := below_next hcur (Nat.le_refl _) hbn) | (replace hcur := below_next hcur.drew (Nat.le_refl _) hbn)); obtain ⟨hk0, hk2⟩ := HCK.out wn hcur)
          | (go_at_call 28; refine (HRO.out _ (h93.out _ hcur)).mono ?_; rintro e w10 ⟨q10, c10, rfl, H10, hb10⟩; have K10 := Lib.hid (isB_own H10.out HAX.out); (replace hcur := below_next hcur (Nat.le_refl _) hb10); obtain ⟨hk0, hk2⟩ := HCK.out w10 hcur))
      have hc10 := Lib.hid hcur
      replace hcur : Below w10.heap.size w10 w10 := Below.refl _ _
      clear H10
      go_upto_region 11 with fail
      go_region_held3 (fun w' => w'.cell? ⟨g2, 0, none⟩ = some (Value.slice p5 l5.length c5)) (first | (exact hk2) | go_keep)
        (first
          | (go_at_call 29; refine (HNZ.out _).mono ?_; rintro e wn ⟨rfl, hbn⟩; (first | (replace hcur := below_next hcur (Nat.le_refl _) hbn) | (replace hcur := below_next hcur.drew (Nat.le_refl _) hbn)); obtain ⟨hk0, hk2⟩ := HCK.out wn (hc10.out.trans (hcur.mono hc10.out.size)))
          | (go_at_call 28; refine (HRP.out _ (hc10.out.trans (hcur.mono hc10.out.size))).mono ?_; rintro e w11 ⟨q11, c11, rfl, H11, hb11⟩; have K11 := Lib.hid (isB_own H11.out HAX.out); (replace hcur := below_next hcur (Nat.le_refl _) hb11); have L10 := Lib.hid (K10.out.later hcur); obtain ⟨hk0, hk2⟩ := HCK.out w11 (hc10.out.trans (hcur.mono hc10.out.size))))
      have h3f := Lib.hid (h93.out _ (hc10.out.trans (hcur.mono hc10.out.size)))
      clear H11
      go_wp2_with (go_at_call 31; refine (same_v _ _ _ _ _ _ _ _ L10.out K11.out).mono ?_; rintro e w' ⟨rfl, rfl⟩)
      go_ret
      exact ⟨rfl, hw3.out.trans (h3f.out.mono hw3.out.size)⟩
  · have hcur : w6 = w6 := rfl
    clear hcur
    go_wp2_with (first
      | (go_at_call 31; refine (same_v _ _ _ _ _ _ _ _ I7.out J7.out).mono ?_; rintro e w' ⟨rfl, rfl⟩)
      | (at_builtin; refine wp_appG (w0 := w3) (by first | rfl | (simp [Region.wanted, yielded, hne5])) _ _ _ rfl w3.heap.size 5 Try.underlying72 inf_u8 rfl (by decide) rfl HL6.out rfl (Sl.of_own HB6.out) (bys_one _) (by unfold maxLen; omega) (by omega) hb36.out hs36.out ?_; intro p7 c7 w7 ho7 hb37 hsz7 hg7 _; have J7 := Lib.hid (IsB.of_own (l := Lo ++ b) (show w7.ownsRow w3.heap.size 5 1 (.slice p7 (Lo.length + b.length) c7) (Lo.length + b.length) (bys (Lo ++ b)) from (by rw [show bys (Lo ++ b) = bys Lo ++ bys b from by simp [bys]]; exact ho7)) HAN.out); have I7 := Lib.hid (show IsB w7 (.slice q6 (Lo.length + b.length) c6) (Lo ++ b) from by rw [← List.length_append]; exact ⟨(own_grownG HN6.out hg7 (fun k hk => Nat.lt_of_lt_of_le (hlt4.out k hk) HS45.out)).1, HAN.out⟩); have B7 := Lib.hid (HX6.out.grownG hg7 (fun e => absurd (hlt4.out _ e) (Nat.not_lt.2 HG2.out))); have R7 := Lib.hid (HR6.out.grownG hg7 hlt4.out); have hk2 := B7.out.one; have hk0 := HDB.out w7 hb37; have H37 := Lib.hid hb37; clear ho7 hsz7 hg7 hb37))
    refine (HNZ.out _).mono ?_; rintro e w8 ⟨rfl, hb8⟩
    have h38 := Lib.hid (below_next H37.out (Nat.le_refl _) hb8)
    have R8 := Lib.hid (R7.out.later hb8)
    have B8 := Lib.hid (B7.out.next hb8)
    clear I7 J7 hb8
    go_wp2_with fail
    refine (HNX.out _).mono ?_; rintro e w9 ⟨rfl, hb9⟩
    have h39 := Lib.hid (below_next h38.out (Nat.le_refl _) hb9)
    have R9 := Lib.hid (R8.out.later hb9)
    have B9 := Lib.hid (B8.out.next hb9)
    have hk0 := HDB.out w9 h39.out
    have hk2 := B9.out.one
    clear hb9 h38 R8 B8 R7 B7
    by_cases hao : a = o
    · have hbe : ((nmC o).toList == (nmC a).toList) = true := by rw [hao]; simp
      go_wp2_with fail
      go_ret
      exact ⟨rfl, hw3.out.trans (h39.out.mono hw3.out.size)⟩
    · have hbe : ((nmC o).toList == (nmC a).toList) = false := by
        have : (nmC o).toList ≠ (nmC a).toList := fun h => hao (nmC_inj hza hxa h).symm
        simp [this]
      have HRP := Lib.hid (fun (W : World) (hW : Below w9.heap.size w9 W) => read_o 21 (nmC o) _ l5 (rdF (l.map (·.1)) (nmC o)) W ((R9.out.later hW).mono (Nat.zero_le _)) HD5.out (by omega) (by rw [hm5.out]; exact HRG.out hao))
      have h93 := Lib.hid (fun (W : World) (hW : Below w9.heap.size w9 W) => h39.out.trans (hW.mono h39.out.size))
      have HCK := Lib.hid (fun (W : World) (hW : Below w9.heap.size w9 W) => (show W.cell? ⟨gd, 0, none⟩ = some (.slice p l.length c) ∧ W.cell? ⟨g2, 0, none⟩ = some (.slice p5 l5.length c5) from ⟨HDB.out W (h93.out W hW), (B9.out.next hW).one⟩))
      have hcur : Below w9.heap.size w9 w9 := Below.refl _ _
      clear hao HRG
      generalize (rdF (l.map (·.1)) (nmC o)).getD [] = Lx at *
      generalize erO (rdF (l.map (·.1)) (nmC o)) = ex at *
      go_upto_region 10 with fail
      go_region_held3 (fun w' => w'.cell? ⟨gd, 0, none⟩ = some (Value.slice p l.length c)) (first | (exact hk0) | go_keep)
        (first
          | (go_at_call 29; refine (HNZ.out _).mono ?_; rintro e wn ⟨rfl, hbn⟩; (first | (replace hcur := below_next hcur (Nat.le_refl _) hbn) | (replace hcur := below_next hcur.drew (Nat.le_refl _) hbn)); obtain ⟨hk0, hk2⟩ := HCK.out wn hcur)
          | (go_at_call 28; refine (HRO.out _ (h93.out _ hcur)).mono ?_; rintro e w10 ⟨q10, c10, rfl, H10, hb10⟩; have K10 := Lib.hid (isB_own H10.out HAX.out); (replace hcur := below_next hcur (Nat.le_refl _) hb10); obtain ⟨hk0, hk2⟩ := HCK.out w10 hcur))
      have hc10 := Lib.hid hcur
      replace hcur : Below w10.heap.size w10 w10 := Below.refl _ _
      clear H10
      go_upto_region 11 with fail
      go_region_held3 (fun w' => w'.cell? ⟨g2, 0, none⟩ = some (Value.slice p5 l5.length c5)) (first | (exact hk2) | go_keep)
        (first
          | (go_at_call 29; refine (HNZ.out _).mono ?_; rintro e wn ⟨rfl, hbn⟩; (first | (replace hcur := below_next hcur (Nat.le_refl _) hbn) | (replace hcur := below_next hcur.drew (Nat.le_refl _) hbn)); obtain ⟨hk0, hk2⟩ := HCK.out wn (hc10.out.trans (hcur.mono hc10.out.size)))
          | (go_at_call 28; refine (HRP.out _ (hc10.out.trans (hcur.mono hc10.out.size))).mono ?_; rintro e w11 ⟨q11, c11, rfl, H11, hb11⟩; have K11 := Lib.hid (isB_own H11.out HAX.out); (replace hcur := below_next hcur (Nat.le_refl _) hb11); have L10 := Lib.hid (K10.out.later hcur); obtain ⟨hk0, hk2⟩ := HCK.out w11 (hc10.out.trans (hcur.mono hc10.out.size))))
      have h3f := Lib.hid (h93.out _ (hc10.out.trans (hcur.mono hc10.out.size)))
      clear H11
      go_wp2_with (go_at_call 31; refine (same_v _ _ _ _ _ _ _ _ L10.out K11.out).mono ?_; rintro e w' ⟨rfl, rfl⟩)
      go_ret
      exact ⟨rfl, hw3.out.trans (h3f.out.mono hw3.out.size)⟩
end Go.Proofs.Ytmadpjmlcooinaa
