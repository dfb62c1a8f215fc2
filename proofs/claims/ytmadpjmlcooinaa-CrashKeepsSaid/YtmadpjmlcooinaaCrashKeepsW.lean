/- The walk of the law CrashKeeps. -/
import Derived.Test.YtmadpjmlcooinaaDone
import Derived.Test.YtmadpjmlcooinaaRdU
import Derived.Test.YtmadpjmlcooinaaPKeep
import Derived.Test.YtmadpjmlcooinaaHeldX
import Derived.Deep.RegionHeld3
import Derived.Deep.DeepCutAuto
namespace Go.Proofs.Ytmadpjmlcooinaa
open Go.RowKit
theorem same_w (p q : Option Addr) (c d n m : Nat) (a : List Nat) (w : World) (ha : IsB w (.slice p n c) a) (hb : IsB w (.slice q m d) a) :
    Calls Try.prog 31 #[.slice p n c, .slice q m d] w fun e w' => e = .returned (.bool true) ∧ w = w' :=
  (sameBytes_any p q c d n m a a w ha hb).mono (by rintro e w' ⟨rfl, h⟩; exact ⟨by simp, h⟩)
set_option linter.unusedVariables false in
set_option maxHeartbeats 8000000 in
set_option maxRecDepth 100000 in
theorem crashKeeps_walk (w : World) (v0 : Value) (L : List Nt) (h0 : IsNt w v0 L) (x : Int) (hx0 : -9223372036854775808 ≤ x) (hx1 : x ≤ 9223372036854775807) (v2 : Value) (P : List Nat) (h2 : IsB w v2 P) (v3 : Value) (Q : List Nat) (h3 : IsB w v3 Q) (z : Int) (hz0 : -9223372036854775808 ≤ z) (hz1 : z ≤ 9223372036854775807) :
    Calls Try.prog 11 #[v0, .int .i64 x, v2, v3, .int .i64 z] w fun e w' => e = .returned (.bool true) ∧ Below w.heap.size w w' := by
  have HDN := Lib.hid (done_ok v0 L w h0)
  have HNX := Lib.hid (fun w' => name_ok x w' hx0 hx1)
  have HPZ := Lib.hid (fun w' => picked_i z 40 40 w' rfl hz0 hz1 (by omega) (by omega))
  obtain ⟨p0, c0, rfl, _⟩ := h0.val
  obtain ⟨p2, c2, rfl⟩ := h2.val
  obtain ⟨p3, c3, rfl⟩ := h3.val
  have hsm := fun W (hW : Below w.heap.size w W) => some_any p2 c2 _ P 30 W (h2.later hW) (by omega)
  rw [show ((30:Nat):Int) = 30 from rfl] at hsm
  have HSM1 := Lib.hid hsm
  have hsn := fun W (hW : Below w.heap.size w W) => some_any p3 c3 _ Q 30 W (h3.later hW) (by omega)
  rw [show ((30:Nat):Int) = 30 from rfl] at hsn
  have HSM2 := Lib.hid hsn
  have hb30 : (P.take 30).length ≤ 30 := List.length_take_le _ _
  have hb31 : (Q.take 30).length ≤ 30 := List.length_take_le _ _
  have HAB := Lib.hid (show AllB (P.take 30) from fun x hx => h2.2 x (List.mem_of_mem_take hx))
  have HAB2 := Lib.hid (show AllB (Q.take 30) from fun x hx => h3.2 x (List.mem_of_mem_take hx))
  clear h0 h2 h3 hsm hsn
  have hxa := pickN_lt x (m := 4) (by omega)
  have hza := pickN_lt z (m := 40) (by omega)
  generalize pickN x 4 = a at *
  generalize pickN z 40 = k at *
  generalize P.take 30 = b at *
  generalize Q.take 30 = b2 at *
  go_enter Try.func11, Try.ntmps11
  go_wp2_with fail
  refine HDN.out.mono ?_; rintro e w1 ⟨p, c, l, rfl, HD, hR, hb1⟩
  obtain ⟨Bz, B2, z2⟩ := boxed0 w1 [.slice p l.length c] 75
  have hR2 := hR.later Bz
  have hb2 := below_next hb1 (Nat.le_refl _) Bz
  obtain ⟨Sx, hSx⟩ : ∃ Sx, Sx = (rdF (l.map (·.1)) (nmC a)).getD [] ++ b := ⟨_, rfl⟩
  have HSX := Lib.hid hSx
  have HAO := Lib.hid (HD.out.rd_le (nmC a)).1
  have hold := (HD.out.rd_le (nmC a)).2
  have HAS := Lib.hid (show AllB Sx from fun x hx => by rw [hSx] at hx; exact (List.mem_append.1 hx).elim (HAO.out x) (HAB.out x))
  have hls : Sx.length ≤ 700 := by rw [hSx, List.length_append]; omega
  obtain ⟨T, hT⟩ : ∃ T, T = Sx ++ b2 := ⟨_, rfl⟩
  have HT := Lib.hid hT
  have HTL := Lib.hid (show T.length = Sx.length + b2.length by rw [hT, List.length_append])
  have HAT := Lib.hid (show AllB T from fun x hx => by rw [hT] at hx; exact (List.mem_append.1 hx).elim (HAS.out x) (HAB2.out x))
  clear hT
  clear hSx HAO hold
  go_upto_region 2 with fail
  have hgw : w.heap.size ≤ w1.heap.size := hb1.size
  generalize (w1.alloc (.cells #[.slice p l.length c] 75)) = w2 at *
  generalize w1.heap.size = gd at *
  have HB2 := Lib.hid hb2
  have B2 := Lib.hid B2
  have R2 := Lib.hid (hR2.mono (Nat.zero_le _))
  clear hR hR2 hb1 hb2 Bz z2
  go_upto_region 2 with fail
  have hk0 : w2.drew.cell? ⟨gd, 0, none⟩ = some (.slice p l.length c) := B2.out.one
  obtain ⟨S, hSI⟩ : ∃ S : World → Prop, ∀ w', S w' ↔ (w'.cell? ⟨gd, 0, none⟩ = some (Value.slice p l.length c)) := ⟨fun w' => _, fun w' => Iff.rfl⟩
  have HSI := Lib.hid hSI
  clear hSI
  refine wp_region_X S [5, 6, 7, 8, 9, 10] (by kernel_rfl) ((HSI.out _).2 hk0) (fun hS => ?_)
  clear hk0
  refine wpAnyX_take 0 [5, 6, 7, 8, 9, 10] (v := ?_) rfl rfl (by kernel_rfl) (by kernel_rfl) (by kernel_rfl) (by kernel_rfl) (by kernel_rfl) (by kernel_rfl) (fun _ _ _ h => h) (Or.inl ⟨by rfl, ?_⟩) hS ?_; rotate_left; · intro w hSw; have hz0 := (HSI.out w).1 hSw; go_simp <;> with_reducible rfl
  try simp only [Act.put, List.setIfInBounds_toArray, List.set_cons_zero, List.set_cons_succ]
  refine wpAnyX_take 1 [2, 4, 5, 6, 7, 8, 9, 10] (v := ?_) rfl rfl (by kernel_rfl) (by kernel_rfl) (by kernel_rfl) (by kernel_rfl) (by kernel_rfl) (by kernel_rfl) (fun _ _ _ h => h) (Or.inl ⟨by rfl, ?_⟩) hS ?_; rotate_left; · intro w hSw; have hz0 := (HSI.out w).1 hSw; go_simp <;> with_reducible rfl
  try simp only [Act.put, List.setIfInBounds_toArray, List.set_cons_zero, List.set_cons_succ]
  refine wpAnyX_take 3 [4, 5, 6, 7, 8, 9, 10] (v := ?_) rfl rfl (by kernel_rfl) (by kernel_rfl) (by kernel_rfl) (by kernel_rfl) (by kernel_rfl) (by kernel_rfl) (fun _ _ _ h => h) (Or.inl ⟨by rfl, ?_⟩) hS ?_; rotate_left; · intro w hSw; have hz0 := (HSI.out w).1 hSw; go_simp <;> with_reducible rfl
  try simp only [Act.put, List.setIfInBounds_toArray, List.set_cons_zero, List.set_cons_succ]
  have hcur : Below w2.heap.size w2 w2.drew := (Below.refl _ _).drew
  refine wpAnyX_one 2 rfl rfl (by kernel_rfl) ?_; intro K hK; rw [if_pos (by rfl)]
  go_simp
  (go_at_call 29; refine (HNX.out _).mono ?_; rintro e wn ⟨rfl, hbn⟩)
  go_wp2_with fail
  replace hcur := below_next hcur (Nat.le_refl _) hbn
  replace hS := (HSI.out _).2 (B2.out.next hcur).one
  refine hK.out _ _ (fun _ => hS) ?_; clear hK K hbn
  try simp only [Act.put, List.setIfInBounds_toArray, List.set_cons_zero, List.set_cons_succ]
  refine wpAnyX_one 4 rfl rfl (by kernel_rfl) ?_; intro K hK; rw [if_pos (by rfl)]
  go_simp
  (go_at_call 27; refine (HSM1.out _ (HB2.out.trans (hcur.mono HB2.out.size))).mono ?_; rintro e wm ⟨pm, cm, rfl, hom, hbm⟩)
  go_wp2_with fail
  replace hcur := below_next hcur (Nat.le_refl _) hbm
  replace hS := (HSI.out _).2 (B2.out.next hcur).one
  refine hK.out _ _ (fun _ => hS) ?_; clear hK K hbm
  try simp only [Act.put, List.setIfInBounds_toArray, List.set_cons_zero, List.set_cons_succ]
  refine wpAnyX_one 5 rfl rfl (by kernel_rfl) ?_; intro K hK; rw [if_pos (by rfl)]
  go_simp
  (go_at_call 30; refine (append_any _ (nmC a) _ l _ pm cm _ ((R2.out.later hcur).mono (Nat.zero_le _)) HD.out (by omega) (nmC_ok hxa) (Sl.of_own hom) (by omega)).mono ?_; rintro e wq ⟨p3, c3, l3, rfl, hm3, hr, hbq⟩)
  go_wp2_with fail
  have hpre := hcur.size
  replace hcur := below_next hcur (Nat.le_refl _) hbq
  refine hK.out _ _ (fun h => absurd (show 5 ∈ [5, 6, 7, 8, 9, 10] by decide) h) ?_; clear hK K hbq hS
  try simp only [Act.put, List.setIfInBounds_toArray, List.set_cons_zero, List.set_cons_succ]
  refine wpAnyX_takeT 6 (v := ?_) rfl rfl (by kernel_rfl) (by kernel_rfl) (by kernel_rfl) (by kernel_rfl) (fun _ _ _ h => h) (Or.inl ⟨by rfl, ?_⟩) ?_; rotate_left; · intro w hSw; go_simp <;> with_reducible rfl
  try simp only [Act.put, List.setIfInBounds_toArray, List.set_cons_zero, List.set_cons_succ]
  refine wpAnyX_takeT 7 (v := ?_) rfl rfl (by kernel_rfl) (by kernel_rfl) (by kernel_rfl) (by kernel_rfl) (fun _ _ _ h => h) (Or.inl ⟨by rfl, ?_⟩) ?_; rotate_left; · intro w hSw; go_simp <;> with_reducible rfl
  try simp only [Act.put, List.setIfInBounds_toArray, List.set_cons_zero, List.set_cons_succ]
  refine wpAnyX_takeT 8 (v := ?_) rfl rfl (by kernel_rfl) (by kernel_rfl) (by kernel_rfl) (by kernel_rfl) (fun _ _ _ h => h) (Or.inl ⟨by rfl, ?_⟩) ?_; rotate_left; · intro w hSw; go_simp <;> with_reducible rfl
  try simp only [Act.put, List.setIfInBounds_toArray, List.set_cons_zero, List.set_cons_succ]
  have HB := Lib.hid (B2.out.next hcur)
  have hB := HB.out
  obtain ⟨tz, htz⟩ := hB
  have hzf : wq.frozen? ⟨gd, 0, none⟩ = false := (by simp [World.frozen?, htz])
  have hzc : wq.cell? ⟨gd, 0, none⟩ = some (.slice p l.length c) := (by simp [World.cell?, htz])
  clear htz
  refine wpAnyX_one 9 rfl rfl (by kernel_rfl) ?_; intro K hK; rw [if_pos (by rfl)]
  go_simp
  refine hK.out _ _ (fun h => absurd (show 9 ∈ [5, 6, 7, 8, 9, 10] by decide) h) ?_; clear hK K
  try simp only [Act.put, List.setIfInBounds_toArray, List.set_cons_zero, List.set_cons_succ]
  refine wpAnyX_one 10 rfl rfl (by kernel_rfl) ?_; intro K hK; rw [if_pos (by rfl)]
  go_simp
  refine hK.out _ _ (fun h => absurd (show 10 ∈ [5, 6, 7, 8, 9, 10] by decide) h) ?_; clear hK K
  try simp only [Act.put, List.setIfInBounds_toArray, List.set_cons_zero, List.set_cons_succ]
  refine wpAnyX_done (by kernel_rfl) ?_ _
  have hgd2 : gd < w2.heap.size := B2.out.lt
  have B3 := Lib.hid (show Bx (wq.setCell ⟨gd, 0, none⟩ (.slice p3 l3.length c3)) gd [.slice p3 l3.length c3] from HB.out.setc 0 _)
  have R3 := Lib.hid ((hr.setCell (show (⟨gd, 0, none⟩ : Addr).block < _ from Nat.lt_of_lt_of_le hgd2 hpre) (.slice p3 l3.length c3)).mono (Nat.zero_le _))
  have HB3 := Lib.hid (show Below w.heap.size w (wq.setCell ⟨gd, 0, none⟩ (.slice p3 l3.length c3)) from (HB2.out.trans (hcur.mono HB2.out.size)).setCell hgw _)
  clear hzf hzc HB hr hpre hcur tz HSI S hom
  generalize (wq.setCell ⟨gd, 0, none⟩ (.slice p3 l3.length c3)) = w3 at *
  have HD3 := Lib.hid (show DnOk 21 (l3.map (·.1)) by rw [hm3.out]; exact HD.out.ap (c := a) hxa hb30 HAB.out)
  have HRF3 := Lib.hid (show rdF (l3.map (·.1)) (nmC a) = some Sx by rw [hm3.out, HSX.out]; exact rdF_apF _ _ _)
  have HIX := Lib.hid (show ixF (l3.map (·.1)) (nmC a) < l3.length by obtain ⟨h, _⟩ := rdF_some HRF3.out; rw [List.length_map] at h; exact h)
  clear hm3
  clear B2 R2
  go_upto_region 3 with fail
  have hk0 : w3.drew.cell? ⟨gd, 0, none⟩ = some (.slice p3 l3.length c3) := B3.out.one
  obtain ⟨S, hSI⟩ : ∃ S : World → Prop, ∀ w', S w' ↔ (w'.cell? ⟨gd, 0, none⟩ = some (Value.slice p3 l3.length c3)) := ⟨fun w' => _, fun w' => Iff.rfl⟩
  have HSI := Lib.hid hSI
  clear hSI
  refine wp_region_X S [3, 4, 5, 6, 7, 8] (by kernel_rfl) ((HSI.out _).2 hk0) (fun hS => ?_)
  clear hk0
  refine wpAnyX_take 0 [3, 4, 5, 6, 7, 8] (v := ?_) rfl rfl (by kernel_rfl) (by kernel_rfl) (by kernel_rfl) (by kernel_rfl) (by kernel_rfl) (by kernel_rfl) (fun _ _ _ h => h) (Or.inl ⟨by rfl, ?_⟩) hS ?_; rotate_left; · intro w hSw; have hz0 := (HSI.out w).1 hSw; go_simp <;> with_reducible rfl
  try simp only [Act.put, List.setIfInBounds_toArray, List.set_cons_zero, List.set_cons_succ]
  refine wpAnyX_take 1 [2, 3, 4, 5, 6, 7, 8] (v := ?_) rfl rfl (by kernel_rfl) (by kernel_rfl) (by kernel_rfl) (by kernel_rfl) (by kernel_rfl) (by kernel_rfl) (fun _ _ _ h => h) (Or.inl ⟨by rfl, ?_⟩) hS ?_; rotate_left; · intro w hSw; have hz0 := (HSI.out w).1 hSw; go_simp <;> with_reducible rfl
  try simp only [Act.put, List.setIfInBounds_toArray, List.set_cons_zero, List.set_cons_succ]
  have hcur : Below w3.heap.size w3 w3.drew := (Below.refl _ _).drew
  refine wpAnyX_one 2 rfl rfl (by kernel_rfl) ?_; intro K hK; rw [if_pos (by rfl)]
  go_simp
  (go_at_call 29; refine (HNX.out _).mono ?_; rintro e wn ⟨rfl, hbn⟩)
  go_wp2_with fail
  replace hcur := below_next hcur (Nat.le_refl _) hbn
  replace hS := (HSI.out _).2 (B3.out.next hcur).one
  refine hK.out _ _ (fun _ => hS) ?_; clear hK K hbn
  try simp only [Act.put, List.setIfInBounds_toArray, List.set_cons_zero, List.set_cons_succ]
  refine wpAnyX_one 3 rfl rfl (by kernel_rfl) ?_; intro K hK; rw [if_pos (by rfl)]
  go_simp
  (go_at_call 33; refine (sync_hit (nmC a) _ l3 _ ((R3.out.later hcur).mono (Nat.zero_le _)) (HD3.out.dk (by omega)) HIX.out).mono ?_; rintro e wq ⟨p4, c4, l4, rfl, hm4, hr, hbq⟩)
  go_wp2_with fail
  have hpre := hcur.size
  replace hcur := below_next hcur (Nat.le_refl _) hbq
  refine hK.out _ _ (fun h => absurd (show 3 ∈ [3, 4, 5, 6, 7, 8] by decide) h) ?_; clear hK K hbq hS
  try simp only [Act.put, List.setIfInBounds_toArray, List.set_cons_zero, List.set_cons_succ]
  refine wpAnyX_takeT 4 (v := ?_) rfl rfl (by kernel_rfl) (by kernel_rfl) (by kernel_rfl) (by kernel_rfl) (fun _ _ _ h => h) (Or.inl ⟨by rfl, ?_⟩) ?_; rotate_left; · intro w hSw; go_simp <;> with_reducible rfl
  try simp only [Act.put, List.setIfInBounds_toArray, List.set_cons_zero, List.set_cons_succ]
  refine wpAnyX_takeT 5 (v := ?_) rfl rfl (by kernel_rfl) (by kernel_rfl) (by kernel_rfl) (by kernel_rfl) (fun _ _ _ h => h) (Or.inl ⟨by rfl, ?_⟩) ?_; rotate_left; · intro w hSw; go_simp <;> with_reducible rfl
  try simp only [Act.put, List.setIfInBounds_toArray, List.set_cons_zero, List.set_cons_succ]
  refine wpAnyX_takeT 6 (v := ?_) rfl rfl (by kernel_rfl) (by kernel_rfl) (by kernel_rfl) (by kernel_rfl) (fun _ _ _ h => h) (Or.inl ⟨by rfl, ?_⟩) ?_; rotate_left; · intro w hSw; go_simp <;> with_reducible rfl
  try simp only [Act.put, List.setIfInBounds_toArray, List.set_cons_zero, List.set_cons_succ]
  have HB := Lib.hid (B3.out.next hcur)
  have hB := HB.out
  obtain ⟨tz, htz⟩ := hB
  have hzf : wq.frozen? ⟨gd, 0, none⟩ = false := (by simp [World.frozen?, htz])
  have hzc : wq.cell? ⟨gd, 0, none⟩ = some (.slice p3 l3.length c3) := (by simp [World.cell?, htz])
  clear htz
  refine wpAnyX_one 7 rfl rfl (by kernel_rfl) ?_; intro K hK; rw [if_pos (by rfl)]
  go_simp
  refine hK.out _ _ (fun h => absurd (show 7 ∈ [3, 4, 5, 6, 7, 8] by decide) h) ?_; clear hK K
  try simp only [Act.put, List.setIfInBounds_toArray, List.set_cons_zero, List.set_cons_succ]
  refine wpAnyX_one 8 rfl rfl (by kernel_rfl) ?_; intro K hK; rw [if_pos (by rfl)]
  go_simp
  refine hK.out _ _ (fun h => absurd (show 8 ∈ [3, 4, 5, 6, 7, 8] by decide) h) ?_; clear hK K
  try simp only [Act.put, List.setIfInBounds_toArray, List.set_cons_zero, List.set_cons_succ]
  refine wpAnyX_done (by kernel_rfl) ?_ _
  have hgd3 : gd < w3.heap.size := B3.out.lt
  have B4 := Lib.hid (show Bx (wq.setCell ⟨gd, 0, none⟩ (.slice p4 l4.length c4)) gd [.slice p4 l4.length c4] from HB.out.setc 0 _)
  have R4 := Lib.hid ((hr.setCell (show (⟨gd, 0, none⟩ : Addr).block < _ from Nat.lt_of_lt_of_le hgd3 hpre) (.slice p4 l4.length c4)).mono (Nat.zero_le _))
  have HB4 := Lib.hid (show Below w.heap.size w (wq.setCell ⟨gd, 0, none⟩ (.slice p4 l4.length c4)) from (HB3.out.trans (hcur.mono HB3.out.size)).setCell hgw _)
  clear hzf hzc HB hr hpre hcur tz HSI S
  generalize (wq.setCell ⟨gd, 0, none⟩ (.slice p4 l4.length c4)) = w4 at *
  have HD4 := Lib.hid (show DnOk 21 (l4.map (·.1)) by rw [hm4.out]; exact HD3.out.syn)
  have HRF4 := Lib.hid (show rdF (l4.map (·.1)) (nmC a) = some Sx by rw [hm4.out, rdF_syF]; exact HRF3.out)
  have HRDa := Lib.hid (fun (W : World) (hW : Below w4.heap.size w4 W) => (show Calls Try.prog 28 #[.agg #[.slice p4 l4.length c4], .string (nmC a)] W fun e w' => ∃ q c, e = .returned (.tuple #[.slice q Sx.length c, .int .i64 0]) ∧ Hid (w'.ownsRow W.heap.size 5 1 (.slice q Sx.length c) Sx.length (bys Sx)) ∧ Below W.heap.size W w' from read_o 21 (nmC a) _ l4 (some Sx) W ((R4.out.later hW).mono (Nat.zero_le _)) HD4.out (by omega) HRF4.out))
  clear HIX
  clear B3 R3
  have hk0 := B4.out.one
  have hcur : Below w4.heap.size w4 w4 := Below.refl _ _
  go_upto_region 4 with fail
  go_region_held3 (fun w' => w'.cell? ⟨gd, 0, none⟩ = some (Value.slice p4 l4.length c4)) (first | (exact hk0) | go_keep)
    (first
      | (go_at_call 29; refine (HNX.out _).mono ?_; rintro e wn ⟨rfl, hbn⟩; (first | (replace hcur := below_next hcur (Nat.le_refl _) hbn) | (replace hcur := below_next hcur.drew (Nat.le_refl _) hbn)); have hk0 := (B4.out.next hcur).one)
      | (go_at_call 28; refine (HRDa.out _ hcur).mono ?_; rintro e w5 ⟨q5, c5, rfl, hr5, hbq⟩; have hpre := hcur.size; (replace hcur := below_next hcur (Nat.le_refl _) hbq); have hk0 := (B4.out.next hcur).one))
  have B5 := Lib.hid (B4.out.next hcur)
  have R5 := Lib.hid (R4.out.later hcur)
  have HB5 := Lib.hid (HB4.out.trans (hcur.mono HB4.out.size))
  clear hr5 hcur hk0 hbq HRDa B4 R4
  go_upto_region 5 with fail
  have hk0 : w5.drew.cell? ⟨gd, 0, none⟩ = some (.slice p4 l4.length c4) := B5.out.one
  obtain ⟨S, hSI⟩ : ∃ S : World → Prop, ∀ w', S w' ↔ (w'.cell? ⟨gd, 0, none⟩ = some (Value.slice p4 l4.length c4)) := ⟨fun w' => _, fun w' => Iff.rfl⟩
  have HSI := Lib.hid hSI
  clear hSI
  refine wp_region_X S [5, 6, 7, 8, 9, 10] (by kernel_rfl) ((HSI.out _).2 hk0) (fun hS => ?_)
  clear hk0
  refine wpAnyX_take 0 [5, 6, 7, 8, 9, 10] (v := ?_) rfl rfl (by kernel_rfl) (by kernel_rfl) (by kernel_rfl) (by kernel_rfl) (by kernel_rfl) (by kernel_rfl) (fun _ _ _ h => h) (Or.inl ⟨by rfl, ?_⟩) hS ?_; rotate_left; · intro w hSw; have hz0 := (HSI.out w).1 hSw; go_simp <;> with_reducible rfl
  try simp only [Act.put, List.setIfInBounds_toArray, List.set_cons_zero, List.set_cons_succ]
  refine wpAnyX_take 1 [2, 4, 5, 6, 7, 8, 9, 10] (v := ?_) rfl rfl (by kernel_rfl) (by kernel_rfl) (by kernel_rfl) (by kernel_rfl) (by kernel_rfl) (by kernel_rfl) (fun _ _ _ h => h) (Or.inl ⟨by rfl, ?_⟩) hS ?_; rotate_left; · intro w hSw; have hz0 := (HSI.out w).1 hSw; go_simp <;> with_reducible rfl
  try simp only [Act.put, List.setIfInBounds_toArray, List.set_cons_zero, List.set_cons_succ]
  refine wpAnyX_take 3 [4, 5, 6, 7, 8, 9, 10] (v := ?_) rfl rfl (by kernel_rfl) (by kernel_rfl) (by kernel_rfl) (by kernel_rfl) (by kernel_rfl) (by kernel_rfl) (fun _ _ _ h => h) (Or.inl ⟨by rfl, ?_⟩) hS ?_; rotate_left; · intro w hSw; have hz0 := (HSI.out w).1 hSw; go_simp <;> with_reducible rfl
  try simp only [Act.put, List.setIfInBounds_toArray, List.set_cons_zero, List.set_cons_succ]
  have hcur : Below w5.heap.size w5 w5.drew := (Below.refl _ _).drew
  refine wpAnyX_one 2 rfl rfl (by kernel_rfl) ?_; intro K hK; rw [if_pos (by rfl)]
  go_simp
  (go_at_call 29; refine (HNX.out _).mono ?_; rintro e wn ⟨rfl, hbn⟩)
  go_wp2_with fail
  replace hcur := below_next hcur (Nat.le_refl _) hbn
  replace hS := (HSI.out _).2 (B5.out.next hcur).one
  refine hK.out _ _ (fun _ => hS) ?_; clear hK K hbn
  try simp only [Act.put, List.setIfInBounds_toArray, List.set_cons_zero, List.set_cons_succ]
  refine wpAnyX_one 4 rfl rfl (by kernel_rfl) ?_; intro K hK; rw [if_pos (by rfl)]
  go_simp
  (go_at_call 27; refine (HSM2.out _ (HB5.out.trans (hcur.mono HB5.out.size))).mono ?_; rintro e wm ⟨pm, cm, rfl, hom, hbm⟩)
  go_wp2_with fail
  replace hcur := below_next hcur (Nat.le_refl _) hbm
  replace hS := (HSI.out _).2 (B5.out.next hcur).one
  refine hK.out _ _ (fun _ => hS) ?_; clear hK K hbm
  try simp only [Act.put, List.setIfInBounds_toArray, List.set_cons_zero, List.set_cons_succ]
  refine wpAnyX_one 5 rfl rfl (by kernel_rfl) ?_; intro K hK; rw [if_pos (by rfl)]
  go_simp
  (go_at_call 30; refine (append_any _ (nmC a) _ l4 _ pm cm _ ((R5.out.later hcur).mono (Nat.zero_le _)) HD4.out (by omega) (nmC_ok hxa) (Sl.of_own hom) (by omega)).mono ?_; rintro e wq ⟨p6, c6, l6, rfl, hm6, hr, hbq⟩)
  go_wp2_with fail
  have hpre := hcur.size
  replace hcur := below_next hcur (Nat.le_refl _) hbq
  refine hK.out _ _ (fun h => absurd (show 5 ∈ [5, 6, 7, 8, 9, 10] by decide) h) ?_; clear hK K hbq hS
  try simp only [Act.put, List.setIfInBounds_toArray, List.set_cons_zero, List.set_cons_succ]
  refine wpAnyX_takeT 6 (v := ?_) rfl rfl (by kernel_rfl) (by kernel_rfl) (by kernel_rfl) (by kernel_rfl) (fun _ _ _ h => h) (Or.inl ⟨by rfl, ?_⟩) ?_; rotate_left; · intro w hSw; go_simp <;> with_reducible rfl
  try simp only [Act.put, List.setIfInBounds_toArray, List.set_cons_zero, List.set_cons_succ]
  refine wpAnyX_takeT 7 (v := ?_) rfl rfl (by kernel_rfl) (by kernel_rfl) (by kernel_rfl) (by kernel_rfl) (fun _ _ _ h => h) (Or.inl ⟨by rfl, ?_⟩) ?_; rotate_left; · intro w hSw; go_simp <;> with_reducible rfl
  try simp only [Act.put, List.setIfInBounds_toArray, List.set_cons_zero, List.set_cons_succ]
  refine wpAnyX_takeT 8 (v := ?_) rfl rfl (by kernel_rfl) (by kernel_rfl) (by kernel_rfl) (by kernel_rfl) (fun _ _ _ h => h) (Or.inl ⟨by rfl, ?_⟩) ?_; rotate_left; · intro w hSw; go_simp <;> with_reducible rfl
  try simp only [Act.put, List.setIfInBounds_toArray, List.set_cons_zero, List.set_cons_succ]
  have HB := Lib.hid (B5.out.next hcur)
  have hB := HB.out
  obtain ⟨tz, htz⟩ := hB
  have hzf : wq.frozen? ⟨gd, 0, none⟩ = false := (by simp [World.frozen?, htz])
  have hzc : wq.cell? ⟨gd, 0, none⟩ = some (.slice p4 l4.length c4) := (by simp [World.cell?, htz])
  clear htz
  refine wpAnyX_one 9 rfl rfl (by kernel_rfl) ?_; intro K hK; rw [if_pos (by rfl)]
  go_simp
  refine hK.out _ _ (fun h => absurd (show 9 ∈ [5, 6, 7, 8, 9, 10] by decide) h) ?_; clear hK K
  try simp only [Act.put, List.setIfInBounds_toArray, List.set_cons_zero, List.set_cons_succ]
  refine wpAnyX_one 10 rfl rfl (by kernel_rfl) ?_; intro K hK; rw [if_pos (by rfl)]
  go_simp
  refine hK.out _ _ (fun h => absurd (show 10 ∈ [5, 6, 7, 8, 9, 10] by decide) h) ?_; clear hK K
  try simp only [Act.put, List.setIfInBounds_toArray, List.set_cons_zero, List.set_cons_succ]
  refine wpAnyX_done (by kernel_rfl) ?_ _
  have hgd5 : gd < w5.heap.size := B5.out.lt
  have B6 := Lib.hid (show Bx (wq.setCell ⟨gd, 0, none⟩ (.slice p6 l6.length c6)) gd [.slice p6 l6.length c6] from HB.out.setc 0 _)
  have R6 := Lib.hid ((hr.setCell (show (⟨gd, 0, none⟩ : Addr).block < _ from Nat.lt_of_lt_of_le hgd5 hpre) (.slice p6 l6.length c6)).mono (Nat.zero_le _))
  have HB6 := Lib.hid (show Below w.heap.size w (wq.setCell ⟨gd, 0, none⟩ (.slice p6 l6.length c6)) from (HB5.out.trans (hcur.mono HB5.out.size)).setCell hgw _)
  clear hzf hzc HB hr hpre hcur tz HSI S hom
  generalize (wq.setCell ⟨gd, 0, none⟩ (.slice p6 l6.length c6)) = w6 at *
  have HD6 := Lib.hid (show DnOk 22 (l6.map (·.1)) by rw [hm6.out]; exact HD4.out.ap (c := a) hxa hb31 HAB2.out)
  have HRF6 := Lib.hid (show rdF (l6.map (·.1)) (nmC a) = some T by rw [hm6.out, rdF_apF, HRF4.out, HT.out]; rfl)
  have HKP := Lib.hid (fun k => show rdF (crF (l6.map (·.1)) k) (nmC a) = some (T.take (Sx.length + min k b2.length)) by rw [hm6.out, hm4.out, HT.out]; exact rdF_keep b2 k HRF3.out)
  have HPS := Lib.hid (show 0 < l6.length by have := congrArg List.length hm6.out; rw [List.length_map] at this; rw [this]; exact apF_pos _ _ _)
  have HRDb := Lib.hid (fun (W : World) (hW : Below w6.heap.size w6 W) => (show Calls Try.prog 28 #[.agg #[.slice p6 l6.length c6], .string (nmC a)] W fun e w' => ∃ q c, e = .returned (.tuple #[.slice q T.length c, .int .i64 0]) ∧ Hid (w'.ownsRow W.heap.size 5 1 (.slice q T.length c) T.length (bys T)) ∧ Below W.heap.size W w' from read_o 22 (nmC a) _ l6 (some T) W ((R6.out.later hW).mono (Nat.zero_le _)) HD6.out (by omega) HRF6.out))
  clear hm6 hm4
  clear B5 R5
  have hk0 := B6.out.one
  have hcur : Below w6.heap.size w6 w6 := Below.refl _ _
  go_upto_region 6 with fail
  go_region_held3 (fun w' => w'.cell? ⟨gd, 0, none⟩ = some (Value.slice p6 l6.length c6)) (first | (exact hk0) | go_keep)
    (first
      | (go_at_call 29; refine (HNX.out _).mono ?_; rintro e wn ⟨rfl, hbn⟩; (first | (replace hcur := below_next hcur (Nat.le_refl _) hbn) | (replace hcur := below_next hcur.drew (Nat.le_refl _) hbn)); have hk0 := (B6.out.next hcur).one)
      | (go_at_call 28; refine (HRDb.out _ hcur).mono ?_; rintro e w7 ⟨q7, c7, rfl, hr7, hbq⟩; have hpre := hcur.size; (replace hcur := below_next hcur (Nat.le_refl _) hbq); have hk0 := (B6.out.next hcur).one))
  have B7 := Lib.hid (B6.out.next hcur)
  have R7 := Lib.hid (R6.out.later hcur)
  have HB7 := Lib.hid (HB6.out.trans (hcur.mono HB6.out.size))
  have O7 := Lib.hid (own_mono hr7.out hpre)
  have hgd6 : gd < w6.heap.size := B6.out.lt
  clear hr7 hcur hbq HRDb B6 R6 hpre
  have hk0 := B7.out.one
  go_wp2_with fail
  refine (HPZ.out _).mono ?_; rintro e w' ⟨rfl, rfl⟩
  go_wp2_with fail
  refine (crash_ok _ l6 k w7 (R7.out.mono (Nat.zero_le _)) (HD6.out.dk (by omega)) (by omega)).mono ?_; rintro e wq ⟨p8, c8, l8, rfl, hm8, hr, hbq⟩
  have HB := Lib.hid (B7.out.next hbq)
  have hB := HB.out
  obtain ⟨tz, htz⟩ := hB
  have hzf : wq.frozen? ⟨gd, 0, none⟩ = false := (by simp [World.frozen?, htz])
  have hzc : wq.cell? ⟨gd, 0, none⟩ = some (.slice p6 l6.length c6) := (by simp [World.cell?, htz])
  clear htz hk0
  have hgd7 : gd < w7.heap.size := B7.out.lt
  have B8 := Lib.hid (show Bx (wq.setCell ⟨gd, 0, none⟩ (.slice p8 l8.length c8)) gd [.slice p8 l8.length c8] from HB.out.setc 0 _)
  have R8 := Lib.hid ((hr.setCell (show (⟨gd, 0, none⟩ : Addr).block < _ from hgd7) (.slice p8 l8.length c8)).mono (Nat.zero_le _))
  have HB8 := Lib.hid (show Below w.heap.size w (wq.setCell ⟨gd, 0, none⟩ (.slice p8 l8.length c8)) from (HB7.out.trans (hbq.mono HB7.out.size)).setCell hgw _)
  have O8 := Lib.hid (own_setCell (own_later O7.out hbq) (a := ⟨gd, 0, none⟩) hgd6 (.slice p8 l8.length c8))
  have HD8 := Lib.hid (show DnOk 22 (l8.map (·.1)) by rw [hm8.out]; exact HD6.out.cr)
  obtain ⟨U, hU⟩ : ∃ U, U = T.take (Sx.length + min k b2.length) := ⟨_, rfl⟩
  have HRF8 := Lib.hid (show rdF (l8.map (·.1)) (nmC a) = some U by rw [hm8.out, hU]; exact HKP.out k)
  have hUl : U.length = min T.length (Sx.length + k) := by rw [hU, List.length_take, HTL.out]; omega
  have HUT := Lib.hid (show U = T.take U.length by rw [hUl, hU, List.take_eq_take_iff, HTL.out]; omega)
  have HUL := Lib.hid hUl
  have hl8 : 0 < l8.length := by have := congrArg List.length hm8.out; unfold crF at this; rw [List.length_map, List.length_map, List.length_map] at this; rw [this]; exact HPS.out
  have hi8 : (0 : Int) < (l8.length : Int) := by omega
  have hn8 : ¬ l8 = [] := (by intro e; rw [e] at hl8; exact absurd hl8 (by decide))
  have HRDc := Lib.hid (fun (W : World) (hW : Below (wq.setCell ⟨gd, 0, none⟩ (.slice p8 l8.length c8)).heap.size (wq.setCell ⟨gd, 0, none⟩ (.slice p8 l8.length c8)) W) => (show Calls Try.prog 28 #[.agg #[.slice p8 l8.length c8], .string (nmC a)] W fun e w' => ∃ q c, e = .returned (.tuple #[.slice q U.length c, .int .i64 0]) ∧ Hid (w'.ownsRow W.heap.size 5 1 (.slice q U.length c) U.length (bys U)) ∧ Below W.heap.size W w' from read_o 22 (nmC a) _ l8 (some U) W ((R8.out.later hW).mono (Nat.zero_le _)) HD8.out (by omega) HRF8.out))
  clear hU hUl hm8 hr
  go_upto_region 9 with fail
  generalize (wq.setCell ⟨gd, 0, none⟩ (.slice p8 l8.length c8)) = w8 at *
  clear hzf hzc HB tz
  have hk0 := B8.out.one
  have hcur : Below w8.heap.size w8 w8 := Below.refl _ _
  go_upto_region 9 with fail
  go_region_held3 (fun w' => w'.cell? ⟨gd, 0, none⟩ = some (Value.slice p8 l8.length c8)) (first | (exact hk0) | go_keep)
    (first
      | (go_at_call 29; refine (HNX.out _).mono ?_; rintro e wn ⟨rfl, hbn⟩; (first | (replace hcur := below_next hcur (Nat.le_refl _) hbn) | (replace hcur := below_next hcur.drew (Nat.le_refl _) hbn)); have hk0 := (B8.out.next hcur).one)
      | (go_at_call 28; refine (HRDc.out _ hcur).mono ?_; rintro e w9 ⟨q9, c9, rfl, hr9, hbq⟩; have hpre := hcur.size; (replace hcur := below_next hcur (Nat.le_refl _) hbq); have hk0 := (B8.out.next hcur).one))
  have B9 := Lib.hid (B8.out.next hcur)
  have R9 := Lib.hid (R8.out.later hcur)
  have HB9 := Lib.hid (HB8.out.trans (hcur.mono HB8.out.size))
  have I9 := Lib.hid ((isB_own O8.out HAT.out).later hcur)
  have J9 := Lib.hid (isB_own hr9.out (fun x hx => HAT.out x (by rw [HUT.out] at hx; exact List.mem_of_mem_take hx)))
  clear hr9 hbq hpre O8 O7
  obtain ⟨hT1, hT2, hT3⟩ := I9.out.lens
  have hUT : U.length ≤ T.length := by rw [HUL.out]; exact Nat.min_le_left _ _
  have IT9 := Lib.hid (show IsB w9 (.slice q7 U.length c7) U by have h := I9.out.take (k := U.length) hUT; rw [← HUT.out] at h; exact h)
  clear hT1
  by_cases hmn : T.length ≤ Sx.length + k
  · have hUe : U = T := by rw [HUT.out, HUL.out, Nat.min_eq_left hmn, List.take_length]
    subst hUe
    have hmi : (U.length : Int) ≤ (Sx.length : Int) + (k : Int) := by omega
    have hci : (U.length : Int) ≤ (c7 : Int) := by omega
    go_wp2_with (go_at_call 31; go_loud (refine (same_w _ _ _ _ _ _ _ _ J9.out IT9.out).mono ?_; rintro e w' ⟨rfl, rfl⟩))
    go_ret
    exact ⟨rfl, HB9.out⟩
  · have hUe : U.length = Sx.length + k := by rw [HUL.out]; omega
    have hms : (Sx.length : Int) + (k : Int) = (U.length : Int) := by omega
    have hmi : ¬ (T.length : Int) ≤ (U.length : Int) := by omega
    have hci : (U.length : Int) ≤ (c7 : Int) := by omega
    have hcn : U.length ≤ c7 := by omega
    clear hUe
    go_wp2_with (go_at_call 31; go_loud (refine (same_w _ _ _ _ _ _ _ _ J9.out IT9.out).mono ?_; rintro e w' ⟨rfl, rfl⟩))
    go_ret
    exact ⟨rfl, HB9.out⟩
end Go.Proofs.Ytmadpjmlcooinaa
