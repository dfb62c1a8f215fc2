/- The walk of the law ProgLeast. -/
import Derived.Test.YtcaolnpkpialdaaLwProgFallsW
namespace Go.Proofs.Ytcaolnpkpialdaa
open Go.RowKit
/-- the least of the first so many -/
def mnT (l : List Int) : Nat → Int
  | 0 => l.getD 0 0
  | k + 1 => if l.getD k 0 < mnT l k then l.getD k 0 else mnT l k
theorem mnT_mem {l : List Int} (h : 0 < l.length) : ∀ k, k ≤ l.length → mnT l k ∈ l
  | 0, _ => by
    unfold mnT
    rw [List.getD_eq_getElem?_getD, List.getElem?_eq_getElem h]
    exact List.getElem_mem h
  | k + 1, hk => by
    unfold mnT
    split
    · rw [List.getD_eq_getElem?_getD, List.getElem?_eq_getElem (show k < l.length by omega)]
      exact List.getElem_mem _
    · exact mnT_mem h k (by omega)
theorem mnT_le {l : List Int} : ∀ k j, j < k → mnT l k ≤ l.getD j 0
  | 0, j, h => by omega
  | k + 1, j, h => by
    unfold mnT
    by_cases hj : j = k
    · subst hj
      split <;> omega
    · have := mnT_le (l := l) k j (by omega)
      split <;> omega
theorem mnT_all {l : List Int} {m : Int} (hm : m ∈ l) : mnT l l.length ≤ m := by
  obtain ⟨j, hj, rfl⟩ := List.mem_iff_getElem.1 hm
  have := mnT_le (l := l) l.length j hj
  rwa [List.getD_eq_getElem?_getD, List.getElem?_eq_getElem hj] at this
theorem mnT_succ {l : List Int} {k : Nat} (hk : k < l.length) : mnT l (k + 1) = if l[k] < mnT l k then l[k] else mnT l k := by
  show (if l.getD k 0 < _ then _ else _) = _
  rw [List.getD_eq_getElem?_getD, List.getElem?_eq_getElem hk]
  rfl
/-- Wake at mail whose least is known -/
theorem wake_mn (k : Nat) (hk : k = 1 ∨ k = 2) (p : Option Addr) (c : Nat) (a mn : Int) (l : List Int) (w : World) (hl : IsI w (.slice p l.length c) l) (ha : -1 ≤ a) (ha2 : a ≤ 199) (hm : ∀ m ∈ l, 0 ≤ m ∧ m ≤ 199) (hmn : mn ∈ l) (hle : ∀ m ∈ l, mn ≤ m) :
    Calls Try.prog 22 #[.int .i64 (k : Int), .int .i64 3, .int .i64 0, .agg #[.int .i64 a, .int .i64 (-1)], .int .i64 0, .bool false, .slice p l.length c] w fun e w' => e = .returned (.tuple #[.agg #[.int .i64 (if a < 0 ∨ mn < a then mn else a), .int .i64 (-1)], .bool (decide ((if a < 0 ∨ mn < a then mn else a) ≠ a)), .int .i64 0]) ∧ Below w.heap.size w w' := by
  refine (wake_low k hk p c 3 0 a (-1) l w hl (by omega) (by omega) ha ha2 (by omega) (by omega) hm).mono ?_
  rintro e w' ⟨rfl, hb⟩
  have e1 := lwA_least ha (fun m h => (hm m h).1) hmn hle
  have e2 := (lw_all l a ha (fun m h => (hm m h).1)).1
  exact ⟨by rw [e2, e1], hb⟩
theorem its_one (l : List Int) : ∀ u ∈ its l, u.oneCell' = true := fun u hu => by
  obtain ⟨x, _, rfl⟩ := List.mem_map.1 hu
  rfl
theorem own_full (w : World) (cur : Array Value) (e : TypeId) (n size : Nat) {base : Nat} (hb : base ≤ w.heap.size) (hm : n ≤ maxLen) (hs : cur.size = n * size) :
    (w.alloc (.cells cur e)).ownsRow base e size (.slice (some ⟨w.heap.size, 0, none⟩) n n) n cur.toList :=
  ⟨by simpa using hs, .inr ⟨w.heap.size, n, cur, rfl, hb, heap_alloc_new w _, Nat.le_refl _, hm, hs, by rw [List.take_of_length_le (by simp [hs])]⟩⟩
set_option linter.unusedVariables false in
set_option maxHeartbeats 8000000 in
set_option maxRecDepth 100000 in
theorem progLeast_walk (w : World) (x : Int) (hx0 : -9223372036854775808 ≤ x) (hx1 : x ≤ 9223372036854775807) (y : Int) (hy0 : -9223372036854775808 ≤ y) (hy1 : y ≤ 9223372036854775807) (v2 : Value) (L : List Int) (h2 : IsI w v2 L) (z : Int) (hz0 : -9223372036854775808 ≤ z) (hz1 : z ≤ 9223372036854775807) :
    Calls Try.prog 6 #[.int .i64 x, .int .i64 y, v2, .int .i64 z] w fun e w' => e = .returned (.bool true) ∧ Below w.heap.size w w' := by
  obtain ⟨p2, c2, rfl⟩ := h2.val
  obtain ⟨-, hlc, hc63⟩ := h2.lens
  have HPX := Lib.hid (fun w' => picked_i x 2 2 w' rfl hx0 hx1 (by omega) (by omega))
  have HPY := Lib.hid (fun w' => picked_i y 21 21 w' rfl hy0 hy1 (by omega) (by omega))
  have HPZ := Lib.hid (fun w' => picked_i z 20 20 w' rfl hz0 hz1 (by omega) (by omega))
  have HVL := Lib.hid (fun (W : World) (hW : Below w.heap.size w W) => values_ok p2 c2 L W (h2.later hW))
  have hxa := pickN_lt x (m := 2) (by omega)
  have hya := pickN_lt y (m := 21) (by omega)
  have hza := pickN_lt z (m := 20) (by omega)
  generalize pickN x 2 = kd at *
  generalize pickN z 20 = f at *
  obtain ⟨a, hae⟩ : ∃ a : Int, a = (pickN y 21 : Int) - 1 := ⟨_, rfl⟩
  have ha : -1 ≤ a := by omega
  have ha2 : a ≤ 19 := by omega
  have hae' : (pickN y 21 : Int) - 1 = a := hae.symm
  generalize pickN y 21 = yy at *
  have hvl := valF_len L
  have HVB := Lib.hid (fun (x : Int) (hx : x ∈ valF L) => show 0 ≤ x ∧ x ≤ 19 by have := valF_bd (l := L) x hx; omega)
  generalize valF L = T at *
  obtain ⟨R, hR⟩ : ∃ R, R = T ++ [(f : Int)] := ⟨_, rfl⟩
  obtain ⟨n, hn⟩ : ∃ n, n = R.length := ⟨_, rfl⟩
  have hnT : n = T.length + 1 := by rw [hn, hR]; simp
  have HRB := Lib.hid (show ∀ m ∈ R, 0 ≤ m ∧ m ≤ 19 from fun m hm => by
    rw [hR] at hm
    rcases List.mem_append.1 hm with h | h
    · exact HVB.out m h
    · have := List.mem_singleton.1 h; omega)
  have HW := Lib.hid (fun (l : List Int) (mn : Int) (W : World) (p : Option Addr) (c : Nat) (h : IsI W (.slice p l.length c) l) (hb : ∀ m ∈ l, 0 ≤ m ∧ m ≤ 19) (hm : mn ∈ l) (hle : ∀ m ∈ l, mn ≤ m) => (show Calls Try.prog 22 #[.int .i64 (1 + (kd : Int)), .int .i64 3, .int .i64 0, .agg #[.int .i64 a, .int .i64 (-1)], .int .i64 0, .bool false, .slice p l.length c] W fun e w' => e = .returned (.tuple #[.agg #[.int .i64 (if a < 0 ∨ mn < a then mn else a), .int .i64 (-1)], .bool (decide ((if a < 0 ∨ mn < a then mn else a) ≠ a)), .int .i64 0]) ∧ Below W.heap.size W w' from by
    have := wake_mn (1 + kd) (by omega) p c a mn l W h ha (by omega) (fun m h => by have := hb m h; omega) hm hle
    rw [show ((1 + kd : Nat) : Int) = 1 + (kd : Int) by omega] at this
    exact this))
  have HAE := Lib.hid hae'
  have HA := Lib.hid ha
  have HR := Lib.hid hR
  have HNR := Lib.hid hn
  have HNT := Lib.hid hnT
  have hTn : T.length ≤ 10 := hvl
  obtain ⟨nL, hnL⟩ : ∃ nL, nL = L.length := ⟨_, rfl⟩
  rw [← hnL] at hlc HVL ⊢
  obtain ⟨nT, hnT'⟩ : ∃ nT, nT = T.length := ⟨_, rfl⟩
  rw [← hnT'] at HVL hTn HNT
  have HTT := Lib.hid hnT'
  clear hnL hnT' hnT hn hR h2 hae hx0 hx1 hy0 hy1 hz0 hz1 hvl hya
  obtain ⟨b1, B1, z1⟩ := boxed0 w [.int .i64 a, .int .i64 (-1)] 49
  go_enter Try.func6, Try.ntmps6
  go_wp2_with fail
  refine (HPX.out _).mono ?_; rintro e wn ⟨rfl, rfl⟩
  go_wp2_with fail
  refine (HPY.out _).mono ?_; rintro e wn ⟨rfl, rfl⟩
  go_wp2_with fail
  generalize (w.alloc (.cells #[.int .i64 a, .int .i64 (-1)] 49)) = w1 at *
  obtain ⟨gx, hgx⟩ : ∃ gx, gx = w.heap.size := ⟨_, rfl⟩
  rw [← hgx] at B1 ⊢
  have hgl : gx < w1.heap.size := by omega
  clear hgx
  refine (HVL.out _ b1).mono ?_; rintro e w2 ⟨q2, d2, rfl, ho2, hb2⟩
  have hsz2 := hb2.size
  have HO2 := Lib.hid ho2
  have HB2 := Lib.hid hb2
  clear ho2 hb2
  go_wp2_with (first
    | (go_at_call 15; refine (HPZ.out _).mono ?_; rintro e wn ⟨rfl, rfl⟩)
    | (at_builtin; go_loud (refine wp_app1 (w0 := w1) rfl _ _ _ rfl w1.heap.size 3 Try.underlying28 inf_int' rfl (by decide) rfl HO2.out (us := [_]) rfl rfl (by simp [Value.oneCell']) (by unfold maxLen; omega) (by omega) HB2.out hsz2 ?_; intro p3 c3 w3 hown3 hb3 hsz3 _ _; have hq := HNT.out; rw [← hq] at hown3 ⊢; clear hq; have hn0 : 0 < n := (by have := HNT.out; omega); obtain ⟨g3, rfl, -, hnc3, hc363⟩ := own_ptr hown3 hn0; rw [show its T ++ [Value.int .i64 (f : Int)] = its R by rw [HR.out]; simp [its]] at hown3; have HO3 := Lib.hid hown3; have hI3 := Lib.hid (show IsI w3 (.slice (some ⟨g3, 0, none⟩) n c3) R from IsI.of_own hown3 (fun m hm => by have := HRB.out m hm; omega)); have hRn : 0 < R.length := (by have := HNR.out; omega); obtain ⟨bb, off, he, hc0⟩ := hI3.out.getI hRn; cases he; rw [Nat.add_zero] at hc0; have HM0 := Lib.hid (show R[0] = mnT R 0 from by unfold mnT; rw [List.getD_eq_getElem?_getD, List.getElem?_eq_getElem hRn]; rfl); rw [HM0.out] at hc0; have hn0i : (0 : Int) < (n : Int) := (by omega); clear hown3 HM0 hRn)))
  have HB13 := Lib.hid (b1.trans (hb3.mono b1.size))
  have HX3 := Lib.hid (B1.next hb3)
  have hn11 : n ≤ 11 := by have := HNT.out; omega
  clear hb3 B1 b1 z1
  obtain ⟨wo, rfl⟩ : ∃ wo : World, wo = w3 := ⟨_, rfl⟩
  go_loopg [12, 13, 14] n (fun gk v12 v13 v14 wr => ∃ (k : Nat) (p' : Option Addr) (c' : Nat), v14 = .int .i64 (k : Int) ∧ k + gk = n ∧ v12 = .int .i64 (mnT R k) ∧ v13 = .slice p' k c' ∧ Hid (wr.ownsRow wo.heap.size 3 1 (.slice p' k c') k (its (R.take k).reverse)) ∧ Below wo.heap.size wo wr)
  case atStart => exact ⟨0, none, 0, rfl, by omega, rfl, rfl, Lib.hid (World.ownsRow_nil _ _ _ _), Below.refl _ _⟩
  case round =>
    obtain ⟨k, p', c', rfl, hgk, rfl, rfl, hown, hb⟩ := hrel
    have HGK := Lib.hid hgk
    have hk : k ≤ n := by omega
    have hsz := hb.size
    clear hgk hc0
    by_cases hlt : k < n
    · have hkl : k < R.length := by have := HNR.out; omega
      obtain ⟨bb, off, he, hc0⟩ := (hI3.out.later hb).getI hkl
      cases he
      rw [Nat.zero_add] at hc0
      have hbd := HRB.out _ (List.getElem_mem hkl)
      have hst := mnT_succ hkl
      have hts := List.take_succ_eq_append_getElem hkl
      have HTS := Lib.hid (show its (R.take (k + 1)).reverse = [Value.int .i64 R[k]] ++ its (R.take k).reverse by rw [hts, List.reverse_append]; rfl)
      generalize R[k] = m at hc0 hbd hst HTS
      clear hts
      have HST := Lib.hid hst
      clear hst
      have hk0 : (0 : Int) ≤ (k : Int) := by omega
      have hkn : (k : Int) < (n : Int) := by omega
      have hd1 : decide ((k : Int) < (n : Int)) = true := by simp; omega
      have hd2 : decide (k < n) = true := by simp; omega
      have hb0 := hb.trans ((alloc_below wr (.cells #[.int .i64 m] 3)).mono hsz)
      have HSL := Lib.hid ((Sl.of_own hown.out).later (alloc_below wr (.cells #[.int .i64 m] 3)))
      clear hlt
      generalize mnT R k = mk at *
      by_cases hmm : m < mk
      · have hm1 : mnT R (k + 1) = m := by rw [HST.out, if_pos hmm]
        have HM1 := Lib.hid hm1
        have hd3 : decide (m < mk) = true := decide_eq_true hmm
        have hle : m ≤ mk := by omega
        clear hm1
        go_wp2_with (at_builtin; refine wp_app (w0 := wo) rfl _ _ _ rfl wo.heap.size 3 Try.underlying28 inf_int' rfl (by decide) rfl (own_full wr #[.int .i64 m] 3 1 1 hsz (by decide) rfl) rfl HSL.out (its_one _) (by unfold maxLen; omega) (by omega) hb0 (by simp; omega) ?_; intro p4 c4 w4 hown4 hb4 hsz4 _ _; have HO4 := Lib.hid hown4; clear hown4)
        have HO5 := Lib.hid (show w4.ownsRow wo.heap.size 3 1 (.slice p4 (k + 1) c4) (k + 1) (its (R.take (k + 1)).reverse) by rw [HTS.out, Nat.add_comm k 1]; exact HO4.out)
        go_roundg (n - (k + 1))
        case measure => have := HGK.out; omega
        case rel => exact ⟨k + 1, p4, c4, by go_num, by omega, by rw [HM1.out], by rw [Nat.add_comm], HO5, hb4⟩
      · have hm1 : mnT R (k + 1) = mk := by rw [HST.out, if_neg hmm]
        have HM1 := Lib.hid hm1
        have hd3 : decide (m < mk) = false := decide_eq_false hmm
        have hle : mk ≤ m := by omega
        clear hm1
        go_wp2_with (at_builtin; refine wp_app (w0 := wo) rfl _ _ _ rfl wo.heap.size 3 Try.underlying28 inf_int' rfl (by decide) rfl (own_full wr #[.int .i64 m] 3 1 1 hsz (by decide) rfl) rfl HSL.out (its_one _) (by unfold maxLen; omega) (by omega) hb0 (by simp; omega) ?_; intro p4 c4 w4 hown4 hb4 hsz4 _ _; have HO4 := Lib.hid hown4; clear hown4)
        have HO5 := Lib.hid (show w4.ownsRow wo.heap.size 3 1 (.slice p4 (k + 1) c4) (k + 1) (its (R.take (k + 1)).reverse) by rw [HTS.out, Nat.add_comm k 1]; exact HO4.out)
        go_roundg (n - (k + 1))
        case measure => have := HGK.out; omega
        case rel => exact ⟨k + 1, p4, c4, by go_num, by omega, by rw [HM1.out], by rw [Nat.add_comm], HO5, hb4⟩
    · obtain rfl : n = k := by omega
      have hd1 : decide ((n : Int) < (n : Int)) = false := by simp
      have hd2 : decide (n < n) = false := by simp
      have hRn : 0 < R.length := by have := HNR.out; omega
      have HMM := Lib.hid (show mnT R n ∈ R from mnT_mem hRn n (by have := HNR.out; omega))
      have HML := Lib.hid (show ∀ m ∈ R, mnT R n ≤ m from fun m hm => by have := mnT_all hm; rw [← HNR.out] at this; exact this)
      have hmb := HRB.out _ HMM.out
      have HRV := Lib.hid (show wr.ownsRow wo.heap.size 3 1 (.slice p' n c') n (its R.reverse) by have h := hown.out; rw [List.take_of_length_le (by have := HNR.out; omega)] at h; exact h)
      obtain ⟨mn, hmn⟩ : ∃ mn, mn = mnT R n := ⟨_, rfl⟩
      have HMNE := Lib.hid hmn
      rw [← hmn] at HMM HML hmb ⊢
      clear hmn hown hRn
      obtain ⟨A, hA⟩ : ∃ A, A = if a < 0 ∨ mn < a then mn else a := ⟨_, rfl⟩
      have HIR := Lib.hid (hI3.out.later hb)
      have HIV := Lib.hid (show IsI wr (.slice p' n c') R.reverse from IsI.of_own HRV.out (fun m hm => by have := HRB.out m (by simpa using hm); omega))
      have hbw := Lib.hid (HB13.out.trans (hb.mono HB13.out.size))
      have HX4 := Lib.hid (HX3.out.next hb)
      have HWR := Lib.hid (fun (W : World) (hW : Below wr.heap.size wr W) => (show Calls Try.prog 22 #[.int .i64 (1 + (kd : Int)), .int .i64 3, .int .i64 0, .agg #[.int .i64 a, .int .i64 (-1)], .int .i64 0, .bool false, .slice (some ⟨g3, 0, none⟩) n c3] W fun e w' => e = .returned (.tuple #[.agg #[.int .i64 A, .int .i64 (-1)], .bool (decide (A ≠ a)), .int .i64 0]) ∧ Below W.heap.size W w' from by
        have h := HW.out R mn W (some ⟨g3, 0, none⟩) c3 (by rw [← HNR.out]; exact HIR.out.later hW) HRB.out HMM.out HML.out
        rw [← HNR.out, ← hA] at h
        exact h))
      have HWV := Lib.hid (fun (W : World) (hW : Below wr.heap.size wr W) => (show Calls Try.prog 22 #[.int .i64 (1 + (kd : Int)), .int .i64 3, .int .i64 0, .agg #[.int .i64 a, .int .i64 (-1)], .int .i64 0, .bool false, .slice p' n c'] W fun e w' => e = .returned (.tuple #[.agg #[.int .i64 A, .int .i64 (-1)], .bool (decide (A ≠ a)), .int .i64 0]) ∧ Below W.heap.size W w' from by
        have h := HW.out R.reverse mn W p' c' (by rw [List.length_reverse, ← HNR.out]; exact HIV.out.later hW) (fun m hm => HRB.out m (by simpa using hm)) (by simpa using HMM.out) (fun m hm => HML.out m (by simpa using hm))
        rw [List.length_reverse, ← HNR.out, ← hA] at h
        exact h))
      have HW1 := Lib.hid (fun (W : World) (g : Nat) (hg : Hid (W.heap.size = g)) (hW : Below wr.heap.size wr W) => (show Calls Try.prog 22 #[.int .i64 (1 + (kd : Int)), .int .i64 3, .int .i64 0, .agg #[.int .i64 a, .int .i64 (-1)], .int .i64 0, .bool false, .slice (some ⟨g, 0, none⟩) 1 1] (W.alloc (.cells #[.int .i64 mn] 3)) fun e w' => e = .returned (.tuple #[.agg #[.int .i64 A, .int .i64 (-1)], .bool (decide (A ≠ a)), .int .i64 0]) ∧ Below (W.alloc (.cells #[.int .i64 mn] 3)).heap.size (W.alloc (.cells #[.int .i64 mn] 3)) w' from by
        have hg' := hg.out
        subst hg'
        have h := HW.out [mn] mn (W.alloc (.cells #[.int .i64 mn] 3)) (some ⟨W.heap.size, 0, none⟩) 1 (IsI.of_own (own_full W #[.int .i64 mn] 3 1 1 (Nat.le_refl _) (by decide) rfl) (fun m hm => by have := List.mem_singleton.1 hm; omega)) (fun m hm => by have := List.mem_singleton.1 hm; omega) (by simp) (fun m hm => by have := List.mem_singleton.1 hm; omega)
        rw [← hA] at h
        exact h))
      have HAA := Lib.hid hA
      clear hA
      obtain ⟨hx0, hx1, _, _⟩ := HX4.out.two
      have hmn0 := hmb.1
      by_cases h1 : a < 0
      · have hd3 : decide (a < 0) = true := decide_eq_true h1
        obtain rfl : A = mn := by rw [HAA.out, if_pos (by omega)]
        have hna : A ≠ a := by omega
        have hq1 : decide (A ≠ a) = true := decide_eq_true hna
        rw [hq1] at HWR HWV HW1
        have hq2 : (A == a) = false := by simp; omega
        have hq3 : (A != a) = true := by simp; omega
        clear hq1 hna
        go_wp2_with fail
        refine (HWR.out _ (Below.refl _ _)).mono ?_; rintro e w5 ⟨rfl, hb5⟩
        obtain ⟨b6, B6, z6⟩ := boxed0 w5 [.int .i64 A, .int .i64 (-1)] 49
        have hb56 := hb5.trans (b6.mono hb5.size)
        obtain ⟨hx0, hx1, _, _⟩ := (HX4.out.next hb56).two
        clear b6 hb5
        go_wp2_with fail
        generalize (w5.alloc (.cells #[.int .i64 A, .int .i64 (-1)] 49)) = w6 at *
        obtain ⟨ga, hga⟩ : ∃ ga, ga = w5.heap.size := ⟨_, rfl⟩
        rw [← hga] at B6 ⊢
        clear hga
        refine (HWV.out _ hb56).mono ?_; rintro e w7 ⟨rfl, hb7⟩
        obtain ⟨b8, B8, z8⟩ := boxed0 w7 [.int .i64 A, .int .i64 (-1)] 49
        have hb78 := hb7.trans (b8.mono hb7.size)
        have hb58 := hb56.trans (hb78.mono hb56.size)
        have B68 := B6.next hb78
        obtain ⟨hx0, hx1, _, _⟩ := (HX4.out.next hb58).two
        clear b8 hb7
        go_wp2_with fail
        have HG8 := Lib.hid (show (w7.alloc (.cells #[.int .i64 A, .int .i64 (-1)] 49)).heap.size = w7.heap.size + 1 by simp)
        generalize (w7.alloc (.cells #[.int .i64 A, .int .i64 (-1)] 49)) = w8 at *
        obtain ⟨gb, hgb⟩ : ∃ gb, gb = w7.heap.size := ⟨_, rfl⟩
        rw [← hgb] at B8 HG8 ⊢
        clear hgb
        refine (HW1.out _ _ HG8 hb58).mono ?_; rintro e w9 ⟨rfl, hb9⟩
        have hb89 := (alloc_below w8 (.cells #[.int .i64 A] 3)).trans (hb9.mono (by simp))
        obtain ⟨b10, B10, z10⟩ := boxed0 w9 [.int .i64 A, .int .i64 (-1)] 49
        have hb810 := hb89.trans (b10.mono hb89.size)
        have hb510 := hb58.trans (hb810.mono hb58.size)
        obtain ⟨hx0, hx1, _, _⟩ := (HX4.out.next hb510).two
        obtain ⟨ha0, ha1, _, _⟩ := (B68.next hb810).two
        obtain ⟨hb0, hb1, _, _⟩ := (B8.next hb810).two
        obtain ⟨hc0, hc1, _, _⟩ := B10.two
        have hfin := Lib.hid (hbw.out.trans (hb510.mono hbw.out.size))
        clear b10 hb9 hb89 hb810 hb510 hb58 hb56 hb78 B6 B68 B8 B10
        go_wp2_with fail
        go_ret
        exact ⟨rfl, hfin.out⟩
      · have hd3 : decide (a < 0) = false := decide_eq_false h1
        by_cases h2 : mn < a
        · have hd4 : decide (mn < a) = true := decide_eq_true h2
          obtain rfl : A = mn := by rw [HAA.out, if_pos (by omega)]
          have hna : A ≠ a := by omega
          have hq1 : decide (A ≠ a) = true := decide_eq_true hna
          rw [hq1] at HWR HWV HW1
          have hq2 : (A == a) = false := by simp; omega
          have hq3 : (A != a) = true := by simp; omega
          clear hq1 hna
          go_wp2_with fail
          refine (HWR.out _ (Below.refl _ _)).mono ?_; rintro e w5 ⟨rfl, hb5⟩
          obtain ⟨b6, B6, z6⟩ := boxed0 w5 [.int .i64 A, .int .i64 (-1)] 49
          have hb56 := hb5.trans (b6.mono hb5.size)
          obtain ⟨hx0, hx1, _, _⟩ := (HX4.out.next hb56).two
          clear b6 hb5
          go_wp2_with fail
          generalize (w5.alloc (.cells #[.int .i64 A, .int .i64 (-1)] 49)) = w6 at *
          obtain ⟨ga, hga⟩ : ∃ ga, ga = w5.heap.size := ⟨_, rfl⟩
          rw [← hga] at B6 ⊢
          clear hga
          refine (HWV.out _ hb56).mono ?_; rintro e w7 ⟨rfl, hb7⟩
          obtain ⟨b8, B8, z8⟩ := boxed0 w7 [.int .i64 A, .int .i64 (-1)] 49
          have hb78 := hb7.trans (b8.mono hb7.size)
          have hb58 := hb56.trans (hb78.mono hb56.size)
          have B68 := B6.next hb78
          obtain ⟨hx0, hx1, _, _⟩ := (HX4.out.next hb58).two
          clear b8 hb7
          go_wp2_with fail
          have HG8 := Lib.hid (show (w7.alloc (.cells #[.int .i64 A, .int .i64 (-1)] 49)).heap.size = w7.heap.size + 1 by simp)
          generalize (w7.alloc (.cells #[.int .i64 A, .int .i64 (-1)] 49)) = w8 at *
          obtain ⟨gb, hgb⟩ : ∃ gb, gb = w7.heap.size := ⟨_, rfl⟩
          rw [← hgb] at B8 HG8 ⊢
          clear hgb
          refine (HW1.out _ _ HG8 hb58).mono ?_; rintro e w9 ⟨rfl, hb9⟩
          have hb89 := (alloc_below w8 (.cells #[.int .i64 A] 3)).trans (hb9.mono (by simp))
          obtain ⟨b10, B10, z10⟩ := boxed0 w9 [.int .i64 A, .int .i64 (-1)] 49
          have hb810 := hb89.trans (b10.mono hb89.size)
          have hb510 := hb58.trans (hb810.mono hb58.size)
          obtain ⟨hx0, hx1, _, _⟩ := (HX4.out.next hb510).two
          obtain ⟨ha0, ha1, _, _⟩ := (B68.next hb810).two
          obtain ⟨hb0, hb1, _, _⟩ := (B8.next hb810).two
          obtain ⟨hc0, hc1, _, _⟩ := B10.two
          have hfin := Lib.hid (hbw.out.trans (hb510.mono hbw.out.size))
          clear b10 hb9 hb89 hb810 hb510 hb58 hb56 hb78 B6 B68 B8 B10
          go_wp2_with fail
          go_ret
          exact ⟨rfl, hfin.out⟩
        · have hd4 : decide (mn < a) = false := decide_eq_false h2
          obtain rfl : A = a := by rw [HAA.out, if_neg (by omega)]
          have hq1 : decide (A ≠ A) = false := by simp
          rw [hq1] at HWR HWV HW1
          clear hq1
          go_wp2_with fail
          refine (HWR.out _ (Below.refl _ _)).mono ?_; rintro e w5 ⟨rfl, hb5⟩
          obtain ⟨b6, B6, z6⟩ := boxed0 w5 [.int .i64 A, .int .i64 (-1)] 49
          have hb56 := hb5.trans (b6.mono hb5.size)
          obtain ⟨hx0, hx1, _, _⟩ := (HX4.out.next hb56).two
          clear b6 hb5
          go_wp2_with fail
          generalize (w5.alloc (.cells #[.int .i64 A, .int .i64 (-1)] 49)) = w6 at *
          obtain ⟨ga, hga⟩ : ∃ ga, ga = w5.heap.size := ⟨_, rfl⟩
          rw [← hga] at B6 ⊢
          clear hga
          refine (HWV.out _ hb56).mono ?_; rintro e w7 ⟨rfl, hb7⟩
          obtain ⟨b8, B8, z8⟩ := boxed0 w7 [.int .i64 A, .int .i64 (-1)] 49
          have hb78 := hb7.trans (b8.mono hb7.size)
          have hb58 := hb56.trans (hb78.mono hb56.size)
          have B68 := B6.next hb78
          obtain ⟨hx0, hx1, _, _⟩ := (HX4.out.next hb58).two
          clear b8 hb7
          go_wp2_with fail
          have HG8 := Lib.hid (show (w7.alloc (.cells #[.int .i64 A, .int .i64 (-1)] 49)).heap.size = w7.heap.size + 1 by simp)
          generalize (w7.alloc (.cells #[.int .i64 A, .int .i64 (-1)] 49)) = w8 at *
          obtain ⟨gb, hgb⟩ : ∃ gb, gb = w7.heap.size := ⟨_, rfl⟩
          rw [← hgb] at B8 HG8 ⊢
          clear hgb
          refine (HW1.out _ _ HG8 hb58).mono ?_; rintro e w9 ⟨rfl, hb9⟩
          have hb89 := (alloc_below w8 (.cells #[.int .i64 mn] 3)).trans (hb9.mono (by simp))
          obtain ⟨b10, B10, z10⟩ := boxed0 w9 [.int .i64 A, .int .i64 (-1)] 49
          have hb810 := hb89.trans (b10.mono hb89.size)
          have hb510 := hb58.trans (hb810.mono hb58.size)
          obtain ⟨hx0, hx1, _, _⟩ := (HX4.out.next hb510).two
          obtain ⟨ha0, ha1, _, _⟩ := (B68.next hb810).two
          obtain ⟨hb0, hb1, _, _⟩ := (B8.next hb810).two
          obtain ⟨hc0, hc1, _, _⟩ := B10.two
          have hfin := Lib.hid (hbw.out.trans (hb510.mono hbw.out.size))
          clear b10 hb9 hb89 hb810 hb510 hb58 hb56 hb78 B6 B68 B8 B10
          go_wp2_with fail
          go_ret
          exact ⟨rfl, hfin.out⟩
end Go.Proofs.Ytcaolnpkpialdaa
