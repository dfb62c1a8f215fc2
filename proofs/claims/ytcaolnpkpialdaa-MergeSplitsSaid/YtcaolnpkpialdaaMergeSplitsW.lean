/- The walk of the law MergeSplits. -/
import Derived.Test.YtcaolnpkpialdaaPSplits
import Derived.IntWalk
import Derived.Deep.LoopGhost
import Derived.Deep.DeepCutAuto
namespace Go.Proofs.Ytcaolnpkpialdaa
open Go.RowKit Go.Sort Go.Proofs
theorem inf_mrow : (Try.prog.info? 39).map (fun i => (i.zero, i.size, i.bytes)) = some (some (.slice none 0 0), 1, 24) := by kernel_rfl
theorem own_form2 {w : World} {B : Nat} {e : TypeId} {size n c : Nat} {p : Option Addr} {xs : List Value} (h : w.ownsRow B e size (.slice p n c) n xs) : (p = none ∧ c = 0) ∨ ∃ g, p = some ⟨g, 0, none⟩ := by
  rcases h.2 with ⟨h1, h2⟩ | ⟨g, cap, cur, h1, h2, h3⟩
  · cases h1; exact .inl ⟨rfl, rfl⟩
  · cases h1; exact .inr ⟨g, rfl⟩
set_option linter.unusedVariables false in
set_option maxHeartbeats 8000000 in
set_option maxRecDepth 100000 in
theorem mergeSplits_walk (w : World) (v0 : Value) (l0 : List (List Int)) (h0 : IsR 2 w v0 l0) (v1 : Value) (O : List Int) (h1 : IsI w v1 O) :
    Calls Try.prog 4 #[v0, v1] w fun e w' => e = .returned (.bool true) ∧ Below w.heap.size w w' := by
  obtain ⟨p0, c0, rfl⟩ := h0.val
  obtain ⟨p1, c1, rfl⟩ := h1.val
  obtain ⟨-, -, hO63⟩ := h1.lens
  have HP := Lib.hid (posts_any p0 c0 _ l0 40 w h0 (by omega))
  have hpl : (postsL l0 40).length ≤ 40 := by unfold postsL; rw [List.length_map]; exact List.length_take_le _ _
  generalize postsL l0 40 = l at *
  generalize l0.length = n0 at *
  obtain ⟨n, hn⟩ : ∃ n, n = l.length := ⟨_, rfl⟩
  have HN := Lib.hid hn
  obtain ⟨cn, hcn⟩ : ∃ cn, cn = O.length := ⟨_, rfl⟩
  have HCN := Lib.hid hcn
  have HI := Lib.hid h1
  rw [← hn] at HP hpl
  rw [← hcn] at HI ⊢
  clear h0 h1 hn hcn
  go_enter Try.func4, Try.ntmps4
  go_wp2_with fail
  refine HP.out.mono ?_; rintro e w1 ⟨q, d, rfl, ho1, hb1⟩
  have HSO := Lib.hid (fun (W : World) (hb : Below w1.heap.size w1 W) (p : Option Addr) (m c : Nat) (x : List (Nat × Nat)) (hs : Sl w1 2 (.slice p m c) m (mcs x)) (hm : m ≤ 5000) => sorted_ok m c p x W (hs.later hb) hm)
  have HS1 := Lib.hid (Sl.of_own ho1)
  obtain ⟨-, hl2, hl3⟩ := (Sl.of_own ho1).mlen
  have HS2 := Lib.hid (HSO.out w1 (Below.refl _ _) q n d l HS1.out (by omega))
  go_wp2_with fail
  refine HS2.out.mono ?_; rintro e w2 ⟨q2, d2, rfl, ho2, hb2⟩
  have HO2 := Lib.hid ho2
  have HQ := Lib.hid (own_form2 ho1)
  have hsz2 := hb2.size
  have hbw1 := hb1.size
  have HB1 := Lib.hid hb1
  have HBL := Lib.hid hb2
  clear hb1 hb2
  go_wp2_with fail
  go_loopg [7, 8, 9, 10, 11, 12, 13] 6 (fun gk v7 v8 v9 v10 v11 v12 v13 wr => ∃ (i k : Nat) (p' : Option Addr) (c' : Nat) (R : List (List (Nat × Nat))) (vs : List Value), v7 = .bool true ∧ v8 = .slice p' i c' ∧ v9 = .int .i64 (k : Int) ∧ v10 = .int .i64 (i : Int) ∧ i + gk = 6 ∧ k ≤ n ∧ Hid (OwnRR mcs 39 109 2 List.length wr w2.heap.size (.slice p' i c') i R vs) ∧ Hid (Spl l k R) ∧ Hid (Below w2.heap.size w2 wr))
  case atStart => exact ⟨0, 0, none, 0, [], [], rfl, rfl, rfl, rfl, by omega, by omega, Lib.hid (OwnRR.nil _ _), Lib.hid (Spl.zero _), Lib.hid (Below.refl _ _)⟩
  case round =>
    obtain ⟨i, k, p', c', R, vs, rfl, rfl, rfl, rfl, hgk, hkn, HRR, HSP, HBR⟩ := hrel
    have HGK := Lib.hid hgk
    have hi6 : i ≤ 6 := by omega
    clear hgk
    have HBW := Lib.hid (show Below w1.heap.size w1 wr from HBL.out.trans (HBR.out.mono HBL.out.size))
    go_upto_region 6 with fail
    obtain ⟨cond, hcond⟩ : ∃ cond, cond = decide (i < cn ∧ i < 6) := ⟨_, rfl⟩
    go_cut [32] (fun s32 wx => s32 = .bool cond ∧ wr = wx)
    case first =>
      by_cases h1 : i < cn
      · have hd1 : decide ((i : Int) < (cn : Int)) = true := by simp; omega
        by_cases h2 : i < 6
        · have hd2 : decide ((i : Int) < 6) = true := by simp; omega
          go_wp2_with fail
          go_meet
          case rel => exact ⟨by rw [hcond]; simp [h1, h2], rfl⟩
        · have hd2 : decide ((i : Int) < 6) = false := by simp; omega
          go_wp2_with fail
          go_meet
          case rel => exact ⟨by rw [hcond]; simp [h1, h2], rfl⟩
      · have hd1 : decide ((i : Int) < (cn : Int)) = false := by simp; omega
        go_wp2_with fail
        go_meet
        case rel => exact ⟨by rw [hcond]; simp [h1], rfl⟩
    case rest =>
    obtain ⟨rfl, rfl⟩ := hcut
    cases cond with
    | true =>
      have hc2 := of_decide_eq_true hcond.symm
      clear hcond
      obtain ⟨hicn, hi6'⟩ := hc2
      have hIW := HI.out.later (HB1.out.trans (HBW.out.mono hbw1))
      obtain ⟨ob, ooff, rfl, hoc⟩ := isI_at hIW (show i < O.length by rw [← HCN.out]; exact hicn)
      have hxb := HI.out.2 _ (List.getElem_mem (show i < O.length by rw [← HCN.out]; exact hicn))
      obtain ⟨x, hx⟩ : ∃ x, x = O[i]'(by rw [← HCN.out]; exact hicn) := ⟨_, rfl⟩
      rw [← hx] at hoc hxb
      obtain ⟨m, hm⟩ : ∃ m, m = n - k := ⟨_, rfl⟩
      have HPX := Lib.hid (fun w' => picked_i x ((m : Int) + 1) (m + 1) w' (by push_cast; rfl) hxb.1 hxb.2 (by omega) (by omega))
      have hpk := pickN_lt x (m := m + 1) (by omega)
      generalize pickN x (m + 1) = y at HPX hpk
      have hw1 : IntKind.i64.wrap ((n : Int) - (k : Int)) = (m : Int) := by rw [IntWalk.i64_in _ (by omega)]; omega
      have hw2 : IntKind.i64.wrap ((m : Int) + 1) = (m : Int) + 1 := IntWalk.i64_in _ (by omega)
      obtain ⟨tt, htt⟩ : ∃ tt, tt = k + y := ⟨_, rfl⟩
      have hw3 : IntKind.i64.wrap ((k : Int) + (y : Int)) = (tt : Int) := by rw [IntWalk.i64_in _ (by omega)]; omega
      have hi0 : (0 : Int) ≤ (i : Int) := by omega
      have hicn' : (i : Int) < (cn : Int) := by omega
      have htn : tt ≤ n := by omega
      have hkt : k ≤ tt := by omega
      clear htt hpk hx hm hIW hxb
      go_upto_region 9 with (first
        | (go_at_call 15; refine (HPX.out _).mono ?_; rintro e wn ⟨rfl, rfl⟩))
      have hk0 : (0 : Int) ≤ (k : Int) := by omega
      have hk1 : (k : Int) ≤ (tt : Int) := by omega
      have hk2 : (tt : Int) ≤ (d : Int) := by omega
      have hk3 : (tt : Int) ≤ (n : Int) := by omega
      have ht0 : (0 : Int) ≤ (tt : Int) := by omega
      go_cut [12, 13] (fun s12 s13 wx => ∃ (p3 : Option Addr) (c3 : Nat), s12 = .slice p3 (tt - k) c3 ∧ s13 = .bool true ∧ Hid (wx.ownsRow wr.heap.size 109 2 (.slice p3 (tt - k) c3) (tt - k) (mcs (srt cfM ((l.drop k).take (tt - k))))) ∧ Hid (Below wr.heap.size wr wx))
      case first =>
        rcases HQ.out with ⟨rfl, rfl⟩ | ⟨qb, rfl⟩
        · obtain rfl : tt = 0 := by omega
          obtain rfl : k = 0 := by omega
          go_wp2_with fail
          refine (HSO.out wr HBW.out none 0 0 [] ⟨none, 0, rfl, Nat.le_refl _, by decide, rfl, fun _ => rfl, .inl rfl⟩ (by omega)).mono ?_; rintro e w3 ⟨p3, c3, rfl, ho3, hb3⟩
          go_wp2_with fail
          go_meet
          case rel => exact ⟨p3, c3, rfl, rfl, Lib.hid (by rw [Nat.sub_self, List.take_zero]; exact ho3), Lib.hid hb3⟩
        · by_cases htk : tt = k
          · subst htk
            go_wp2_with fail
            refine (HSO.out wr HBW.out (some ⟨qb, 0, none⟩) 0 0 [] ⟨_, 0, rfl, Nat.le_refl _, by decide, rfl, (fun h => by cases h), .inl rfl⟩ (by omega)).mono ?_; rintro e w3 ⟨p3, c3, rfl, ho3, hb3⟩
            go_wp2_with fail
            go_meet
            case rel => exact ⟨p3, c3, by rw [Nat.sub_self], rfl, Lib.hid (by rw [Nat.sub_self, List.take_zero]; exact ho3), Lib.hid hb3⟩
          · go_wp2_with fail
            refine (HSO.out wr HBW.out (some ⟨qb, k * 2, none⟩) (tt - k) (tt - k) _ (sl_piece HS1.out k tt (tt - k) (k * 2) hkt htn (Nat.le_refl _) (by omega) (.inl (by omega))) (by omega)).mono ?_; rintro e w3 ⟨p3, c3, rfl, ho3, hb3⟩
            go_wp2_with fail
            go_meet
            case rel => exact ⟨p3, c3, rfl, rfl, Lib.hid ho3, Lib.hid hb3⟩
      case rest =>
      obtain ⟨p3, c3, rfl, rfl, HO3, HB3⟩ := hcut
      obtain ⟨w3, rfl⟩ : ∃ w3, w3 = wc := ⟨_, rfl⟩
      have HSP2 := Lib.hid (HSP.out.step tt hkt)
      have HL3 := Lib.hid (show (srt cfM ((l.drop k).take (tt - k))).length = tt - k by rw [srt_len, List.length_take, List.length_drop, ← HN.out]; omega)
      generalize srt cfM ((l.drop k).take (tt - k)) = r at *
      generalize tt - k = m3 at *
      have HR3 := Lib.hid (HRR.out.later HB3.out)
      have hsz := HBR.out.size
      have hsz3 := HB3.out.size
      have hm3 : i + 1 ≤ maxLen := by unfold maxLen; omega
      have hm4 : (i + 1) * 24 ≤ 140737488355328 := by omega
      have ho1' : ∀ z ∈ [Value.slice p3 m3 c3], z.oneCell' = true := by intro z hz; rw [List.mem_singleton.1 hz]; rfl
      have HO6 := Lib.hid (HR3.out.outer.alloc (.cells #[Value.slice p3 m3 c3] 39))
      have hzz : w2.heap.size ≤ w3.heap.size := by omega
      clear hk0 hk1 hk2 hk3 ht0 hoc hw1 hw2 hw3
      go_upto_region 12 with (at_builtin; refine wp_app (w0 := w3) rfl (.tmp 60) (.tmp 62) _ rfl w2.heap.size 39 rfl inf_mrow rfl (by decide) rfl HO6.out rfl (news := [Value.slice p3 m3 c3]) (sl_new w3 [Value.slice p3 m3 c3] 39) ho1' hm3 hm4 ((alloc_below w3 _).mono hzz) (by simp; omega) ?_; intro p7 c7 w7 hown7 hb7 hs7 hg7 hnb7)
      have hfar : ∀ j, (Value.slice p3 m3 c3).ownBlock = some j → (Value.slice p' i c').ownBlock ≠ some j := fun j hj e => by have h1 := (HO3.out.lt j hj).1; have h2 := (HRR.out.outer.lt j e).2; omega
      have hgw7 : w3.grownBy w7 (Value.slice p' i c').ownBlock := ⟨hg7.os, hg7.tape, hg7.output, Nat.le_trans (World.grownBy_alloc w3 _ none).size hg7.size, fun j hj hr => (hg7.block j (Nat.lt_of_lt_of_le hj (World.grownBy_alloc w3 _ none).size) hr).trans ((World.grownBy_alloc w3 _ none).block j hj (by simp))⟩
      have HR7 := Lib.hid (OwnRR.push HR3.out hgw7 (r := r) (by rw [HL3.out]; exact own_mono HO3.out hsz) hfar hown7 (by rcases hnb7 with h | h; exact .inl h; exact .inr ⟨_, by simp, h⟩))
      have HB7 := Lib.hid (show Below w2.heap.size w2 w7 from ((HBR.out.trans (HB3.out.mono hsz))).grown hgw7 (by omega) (fun j hj => (HR3.out.outer.lt j hj).1))
      clear hfar hgw7 hown7 hb7 hs7 hg7 hnb7
      go_wp2_with fail
      go_roundg (6 - (i + 1))
      case measure => have := HGK.out; omega
      case rel => exact ⟨i + 1, tt, p7, c7, _, _, rfl, rfl, rfl, by go_num, by omega, htn, HR7, HSP2, HB7⟩
    | false =>
      clear hcond
      have hk0 : (0 : Int) ≤ (k : Int) := by omega
      have hk2 : (k : Int) ≤ (d : Int) := by omega
      have hk3 : (k : Int) ≤ (n : Int) := by omega
      go_upto_region 13 with fail
      go_cut [14, 15] (fun s14 s15 wx => ∃ (p3 : Option Addr) (c3 : Nat), s14 = .slice p3 (n - k) c3 ∧ s15 = .bool true ∧ Hid (wx.ownsRow wr.heap.size 109 2 (.slice p3 (n - k) c3) (n - k) (mcs (srt cfM (l.drop k)))) ∧ Hid (Below wr.heap.size wr wx))
      case first =>
        have HDK := Lib.hid (show (l.drop k).take (n - k) = l.drop k from List.take_of_length_le (by rw [List.length_drop, ← HN.out]; exact Nat.le_refl _))
        rcases HQ.out with ⟨rfl, rfl⟩ | ⟨qb, rfl⟩
        · obtain rfl : n = 0 := by omega
          obtain rfl : k = 0 := by omega
          have hl0 : l = [] := List.eq_nil_of_length_eq_zero HN.out.symm
          have HL0 := Lib.hid hl0
          clear hl0
          go_wp2_with fail
          refine (HSO.out wr HBW.out none 0 0 [] ⟨none, 0, rfl, Nat.le_refl _, by decide, rfl, fun _ => rfl, .inl rfl⟩ (by omega)).mono ?_; rintro e w3 ⟨p3, c3, rfl, ho3, hb3⟩
          go_wp2_with fail
          go_meet
          case rel => exact ⟨p3, c3, rfl, rfl, Lib.hid (by rw [HL0.out]; exact ho3), Lib.hid hb3⟩
        · by_cases hkd : k = d
          · subst hkd
            obtain rfl : n = k := by omega
            have HD0 := Lib.hid (show l.drop n = [] from List.drop_of_length_le (by rw [← HN.out]; exact Nat.le_refl _))
            go_wp2_with fail
            refine (HSO.out wr HBW.out (some ⟨qb, 0, none⟩) 0 0 [] ⟨_, 0, rfl, Nat.le_refl _, by decide, rfl, (fun h => by cases h), .inl rfl⟩ (by omega)).mono ?_; rintro e w3 ⟨p3, c3, rfl, ho3, hb3⟩
            go_wp2_with fail
            go_meet
            case rel => exact ⟨p3, c3, by rw [Nat.sub_self], rfl, Lib.hid (by rw [Nat.sub_self, HD0.out]; exact ho3), Lib.hid hb3⟩
          · go_wp2_with fail
            have hsl := sl_piece HS1.out k n (d - k) (k * 2) hkn (Nat.le_refl _) (by omega) (by omega) (.inl (by omega))
            rw [HDK.out] at hsl
            refine (HSO.out wr HBW.out (some ⟨qb, k * 2, none⟩) (n - k) (d - k) _ hsl (by omega)).mono ?_; rintro e w3 ⟨p3, c3, rfl, ho3, hb3⟩
            go_wp2_with fail
            go_meet
            case rel => exact ⟨p3, c3, rfl, rfl, Lib.hid ho3, Lib.hid hb3⟩
      case rest =>
      obtain ⟨p3, c3, rfl, rfl, HO3, HB3⟩ := hcut
      obtain ⟨w3, rfl⟩ : ∃ w3, w3 = wc := ⟨_, rfl⟩
      have HSP2 := Lib.hid (HSP.out.last)
      have HL3 := Lib.hid (show (srt cfM (l.drop k)).length = n - k by rw [srt_len, List.length_drop, ← HN.out])
      generalize srt cfM (l.drop k) = r at *
      generalize n - k = m3 at *
      have HR3 := Lib.hid (HRR.out.later HB3.out)
      have hsz := HBR.out.size
      have hsz3 := HB3.out.size
      have hm3 : i + 1 ≤ maxLen := by unfold maxLen; omega
      have hm4 : (i + 1) * 24 ≤ 140737488355328 := by omega
      have ho1' : ∀ z ∈ [Value.slice p3 m3 c3], z.oneCell' = true := by intro z hz; rw [List.mem_singleton.1 hz]; rfl
      have HO6 := Lib.hid (HR3.out.outer.alloc (.cells #[Value.slice p3 m3 c3] 39))
      have hzz : w2.heap.size ≤ w3.heap.size := by omega
      have HFIN := Lib.hid (fun (p7 : Option Addr) (c7 : Nat) (w7 : World) (hown7 : w7.ownsRow w2.heap.size 39 1 (.slice p7 (i + 1) c7) (i + 1) (vs ++ [Value.slice p3 m3 c3])) (hg7 : (w3.alloc (.cells #[Value.slice p3 m3 c3] 39)).grownBy w7 (Value.slice p' i c').ownBlock)
          (hnb7 : (Value.slice p7 (i + 1) c7).ownBlock = (Value.slice p' i c').ownBlock ∨ (Value.slice p7 (i + 1) c7).ownBlock = some (w3.alloc (.cells #[Value.slice p3 m3 c3] 39)).heap.size) =>
        (show (Calls Try.prog 20 #[.slice p7 (i + 1) c7] w7 fun e w' => ∃ p' c', e = .returned (.tuple #[.slice p' n c', .int .i64 0]) ∧ Sl w' 2 (.slice p' n c') n (mcs (srt cfM l)) ∧ Below w7.heap.size w7 w') ∧ Below w2.heap.size w2 w7 from by
          have hfar : ∀ j, (Value.slice p3 m3 c3).ownBlock = some j → (Value.slice p' i c').ownBlock ≠ some j := fun j hj e => by have h1 := (HO3.out.lt j hj).1; have h2 := (HRR.out.outer.lt j e).2; omega
          have hgw7 : w3.grownBy w7 (Value.slice p' i c').ownBlock := ⟨hg7.os, hg7.tape, hg7.output, Nat.le_trans (World.grownBy_alloc w3 _ none).size hg7.size, fun j hj hr => (hg7.block j (Nat.lt_of_lt_of_le hj (World.grownBy_alloc w3 _ none).size) hr).trans ((World.grownBy_alloc w3 _ none).block j hj (by simp))⟩
          have hrr := OwnRR.push HR3.out hgw7 (r := r) (by rw [HL3.out]; exact own_mono HO3.out hsz) hfar hown7 (by rcases hnb7 with h | h; exact .inl h; exact .inr ⟨_, by simp, h⟩)
          obtain ⟨hd1, hd2⟩ := HSP2.out.done
          rw [← HN.out] at hd2
          have hls := lists_ok p7 (i + 1) c7 (R ++ [r]) w7 hrr.isRR HSP2.out.so (by omega) (by rw [hd2]; omega)
          rw [hd1, hd2] at hls
          refine ⟨hls.mono ?_, ((HBR.out.trans (HB3.out.mono hsz))).grown hgw7 (by omega) (fun j hj => (HR3.out.outer.lt j hj).1)⟩
          rintro e w8 ⟨p9, c9, rfl, ho9, hb9⟩
          exact ⟨p9, c9, rfl, Sl.of_own ho9, hb9⟩))
      have HSL2 := Lib.hid (Sl.of_own HO2.out)
      clear hk0 hk2 hk3
      go_wp2_with (first
        | (at_builtin; refine wp_app (w0 := w3) rfl (.tmp 73) (.tmp 75) _ rfl w2.heap.size 39 rfl inf_mrow rfl (by decide) rfl HO6.out rfl (news := [Value.slice p3 m3 c3]) (sl_new w3 [Value.slice p3 m3 c3] 39) ho1' hm3 hm4 ((alloc_below w3 _).mono hzz) (by simp; omega) ?_; intro p7 c7 w7 hown7 hb7 hs7 hg7 hnb7; have HF7 := Lib.hid (HFIN.out p7 c7 w7 hown7 hg7 hnb7); clear hown7 hb7 hs7 hg7 hnb7)
        | (go_at_call 20; refine HF7.out.1.mono ?_; rintro e w8 ⟨p9, c9, rfl, hs9, hb9⟩; have HS9 := Lib.hid hs9; have HB9 := Lib.hid hb9; clear hs9 hb9)
        | (go_at_call 21; refine (sameMail_any p9 q2 c9 d2 n n _ _ w8 HS9.out (HSL2.out.later (HF7.out.2.trans (HB9.out.mono HF7.out.2.size))) rfl).mono ?_; rintro e w10 ⟨rfl, hb10⟩))
      go_ret
      refine ⟨rfl, ?_⟩
      have h1 := HB1.out.trans (HBL.out.mono HB1.out.size)
      have h2 := h1.trans (HF7.out.2.mono h1.size)
      have h3 := h2.trans (HB9.out.mono h2.size)
      exact h3.trans (hb10.mono h3.size)
end Go.Proofs.Ytcaolnpkpialdaa
