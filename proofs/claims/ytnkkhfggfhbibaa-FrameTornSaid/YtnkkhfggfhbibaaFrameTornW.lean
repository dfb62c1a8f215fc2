/- The walk of the law FrameTorn. -/
import Derived.Test.YtnkkhfggfhbibaaAllF
import Derived.Test.YtnkkhfggfhbibaaWrap
import Derived.Test.YtnkkhfggfhbibaaPick
import Derived.Test.YtnkkhfggfhbibaaRowsM
import Derived.Deep.RegionHeld3
import Derived.Deep.DeepCutAuto
import Derived.Deep.QuietTactic
import Derived.BigQuiet
namespace Go.Proofs.Ytnkkhfggfhbibaa
open Go.RowKit
theorem IsB.takeCap {w : World} {p : Option Addr} {c n : Nat} {l : List Nat} (h : IsB w (.slice p n c) l) {k : Nat} (hk : k ≤ l.length) : IsB w (.slice p k k) (l.take k) := by
  obtain ⟨rfl, hc, _⟩ := h.lens
  obtain ⟨⟨p', c', hp, h1, h2, h3, h4, h5⟩, hb⟩ := h
  cases hp
  have hl : (l.take k).length = k := by rw [List.length_take]; omega
  refine ⟨⟨p, k, by rw [hl], by omega, by unfold maxLen at *; omega, by simp [bys], fun hp => by have := h4 hp; omega, ?_⟩, fun x hx => hb x (List.mem_of_mem_take hx)⟩
  rcases h5 with h5 | ⟨b, off, rfl, h5⟩
  · left
    have : l = [] := by simpa [bys] using h5
    subst this; simp [bys]
  · refine .inr ⟨b, off, rfl, fun j u hj => h5 j u ?_⟩
    have hjk : j < k := by have := (List.getElem?_eq_some_iff.1 hj).1; rw [show (bys (l.take k)).length = k from by simp [bys]; omega] at this; exact this
    unfold bys at hj ⊢
    rw [List.map_take, List.getElem?_take_of_lt hjk] at hj
    exact hj
/-- what is framed -/
def payL (l : List (List Nat)) : List (List Nat) := (l.take 8).map fun r => r.take 60
theorem payL_len (l : List (List Nat)) : (payL l).length ≤ 8 ∧ (payL l).length ≤ l.length ∧ ((payL l).length < l.length → 8 ≤ (payL l).length) := by
  unfold payL; rw [List.length_map, List.length_take]; omega
theorem payL_at {l : List (List Nat)} {i : Nat} (h : i < (payL l).length) (hi : i < l.length) : (payL l)[i] = l[i].take 60 := by
  simp [payL]
theorem payL_bd {l : List (List Nat)} : ∀ b ∈ payL l, b.length ≤ 60 := by
  intro b hb
  obtain ⟨r, _, rfl⟩ := List.mem_map.1 hb
  exact List.length_take_le _ _
theorem tot_take_succ {bs : List (List Nat)} {i : Nat} (h : i < bs.length) : tot (bs.take (i + 1)) = tot (bs.take i) + (wrapL bs[i]).length := by
  unfold tot
  rw [List.take_succ_eq_append_getElem h, List.flatMap_append, List.length_append]; simp
theorem tot_bd {bs : List (List Nat)} (h : ∀ b ∈ bs, b.length ≤ 60) : tot bs ≤ bs.length * 100 := by
  induction bs with
  | nil => simp [tot]
  | cons b bs ih =>
    have h1 := h b (by simp)
    have h2 := ih (fun x hx => h x (by simp [hx]))
    have h3 := put_len10 (n := b.length) (by unfold U64; omega)
    rw [tot_cons, wrapL_len, List.length_cons]; omega
def endsL (bs : List (List Nat)) : List Nat := (List.range bs.length).map fun i => tot (bs.take (i + 1))
theorem endsL_take {bs : List (List Nat)} {i : Nat} (h : i < bs.length) : endsL (bs.take (i + 1)) = endsL (bs.take i) ++ [tot (bs.take (i + 1))] := by
  unfold endsL
  rw [List.length_take, List.length_take, Nat.min_eq_left (by omega), Nat.min_eq_left (by omega), List.range_succ, List.map_append]
  congr 1
  · refine List.map_congr_left fun j hj => ?_
    have := List.mem_range.1 hj
    rw [List.take_take, List.take_take, Nat.min_eq_left (by omega), Nat.min_eq_left (by omega)]
  · simp [List.take_take]
theorem endsL_at {bs : List (List Nat)} {i : Nat} (h : i < bs.length) : (endsL bs)[i]? = some (tot (bs.take (i + 1))) := by
  unfold endsL
  rw [List.getElem?_map, List.getElem?_range h]; rfl
theorem endsL_len (bs : List (List Nat)) : (endsL bs).length = bs.length := by simp [endsL]
theorem flat_take_succ {bs : List (List Nat)} {i : Nat} (h : i < bs.length) : (bs.take (i + 1)).flatMap wrapL = (bs.take i).flatMap wrapL ++ wrapL bs[i] := by
  rw [List.take_succ_eq_append_getElem h, List.flatMap_append]; simp
theorem flat_bytes {bs : List (List Nat)} (h : ∀ b ∈ bs, AllB b) : AllB (bs.flatMap wrapL) := by
  intro x hx
  obtain ⟨b, hb, hx⟩ := List.mem_flatMap.1 hx
  exact wrapL_bytes (h b hb) x hx
set_option maxHeartbeats 16000000 in
set_option maxRecDepth 100000 in
theorem frameTorn_walk (w : World) (v0 : Value) (l0 : List (List Nat)) (h0 : IsBB w v0 l0) (a1 : Int) (ha0 : -9223372036854775808 ≤ a1) (ha1 : a1 ≤ 9223372036854775807) :
    Calls Try.prog 5 #[v0, .int .i64 a1] w fun e w' => e = .returned (.bool true) ∧ Below w.heap.size w w' := by
  obtain ⟨p0, c0, rfl, hc1, hc2⟩ := h0.val
  have HL := Lib.hid h0
  obtain ⟨hp1, hp2, hp3⟩ := payL_len l0
  have hPA := Lib.hid (fun i (h : i < (payL l0).length) (hi : i < l0.length) => payL_at h hi)
  have hPB := Lib.hid (payL_bd (l := l0))
  have hPW : ∀ b ∈ payL l0, AllB b := by
    intro b hb
    obtain ⟨i, hi, rfl⟩ := List.getElem_of_mem hb
    rw [payL_at hi (by omega)]
    obtain ⟨_, _, _, _, _, _, h⟩ := h0.get (i := i) (by omega)
    exact fun x hx => h.2 x (List.mem_of_mem_take hx)
  have HPW := Lib.hid hPW
  clear h0 hPW
  obtain ⟨T, hT⟩ : ∃ T, T = payL l0 := ⟨_, rfl⟩
  rw [← hT] at hp1 hp2 hp3 hPA hPB HPW
  clear hT
  have hTT := Lib.hid (tot_bd hPB.out)
  go_enter Try.func5, Try.ntmps5
  go_wp2_with fail
  go_loopg [5, 6, 7, 8, 9] T.length (fun gk v5 v6 v7 v8 v9 wr => ∃ (k : Nat) (p5 p6 : Option Addr) (c5 c6 : Nat), v7 = .int .i64 (k : Int) ∧ k + gk = T.length ∧ v5 = .slice p5 (tot (T.take k)) c5 ∧ v6 = .slice p6 k c6 ∧ wr.ownsRow w.heap.size 5 1 (.slice p5 (tot (T.take k)) c5) (tot (T.take k)) (bys ((T.take k).flatMap wrapL)) ∧ wr.ownsRow w.heap.size 3 1 (.slice p6 k c6) k (nts (endsL (T.take k))) ∧ (∀ j, (Value.slice p5 (tot (T.take k)) c5).ownBlock = some j → (Value.slice p6 k c6).ownBlock ≠ some j) ∧ Below w.heap.size w wr)
  case atStart => exact ⟨0, none, none, 0, 0, rfl, by omega, rfl, rfl, World.ownsRow_nil _ _ _ _, World.ownsRow_nil _ _ _ _, fun j hj => (by cases hj), Below.refl _ _⟩
  case round =>
    obtain ⟨k, p5, p6, c5, c6, rfl, hgk, rfl, rfl, ho5, ho6, hfar, hb⟩ := hrel
    have HGK := Lib.hid hgk
    have hk : k ≤ T.length := by omega
    clear hgk
    have htk : tot (T.take k) ≤ 1000 := by
      have h1 := tot_bd (bs := T.take k) (fun b hb => hPB.out b (List.mem_of_mem_take hb))
      have h2 := List.length_take_le k T
      omega
    by_cases hlt : k < T.length
    · have hkl : k < l0.length := by omega
      have hts := Lib.hid (tot_take_succ hlt)
      have hfs := Lib.hid (flat_take_succ hlt)
      have hes := Lib.hid (endsL_take hlt)
      have hpa := hPA.out k hlt hkl
      have hpb := hPB.out _ (List.getElem_mem hlt)
      have hwp : (wrapL T[k]).length ≤ 80 := by
        have hwl := wrapL_len T[k]
        have hpl := put_len10 (n := T[k].length) (by unfold U64; omega)
        omega
      obtain ⟨b, off, q, d, rfl, hcell, hrow⟩ := (HL.out.later hb).get hkl
      have HSM := Lib.hid (some_any q d _ l0[k] 60 wr hrow (by omega))
      rw [← hpa] at HSM
      have hTb := HPW.out _ (List.getElem_mem hlt)
      clear hrow hpa
      generalize T[k] = r at *
      generalize l0[k].length = m0 at *
      have hk0 : (0 : Int) ≤ (k : Int) := by omega
      have hkn : (k : Int) < (l0.length : Int) := by omega
      have hd1 : decide ((k : Int) < (l0.length : Int)) = true := by simp; omega
      have hd2 : decide ((k : Int) < 8) = true := by simp; omega
      have hd3 : decide (k < l0.length) = true := by simp; omega
      have hd4 : decide (k < 8) = true := by simp; omega
      go_wp2_with fail
      refine HSM.out.mono ?_; rintro e w1 ⟨p1, c1, rfl, ho1, hb1⟩
      have hIB := IsB.of_own ho1 hTb
      go_wp2_with fail
      refine (wrap_any p1 c1 r.length r w1 hIB (by omega)).mono ?_; rintro e w2 ⟨p2, c2, rfl, ho2, hb2⟩
      have hz := hb.size
      have hz1 := hb1.size
      have hz2 := hb2.size
      have hb12 := hb1.trans (hb2.mono hz1)
      have hbb := hb.trans (hb12.mono hz)
      have ho5' := own_later ho5 hb12
      have ho6' := own_later ho6 hb12
      have HFAR := Lib.hid hfar
      have HL5 := Lib.hid (fun j e => (ho5.lt j e).2)
      have HL6 := Lib.hid (fun j e => (ho6.lt j e).2)
      have hWsl := Sl.of_own ho2
      clear hfar ho5 ho6 ho1 hcell ho2 hIB
      generalize hWe : wrapL r = W at *
      have HWE := Lib.hid hWe
      clear hWe
      have HN56 := Lib.hid (fun j (hj : (Value.slice p6 k c6).ownBlock = some j) (e : (Value.slice p5 (tot (T.take k)) c5).ownBlock = some j) => HFAR.out j e hj)
      have hbz2 : w.heap.size ≤ w2.heap.size := by omega
      go_wp2_with (first
        | (at_builtin; refine wp_app (w0 := w) rfl (.tmp 38) (.tmp 39) _ rfl w.heap.size 5 rfl inf_u8 rfl (by decide) rfl ho5' rfl hWsl (bys_one _) (by unfold maxLen; omega) (by omega) hbb hbz2 ?_; intro p3 c3 w3 hown3 hb3 hs3 hg3 hnb3; have ho6'' := own_grown ho6' hg3 HN56.out)
        | (at_builtin; refine wp_app1h (w0 := w) rfl (.tmp 41) (.tmp 44) _ rfl w.heap.size 3 rfl inf_int rfl (by decide) rfl ho6'' (us := [.int .i64 ((tot (T.take k) + W.length : Nat) : Int)]) (by rfl) rfl rfl (by simp [Value.oneCell']) (by unfold maxLen; omega) (by omega) hb3 hs3 ?_; intro p4 c4 w4 hown4 hb4 hs4 hg4 hnb4))
      have h34 : ∀ j, (Value.slice p3 (tot (T.take k) + W.length) c3).ownBlock = some j → (Value.slice p6 k c6).ownBlock ≠ some j := fun j hj e => by
        rcases hnb3 with h | h
        · exact HFAR.out j (h.symm.trans hj) e
        · have h1 := HL6.out j e
          have h2 := Option.some.inj (h.symm.trans hj)
          omega
      have hall4 := own_grown hown3 hg4 (fun j hj e => h34 j hj e)
      have hf4 : ∀ j, (Value.slice p3 (tot (T.take k) + W.length) c3).ownBlock = some j → (Value.slice p4 (k + 1) c4).ownBlock ≠ some j := fun j hj e => by
        rcases hnb4 with h | ⟨k', h1, h2⟩
        · exact h34 j hj (h.symm.trans e)
        · have h3 := (hown3.lt j hj).2
          have h4 := Option.some.inj (h2.symm.trans e)
          omega
      rw [← bys_append, ← hfs.out] at hall4
      rw [← hts.out] at hall4 hown4 hf4
      have he4 : w4.ownsRow w.heap.size 3 1 (.slice p4 (k + 1) c4) (k + 1) (nts (endsL (T.take (k + 1)))) := by
        rw [hes.out, nts_append]; exact hown4
      have HTS := Lib.hid hts.out
      go_roundg (T.length - (k + 1))
      case measure => have := HGK.out; omega
      case rel => exact ⟨k + 1, p3, p4, c3, c4, by go_num, by omega, by rw [HTS.out], rfl, hall4, he4, hf4, hb4⟩
    · obtain rfl : k = T.length := by omega
      rw [List.take_length] at ho5 ho6 htk ⊢
      clear hfar hlt
      have HO5 := Lib.hid ho5
      have HO6 := Lib.hid ho6
      clear ho5 ho6
      have hpk := pickN_lt a1 (m := tot T + 1) (by omega)
      have HPK := Lib.hid (fun W => picked_i a1 ((tot T : Int) + 1) (tot T + 1) W (by push_cast; rfl) ha0 ha1 (by omega) (by omega))
      clear ha0 ha1
      generalize pickN a1 (tot T + 1) = K at *
      obtain ⟨j, hj1, hj2, hj3⟩ := allL_frames T K (fun b hb => Nat.le_trans (hPB.out b hb) (by omega)) (by omega)
      have hjT : (T.take j).length = j := by rw [List.length_take]; omega
      have HJ2 := Lib.hid hj2
      have HJ3 := Lib.hid hj3
      have HJT := Lib.hid hjT
      clear hj2 hj3 hjT
      have hIA := (IsB.of_own HO5.out (flat_bytes HPW.out))
      have hKc := hIA.lens.2
      have htl : tot T = (T.flatMap wrapL).length := rfl
      have HAA := Lib.hid (allB_ok p5 K K ((T.flatMap wrapL).take K) wr (IsB.takeCap hIA (by omega)) (by omega))
      rw [HJ3.out, HJT.out] at HAA
      obtain ⟨hKc1, hKc2⟩ := hKc
      clear hIA htl
      have hb' := hb.size
      have hK0 : (0 : Int) ≤ (K : Int) := by omega
      have hKt : (K : Int) ≤ (tot T : Int) := by omega
      have hKcc : (K : Int) ≤ (c5 : Int) := by omega
      rcases Nat.lt_or_ge T.length l0.length with hcl | hcl
      case' inl =>
        have hd1 : decide ((T.length : Int) < (l0.length : Int)) = true := by simp; omega
        have hd2 : decide ((T.length : Int) < 8) = false := by simp; omega
        have hd3 : decide (T.length < l0.length) = true := by simp; omega
        have hd4 : decide (T.length < 8) = false := by simp; omega
      case' inr =>
        have hd1 : decide ((T.length : Int) < (l0.length : Int)) = false := by simp; omega
        have hd3 : decide (T.length < l0.length) = false := by simp; omega
      all_goals
        go_wp2_with (go_at_call 14; refine (HPK.out _).mono ?_; rintro e w' ⟨rfl, rfl⟩)
        refine HAA.out.mono ?_; rintro e w5 ⟨v, vs, rfl, hO, hb5⟩
        obtain ⟨q, d, rfl⟩ := own_slice hO.outer
        have hbb := hb.trans (hb5.mono hb')
        have HO := Lib.hid hO
        have HE := Lib.hid (own_later HO6.out hb5)
        have HO5' := Lib.hid (own_later HO5.out hb5)
        have hec := (Sl.of_own HE.out)
        have hecc : T.length ≤ c6 ∧ c6 ≤ 9223372036854775807 := by
          obtain ⟨p', c', hp, h1, h2, _⟩ := hec
          cases hp
          exact ⟨h1, by unfold maxLen at h2; omega⟩
        obtain ⟨hecc1, hecc2⟩ := hecc
        clear hO hec
        go_wp2_with fail
        go_loopg [13, 14, 15] T.length (fun gk v13 v14 v15 wr => ∃ i : Nat, v15 = .int .i64 (i : Int) ∧ i + gk = T.length ∧ v13 = .int .i64 ((min i j : Nat) : Int) ∧ v14 = .int .i64 ((tot (T.take (min i j)) : Nat) : Int) ∧ w5 = wr)
        case atStart => exact ⟨0, rfl, by omega, by simp, by simp [tot], rfl⟩
        case round =>
          obtain ⟨i, rfl, hgi, rfl, rfl, rfl⟩ := hrel
          have HGI := Lib.hid hgi
          have hi : i ≤ T.length := by omega
          clear hgi
          by_cases hil : i < T.length
          · have hat : (nts (endsL T))[i]? = some (.int .i64 ((tot (T.take (i + 1)) : Nat) : Int)) := by unfold nts; rw [List.getElem?_map, endsL_at hil]; rfl
            obtain ⟨be, oe, rfl, hce⟩ := (Sl.of_own HE.out).get hat
            have hj2 := HJ2.out i hil
            have hbd : tot (T.take (i + 1)) ≤ 1000 := by
              have h1 := tot_bd (bs := T.take (i + 1)) (fun b hb => hPB.out b (List.mem_of_mem_take hb))
              have h2 := List.length_take_le (i + 1) T
              omega
            obtain ⟨E, hE⟩ : ∃ E, E = tot (T.take (i + 1)) := ⟨_, rfl⟩
            rw [← hE] at hce hj2 hbd
            have HEQ := Lib.hid hE
            clear hE hat
            have hi0 : (0 : Int) ≤ (i : Int) := by omega
            have hin : (i : Int) < (T.length : Int) := by omega
            have hd5 : decide ((i : Int) < (T.length : Int)) = true := by simp; omega
            have hd6 : decide (i < T.length) = true := by simp; omega
            by_cases hij : i < j
            · have hle := hj2.2 hij
              have hd7 : decide ((E : Int) ≤ (K : Int)) = true := by simp; omega
              have hd8 : decide (E ≤ K) = true := by simp; omega
              have hm1 : min i j = i := by omega
              have hm2 : min (i + 1) j = i + 1 := by omega
              rw [hm1]
              have HM2 := Lib.hid hm2
              clear hm1 hm2 hj2
              go_wp2_with fail
              go_roundg (T.length - (i + 1))
              case measure => have := HGI.out; omega
              case rel => exact ⟨i + 1, by go_num, by omega, by rw [HM2.out]; go_num, by rw [HM2.out, HEQ.out], rfl⟩
            · have hle : ¬ E ≤ K := fun h => hij (hj2.1 h)
              have hd7 : decide ((E : Int) ≤ (K : Int)) = false := by simp; omega
              have hd8 : decide (E ≤ K) = false := by simp; omega
              have hm1 : min i j = j := by omega
              have hm2 : min (i + 1) j = j := by omega
              rw [hm1]
              have HM2 := Lib.hid hm2
              clear hm1 hm2 hj2 hle
              go_wp2_with fail
              go_roundg (T.length - (i + 1))
              case measure => have := HGI.out; omega
              case rel => exact ⟨i + 1, by go_num, by omega, by rw [HM2.out], by rw [HM2.out], rfl⟩
          · have hm : min i j = j := by omega
            rw [hm]
            have hd5 : decide ((i : Int) < (T.length : Int)) = false := by simp; omega
            have hd6 : decide (i < T.length) = false := by simp; omega
            have he1 : ((j : Int) != (j : Int)) = false := by simp
            have he2 : ((tot (T.take j) : Int) != (tot (T.take j) : Int)) = false := by simp
            clear hm
            go_wp2_with fail
            clear hd5 hd6 he1 he2 hil
            go_loopg [16] j (fun gk v16 wr => ∃ i : Nat, v16 = .int .i64 (i : Int) ∧ i + gk = j ∧ Below w5.heap.size w5 wr)
            case atStart => exact ⟨0, rfl, by omega, Below.refl _ _⟩
            case round =>
              obtain ⟨i, rfl, hgi, hbr⟩ := hrel
              have HGI := Lib.hid hgi
              have hi : i ≤ j := by omega
              clear hgi
              have hbwr := hbb.trans (hbr.mono hbb.size)
              by_cases hil : i < j
              · have hlT : i < (T.take j).length := by rw [HJT.out]; exact hil
                obtain ⟨bg, og, qg, dg, rfl, hcg, hbg⟩ := (HO.out.isBB.later hbr).get hlT
                obtain ⟨bl, ol, ql, dl, rfl, hcl', hbl⟩ := (HL.out.later hbwr).get (i := i) (by omega)
                have hTg : (T.take j)[i] = (l0[i]'(by omega)).take 60 := by rw [List.getElem_take, hPA.out i (by omega) (by omega)]
                rw [hTg] at hcg hbg
                have hAB := hbg.2
                have hbg1 : bg < wr.heap.size := World.block_lt_of_cell? wr _ hcg
                have hbl1 : bl < wr.heap.size := World.block_lt_of_cell? wr _ hcl'
                have HBG := Lib.hid hbg
                have HBL := Lib.hid hbl
                have HAB := Lib.hid hAB
                clear hTg hbg hbl hAB
                generalize l0[i]'(by omega) = r at *
                have HSM := Lib.hid (fun W (h : IsB W (.slice ql r.length dl) r) => some_any ql dl r.length r 60 W h (by omega))
                obtain ⟨s, hs⟩ : ∃ s, s = r.take 60 := ⟨_, rfl⟩
                rw [← hs] at HSM HBG HAB hcg
                clear hs
                have hi0 : (0 : Int) ≤ (i : Int) := by omega
                have hij : (i : Int) < (j : Int) := by omega
                have hil0 : (i : Int) < (l0.length : Int) := by omega
                have hd5 : decide ((i : Int) < (j : Int)) = true := by simp; omega
                have hd6 : decide (i < j) = true := by simp; omega
                go_upto_region 26 with fail
                go_region_held3 (fun w' => w'.cell? ⟨bg, og + i, none⟩ = some (Value.slice qg s.length dg) ∧ w'.cell? ⟨bl, ol + i, none⟩ = some (Value.slice ql r.length dl)) (first | (exact ⟨hz0, hz1⟩) | go_keep)
                  (first
                    | (go_at_call 18; refine (HSM.out _ (HBL.out.later (Below.drew (Below.refl _ _)))).mono ?_; rintro e w6 ⟨p7, c7, rfl, ho7, hb7⟩; have hcz : Below wr.heap.size wr w6 := (Below.refl _ wr).drew.trans hb7; have hz0 := (hcz.cell (p := ⟨bg, og + i, none⟩) hbg1).trans hcg; have hz1 := (hcz.cell (p := ⟨bl, ol + i, none⟩) hbl1).trans hcl'; have hib := IsB.of_own ho7 HAB.out)
                    | (go_at_call 20; refine (sameBytes_any qg p7 dg c7 _ _ s s w6 (HBG.out.later hcz) hib).mono ?_; rintro e w' ⟨rfl, rfl⟩))
                go_wp2_with fail
                go_roundg (j - (i + 1))
                case measure => have := HGI.out; omega
                case rel => exact ⟨i + 1, by go_num, by omega, hbr.trans (hcz.mono hbr.size)⟩
              · have hd5 : decide ((i : Int) < (j : Int)) = false := by simp; omega
                have hd6 : decide (i < j) = false := by simp; omega
                by_cases hl0 : l0.length = 0
                · have hd9 : ((l0.length : Int) == 0) = true := beq_iff_eq.2 (by omega)
                  rw [hl0] at hd9 ⊢
                  go_wp2_with fail
                  go_ret
                  exact ⟨rfl, hbwr⟩
                · have hd9 : ((l0.length : Int) == 0) = false := beq_eq_false_iff_ne.2 (by omega)
                  have htp : 4 < tot T := by
                    cases hTc : T with
                    | nil =>
                      have h8 : T.length = 0 := by rw [hTc]; rfl
                      omega
                    | cons b bs => rw [tot_cons]; have := wrapL_pos b; omega
                  have hd10 : decide ((4 : Int) < (tot T : Int)) = true := by simp; omega
                  have hd11 : decide (4 < tot T) = true := by simp; omega
                  go_wp2_with fail
                  go_ret
                  exact ⟨rfl, hbwr⟩
end Go.Proofs.Ytnkkhfggfhbibaa
