/- The walk of queue.unpack, at the bytes of a run. -/
import Derived.Test.YtcaolnpkpialdaaPack
import Derived.Test.YtcaolnpkpialdaaUngapQ
namespace Go.Proofs.Ytcaolnpkpialdaa
open Go.RowKit Go.Sort Go.Proofs
set_option maxHeartbeats 8000000 in
set_option maxRecDepth 100000 in
theorem unpack_ok (n c : Nat) (p : Option Addr) (l : List (Nat × Nat)) (w : World) (h : IsB w (.slice p n c) (packL l)) (hr : RunOk l) :
    Calls Try.prog 86 #[.slice p n c] w fun e w' => ∃ p' c', e = .returned (.tuple #[.slice p' l.length c', .bool true]) ∧ w'.ownsRow w.heap.size 109 2 (.slice p' l.length c') l.length (mcs l) ∧ Below w.heap.size w w' := by
  obtain ⟨hnl, hnc, hc63⟩ := h.lens
  have hpos : 0 < n := by rw [hnl]; have := gapsL_len (l.map (·.1)); rw [packL, List.length_append]; omega
  have hnb : n ≤ 20010 := by have := hr.len_le; have := hr.le; omega
  obtain ⟨b, off, rfl⟩ := h.some_ hpos
  have HU := Lib.hid (fun W (hW : Below w.heap.size w W) => ungap_any _ c n _ W (h.later hW))
  rw [hr.ungap] at HU
  have HL := Lib.hid h
  have HR := Lib.hid hr
  have HNL := Lib.hid hnl
  have HZ := Lib.hid (offL_zero l)
  have HZE := Lib.hid (offL_end l)
  have HOL := Lib.hid (fun k => offL_le l k)
  have hm1 := hr.le
  have hm0 := hr.pos
  obtain ⟨m, hm⟩ : ∃ m, m = l.length := ⟨_, rfl⟩
  have HM := Lib.hid hm
  rw [List.length_map, ← hm] at HU
  rw [← hm] at hm1 hm0 ⊢
  rw [← HZ.out] at HU
  generalize hgz : offL l 0 = g0 at *
  have HGZ := Lib.hid hgz
  have hg0n : g0 ≤ n := by have := HOL.out 0; rw [HGZ.out] at this; rw [HNL.out]; exact this
  clear h hr hnl hm hgz
  go_enter Try.func86, Try.ntmps86
  go_wp2_with fail
  refine (HU.out _ (Below.refl _ _)).mono ?_; rintro e w1 ⟨q1, d1, rfl, ho1, hb1⟩
  have HI1 := Lib.hid (show IsI w1 (.slice q1 m d1) (nti (l.map (·.1))) from IsI.of_own ho1 (fun x hx => by
    obtain ⟨y, hy, rfl⟩ := List.mem_map.1 hx
    obtain ⟨z, hz, rfl⟩ := List.mem_map.1 hy
    have := (HR.out.ok z hz).1
    omega))
  have hz1 := hb1.size
  clear ho1
  have hd0 : ((m : Int) == 0) = false := by simp; omega
  have hd0' : (m == 0) = false := by simp; omega
  have hd01 : decide ((1000 : Int) < (m : Int)) = false := by simp; omega
  have hd02 : decide (1000 < m) = false := by simp; omega
  go_wp2_with fail
  go_loopg [5, 7, 36] m (fun gk v5 v7 v36 wr => ∃ (k a : Nat) (p' : Option Addr) (c' : Nat), v36 = .int .i64 (k : Int) ∧ k + gk = m ∧ v5 = .int .i64 (a : Int) ∧ Hid (offL l k = a) ∧ v7 = .slice p' k c' ∧ Hid (wr.ownsRow w1.heap.size 109 2 (.slice p' k c') k (mcs (l.take k))) ∧ Below w1.heap.size w1 wr)
  case atStart => exact ⟨0, g0, none, 0, rfl, by omega, rfl, HGZ, rfl, Lib.hid (World.ownsRow_nil _ _ _ _), Below.refl _ _⟩
  case round =>
    clear hd0 hd0' hd01 hd02
    obtain ⟨k, a, p', c', rfl, hgk, rfl, HA, rfl, hown, hbq⟩ := hrel
    have hb := hb1.trans (hbq.mono hz1)
    have HGK := Lib.hid hgk
    have hk : k ≤ m := by omega
    have hsz := hbq.size
    have han : a ≤ n := by have := HOL.out k; rw [HA.out] at this; rw [HNL.out]; exact this
    clear hgk
    by_cases hlt : k < m
    · have hkl : k < l.length := by have := HM.out; omega
      have hkm : k < (l.map (·.1)).length := by rw [List.length_map]; exact hkl
      obtain ⟨b2, off2, rfl, hs0⟩ := (HI1.out.later hbq).getN hkm
      have hok := HR.out.ok _ (List.getElem_mem hkl)
      have hgo := get_off hkl hok
      rw [HA.out] at hgo
      have HGET := Lib.hid (fun (W : World) (hW : Below w.heap.size w W) => get_any _ _ _ _ W ((HL.out.later hW).drop han))
      rw [hgo] at HGET
      have HTS := Lib.hid (show mcs (l.take (k + 1)) = mcs (l.take k) ++ [.int .i64 (l[k].1 : Int), .int .i64 (l[k].2 : Int)] by rw [List.take_succ_eq_append_getElem hkl, mcs_snoc])
      have HOS := Lib.hid (show offL l (k + 1) = a + (put l[k].2).length by rw [offL_succ hkl, HA.out])
      rw [List.getElem_map] at hs0
      generalize l[k] = x at hs0 HTS hok HGET HOS
      obtain ⟨x1, x2⟩ := x
      dsimp only at hs0 HTS HGET HOS
      have hx2 := okM_u64 hok
      have hx3 : x2 ≤ 4398046511104 := hok.2
      have HQM := Lib.hid (fun W => qmail_ok x1 x2 W hok)
      have hpl := put_len10 hx2
      obtain ⟨u, hu⟩ : ∃ u, u = (put x2).length := ⟨_, rfl⟩
      rw [← hu] at HGET HOS hpl
      have hk0 : (0 : Int) ≤ (k : Int) := by omega
      have hkn : (k : Int) < (m : Int) := by omega
      have hd1 : decide ((k : Int) < (m : Int)) = true := by simp; omega
      have hd2 : decide (k < m) = true := by simp; omega
      have ha0 : (0 : Int) ≤ (a : Int) := by omega
      have han2 : (a : Int) ≤ (n : Int) := by omega
      have hanc : (a : Int) ≤ (c : Int) := by omega
      have hpp := put_pos x2
      rw [← hu] at hpp
      have haun : a + u ≤ n := by have := HOL.out (k + 1); rw [HOS.out] at this; rw [HNL.out]; exact this
      have hca : ¬ c = a := by omega
      obtain ⟨b3, B3, z3⟩ := boxed0 wr [.int .i64 (x1 : Int), .int .i64 (x2 : Int)] 109
      have HX3 := Lib.hid B3
      have HOA := Lib.hid (hown.out.alloc (.cells #[.int .i64 (x1 : Int), .int .i64 (x2 : Int)] 109))
      have hbA := hbq.trans (b3.mono hsz)
      obtain ⟨hx0, hx1, _, _⟩ := B3.two
      have hmin : decide ((4398046511105 : Int) < (x2 : Int)) = false := by simp; omega
      have hmin2 : decide ((x2 : Int) < (4398046511105 : Int)) = true := by simp; omega
      have hmin3 : decide ((x2 : Int) ≤ (4398046511105 : Int)) = true := by simp; omega
      have hmin4 : min (x2 : Int) 4398046511105 = (x2 : Int) := by omega
      clear hok hgo hlt hu B3
      go_wp2_with fail
      refine (HGET.out _ hb).mono ?_; rintro e wn ⟨rfl, rfl⟩
      go_wp2_with fail
      refine (HQM.out _).mono ?_; rintro e w5 ⟨rfl, hb5⟩
      obtain ⟨hx0, hx1, _, _⟩ := (HX3.out.next hb5).two
      have HOB := Lib.hid (own_later HOA.out hb5)
      have hbB := hbA.trans (hb5.mono hbA.size)
      have hsB := hbB.size
      have hwa : IntKind.i64.wrap ((a : Int) + (u : Int)) = (a : Int) + (u : Int) := IntWalk.i64_in _ (by omega)
      clear hb5
      go_wp2_with (at_builtin; refine wp_app1h (w0 := w1) rfl _ _ _ rfl w1.heap.size 109 Try.underlying39 inf_ml rfl (by decide) rfl HOB.out (us := [_, _]) rfl rfl rfl (by simp [Value.oneCell']) (by unfold maxLen; omega) (by omega) hbB hsB ?_; intro p3 c3 w3 hown3 hb3 hsz3 hgr _; have HO3 := Lib.hid hown3; clear hown3)
      have HO4 := Lib.hid (show w3.ownsRow w1.heap.size 109 2 (.slice p3 (k + 1) c3) (k + 1) (mcs (l.take (k + 1))) by rw [HTS.out]; exact HO3.out)
      go_roundg (m - (k + 1))
      case measure => have := HGK.out; omega
      case rel => exact ⟨k + 1, a + u, p3, c3, by go_num, by omega, by go_num, HOS, rfl, HO4, hb3⟩
    · obtain rfl : m = k := by omega
      have hd1 : decide ((m : Int) < (m : Int)) = false := by simp
      have hd2 : decide (m < m) = false := by simp
      have hae : a = n := by have := HZE.out; rw [← HM.out, HA.out] at this; rw [this, HNL.out]
      have HOn := Lib.hid (show wr.ownsRow w.heap.size 109 2 (.slice p' m c') m (mcs l) by have h := own_mono hown.out hz1; rw [List.take_of_length_le (by have := HM.out; omega)] at h; exact h)
      have HSO := Lib.hid (sortM_ok m c' p' l wr (Sl.of_own HOn.out) (by omega))
      rw [srt_self HR.out.ord] at HSO
      subst hae
      clear hown hlt
      have ha1 : ((a : Int) == (a : Int)) = true := by simp
      go_wp2_with fail
      refine HSO.out.mono ?_; rintro e w5 ⟨p5, c5, rfl, ho5, hb5⟩
      have HEQ := Lib.hid (qequal_ok m c5 c' p5 p' l w5 (Sl.of_own ho5) ((Sl.of_own HOn.out).later hb5))
      have hbB := hb.trans (hb5.mono hb.size)
      go_wp2_with fail
      refine HEQ.out.mono ?_; rintro e w6 ⟨rfl, hb6⟩
      have hbC := hbB.trans (hb6.mono hbB.size)
      have HOf := Lib.hid (own_later (own_later HOn.out hb5) hb6)
      go_wp2_with fail
      go_ret2
      exact ⟨p', c', rfl, HOf.out, hbC⟩
end Go.Proofs.Ytcaolnpkpialdaa
