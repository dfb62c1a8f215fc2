/- The walk of (*store.pen).hops: the hops of a vertex written behind what was written. -/
import Derived.Test.YtcaolnpkpialdaaPenPut
import Derived.Test.YtcaolnpkpialdaaGapsQ
import Derived.Test.YtcaolnpkpialdaaMailU
namespace Go.Proofs.Ytcaolnpkpialdaa
open Go.RowKit Go.Sort Go.Proofs
set_option maxHeartbeats 8000000 in
set_option maxRecDepth 100000 in
theorem penhops_ok (g B n c : Nat) (p : Option Addr) (l : List (Nat × Nat)) (acc : List Nat) (o : Option Nat) (w : World) (hi : InkO w B g acc o) (hgB : g < B) (hBw : B ≤ w.heap.size) (hl : Sl w 2 (.slice p n c) n (mcs l))
    (hfar : ∀ b off, p = some ⟨b, off, none⟩ → b ≠ g ∧ o ≠ some b) (hr : RiseF 0 (l.map (·.1))) (hx : ∀ h ∈ l, h.1 < 1000 ∧ h.2 < 4398046511104) (hn : n ≤ 600) (hacc : acc.length ≤ 500000) :
    Calls Try.prog 58 #[.pointer (some ⟨g, 0, none⟩), .slice p n c] w fun e w' => e = .returned (.tuple #[]) ∧ (∃ o', InkO w' B g (acc ++ hopL l) o' ∧ NewO w o o') ∧ KeepB w w' g o ∧ Below g w w' := by
  obtain ⟨hln, hnc, hc63⟩ := hl.mlen
  have HLN := Lib.hid hln
  have HL := Lib.hid hl
  have HX := Lib.hid hx
  have HFAR := Lib.hid hfar
  have HI0 := Lib.hid hi
  have HG := Lib.hid (fun (W : World) (p : Option Addr) (c : Nat) (h : IsI W (.slice p n c) (nti (l.map (·.1)))) => gaps_any p c n (l.map (·.1)) W h (by omega) hr)
  have hgl : (gapsL (l.map (·.1))).length ≤ 10 * n + 10 := by
    have h1 := gapsF_len_le (l.map (·.1)) 0 hr
    rw [List.length_map, ← hln] at h1
    have h2 := put_len10 (n := n) (by unfold U64; omega)
    rw [gapsL, List.length_append, List.length_map, ← hln]; omega
  have HE := Lib.hid (show hopL l = gapsL (l.map (·.1)) ++ putsN ((l.take n).map (·.2)) by rw [List.take_of_length_le (by omega)]; rfl)
  have hgw := hi.box
  clear hl hr hln hfar hi hx
  generalize gapsL (l.map (·.1)) = G at *
  rw [HE.out]
  go_enter Try.func58, Try.ntmps58
  go_wp2_with fail
  go_loopg [4, 13] n (fun gk v3 v12 wr => ∃ (k : Nat) (p' : Option Addr) (c' : Nat), v12 = .int .i64 (k : Int) ∧ k + gk = n ∧ v3 = .slice p' k c' ∧ Hid (wr.ownsRow w.heap.size 3 1 (.slice p' k c') k (its (nti ((l.take k).map (·.1))))) ∧ Below w.heap.size w wr)
  case atStart => exact ⟨0, none, 0, rfl, by omega, rfl, Lib.hid (World.ownsRow_nil _ _ _ _), Below.refl _ _⟩
  case round =>
    obtain ⟨k, p', c', rfl, hgk, rfl, hown, hb⟩ := hrel
    have HGK := Lib.hid hgk
    have hk : k ≤ n := by omega
    have hsz := hb.size
    clear hgk
    by_cases hlt : k < n
    · have hkl : k < l.length := by have := HLN.out; omega
      obtain ⟨b2, off2, rfl, hs0, hs1⟩ := (HL.out.later hb).mail hkl
      have HTS := Lib.hid (show its (nti ((l.take (k + 1)).map (·.1))) = its (nti ((l.take k).map (·.1))) ++ [.int .i64 (l[k].1 : Int)] by
        rw [List.take_succ_eq_append_getElem hkl, List.map_append]; simp [its, nti])
      generalize l[k] = x at hs0 hs1 HTS
      obtain ⟨x1, x2⟩ := x
      dsimp only at hs0 hs1 HTS
      have hk0 : (0 : Int) ≤ (k : Int) := by omega
      have hkn : (k : Int) < (n : Int) := by omega
      have hd1 : decide ((k : Int) < (n : Int)) = true := by simp; omega
      have hd2 : decide (k < n) = true := by simp; omega
      obtain ⟨b1, B1, z1⟩ := boxed0 wr [.int .i64 (x1 : Int), .int .i64 (x2 : Int)] 104
      obtain ⟨hx0, hx1, _, _⟩ := B1.two
      have HOA := Lib.hid (hown.out.alloc (.cells #[.int .i64 (x1 : Int), .int .i64 (x2 : Int)] 104))
      have hbA := hb.trans (b1.mono hsz)
      clear b1 B1 hlt
      go_wp2_with (at_builtin; refine wp_app1h (w0 := w) rfl _ _ _ rfl w.heap.size 3 Try.underlying28 inf_int rfl (by decide) rfl HOA.out (us := [_]) rfl (by simp) rfl (by simp [Value.oneCell']) (by unfold maxLen; omega) (by omega) hbA (by simp; omega) ?_; intro p3 c3 w3 hown3 hb3 hsz3 _ _; have HO3 := Lib.hid hown3; clear hown3)
      have HO4 := Lib.hid (show w3.ownsRow w.heap.size 3 1 (.slice p3 (k + 1) c3) (k + 1) (its (nti ((l.take (k + 1)).map (·.1)))) by rw [HTS.out]; exact HO3.out)
      go_roundg (n - (k + 1))
      case measure => have := HGK.out; omega
      case rel => exact ⟨k + 1, p3, c3, by go_num, by omega, rfl, HO4, hb3⟩
    · obtain rfl : n = k := by omega
      have hd1 : decide ((n : Int) < (n : Int)) = false := by simp
      have hd2 : decide (n < n) = false := by simp
      have HOn := Lib.hid (show wr.ownsRow w.heap.size 3 1 (.slice p' n c') n (its (nti (l.map (·.1)))) by have h := hown.out; rw [List.take_of_length_le (by have := HLN.out; omega)] at h; exact h)
      have HI := Lib.hid (show IsI wr (.slice p' n c') (nti (l.map (·.1))) from IsI.of_own HOn.out (fun m hm => by
        obtain ⟨x, hx, rfl⟩ := List.mem_map.1 hm
        obtain ⟨y, hy, rfl⟩ := List.mem_map.1 hx
        have := (HX.out y hy).1
        omega))
      have HB := Lib.hid hb
      clear hown hlt HOn hb
      go_wp2_with fail
      refine (HG.out _ _ _ HI.out).mono ?_; rintro e w2 ⟨q2, d2, rfl, ho2, hb2⟩
      have HS2 := Lib.hid (Sl.of_own ho2)
      have HB2 := Lib.hid (HB.out.trans (hb2.mono hsz))
      have hz2 := HB2.out.size
      obtain ⟨pk, nk, ck, hbx, hok, hob⟩ := HI0.out.keep HB2.out
      have hnk : nk ≤ 500000 := by have := hok.1; rw [bys_len] at this; omega
      have HOB := Lib.hid hob
      have HOK := Lib.hid hok
      have HBX := Lib.hid hbx
      have hcell := hbx.one
      obtain ⟨gl, hgl2⟩ : ∃ gl, gl = G.length := ⟨_, rfl⟩
      have HGL := Lib.hid hgl2
      rw [← hgl2] at HS2 hgl ⊢
      clear ho2 hb2 HI hbx hok hob hgl2
      go_wp2_with (at_builtin; refine wp_app (w0 := w2) rfl _ _ _ rfl B 5 Try.underlying56 inf_u8 rfl (by decide) rfl HOK.out rfl HS2.out (bys_oneC _) (by unfold maxLen; omega) (by omega) (Below.refl _ _) (by omega) ?_; intro p3 c3 w3 hown3 hb3 hsz3 hg3 hnb3; have hbx3 := HBX.out.grown hg3 (fun e => by have := (HOK.out.lt _ e).1; omega); obtain ⟨hy0, hy1⟩ := hbx3.one')
      have HIN := Lib.hid (show InkO (w3.setCell ⟨g, 0, none⟩ (.slice p3 (nk + gl) c3)) B g (acc ++ G) (Value.slice p3 (nk + gl) c3).ownBlock from ⟨p3, nk + gl, c3, hbx3.setc 0 _, by rw [bys_append]; exact own_ne_st hown3 hgB _ _, rfl⟩)
      have HNO := Lib.hid (show NewO w o (Value.slice p3 (nk + gl) c3).ownBlock from (by
        have h0 : NewO w o (Value.slice pk nk ck).ownBlock := .inl HOB.out
        refine h0.step hz2 ?_
        rcases hnb3 with h | h
        · exact .inl h
        · exact .inr ⟨_, Nat.le_refl _, h⟩))
      have HKB := Lib.hid (show KeepB w (w3.setCell ⟨g, 0, none⟩ (.slice p3 (nk + gl) c3)) g o from (((KeepB.of_below HB2.out g o).step (o1 := (Value.slice pk nk ck).ownBlock) (.inl HOB.out) hz2 (KeepB.of_grown hg3 g)).set 0 _))
      have hbg2 : Below g w w2 := HB2.out.mono (by omega)
      have hbg3 : Below g w w3 := hbg2.grown hg3 (by omega) (fun j hj => by have := (HOK.out.lt j hj).1; omega)
      have HBG := Lib.hid (show Below g w (w3.setCell ⟨g, 0, none⟩ (.slice p3 (nk + gl) c3)) from hbg3.setCell (Nat.le_refl g) _)
      clear hbg2 hbg3
      have hz4 : w.heap.size ≤ (w3.setCell ⟨g, 0, none⟩ (.slice p3 (nk + gl) c3)).heap.size := HBG.out.size
      clear hown3 hb3 hsz3 hg3 hnb3 hbx3 hy0 hy1 hcell HB2 HOK HBX HOB HS2
      generalize (w3.setCell ⟨g, 0, none⟩ (.slice p3 (nk + gl) c3)) = w4 at *
      generalize (Value.slice p3 (nk + gl) c3).ownBlock = o4 at *
      have HLK := Lib.hid (show (acc ++ G).length ≤ 500000 + 6010 from by rw [List.length_append, ← HGL.out]; omega)
      go_loopg [39] n (fun gk v39 wr => ∃ (k : Nat) (o5 : Option Nat), v39 = .int .i64 (k : Int) ∧ k + gk = n ∧ Hid (InkO wr B g (acc ++ G ++ putsN ((l.take k).map (·.2))) o5) ∧ Hid (NewO w o o5) ∧ Hid (KeepB w wr g o) ∧ Hid (Below g w wr) ∧ w.heap.size ≤ wr.heap.size)
      case atStart => exact ⟨0, o4, rfl, by omega, by simpa [putsN] using HIN, HNO, HKB, HBG, hz4⟩
      case round =>
        clear HIN HNO HKB HBG hz4 HGK hsz HB hz2 hnk
        obtain ⟨k, o5, rfl, hgk, HI5, HNO, HKB, HBG, hz5⟩ := hrel
        have HGK := Lib.hid hgk
        have hk : k ≤ n := by omega
        clear hgk
        by_cases hlt : k < n
        · have hkl : k < l.length := by have := HLN.out; omega
          obtain ⟨b2, off2, rfl, hs0, hs1⟩ := (HL.out.keepB HKB.out HFAR.out).mail hkl
          have HTS := Lib.hid (show putsN ((l.take (k + 1)).map (·.2)) = putsN ((l.take k).map (·.2)) ++ putsN [l[k].2] by
            rw [List.take_succ_eq_append_getElem hkl, List.map_append]; simp [putsN])
          have hxb := (HX.out _ (List.getElem_mem hkl)).2
          have HLP := Lib.hid (show (acc ++ G ++ putsN ((l.take k).map (·.2))).length ≤ 1000000 from by
            have h1 := putsN_len ((l.take k).map (·.2)) (fun x hx => by obtain ⟨y, hy, rfl⟩ := List.mem_map.1 hx; have := (HX.out y (List.mem_of_mem_take hy)).2; unfold U64; omega)
            rw [List.length_map, List.length_take] at h1
            have h2 := HLK.out
            rw [List.length_append]; omega)
          generalize l[k] = x at hs0 hs1 HTS hxb
          obtain ⟨x1, x2⟩ := x
          dsimp only at hs0 hs1 HTS hxb
          have hk0 : (0 : Int) ≤ (k : Int) := by omega
          have hkn : (k : Int) < (n : Int) := by omega
          have hd1 : decide ((k : Int) < (n : Int)) = true := by simp; omega
          have hd2 : decide (k < n) = true := by simp; omega
          obtain ⟨b1, B1, z1⟩ := boxed0 wr [.int .i64 (x1 : Int), .int .i64 (x2 : Int)] 104
          obtain ⟨hx0, hx1, _, _⟩ := B1.two
          have HI6 := Lib.hid (HI5.out.keep b1)
          have HK6 := Lib.hid (HKB.out.step HNO.out hz5 (KeepB.of_below b1 g o5))
          have HG6 := Lib.hid (HBG.out.trans (b1.mono (by have := HI5.out.box; omega)))
          have HN6 := Lib.hid HNO.out
          clear hlt b1 B1
          go_upto_region 11 with fail
          have hzq : w.heap.size ≤ (wr.alloc (.cells #[.int .i64 (x1 : Int), .int .i64 (x2 : Int)] 104)).heap.size := by omega
          generalize (wr.alloc (.cells #[.int .i64 (x1 : Int), .int .i64 (x2 : Int)] 104)) = wq at *
          obtain ⟨b7, -, z7⟩ := boxed0 wq [.int .i64 (x2 : Int)] 3
          have HB7 := Lib.hid b7
          have HS7 := Lib.hid (sl_newN wq (nts [x2]) 3 1 1 (by decide) rfl)
          clear b7 z1
          go_wp2_with fail
          refine (penput_ok g B 1 1 _ [x2] _ o5 wq _ HI6.out hgB (by omega) HB7.out (Nat.le_refl _) HS7.out (by intro x hx; simp at hx; omega) HLP.out (by omega)).mono ?_; rintro e w8 ⟨rfl, ⟨o8, hi8, hn8⟩, hk8, hb8⟩
          have HI8 := Lib.hid (show InkO w8 B g (acc ++ G ++ putsN ((l.take (k + 1)).map (·.2))) o8 from by rw [HTS.out, ← List.append_assoc]; exact hi8)
          have hb7s : wq.heap.size ≤ (wq.alloc (.cells #[.int .i64 (x2 : Int)] 3)).heap.size := HB7.out.size
          have HN8 := Lib.hid (show NewO w o o8 from HN6.out.step (Nat.le_trans hzq hb7s) hn8)
          have HK8 := Lib.hid (show KeepB w w8 g o from (HK6.out.step HN6.out hzq (KeepB.of_below HB7.out g o5)).step HN6.out (Nat.le_trans hzq hb7s) hk8)
          have HG8 := Lib.hid (show Below g w w8 from (HG6.out.trans (HB7.out.mono (by have := HI6.out.box; omega))).trans hb8)
          have hz8 : w.heap.size ≤ w8.heap.size := HG8.out.size
          clear hi8 hn8 hk8 hb8 hb7s hx0 hx1 hs0 hs1
          go_wp2_with fail
          go_roundg (n - (k + 1))
          case measure => have := HGK.out; omega
          case rel => exact ⟨k + 1, o8, by go_num, by omega, HI8, HN8, HK8, HG8, hz8⟩
        · obtain rfl : n = k := by omega
          have hd1 : decide ((n : Int) < (n : Int)) = false := by simp
          have hd2 : decide (n < n) = false := by simp
          go_wp2_with fail
          go_end0
          exact ⟨rfl, ⟨o5, by rw [← List.append_assoc]; exact HI5.out, HNO.out⟩, HKB.out, HBG.out⟩
end Go.Proofs.Ytcaolnpkpialdaa
