/- The walk of queue.pack. -/
import Derived.Test.YtcaolnpkpialdaaQMail
import Derived.Test.YtcaolnpkpialdaaGapsQ
namespace Go.Proofs.Ytcaolnpkpialdaa
open Go.RowKit Go.Sort Go.Proofs
theorem its_snocP (l : List Int) (x : Int) : its (l ++ [x]) = its l ++ [Value.int .i64 x] := by simp [its]
theorem inf_u8' : (Try.prog.info? 5).map (fun i => (i.zero, i.size, i.bytes)) = some (some (.int .u8 0), 1, 1) := by kernel_rfl
set_option maxHeartbeats 4000000 in
set_option maxRecDepth 100000 in
theorem pack_ok (n c : Nat) (p : Option Addr) (l : List (Nat × Nat)) (w : World) (h : Sl w 2 (.slice p n c) n (mcs l)) (hr : RunOk l) :
    Calls Try.prog 83 #[.slice p n c] w fun e w' => ∃ p' c', e = .returned (.slice p' (packL l).length c') ∧ w'.ownsRow w.heap.size 5 1 (.slice p' (packL l).length c') (packL l).length (bys (packL l)) ∧ Below w.heap.size w w' := by
  obtain ⟨hln, hnc, hc63⟩ := h.mlen
  have hn1 : n ≤ 1000 := by have := hr.le; omega
  have HLN := Lib.hid hln
  have HL := Lib.hid h
  have HR := Lib.hid hr
  have HG := Lib.hid (fun (W : World) (p : Option Addr) (c : Nat) (h : IsI W (.slice p n c) (nti (l.map (·.1)))) => gaps_any p c n (l.map (·.1)) W h (by omega) hr.rise)
  have hgl := gapsL_len_le hr.rise (by rw [List.length_map, ← hln]; omega)
  rw [List.length_map, ← hln] at hgl
  have HE := Lib.hid (show packL l = gapsL (l.map (·.1)) ++ putsL (l.take n) by rw [List.take_of_length_le (by omega)]; rfl)
  have HGN := Lib.hid (show gapsL (l.map (·.1)) ++ putsL (l.take 0) = gapsL (l.map (·.1)) by simp [putsL])
  have HBD := Lib.hid (fun k => putsL_len (l.take k) (fun m hm => hr.ok m (List.mem_of_mem_take hm)))
  clear h hr hln
  generalize gapsL (l.map (·.1)) = G at *
  rw [HE.out]
  go_enter Try.func83, Try.ntmps83
  go_wp2_with fail
  go_loopg [3, 12] n (fun gk v3 v12 wr => ∃ (k : Nat) (p' : Option Addr) (c' : Nat), v12 = .int .i64 (k : Int) ∧ k + gk = n ∧ v3 = .slice p' k c' ∧ Hid (wr.ownsRow w.heap.size 3 1 (.slice p' k c') k (its (nti ((l.take k).map (·.1))))) ∧ Below w.heap.size w wr)
  case atStart => exact ⟨0, none, 0, rfl, by omega, rfl, Lib.hid (World.ownsRow_nil _ _ _ _), Below.refl _ _⟩
  case round =>
    obtain ⟨k, p', c', rfl, hgk, rfl, hown, hb⟩ := hrel
    have HGK := Lib.hid hgk
    have hk : k ≤ n := by omega
    have hsz := hb.size
    clear hgk
    by_cases hlt : k < n
    · have hkl : k < l.length := by have := HLN.out; omega
      obtain ⟨b2, off2, rfl, hs0, hs1⟩ := (HL.out.later hb).mail hkl
      have HTS := Lib.hid (show its (nti ((l.take (k + 1)).map (·.1))) = its (nti ((l.take k).map (·.1))) ++ [.int .i64 (l[k].1 : Int)] by
        rw [List.take_succ_eq_append_getElem hkl, List.map_append]; simp [its, nti])
      generalize l[k] = x at hs0 hs1 HTS
      obtain ⟨x1, x2⟩ := x
      dsimp only at hs0 hs1 HTS
      have hk0 : (0 : Int) ≤ (k : Int) := by omega
      have hkn : (k : Int) < (n : Int) := by omega
      have hd1 : decide ((k : Int) < (n : Int)) = true := by simp; omega
      have hd2 : decide (k < n) = true := by simp; omega
      obtain ⟨b1, B1, z1⟩ := boxed0 wr [.int .i64 (x1 : Int), .int .i64 (x2 : Int)] 109
      obtain ⟨hx0, hx1, _, _⟩ := B1.two
      have HOA := Lib.hid (hown.out.alloc (.cells #[.int .i64 (x1 : Int), .int .i64 (x2 : Int)] 109))
      have hbA := hb.trans (b1.mono hsz)
      clear b1 B1 hlt
      go_wp2_with (at_builtin; refine wp_app1h (w0 := w) rfl _ _ _ rfl w.heap.size 3 Try.underlying28 inf_int rfl (by decide) rfl HOA.out (us := [_]) rfl (by simp) rfl (by simp [Value.oneCell']) (by unfold maxLen; omega) (by omega) hbA (by simp; omega) ?_; intro p3 c3 w3 hown3 hb3 hsz3 _ _; have HO3 := Lib.hid hown3; clear hown3)
      have HO4 := Lib.hid (show w3.ownsRow w.heap.size 3 1 (.slice p3 (k + 1) c3) (k + 1) (its (nti ((l.take (k + 1)).map (·.1)))) by rw [HTS.out]; exact HO3.out)
      go_roundg (n - (k + 1))
      case measure => have := HGK.out; omega
      case rel => exact ⟨k + 1, p3, c3, by go_num, by omega, rfl, HO4, hb3⟩
    · obtain rfl : n = k := by omega
      have hd1 : decide ((n : Int) < (n : Int)) = false := by simp
      have hd2 : decide (n < n) = false := by simp
      have HOn := Lib.hid (show wr.ownsRow w.heap.size 3 1 (.slice p' n c') n (its (nti (l.map (·.1)))) by have h := hown.out; rw [List.take_of_length_le (by have := HLN.out; omega)] at h; exact h)
      have HI := Lib.hid (show IsI wr (.slice p' n c') (nti (l.map (·.1))) from IsI.of_own HOn.out (fun m hm => by
        obtain ⟨x, hx, rfl⟩ := List.mem_map.1 hm
        obtain ⟨y, hy, rfl⟩ := List.mem_map.1 hx
        have := (HR.out.ok y hy).1
        omega))
      clear hown hlt HOn
      go_wp2_with fail
      refine (HG.out _ _ _ HI.out).mono ?_; rintro e w2 ⟨q2, d2, rfl, ho2, hb2⟩
      have HO2 := Lib.hid (own_mono ho2 hsz)
      have hbw2 := hb.trans (hb2.mono hsz)
      clear ho2 hb2
      go_wp2_with fail
      obtain ⟨g, hg⟩ : ∃ g, g = G.length := ⟨_, rfl⟩
      have HGL := Lib.hid hg
      rw [← hg] at HO2 hgl ⊢
      clear hg
      go_loopg [6, 29] n (fun gk v6 v29 wr => ∃ (k m : Nat) (p' : Option Addr) (c' : Nat), v29 = .int .i64 (k : Int) ∧ k + gk = n ∧ v6 = .slice p' m c' ∧ Hid (m = (G ++ putsL (l.take k)).length) ∧ Hid (wr.ownsRow w.heap.size 5 1 (.slice p' m c') m (bys (G ++ putsL (l.take k)))) ∧ Below w.heap.size w wr)
      case atStart => exact ⟨0, g, q2, d2, rfl, by omega, rfl, Lib.hid (by rw [HGN.out]; exact HGL.out), Lib.hid (by rw [HGN.out]; exact HO2.out), hbw2⟩
      case round =>
        clear hbw2 hsz
        obtain ⟨k, m, p', c', rfl, hgk, rfl, HM, hown, hb⟩ := hrel
        have HGK2 := Lib.hid hgk
        have hk : k ≤ n := by omega
        have hsz := hb.size
        clear hgk
        have hm : m ≤ 10 * n + 10 + 10 * k := by
          have h1 := HM.out
          have h2 := HBD.out k
          have h3 : (l.take k).length ≤ k := List.length_take_le _ _
          have h4 := HGL.out
          rw [List.length_append] at h1; omega
        by_cases hlt : k < n
        · have hkl : k < l.length := by have := HLN.out; omega
          obtain ⟨b2, off2, rfl, hs0, hs1⟩ := (HL.out.later hb).mail hkl
          have hok := HR.out.ok _ (List.getElem_mem hkl)
          have HTS := Lib.hid (show G ++ putsL (l.take (k + 1)) = (G ++ putsL (l.take k)) ++ put l[k].2 by
            rw [putsL_succ hkl, List.append_assoc])
          generalize l[k] = x at hs0 hs1 HTS hok
          obtain ⟨x1, x2⟩ := x
          dsimp only at hs0 hs1 HTS
          have hx2 := okM_u64 hok
          have hx3 : x2 ≤ 4398046511104 := hok.2
          have HPU := Lib.hid (fun W => put_any x2 W hx2)
          have hpl := put_len10 hx2
          have hp1 := put_pos x2
          have hk0 : (0 : Int) ≤ (k : Int) := by omega
          have hkn : (k : Int) < (n : Int) := by omega
          have hd1 : decide ((k : Int) < (n : Int)) = true := by simp; omega
          have hd2 : decide (k < n) = true := by simp; omega
          obtain ⟨b1, B1, z1⟩ := boxed0 wr [.int .i64 (x1 : Int), .int .i64 (x2 : Int)] 109
          obtain ⟨hx0, hx1, _, _⟩ := B1.two
          have HOA := Lib.hid (hown.out.alloc (.cells #[.int .i64 (x1 : Int), .int .i64 (x2 : Int)] 109))
          have hbA := hb.trans (b1.mono hsz)
          have hwx : IntKind.u64.wrap (x2 : Int) = (x2 : Int) := IntWalk.u64_in _ (by omega)
          clear b1 B1 hlt hok hx2
          go_wp2_with (first
            | (go_at_call 54; refine (HPU.out _).mono ?_; rintro e w4 ⟨q4, d4, rfl, ho4, hb4⟩; have hbB := hbA.trans (hb4.mono hbA.size); have HO4 := Lib.hid (own_later HOA.out hb4); have HS4 := Lib.hid (Sl.of_own ho4); have hz4 := hbB.size; clear ho4 hb4)
            | (at_builtin; refine wp_app (w0 := w) rfl _ _ _ rfl w.heap.size 5 Try.underlying56 inf_u8' rfl (by decide) rfl HO4.out rfl HS4.out (bys_oneQ _) (by unfold maxLen; omega) (by omega) hbB hz4 ?_; intro p3 c3 w3 hown3 hb3 hsz3 _ _; have HO3 := Lib.hid hown3; clear hown3))
          have HM2 := Lib.hid (show m + (put x2).length = (G ++ putsL (l.take (k + 1))).length by rw [HTS.out, List.length_append, ← HM.out])
          have HO5 := Lib.hid (show w3.ownsRow w.heap.size 5 1 (.slice p3 (m + (put x2).length) c3) (m + (put x2).length) (bys (G ++ putsL (l.take (k + 1)))) by rw [HTS.out, bys_append]; exact HO3.out)
          go_roundg (n - (k + 1))
          case measure => have := HGK2.out; omega
          case rel => exact ⟨k + 1, _, p3, c3, by go_num, by omega, rfl, HM2, HO5, hb3⟩
        · obtain rfl : n = k := by omega
          have hd1 : decide ((n : Int) < (n : Int)) = false := by simp
          have hd2 : decide (n < n) = false := by simp
          clear hlt
          go_wp2_with fail
          go_ret
          exact ⟨p', c', by rw [← HM.out]; rfl, by rw [← HM.out]; exact hown.out, hb⟩
end Go.Proofs.Ytcaolnpkpialdaa
