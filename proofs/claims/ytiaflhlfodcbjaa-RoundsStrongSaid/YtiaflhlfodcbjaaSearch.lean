/- The walk of paths.search. -/
import Derived.Test.YtiaflhlfodcbjaaRowsM
import Derived.Test.YtiaflhlfodcbjaaMailR
import Derived.IntWalk
namespace Go.Proofs.Ytiaflhlfodcbjaa
open Go.RowKit
theorem unseen_le (s : List Bool) : unseen s ≤ s.length := List.countP_le_length
set_option maxHeartbeats 8000000 in
set_option maxRecDepth 100000 in
theorem search_ok (N v g s Bs : Nat) (E : List Eg) (w : World) (hM : ServeM w g s (rowsL N E)) (hs : w.ownsRow Bs 4 1 (.slice (some ⟨s, 0, none⟩) N N) N (bls (List.replicate N false))) (hG : InG N E) (hN : N ≤ 200) (hE : E.length ≤ 600) (hv : v < N) :
    Calls Try.prog 39 #[.slice (some ⟨g, 0, none⟩) N N, .int .i64 (v : Int), .slice (some ⟨s, 0, none⟩) N N] w fun e w' => e = .returned (.tuple #[]) ∧ w'.ownsRow Bs 4 1 (.slice (some ⟨s, 0, none⟩) N N) N (bls (reachL N E v)) ∧ w.grownBy w' (some s) := by
  have HM := Lib.hid hM
  have HG := Lib.hid hG
  have hsw := (hs.lt s rfl).2
  have hst0 := Srch.start (l := E) hv
  have hvc := hs.cellAt v (by omega)
  rw [bls_at (b := false) (by rw [List.getElem?_replicate, if_pos hv])] at hvc
  have hvf := hs.frozenAt v
  have hs1 := (hs.stored v (.bool true)).1
  rw [← bls_set] at hs1
  have hg1 : w.grownBy (w.setCell ⟨s, v, none⟩ (.bool true)) (some s) := grown_set
  have hu0 : unseen ((List.replicate N false).set v true) ≤ N := by have := unseen_le ((List.replicate N false).set v true); rw [List.length_set, List.length_replicate] at this; exact this
  have hv0 : (0 : Int) ≤ (v : Int) := by omega
  have hvN : (v : Int) < (N : Int) := by omega
  clear hM hG hs
  generalize (List.replicate N false).set v true = seen0 at *
  go_enter Try.func39, Try.ntmps39
  go_wp2_with fail
  clear hvc hvf
  have hz1 : (w.setCell ⟨s, v, none⟩ (.bool true)).heap.size = w.heap.size := by simp
  have hs2 := hs1.alloc (.cells #[.int .i64 (v : Int)] 3)
  have hg2 := grown_trans hg1 (World.grownBy_alloc (w.setCell ⟨s, v, none⟩ (.bool true)) (.cells #[.int .i64 (v : Int)] 3) (some s))
  have ht2 := World.ownsRow_lit (base := w.heap.size) (e := 3) (size := 1) (w.setCell ⟨s, v, none⟩ (.bool true)) #[.int .i64 (v : Int)] 1 (by simp) (by unfold maxLen; omega) rfl
  rw [hz1] at ht2
  generalize hwe : (w.setCell ⟨s, v, none⟩ (.bool true)).alloc (.cells #[.int .i64 (v : Int)] 3) = w2 at *
  clear hwe hs1 hg1 hz1
  go_loopg [6] (2 * N + 1) (fun gk v6 wr => ∃ (seen : List Bool) (todo : List Nat) (p6 : Option Addr) (c6 : Nat), v6 = .slice p6 todo.length c6 ∧ wr.ownsRow w.heap.size 3 1 (.slice p6 todo.length c6) todo.length (nts todo) ∧ wr.ownsRow Bs 4 1 (.slice (some ⟨s, 0, none⟩) N N) N (bls seen) ∧ Srch N E v seen todo [] ∧ w.grownBy wr (some s) ∧ 2 * unseen seen + todo.length ≤ gk ∧ 2 * unseen seen + todo.length ≤ 2 * N + 1)
  case atStart => exact ⟨seen0, [v], _, 1, rfl, ht2, hs2, hst0, hg2, by simp; omega, by simp; omega⟩
  case round =>
    clear ht2 hs2 hg2 hst0 hu0
    obtain ⟨seen, todo, p6, c6, rfl, ht, hs, hsr, hg, hms, hmx⟩ := hrel
    have HGK := Lib.hid hms
    have hul : unseen seen ≤ N := by have := unseen_le seen; rw [hsr.len] at this; exact this
    clear hms
    by_cases hnil : todo = []
    · subst hnil
      have hend := hsr.end
      rw [hend] at hs
      have hd1 : decide ((0 : Int) < ((0 : Nat) : Int)) = false := by simp
      clear hsr hend
      go_wp2_with fail
      go_end0
      exact ⟨rfl, hs, hg⟩
    · obtain ⟨t0, u, rfl⟩ : ∃ t0 u, todo = t0 ++ [u] := ⟨todo.dropLast, todo.getLast hnil, (List.dropLast_concat_getLast hnil).symm⟩
      clear hnil
      rw [List.length_append, List.length_singleton] at ht HGK hmx ⊢
      obtain ⟨m, hm⟩ : ∃ m, m = t0.length := ⟨_, rfl⟩
      rw [← hm] at ht HGK hmx ⊢
      obtain ⟨g6, rfl, _, hmc, hc63⟩ := own_ptr ht (Nat.succ_pos m)
      have hcu := ht.cellAt m (by omega)
      rw [nts_append, List.getElem?_append_right (by rw [nts_len]; omega), nts_len, ← hm, Nat.sub_self] at hcu
      replace hcu : wr.cell? ⟨g6, m, none⟩ = some (.int .i64 (u : Int)) := hcu
      rw [nts_append] at ht
      have hsh := own_shrink ht rfl
      have hus := hsr.todoSeen u (by simp)
      have huN : u < N := by rw [← hsr.len]; exact (List.getElem?_eq_some_iff.1 hus).1
      have hpop := hsr.pop
      obtain ⟨pr, cr, HR⟩ := HM.out u _ (rowsL_at E huN)
      have hrl : (hopsL E u).length ≤ 600 := by
        unfold hopsL
        rw [List.length_map]
        exact Nat.le_trans (List.length_filter_le _ _) hE
      have HE := Lib.hid (fun h => (hop_edge (l := E) (u := u) (h := h)).1)
      have HE2 := Lib.hid (fun y z (h : (u, y, z) ∈ E) => (hop_edge (l := E) (u := u) (h := (y, z))).2 h)
      have HRR := Lib.hid HR
      obtain ⟨hrow, hsl⟩ := HR wr hg
      clear HR ht hsr
      generalize hopsL E u = r at *
      have hu0 : (0 : Int) ≤ (u : Int) := by omega
      have huN' : (u : Int) < (N : Int) := by omega
      have hm0 : (0 : Int) ≤ (m : Int) := by omega
      have hmc' : (m : Int) ≤ (c6 : Int) := by omega
      have hd1 : decide ((0 : Int) < ((m + 1 : Nat) : Int)) = true := decide_eq_true (by omega)
      have hd2 : decide ((0 : Int) < (m : Int) + 1) = true := decide_eq_true (by omega)
      clear hsl
      have HM0 := Lib.hid hm
      clear hm
      go_wp2_with fail
      have hsh' : wr.ownsRow w.heap.size 3 1 (.slice (some ⟨g6, 0, none⟩) t0.length c6) t0.length (nts t0) := by rw [← HM0.out]; exact hsh
      have hmx' : 2 * unseen seen + m ≤ 2 * N := by omega
      clear hsh hcu hrow hd1 hd2 hm0 hmc' hmx hmc hc63
      obtain ⟨wo, rfl⟩ : ∃ wo : World, wo = wr := ⟨_, rfl⟩
      go_loopg [6, 34] r.length (fun gk v6 v34 wr => ∃ (i : Nat) (seen' : List Bool) (todo' : List Nat) (p6 : Option Addr) (c6 : Nat), v34 = .int .i64 (i : Int) ∧ i + gk = r.length ∧ v6 = .slice p6 todo'.length c6 ∧ wr.ownsRow w.heap.size 3 1 (.slice p6 todo'.length c6) todo'.length (nts todo') ∧ wr.ownsRow Bs 4 1 (.slice (some ⟨s, 0, none⟩) N N) N (bls seen') ∧ Srch N E v seen' todo' [u] ∧ Hid (∀ h ∈ r.take i, seen'[h.1]? = some true) ∧ w.grownBy wr (some s) ∧ 2 * unseen seen' + todo'.length ≤ 2 * unseen seen + m ∧ Hid (seen'[u]? = some true))
      case atStart => exact ⟨0, seen, t0, some ⟨g6, 0, none⟩, c6, rfl, by omega, by rw [HM0.out], hsh', hs, hpop, Lib.hid (by simp), hg, by rw [HM0.out]; omega, Lib.hid hus⟩
      case round =>
        clear hsh' hs hpop hg hus
        obtain ⟨i, seen', todo', p6, c6, rfl, hgi, rfl, ht, hs, hsr, HTK, hg, hms, HUS⟩ := hrel
        have HGI := Lib.hid hgi
        have hi : i ≤ r.length := by omega
        clear hgi
        obtain ⟨_, hsl⟩ := HRR.out wr hg
        have hcc := hsl.mlen.2
        obtain ⟨hcc1, hcc2⟩ := hcc
        have hgz := hg.size
        by_cases hil : i < r.length
        · obtain ⟨b, off, rfl, hc0, hc1⟩ := hsl.mail hil
          have hmem := HE.out _ (List.getElem_mem hil)
          have hts := List.take_succ_eq_append_getElem hil
          generalize r[i] = x at hmem hts hc0 hc1
          obtain ⟨x1, x2⟩ := x
          dsimp only at hmem hts hc0 hc1
          have hxN := (HG.out _ hmem).2.1
          dsimp only at hxN
          have HMEM := Lib.hid hmem
          have HTS := Lib.hid hts
          clear hmem hts hsl
          have hi0 : (0 : Int) ≤ (i : Int) := by omega
          have hin : (i : Int) < (r.length : Int) := by omega
          have hd3' : decide ((i : Int) < (r.length : Int)) = true := by simp; omega
          have hd4' : decide (i < r.length) = true := by simp; omega
          have hx0 : (0 : Int) ≤ (x1 : Int) := by omega
          have hxn : (x1 : Int) < (N : Int) := by omega
          have hsA := hs.alloc (.cells #[.int .i64 (x1 : Int), .int .i64 (x2 : Int)] 94)
          have hgA := grown_trans hg (World.grownBy_alloc wr (.cells #[.int .i64 (x1 : Int), .int .i64 (x2 : Int)] 94) (some s))
          have hcs := hsA.cellAt x1 (by omega)
          have hfs := hsA.frozenAt x1
          obtain ⟨bb, hbb⟩ : ∃ bb, seen'[x1]? = some bb := ⟨_, List.getElem?_eq_getElem (by rw [hsr.len]; exact hxN)⟩
          rw [bls_at hbb] at hcs
          cases bb
          · have HBB := Lib.hid hbb
            clear hbb
            have hst := (hsA.stored x1 (.bool true)).1
            rw [← bls_set] at hst
            have hgS := grown_trans hgA (grown_set (w := wr.alloc (.cells #[.int .i64 (x1 : Int), .int .i64 (x2 : Int)] 94)) (s := s) (i := x1) (u := .bool true))
            have hnb : (Value.slice p6 todo'.length c6).ownBlock ≠ some s := fun e => by have := (ht.lt _ e).1; omega
            have hbx := bx_oth (bx_new wr [.int .i64 (x1 : Int), .int .i64 (x2 : Int)] 94) (a := ⟨s, x1, none⟩) (by show wr.heap.size ≠ s; omega) (.bool true)
            obtain ⟨hq0, _, _, _⟩ := hbx.two
            have htS := own_setCell_ne (ht.alloc (.cells #[.int .i64 (x1 : Int), .int .i64 (x2 : Int)] 94)) (a := ⟨s, x1, none⟩) hnb (.bool true)
            have HNB := Lib.hid hnb
            clear hnb hbx
            have hul2 : unseen seen ≤ 1000 := by omega
            go_wp2_with (at_builtin; refine wp_app1h (w0 := (wr.alloc (.cells #[.int .i64 (x1 : Int), .int .i64 (x2 : Int)] 94)).setCell ⟨s, x1, none⟩ (.bool true)) rfl (.tmp 48) (.tmp 51) _ rfl w.heap.size 3 rfl inf_int rfl (by decide) rfl htS (us := [.int .i64 (x1 : Int)]) rfl (by simp) rfl (by simp [Value.oneCell']) (by unfold maxLen; omega) (by omega) (Below.refl _ _) (by simp; omega) ?_; intro p3 c3 w3 hown3 hb3 hs3 hg3 _)
            have hown2 : w3.ownsRow w.heap.size 3 1 (.slice p3 (todo' ++ [x1]).length c3) (todo' ++ [x1]).length (nts (todo' ++ [x1])) := by
              rw [List.length_append, nts_append]; exact hown3
            have hse2 := own_grown hst hg3 (fun k hk e => HNB.out (by cases hk; exact e))
            have hgg := grown_new hgS hg3 (fun k hk => (htS.lt k hk).1)
            have hpush := hsr.push HUS.out HMEM.out hxN
            have hun := unseen_set HBB.out
            have HTK2 : Hid (∀ h ∈ r.take (i + 1), (seen'.set x1 true)[h.1]? = some true) := Lib.hid (fun h hh => by
              rw [HTS.out] at hh
              rw [List.getElem?_set]
              split
              · rename_i e; rw [if_pos (by rw [hsr.len]; exact hxN)]
              · rename_i hne
                rcases List.mem_append.1 hh with hh | hh
                · exact HTK.out h hh
                · exact absurd (by rw [List.mem_singleton.1 hh]) hne)
            have HUS2 : Hid ((seen'.set x1 true)[u]? = some true) := Lib.hid (by
              rw [List.getElem?_set]
              split
              · rw [if_pos (by rw [hsr.len]; exact hxN)]
              · exact HUS.out)
            have hl2 : (todo' ++ [x1]).length = todo'.length + 1 := by simp
            have HL2 := Lib.hid hl2
            clear hl2 hown3 hst hgS hq0 htS hcs hfs hc0 hc1 hsA hgA
            go_wp2_with fail
            go_roundg (r.length - (i + 1))
            case measure => have := HGI.out; omega
            case rel => exact ⟨i + 1, _, _, p3, c3, by go_num, by omega, by rw [HL2.out], hown2, hse2, hpush, HTK2, hgg, by rw [HL2.out]; omega, HUS2⟩
          · have HTK2 : Hid (∀ h ∈ r.take (i + 1), seen'[h.1]? = some true) := Lib.hid (fun h hh => by
              rw [HTS.out] at hh
              rcases List.mem_append.1 hh with hh | hh
              · exact HTK.out h hh
              · rw [List.mem_singleton.1 hh]; exact hbb)
            clear hbb
            have htA := ht.alloc (.cells #[.int .i64 (x1 : Int), .int .i64 (x2 : Int)] 94)
            go_wp2_with fail
            go_roundg (r.length - (i + 1))
            case measure => have := HGI.out; omega
            case rel => exact ⟨i + 1, seen', todo', p6, c6, by go_num, by omega, rfl, htA, hsA, hsr, HTK2, hgA, hms, HUS⟩
        · obtain rfl : i = r.length := by omega
          have hd3' : decide ((r.length : Int) < (r.length : Int)) = false := by simp
          have hov := hsr.over (fun y z hyz => HTK.out (y, z) (by rw [List.take_length]; exact HE2.out y z hyz))
          go_wp2_with fail
          go_roundg (2 * unseen seen' + todo'.length)
          case measure => have := HGK.out; omega
          case rel => exact ⟨seen', todo', p6, c6, rfl, ht, hs, hov, hg, Nat.le_refl _, by omega⟩
end Go.Proofs.Ytiaflhlfodcbjaa
