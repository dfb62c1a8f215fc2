/- The walk of pacelinekeep.values. -/
import Derived.Test.YtcaolnpkpialdaaLower
import Derived.Test.YtcaolnpkpialdaaPick
namespace Go.Proofs.Ytcaolnpkpialdaa
open Go.RowKit
def valF (l : List Int) : List Int := (l.take 10).map fun x => (pickN x 20 : Int)
theorem valF_bd {l : List Int} : ∀ m ∈ valF l, 0 ≤ m ∧ m ≤ 19 := fun m hm => by
  unfold valF at hm
  obtain ⟨x, -, rfl⟩ := List.mem_map.1 hm
  have := pickN_lt x (m := 20) (by omega)
  omega
theorem valF_len (l : List Int) : (valF l).length ≤ 10 := by
  unfold valF
  rw [List.length_map]
  exact List.length_take_le _ _
theorem valF_nil {l : List Int} (h : l ≠ []) : valF l ≠ [] := by
  cases l with
  | nil => exact absurd rfl h
  | cons a l => simp [valF]
theorem its_snoc' (l : List Int) (x : Int) : its (l ++ [x]) = its l ++ [Value.int .i64 x] := by simp [its]
theorem inf_int' : (Try.prog.info? 3).map (fun i => (i.zero, i.size, i.bytes)) = some (some (.int .i64 0), 1, 8) := by kernel_rfl
theorem isI_own {w : World} {B : Nat} {e : TypeId} {v : Value} {n : Nat} {l : List Int} (h : w.ownsRow B e 1 v n (its l)) (hl : ∀ x ∈ l, 0 ≤ x ∧ x ≤ 200) : IsI w v l :=
  IsI.of_own h fun x hx => by have := hl x hx; omega
set_option maxHeartbeats 2000000 in
set_option maxRecDepth 100000 in
theorem values_ok (p : Option Addr) (c : Nat) (l : List Int) (w : World) (hl : IsI w (.slice p l.length c) l) :
    Calls Try.prog 23 #[.slice p l.length c] w fun e w' => ∃ p' c', e = .returned (.slice p' (valF l).length c') ∧ w'.ownsRow w.heap.size 3 1 (.slice p' (valF l).length c') (valF l).length (its (valF l)) ∧ Below w.heap.size w w' := by
  obtain ⟨-, hc1, hc2⟩ := hl.lens
  have HL := Lib.hid hl
  clear hl
  obtain ⟨n, hn⟩ : ∃ n, n = l.length := ⟨_, rfl⟩
  have HN := Lib.hid hn
  have HV := Lib.hid (show valF l = (l.take 10).map fun x => (pickN x 20 : Int) from rfl)
  have hvl : (valF l).length = min 10 n := by rw [HV.out, List.length_map, List.length_take, hn]
  have HVL := Lib.hid hvl
  rw [← hn] at hc1 ⊢
  clear hn
  clear hvl
  generalize valF l = T at *
  go_enter Try.func23, Try.ntmps23
  go_wp2_with fail
  obtain ⟨wo, rfl⟩ : ∃ wo : World, wo = w := ⟨_, rfl⟩
  go_loopg [3, 4] (T.length) (fun gk v3 v4 wr => ∃ (k : Nat) (p' : Option Addr) (c' : Nat), v4 = .int .i64 (k : Int) ∧ k + gk = T.length ∧ v3 = .slice p' k c' ∧ Hid (wr.ownsRow wo.heap.size 3 1 (.slice p' k c') k (its (T.take k))) ∧ Below wo.heap.size wo wr)
  case atStart => exact ⟨0, none, 0, rfl, by omega, rfl, Lib.hid (World.ownsRow_nil _ _ _ _), Below.refl _ _⟩
  case round =>
    obtain ⟨k, p', c', rfl, hgk, rfl, hown, hb⟩ := hrel
    have HGK := Lib.hid hgk
    have hT := HVL.out
    have hkT : k ≤ T.length := by omega
    have hsz := hb.size
    clear hgk
    by_cases hlt : k < T.length
    · have hkn' : k < n := by omega
      have hk10 : k < 10 := by omega
      have hkl : k < l.length := by have := HN.out; omega
      have hTk : T[k] = (pickN l[k] 20 : Int) := by simp [HV.out]
      have hTs := List.take_succ_eq_append_getElem hlt
      rw [hTk] at hTs
      have hbd := HL.out.2 _ (List.getElem_mem hkl)
      obtain ⟨bb, off, rfl, hc0⟩ := (HL.out.later hb).getI hkl
      generalize l[k] = x at hTk hTs hbd hc0
      have HTS := Lib.hid (show its (T.take (k + 1)) = its (T.take k) ++ [.int .i64 (pickN x 20 : Int)] by rw [hTs, its_snoc'])
      have hk0 : (0 : Int) ≤ (k : Int) := by omega
      have hkn : (k : Int) < (n : Int) := by omega
      have hd1 : decide ((k : Int) < (n : Int)) = true := by simp; omega
      have hd2 : decide (k < n) = true := by simp; omega
      have hd3 : decide ((k : Int) < 10) = true := by simp; omega
      have hd4 : decide (k < 10) = true := by simp; omega
      have HPX := Lib.hid (fun w' => picked_i x 20 20 w' rfl hbd.1 hbd.2 (by omega) (by omega))
      clear hTk hTs hbd hT
      generalize pickN x 20 = y at *
      go_wp2_with (first
        | (go_at_call 15; refine (HPX.out _).mono ?_; rintro e wn ⟨rfl, rfl⟩)
        | (at_builtin; refine wp_app1 rfl _ _ _ rfl _ _ Try.underlying28 inf_int' rfl (by decide) rfl hown.out (us := [_]) rfl rfl (by simp [Value.oneCell']) (by unfold maxLen; omega) (by omega) hb hsz ?_; intro p1 c1 w1 hown1 hb1 hsz1 _ _; have HO1 := Lib.hid hown1; clear hown1))
      have HO2 := Lib.hid (show w1.ownsRow wo.heap.size 3 1 (.slice p1 (k + 1) c1) (k + 1) (its (T.take (k + 1))) by rw [HTS.out]; exact HO1.out)
      go_roundg (T.length - (k + 1))
      case measure => have := HGK.out; omega
      case rel => exact ⟨k + 1, p1, c1, by go_num, by omega, rfl, HO2, hb1⟩
    · obtain rfl : k = T.length := by omega
      have hown2 := hown.out
      rw [List.take_length] at hown2
      have HO2 := Lib.hid hown2
      clear hown2 hown
      have hpl := HO2.out.1
      by_cases hcl : T.length < n
      · have h10 : T.length = 10 := by omega
        have hd1 : decide ((T.length : Int) < (n : Int)) = true := by simp; omega
        have hd2 : decide (T.length < n) = true := by simp; omega
        have hd3 : decide ((T.length : Int) < 10) = false := by simp; omega
        have hd4 : decide (T.length < 10) = false := by simp; omega
        clear hcl h10 hT
        go_wp2_with fail
        go_ret
        exact ⟨p', c', rfl, HO2.out, hb⟩
      · have hd1 : decide ((T.length : Int) < (n : Int)) = false := by simp; omega
        have hd2 : decide (T.length < n) = false := by simp; omega
        clear hcl hT
        go_wp2_with fail
        go_ret
        exact ⟨p', c', rfl, HO2.out, hb⟩
end Go.Proofs.Ytcaolnpkpialdaa
