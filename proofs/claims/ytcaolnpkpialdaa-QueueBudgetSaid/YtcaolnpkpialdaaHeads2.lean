/- The walks of the methods of merge.heads at mail that push and pop. -/
import Derived.Test.YtcaolnpkpialdaaHeads
namespace Go.Proofs.Ytcaolnpkpialdaa
open Go.RowKit Go.Sort Go.Proofs
theorem inf_hd : (Try.prog.info? 163).map (fun i => (i.zero, i.size, i.bytes)) = some (some (.agg #[.slice none 0 0, .int .i64 0]), 2, 32) := by kernel_rfl
set_option maxHeartbeats 8000000 in
set_option maxRecDepth 100000 in
theorem hdPush_ok {W0 Wk : World} {K : Nat → Prop} {g : Nat} (W : World) (l : List Hd) (a : Hd) (H : HeadSt W0 Wk K g W l) (hl : l.length < 90000) (ha : 0 < a.left.length ∧ a.no ≤ 100000 ∧ Sl W0 2 a.sl a.left.length (mcs a.left)) :
    Calls Try.prog 146 #[.pointer (some ⟨g, 0, none⟩), .iface 163 (.agg #[a.sl, .int .i64 (a.no : Int)])] W fun e w' => e = .returned (.tuple #[]) ∧ HeadSt W0 Wk K g w' (l ++ [a]) ∧ Below W0.heap.size W w' := by
  obtain ⟨p, c, hX, ho, hkp⟩ := H.row
  have HKP := Lib.hid hkp
  clear hkp
  have HX := Lib.hid hX
  have HO := Lib.hid ho
  have HH := Lib.hid H
  have hWsz := H.bel.size
  have hgB := H.gB
  have hgW := hX.lt
  have hq2 := hX.two.1
  have HAOK := Lib.hid ha
  have HCE := Lib.hid (show hdCs (l ++ [a]) = hdCs l ++ [a.sl, .int .i64 (a.no : Int)] by rw [hdCs_append]; rfl)
  have hlast : (l ++ [a]).length = l.length + 1 := by simp
  have HLA := Lib.hid hlast
  obtain ⟨n, hn⟩ : ∃ n, n = l.length := ⟨_, rfl⟩
  have HN := Lib.hid hn
  rw [← hn] at HO HX HKP hl hq2
  obtain ⟨sa, hsa⟩ : ∃ sa, sa = a.sl := ⟨_, rfl⟩
  have HSA := Lib.hid hsa
  rw [← hsa] at HCE ⊢
  obtain ⟨qa, da, na, hqa⟩ : ∃ q d m, sa = .slice q m d := ⟨a.p, a.c, a.left.length, hsa⟩
  subst hqa
  generalize han : a.no = an at *
  have HAN := Lib.hid han
  clear H hX ho ha hn hlast hsa han
  have hta : ∀ (W : World), (Instr.typeAssert (.iface 163 (.agg #[.slice qa na da, .int .i64 (an : Int)])) 20 163 false).run Try.prog W = .ok (.agg #[.slice qa na da, .int .i64 (an : Int)]) W := fun _ => by kernel_rfl
  go_enter Try.func146, Try.ntmps146
  go_upto_region 0 with fail
  obtain ⟨S, hSI⟩ : ∃ S : World → Prop, ∀ w', S w' ↔ (w'.cell? ⟨g, 0, none⟩ = some (Value.slice p n c)) := ⟨fun w' => _, fun w' => Iff.rfl⟩
  have HSI := Lib.hid hSI
  clear hSI
  refine wp_region_L S 11 (by kernel_rfl) ((HSI.out _).2 hq2) (fun hS => ?_)
  clear hq2
  refine wpAnyL_take 0 (v := ?_) rfl rfl (by kernel_rfl) (by kernel_rfl) (by kernel_rfl) (by kernel_rfl) (fun _ _ _ h => h) (Or.inl ⟨by rfl, ?_⟩) hS ?_; rotate_left; · intro w hSw; go_simp <;> with_reducible rfl
  try simp only [Act.put, List.setIfInBounds_toArray, List.set_cons_zero, List.set_cons_succ]
  refine wpAnyL_take 1 (v := ?_) rfl rfl (by kernel_rfl) (by kernel_rfl) (by kernel_rfl) (by kernel_rfl) (fun _ _ _ h => h) (Or.inl ⟨by rfl, ?_⟩) hS ?_; rotate_left; · intro w hSw; go_simp <;> with_reducible rfl
  try simp only [Act.put, List.setIfInBounds_toArray, List.set_cons_zero, List.set_cons_succ]
  refine wpAnyL_take 2 (v := ?_) rfl rfl (by kernel_rfl) (by kernel_rfl) (by kernel_rfl) (by kernel_rfl) (fun _ _ _ h => h) (Or.inl ⟨by rfl, ?_⟩) hS ?_; rotate_left; · intro w hSw; go_simp <;> with_reducible rfl
  try simp only [Act.put, List.setIfInBounds_toArray, List.set_cons_zero, List.set_cons_succ]
  refine wpAnyL_take 3 (v := ?_) rfl rfl (by kernel_rfl) (by kernel_rfl) (by kernel_rfl) (by kernel_rfl) (fun _ _ _ h => h) (Or.inl ⟨by rfl, ?_⟩) hS ?_; rotate_left; · intro w hSw; go_simp <;> with_reducible rfl
  try simp only [Act.put, List.setIfInBounds_toArray, List.set_cons_zero, List.set_cons_succ]
  refine wpAnyL_take 4 (v := ?_) rfl rfl (by kernel_rfl) (by kernel_rfl) (by kernel_rfl) (by kernel_rfl) (fun _ _ _ h => h) (Or.inl ⟨by rfl, ?_⟩) hS ?_; rotate_left; · intro w hSw; have hz0 := (HSI.out w).1 hSw; go_simp <;> with_reducible rfl
  try simp only [Act.put, List.setIfInBounds_toArray, List.set_cons_zero, List.set_cons_succ]
  refine wpAnyL_take 5 (v := ?_) rfl rfl (by kernel_rfl) (by kernel_rfl) (by kernel_rfl) (by kernel_rfl) (fun _ _ _ h => h) (Or.inl ⟨by rfl, ?_⟩) hS ?_; rotate_left; · intro w hSw; go_simp <;> with_reducible rfl
  try simp only [Act.put, List.setIfInBounds_toArray, List.set_cons_zero, List.set_cons_succ]
  refine wpAnyL_one 6 rfl rfl (by kernel_rfl) ?_; intro K hK; rw [if_pos (by rfl)]
  go_simp
  refine hK.out _ _ (fun _ => hS) ?_; clear hK K
  try simp only [Act.put, List.setIfInBounds_toArray, List.set_cons_zero, List.set_cons_succ]
  refine wpAnyL_one 7 rfl rfl (by kernel_rfl) ?_; intro K hK; rw [if_pos (by rfl)]
  go_simp
  have hB7 := HX.out.alloc (.cells #[.slice qa na da, .int .i64 (an : Int)] 163)
  have hq2 := hB7.two.1
  refine hK.out _ _ (fun _ => (HSI.out _).2 hq2) ?_; clear hK K
  have hS := (HSI.out _).2 hq2
  clear hq2
  try simp only [Act.put, List.setIfInBounds_toArray, List.set_cons_zero, List.set_cons_succ]
  refine wpAnyL_one 8 rfl rfl (by kernel_rfl) ?_; intro K hK; rw [if_pos (by rfl)]
  refine wp_app_op (.tmp 8) (.tmp 11) _ rfl (g + 1) 163 rfl inf_hd rfl (by decide) rfl (HO.out.alloc _) rfl (news := [.slice qa na da, .int .i64 (an : Int)]) (sl_new W [Value.slice qa na da, .int .i64 (an : Int)] 163) (by simp [Value.oneCell']) (by unfold maxLen; omega) (by omega) (Below.refl _ _) (by simp; omega) ?_
  intro p7 c7 w7 hown7 hb7 hs7 hg7'' hnb7
  have hg7 : (W.alloc (.cells #[.slice qa na da, .int .i64 (an : Int)] 163)).grownBy w7 (Value.slice p n c).ownBlock := ⟨hg7''.os, hg7''.tape, hg7''.output, hg7''.size, hg7''.block⟩
  clear hS
  have hB8 := hB7.grown hg7 (fun e => by have := (HO.out.lt _ e).1; omega)
  have hq2 := hB8.two.1
  have hqf := hB8.two.2.2.1
  refine hK.out _ _ (fun _ => (HSI.out _).2 hq2) ?_; clear hK K
  have hS := (HSI.out _).2 hq2
  try simp only [Act.put, List.setIfInBounds_toArray, List.set_cons_zero, List.set_cons_succ]
  refine wpAnyL_one 9 rfl rfl (by kernel_rfl) ?_; intro K hK; rw [if_pos (by rfl)]
  go_simp
  refine hK.out _ _ (fun _ => hS) ?_; clear hK K
  try simp only [Act.put, List.setIfInBounds_toArray, List.set_cons_zero, List.set_cons_succ]
  refine wpAnyL_take 10 (v := ?_) rfl rfl (by kernel_rfl) (by kernel_rfl) (by kernel_rfl) (by kernel_rfl) (fun _ _ _ h => h) (Or.inl ⟨by rfl, ?_⟩) hS ?_; rotate_left; · intro w hSw; go_simp <;> with_reducible rfl
  try simp only [Act.put, List.setIfInBounds_toArray, List.set_cons_zero, List.set_cons_succ]
  refine wpAnyL_one 11 rfl rfl (by kernel_rfl) ?_; intro K hK; rw [if_pos (by rfl)]
  go_simp
  refine hK.out _ _ (fun h => absurd rfl h) ?_; clear hK K
  refine wpAnyL_done (by kernel_rfl) ?_ _
  have hX9 : Bx (w7.setCell ⟨g, 0, none⟩ (.slice p7 (n + 1) c7)) g [.slice p7 (n + 1) c7, .func (.func 44) #[] #[]] := hB8.setc 0 _
  have hO9 := own_setCell_ne hown7 (a := ⟨g, 0, none⟩) (fun e => by have := (hown7.lt _ e).1; simp at this; omega) (.slice p7 (n + 1) c7)
  have hbW : Below W0.heap.size W w7 := ((alloc_below W (.cells #[.slice qa na da, .int .i64 (an : Int)] 163)).mono hWsz).grown hg7 (by simp; omega) (fun k hk => by have := (HO.out.lt k hk).1; omega)
  have hbF : Below W0.heap.size W (w7.setCell ⟨g, 0, none⟩ (.slice p7 (n + 1) c7)) := hbW.setCell hgB _
  clear hS hq2 hqf hB7 hB8
  go_wp2_with fail
  go_end0
  refine ⟨rfl, ⟨HH.out.bel.trans hbF, hgB, fun h hh => ?_, p7, c7, ?_, ?_, ?_⟩, hbF⟩
  · rcases List.mem_append.1 hh with hh | hh
    · exact HH.out.ok h hh
    · rw [List.mem_singleton.1 hh, HAN.out]; exact HAOK.out
  · rw [HLA.out, ← HN.out]; exact hX9
  · rw [HLA.out, ← HN.out, HCE.out]; exact hO9
  · rw [HLA.out, ← HN.out]
    exact ((HKP.out.next (alloc_below W _)).grown hg7 hnb7).setc (a := ⟨g, 0, none⟩) (.inl rfl) _
set_option maxHeartbeats 8000000 in
set_option maxRecDepth 100000 in
theorem hdPop_ok {W0 Wk : World} {K : Nat → Prop} {g : Nat} (W : World) (l : List Hd) (a : Hd) (H : HeadSt W0 Wk K g W (l ++ [a])) :
    Calls Try.prog 145 #[.pointer (some ⟨g, 0, none⟩)] W fun e w' => e = .returned (.iface 163 (.agg #[a.sl, .int .i64 (a.no : Int)])) ∧ HeadSt W0 Wk K g w' l ∧ Below W0.heap.size W w' := by
  have hlast : (l ++ [a]).length = l.length + 1 := by simp
  have hat : (l ++ [a])[l.length]? = some a := by simp
  obtain ⟨p, c, hX, ho, hkp⟩ := H.row
  have HKP := Lib.hid hkp
  clear hkp
  obtain ⟨k, rfl, hgk, hkW, hlc, hc63, hi0, hi1⟩ := hd_cells ho hat
  rw [hlast] at hX ho hlc
  have HX := Lib.hid hX
  have hce : hdCs (l ++ [a]) = hdCs l ++ [a.sl, .int .i64 (a.no : Int)] := by rw [hdCs_append]; rfl
  rw [hce] at ho
  have HO := Lib.hid (own_shrink ho rfl)
  have HH := Lib.hid H
  have hWsz := H.bel.size
  have hgB := H.gB
  have hgW := hX.lt
  obtain ⟨n, hn⟩ : ∃ n, n = l.length := ⟨_, rfl⟩
  have HN := Lib.hid hn
  rw [← hn] at hX HX HO hlc hi0 hi1
  obtain ⟨sa, hsa⟩ : ∃ sa, sa = a.sl := ⟨_, rfl⟩
  have HSA := Lib.hid hsa
  rw [← hsa] at hi0 ⊢
  obtain ⟨qa, da, na, hqa⟩ : ∃ q d m, sa = .slice q m d := ⟨a.p, a.c, a.left.length, hsa⟩
  subst hqa
  generalize a.no = an at *
  obtain ⟨hu0, hu1, huf, _⟩ := hX.two
  have hnb : n < 9223372036854775807 := by omega
  have hn1 : ¬ g = W.heap.size := by omega
  have hn2 : ¬ W.heap.size = g := by omega
  have hw1 : IntKind.i64.wrap ((n : Int) + 1 - 1) = (n : Int) := by rw [Int.add_sub_cancel]; exact IntWalk.i64_in _ (by omega)
  have hw2 : IntKind.i64.wrap (n : Int) = (n : Int) := IntWalk.i64_in _ (by omega)
  have hk0 : (0 : Int) ≤ (n : Int) := by omega
  have hkn : (n : Int) < (n : Int) + 1 := by omega
  have hkc : (n : Int) ≤ (c : Int) := by omega
  obtain ⟨b4, B4, z4⟩ := boxed0 W [.slice qa na da, .int .i64 (an : Int)] 163
  obtain ⟨hb0, hb1, _, _⟩ := B4.two
  have hX4 := HX.out.next b4
  obtain ⟨hv0, hv1, hvf, _⟩ := hX4.two
  have HX4 := Lib.hid hX4
  have HO4 := Lib.hid (own_later HO.out b4)
  have HB4 := Lib.hid b4
  clear H ho hX hat hlast hn hsa hce b4 B4 hX4
  go_enter Try.func145, Try.ntmps145
  go_wp2_with fail
  go_ret
  have hX5 := (show Bx (W.setCell ⟨g, 0, none⟩ (.slice (some ⟨k, 0, none⟩) n c)) g [.slice (some ⟨k, 0, none⟩) n c, .func (.func 44) #[] #[]] from HX.out.setc 0 _).alloc (.cells #[.slice qa na da, .int .i64 (an : Int)] 163)
  have hO5 := (own_setCell_ne HO.out (a := ⟨g, 0, none⟩) (fun e => by have := (HO.out.lt _ e).1; simp at this; omega) (.slice (some ⟨k, 0, none⟩) n c)).alloc (.cells #[.slice qa na da, .int .i64 (an : Int)] 163)
  have hbF := (show Below W0.heap.size W (W.setCell ⟨g, 0, none⟩ (.slice (some ⟨k, 0, none⟩) n c)) from (Below.refl _ W).setCell hgB _).alloc (by simp; exact hWsz) (.cells #[.slice qa na da, .int .i64 (an : Int)] 163)
  refine ⟨rfl, ⟨HH.out.bel.trans hbF, hgB, fun h hh => HH.out.ok h (List.mem_append_left _ hh), some ⟨k, 0, none⟩, c, ?_, ?_, ?_⟩, hbF⟩
  · rw [← HN.out]; exact hX5
  · rw [← HN.out]; exact hO5
  · exact (HKP.out.setc (a := ⟨g, 0, none⟩) (.inl rfl) _).next (alloc_below _ _)
/-- heads that may be: each has a piece left, that may be read -/
def HdS (W0 : World) : Type := { h : Hd // 0 < h.left.length ∧ h.no ≤ 100000 ∧ Sl W0 2 h.sl h.left.length (mcs h.left) }
def hdV (a : Hd) : Value := .iface 163 (.agg #[a.sl, .int .i64 (a.no : Int)])
theorem map_swp {α β : Type} (f : α → β) (l : List α) (i j : Nat) (a b : α) : (swp l i j a b).map f = swp (l.map f) i j (f a) (f b) := by
  unfold swp; rw [List.map_set, List.map_set]
theorem heapI (W0 Wk : World) (K : Nat → Prop) (g : Nat) : HeapM (α := HdS W0) (fun W l => HeadSt W0 Wk K g W (l.map (·.1))) (fun a b => hdLt a.1 b.1) (fun a b => hdLe a.1 b.1) (fun a => hdV a.1) W0.heap.size g where
  len W l h := by have := hdLen_ok W _ h; rw [List.length_map] at this; exact this
  less W l i j a b h hi hj := hdLess_ok W _ i j a.1 b.1 h (by rw [List.getElem?_map, hi]; rfl) (by rw [List.getElem?_map, hj]; rfl)
  swap W l i j a b h hi hj := by
    have := hdSwap_ok W _ i j a.1 b.1 h (by rw [List.getElem?_map, hi]; rfl) (by rw [List.getElem?_map, hj]; rfl)
    rw [← map_swp] at this
    exact this
  push W l a h hl := by
    have := hdPush_ok W _ a.1 h (by rw [List.length_map]; exact hl) a.2
    rw [show l.map (·.1) ++ [a.1] = (l ++ [a]).map (·.1) by simp] at this
    exact this
  pop W l a h := by
    rw [show (l ++ [a]).map (·.1) = l.map (·.1) ++ [a.1] by simp] at h
    exact hdPop_ok W _ a.1 h
  lt1 a b h := hdLt1 a.1 b.1 h
  lt0 a b h := hdLt0 a.1 b.1 h
  tr a b c h1 h2 := hdTr a.1 b.1 c.1 h1 h2
  rf a := hdRf a.1
end Go.Proofs.Ytcaolnpkpialdaa
