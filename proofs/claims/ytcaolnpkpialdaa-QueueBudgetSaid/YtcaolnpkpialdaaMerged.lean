/- The walk of merge.merged at mail. -/
import Derived.Test.YtcaolnpkpialdaaPMerge
import Derived.Test.YtcaolnpkpialdaaRR
import Derived.Test.YtcaolnpkpialdaaCloneM
namespace Go.Proofs.Ytcaolnpkpialdaa
open Go.RowKit Go.Sort Go.Proofs
theorem mcs_snocM (l : List (Nat × Nat)) (m : Nat × Nat) : mcs (l ++ [m]) = mcs l ++ [Value.int .i64 (m.1 : Int), Value.int .i64 (m.2 : Int)] := mcs_snoc l m
/-- the heap in a world that turned nothing of it -/
theorem HeadSt.next {W0 Wk W W' : World} {K : Nat → Prop} {g : Nat} {l : List Hd} (H : HeadSt W0 Wk K g W l) (hb : Below W.heap.size W W') : HeadSt W0 Wk K g W' l := by
  obtain ⟨p, c, hX, ho, hk⟩ := H.row
  exact ⟨H.bel.trans (hb.mono H.bel.size), H.gB, H.ok, p, c, hX.next hb, own_later ho hb, hk.next hb⟩
theorem own_same {W W' : World} {B : Nat} {e : TypeId} {size : Nat} {v : Value} {n : Nat} {xs : List Value} (h : W.ownsRow B e size v n xs) (hs : ∀ b, v.ownBlock = some b → W'.heap[b]? = W.heap[b]?) : W'.ownsRow B e size v n xs := by
  refine ⟨h.1, ?_⟩
  rcases h.2 with hn | ⟨g, cap, cur, rfl, h1, h2, h3⟩
  · exact .inl hn
  · exact .inr ⟨g, cap, cur, rfl, h1, by rw [hs g rfl]; exact h2, h3⟩
/-- the row that is kept, behind the heap's calls -/
theorem HeadSt.own {W0 Wk W : World} {g : Nat} {l : List Hd} {v : Value} {B : Nat} {e : TypeId} {size n : Nat} {xs : List Value} (H : HeadSt W0 Wk (fun b => v.ownBlock = some b) g W l) (h : Wk.ownsRow B e size v n xs) : W.ownsRow B e size v n xs := by
  obtain ⟨p, c, hX, ho, hk⟩ := H.row
  exact own_same h hk.same
/-- the row that is kept grows -/
theorem HeadSt.regrow {W0 Wk W W' : World} {g : Nat} {l : List Hd} {v v' : Value} {e : TypeId} {n : Nat} {xs : List Value} (H : HeadSt W0 Wk (fun b => v.ownBlock = some b) g W l) (h : W.ownsRow (g + 1) e 2 v n xs) (hg : W.grownBy W' v.ownBlock) (hv : v'.ownBlock = v.ownBlock ∨ ∃ k, v'.ownBlock = some k ∧ W.heap.size ≤ k) (hsz : ∀ b, v'.ownBlock = some b → b < W'.heap.size) :
    HeadSt W0 W' (fun b => v'.ownBlock = some b) g W' l := by
  obtain ⟨p, c, hX, ho, hk⟩ := H.row
  have hgB := H.gB
  have hgW := hX.lt
  refine ⟨H.bel.grown hg (by omega) (fun k hk => by have := (h.lt k hk).1; omega), hgB, H.ok, p, c, hX.grown hg (fun e => by have := (h.lt _ e).1; omega), own_grown ho hg (fun k hk2 e2 => hk.row k e2 hk2), ?_, ?_, ?_, fun _ _ => rfl⟩
  · exact hsz
  · intro b hb
    rcases hv with hv | hv
    · exact hk.box b (by rw [← hv]; exact hb)
    · obtain ⟨k, hv, hk2⟩ := hv
      rw [hv] at hb; cases hb; omega
  · intro b hb e2
    rcases hv with hv | hv
    · exact hk.row b (by rw [← hv]; exact hb) e2
    · obtain ⟨k, hv, hk2⟩ := hv
      rw [hv] at hb; cases hb
      have := (ho.lt _ e2).2; omega
theorem grown_mid {w4 w6 w7 : World} {q : Option Nat} {h : Nat} (h1 : Below w4.heap.size w4 w6) (h2 : w6.grownBy w7 q) (h3 : w4.heap.size ≤ h) (u : Value) : w4.grownBy (w7.setCell ⟨h, 0, none⟩ u) q :=
  ⟨h2.os.trans h1.os, h2.tape.trans h1.tape, h2.output.trans h1.output, by simp [World.setCell]; exact Nat.le_trans h1.size h2.size, fun k hk hne =>
    (Below.heap_setCell w7 ⟨h, 0, none⟩ u k (by show k ≠ h; omega)).trans ((h2.block k (Nat.lt_of_lt_of_le hk h1.size) hne).trans (h1.block k hk))⟩
theorem HeadSt.rebase {W0 Wk W : World} {K : Nat → Prop} {g : Nat} {l : List Hd} (H : HeadSt W0 Wk K g W l) : HeadSt W0 W K g W l := by
  obtain ⟨p, c, hX, ho, hk⟩ := H.row
  exact ⟨H.bel, H.gB, H.ok, p, c, hX, ho, hk.size, hk.box, hk.row, fun _ _ => rfl⟩
theorem HeadSt.begin2 {W0 Wk W : World} {K : Nat → Prop} {g : Nat} {l : List Hd} (H : HeadSt W0 Wk K g W l) : HeadSt W0 W (fun b => (Value.slice none 0 0).ownBlock = some b) g W l := by
  obtain ⟨p, c, hX, ho, hk⟩ := H.row
  exact ⟨H.bel, H.gB, H.ok, p, c, hX, ho, (fun b hb => by cases hb), (fun b hb => by cases hb), (fun b hb => by cases hb), fun _ _ => rfl⟩
set_option maxHeartbeats 8000000 in
set_option maxRecDepth 100000 in
theorem merged_ok (p : Option Addr) (n c : Nat) (R : List (List (Nat × Nat))) (w : World) (hR : IsRR mcs 2 List.length w (.slice p n c) R) (hs : ∀ r ∈ R, r.Pairwise leM) (hn5 : n ≤ 5000) (ht : R.flatten.length ≤ 5000) :
    Calls Try.prog 45 #[.slice p n c, .func (.func 44) #[] #[]] w fun e w' => ∃ p' c', e = .returned (.slice p' R.flatten.length c') ∧ w'.ownsRow w.heap.size 109 2 (.slice p' R.flatten.length c') R.flatten.length (mcs (srt cfM R.flatten)) ∧ Below w.heap.size w w' := by
  obtain ⟨hnR, hnc, hc63⟩ := hR.lens
  have HR := Lib.hid hR
  have HS := Lib.hid hs
  have HNR := Lib.hid hnR
  clear hR hs hnR
  obtain ⟨t, htt⟩ : ∃ t, t = R.flatten.length := ⟨_, rfl⟩
  have HT := Lib.hid htt
  rw [← htt] at ht ⊢
  clear htt
  obtain ⟨b1, B1, z1⟩ := boxed0 w [.slice none 0 0, .func (.func 44) #[] #[]] 161
  have HST0 := Lib.hid (show HeadSt w w (fun _ => False) w.heap.size (w.alloc (.cells #[.slice none 0 0, .func (.func 44) #[] #[]] 161)) [] from ⟨b1, Nat.le_refl _, (fun h hh => by cases hh), none, 0, B1, World.ownsRow_nil _ _ _ _, (fun _ hb => hb.elim), (fun _ hb => hb.elim), (fun _ hb => hb.elim), (fun _ hb => hb.elim)⟩)
  clear B1 z1
  go_enter Try.func45, Try.ntmps45
  go_wp2_with fail
  generalize (w.alloc (.cells #[.slice none 0 0, .func (.func 44) #[] #[]] 161)) = w1 at *
  obtain ⟨g, hg⟩ : ∃ g, g = w.heap.size := ⟨_, rfl⟩
  rw [← hg] at HST0 ⊢
  have HI := Lib.hid (heapI w w (fun _ => False) g)
  have hgw : w.heap.size ≤ g := by omega
  clear hg
  go_loopg [6, 7, 15] n (fun gk v6 v7 v15 wr => ∃ (k : Nat) (lst : List (HdS w)), v15 = .int .i64 (k : Int) ∧ k + gk = n ∧ Hid (HeadSt w w (fun _ => False) g wr (lst.map (·.1))) ∧ Hid (Hp (fun a b : HdS w => hdLe a.1 b.1) lst) ∧ lst.length ≤ k ∧ Hid (((lst.map (·.1)).flatMap Hd.left).Perm (R.take k).flatten) ∧ Hid (∀ h ∈ lst.map (·.1), h.left.Pairwise leM))
  case atStart => exact ⟨0, [], rfl, by omega, HST0, Lib.hid (fun i x y _ h _ => by simp at h), Nat.zero_le _, Lib.hid (by simp), Lib.hid (fun h hh => by cases hh)⟩
  case round =>
    obtain ⟨k, lst, rfl, hgk, HST, HHP, hlk, HPM, HSO⟩ := hrel
    have HGK := Lib.hid hgk
    have hk : k ≤ n := by omega
    clear hgk
    have hbel := HST.out.bel
    by_cases hlt : k < n
    · have hkl : k < R.length := by have := HNR.out; omega
      obtain ⟨bb, off, q, d, rfl, hc0, hsl⟩ := HR.out.get hkl
      have hbb : bb < w.heap.size := World.block_lt_of_cell? w _ hc0
      have hc1 := (hbel.cell (p := ⟨bb, off + k, none⟩) hbb).trans hc0
      have hsr := HS.out _ (List.getElem_mem hkl)
      have HTK := Lib.hid (show (R.take (k + 1)).flatten = (R.take k).flatten ++ R[k] by rw [List.take_succ_eq_append_getElem hkl, List.flatten_append]; simp only [List.flatten_cons, List.flatten_nil, List.append_nil])
      generalize R[k] = r at hc0 hc1 hsl hsr HTK
      obtain ⟨u, hu⟩ : ∃ u, u = r.length := ⟨_, rfl⟩
      have HU := Lib.hid hu
      have HSL := Lib.hid hsl
      have HSR := Lib.hid hsr
      rw [← hu] at hc1
      have hk0 : (0 : Int) ≤ (k : Int) := by omega
      have hkn : (k : Int) < (n : Int) := by omega
      have hd1 : decide ((k : Int) < (n : Int)) = true := by simp; omega
      have hd2 : decide (k < n) = true := by simp; omega
      clear hc0 hsl hsr hlt hu
      by_cases hu0 : 0 < u
      · have hd3 : decide ((0 : Int) < (u : Int)) = true := by simp; omega
        have hd4 : decide (0 < u) = true := by simp; omega
        obtain ⟨a, ha⟩ : ∃ a : HdS w, a.1 = ⟨r, k, q, d⟩ := ⟨⟨⟨r, k, q, d⟩, by rw [← HU.out]; exact hu0, by show k ≤ 100000; omega, HSL.out⟩, rfl⟩
        have HPU := Lib.hid (show Calls Try.prog 40 #[.iface 158 (.pointer (some ⟨g, 0, none⟩)), .iface 163 (.agg #[.slice q u d, .int .i64 (k : Int)])] wr fun e w' => e = .returned (.tuple #[]) ∧ ∃ l', HeadSt w w (fun _ => False) g w' (l'.map (·.1)) ∧ Hp (fun a b : HdS w => hdLe a.1 b.1) l' ∧ l'.Perm (lst ++ [a]) ∧ Below w.heap.size wr w' from by
          have := hpushM HI.out lst a wr HST.out HHP.out (by omega)
          rw [show hdV a.1 = .iface 163 (.agg #[.slice q u d, .int .i64 (k : Int)]) by rw [ha, HU.out]; rfl] at this
          exact this)
        have HA := Lib.hid ha
        clear ha hu0
        go_wp2_with (go_at_call 40; refine HPU.out.mono ?_; rintro e w3 ⟨rfl, l3, hs3, hp3, hm3, hb3⟩; have HS3 := Lib.hid hs3; have HP3 := Lib.hid hp3; have HM3 := Lib.hid hm3; clear hs3 hp3 hm3)
        have hl3 : l3.length ≤ k + 1 := by rw [HM3.out.length_eq]; simp; omega
        have hpm : ((l3.map (·.1)).flatMap Hd.left).Perm (R.take (k + 1)).flatten := by
          rw [HTK.out]
          refine (flat_perm (HM3.out.map (·.1))).trans ?_
          rw [List.map_append, List.flatMap_append]
          have e2 : ([a].map (·.1)).flatMap Hd.left = r := by simp [HA.out]
          rw [e2]
          exact HPM.out.append_right r
        have hso : ∀ h ∈ l3.map (·.1), h.left.Pairwise leM := fun h hh => by
          have h1 := (HM3.out.map (·.1)).mem_iff.1 hh
          rw [List.map_append] at h1
          rcases List.mem_append.1 h1 with h2 | h2
          · exact HSO.out h h2
          · have : h = a.1 := by simpa using h2
            rw [this, HA.out]; exact HSR.out
        go_roundg (n - (k + 1))
        case measure => have := HGK.out; omega
        case rel => exact ⟨k + 1, l3, by go_num, by omega, HS3, HP3, hl3, Lib.hid hpm, Lib.hid hso⟩
      · have hd3 : decide ((0 : Int) < (u : Int)) = false := by simp; omega
        have hd4 : decide (0 < u) = false := by simp; omega
        have hrn : r = [] := List.eq_nil_of_length_eq_zero (by have := HU.out; omega)
        have HRN := Lib.hid (show (R.take (k + 1)).flatten = (R.take k).flatten by rw [HTK.out, hrn, List.append_nil])
        clear hrn hu0
        go_wp2_with fail
        go_roundg (n - (k + 1))
        case measure => have := HGK.out; omega
        case rel => exact ⟨k + 1, lst, by go_num, by omega, HST, HHP, by omega, by rw [HRN.out]; exact HPM, HSO⟩
    · obtain rfl : n = k := by omega
      have hd1 : decide ((n : Int) < (n : Int)) = false := by simp
      have hd2 : decide (n < n) = false := by simp
      have hpf : (R.take n).flatten = R.flatten := by rw [List.take_of_length_le (by have := HNR.out; omega)]
      have HBEG := Lib.hid (show MInv R.flatten [] (lst.map (·.1)) from MInv.begin_ (by rw [← hpf]; exact HPM.out) HSO.out)
      clear hpf hlt hbel HPM HSO
      generalize hFF : R.flatten = F at *
      have HFF := Lib.hid hFF
      clear hFF
      go_wp2_with fail
      go_loopg [8, 9] t (fun gk v8 v9 wr => ∃ (lst : List (HdS w)) (out : List (Nat × Nat)) (m : Nat) (p' : Option Addr) (c' : Nat), Hid (HeadSt w wr (fun b => (Value.slice p' m c').ownBlock = some b) g wr (lst.map (·.1))) ∧ Hid (Hp (fun a b : HdS w => hdLe a.1 b.1) lst) ∧ lst.length ≤ n ∧ Hid (MInv F out (lst.map (·.1))) ∧ v8 = .slice p' m c' ∧ Hid (wr.ownsRow (g + 1) 109 2 (.slice p' m c') m (mcs out)) ∧ Hid (m = out.length) ∧ m + gk = t)
      case atStart => exact ⟨lst, [], 0, none, 0, Lib.hid HST.out.begin2, HHP, hlk, HBEG, rfl, Lib.hid (World.ownsRow_nil _ _ _ _), Lib.hid rfl, by omega⟩
      case round =>
        clear hlk HST HHP HBEG hd1 hd2 HI
        obtain ⟨lst, out, m, p', c', HST, HHP, hll, HMI, rfl, HO, HML, hmt⟩ := hrel
        have HI := Lib.hid (heapI w wr (fun b => (Value.slice p' m c').ownBlock = some b) g)
        have HGK2 := Lib.hid hmt
        have hmt' : m ≤ t := by omega
        clear hmt
        have HLEN := Lib.hid (HI.out.len wr lst HST.out)
        obtain ⟨s, hs⟩ : ∃ s, s = lst.length := ⟨_, rfl⟩
        have HSN := Lib.hid hs
        rw [← hs] at HLEN hll
        clear hs
        by_cases hs0 : s = 0
        · subst hs0
          have hnil : lst = [] := List.eq_nil_of_length_eq_zero HSN.out.symm
          have hout : out = srt cfM F := by have h := HMI.out; rw [hnil] at h; exact h.done
          have hmt2 : m = t := by rw [HML.out, hout, srt_len]; exact HT.out.symm
          have HOUT := Lib.hid hout
          clear hnil hout
          go_wp2_with (go_at_call 73; refine HLEN.out.mono ?_; rintro e w3 ⟨rfl, hs3, hb3⟩; have HS3 := Lib.hid hs3; clear hs3)
          go_ret
          refine ⟨p', c', by rw [← hmt2]; rfl, ?_, HS3.out.bel⟩
          rw [← hmt2, HFF.out, ← HOUT.out]
          exact own_mono (HS3.out.own HO.out) (by omega)
        · obtain ⟨s', rfl⟩ : ∃ s', s = s' + 1 := ⟨s - 1, by omega⟩
          have HPOP := Lib.hid (fun (W : World) (h : HeadSt w wr (fun b => (Value.slice p' m c').ownBlock = some b) g W (lst.map (·.1))) => hpopM HI.out lst s' W h HHP.out HSN.out.symm (by omega))
          clear hs0
          go_wp2_with (first
            | (go_at_call 73; refine HLEN.out.mono ?_; rintro e w3 ⟨rfl, hs3, hb3⟩; have HS3 := Lib.hid hs3; clear hs3))
          refine (HPOP.out _ HS3.out).mono ?_; rintro e w4 ⟨a, l4, rfl, hs4, hp4, hm4, hle4, hb4⟩
          have HS4 := Lib.hid hs4
          have HP4 := Lib.hid hp4
          have HM4 := Lib.hid hm4
          have HLE4 := Lib.hid hle4
          have HO4 := Lib.hid (HS4.out.own HO.out)
          obtain ⟨ha0, hano, hasl⟩ := a.2
          obtain ⟨x, r, hxr⟩ : ∃ x r, a.1.left = x :: r := by
            cases h : a.1.left with
            | nil => rw [h] at ha0; simp at ha0
            | cons x r => exact ⟨x, r, rfl⟩
          have HXR := Lib.hid hxr
          have hHV : hdV a.1 = .iface 163 (.agg #[.slice a.1.p (r.length + 1) a.1.c, .int .i64 (a.1.no : Int)]) := by unfold hdV Hd.sl; rw [hxr, List.length_cons]
          have hSL : Sl w 2 (.slice a.1.p (r.length + 1) a.1.c) (r.length + 1) (mcs (x :: r)) := by
            have := hasl
            unfold Hd.sl at this
            rw [hxr, List.length_cons] at this
            exact this
          obtain ⟨b, off, hap, hc0, hc1⟩ := hSL.mail (i := 0) (by simp)
          simp only [List.getElem_cons_zero, Nat.zero_mul, Nat.add_zero] at hc0 hc1
          have hbw : b < w.heap.size := World.block_lt_of_cell? w _ hc0
          rw [hHV]
          rw [hap] at hSL ⊢
          have HSL := Lib.hid hSL
          have HANO := Lib.hid hano
          obtain ⟨u, hu⟩ : ∃ u, u = r.length := ⟨_, rfl⟩
          have HU := Lib.hid hu
          rw [← hu] at HSL ⊢
          generalize a.1.c = ac at *
          generalize han : a.1.no = an at *
          have HAN := Lib.hid han
          clear hs4 hp4 hm4 hle4 ha0 hano hasl hxr hHV hap hu han
          have hta : ∀ W, (Instr.typeAssert (.iface 163 (.agg #[.slice (some ⟨b, off, none⟩) (u + 1) ac, .int .i64 (an : Int)])) 20 163 false).run Try.prog W = .ok (.agg #[.slice (some ⟨b, off, none⟩) (u + 1) ac, .int .i64 (an : Int)]) W := fun _ => by kernel_rfl
          go_upto_region 11 with fail
          obtain ⟨b5, B5, z5⟩ := boxed0 w4 [.slice (some ⟨b, off, none⟩) (u + 1) ac, .int .i64 (an : Int)] 163
          have HS5 := Lib.hid (HS4.out.next b5)
          have HO5 := Lib.hid (own_later HO4.out b5)
          have HOL := Lib.hid (fun k hk => HO4.out.lt k hk)
          have hbel5 := HS5.out.bel
          have hgw4 : g < w4.heap.size := by obtain ⟨_, _, hX, _⟩ := HS4.out.row; exact hX.lt
          obtain ⟨h, hh⟩ : ∃ h, h = w4.heap.size := ⟨_, rfl⟩
          rw [← hh] at B5 HOL hgw4 ⊢
          generalize (w4.alloc (.cells #[.slice (some ⟨b, off, none⟩) (u + 1) ac, .int .i64 (an : Int)] 163)) = w5 at *
          have HB5 := Lib.hid B5
          have hc0' := (hbel5.cell (p := ⟨b, off, none⟩) hbw).trans hc0
          have hc1' := (hbel5.cell (p := ⟨b, off + 1, none⟩) hbw).trans hc1
          obtain ⟨hx0, hx1, hx2, hx3⟩ := B5.two
          have hHB : Below (g + 1) w4 w5 := b5.mono (by omega)
          have hz5 : g + 1 ≤ w5.heap.size := by omega
          have HS4' := HS4.out
          have hm3 : m + 1 ≤ maxLen := by unfold maxLen; omega
          have hm4 : (m + 1) * 16 ≤ 140737488355328 := by omega
          have ho1 : ∀ z ∈ [Value.int .i64 (x.1 : Int), .int .i64 (x.2 : Int)], z.oneCell' = true := by intro z hz; simp at hz; rcases hz with rfl | rfl <;> rfl
          have HO6 := Lib.hid (HO5.out.alloc (.cells #[Value.int .i64 (x.1 : Int), .int .i64 (x.2 : Int)] 109))
          have HS6 := Lib.hid (HS5.out.next (alloc_below w5 (.cells #[Value.int .i64 (x.1 : Int), .int .i64 (x.2 : Int)] 109)))
          have HB6 := Lib.hid (HB5.out.alloc (.cells #[Value.int .i64 (x.1 : Int), .int .i64 (x.2 : Int)] 109))
          have hu1 : (0 : Int) < (u : Int) + 1 := by omega
          have HB46 := Lib.hid (show Below w4.heap.size w4 (w5.alloc (.cells #[Value.int .i64 (x.1 : Int), .int .i64 (x.2 : Int)] 109)) from b5.trans ((alloc_below w5 _).mono b5.size))
          have HHW := Lib.hid hh
          have HHW5 := Lib.hid (show h < w5.heap.size from B5.lt)
          clear HS4' hh b5 hc0 hc1 B5
          go_upto_region 12 with (at_builtin; refine wp_app (w0 := w5) rfl (.tmp 38) (.tmp 43) _ rfl (g + 1) 109 rfl inf_ml rfl (by decide) rfl HO6.out rfl (news := [Value.int .i64 (x.1 : Int), .int .i64 (x.2 : Int)]) (sl_new w5 [Value.int .i64 (x.1 : Int), .int .i64 (x.2 : Int)] 109) ho1 hm3 hm4 ((alloc_below w5 _).mono hz5) (by simp; omega) ?_; intro p7 c7 w7 hown7 hb7 hs7 hg7 hnb7)
          have hhw := HHW.out
          have hhw5 := HHW5.out
          have HO7 := Lib.hid (show w7.ownsRow (g + 1) 109 2 (.slice p7 (m + 1) c7) (m + 1) (mcs (out ++ [x])) by rw [mcs_snocM]; exact hown7)
          have hvn : (Value.slice p7 (m + 1) c7).ownBlock = (Value.slice p' m c').ownBlock ∨ ∃ k, (Value.slice p7 (m + 1) c7).ownBlock = some k ∧ h < k := by
            rcases hnb7 with e | e
            · exact .inl e
            · exact .inr ⟨_, e, by simp; omega⟩
          have hne7 : (Value.slice p7 (m + 1) c7).ownBlock ≠ some h := by
            rcases hvn with e | ⟨k, e, hk⟩
            · rw [e]; intro e2; have := (HOL.out _ e2).2; omega
            · rw [e]; intro e2; cases e2; omega
          have HX7 := Lib.hid (HB6.out.grown hg7 (fun e => by have := (HOL.out _ e).2; omega))
          have HS8 := Lib.hid (fun uv => (show HeadSt w (w7.setCell ⟨h, 0, none⟩ uv) (fun b => (Value.slice p7 (m + 1) c7).ownBlock = some b) g (w7.setCell ⟨h, 0, none⟩ uv) (l4.map (·.1)) from
            HS4.out.regrow HO4.out (grown_mid HB46.out hg7 (by omega) uv) (by rcases hvn with e | ⟨k, e, hk⟩; exact .inl e; exact .inr ⟨k, e, by omega⟩) (fun b hb => by have := (hown7.lt b hb).2; simpa [World.setCell] using this)))
          have HO8 := Lib.hid (fun uv => own_setCell_ne HO7.out (a := ⟨h, 0, none⟩) hne7 uv)
          have HX8 := Lib.hid (fun uv => HX7.out.setc 0 uv)
          obtain ⟨hx0, hx1, hx2, hx3⟩ := HX7.out.two
          have hl4 : l4.length = s' := by have := HM4.out.length_eq; rw [List.length_cons, ← HSN.out] at this; omega
          have hac : u + 1 ≤ ac := HSL.out.mlen.2.1
          have hac63 := HSL.out.mlen.2.2
          have HSTEP := Lib.hid (fun (l'' : List Hd) (hl : (r = [] ∧ l'' = l4.map (·.1)) ∨ (∃ a' : Hd, a'.left = r ∧ l''.Perm (l4.map (·.1) ++ [a']))) => (show MInv F (out ++ [x]) l'' from
            HMI.out.step (a := a.1) (l' := l4.map (·.1)) (by have := HM4.out.map (·.1); rw [List.map_cons] at this; exact this) HXR.out
              (fun y hy => by obtain ⟨z, hz, rfl⟩ := List.mem_map.1 hy; exact HLE4.out z hz) (fun y hy => (HST.out.ok y hy).1) hl))
          have hmt3 : m + 1 ≤ t := by
            have h1 := HMI.out.perm.length_eq
            have h2 : (a.1.left).length ≤ ((lst.map (·.1)).flatMap Hd.left).length := by
              have h3 := (flat_perm (HM4.out.map (·.1))).length_eq
              rw [← h3, List.map_cons, List.flatMap_cons, List.length_append]; omega
            rw [HXR.out, List.length_cons] at h2
            rw [List.length_append, ← HML.out, ← HT.out] at h1
            omega
          have HML2 := Lib.hid (show m + 1 = (out ++ [x]).length by rw [List.length_append, ← HML.out]; rfl)
          clear hhw hhw5 hb7 hs7 hg7 hnb7 hown7 hvn hc0' hc1' HB46
          by_cases hu0 : u = 0
          · subst hu0
            have hrn : r = [] := List.eq_nil_of_length_eq_zero HU.out.symm
            have HMN := Lib.hid (HSTEP.out _ (.inl ⟨hrn, rfl⟩))
            clear hrn
            have hl4n : l4.length ≤ n := by omega
            by_cases hac1 : ac = 1
            · subst hac1
              go_wp2_with fail
              go_roundg (t - (m + 1))
              case measure => have := HGK2.out; omega
              case rel => exact ⟨l4, out ++ [x], m + 1, p7, c7, Lib.hid (HS8.out _), HP4, hl4n, HMN, rfl, Lib.hid (HO8.out _), HML2, by omega⟩
            · go_wp2_with fail
              go_roundg (t - (m + 1))
              case measure => have := HGK2.out; omega
              case rel => exact ⟨l4, out ++ [x], m + 1, p7, c7, Lib.hid (HS8.out _), HP4, hl4n, HMN, rfl, Lib.hid (HO8.out _), HML2, by omega⟩
          · obtain ⟨v, rfl⟩ : ∃ v, u = v + 1 := ⟨u - 1, by omega⟩
            obtain ⟨d, rfl⟩ : ∃ d, ac = d + 2 := ⟨ac - 2, by omega⟩
            go_wp2_with fail
            obtain ⟨w8, hw8⟩ : ∃ w8, w8 = w7.setCell ⟨h, 0, none⟩ (Value.slice (some ⟨b, off + 2, none⟩) (v + 1) (d + 1)) := ⟨_, rfl⟩
            have hs8 := HS8.out (Value.slice (some ⟨b, off + 2, none⟩) (v + 1) (d + 1))
            have ho8 := HO8.out (Value.slice (some ⟨b, off + 2, none⟩) (v + 1) (d + 1))
            rw [← hw8] at hs8 ho8 ⊢
            have hsl : Sl w 2 (.slice (some ⟨b, off + 2, none⟩) (v + 1) (d + 1)) (v + 1) (mcs r) := slM_tail HSL.out
            obtain ⟨a', ha'⟩ : ∃ a' : HdS w, a'.1 = ⟨r, an, some ⟨b, off + 2, none⟩, d + 1⟩ := ⟨⟨⟨r, an, some ⟨b, off + 2, none⟩, d + 1⟩, by show 0 < r.length; have := HU.out; omega, HANO.out, by unfold Hd.sl; rw [← HU.out]; exact hsl⟩, rfl⟩
            have HV : hdV a'.1 = .iface 163 (.agg #[.slice (some ⟨b, off + 2, none⟩) (v + 1) (d + 1), .int .i64 (an : Int)]) := by rw [ha']; unfold hdV Hd.sl; rw [← HU.out]
            have hpu := hpushM (heapI w w8 (fun b => (Value.slice p7 (m + 1) c7).ownBlock = some b) g) l4 a' w8 hs8 HP4.out (by omega)
            rw [HV] at hpu
            refine hpu.mono ?_
            rintro e w9 ⟨rfl, l9, hs9, hp9, hm9, hb9⟩
            have HS9 := Lib.hid hs9.rebase
            have HO9 := Lib.hid (hs9.own ho8)
            have HP9 := Lib.hid hp9
            have hl9 : l9.length ≤ n := by rw [hm9.length_eq, List.length_append]; simp; omega
            have HMN := Lib.hid (HSTEP.out (l9.map (·.1)) (.inr ⟨a'.1, by rw [ha'], by have := hm9.map (·.1); rw [List.map_append] at this; exact this⟩))
            clear hs8 ho8 hsl HV hpu hs9 hp9 hm9 hw8
            go_wp2_with fail
            go_roundg (t - (m + 1))
            case measure => have := HGK2.out; omega
            case rel => exact ⟨l9, out ++ [x], m + 1, p7, c7, HS9, HP9, hl9, HMN, rfl, HO9, HML2, by omega⟩
end Go.Proofs.Ytcaolnpkpialdaa
