/- The walk of slices.CompactFunc at mail, by vertex. -/
import Derived.Test.YtfecpifhfihikaaIsSort
import Derived.Test.YtfecpifhfihikaaPLeast
import Derived.Laws.IdiomCopy
namespace Go.Proofs.Ytfecpifhfihikaa
open Go.RowKit Go.Sort Go.Proofs
theorem mcs_put (l : List (Nat × Nat)) (i : Nat) (x : Nat × Nat) : ((mcs l).set (i * 2) (.int .i64 (x.1 : Int))).set (i * 2 + 1) (.int .i64 (x.2 : Int)) = mcs (l.set i x) := by
  apply List.ext_getElem?
  intro j
  have hlen := mcs_len l
  have hlen2 := mcs_len (l.set i x)
  rw [List.length_set] at hlen2
  by_cases hj : j < l.length * 2
  · have hd : j / 2 < l.length := by omega
    have h1 := flatMap_at encM 2 (fun _ => rfl) (by decide) (l.set i x) j (by rw [List.length_set]; exact hj)
    have h2 := flatMap_at encM 2 (fun _ => rfl) (by decide) l j hj
    rw [← mcs_enc] at h1 h2
    rw [h1, List.getElem?_set, List.getElem?_set, h2]
    have e1 : (l.set i x).toArray[j / 2]! = if i = j / 2 then x else l[j / 2] := by
      rw [getElem!_pos _ _ (by simpa using hd)]
      simp [List.getElem_set]
    have e2 : l.toArray[j / 2]! = l[j / 2] := by simp [hd]
    rw [e1, e2, List.length_set, hlen]
    by_cases h3 : i * 2 + 1 = j
    · rw [if_pos h3, if_pos (by omega), if_pos (by omega), show j % 2 = 1 by omega]; rfl
    · rw [if_neg h3]
      by_cases h4 : i * 2 = j
      · rw [if_pos h4, if_pos (by omega), if_pos (by omega), show j % 2 = 0 by omega]; rfl
      · rw [if_neg h4, if_neg (by omega)]
  · rw [List.getElem?_eq_none (by simp [hlen]; omega), List.getElem?_eq_none (by rw [hlen2]; omega)]
theorem fclo_cmp (x1 x2 y1 y2 : Nat) (W : World) :
    Calls Try.prog 16 #[.agg #[.int .i64 (x1 : Int), .int .i64 (x2 : Int)], .agg #[.int .i64 (y1 : Int), .int .i64 (y2 : Int)]] W fun e w' => e = .returned (.bool (decide (x1 = y1))) ∧ Below W.heap.size W w' := by
  obtain ⟨b1, B1, z1⟩ := boxed0 W [.int .i64 (x1 : Int), .int .i64 (x2 : Int)] 31
  obtain ⟨b2, B2, z2⟩ := boxed0 (W.alloc (.cells #[.int .i64 (x1 : Int), .int .i64 (x2 : Int)] 31)) [.int .i64 (y1 : Int), .int .i64 (y2 : Int)] 31
  have hbw := b1.trans (b2.mono (by omega))
  have X1 := B1.next b2
  have e1 : (W.alloc (.cells #[.int .i64 (x1 : Int), .int .i64 (x2 : Int)] 31)).heap.size = W.heap.size + 1 := by simp
  rw [e1] at B2
  obtain ⟨hx0, hx1, _, _⟩ := X1.two
  obtain ⟨hy0, hy1, _, _⟩ := B2.two
  have HB := Lib.hid hbw
  have HE := Lib.hid (show ((x1 : Int) == (y1 : Int)) = decide (x1 = y1) by rw [Bool.eq_iff_iff]; simp; omega)
  clear b1 b2 B1 B2 X1 e1 hbw z1 z2
  go_enter Try.func16, Try.ntmps16
  go_wp2_with fail
  go_ret
  exact ⟨congrArg (fun b => Ending.returned (.bool b)) HE.out, HB.out⟩
def zer2 (m : Nat) : List Value := (Builtin.zeroCells (Value.agg #[.int .i64 0, .int .i64 0]).cells m).toList
theorem zer2_len (m : Nat) : (zer2 m).length = m * 2 := by
  unfold zer2
  rw [Array.length_toList, size_zeroCells]; rfl
theorem zer2_one (m : Nat) : ∀ v ∈ zer2 m, v.oneCell' = true := by
  intro v hv
  unfold zer2 Builtin.zeroCells at hv
  simp at hv
  obtain ⟨i, _, rfl⟩ := hv
  have e : (Value.agg #[.int .i64 0, .int .i64 0]).cells = #[.int .i64 0, .int .i64 0] := by kernel_rfl
  have h2 : i % 2 = 0 ∨ i % 2 = 1 := by omega
  rcases h2 with h2 | h2 <;> simp [e, h2, Value.oneCell']
theorem run_clear2 (w : World) (g o m c : Nat) (hm : 0 < m) (hc : ∀ j, j < m * 2 → (w.cell? ⟨g, o + j, none⟩).isSome = true) (hf : ∀ j, j < m * 2 → w.frozen? ⟨g, o + j, none⟩ = false) (ty : TypeId) :
    (Builtin.clear_ #[23] ty #[.slice (some ⟨g, o, none⟩) m c]).run Try.prog w = .ok (.tuple #[]) (w.setCells g o (zer2 m)) := by
  have hst := run_storeCells_cells (P := Try.prog) g o (zer2 m) 0 w (by rw [zer2_len]; exact hc) (by rw [zer2_len]; exact hf) (zer2_one m)
  rw [Nat.add_zero] at hst
  obtain ⟨q, rfl⟩ : ∃ q, m = q + 1 := ⟨m - 1, by omega⟩
  have hz : (Builtin.zeroCells (Value.agg #[.int .i64 0, .int .i64 0]).cells (q + 1)).toList = zer2 (q + 1) := rfl
  simp [Builtin.clear_, run_underlying Try.underlying23, hz, hst]
def setL (xs : List Value) : Nat → List Value → List Value
  | _, [] => xs
  | o, v :: r => setL (xs.set o v) (o + 1) r
theorem setL_take : ∀ (vs : List Value) (xs : List Value) (o k : Nat), k ≤ o → (setL xs o vs).take k = xs.take k
  | [], _, _, _, _ => rfl
  | v :: r, xs, o, k, h => by
    show (setL (xs.set o v) (o + 1) r).take k = _
    rw [setL_take r _ (o + 1) k (by omega), List.take_set_of_le h]
theorem own_setCells {B : Nat} {e : TypeId} {size g n c : Nat} : ∀ (vs : List Value) (o : Nat) {w : World} {xs : List Value}, w.ownsRow B e size (.slice (some ⟨g, 0, none⟩) n c) n xs → (w.setCells g o vs).ownsRow B e size (.slice (some ⟨g, 0, none⟩) n c) n (setL xs o vs) ∧ w.grownBy (w.setCells g o vs) (some g)
  | [], _, w, _, h => ⟨h, World.grownBy.refl _ _⟩
  | v :: r, o, w, xs, h => by
    obtain ⟨h1, h2⟩ := own_setCells r (o + 1) (h.stored o v).1
    exact ⟨h1, grown_trans (grown_set (s := g) (i := o) (u := v)) h2⟩
theorem own_cut {w : World} {B : Nat} {e : TypeId} {size g c n m : Nat} {xs : List Value} (h : w.ownsRow B e size (.slice (some ⟨g, 0, none⟩) n c) n xs) (hm : m ≤ n) : w.ownsRow B e size (.slice (some ⟨g, 0, none⟩) m c) m (xs.take (m * size)) := by
  have hl := h.1
  have hle : m * size ≤ n * size := Nat.mul_le_mul_right _ hm
  refine ⟨by rw [List.length_take]; omega, ?_⟩
  rcases h.2 with ⟨h1, _⟩ | ⟨g', cap, cur, h1, h2, h3, h4, h5, h6, h7⟩
  · cases h1
  · cases h1
    refine .inr ⟨g, c, cur, rfl, h2, h3, by omega, h5, h6, ?_⟩
    rw [← h7, List.take_take, Nat.min_eq_left hle]
/-- the row as it stands when the first so many are done -/
def curL (l : List (Nat × Nat)) (t : Nat) : List (Nat × Nat) := cmpT l t ++ l.drop (cmpT l t).length
theorem curL_len {l : List (Nat × Nat)} {t : Nat} (h : t ≤ l.length) : (curL l t).length = l.length := by
  unfold curL
  have := cmpT_len l t
  rw [List.length_append, List.length_drop]; omega
theorem curL_at {l : List (Nat × Nat)} {t i : Nat} (h : (cmpT l t).length ≤ i) : (curL l t)[i]? = l[i]? := by
  unfold curL
  rw [List.getElem?_append_right h, List.getElem?_drop]
  congr 1; omega
theorem curL_put {l : List (Nat × Nat)} {t : Nat} (ht : t < l.length) (h : (cmpT l t).length < t) (hne : l[t].1 ≠ (l.getD (t - 1) (0, 0)).1) : (curL l t).set (cmpT l t).length l[t] = curL l (t + 1) := by
  unfold curL
  rw [cmpT_new ht (.inr hne), List.set_append_right _ _ (Nat.le_refl _), Nat.sub_self, List.drop_eq_getElem_cons (by omega : (cmpT l t).length < l.length), List.set_cons_zero, List.length_append, List.append_assoc]
  rfl
theorem own_below {w w' : World} {B : Nat} {e : TypeId} {size : Nat} {v : Value} {n : Nat} {xs : List Value} (h : w.ownsRow B e size v n xs) (hb : Below w.heap.size w w') : w'.ownsRow B e size v n xs := own_later h hb
theorem cmpT_take {l : List (Nat × Nat)} {k : Nat} (h : cmpT l k = l.take k) (hk : k < l.length) (h0 : k = 0 ∨ l[k].1 ≠ (l.getD (k - 1) (0, 0)).1) : cmpT l (k + 1) = l.take (k + 1) := by
  rw [cmpT_new hk h0, h, List.take_succ_eq_append_getElem hk]
set_option maxHeartbeats 8000000 in
set_option maxRecDepth 100000 in
theorem compM_ok (n c B : Nat) (p : Option Addr) (l : List (Nat × Nat)) (w : World) (ho : w.ownsRow B 31 2 (.slice p n c) n (mcs l)) (hB : B ≤ w.heap.size) (hn : n ≤ 5000) :
    Calls Try.prog 14 #[.slice p n c, .func (.func 16) #[] #[]] w fun e w' => e = .returned (.slice p (cmpT l n).length c) ∧ w'.ownsRow B 31 2 (.slice p (cmpT l n).length c) (cmpT l n).length (mcs (cmpT l n)) ∧ Below B w w' := by
  have hln : n = l.length := by have := ho.1; rw [mcs_len] at this; omega
  have HLN := Lib.hid hln
  by_cases h2 : n < 2
  · have e : cmpT l n = l := by
      by_cases h0 : n = 0
      · subst h0
        rw [List.eq_nil_of_length_eq_zero hln.symm]; rfl
      · obtain rfl : n = 1 := by omega
        rw [cmpT_new (k := 0) (by omega) (.inl rfl)]
        rcases l with _ | ⟨a, _ | ⟨b, l⟩⟩
        · simp at hln
        · rfl
        · simp at hln
    rw [e, ← hln]
    have HO := Lib.hid ho
    have hd : decide ((n : Int) < 2) = true := by simp; omega
    have hd' : decide (n < 2) = true := by simp; omega
    clear e hln ho
    go_enter Try.func14, Try.ntmps14
    go_wp2_with fail
    go_ret
    exact ⟨rfl, HO.out, Below.refl _ _⟩
  · obtain ⟨g, rfl, -, hnc, hc63⟩ := own_ptr ho (by omega)
    have HO := Lib.hid ho
    have hgB : B ≤ g := (ho.lt g rfl).1
    have hd : decide ((n : Int) < 2) = false := by simp; omega
    have hd' : decide (n < 2) = false := by simp; omega
    have HFC := Lib.hid (fun x1 x2 y1 y2 W => fclo_cmp x1 x2 y1 y2 W)
    clear hln ho
    go_enter Try.func14, Try.ntmps14
    go_wp2_with fail
    obtain ⟨wo, rfl⟩ : ∃ wo : World, wo = w := ⟨_, rfl⟩
    go_loopg [4, 5, 6, 7] (n - 1) (fun gk v4 v5 v6 v7 wr => ∃ k : Nat, v5 = .int .i64 (k : Int) ∧ k + gk = n ∧ 1 ≤ k ∧ Hid (cmpT l k = l.take k) ∧ Hid (wr.ownsRow B 31 2 (.slice (some ⟨g, 0, none⟩) n c) n (mcs l)) ∧ Below B wo wr ∧ B ≤ wr.heap.size)
    case atStart => exact ⟨1, by go_num, by omega, Nat.le_refl _, Lib.hid (cmpT_take (k := 0) rfl (by have := HLN.out; omega) (.inl rfl)), Lib.hid HO.out, Below.refl _ _, hB⟩
    case round =>
      obtain ⟨k, rfl, hgk, hk1, HT, HR, hb, hsz⟩ := hrel
      have HGK := Lib.hid hgk
      have hk : k ≤ n := by omega
      clear hgk
      by_cases hlt : k < n
      · obtain ⟨j, rfl⟩ : ∃ j, k = j + 1 := ⟨k - 1, by omega⟩
        have hj1 : j + 1 < l.length := by have := HLN.out; omega
        have hj0 : j < l.length := by omega
        obtain ⟨b2, off2, he2, hs0, hs1⟩ := (Sl.of_own HR.out).mail hj1
        cases he2
        obtain ⟨b3, off3, he3, ht0, ht1⟩ := (Sl.of_own HR.out).mail hj0
        cases he3
        have hgd : l.getD (j + 1 - 1) (0, 0) = l[j] := getD_lt hj0
        have HTK := Lib.hid (fun hne : l[j + 1].1 ≠ l[j].1 => cmpT_take HT.out hj1 (.inr (by rw [hgd]; exact hne)))
        have HTO := Lib.hid (fun he : l[j + 1].1 = l[j].1 => cmpT_old hj1 (Nat.succ_pos j) (by rw [hgd]; exact he))
        clear hgd
        generalize l[j + 1] = x at hs0 hs1 HTK HTO
        generalize l[j] = y at ht0 ht1 HTK HTO
        obtain ⟨x1, x2⟩ := x
        obtain ⟨y1, y2⟩ := y
        dsimp only at hs0 hs1 ht0 ht1 HTK HTO
        rw [Nat.zero_add] at hs0 hs1 ht0 ht1
        have hbb : g < wr.heap.size := World.block_lt_of_cell? wr _ hs0
        have hd1 : decide ((j : Int) + 1 < (n : Int)) = true := decide_eq_true (by omega)
        have hw1 : IntKind.i64.wrap ((j : Int) + 1 - 1) = (j : Int) := by rw [Int.add_sub_cancel]; exact IntWalk.i64_in _ (by omega)
        have hw2 : IntKind.i64.wrap (j : Int) = (j : Int) := IntWalk.i64_in _ (by omega)
        have hk0 : (0 : Int) ≤ (j : Int) := by omega
        have hq0 : (0 : Int) ≤ (j : Int) + 1 := by omega
        have hqn : (j : Int) + 1 < (n : Int) := by omega
        have hqt : ((j : Int) + 1).toNat = j + 1 := by omega
        have hkn : (j : Int) < (n : Int) := by omega
        have HFX := Lib.hid (fun W => HFC.out x1 x2 y1 y2 W)
        have hpt : decide (x1 = y1) = true → x1 = y1 := fun h => by simpa using h
        have hpf : decide (x1 = y1) = false → x1 ≠ y1 := fun h => by simpa using h
        have HPT := Lib.hid hpt
        have HPF := Lib.hid hpf
        clear hlt hj1 hj0 hpt hpf
        generalize decide (x1 = y1) = q at *
        go_upto_region 6 with fail
        go_cut [28] (fun s28 wx => s28 = .bool q ∧ Below wr.heap.size wr wx)
        case first =>
          go_region_held3 (fun w' => w'.cell? ⟨g, (j + 1) * 2, none⟩ = some (Value.int .i64 (x1 : Int)) ∧ w'.cell? ⟨g, (j + 1) * 2 + 1, none⟩ = some (Value.int .i64 (x2 : Int)) ∧ w'.cell? ⟨g, j * 2, none⟩ = some (Value.int .i64 (y1 : Int)) ∧ w'.cell? ⟨g, j * 2 + 1, none⟩ = some (Value.int .i64 (y2 : Int)))
            (first | (exact ⟨hy0, hy1, hy2, hy3⟩) | go_keep)
            ((go_at_call 16; refine (HFX.out _).mono ?_; rintro e w3 ⟨rfl, hb3⟩; have hcz := ((Below.refl _ wr).drew).trans hb3; have hy0 := (hcz.cell (p := ⟨g, (j + 1) * 2, none⟩) hbb).trans hs0; have hy1 := (hcz.cell (p := ⟨g, (j + 1) * 2 + 1, none⟩) hbb).trans hs1; have hy2 := (hcz.cell (p := ⟨g, j * 2, none⟩) hbb).trans ht0; have hy3 := (hcz.cell (p := ⟨g, j * 2 + 1, none⟩) hbb).trans ht1))
          go_wp2_with fail
          go_meet
          case rel => exact ⟨rfl, hcz⟩
        case rest =>
        obtain ⟨rfl, hcz⟩ := hcut
        obtain ⟨w3, rfl⟩ : ∃ w3 : World, w3 = wc := ⟨_, rfl⟩
        have HR3 := Lib.hid (own_later HR.out hcz)
        have hb3 := hb.trans (hcz.mono hsz)
        have hsz3 := Nat.le_trans hsz hcz.size
        clear hs0 hs1 ht0 ht1 hbb hw1 hw2 hqt hcz
        rcases q with _ | _
        · go_wp2_with fail
          go_roundg (n - (j + 1 + 1))
          case measure => have := HGK.out; omega
          case rel => exact ⟨j + 1 + 1, by go_num, by omega, by omega, Lib.hid (HTK.out (HPF.out (by first | rfl | trivial))), HR3, hb3, hsz3⟩
        · have HT1 := Lib.hid (show cmpT l (j + 1) = l.take (j + 1) from HT.out)
          have HT2 := Lib.hid (show cmpT l (j + 2) = cmpT l (j + 1) from HTO.out (HPT.out (by first | rfl | trivial)))
          have hjn : j + 1 < n := by omega
          clear HT HTK HTO HPT HPF HR HFX hd1 hqn hkn hk hk1 hb hsz
          have hjn2 : (j : Int) + 1 ≤ (n : Int) := by omega
          have hjc2 : (j : Int) + 1 ≤ (c : Int) := by omega
          have hqt : ((j : Int) + 1).toNat = j + 1 := by omega
          have hcj : ¬ c = j + 1 := by omega
          obtain ⟨m2, hm2⟩ : ∃ m2, n - (j + 1) = m2 := ⟨_, rfl⟩
          obtain ⟨c2, hc2⟩ : ∃ c2, c - (j + 1) = c2 := ⟨_, rfl⟩
          have HM2 := Lib.hid (show n = j + 1 + m2 by omega)
          have HC2 := Lib.hid (show c = j + 1 + c2 by omega)
          go_wp2_with fail
          have HJN := Lib.hid hjn
          clear hm2 hc2 hjn hjn2 hjc2 hqt hcj hk0 hq0
          go_loopg [5, 7] (n - (j + 2)) (fun gk v5 v7 wr => ∃ kk t i : Nat, v5 = .int .i64 (kk : Int) ∧ v7 = .int .i64 (i : Int) ∧ Hid (i + (j + 1) = t) ∧ t + gk = n ∧ 1 ≤ i ∧ Hid (kk = (cmpT l t).length) ∧ kk < t ∧ 1 ≤ kk ∧ Hid (wr.ownsRow B 31 2 (.slice (some ⟨g, 0, none⟩) n c) n (mcs (curL l t))) ∧ Below B wo wr ∧ B ≤ wr.heap.size)
          case atStart =>
            have hjn := HJN.out
            have e1 : (cmpT l (j + 2)).length = j + 1 := by rw [HT2.out, HT1.out, List.length_take]; have := HLN.out; omega
            exact ⟨j + 1, j + 2, 1, by go_num, by go_num, Lib.hid (by omega), by omega, by omega, Lib.hid e1.symm, by omega, by omega, Lib.hid (by unfold curL; rw [e1, HT2.out, HT1.out, List.take_append_drop]; exact HR3.out), hb3, hsz3⟩
          case round =>
            obtain ⟨kk, t, i, rfl, rfl, HTI, hgk, hi1, HKK, hkt, hkk1, HR, hb, hsz⟩ := hrel
            have HGK := Lib.hid hgk
            have hk : t ≤ n := by omega
            have hcl := curL_len (l := l) (t := t) (by have := HLN.out; omega)
            have HCL := Lib.hid hcl
            clear hgk hcl
            by_cases hlt : i < m2
            · obtain ⟨u, rfl⟩ : ∃ u, i = u + 1 := ⟨i - 1, by omega⟩
              have htn : t < n := by have := HTI.out; have := HM2.out; omega
              have htl : t < l.length := by have := HLN.out; omega
              have htl1 : t - 1 < l.length := by omega
              have hte : t = j + 1 + (u + 1) := by have := HTI.out; omega
              have hte1 : t - 1 = j + 1 + u := by omega
              have hcur : ∀ q (h : q < l.length), kk ≤ q → ∃ h' : q < (curL l t).length, (curL l t)[q] = l[q] := fun q h hq => by
                have h1 : q < (curL l t).length := by rw [HCL.out]; exact h
                have h2 := curL_at (l := l) (t := t) (i := q) (by rw [← HKK.out]; exact hq)
                rw [List.getElem?_eq_getElem h, List.getElem?_eq_getElem h1] at h2
                exact ⟨h1, by injection h2⟩
              obtain ⟨ha1, ha2⟩ := hcur t htl (by omega)
              obtain ⟨hb1, hb2⟩ := hcur (t - 1) htl1 (by omega)
              obtain ⟨b2, off2, he2, hs0, hs1⟩ := (Sl.of_own HR.out).mail ha1
              cases he2
              obtain ⟨b3, off3, he3, ht0, ht1⟩ := (Sl.of_own HR.out).mail hb1
              cases he3
              rw [ha2, Nat.zero_add] at hs0 hs1
              rw [hb2, Nat.zero_add] at ht0 ht1
              have hgd : l.getD (t - 1) (0, 0) = l[t - 1] := getD_lt htl1
              have HPU := Lib.hid (fun hne : l[t].1 ≠ l[t - 1].1 => curL_put htl (by rw [← HKK.out]; exact hkt) (by rw [hgd]; exact hne))
              have HNW := Lib.hid (fun hne : l[t].1 ≠ l[t - 1].1 => cmpT_new htl (.inr (by rw [hgd]; exact hne)))
              have HOL := Lib.hid (fun he : l[t].1 = l[t - 1].1 => cmpT_old htl (by omega) (by rw [hgd]; exact he))
              clear hgd hcur ha1 ha2 hb1 hb2
              generalize l[t] = x at hs0 hs1 HPU HNW HOL
              generalize l[t - 1] = y at ht0 ht1 HPU HNW HOL
              obtain ⟨x1, x2⟩ := x
              obtain ⟨y1, y2⟩ := y
              dsimp only at hs0 hs1 ht0 ht1 HPU HNW HOL
              rw [hte, Nat.add_mul (j + 1) (u + 1) 2] at hs0 hs1
              rw [hte1, Nat.add_mul (j + 1) u 2] at ht0 ht1
              have hbb : g < wr.heap.size := World.block_lt_of_cell? wr _ hs0
              have hd1 : decide ((u : Int) + 1 < (m2 : Int)) = true := decide_eq_true (by omega)
              have hw1 : IntKind.i64.wrap ((u : Int) + 1 - 1) = (u : Int) := by rw [Int.add_sub_cancel]; exact IntWalk.i64_in _ (by omega)
              have hw2 : IntKind.i64.wrap (u : Int) = (u : Int) := IntWalk.i64_in _ (by omega)
              have hk0 : (0 : Int) ≤ (u : Int) := by omega
              have hq0 : (0 : Int) ≤ (u : Int) + 1 := by omega
              have hqn : (u : Int) + 1 < (m2 : Int) := by omega
              have hqt : ((u : Int) + 1).toNat = u + 1 := by omega
              have hkn : (u : Int) < (m2 : Int) := by omega
              have HFX := Lib.hid (fun W => HFC.out x1 x2 y1 y2 W)
              have hpt : decide (x1 = y1) = true → x1 = y1 := fun h => by simpa using h
              have hpf : decide (x1 = y1) = false → x1 ≠ y1 := fun h => by simpa using h
              have HPT2 := Lib.hid hpt
              have HPF2 := Lib.hid hpf
              have hkn2 : (kk : Int) < (n : Int) := by omega
              have hkk0 : (0 : Int) ≤ (kk : Int) := by omega
              have HTE := Lib.hid hte
              have hm25 : m2 ≤ 5000 := by have := HM2.out; omega
              clear hlt hpt hpf hte hte1 htl htl1
              generalize decide (x1 = y1) = q at *
              go_upto_region 11 with fail
              go_cut [42, 49] (fun s42 s49 wx => s42 = .agg #[.int .i64 (x1 : Int), .int .i64 (x2 : Int)] ∧ s49 = .bool (!q) ∧ Below wr.heap.size wr wx)
              case first =>
                go_region_held3 (fun w' => w'.cell? ⟨g, (j + 1) * 2 + (u + 1) * 2, none⟩ = some (Value.int .i64 (x1 : Int)) ∧ w'.cell? ⟨g, (j + 1) * 2 + (u + 1) * 2 + 1, none⟩ = some (Value.int .i64 (x2 : Int)) ∧ w'.cell? ⟨g, (j + 1) * 2 + u * 2, none⟩ = some (Value.int .i64 (y1 : Int)) ∧ w'.cell? ⟨g, (j + 1) * 2 + u * 2 + 1, none⟩ = some (Value.int .i64 (y2 : Int)))
                  (first | (exact ⟨hy0, hy1, hy2, hy3⟩) | go_keep)
                  ((go_at_call 16; refine (HFX.out _).mono ?_; rintro e w3 ⟨rfl, hb3⟩; have hcz := ((Below.refl _ wr).drew).trans hb3; have hy0 := (hcz.cell (p := ⟨g, (j + 1) * 2 + (u + 1) * 2, none⟩) hbb).trans hs0; have hy1 := (hcz.cell (p := ⟨g, (j + 1) * 2 + (u + 1) * 2 + 1, none⟩) hbb).trans hs1; have hy2 := (hcz.cell (p := ⟨g, (j + 1) * 2 + u * 2, none⟩) hbb).trans ht0; have hy3 := (hcz.cell (p := ⟨g, (j + 1) * 2 + u * 2 + 1, none⟩) hbb).trans ht1))
                all_goals go_wp2_with fail
                all_goals go_meet
                all_goals exact ⟨rfl, rfl, hcz⟩
              case rest =>
              obtain ⟨rfl, rfl, hcz⟩ := hcut
              obtain ⟨w4, rfl⟩ : ∃ w4 : World, w4 = wc := ⟨_, rfl⟩
              have HR4 := Lib.hid (own_later HR.out hcz)
              have hb4 := hb.trans (hcz.mono hsz)
              have hsz4 := Nat.le_trans hsz hcz.size
              have hs0' := (hcz.cell (p := ⟨g, (j + 1) * 2 + (u + 1) * 2, none⟩) hbb).trans hs0
              have hs1' := (hcz.cell (p := ⟨g, (j + 1) * 2 + (u + 1) * 2 + 1, none⟩) hbb).trans hs1
              clear hs0 hs1 ht0 ht1 hcz
              rcases q with _ | _
              · have hkl : kk * 2 + 1 < (mcs (curL l t)).length := by rw [mcs_len, HCL.out]; have := HLN.out; omega
                have d0 := HR4.out.cellAt (kk * 2) (by omega)
                have d1 := HR4.out.cellAt (kk * 2 + 1) (by omega)
                rw [List.getElem?_eq_getElem (by omega)] at d0
                rw [List.getElem?_eq_getElem hkl] at d1
                have e0 : ∃ u, w4.cell? ⟨g, kk * 2, none⟩ = some u := ⟨_, d0⟩
                have e1 : ∃ u, w4.cell? ⟨g, kk * 2 + 1, none⟩ = some u := ⟨_, d1⟩
                clear d0 d1
                obtain ⟨u0, d0⟩ := e0
                obtain ⟨u1, d1⟩ := e1
                have f0 := HR4.out.frozenAt (kk * 2)
                have f1 := HR4.out.frozenAt (kk * 2 + 1)
                have hst := ((HR4.out.stored (kk * 2) (.int .i64 (x1 : Int))).1.stored (kk * 2 + 1) (.int .i64 (x2 : Int))).1
                rw [mcs_put (curL l t) kk (x1, x2)] at hst
                have hpu := HPU.out (HPF2.out (by first | rfl | trivial))
                rw [← HKK.out] at hpu
                rw [hpu] at hst
                have HST := Lib.hid hst
                have hnw := congrArg List.length (HNW.out (HPF2.out (by first | rfl | trivial)))
                rw [List.length_append, ← HKK.out] at hnw
                have HNL := Lib.hid (show kk + 1 = (cmpT l (t + 1)).length from hnw.symm)
                have hb5 := Lib.hid (show Below B wo ((w4.setCell ⟨g, kk * 2, none⟩ (.int .i64 (x1 : Int))).setCell ⟨g, kk * 2 + 1, none⟩ (.int .i64 (x2 : Int))) from (hb4.setCell hgB _).setCell hgB _)
                have hwk : IntKind.i64.wrap ((kk : Int) + 1) = (kk : Int) + 1 := IntWalk.i64_in _ (by omega)
                clear hst hpu hnw hkl HR4
                go_wp2_with fail
                go_roundg (n - (t + 1))
                case measure => have := HGK.out; omega
                case rel => exact ⟨kk + 1, t + 1, u + 1 + 1, by go_num, by go_num, Lib.hid (by have := HTE.out; omega), by omega, by omega, HNL, by omega, by omega, HST, hb5.out, Nat.le_trans hsz4 (by simp)⟩
              · have hol := HOL.out (HPT2.out (by first | rfl | trivial))
                have HOE := Lib.hid hol
                clear hol
                go_wp2_with fail
                go_roundg (n - (t + 1))
                case measure => have := HGK.out; omega
                case rel => exact ⟨kk, t + 1, u + 1 + 1, rfl, by go_num, Lib.hid (by have := HTE.out; omega), by omega, by omega, Lib.hid (by rw [HOE.out]; exact HKK.out), by omega, hkk1, Lib.hid (by unfold curL; rw [HOE.out]; exact HR4.out), hb4, hsz4⟩
            · have hit : i = m2 := by have := HTI.out; have := HM2.out; omega
              subst hit
              obtain rfl : n = t := by have := HTI.out; have := HM2.out; omega
              have hd1 : decide ((i : Int) < (i : Int)) = false := by simp
              have hd2 : decide (i < i) = false := by simp
              have hcut := own_setCells (zer2 (n - kk)) (kk * 2) HR.out
              have hkn1 : (kk : Int) ≤ (n : Int) := by omega
              have hkc1 : (kk : Int) ≤ (c : Int) := by omega
              have hkk0 : (0 : Int) ≤ (kk : Int) := by omega
              have hck : ¬ c = kk := by omega
              have hclr := run_clear2 wr g (kk * 2) (n - kk) (c - kk) (by omega) (fun q hq => by
                rw [HR.out.cellAt (kk * 2 + q) (by omega), List.getElem?_eq_getElem (by rw [mcs_len, HCL.out]; have := HLN.out; omega)]; rfl) (fun q hq => HR.out.frozenAt _) 0
              have HCUT := Lib.hid hcut
              clear hcut hlt
              go_wp2_with fail
              go_ret
              refine ⟨by rw [← HKK.out]; rfl, ?_, hb.grown HCUT.out.2 hsz (fun k hk => by cases hk; exact hgB)⟩
              have h := own_cut HCUT.out.1 (m := kk) (by omega)
              rw [setL_take _ _ _ _ (Nat.le_refl _)] at h
              have e : (mcs (curL l n)).take (kk * 2) = mcs (cmpT l n) := by
                unfold curL
                rw [mcs_append, List.take_left' (by rw [mcs_len, ← HKK.out])]
              rw [e] at h
              rw [← HKK.out]
              exact h
      · obtain rfl : n = k := by omega
        have hd1 : decide ((n : Int) < (n : Int)) = false := by simp
        have hd2 : decide (n < n) = false := by simp
        have e : cmpT l n = l := by rw [HT.out, List.take_of_length_le (by have := HLN.out; omega)]
        have HE := Lib.hid e
        clear e hlt
        go_wp2_with fail
        go_ret
        exact ⟨by rw [HE.out, ← HLN.out]; rfl, by rw [HE.out, ← HLN.out]; exact HR.out, hb⟩
end Go.Proofs.Ytfecpifhfihikaa
