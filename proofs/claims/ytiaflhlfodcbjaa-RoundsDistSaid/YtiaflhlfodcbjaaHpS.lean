/- The walks of container/heap over paths.spots: whatever the state, as its methods say. -/
import Derived.Test.YtiaflhlfodcbjaaBoxed
import Derived.Test.YtiaflhlfodcbjaaPHeap
import Derived.Deep.LoopGhost
import Derived.Deep.DeepCutAuto
import Derived.IntWalk
namespace Go.Proofs.Ytiaflhlfodcbjaa
open Go.RowKit
theorem mLen (g : Nat) (sv : Value) (hsv : ∃ p n c, sv = .slice p n c) (fuel : Nat) (W : World) (h : W.cell? ⟨g, 0, none⟩ = some sv) : (method (fuel + 1) 91 (.pointer (some ⟨g, 0, none⟩)) "Len").run Try.prog W = .ok (107, sv) W := by
  have e : (method (fuel + 1) 91 (.pointer (some ⟨g, 0, none⟩)) "Len").run Try.prog W = (loadVar 89 ⟨g, 0, none⟩ >>= fun v => pure (107, v)).run Try.prog W := by kernel_rfl
  rw [e]
  obtain ⟨p, n, c, rfl⟩ := hsv
  simp [go_sem, h]
theorem mLess (g : Nat) (sv : Value) (hsv : ∃ p n c, sv = .slice p n c) (fuel : Nat) (W : World) (h : W.cell? ⟨g, 0, none⟩ = some sv) : (method (fuel + 1) 91 (.pointer (some ⟨g, 0, none⟩)) "Less").run Try.prog W = .ok (108, sv) W := by
  have e : (method (fuel + 1) 91 (.pointer (some ⟨g, 0, none⟩)) "Less").run Try.prog W = (loadVar 89 ⟨g, 0, none⟩ >>= fun v => pure (108, v)).run Try.prog W := by kernel_rfl
  rw [e]
  obtain ⟨p, n, c, rfl⟩ := hsv
  simp [go_sem, h]
theorem mSwap (g : Nat) (sv : Value) (hsv : ∃ p n c, sv = .slice p n c) (fuel : Nat) (W : World) (h : W.cell? ⟨g, 0, none⟩ = some sv) : (method (fuel + 1) 91 (.pointer (some ⟨g, 0, none⟩)) "Swap").run Try.prog W = .ok (109, sv) W := by
  have e : (method (fuel + 1) 91 (.pointer (some ⟨g, 0, none⟩)) "Swap").run Try.prog W = (loadVar 89 ⟨g, 0, none⟩ >>= fun v => pure (109, v)).run Try.prog W := by kernel_rfl
  rw [e]
  obtain ⟨p, n, c, rfl⟩ := hsv
  simp [go_sem, h]
section
variable {α : Type} {HS : World → List α → Prop} {lt : α → α → Bool} {le : α → α → Prop} {V : α → Value} {B g : Nat} {sv : Value}
/-- what the methods say while the slice at g is sv -/
structure HeapS (HS : World → List α → Prop) (lt : α → α → Bool) (le : α → α → Prop) (B g : Nat) (sv : Value) : Prop where
  cell : ∀ (W : World) (l : List α), HS W l → W.cell? ⟨g, 0, none⟩ = some sv
  shape : ∃ p n c, sv = .slice p n c
  less : ∀ (W : World) (l : List α) (i j : Nat) (a b : α), HS W l → l[i]? = some a → l[j]? = some b → Calls Try.prog 108 #[sv, .int .i64 (i : Int), .int .i64 (j : Int)] W fun e w' => e = .returned (.bool (lt a b)) ∧ HS w' l ∧ Below B W w'
  swap : ∀ (W : World) (l : List α) (i j : Nat) (a b : α), HS W l → l[i]? = some a → l[j]? = some b → Calls Try.prog 109 #[sv, .int .i64 (i : Int), .int .i64 (j : Int)] W fun e w' => e = .returned (.tuple #[]) ∧ HS w' (swp l i j a b) ∧ Below B W w'
  lt1 : ∀ a b, lt a b = true → le a b
  lt0 : ∀ a b, lt a b = false → le b a
  tr : ∀ a b c, le a b → le b c → le a c
  rf : ∀ a, le a a
set_option maxHeartbeats 4000000 in
set_option maxRecDepth 100000 in
theorem upS (H : HeapS HS lt le B g sv) (l : List α) (j : Nat) (w : World) (hs : HS w l) (hu : UpI le l j) (hj : j < l.length) (hl : l.length ≤ 100000) :
    Calls Try.prog 52 #[.iface 91 (.pointer (some ⟨g, 0, none⟩)), .int .i64 (j : Int)] w fun e w' => e = .returned (.tuple #[]) ∧ ∃ l', HS w' l' ∧ Hp le l' ∧ l'.Perm l ∧ Below B w w' := by
  have HH := Lib.hid H
  have HS0 := Lib.hid hs
  have HU0 := Lib.hid hu
  obtain ⟨n, hn⟩ : ∃ n, n = l.length := ⟨_, rfl⟩
  have HN := Lib.hid hn
  rw [← hn] at hj hl
  clear H hs hu hn
  have hnL : ∀ (fuel : Nat) (W : World), W.cell? ⟨g, 0, none⟩ = some sv → (method (fuel + 1) 91 (.pointer (some ⟨g, 0, none⟩)) "Less").run Try.prog W = .ok (108, sv) W := fun fuel W h => mLess g sv HH.out.shape fuel W h
  have hnS : ∀ (fuel : Nat) (W : World), W.cell? ⟨g, 0, none⟩ = some sv → (method (fuel + 1) 91 (.pointer (some ⟨g, 0, none⟩)) "Swap").run Try.prog W = .ok (109, sv) W := fun fuel W h => mSwap g sv HH.out.shape fuel W h
  go_enter Try.func52, Try.ntmps52
  go_wp2_with fail
  go_loopg [1, 4] (j + 1) (fun gk v1 v4 wr => ∃ (k : Nat) (l' : List α), v1 = .int .i64 (k : Int) ∧ Hid (gk = k + 1) ∧ k ≤ j ∧ Hid (HS wr l') ∧ Hid (UpI le l' k) ∧ Hid (l'.Perm l) ∧ Below B w wr)
  case atStart => exact ⟨j, l, rfl, Lib.hid rfl, Nat.le_refl _, HS0, HU0, Lib.hid (List.Perm.refl l), Below.refl _ _⟩
  case round =>
    obtain ⟨k, l', rfl, HGK, hkj, HSR, HUR, HP, hb⟩ := hrel
    have hlen : l'.length = n := by rw [HP.out.length_eq]; exact HN.out.symm
    have HLN := Lib.hid hlen
    have hc := HH.out.cell _ _ HSR.out
    clear hlen
    by_cases h0 : k = 0
    · subst h0
      have e1 : IntKind.i64.wrap (((0 : Nat) : Int) - 1) = -1 := by decide
      have e2 : IntKind.i64.wrap ((-1 : Int).tdiv 2) = 0 := by decide
      have e3 : (-1 : Int).tdiv 2 = 0 := by decide
      go_wp2_with fail
      go_end0
      exact ⟨rfl, l', HSR.out, HUR.out.done0, HP.out, hb⟩
    · obtain ⟨u, rfl⟩ : ∃ u, k = u + 1 := ⟨k - 1, by omega⟩
      obtain ⟨i, hi⟩ : ∃ i, i = u / 2 := ⟨_, rfl⟩
      have hiu : i ≤ u := by omega
      have hdv : (u : Int) / 2 = (i : Int) := by rw [hi]; push_cast; rfl
      have hw1 : IntKind.i64.wrap ((u : Int) + 1 - 1) = (u : Int) := by rw [Int.add_sub_cancel]; exact IntWalk.i64_in _ (by omega)
      have hw2 : IntKind.i64.wrap (i : Int) = (i : Int) := IntWalk.i64_in _ (by omega)
      have hne : ((i : Int) == (u : Int) + 1) = false := by simp; omega
      have hul : u + 1 < l'.length := by have := HLN.out; omega
      have hil : i < l'.length := by omega
      obtain ⟨a, ha⟩ : ∃ a, l'[i]? = some a := ⟨_, List.getElem?_eq_getElem hil⟩
      obtain ⟨b, hb'⟩ : ∃ b, l'[u + 1]? = some b := ⟨_, List.getElem?_eq_getElem hul⟩
      have HLE := Lib.hid (fun (W : World) (h : HS W l') => (show Calls Try.prog 108 #[sv, .int .i64 ((u : Int) + 1), .int .i64 (i : Int)] W fun e w' => e = .returned (.bool (lt b a)) ∧ HS w' l' ∧ Below B W w' from HH.out.less W l' (u + 1) i b a h hb' ha))
      have HSW := Lib.hid (fun (W : World) (h : HS W l') => (show Calls Try.prog 109 #[sv, .int .i64 (i : Int), .int .i64 ((u : Int) + 1)] W fun e w' => e = .returned (.tuple #[]) ∧ HS w' (swp l' i (u + 1) a b) ∧ Below B W w' from HH.out.swap W l' i (u + 1) a b h ha hb'))
      have HA := Lib.hid ha
      have HB' := Lib.hid hb'
      have HI := Lib.hid hi
      clear ha hb' hi h0 hul hil
      go_upto_region 1 with fail
      by_cases hlt : lt b a = true
      · rw [hlt] at HLE
        go_wp2_with (first
          | (go_at_call 108; refine (HLE.out _ HSR.out).mono ?_; rintro e w2 ⟨rfl, hs2, hb2⟩; have HS2 := Lib.hid hs2; clear hs2; have hc2 := HH.out.cell _ _ HS2.out)
          | (go_at_call 109; refine (HSW.out _ HS2.out).mono ?_; rintro e w3 ⟨rfl, hs3, hb3⟩; have HS3 := Lib.hid hs3; clear hs3))
        have hp := swp_perm HA.out HB'.out
        have hst := HUR.out.step HH.out.tr (by omega) (by rw [Nat.add_sub_cancel, ← HI.out]; exact HA.out) HB'.out (HH.out.lt1 b a hlt)
        rw [Nat.add_sub_cancel, ← HI.out] at hst
        have hbb := (hb.trans hb2).trans hb3
        go_roundg (i + 1)
        case measure => have := HGK.out; omega
        case rel => exact ⟨i, _, rfl, Lib.hid rfl, by omega, HS3, Lib.hid hst, Lib.hid (hp.trans HP.out), hbb⟩
      · have hlt' : lt b a = false := by simpa using hlt
        rw [hlt'] at HLE
        clear hlt
        go_wp2_with (go_at_call 108; refine (HLE.out _ HSR.out).mono ?_; rintro e w2 ⟨rfl, hs2, hb2⟩; have HS2 := Lib.hid hs2; clear hs2; have hc2 := HH.out.cell _ _ HS2.out)
        go_end0
        exact ⟨rfl, l', HS2.out, HUR.out.done (by rw [Nat.add_sub_cancel, ← HI.out]; exact HA.out) HB'.out (HH.out.lt0 b a hlt'), HP.out, hb.trans hb2⟩
set_option maxHeartbeats 4000000 in
set_option maxRecDepth 100000 in
theorem downS (H : HeapS HS lt le B g sv) (l : List α) (n : Nat) (w : World) (hs : HS w l) (hd : DnI le l n 0) (hn : l.length = n + 1) (hl : n ≤ 100000) :
    Calls Try.prog 51 #[.iface 91 (.pointer (some ⟨g, 0, none⟩)), .int .i64 0, .int .i64 (n : Int)] w fun e w' => (∃ b, e = .returned (.bool b)) ∧ ∃ l', HS w' l' ∧ Hp le (l'.take n) ∧ l'.Perm l ∧ l'[n]? = l[n]? ∧ Below B w w' := by
  have HH := Lib.hid H
  have HS0 := Lib.hid hs
  have HD0 := Lib.hid hd
  have HN := Lib.hid hn
  clear H hs hd hn
  have hnL : ∀ (fuel : Nat) (W : World), W.cell? ⟨g, 0, none⟩ = some sv → (method (fuel + 1) 91 (.pointer (some ⟨g, 0, none⟩)) "Less").run Try.prog W = .ok (108, sv) W := fun fuel W h => mLess g sv HH.out.shape fuel W h
  have hnS : ∀ (fuel : Nat) (W : World), W.cell? ⟨g, 0, none⟩ = some sv → (method (fuel + 1) 91 (.pointer (some ⟨g, 0, none⟩)) "Swap").run Try.prog W = .ok (109, sv) W := fun fuel W h => mSwap g sv HH.out.shape fuel W h
  go_enter Try.func51, Try.ntmps51
  go_wp2_with fail
  go_loopg [7, 8, 9, 10] (n + 1) (fun gk v7 v8 v9 v10 wr => ∃ (i : Nat) (l' : List α), v7 = .int .i64 (i : Int) ∧ i ≤ n ∧ i + gk = n + 1 ∧ Hid (HS wr l') ∧ Hid (DnI le l' n i) ∧ Hid (l'.Perm l) ∧ Hid (l'[n]? = l[n]?) ∧ Below B w wr)
  case atStart => exact ⟨0, l, by rfl, Nat.zero_le _, by omega, HS0, HD0, Lib.hid (List.Perm.refl l), Lib.hid rfl, Below.refl _ _⟩
  case round =>
    obtain ⟨i, l', rfl, hin, hgk, HSR, HDR, HP, HLA, hb⟩ := hrel
    have HGK := Lib.hid hgk
    clear hgk
    have hlen : l'.length = n + 1 := by rw [HP.out.length_eq]; exact HN.out
    have HLN := Lib.hid hlen
    have hc := HH.out.cell _ _ HSR.out
    have hil : i < l'.length := by omega
    obtain ⟨a, ha⟩ : ∃ a, l'[i]? = some a := ⟨_, List.getElem?_eq_getElem hil⟩
    have HA := Lib.hid ha
    clear hlen ha hil
    have hw0 : IntKind.i64.wrap (2 * (i : Int)) = 2 * (i : Int) := IntWalk.i64_in _ (by omega)
    have hw1 : IntKind.i64.wrap (2 * (i : Int) + 1) = 2 * (i : Int) + 1 := IntWalk.i64_in _ (by omega)
    have hneg : decide (2 * (i : Int) + 1 < 0) = false := by simp; omega
    by_cases hj : n ≤ 2 * i + 1
    · have hd1 : decide ((n : Int) ≤ 2 * (i : Int) + 1) = true := by simp; omega
      have hdn := HDR.out.done HA.out (fun k y h0 hk hp _ => by omega)
      have HDN := Lib.hid hdn
      clear hdn hj
      go_wp2_with fail
      go_ret
      exact ⟨⟨_, rfl⟩, l', HSR.out, HDN.out, HP.out, HLA.out, hb⟩
    · have hd1 : decide ((n : Int) ≤ 2 * (i : Int) + 1) = false := by simp; omega
      have hj1l : 2 * i + 1 < l'.length := by have := HLN.out; omega
      obtain ⟨b1, hb1⟩ : ∃ b, l'[2 * i + 1]? = some b := ⟨_, List.getElem?_eq_getElem hj1l⟩
      have HB1 := Lib.hid hb1
      have hw2 : IntKind.i64.wrap (2 * (i : Int) + 1 + 1) = 2 * (i : Int) + 1 + 1 := IntWalk.i64_in _ (by omega)
      clear hb1 hj1l
      go_upto_region 6 with fail
      go_cut [33] (fun s33 wx => ∃ (c : Bool) (b : α), s33 = .bool c ∧ Hid (if c = true then (2 * i + 2 < n ∧ l'[2 * i + 2]? = some b) else l'[2 * i + 1]? = some b) ∧ Hid (∀ k y, 0 < k → k < n → (k - 1) / 2 = i → l'[k]? = some y → le b y) ∧ Hid (HS wx l') ∧ Below B w wx)
      case first =>
        by_cases hj2 : 2 * i + 2 < n
        · have hj2l : 2 * i + 2 < l'.length := by have := HLN.out; omega
          obtain ⟨b2, hb2⟩ : ∃ b, l'[2 * i + 2]? = some b := ⟨_, List.getElem?_eq_getElem hj2l⟩
          have HB2 := Lib.hid hb2
          clear hb2 hj2l
          have hd2 : decide (2 * (i : Int) + 1 + 1 < (n : Int)) = true := decide_eq_true (by omega)
          have HLE := Lib.hid (fun (W : World) (h : HS W l') => (show Calls Try.prog 108 #[sv, .int .i64 (2 * (i : Int) + 1 + 1), .int .i64 (2 * (i : Int) + 1)] W fun e w' => e = .returned (.bool (lt b2 b1)) ∧ HS w' l' ∧ Below B W w' from by
            have := HH.out.less W l' (2 * i + 2) (2 * i + 1) b2 b1 h HB2.out HB1.out
            rw [show ((2 * i + 2 : Nat) : Int) = 2 * (i : Int) + 1 + 1 by omega, show ((2 * i + 1 : Nat) : Int) = 2 * (i : Int) + 1 by omega] at this
            exact this))
          have hch : ∀ k, 0 < k → k < n → (k - 1) / 2 = i → k = 2 * i + 1 ∨ k = 2 * i + 2 := fun k h0 hk hp => by omega
          have HCH := Lib.hid hch
          have HJ2 := Lib.hid hj2
          clear hch hj2
          by_cases hlt : lt b2 b1 = true
          · rw [hlt] at HLE
            have HMN := Lib.hid (show ∀ k y, 0 < k → k < n → (k - 1) / 2 = i → l'[k]? = some y → le b2 y from fun k y h0 hk hp hy => by
              rcases HCH.out k h0 hk hp with rfl | rfl
              · rw [HB1.out] at hy; cases hy; exact HH.out.lt1 _ _ hlt
              · rw [HB2.out] at hy; cases hy; exact HH.out.rf _)
            clear hlt
            go_wp2_with (go_at_call 108; refine (HLE.out _ HSR.out).mono ?_; rintro e w2 ⟨rfl, hs2, hb2⟩; have HS2 := Lib.hid hs2; clear hs2; have hc2 := HH.out.cell _ _ HS2.out)
            go_meet
            case rel => exact ⟨true, b2, rfl, Lib.hid (by rw [if_pos rfl]; exact ⟨HJ2.out, HB2.out⟩), HMN, HS2, hb.trans hb2⟩
          · have hlt' : lt b2 b1 = false := by simpa using hlt
            rw [hlt'] at HLE
            have HMN := Lib.hid (show ∀ k y, 0 < k → k < n → (k - 1) / 2 = i → l'[k]? = some y → le b1 y from fun k y h0 hk hp hy => by
              rcases HCH.out k h0 hk hp with rfl | rfl
              · rw [HB1.out] at hy; cases hy; exact HH.out.rf _
              · rw [HB2.out] at hy; cases hy; exact HH.out.lt0 _ _ hlt')
            clear hlt hlt'
            go_wp2_with (go_at_call 108; refine (HLE.out _ HSR.out).mono ?_; rintro e w2 ⟨rfl, hs2, hb2⟩; have HS2 := Lib.hid hs2; clear hs2; have hc2 := HH.out.cell _ _ HS2.out)
            go_meet
            case rel => exact ⟨false, b1, rfl, Lib.hid (by rw [if_neg (by simp)]; exact HB1.out), HMN, HS2, hb.trans hb2⟩
        · have hd2 : decide (2 * (i : Int) + 1 + 1 < (n : Int)) = false := decide_eq_false (by omega)
          have HMN := Lib.hid (show ∀ k y, 0 < k → k < n → (k - 1) / 2 = i → l'[k]? = some y → le b1 y from fun k y h0 hk hp hy => by
            obtain rfl : k = 2 * i + 1 := by omega
            rw [HB1.out] at hy; cases hy; exact HH.out.rf _)
          go_wp2_with fail
          go_meet
          case rel => exact ⟨false, b1, rfl, Lib.hid (by rw [if_neg (by simp)]; exact HB1.out), HMN, HSR, hb⟩
      case rest =>
      obtain ⟨c, b, rfl, HC, HMN, HS1, hb1⟩ := hcut
      obtain ⟨w1, rfl⟩ : ∃ w1 : World, w1 = wc := ⟨_, rfl⟩
      have HJ := Lib.hid hj
      clear hj
      go_upto_if 33 with fail
      go_cut [9] (fun s9 wx => ∃ (j : Nat) (b : α), s9 = .int .i64 (j : Int) ∧ j < n ∧ 0 < j ∧ (j - 1) / 2 = i ∧ Hid (l'[j]? = some b) ∧ Hid (∀ k y, 0 < k → k < n → (k - 1) / 2 = i → l'[k]? = some y → le b y) ∧ Hid (HS wx l') ∧ Below B w wx)
      case first =>
        rcases c with _ | _
        · go_wp2_with fail
          go_meet
          case rel => exact ⟨2 * i + 1, b, by go_num, by have := HJ.out; omega, by omega, by omega, Lib.hid (by have := HC.out; rwa [if_neg (by simp)] at this), HMN, HS1, hb1⟩
        · have hcc := Lib.hid (show 2 * i + 2 < n ∧ l'[2 * i + 2]? = some b by have := HC.out; rwa [if_pos rfl] at this)
          go_wp2_with fail
          go_meet
          case rel => exact ⟨2 * i + 2, b, by go_num, hcc.out.1, by omega, by omega, Lib.hid hcc.out.2, HMN, HS1, hb1⟩
      case rest =>
      obtain ⟨j, b, rfl, hjn, hj0, hji, HBJ, HMN, HS2, hb2⟩ := hcut
      obtain ⟨w2, rfl⟩ : ∃ w2 : World, w2 = wc := ⟨_, rfl⟩
      have HJI := Lib.hid hji
      have hc2 := HH.out.cell _ _ HS2.out
      clear hc
      have HLE := Lib.hid (fun (W : World) (h : HS W l') => HH.out.less W l' j i b a h HBJ.out HA.out)
      have HSW := Lib.hid (fun (W : World) (h : HS W l') => HH.out.swap W l' i j a b h HA.out HBJ.out)
      clear hji hw0 hw1 hneg hd1 hw2
      by_cases hlt : lt b a = true
      · rw [hlt] at HLE
        go_wp2_with (first
          | (go_at_call 108; refine (HLE.out _ HS2.out).mono ?_; rintro e w3 ⟨rfl, hs3, hb3⟩; have HS3 := Lib.hid hs3; clear hs3; have hc3 := HH.out.cell _ _ HS3.out)
          | (go_at_call 109; refine (HSW.out _ HS3.out).mono ?_; rintro e w4 ⟨rfl, hs4, hb4⟩; have HS4 := Lib.hid hs4; clear hs4))
        have hp := swp_perm HA.out HBJ.out
        have hst := HDR.out.step hj0 hjn HJI.out HA.out HBJ.out (HH.out.lt1 b a hlt) HMN.out
        have hla : (swp l' i j a b)[n]? = l[n]? := by rw [swp_get HA.out HBJ.out, if_neg (by have := HJI.out; omega), if_neg (by omega)]; exact HLA.out
        have hij : i < j := by have := HJI.out; omega
        go_roundg (n + 1 - j)
        case measure => have := HGK.out; omega
        case rel => exact ⟨j, _, rfl, by omega, by omega, HS4, Lib.hid hst, Lib.hid (hp.trans HP.out), Lib.hid hla, (hb2.trans hb3).trans hb4⟩
      · have hlt' : lt b a = false := by simpa using hlt
        rw [hlt'] at HLE
        have hdn := HDR.out.done HA.out (fun k y h0 hk hp hy => HH.out.tr _ _ _ (HH.out.lt0 b a hlt') (HMN.out k y h0 hk hp hy))
        have HDN := Lib.hid hdn
        clear hlt hlt' hdn
        go_wp2_with (go_at_call 108; refine (HLE.out _ HS2.out).mono ?_; rintro e w3 ⟨rfl, hs3, hb3⟩; have HS3 := Lib.hid hs3; clear hs3; have hc3 := HH.out.cell _ _ HS3.out)
        go_ret
        exact ⟨⟨_, rfl⟩, l', HS3.out, HDN.out, HP.out, HLA.out, hb2.trans hb3⟩
/-- what the methods say, whatever the slice at g -/
structure HeapP (HS : World → List α → Prop) (lt : α → α → Bool) (le : α → α → Prop) (V : α → Value) (B g : Nat) : Prop where
  cell : ∀ (W : World) (l : List α), HS W l → ∃ p n c, W.cell? ⟨g, 0, none⟩ = some (.slice p n c)
  fixed : ∀ sv, (∃ p n c, sv = .slice p n c) → HeapS (fun W l => HS W l ∧ W.cell? ⟨g, 0, none⟩ = some sv) lt le B g sv
  len : ∀ (W : World) (l : List α) (sv : Value), HS W l → W.cell? ⟨g, 0, none⟩ = some sv → Calls Try.prog 107 #[sv] W fun e w' => e = .returned (.int .i64 (l.length : Int)) ∧ W = w'
  push : ∀ (W : World) (l : List α) (a : α), HS W l → l.length < 90000 → Calls Try.prog 111 #[.pointer (some ⟨g, 0, none⟩), V a] W fun e w' => e = .returned (.tuple #[]) ∧ HS w' (l ++ [a]) ∧ Below B W w'
  pop : ∀ (W : World) (l : List α) (a : α), HS W (l ++ [a]) → Calls Try.prog 110 #[.pointer (some ⟨g, 0, none⟩)] W fun e w' => e = .returned (V a) ∧ HS w' l ∧ Below B W w'
  lt1 : ∀ a b, lt a b = true → le a b
  lt0 : ∀ a b, lt a b = false → le b a
  tr : ∀ a b c, le a b → le b c → le a c
  rf : ∀ a, le a a
set_option maxHeartbeats 4000000 in
set_option maxRecDepth 100000 in
theorem hpushS (H : HeapP HS lt le V B g) (l : List α) (a : α) (w : World) (hs : HS w l) (hp : Hp le l) (hl : l.length < 90000) :
    Calls Try.prog 41 #[.iface 91 (.pointer (some ⟨g, 0, none⟩)), V a] w fun e w' => e = .returned (.tuple #[]) ∧ ∃ l', HS w' l' ∧ Hp le l' ∧ l'.Perm (l ++ [a]) ∧ Below B w w' := by
  have HPU := Lib.hid (H.push w l a hs hl)
  have hll : (l ++ [a]).length = l.length + 1 := by simp
  have HLE := Lib.hid (fun (W : World) (sv : Value) (h : HS W (l ++ [a])) (h2 : W.cell? ⟨g, 0, none⟩ = some sv) => H.len W _ sv h h2)
  rw [hll] at HLE
  have HC := Lib.hid H.cell
  have HUP := Lib.hid (fun (W : World) (p : Option Addr) (n c : Nat) (h : HS W (l ++ [a])) (h2 : W.cell? ⟨g, 0, none⟩ = some (.slice p n c)) => upS (H.fixed _ ⟨p, n, c, rfl⟩) (l ++ [a]) l.length W ⟨h, h2⟩ (hp.up a) (by omega) (by omega))
  obtain ⟨n, hn⟩ : ∃ n, n = l.length := ⟨_, rfl⟩
  rw [← hn] at HLE HUP hl
  generalize V a = v at *
  have hw1 : IntKind.i64.wrap (((n + 1 : Nat) : Int) - 1) = (n : Int) := by rw [show ((n + 1 : Nat) : Int) - 1 = (n : Int) by omega]; exact IntWalk.i64_in _ (by omega)
  have hw2 : IntKind.i64.wrap ((n : Int) + 1 - 1) = (n : Int) := by rw [Int.add_sub_cancel]; exact IntWalk.i64_in _ (by omega)
  clear hll hn hs hp H
  have hnP : ∀ (fuel : Nat) (W : World), (method (fuel + 1) 91 (.pointer (some ⟨g, 0, none⟩)) "Push").run Try.prog W = .ok (111, .pointer (some ⟨g, 0, none⟩)) W := fun _ _ => by kernel_rfl
  go_enter Try.func41, Try.ntmps41
  go_wp2_with (first
    | (go_at_call 111; refine HPU.out.mono ?_; rintro e w2 ⟨rfl, hs2, hb2⟩; have HS2 := Lib.hid hs2; obtain ⟨pq, nq, cq, hc2⟩ := HC.out _ _ hs2; have hnN := fun fuel => mLen g _ ⟨pq, nq, cq, rfl⟩ fuel w2 hc2; clear hs2)
    | (go_at_call 107; refine (HLE.out _ _ HS2.out hc2).mono ?_; rintro e w3 ⟨rfl, rfl⟩)
    | (go_at_call 52; refine (HUP.out _ _ _ _ HS2.out hc2).mono ?_; rintro e w4 ⟨rfl, l4, ⟨hs4, -⟩, hh4, hp4, hb4⟩; have HS4 := Lib.hid hs4; have HH4 := Lib.hid hh4; have HP4 := Lib.hid hp4; clear hs4 hh4 hp4))
  go_end0
  exact ⟨rfl, l4, HS4.out, HH4.out, HP4.out, hb2.trans hb4⟩
set_option maxHeartbeats 4000000 in
set_option maxRecDepth 100000 in
theorem hpopS (H : HeapP HS lt le V B g) (l : List α) (n : Nat) (w : World) (hs : HS w l) (hp : Hp le l) (hn : l.length = n + 1) (hl : n ≤ 90000) :
    Calls Try.prog 40 #[.iface 91 (.pointer (some ⟨g, 0, none⟩))] w fun e w' => ∃ a l', e = .returned (V a) ∧ HS w' l' ∧ Hp le l' ∧ (a :: l').Perm l ∧ (∀ y ∈ l, le a y) ∧ Below B w w' := by
  obtain ⟨a, ha⟩ : ∃ a, l[0]? = some a := ⟨_, List.getElem?_eq_getElem (by omega)⟩
  obtain ⟨b, hb⟩ : ∃ b, l[n]? = some b := ⟨_, List.getElem?_eq_getElem (by omega)⟩
  obtain ⟨pq, nq, cq, hcq⟩ := H.cell _ _ hs
  have HLE := Lib.hid (H.len w l _ hs hcq)
  rw [hn] at HLE
  have HFX := Lib.hid (H.fixed _ ⟨pq, nq, cq, rfl⟩)
  have HCQ := Lib.hid hcq
  have HSW := Lib.hid (fun (W : World) (h : HS W l ∧ W.cell? ⟨g, 0, none⟩ = some (.slice pq nq cq)) => (show Calls Try.prog 109 #[.slice pq nq cq, .int .i64 0, .int .i64 (n : Int)] W fun e w' => e = .returned (.tuple #[]) ∧ (HS w' (swp l 0 n a b) ∧ w'.cell? ⟨g, 0, none⟩ = some (.slice pq nq cq)) ∧ Below B W w' from HFX.out.swap W l 0 n a b h ha hb))
  have hsl : (swp l 0 n a b).length = n + 1 := by rw [swp_len, hn]
  have HDN := Lib.hid (fun (W : World) (h : HS W (swp l 0 n a b) ∧ W.cell? ⟨g, 0, none⟩ = some (.slice pq nq cq)) => downS HFX.out (swp l 0 n a b) n W h (hp.down ha hb) hsl (by omega))
  have hlast : (swp l 0 n a b)[n]? = some a := by
    rw [swp_get ha hb]
    split
    · rename_i h0; rw [h0, ha] at hb; cases hb; rfl
    · rw [if_pos rfl]
  have HLAST := Lib.hid hlast
  have HPM := Lib.hid (swp_perm ha hb)
  have HLS := Lib.hid (fun k y (h : l[k]? = some y) => hp.least H.rf H.tr ha k y h)
  have HPO := Lib.hid (fun (W : World) (l' : List α) (h : HS W (l' ++ [a])) => H.pop W l' a h)
  have HSL := Lib.hid hsl
  generalize swp l 0 n a b = s at *
  generalize hv : V a = v at *
  have HV := Lib.hid hv
  clear hv
  have hw1 : IntKind.i64.wrap (((n + 1 : Nat) : Int) - 1) = (n : Int) := by rw [show ((n + 1 : Nat) : Int) - 1 = (n : Int) by omega]; exact IntWalk.i64_in _ (by omega)
  have hw2 : IntKind.i64.wrap ((n : Int) + 1 - 1) = (n : Int) := by rw [Int.add_sub_cancel]; exact IntWalk.i64_in _ (by omega)
  have HS0 := Lib.hid hs
  have hnN := fun fuel => mLen g _ ⟨pq, nq, cq, rfl⟩ fuel w hcq
  have hnS := fun fuel => mSwap g _ ⟨pq, nq, cq, rfl⟩ fuel w hcq
  clear hn hs hp H ha hb hsl hlast
  have hnO : ∀ (fuel : Nat) (W : World), (method (fuel + 1) 91 (.pointer (some ⟨g, 0, none⟩)) "Pop").run Try.prog W = .ok (110, .pointer (some ⟨g, 0, none⟩)) W := fun _ _ => by kernel_rfl
  go_enter Try.func40, Try.ntmps40
  go_wp2_with (first
    | (go_at_call 107; refine HLE.out.mono ?_; rintro e w2 ⟨rfl, rfl⟩)
    | (go_at_call 109; refine (HSW.out _ ⟨HS0.out, HCQ.out⟩).mono ?_; rintro e w3 ⟨rfl, hs3, hb3⟩; have HS3 := Lib.hid hs3; clear hs3)
    | (go_at_call 51; refine (HDN.out _ HS3.out).mono ?_; rintro e w4 ⟨⟨q, rfl⟩, l4, ⟨hs4, -⟩, hh4, hp4, hla4, hb4⟩; have hl4 : l4.length = n + 1 := (hp4.length_eq.trans HSL.out); have he4 : l4 = l4.take n ++ [a] := (by
        have h1 : n < l4.length := (by omega)
        have h2 := List.take_append_drop n l4
        rw [List.drop_eq_getElem_cons h1, List.drop_eq_nil_of_le (by omega)] at h2
        have h3 : l4[n] = a := (by rw [HLAST.out, List.getElem?_eq_getElem h1] at hla4; injection hla4)
        rw [h3] at h2; exact h2.symm); have HS4 := Lib.hid (show HS w4 (l4.take n ++ [a]) from (by rw [← he4]; exact hs4)); have HE4 := Lib.hid he4; have HH4 := Lib.hid hh4; have HP4 := Lib.hid hp4; clear hs4 hh4 hp4 hla4 hl4 he4)
    | (go_at_call 110; refine (HPO.out _ _ HS4.out).mono ?_; rintro e w5 ⟨rfl, hs5, hb5⟩; have HS5 := Lib.hid hs5; clear hs5))
  go_ret
  refine ⟨a, _, by rw [HV.out]; rfl, HS5.out, HH4.out, ?_, fun y hy => ?_, (hb3.trans hb4).trans hb5⟩
  · have h1 := HP4.out.trans HPM.out
    rw [HE4.out] at h1
    exact (List.perm_append_singleton a _).symm.trans h1
  · obtain ⟨k, hk, rfl⟩ := List.mem_iff_getElem.1 hy
    exact HLS.out k _ (List.getElem?_eq_getElem hk)
end
end Go.Proofs.Ytiaflhlfodcbjaa
