/- The walks of find, of its closure, and of slices.IndexFunc under it. -/
import Derived.Test.YtmdbcknlipahgaaDoorDOpen
namespace Go.Proofs.YtmdbcknlipahgaaDoor
open Go.RowKit
def ixV (l : List Fl) (nm : ByteArray) : Int := if ixF l nm < l.length then (ixF l nm : Int) else -1
set_option maxHeartbeats 4000000 in
set_option maxRecDepth 100000 in
theorem fclo_find (nm' nm : ByteArray) (dv : Value) (sy : Int) (q : Nat) (w : World) (hq : Bx w q [.string nm]) :
    Calls Tryd.prog 83 #[.agg #[.string nm', dv, .int .i64 sy], .pointer (some ⟨q, 0, none⟩)] w fun e w' => e = .returned (.bool (nm'.toList == nm.toList)) ∧ Below w.heap.size w w' := by
  obtain ⟨b1, B1, z1⟩ := boxed0 w [.string nm', dv, .int .i64 sy] 121
  obtain ⟨hx0, hx1, hx2, _, _, _⟩ := B1.three
  have hy0 := (hq.next b1).one
  go_enter Tryd.func83, Tryd.ntmps83
  go_wp2_with fail
  go_ret
  exact ⟨rfl, b1⟩
set_option maxHeartbeats 4000000 in
set_option maxRecDepth 100000 in
theorem indexF_find (nm : ByteArray) (q : Nat) (p : Option Addr) (c : Nat) (l : List (Fl × Value)) (w : World) (hq : Bx w q [.string nm]) (hR : RDk w 0 (.slice p l.length c) l) (hl : l.length ≤ 40) :
    Calls Tryd.prog 82 #[.slice p l.length c, .func (Fn.func 83) #[] #[.pointer (some ⟨q, 0, none⟩)]] w fun e w' => e = .returned (.int .i64 (ixV (l.map (·.1)) nm)) ∧ Below w.heap.size w w' := by
  have hval := hR.val
  obtain ⟨p', c', hpe, hcc1, hcc2⟩ := hval
  cases hpe
  have HL := Lib.hid hR
  have HQ := Lib.hid hq
  clear hR hq
  obtain ⟨n, hn⟩ : ∃ n, n = l.length := ⟨_, rfl⟩
  rw [← hn] at hcc1 hl HL ⊢
  have HN := Lib.hid hn
  clear hn
  obtain ⟨fs, hfs⟩ : ∃ fs, fs = l.map (·.1) := ⟨_, rfl⟩
  rw [← hfs]
  have hfl : fs.length = n := by rw [hfs, List.length_map]; exact HN.out.symm
  have HFL := Lib.hid hfl
  have HFS := Lib.hid hfs
  clear hfl hfs
  go_enter Tryd.func82, Tryd.ntmps82
  go_wp2_with fail
  obtain ⟨wo, rfl⟩ : ∃ wo : World, wo = w := ⟨_, rfl⟩
  go_loopg [8] n (fun gk v8 wr => ∃ k : Nat, v8 = .int .i64 (k : Int) ∧ k + gk = n ∧ Hid (∀ i, (h : i < fs.length) → i < k → fs[i].nm.toList ≠ nm.toList) ∧ Below wo.heap.size wo wr)
  case atStart => exact ⟨0, rfl, by omega, Lib.hid (fun i _ hi => absurd hi (by omega)), Below.refl _ _⟩
  case round =>
    obtain ⟨k, rfl, hgk, HM, hb⟩ := hrel
    have HGK := Lib.hid hgk
    have hk : k ≤ n := by omega
    clear hgk
    by_cases hlt : k < n
    · have hkl : k < l.length := by have := HN.out; omega
      have hkf : k < fs.length := by have := HFL.out; omega
      have hfk : fs[k].nm = l[k].1.nm := by simp only [HFS.out, List.getElem_map]
      obtain ⟨b, off, rfl, hc0, hc1, hc2, hdv⟩ := (HL.out.later hb).get hkl
      obtain ⟨qq, d, hqq, hdd1, hdd2⟩ := hdv.val
      rw [hqq] at hc1
      have HFC := Lib.hid (fun (s : ByteArray) (dv : Value) (sy : Int) (w' : World) (hb' : Below wr.heap.size wr w') => fclo_find s nm dv sy q w' (HQ.out.later (hb.trans (hb'.mono hb.size)) HQ.out.lt))
      have HIX : fs[k].nm.toList = nm.toList → Hid (ixV fs nm = (k : Int)) := fun h => Lib.hid (by
        have e := ixF_eq (l := fs) (nm := nm) (k := k) HM.out (.inr ⟨hkf, h⟩)
        unfold ixV; rw [e, if_pos hkf])
      have HSK : fs[k].nm.toList ≠ nm.toList → Hid (∀ i, (h : i < fs.length) → i < k + 1 → fs[i].nm.toList ≠ nm.toList) := fun h => Lib.hid (fun i hi1 hi2 => by
        by_cases hik : i = k
        · subst hik; exact h
        · exact HM.out i hi1 (by omega))
      rw [hfk] at HIX HSK
      have HI2 := Lib.hid HIX
      have HS2 := Lib.hid HSK
      clear hfk hdv hqq HIX HSK
      generalize l[k].1 = f at *
      obtain ⟨nm', dt, sy⟩ := f
      dsimp only at *
      have hk0 : (0 : Int) ≤ (k : Int) := by omega
      have hkn : (k : Int) < (n : Int) := by omega
      have hd1 : decide ((k : Int) < (n : Int)) = true := by simp; omega
      have hd2 : decide (k < n) = true := by simp; omega
      go_wp2_with fail
      refine (HFC.out nm' _ _ _ (by first | exact Below.refl _ _ | exact (Below.refl _ _).drew)).mono ?_; rintro e w2 ⟨rfl, hb2⟩
      by_cases hnm : nm'.toList = nm.toList
      · have hde : (nm'.toList == nm.toList) = true := by simp [hnm]
        have hix := (HI2.out hnm)
        clear hnm
        go_wp2_with fail
        go_ret
        exact ⟨by rw [hix.out]; rfl, hb.trans (hb2.mono hb.size)⟩
      · have hde : (nm'.toList == nm.toList) = false := by simp [hnm]
        have hsk := HS2.out hnm
        clear hnm
        go_wp2_with fail
        go_roundg (n - (k + 1))
        case measure => have := HGK.out; omega
        case rel => exact ⟨k + 1, by go_num, by omega, hsk, hb.trans (hb2.mono hb.size)⟩
    · obtain rfl : k = n := by omega
      have hd1 : decide ((k : Int) < (k : Int)) = false := by simp
      have hd2 : decide (k < k) = false := by simp
      have hix : ixV fs nm = -1 := by
        have e := ixF_eq (l := fs) (nm := nm) (k := k) HM.out (.inl HFL.out.symm)
        unfold ixV; rw [e, if_neg (by rw [HFL.out]; omega)]
      have HIX := Lib.hid hix
      clear hix
      go_wp2_with fail
      go_ret
      exact ⟨by rw [HIX.out]; rfl, hb⟩
set_option maxHeartbeats 4000000 in
set_option maxRecDepth 100000 in
theorem fclo_ren (nm' nm : ByteArray) (dv : Value) (sy : Int) (q : Nat) (w : World) (hq : Bx w q [.string nm]) :
    Calls Tryd.prog 68 #[.agg #[.string nm', dv, .int .i64 sy], .pointer (some ⟨q, 0, none⟩)] w fun e w' => e = .returned (.bool (nm'.toList == nm.toList)) ∧ Below w.heap.size w w' := by
  obtain ⟨b1, B1, z1⟩ := boxed0 w [.string nm', dv, .int .i64 sy] 121
  obtain ⟨hx0, hx1, hx2, _, _, _⟩ := B1.three
  have hy0 := (hq.next b1).one
  go_enter Tryd.func68, Tryd.ntmps68
  go_wp2_with fail
  go_ret
  exact ⟨rfl, b1⟩
set_option maxHeartbeats 4000000 in
set_option maxRecDepth 100000 in
theorem indexF_ren (nm : ByteArray) (q : Nat) (p : Option Addr) (c : Nat) (l : List (Fl × Value)) (w : World) (hq : Bx w q [.string nm]) (hR : RDk w 0 (.slice p l.length c) l) (hl : l.length ≤ 40) :
    Calls Tryd.prog 82 #[.slice p l.length c, .func (Fn.func 68) #[] #[.pointer (some ⟨q, 0, none⟩)]] w fun e w' => e = .returned (.int .i64 (ixV (l.map (·.1)) nm)) ∧ Below w.heap.size w w' := by
  have hval := hR.val
  obtain ⟨p', c', hpe, hcc1, hcc2⟩ := hval
  cases hpe
  have HL := Lib.hid hR
  have HQ := Lib.hid hq
  clear hR hq
  obtain ⟨n, hn⟩ : ∃ n, n = l.length := ⟨_, rfl⟩
  rw [← hn] at hcc1 hl HL ⊢
  have HN := Lib.hid hn
  clear hn
  obtain ⟨fs, hfs⟩ : ∃ fs, fs = l.map (·.1) := ⟨_, rfl⟩
  rw [← hfs]
  have hfl : fs.length = n := by rw [hfs, List.length_map]; exact HN.out.symm
  have HFL := Lib.hid hfl
  have HFS := Lib.hid hfs
  clear hfl hfs
  go_enter Tryd.func82, Tryd.ntmps82
  go_wp2_with fail
  obtain ⟨wo, rfl⟩ : ∃ wo : World, wo = w := ⟨_, rfl⟩
  go_loopg [8] n (fun gk v8 wr => ∃ k : Nat, v8 = .int .i64 (k : Int) ∧ k + gk = n ∧ Hid (∀ i, (h : i < fs.length) → i < k → fs[i].nm.toList ≠ nm.toList) ∧ Below wo.heap.size wo wr)
  case atStart => exact ⟨0, rfl, by omega, Lib.hid (fun i _ hi => absurd hi (by omega)), Below.refl _ _⟩
  case round =>
    obtain ⟨k, rfl, hgk, HM, hb⟩ := hrel
    have HGK := Lib.hid hgk
    have hk : k ≤ n := by omega
    clear hgk
    by_cases hlt : k < n
    · have hkl : k < l.length := by have := HN.out; omega
      have hkf : k < fs.length := by have := HFL.out; omega
      have hfk : fs[k].nm = l[k].1.nm := by simp only [HFS.out, List.getElem_map]
      obtain ⟨b, off, rfl, hc0, hc1, hc2, hdv⟩ := (HL.out.later hb).get hkl
      obtain ⟨qq, d, hqq, hdd1, hdd2⟩ := hdv.val
      rw [hqq] at hc1
      have HFC := Lib.hid (fun (s : ByteArray) (dv : Value) (sy : Int) (w' : World) (hb' : Below wr.heap.size wr w') => fclo_ren s nm dv sy q w' (HQ.out.later (hb.trans (hb'.mono hb.size)) HQ.out.lt))
      have HIX : fs[k].nm.toList = nm.toList → Hid (ixV fs nm = (k : Int)) := fun h => Lib.hid (by
        have e := ixF_eq (l := fs) (nm := nm) (k := k) HM.out (.inr ⟨hkf, h⟩)
        unfold ixV; rw [e, if_pos hkf])
      have HSK : fs[k].nm.toList ≠ nm.toList → Hid (∀ i, (h : i < fs.length) → i < k + 1 → fs[i].nm.toList ≠ nm.toList) := fun h => Lib.hid (fun i hi1 hi2 => by
        by_cases hik : i = k
        · subst hik; exact h
        · exact HM.out i hi1 (by omega))
      rw [hfk] at HIX HSK
      have HI2 := Lib.hid HIX
      have HS2 := Lib.hid HSK
      clear hfk hdv hqq HIX HSK
      generalize l[k].1 = f at *
      obtain ⟨nm', dt, sy⟩ := f
      dsimp only at *
      have hk0 : (0 : Int) ≤ (k : Int) := by omega
      have hkn : (k : Int) < (n : Int) := by omega
      have hd1 : decide ((k : Int) < (n : Int)) = true := by simp; omega
      have hd2 : decide (k < n) = true := by simp; omega
      go_wp2_with fail
      refine (HFC.out nm' _ _ _ (by first | exact Below.refl _ _ | exact (Below.refl _ _).drew)).mono ?_; rintro e w2 ⟨rfl, hb2⟩
      by_cases hnm : nm'.toList = nm.toList
      · have hde : (nm'.toList == nm.toList) = true := by simp [hnm]
        have hix := (HI2.out hnm)
        clear hnm
        go_wp2_with fail
        go_ret
        exact ⟨by rw [hix.out]; rfl, hb.trans (hb2.mono hb.size)⟩
      · have hde : (nm'.toList == nm.toList) = false := by simp [hnm]
        have hsk := HS2.out hnm
        clear hnm
        go_wp2_with fail
        go_roundg (n - (k + 1))
        case measure => have := HGK.out; omega
        case rel => exact ⟨k + 1, by go_num, by omega, hsk, hb.trans (hb2.mono hb.size)⟩
    · obtain rfl : k = n := by omega
      have hd1 : decide ((k : Int) < (k : Int)) = false := by simp
      have hd2 : decide (k < k) = false := by simp
      have hix : ixV fs nm = -1 := by
        have e := ixF_eq (l := fs) (nm := nm) (k := k) HM.out (.inl HFL.out.symm)
        unfold ixV; rw [e, if_neg (by rw [HFL.out]; omega)]
      have HIX := Lib.hid hix
      clear hix
      go_wp2_with fail
      go_ret
      exact ⟨by rw [HIX.out]; rfl, hb⟩
set_option maxHeartbeats 4000000 in
set_option maxRecDepth 100000 in
theorem fclo_rem (nm' nm : ByteArray) (dv : Value) (sy : Int) (q : Nat) (w : World) (hq : Bx w q [.string nm]) :
    Calls Tryd.prog 67 #[.agg #[.string nm', dv, .int .i64 sy], .pointer (some ⟨q, 0, none⟩)] w fun e w' => e = .returned (.bool (nm'.toList == nm.toList)) ∧ Below w.heap.size w w' := by
  obtain ⟨b1, B1, z1⟩ := boxed0 w [.string nm', dv, .int .i64 sy] 121
  obtain ⟨hx0, hx1, hx2, _, _, _⟩ := B1.three
  have hy0 := (hq.next b1).one
  go_enter Tryd.func67, Tryd.ntmps67
  go_wp2_with fail
  go_ret
  exact ⟨rfl, b1⟩
set_option maxHeartbeats 4000000 in
set_option maxRecDepth 100000 in
theorem indexF_rem (nm : ByteArray) (q : Nat) (p : Option Addr) (c : Nat) (l : List (Fl × Value)) (w : World) (hq : Bx w q [.string nm]) (hR : RDk w 0 (.slice p l.length c) l) (hl : l.length ≤ 40) :
    Calls Tryd.prog 82 #[.slice p l.length c, .func (Fn.func 67) #[] #[.pointer (some ⟨q, 0, none⟩)]] w fun e w' => e = .returned (.int .i64 (ixV (l.map (·.1)) nm)) ∧ Below w.heap.size w w' := by
  have hval := hR.val
  obtain ⟨p', c', hpe, hcc1, hcc2⟩ := hval
  cases hpe
  have HL := Lib.hid hR
  have HQ := Lib.hid hq
  clear hR hq
  obtain ⟨n, hn⟩ : ∃ n, n = l.length := ⟨_, rfl⟩
  rw [← hn] at hcc1 hl HL ⊢
  have HN := Lib.hid hn
  clear hn
  obtain ⟨fs, hfs⟩ : ∃ fs, fs = l.map (·.1) := ⟨_, rfl⟩
  rw [← hfs]
  have hfl : fs.length = n := by rw [hfs, List.length_map]; exact HN.out.symm
  have HFL := Lib.hid hfl
  have HFS := Lib.hid hfs
  clear hfl hfs
  go_enter Tryd.func82, Tryd.ntmps82
  go_wp2_with fail
  obtain ⟨wo, rfl⟩ : ∃ wo : World, wo = w := ⟨_, rfl⟩
  go_loopg [8] n (fun gk v8 wr => ∃ k : Nat, v8 = .int .i64 (k : Int) ∧ k + gk = n ∧ Hid (∀ i, (h : i < fs.length) → i < k → fs[i].nm.toList ≠ nm.toList) ∧ Below wo.heap.size wo wr)
  case atStart => exact ⟨0, rfl, by omega, Lib.hid (fun i _ hi => absurd hi (by omega)), Below.refl _ _⟩
  case round =>
    obtain ⟨k, rfl, hgk, HM, hb⟩ := hrel
    have HGK := Lib.hid hgk
    have hk : k ≤ n := by omega
    clear hgk
    by_cases hlt : k < n
    · have hkl : k < l.length := by have := HN.out; omega
      have hkf : k < fs.length := by have := HFL.out; omega
      have hfk : fs[k].nm = l[k].1.nm := by simp only [HFS.out, List.getElem_map]
      obtain ⟨b, off, rfl, hc0, hc1, hc2, hdv⟩ := (HL.out.later hb).get hkl
      obtain ⟨qq, d, hqq, hdd1, hdd2⟩ := hdv.val
      rw [hqq] at hc1
      have HFC := Lib.hid (fun (s : ByteArray) (dv : Value) (sy : Int) (w' : World) (hb' : Below wr.heap.size wr w') => fclo_rem s nm dv sy q w' (HQ.out.later (hb.trans (hb'.mono hb.size)) HQ.out.lt))
      have HIX : fs[k].nm.toList = nm.toList → Hid (ixV fs nm = (k : Int)) := fun h => Lib.hid (by
        have e := ixF_eq (l := fs) (nm := nm) (k := k) HM.out (.inr ⟨hkf, h⟩)
        unfold ixV; rw [e, if_pos hkf])
      have HSK : fs[k].nm.toList ≠ nm.toList → Hid (∀ i, (h : i < fs.length) → i < k + 1 → fs[i].nm.toList ≠ nm.toList) := fun h => Lib.hid (fun i hi1 hi2 => by
        by_cases hik : i = k
        · subst hik; exact h
        · exact HM.out i hi1 (by omega))
      rw [hfk] at HIX HSK
      have HI2 := Lib.hid HIX
      have HS2 := Lib.hid HSK
      clear hfk hdv hqq HIX HSK
      generalize l[k].1 = f at *
      obtain ⟨nm', dt, sy⟩ := f
      dsimp only at *
      have hk0 : (0 : Int) ≤ (k : Int) := by omega
      have hkn : (k : Int) < (n : Int) := by omega
      have hd1 : decide ((k : Int) < (n : Int)) = true := by simp; omega
      have hd2 : decide (k < n) = true := by simp; omega
      go_wp2_with fail
      refine (HFC.out nm' _ _ _ (by first | exact Below.refl _ _ | exact (Below.refl _ _).drew)).mono ?_; rintro e w2 ⟨rfl, hb2⟩
      by_cases hnm : nm'.toList = nm.toList
      · have hde : (nm'.toList == nm.toList) = true := by simp [hnm]
        have hix := (HI2.out hnm)
        clear hnm
        go_wp2_with fail
        go_ret
        exact ⟨by rw [hix.out]; rfl, hb.trans (hb2.mono hb.size)⟩
      · have hde : (nm'.toList == nm.toList) = false := by simp [hnm]
        have hsk := HS2.out hnm
        clear hnm
        go_wp2_with fail
        go_roundg (n - (k + 1))
        case measure => have := HGK.out; omega
        case rel => exact ⟨k + 1, by go_num, by omega, hsk, hb.trans (hb2.mono hb.size)⟩
    · obtain rfl : k = n := by omega
      have hd1 : decide ((k : Int) < (k : Int)) = false := by simp
      have hd2 : decide (k < k) = false := by simp
      have hix : ixV fs nm = -1 := by
        have e := ixF_eq (l := fs) (nm := nm) (k := k) HM.out (.inl HFL.out.symm)
        unfold ixV; rw [e, if_neg (by rw [HFL.out]; omega)]
      have HIX := Lib.hid hix
      clear hix
      go_wp2_with fail
      go_ret
      exact ⟨by rw [HIX.out]; rfl, hb⟩
set_option maxHeartbeats 4000000 in
set_option maxRecDepth 100000 in
theorem find_hit (h : Nat) (nm : ByteArray) (b off : Nat) (c : Nat) (l : List (Fl × Value)) (w : World) (hX : Bx w h [.slice (some ⟨b, off, none⟩) l.length c]) (hR : RDk w 0 (.slice (some ⟨b, off, none⟩) l.length c) l) (hl : l.length ≤ 40) (hi : ixF (l.map (·.1)) nm < l.length) :
    Calls Tryd.prog 65 #[.pointer (some ⟨h, 0, none⟩), .string nm] w fun e w' => e = .returned (.pointer (some ⟨b, off + ixF (l.map (·.1)) nm * 3, none⟩)) ∧ Below w.heap.size w w' := by
  have hval := hR.val
  obtain ⟨p', c', hpe, hcc1, hcc2⟩ := hval
  cases hpe
  have HR := Lib.hid hR
  have HIF := Lib.hid (fun q w' (hq : Bx w' q [.string nm]) (hb : Below w.heap.size w w') => indexF_find nm q (some ⟨b, off, none⟩) c l w' hq (hR.later hb) hl)
  obtain ⟨b1, B1, z1⟩ := boxed0 w [.string nm] 9
  have hx0 := (hX.next b1).one
  have hy0 := B1.one
  have HIB := Lib.hid (HIF.out _ _ B1 b1)
  have HX := Lib.hid hX
  have HB1 := Lib.hid b1
  have hix : ixV (l.map (·.1)) nm = (ixF (l.map (·.1)) nm : Int) := by unfold ixV; rw [if_pos (by rw [List.length_map]; exact hi)]
  rw [hix] at HIB
  clear hix HIF hR B1 hX
  generalize ixF (l.map (·.1)) nm = i at *
  clear HR
  have hi0 : (0 : Int) ≤ (i : Int) := by omega
  have hin : (i : Int) < (l.length : Int) := by omega
  have hil : ¬ (i : Int) < 0 := by omega
  go_enter Tryd.func65, Tryd.ntmps65
  go_wp2_with fail
  refine HIB.out.mono ?_; rintro e w2 ⟨rfl, hb2⟩
  have hx0 := ((HX.out.next HB1.out).next hb2).one
  go_wp2_with fail
  go_ret
  exact ⟨rfl, HB1.out.trans (hb2.mono HB1.out.size)⟩
set_option maxHeartbeats 4000000 in
set_option maxRecDepth 100000 in
theorem find_miss (h : Nat) (nm : ByteArray) (p : Option Addr) (c : Nat) (l : List (Fl × Value)) (w : World) (hX : Bx w h [.slice p l.length c]) (hR : RDk w 0 (.slice p l.length c) l) (hl : l.length ≤ 40) (hi : ixF (l.map (·.1)) nm = l.length) :
    Calls Tryd.prog 65 #[.pointer (some ⟨h, 0, none⟩), .string nm] w fun e w' => e = .returned (.pointer none) ∧ Below w.heap.size w w' := by
  have hval := hR.val
  obtain ⟨p', c', hpe, hcc1, hcc2⟩ := hval
  cases hpe
  have HR := Lib.hid hR
  have HIF := Lib.hid (fun q w' (hq : Bx w' q [.string nm]) (hb : Below w.heap.size w w') => indexF_find nm q p c l w' hq (hR.later hb) hl)
  obtain ⟨b1, B1, z1⟩ := boxed0 w [.string nm] 9
  have hx0 := (hX.next b1).one
  have hy0 := B1.one
  have HIB := Lib.hid (HIF.out _ _ B1 b1)
  have HX := Lib.hid hX
  have HB1 := Lib.hid b1
  have hix : ixV (l.map (·.1)) nm = -1 := by unfold ixV; rw [if_neg (by rw [List.length_map]; omega)]
  rw [hix] at HIB
  clear hix HIF hR B1 hX hi
  clear HR
  go_enter Tryd.func65, Tryd.ntmps65
  go_wp2_with fail
  refine HIB.out.mono ?_; rintro e w2 ⟨rfl, hb2⟩
  go_wp2_with fail
  go_ret
  exact ⟨rfl, HB1.out.trans (hb2.mono HB1.out.size)⟩
end Go.Proofs.YtmdbcknlipahgaaDoor
