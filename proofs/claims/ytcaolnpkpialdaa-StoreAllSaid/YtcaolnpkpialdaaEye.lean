/- The walks of store's eye: want, get and hops, at bytes that are a part's. -/
import Derived.Test.YtcaolnpkpialdaaNext
import Derived.Test.YtcaolnpkpialdaaUngapQ
import Derived.Test.YtcaolnpkpialdaaPStore
import Derived.Test.YtcaolnpkpialdaaMailU
import Derived.Test.YtcaolnpkpialdaaHops
import Derived.Deep.QuietTactic
import Derived.BigQuiet
import Derived.Deep.LoopGhost
import Derived.Deep.DeepCutAuto
import Derived.IntWalk
namespace Go.Proofs.Ytcaolnpkpialdaa
open Go.RowKit Go.Sort Go.Proofs
set_option maxHeartbeats 1000000 in
set_option maxRecDepth 100000 in
theorem want_ok (g : Nat) (w : World) : Calls Try.prog 60 #[.pointer (some ⟨g, 0, none⟩), .bool true] w fun e w' => e = .returned (.tuple #[]) ∧ w = w' := by
  go_enter Try.func60, Try.ntmps60
  go_wp2_with fail
  go_end0
  exact ⟨rfl, rfl⟩
/-- bytes that are read number by number: the box at g; what it reads lies in the block kb -/
def EyeSt (w : World) (g kb : Nat) (l : List Nat) : Prop :=
  ∃ (p : Option Addr) (n c : Nat), Bx w g [.slice p n c] ∧ IsB w (.slice p n c) l ∧ ∀ b off, p = some ⟨b, off, none⟩ → b = kb
theorem IsB.grownO {w w' : World} {p : Option Addr} {n c : Nat} {l : List Nat} {o : Option Nat} (h : IsB w (.slice p n c) l) (hg : w.grownBy w' o) (ho : ∀ b off, p = some ⟨b, off, none⟩ → o ≠ some b) : IsB w' (.slice p n c) l := by
  have hn := h.lens.1
  refine ⟨sl_grownO h.1 hg (fun b off e => ?_), h.2⟩
  cases e
  exact ho b off rfl
theorem EyeSt.keep {w w' : World} {g kb : Nat} {l : List Nat} (h : EyeSt w g kb l) (hb : Below w.heap.size w w') : EyeSt w' g kb l := by
  obtain ⟨p, n, c, h1, h2, h3⟩ := h
  exact ⟨p, n, c, h1.next hb, h2.later hb, h3⟩
theorem EyeSt.grown {w w' : World} {g kb : Nat} {o : Option Nat} {l : List Nat} (h : EyeSt w g kb l) (hb : w.grownBy w' o) (ho : o ≠ some g) (hk : o ≠ some kb) : EyeSt w' g kb l := by
  obtain ⟨p, n, c, h1, h2, h3⟩ := h
  exact ⟨p, n, c, h1.grown hb ho, h2.grownO hb (fun b off e => by rw [h3 b off e]; exact hk), h3⟩
theorem EyeSt.box {w : World} {g kb : Nat} {l : List Nat} (h : EyeSt w g kb l) : g < w.heap.size := by
  obtain ⟨p, n, c, h1, h2, h3⟩ := h
  exact h1.lt
set_option maxHeartbeats 4000000 in
set_option maxRecDepth 100000 in
theorem eyeget_ok (mi : Int) (g kb M x : Nat) (t : List Nat) (w : World) (hm : mi = (M : Int)) (hs : EyeSt w g kb (put x ++ t)) (hne : kb ≠ g) (hM : M ≤ 4398046511105) (hx : x ≤ M) :
    Calls Try.prog 61 #[.pointer (some ⟨g, 0, none⟩), .int .i64 mi] w fun e w' => e = .returned (.int .i64 (x : Int)) ∧ EyeSt w' g kb t ∧ w.grownBy w' (some g) := by
  subst hm
  obtain ⟨p, n, c, hbx, hl, hkb⟩ := hs
  obtain ⟨hn, hc1, hc2⟩ := hl.lens
  have hgp := getL_put (n := x) (by unfold U64; omega) t
  have hpp := put_pos x
  have hp10 := put_len10 (n := x) (by unfold U64; omega)
  have hkn : (put x).length ≤ n := by rw [hn, List.length_append]; omega
  obtain ⟨b, off, rfl⟩ := hl.some_ (by omega)
  obtain rfl : b = kb := hkb b off rfl
  have HC := Lib.hid (hl.cut hkn)
  have HDR := Lib.hid (show (put x ++ t).drop (put x).length = t from List.drop_left)
  have HL := Lib.hid hl
  have HX := Lib.hid hbx
  have HW := Lib.hid (fun W => want_ok g W)
  obtain ⟨h0, f0⟩ := hbx.one'
  generalize put x ++ t = l at *
  obtain ⟨k, hk⟩ : ∃ k, k = (put x).length := ⟨_, rfl⟩
  rw [← hk] at hgp hpp hp10 hkn HC HDR
  have HG := Lib.hid hgp
  have hd1 : decide ((x : Int) ≤ (M : Int)) = true := by simp; omega
  have hd2 : decide (x ≤ M) = true := by simp; omega
  have hwM : IntKind.u64.wrap (M : Int) = (M : Int) := IntWalk.u64_in _ (by omega)
  have hwN : IntKind.i64.wrap (x : Int) = (x : Int) := IntWalk.i64_in _ (by omega)
  have hk0 : (0 : Int) ≤ (k : Int) := by omega
  have hkn' : (k : Int) ≤ (n : Int) := by omega
  have hkc : (k : Int) ≤ (c : Int) := by omega
  have hnc : (n : Int) ≤ (c : Int) := by omega
  have HNE := Lib.hid hne
  clear hl hbx hgp hn hk hx hkb
  go_enter Try.func61, Try.ntmps61
  go_wp2_with fail
  refine (get_any _ _ _ l _ HL.out).mono ?_; rintro e w1 ⟨rfl, rfl⟩
  rw [HG.out]
  dsimp only
  by_cases hck : c = k
  · have HC' := HC.out
    rw [if_pos hck, show c - k = 0 by omega, HDR.out] at HC'
    have HC2 := Lib.hid HC'
    clear HC HC'
    go_wp2_with (go_at_call 60; refine (HW.out _).mono ?_; rintro e w1 ⟨rfl, rfl⟩)
    go_ret
    exact ⟨rfl, ⟨_, _, _, HX.out.setc 0 _, HC2.out.grownO grown_set (fun b' off' e => by cases e; intro e; cases e; exact HNE.out rfl), fun b' off' e => by cases e; rfl⟩, grown_set⟩
  · have HC' := HC.out
    rw [if_neg hck, HDR.out] at HC'
    have HC2 := Lib.hid HC'
    clear HC HC'
    go_wp2_with (go_at_call 60; refine (HW.out _).mono ?_; rintro e w1 ⟨rfl, rfl⟩)
    go_ret
    exact ⟨rfl, ⟨_, _, _, HX.out.setc 0 _, HC2.out.grownO grown_set (fun b' off' e => by cases e; intro e; cases e; exact HNE.out rfl), fun b' off' e => by cases e; rfl⟩, grown_set⟩
theorem putsN_cons (x : Nat) (xs : List Nat) : putsN (x :: xs) = put x ++ putsN xs := by simp [putsN]
theorem hopL_cut (l : List (Nat × Nat)) (t : List Nat) : hopL l ++ t = gapsL (l.map (·.1)) ++ (putsN (l.map (·.2)) ++ t) := by unfold hopL; rw [List.append_assoc]
set_option maxHeartbeats 8000000 in
set_option maxRecDepth 100000 in
theorem eyehops_ok (g kb N : Nat) (l : List (Nat × Nat)) (t : List Nat) (w : World) (hs : EyeSt w g kb (hopL l ++ t)) (hne : kb ≠ g) (hk : HopOk N l) (hN : N ≤ 200) :
    Calls Try.prog 62 #[.pointer (some ⟨g, 0, none⟩), .int .i64 (N : Int)] w fun e w' => ∃ p' c', e = .returned (.slice p' l.length c') ∧ w'.ownsRow w.heap.size 104 2 (.slice p' l.length c') l.length (mcs l) ∧ EyeSt w' g kb t ∧ w.grownBy w' (some g) := by
  obtain ⟨p, n, c, hbx, hl, hkb⟩ := hs
  rw [hopL_cut] at hl
  have hlen := hk.len
  have HU := Lib.hid (fun W (h : IsB W (.slice p n c) (gapsL (l.map (·.1)) ++ (putsN (l.map (·.2)) ++ t))) => ungap_any p c n _ W h)
  rw [ungapL_gapsL (by rw [List.length_map]; omega) (hk.rise hN)] at HU
  have hgp : 1 ≤ (gapsL (l.map (·.1))).length := by rw [gapsL, List.length_append]; have := put_pos (l.map (·.1)).length; omega
  have hgl : (gapsL (l.map (·.1))).length ≤ 210 := by have h1 := hopL_len hk hN; unfold hopL at h1; rw [List.length_append] at h1; omega
  obtain ⟨hn, hc1, hc2⟩ := hl.lens
  have hkn : (gapsL (l.map (·.1))).length ≤ n := by rw [hn, List.length_append]; omega
  obtain ⟨b, off, rfl⟩ := hl.some_ (by omega)
  obtain rfl : b = kb := hkb b off rfl
  have HC := Lib.hid (hl.cut hkn)
  have HDR := Lib.hid (show (gapsL (l.map (·.1)) ++ (putsN (l.map (·.2)) ++ t)).drop (gapsL (l.map (·.1))).length = putsN (l.map (·.2)) ++ t from List.drop_left)
  have HL := Lib.hid hl
  have HX := Lib.hid hbx
  have HW := Lib.hid (fun W => want_ok g W)
  have HGW := Lib.hid hbx.lt
  have HKW := Lib.hid (show b < w.heap.size from by
    obtain ⟨p', c', hp, -, -, -, -, h5⟩ := hl.1
    rcases h5 with h5 | ⟨b', off', hp', h5⟩
    · exfalso
      have e := congrArg List.length h5
      rw [bys_len, ← hn] at e
      have e2 : n = 0 := e
      omega
    · cases hp
      cases hp'
      exact World.block_lt_of_cell? w _ (h5 0 _ (bys_get (l := gapsL (l.map (·.1)) ++ (putsN (l.map (·.2)) ++ t)) (by rw [← hn]; omega))))
  have HOK := Lib.hid hk
  obtain ⟨h0, f0⟩ := hbx.one'
  generalize gapsL (l.map (·.1)) ++ (putsN (l.map (·.2)) ++ t) = L at *
  obtain ⟨k0, hk0⟩ : ∃ k, k = (gapsL (l.map (·.1))).length := ⟨_, rfl⟩
  rw [← hk0] at HU hgp hgl hkn HC HDR
  obtain ⟨m, hm⟩ : ∃ m, m = l.length := ⟨_, rfl⟩
  have HM := Lib.hid hm
  rw [List.length_map, ← hm] at HU
  rw [← hm] at hlen ⊢
  have hk1 : (0 : Int) ≤ (k0 : Int) := by omega
  have hk2 : (k0 : Int) ≤ (n : Int) := by omega
  have hk3 : (k0 : Int) ≤ (c : Int) := by omega
  have hk4 : (n : Int) ≤ (c : Int) := by omega
  have hd1 : decide ((m : Int) ≤ 600) = true := by simp; omega
  have hd2 : decide (m ≤ 600) = true := by simp; omega
  have HNE := Lib.hid hne
  clear hl hbx hn hk0 hm hk hkb
  go_enter Try.func62, Try.ntmps62
  go_wp2_with fail
  refine (HU.out _ HL.out).mono ?_; rintro e w1 ⟨q1, d1, rfl, ho1, hb1⟩
  dsimp only at ho1 ⊢
  have HC1 := Lib.hid (HC.out.later hb1)
  have HX1 := Lib.hid (HX.out.next hb1)
  have HG1 := Lib.hid (show w.grownBy w1 (some g) from grown_belowS hb1)
  have HS1 := Lib.hid (show IsI w1 (.slice q1 m d1) (nti (l.map (·.1))) from IsI.of_own ho1 (fun x hx => by
    obtain ⟨y, hy, rfl⟩ := List.mem_map.1 hx
    obtain ⟨z, hz, rfl⟩ := List.mem_map.1 hy
    have := (HOK.out.tow z hz).1
    omega))
  have HF1 := Lib.hid (show ∀ b off, q1 = some ⟨b, off, none⟩ → w.heap.size ≤ b from fun b off e => (ho1.lt b (by rw [e]; rfl)).1)
  have hdm : m ≤ d1 ∧ d1 ≤ 9223372036854775807 := by have := HS1.out.lens; exact this.2
  obtain ⟨hdm1, hdm2⟩ := hdm
  have hz1 := hb1.size
  obtain ⟨hy0, hy1⟩ := HX1.out.one'
  clear ho1 hb1 h0 f0
  go_upto_region 3 with (go_at_call 60; refine (HW.out _).mono ?_; rintro e w1 ⟨rfl, rfl⟩)
  go_cut [30] (fun s30 wx => Hid (EyeSt wx g b (putsN (l.map (·.2)) ++ t)) ∧ Hid (w1.grownBy wx (some g)))
  case first =>
    by_cases hck : c = k0
    · have HC' := HC1.out
      rw [if_pos hck, show c - k0 = 0 by omega, HDR.out] at HC'
      have HC2 := Lib.hid HC'
      clear HC HC'
      go_wp2_with fail
      go_meet
      case rel => exact ⟨Lib.hid ⟨_, _, _, HX1.out.setc 0 _, HC2.out.grownO grown_set (fun b' off' e => by cases e; intro e; cases e; exact HNE.out rfl), fun b' off' e => by cases e; rfl⟩, Lib.hid grown_set⟩
    · have HC' := HC1.out
      rw [if_neg hck, HDR.out] at HC'
      have HC2 := Lib.hid HC'
      clear HC HC'
      go_wp2_with fail
      go_meet
      case rel => exact ⟨Lib.hid ⟨_, _, _, HX1.out.setc 0 _, HC2.out.grownO grown_set (fun b' off' e => by cases e; intro e; cases e; exact HNE.out rfl), fun b' off' e => by cases e; rfl⟩, Lib.hid grown_set⟩
  case rest =>
  obtain ⟨HE2, HG2⟩ := hcut
  obtain ⟨w2, hw2⟩ : ∃ w2 : World, w2 = wc := ⟨_, rfl⟩
  rw [← hw2] at HE2 HG2 ⊢
  have hz2 : w1.heap.size ≤ w2.heap.size := HG2.out.size
  clear hw2 hy0 hy1 hk1 hk2 hk3 hk4 hd1 hd2 HX1 HC HDR HL HX HC1
  go_wp2_with fail
  go_loopg [8, 41] m (fun gk v8 v41 wr => ∃ (k : Nat) (p' : Option Addr) (c' : Nat), v41 = .int .i64 (k : Int) ∧ k + gk = m ∧ v8 = .slice p' k c' ∧ Hid (wr.ownsRow w1.heap.size 104 2 (.slice p' k c') k (mcs (l.take k))) ∧ Hid (EyeSt wr g b (putsN ((l.drop k).map (·.2)) ++ t)) ∧ Hid (w1.grownBy wr (some g)) ∧ w1.heap.size ≤ wr.heap.size)
  case atStart => exact ⟨0, none, 0, rfl, by omega, rfl, Lib.hid (World.ownsRow_nil _ _ _ _), by simpa using HE2, HG2, hz2⟩
  case round =>
    clear HE2 HG2 hz2
    obtain ⟨k, p', c', rfl, hgk, rfl, HO, HE, HG, hz⟩ := hrel
    have HGK := Lib.hid hgk
    have hk : k ≤ m := by omega
    clear hgk
    by_cases hlt : k < m
    · have hkl : k < l.length := by have := HM.out; omega
      have hkm : k < (l.map (·.1)).length := by rw [List.length_map]; exact hkl
      have HFG := Lib.hid (show ∀ b off, q1 = some ⟨b, off, none⟩ → (some g : Option Nat) ≠ some b from fun b off e e2 => by cases e2; have := HF1.out _ _ e; have := HGW.out; omega)
      have HSr := Lib.hid (show IsI wr (.slice q1 m d1) (nti (l.map (·.1))) from ⟨sl_grownO HS1.out.1 HG.out (fun b off e => by cases e; exact HFG.out b off rfl), HS1.out.2⟩)
      obtain ⟨b2, off2, hp2, hs0⟩ := HSr.out.getN hkm
      rw [List.getElem_map] at hs0
      have hto := HOK.out.tow _ (List.getElem_mem hkl)
      have HTS := Lib.hid (show mcs (l.take (k + 1)) = mcs (l.take k) ++ [.int .i64 (l[k].1 : Int), .int .i64 (l[k].2 : Int)] from by rw [List.take_succ_eq_append_getElem hkl, mcs_snoc])
      have HDS := Lib.hid (show putsN ((l.drop k).map (·.2)) ++ t = put l[k].2 ++ (putsN ((l.drop (k + 1)).map (·.2)) ++ t) from by rw [List.drop_eq_getElem_cons hkl, List.map_cons, putsN_cons, List.append_assoc])
      rw [HDS.out] at HE
      have HPV := Lib.hid (show ∀ j, k = j + 1 → ∃ y1 y2 : Nat, wr.cell? ⟨b2, off2 + j, none⟩ = some (.int .i64 (y1 : Int)) ∧ (∃ b3 off3, p' = some ⟨b3, off3, none⟩ ∧ wr.cell? ⟨b3, off3 + j * 2, none⟩ = some (.int .i64 (y1 : Int)) ∧ wr.cell? ⟨b3, off3 + j * 2 + 1, none⟩ = some (.int .i64 (y2 : Int))) ∧ (y1 < l[k].1 ∨ (y1 = l[k].1 ∧ y2 ≤ l[k].2)) from fun j hj => by
        have hjl : j < l.length := by omega
        have hjm : j < (l.map (·.1)).length := by rw [List.length_map]; exact hjl
        obtain ⟨b4, off4, hp4, hs4⟩ := HSr.out.getN hjm
        rw [hp2] at hp4; cases hp4
        rw [List.getElem_map] at hs4
        have hjt : j < (l.take k).length := by rw [List.length_take]; omega
        obtain ⟨b3, off3, hp3, ht0, ht1⟩ := (Sl.of_own HO.out).mail hjt
        rw [List.getElem_take] at ht0 ht1
        refine ⟨l[j].1, l[j].2, hs4, ⟨b3, off3, hp3, ht0, ht1⟩, ?_⟩
        exact List.pairwise_iff_getElem.1 HOK.out.ord j k hjl hkl (by omega))
      generalize l[k] = x at hs0 hto HTS HE HPV
      obtain ⟨x1, x2⟩ := x
      dsimp only at hs0 hto HTS HE HPV
      obtain ⟨hx1, hx2⟩ := hto
      subst hp2
      have hk0 : (0 : Int) ≤ (k : Int) := by omega
      have hkn : (k : Int) < (m : Int) := by omega
      have hd1 : decide ((k : Int) < (m : Int)) = true := by simp; omega
      have hd2 : decide (k < m) = true := by simp; omega
      have HSZ := Lib.hid hz
      clear hlt
      go_wp2_with fail
      refine (eyeget_ok _ g b 1099511627776 x2 _ wr rfl HE.out HNE.out (by omega) (by omega)).mono ?_; rintro e w5 ⟨rfl, he5, hg5⟩
      have hkeep : ∀ (a : Addr) (v : Value), a.block ≠ g → wr.cell? a = some v → w5.cell? a = some v := fun a v h hc => by
        rw [World.cell?_of_block (hg5.block a.block (World.block_lt_of_cell? wr _ hc) (fun e => h (by cases e; rfl)))]; exact hc
      have hb2g : b2 ≠ g := fun e => HFG.out b2 off2 rfl (by rw [e])
      have HO5 := Lib.hid (own_grown HO.out hg5 (fun j hj e => by cases e; have := (HO.out.lt _ hj).1; have := HGW.out; omega))
      have HG5 := Lib.hid (grown_trans HG.out hg5)
      have hz5 : w1.heap.size ≤ w5.heap.size := Nat.le_trans HSZ.out hg5.size
      obtain ⟨b6, B6, z6⟩ := boxed0 w5 [.int .i64 (x1 : Int), .int .i64 (x2 : Int)] 104
      have HO6 := Lib.hid (own_later HO5.out b6)
      have HG6 := Lib.hid (grown_trans HG5.out (grown_belowS b6))
      have HE6 := Lib.hid (he5.keep b6)
      have HX6 := Lib.hid B6
      have HPV6 := Lib.hid (show ∀ j, k = j + 1 → ∃ y1 y2 : Nat, (w5.alloc (.cells #[.int .i64 (x1 : Int), .int .i64 (x2 : Int)] 104)).cell? ⟨b2, off2 + j, none⟩ = some (.int .i64 (y1 : Int)) ∧ (∃ b3 off3, p' = some ⟨b3, off3, none⟩ ∧ (w5.alloc (.cells #[.int .i64 (x1 : Int), .int .i64 (x2 : Int)] 104)).cell? ⟨b3, off3 + j * 2 + 1, none⟩ = some (.int .i64 (y2 : Int))) ∧ (y1 < x1 ∨ (y1 = x1 ∧ y2 ≤ x2)) from fun j hj => by
        obtain ⟨y1, y2, c1, ⟨b3, off3, hp3, -, c3⟩, hor⟩ := HPV.out j hj
        have hb3 : b3 ≠ g := fun e => by have := (HO.out.lt b3 (by rw [hp3]; rfl)).1; have := HGW.out; omega
        have d1 := hkeep _ _ hb2g c1
        have d3 := hkeep _ _ hb3 c3
        exact ⟨y1, y2, (b6.cell (p := ⟨b2, off2 + j, none⟩) (World.block_lt_of_cell? w5 _ d1)).trans d1, ⟨b3, off3, hp3, (b6.cell (p := ⟨b3, off3 + j * 2 + 1, none⟩) (World.block_lt_of_cell? w5 _ d3)).trans d3⟩, hor⟩)
      have hd3 : decide ((x1 : Int) < (N : Int)) = true := by simp; omega
      have hd4 : decide (x1 < N) = true := by simp; omega
      clear he5 hg5 b6 B6 hkeep HPV hs0 z6
      go_upto_region 9 with fail
      obtain ⟨gh, hgh⟩ : ∃ gh, gh = w5.heap.size := ⟨_, rfl⟩
      have hz6 : w1.heap.size ≤ (w5.alloc (.cells #[.int .i64 (x1 : Int), .int .i64 (x2 : Int)] 104)).heap.size := by simp; omega
      rw [← hgh] at HX6 ⊢
      generalize (w5.alloc (.cells #[.int .i64 (x1 : Int), .int .i64 (x2 : Int)] 104)) = w6 at *
      clear hgh
      go_cut [78] (fun s78 wx => Hid (Below w6.heap.size w6 wx))
      case first =>
        obtain ⟨hy0, hy1, _, _⟩ := HX6.out.two
        rcases k with _ | j
        · go_quiet ((go_at_call 60; exact quiet_same (want_ok g _)))
          go_wp2_with fail
          go_meet
          case rel => exact Lib.hid (below_drewN (Below.refl _ _) _)
        · obtain ⟨y1, y2, c1, ⟨b3, off3, rfl, c3⟩, hor⟩ := HPV6.out j rfl
          have hj0 : (0 : Int) ≤ (j : Int) := by omega
          have hjm : (j : Int) < (m : Int) := by omega
          have hjs : (j : Int) < (j : Int) + 1 := by omega
          have hje : ((j : Int) + 1 == 0) = false := by simp; omega
          rcases hor with h | ⟨rfl, h⟩
          · have e1 : decide ((y1 : Int) < (x1 : Int)) = true := by simp; omega
            have e2 : decide (y1 < x1) = true := by simp; omega
            go_quiet ((go_at_call 60; exact quiet_same (want_ok g _)))
            go_wp2_with fail
            go_meet
            case rel => exact Lib.hid (below_drewN (Below.refl _ _) _)
          · have e1 : decide ((y2 : Int) ≤ (x2 : Int)) = true := by simp; omega
            have e2 : decide (y2 ≤ x2) = true := by simp; omega
            go_quiet ((go_at_call 60; exact quiet_same (want_ok g _)))
            go_wp2_with fail
            go_meet
            case rel => exact Lib.hid (below_drewN (Below.refl _ _) _)
      case rest =>
      obtain ⟨w7, hw7⟩ : ∃ w7 : World, w7 = wc := ⟨_, rfl⟩
      rw [← hw7] at hcut ⊢
      clear hw7
      have HO7 := Lib.hid (own_later HO6.out hcut.out)
      have HG7 := Lib.hid (grown_trans HG6.out (grown_belowS (s := g) hcut.out))
      have HE7 := Lib.hid (HE6.out.keep hcut.out)
      have hz7 : w1.heap.size ≤ w7.heap.size := Nat.le_trans hz6 hcut.out.size
      obtain ⟨hy0, hy1, _, _⟩ := (HX6.out.next hcut.out).two
      clear HPV6 HO6 HG6 HE6
      go_wp2_with (at_builtin; refine wp_app1h (w0 := w7) rfl _ _ _ rfl w1.heap.size 104 Try.underlying75 inf_hop rfl (by decide) rfl HO7.out (us := [_, _]) rfl rfl rfl (by simp [Value.oneCell']) (by unfold maxLen; omega) (by omega) (Below.refl _ _) hz7 ?_; intro p3 c3 w8 hown8 hb8 hsz8 hg8 _; have HO8 := Lib.hid hown8; clear hown8)
      have HO9 := Lib.hid (show w8.ownsRow w1.heap.size 104 2 (.slice p3 (k + 1) c3) (k + 1) (mcs (l.take (k + 1))) from by rw [HTS.out]; exact HO8.out)
      have hfw : ∀ j, (Value.slice p' k c').ownBlock = some j → w1.heap.size ≤ j := fun j hj => (HO7.out.lt j hj).1
      have HE9 := Lib.hid (HE7.out.grown hg8 (fun e => by have := hfw _ e; have := HGW.out; omega) (fun e => by have := hfw _ e; have := HKW.out; omega))
      have HG9 := Lib.hid (show w1.grownBy w8 (some g) from grown_new HG7.out hg8 hfw)
      go_roundg (m - (k + 1))
      case measure => have := HGK.out; omega
      case rel => exact ⟨k + 1, p3, c3, by go_num, by omega, rfl, HO9, HE9, HG9, hsz8⟩
    · obtain rfl : m = k := by omega
      have hd1 : decide ((m : Int) < (m : Int)) = false := by simp
      have hd2 : decide (m < m) = false := by simp
      have HOn := Lib.hid (show wr.ownsRow w.heap.size 104 2 (.slice p' m c') m (mcs l) from by have h := own_mono HO.out hz1; rw [List.take_of_length_le (by have := HM.out; omega)] at h; exact h)
      have HEn := Lib.hid (show EyeSt wr g b t from by have h := HE.out; rw [List.drop_eq_nil_of_le (by have := HM.out; omega)] at h; exact h)
      go_wp2_with fail
      go_ret
      exact ⟨p', c', rfl, HOn.out, HEn.out, grown_trans HG1.out HG.out⟩
end Go.Proofs.Ytcaolnpkpialdaa
