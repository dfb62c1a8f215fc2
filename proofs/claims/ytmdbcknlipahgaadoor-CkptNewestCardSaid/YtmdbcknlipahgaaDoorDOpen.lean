/- The walk of disk.open. -/
import Derived.Test.YtmdbcknlipahgaaDoorOwn3
import Derived.Deep.QuietTactic
import Derived.BigQuiet
import Derived.Lib.SliceRun
import Derived.Test.YtmdbcknlipahgaaDoorDk
import Derived.Maps.OwnSet
import Derived.Maps.Views
import Derived.WalkKit
import Derived.WalkSpells
import Derived.StringKeys
import Derived.Deep.LoopGhost
import Derived.Test.YtmdbcknlipahgaaDoorBysOne
import Derived.Laws.BytesArg
import Derived.Test.YtmdbcknlipahgaaDoorHeldL
import Derived.Deep.DeepCutAuto
import Derived.Deep.RegionHeld3
namespace Go.Proofs.YtmdbcknlipahgaaDoor
open Go.RowKit
theorem inf_u8b : (Tryd.prog.info? 5).map (fun i => (i.zero, i.size, i.bytes)) = some (some (.int .u8 0), 1, 1) := by kernel_rfl
set_option maxHeartbeats 1000000 in
set_option maxRecDepth 100000 in
theorem cloneB_ok (n c : Nat) (p : Option Addr) (xs : List Value) (w : World) (h : Sl w 1 (.slice p n c) n xs) (h1 : ∀ u ∈ xs, u.oneCell' = true) (hn : n ≤ 100000) :
    Calls Tryd.prog 70 #[.slice p n c] w fun e w' => ∃ p' c', e = .returned (.slice p' n c') ∧ w'.ownsRow w.heap.size 5 1 (.slice p' n c') n xs ∧ Below w.heap.size w w' := by
  rcases p with _ | ad
  · have hx : n = 0 ∧ c = 0 ∧ xs = [] := by
      obtain ⟨p', c', hp, h2, h3, h4, h5, h6⟩ := h
      cases hp
      have hc := h5 rfl
      subst hc
      have : n = 0 := by omega
      subst this
      exact ⟨rfl, rfl, List.eq_nil_of_length_eq_zero (by simpa using h4)⟩
    obtain ⟨rfl, rfl, rfl⟩ := hx
    have q22 : ∀ (w : World) (a : Option Addr) (n c n' c' : Nat), (binOp .eql 54 (.slice a n c) (.slice none n' c')).run Tryd.prog w = .ok (.bool a.isNone) w := fun w a n c n' c' => Lib.run_eql_slice_nil w _ _ a n c n' c' rfl
    go_enter Tryd.func70, Tryd.ntmps70
    go_wp2_with fail
    go_ret
    exact ⟨none, 0, rfl, World.ownsRow_nil _ _ _ _, Below.refl _ _⟩
  · have HS := Lib.hid h
    clear h
    have q22 : ∀ (w : World) (a : Option Addr) (n c n' c' : Nat), (binOp .eql 54 (.slice a n c) (.slice none n' c')).run Tryd.prog w = .ok (.bool a.isNone) w := fun w a n c n' c' => Lib.run_eql_slice_nil w _ _ a n c n' c' rfl
    go_enter Tryd.func70, Tryd.ntmps70
    go_wp2_with (at_builtin; refine wp_app (w0 := w) rfl _ _ _ rfl w.heap.size 5 rfl inf_u8b rfl (by decide) rfl (World.ownsRow_made w #[] 0 (Nat.le_refl _) (Nat.zero_le _) rfl) rfl (HS.out.later ((Below.refl _ w).alloc (Nat.le_refl _) _)) h1 (by unfold maxLen; omega) (by omega) ((Below.refl _ w).alloc (Nat.le_refl _) _) (by simp) ?_; intro p1 c1 w1 hown hb hsz _ _)
    go_ret
    rw [Nat.zero_add, List.nil_append] at hown
    exact ⟨p1, c1, rfl, hown, hb⟩
end Go.Proofs.YtmdbcknlipahgaaDoor
namespace Go.Proofs.YtmdbcknlipahgaaDoor
open Go.RowKit Go.Maps Go.ChangeMaps
def keyS (s : ByteArray) : Lit := .string s.data.toList
def seenD (l : List Fl) : DataW Unit := l.foldl (fun m f => m.put (keyS f.nm) (.agg [])) (.map [])
theorem seenD_snoc (l : List Fl) (f : Fl) : seenD (l ++ [f]) = (seenD l).put (keyS f.nm) (.agg []) := by simp [seenD, List.foldl_append]
theorem keyS_inj {a b : ByteArray} (h : keyS a = keyS b) : a = b := by
  unfold keyS at h
  injection h with h
  have h2 : a.data = b.data := Array.toList_inj.1 h
  exact ByteArray.ext h2
theorem seenD_has (s : ByteArray) (l : List Fl) (h : ∀ f ∈ l, f.nm ≠ s) : Maps.has (seenD l) (keyS s) = false := by
  have key : ∀ (l : List Fl) (m : DataW Unit), (∀ f ∈ l, f.nm ≠ s) → Maps.has (l.foldl (fun m f => m.put (keyS f.nm) (.agg [])) m) (keyS s) = Maps.has m (keyS s) := by
    intro l
    induction l with
    | nil => intro m _; rfl
    | cons f l ih =>
      intro m h
      show Maps.has (l.foldl _ (m.put (keyS f.nm) (.agg []))) (keyS s) = _
      rw [ih _ (fun x hx => h x (List.mem_cons_of_mem _ hx)), Maps.has_put_other (fun e => h f List.mem_cons_self (keyS_inj e).symm)]
  exact (key l (.map []) h).trans rfl
theorem lawS : Keyed Tryd.prog 9 := string_keyed Tryd.underlying9
theorem DkOk.apart {k : Nat} {fs : List Fl} (h : DkOk fs) (hk : k < fs.length) : ∀ f ∈ fs.take k, f.nm ≠ fs[k].nm := by
  suffices hs : ∀ f ∈ fs.take k, f.nm.toList ≠ fs[k].nm.toList from fun f hf e => hs f hf (by rw [e])
  intro r hr
  obtain ⟨j, hj, rfl⟩ := List.getElem_of_mem hr
  rw [List.length_take] at hj
  rw [List.getElem_take]
  exact List.pairwise_iff_getElem.1 h.one j k (by omega) hk (by omega)
set_option maxHeartbeats 4000000 in
set_option maxRecDepth 100000 in
theorem may_ok (v : Value) (l : List (Fl × Value)) (w : World) (h : RDk w 0 v l) (hD : DkOk (l.map (·.1))) :
    Calls Tryd.prog 69 #[.agg #[v]] w fun e w' => e = .returned (.bool true) ∧ Below w.heap.size w w' := by
  have hval := h.val
  obtain ⟨p, c, rfl, hcc1, hcc2⟩ := hval
  have hn40 := hD.len
  rw [List.length_map] at hn40
  have HL := Lib.hid h
  have HD := Lib.hid hD
  clear h hD
  obtain ⟨n, hn⟩ : ∃ n, n = l.length := ⟨_, rfl⟩
  rw [← hn] at hcc1 hn40 HL ⊢
  have HN := Lib.hid hn
  clear hn
  have hmm := @run_makeMap Tryd.prog
  obtain ⟨b1, B1, z1⟩ := boxed0 w [.slice p n c] 61
  have hx0 := B1.one
  go_enter Tryd.func69, Tryd.ntmps69
  go_wp2_with fail
  have hs1 : (w.alloc (.cells #[.slice p n c] 61)).heap.size = w.heap.size + 1 := by simp
  have hmap := World.ownsMap_made (w.alloc (.cells #[.slice p n c] 61)) Tryd.prog 9 (unitElem (H := Unit))
  have hXm := B1.alloc (.map #[] 0)
  have hbm := b1.trans ((alloc_below (w.alloc (.cells #[.slice p n c] 61)) (.map #[] 0)).mono (by omega))
  have hsm : w.heap.size + 1 < ((w.alloc (.cells #[.slice p n c] 61)).alloc (.map #[] 0)).heap.size := by simp
  rw [hs1] at hmap
  clear b1 B1 z1 hx0 hs1 hmm
  generalize ((w.alloc (.cells #[.slice p n c] 61)).alloc (.map #[] 0)) = W0 at *
  obtain ⟨fs, hfs⟩ : ∃ fs, fs = l.map (·.1) := ⟨_, rfl⟩
  rw [← hfs] at HD
  have hfl : fs.length = n := by rw [hfs, List.length_map]; exact HN.out.symm
  have HFL := Lib.hid hfl
  have HFS := Lib.hid hfs
  clear hfl hfs
  obtain ⟨mb, hmb⟩ : ∃ mb, mb = w.heap.size + 1 := ⟨_, rfl⟩
  rw [← hmb] at hmap hsm ⊢
  have hmw : w.heap.size < mb := by omega
  clear hmb
  go_loopg [14] n (fun gk v14 wr => ∃ k : Nat, v14 = .int .i64 (k : Int) ∧ k + gk = n ∧ wr.ownsMap Tryd.prog 9 (unitElem (H := Unit)) mb k (seenD (fs.take k)) ∧ Hid (Maps.size (seenD (fs.take k)) = k) ∧ Bx wr w.heap.size [.slice p n c] ∧ Below w.heap.size w wr)
  case atStart => exact ⟨0, rfl, by omega, hmap, Lib.hid (by rw [List.take_zero]; rfl), hXm, hbm⟩
  case round =>
    clear hmap hXm hbm
    obtain ⟨k, rfl, hgk, hM, HSZ, hX, hb⟩ := hrel
    have HGK := Lib.hid hgk
    have hk : k ≤ n := by omega
    clear hgk
    have hx0 := hX.one
    by_cases hlt : k < n
    · have hkl : k < l.length := by have := HN.out; omega
      have hkf : k < fs.length := by have := HFL.out; omega
      have hfk : fs[k] = l[k].1 := by simp only [HFS.out, List.getElem_map]
      have hap := HD.out.apart hkf
      have hok := HD.out.ok _ (List.getElem_mem hkf)
      rw [hfk] at hap hok
      have htk := List.take_succ_eq_append_getElem hkf
      rw [hfk] at htk
      obtain ⟨b, off, rfl, hc0, hc1, hc2, hdv⟩ := (HL.out.later hb).get hkl
      obtain ⟨q, d, hq, hdd1, hdd2⟩ := hdv.val
      have hhas := seenD_has l[k].1.nm (fs.take k) hap
      have hsz2 : Maps.size (seenD (fs.take (k + 1))) = k + 1 := by
        rw [htk, seenD_snoc, Maps.size_put (hM.tidy lawS), hhas, HSZ.out]; simp
      have HS2 := Lib.hid hsz2
      have HTK := Lib.hid (show seenD (fs.take (k + 1)) = (seenD (fs.take k)).put (keyS l[k].1.nm) (.agg []) by rw [htk, seenD_snoc])
      rw [hq] at hc1
      obtain ⟨⟨g1, g2, g5, g6⟩, g3, g4, _⟩ := hok
      clear hfk hap htk hhas hdv hq hsz2
      generalize l[k].2 = dv at *
      generalize l[k].1 = f at *
      obtain ⟨nm, dt, sy⟩ := f
      dsimp only at *
      have hk0 : (0 : Int) ≤ (k : Int) := by omega
      have hkn : (k : Int) < (n : Int) := by omega
      have hd1 : decide ((k : Int) < (n : Int)) = true := by simp; omega
      have hd2 : decide (k < n) = true := by simp; omega
      have hkey : keyOf Tryd.prog 9 (.string nm) = some (keyS nm) := WideMaps.keyOf_string_mk Tryd.underlying9 (by unfold maxLen; omega)
      have hq1 : ¬ (20 : Int) < (nm.size : Int) := by omega
      have hq2 : ¬ (sy : Int) < 0 := by omega
      have hq3 : ¬ (dt.length : Int) < (sy : Int) := by omega
      have hq4 : ¬ (100000 : Int) < (dt.length : Int) := by omega
      have hq5 : ¬ dt.length < sy := by omega
      have hq6 : ¬ 20 < nm.size := by omega
      have hq7 : ¬ 100000 < dt.length := by omega
      have hbA := alloc_below wr (.cells #[.string nm, .slice q dt.length d, .int .i64 (sy : Int)] 121)
      go_wp2_with (at_mapUpdate; refine wpList_mapUpdate_own _ rfl _ _ _ 157 rfl 9 158 lawS Tryd.underlying157 (unitElem (H := Unit)) mb k _ rfl (hM.alloc _) (by unfold maxLen; omega) _ _ _ rfl rfl hkey _ [] unitElem_mk ?_; intro w1 hown1 hgrow1)
      go_roundg (n - (k + 1))
      case measure => have := HGK.out; omega
      case rel =>
        rw [← HTK.out] at hown1
        exact ⟨k + 1, by go_num, by omega, hown1, HS2, (hX.alloc _).grown hgrow1 (fun e => by cases e; omega), (hb.trans (hbA.mono hb.size)).grown hgrow1 (Nat.le_trans hb.size hbA.size) (fun j e => by cases e; omega)⟩
    · obtain rfl : k = n := by omega
      have hd1 : decide ((k : Int) < (k : Int)) = false := by simp
      have hd2 : decide (k < k) = false := by simp
      have hsz := HSZ.out
      rw [List.take_of_length_le (by rw [HFL.out]; exact Nat.le_refl _)] at hM hsz
      go_wp2_with (at_len; refine wpList_len_own _ rfl _ 157 rfl 9 158 Tryd.underlying157 _ mb k _ rfl hM ?_)
      go_ret
      exact ⟨rfl, hb⟩
end Go.Proofs.YtmdbcknlipahgaaDoor
namespace Go.Proofs.YtmdbcknlipahgaaDoor
open Go.RowKit
/-- bytes as a string -/
def strN (l : List Nat) : ByteArray := strOfNums (l.map fun x : Nat => (x : Int))
theorem strN_inj {a b : List Nat} (ha : AllB a) (hb : AllB b) (h : strN a = strN b) : a = b := by
  have h2 := congrArg (fun s : ByteArray => s.data.toList.map UInt8.toNat) h
  simp only [strN, strOfNums_data, List.map_map] at h2
  have key : ∀ l : List Nat, AllB l → l.map (UInt8.toNat ∘ ((fun n : Int => UInt8.ofNat n.toNat) ∘ fun x : Nat => (x : Int))) = l := by
    intro l hl
    rw [List.map_congr_left (g := id)]
    · simp
    · intro x hx
      have := hl x hx
      show (UInt8.ofNat ((x : Int).toNat)).toNat = x
      rw [Int.toNat_natCast, UInt8.toNat_ofNat']
      exact Nat.mod_eq_of_lt this
  rw [key a ha, key b hb] at h2
  exact h2
theorem convB {P : Program} {w : World} {p : Option Addr} {c : Nat} {l : List Nat} (h : IsB w (.slice p l.length c) l) (src e dst : TypeId) (hs : P.underlying src = some (.slice e)) (he : P.underlying e = some (.int .u8)) (hd : P.underlying dst = some .string) :
    (convert src dst (.slice p l.length c)).run P w = .ok (.string (strN l)) w := by
  obtain ⟨⟨p', c', hp, h1, h2, h3, h4, h5⟩, hb⟩ := h
  cases hp
  rcases h5 with h5 | ⟨b, off, rfl, h5⟩
  · have hl : l = [] := by cases l with | nil => rfl | cons x r => simp [bys] at h5
    subst hl
    show (convert src dst (.slice p 0 c)).run P w = _
    rw [run_convert_bytes_string w src dst e _ 0 c hs he hd]
    cases p <;> simp [Conv.bytesToString, loadCells]
    all_goals rfl
  · refine run_convert_bytes_arg w src e hs he b off l.length c _ (by simp) (fun i hi => ?_) dst hd
    have h6 : (bys l)[i]? = some (.int .u8 ((l.map fun x : Nat => (x : Int)).getD i 0)) := by
      rw [bys, List.getElem?_map, List.getElem?_eq_getElem hi, List.getD_eq_getElem?_getD, List.getElem?_map, List.getElem?_eq_getElem hi]; rfl
    exact h5 i _ h6
end Go.Proofs.YtmdbcknlipahgaaDoor
namespace Go.Proofs.YtmdbcknlipahgaaDoor
open Go.RowKit
theorem inf_file : (Tryd.prog.info? 121).map (fun i => (i.zero, i.size, i.bytes)) = some (some (.agg #[.string ⟨#[]⟩, .slice none 0 0, .int .i64 0]), 3, 48) := by kernel_rfl
set_option maxHeartbeats 8000000 in
set_option maxRecDepth 100000 in
theorem dopen_ok (v : Value) (l : List (Fl × Value)) (w : World) (hR : RDk w 0 v l) (hD : DkOk (l.map (·.1))) :
    Calls Tryd.prog 51 #[.agg #[v]] w fun e w' => ∃ (h : Nat) (p : Option Addr) (c : Nat) (l' : List (Fl × Value)), e = .returned (.tuple #[.pointer (some ⟨h, 0, none⟩), .int .i64 0]) ∧ Hid (l'.map (·.1) = l.map (·.1)) ∧ w.heap.size ≤ h ∧ h < w'.heap.size ∧ Bx w' h [.slice p l'.length c] ∧ OwnDk w' (h + 1) (.slice p l'.length c) l' ∧ Below w.heap.size w w' := by
  have hval := hR.val
  obtain ⟨p, c, rfl, hcc1, hcc2⟩ := hval
  have hn40 := hD.len
  rw [List.length_map] at hn40
  have HMAY := Lib.hid (fun w' (hb : Below w.heap.size w w') => may_ok _ l w' (hR.later hb) hD)
  have HL := Lib.hid hR
  have HD := Lib.hid hD
  clear hR hD
  obtain ⟨n, hn⟩ : ∃ n, n = l.length := ⟨_, rfl⟩
  rw [← hn] at hcc1 hn40 HL HMAY ⊢
  have HN := Lib.hid hn
  clear hn
  obtain ⟨b1, B1, z1⟩ := boxed0 w [.slice p n c] 61
  have hx0 := B1.one
  go_enter Tryd.func51, Tryd.ntmps51
  go_wp2_with fail
  refine (HMAY.out _ b1).mono ?_; rintro e w1 ⟨rfl, hb1⟩
  have X1 := B1.next hb1
  have hw1 := b1.trans (hb1.mono (by omega))
  have hz1 := Nat.le_trans z1 hb1.size
  clear b1 B1 z1 hb1 hx0
  generalize w.alloc (.cells #[.slice p n c] 61) = W0 at *
  obtain ⟨b4, B4, z4⟩ := boxed0 w1 [.slice none 0 0] 118
  have hx0 := (X1.next b4).one
  have X4 := X1.next b4
  have hw4 := hw1.trans (b4.mono hw1.size)
  go_wp2_with fail
  clear hx0 X1 b4 hw1
  obtain ⟨h, hh⟩ : ∃ h, h = w1.heap.size := ⟨_, rfl⟩
  rw [← hh] at B4 z4 hz1 ⊢
  have hhw : w.heap.size ≤ h := by omega
  clear hh hz1
  generalize (w1.alloc (.cells #[.slice none 0 0] 118)) = W4 at *
  obtain ⟨fs, hfs⟩ : ∃ fs, fs = l.map (·.1) := ⟨_, rfl⟩
  rw [← hfs] at HD
  have hfl : fs.length = n := by rw [hfs, List.length_map]; exact HN.out.symm
  have HFL := Lib.hid hfl
  have HFS := Lib.hid hfs
  clear hfl hfs
  go_loopg [15] n (fun gk v15 wr => ∃ (k : Nat) (p' : Option Addr) (c' : Nat) (l' : List (Fl × Value)), v15 = .int .i64 (k : Int) ∧ k + gk = n ∧ Hid (l'.map (·.1) = fs.take k) ∧ Hid (l'.length = k) ∧ Bx wr h [.slice p' l'.length c'] ∧ OwnDk wr (h + 1) (.slice p' l'.length c') l' ∧ Below w.heap.size w wr ∧ h < wr.heap.size)
  case atStart => exact ⟨0, none, 0, [], rfl, by omega, Lib.hid rfl, Lib.hid rfl, B4, OwnDk.nil _ _, hw4, by omega⟩
  case round =>
    clear B4 hw4 z4 X4
    obtain ⟨k, p', c', l', rfl, hgk, HLF, HLL, hX, hO, hb, hsz⟩ := hrel
    have HGK := Lib.hid hgk
    have hk : k ≤ n := by omega
    clear hgk
    by_cases hlt : k < n
    · have hkl : k < l.length := by have := HN.out; omega
      have hkf : k < fs.length := by have := HFL.out; omega
      have hl40 : l'.length ≤ 40 := by have := HLL.out; omega
      have hfk : fs[k] = l[k].1 := by simp only [HFS.out, List.getElem_map]
      have hok := HD.out.ok _ (List.getElem_mem hkf)
      rw [hfk] at hok
      have htk := List.take_succ_eq_append_getElem hkf
      rw [hfk] at htk
      obtain ⟨b, off, rfl, hc0, hc1, hc2, hdv⟩ := (HL.out.later hb).get hkl
      obtain ⟨q, d, hq, hdd1, hdd2⟩ := hdv.val
      rw [hq] at hc1 hdv
      have HTK := Lib.hid htk
      have hdb := hok.d
      have HDV := Lib.hid hdv
      have hsy := hok.sy
      clear hfk htk hq hdv hok
      generalize l[k].2 = dv at *
      generalize l[k].1 = f at *
      obtain ⟨nm, dt, sy⟩ := f
      dsimp only at *
      have hk0 : (0 : Int) ≤ (k : Int) := by omega
      have hkn : (k : Int) < (n : Int) := by omega
      have hd1 : decide ((k : Int) < (n : Int)) = true := by simp; omega
      have hd2 : decide (k < n) = true := by simp; omega
      have HO := Lib.hid hO
      have HX := Lib.hid hX
      clear hO hX
      go_wp2_with fail
      have hXA := HX.out.alloc (.cells #[.string nm, .slice q dt.length d, .int .i64 (sy : Int)] 121)
      have hBA : Bx (wr.alloc (.cells #[.string nm, .slice q dt.length d, .int .i64 (sy : Int)] 121)) wr.heap.size [.string nm, .slice q dt.length d, .int .i64 (sy : Int)] := bx_new wr _ _
      have hOA := HO.out.later (alloc_below wr (.cells #[.string nm, .slice q dt.length d, .int .i64 (sy : Int)] 121))
      have hba := alloc_below wr (.cells #[.string nm, .slice q dt.length d, .int .i64 (sy : Int)] 121)
      have hza : (wr.alloc (.cells #[.string nm, .slice q dt.length d, .int .i64 (sy : Int)] 121)).heap.size = wr.heap.size + 1 := by simp
      refine (cloneB_ok dt.length d q (bys dt) _ (HDV.out.later hba).1 (bys_one dt) (by omega)).mono ?_; rintro e w5 ⟨p5, c5, rfl, ho5, hb5⟩
      have hX5 := hXA.next hb5
      have hB5 := hBA.next hb5
      have hO5 := hOA.later hb5
      have hz5 := hb5.size
      rw [hza] at hz5 ho5
      have hb5' := hba.trans (hb5.mono (by omega))
      obtain ⟨hv0, hv1, hv2, hf0, hf1, hf2⟩ := hB5.three
      clear hXA hBA hOA hba hb5
      generalize (wr.alloc (.cells #[.string nm, .slice q dt.length d, .int .i64 (sy : Int)] 121)) = wa at *
      have hB6 : Bx (w5.setCell ⟨wr.heap.size, 1, none⟩ (.slice p5 dt.length c5)) wr.heap.size [.string nm, .slice p5 dt.length c5, .int .i64 (sy : Int)] := hB5.setc 1 _
      have hX6 := bx_oth hX5 (a := ⟨wr.heap.size, 1, none⟩) (by show h ≠ wr.heap.size; omega) (.slice p5 dt.length c5)
      have hnb : ∀ x : Value, ∀ j, x.ownBlock = some j → j < wr.heap.size → x.ownBlock ≠ some wr.heap.size := fun x j hj hlt e => by rw [hj] at e; cases e; omega
      have hO6 : OwnDk (w5.setCell ⟨wr.heap.size, 1, none⟩ (.slice p5 dt.length c5)) (h + 1) (.slice p' l'.length c') l' :=
        ⟨own_setCell_ne hO5.outer (fun e => absurd (HO.out.outer.lt _ e).2 (Nat.lt_irrefl _)) _, fun x hx => own_setCell_ne (hO5.inn x hx) (fun e => absurd ((HO.out.inn x hx).lt _ e).2 (Nat.lt_irrefl _)) _, hO5.ap, hO5.pw⟩
      have ho6 := own_setCell ho5 (a := ⟨wr.heap.size, 1, none⟩) (by show wr.heap.size < wr.heap.size + 1; omega) (.slice p5 dt.length c5)
      have hb6 : Below wr.heap.size wr (w5.setCell ⟨wr.heap.size, 1, none⟩ (.slice p5 dt.length c5)) := hb5'.setCell (Nat.le_refl _) _
      have hz6 : wr.heap.size + 1 ≤ (w5.setCell ⟨wr.heap.size, 1, none⟩ (.slice p5 dt.length c5)).heap.size := by simp; exact hz5
      go_upto_region 8 with fail
      clear hX5 hB5 hO5 hv0 hv1 hv2 hf0 hf1 hf2 ho5 hb5'
      generalize (w5.setCell ⟨wr.heap.size, 1, none⟩ (.slice p5 dt.length c5)) = w6 at *
      have hXd : Bx w6.drew h [.slice p' l'.length c'] := hX6
      have hBd : Bx w6.drew wr.heap.size [.string nm, .slice p5 dt.length c5, .int .i64 (sy : Int)] := hB6
      have hOd : OwnDk w6.drew (h + 1) (.slice p' l'.length c') l' := hO6.later ((Below.refl _ w6).drew)
      have hsd : w6.drew.ownsRow (h + 1) 5 1 (.slice p5 dt.length c5) dt.length (bys dt) := own_mono (own_drew ho6) (by omega)
      have hfs : ∀ j, (Value.slice p5 dt.length c5).ownBlock = some j → (Value.slice p' l'.length c').ownBlock ≠ some j := fun j hj e => by have h1 := (ho6.lt j hj).1; have h2 := (HO.out.outer.lt j e).2; omega
      have hfl : ∀ x ∈ l', ∀ j, x.2.ownBlock = some j → (Value.slice p5 dt.length c5).ownBlock ≠ some j := fun x hx j hj e => by have h1 := (ho6.lt j e).1; have h2 := ((HO.out.inn x hx).lt j hj).2; omega
      have HFB := Lib.hid (show (Value.slice p' l'.length c').ownBlock ≠ some wr.heap.size from fun e => by have := (HO.out.outer.lt _ e).2; omega)
      have hdz : w6.drew.heap.size = w6.heap.size := rfl
      have hk0' := hXd.one
      obtain ⟨hv0, hv1, hv2, _, _, _⟩ := hBd.three
      obtain ⟨S, hSI⟩ : ∃ S : World → Prop, ∀ w', S w' ↔ (w'.cell? ⟨h, 0, none⟩ = some (Value.slice p' l'.length c') ∧ w'.cell? ⟨wr.heap.size, 0, none⟩ = some (.string nm) ∧ w'.cell? ⟨wr.heap.size, 1, none⟩ = some (.slice p5 dt.length c5) ∧ w'.cell? ⟨wr.heap.size, 2, none⟩ = some (.int .i64 (sy : Int))) := ⟨fun w' => _, fun w' => Iff.rfl⟩
      have HSI := Lib.hid hSI
      clear hSI
      refine wp_region_L S 12 (by kernel_rfl) ((HSI.out _).2 ⟨hk0', hv0, hv1, hv2⟩) (fun hS => ?_)
      clear hk0' hv0 hv1 hv2
      refine wpAnyL_take 0 (v := ?_) rfl rfl (by kernel_rfl) (by kernel_rfl) (by kernel_rfl) (by kernel_rfl) (fun _ _ _ h => h) (Or.inl ⟨by rfl, ?_⟩) hS ?_; rotate_left; · intro w hSw; go_simp <;> with_reducible rfl
      try simp only [Act.put, List.setIfInBounds_toArray, List.set_cons_zero, List.set_cons_succ]
      refine wpAnyL_take 1 (v := ?_) rfl rfl (by kernel_rfl) (by kernel_rfl) (by kernel_rfl) (by kernel_rfl) (fun _ _ _ h => h) (Or.inl ⟨by rfl, ?_⟩) hS ?_; rotate_left; · intro w hSw; go_simp <;> with_reducible rfl
      try simp only [Act.put, List.setIfInBounds_toArray, List.set_cons_zero, List.set_cons_succ]
      refine wpAnyL_take 2 (v := ?_) rfl rfl (by kernel_rfl) (by kernel_rfl) (by kernel_rfl) (by kernel_rfl) (fun _ _ _ h => h) (Or.inl ⟨by rfl, ?_⟩) hS ?_; rotate_left; · intro w hSw; go_simp <;> with_reducible rfl
      try simp only [Act.put, List.setIfInBounds_toArray, List.set_cons_zero, List.set_cons_succ]
      refine wpAnyL_take 3 (v := ?_) rfl rfl (by kernel_rfl) (by kernel_rfl) (by kernel_rfl) (by kernel_rfl) (fun _ _ _ h => h) (Or.inl ⟨by rfl, ?_⟩) hS ?_; rotate_left; · intro w hSw; go_simp <;> with_reducible rfl
      try simp only [Act.put, List.setIfInBounds_toArray, List.set_cons_zero, List.set_cons_succ]
      refine wpAnyL_take 4 (v := ?_) rfl rfl (by kernel_rfl) (by kernel_rfl) (by kernel_rfl) (by kernel_rfl) (fun _ _ _ h => h) (Or.inl ⟨by rfl, ?_⟩) hS ?_; rotate_left; · intro w hSw; go_simp <;> with_reducible rfl
      try simp only [Act.put, List.setIfInBounds_toArray, List.set_cons_zero, List.set_cons_succ]
      refine wpAnyL_take 5 (v := ?_) rfl rfl (by kernel_rfl) (by kernel_rfl) (by kernel_rfl) (by kernel_rfl) (fun _ _ _ h => h) (Or.inl ⟨by rfl, ?_⟩) hS ?_; rotate_left; · intro w hSw; obtain ⟨hz0, hz1, hz2, hz3⟩ := (HSI.out w).1 hSw; go_simp <;> with_reducible rfl
      try simp only [Act.put, List.setIfInBounds_toArray, List.set_cons_zero, List.set_cons_succ]
      refine wpAnyL_take 6 (v := ?_) rfl rfl (by kernel_rfl) (by kernel_rfl) (by kernel_rfl) (by kernel_rfl) (fun _ _ _ h => h) (Or.inl ⟨by rfl, ?_⟩) hS ?_; rotate_left; · intro w hSw; obtain ⟨hz0, hz1, hz2, hz3⟩ := (HSI.out w).1 hSw; go_simp <;> with_reducible rfl
      try simp only [Act.put, List.setIfInBounds_toArray, List.set_cons_zero, List.set_cons_succ]
      refine wpAnyL_one 7 rfl rfl (by kernel_rfl) ?_; intro K hK; rw [if_pos (by rfl)]
      go_simp
      have hA7 := hXd.alloc (.cells #[.string nm, .slice p5 dt.length c5, .int .i64 (sy : Int)] 121)
      have hB7 := hBd.alloc (.cells #[.string nm, .slice p5 dt.length c5, .int .i64 (sy : Int)] 121)
      obtain ⟨hv0, hv1, hv2, _, _, _⟩ := hB7.three
      have hS := (HSI.out _).2 ⟨hA7.one, hv0, hv1, hv2⟩
      refine hK.out _ _ (fun _ => hS) ?_; clear hK K hv0 hv1 hv2
      try simp only [Act.put, List.setIfInBounds_toArray, List.set_cons_zero, List.set_cons_succ]
      refine wpAnyL_one 8 rfl rfl (by kernel_rfl) ?_; intro K hK; rw [if_pos (by rfl)]
      refine wp_app_op (.tmp 28) (.tmp 30) _ rfl (h + 1) 121 rfl inf_file rfl (by decide) rfl (hOd.outer.alloc _) rfl (news := flC ⟨nm, dt, sy⟩ (.slice p5 dt.length c5)) (sl_new _ (flC ⟨nm, dt, sy⟩ (.slice p5 dt.length c5)) 121) (by simp [flC, Value.oneCell']) (by unfold maxLen; omega) (by omega) (Below.refl _ _) (by simp; omega) ?_
      intro p7 c7 w7 hown7 hb7 hs7 hg7 hnb7
      clear hS
      have hg7' : w6.drew.grownBy w7 (Value.slice p' l'.length c').ownBlock := ⟨hg7.os, hg7.tape, hg7.output, Nat.le_trans (World.grownBy_alloc w6.drew _ none).size hg7.size, fun j hj hr => (hg7.block j (Nat.lt_of_lt_of_le hj (World.grownBy_alloc w6.drew _ none).size) hr).trans ((World.grownBy_alloc w6.drew _ none).block j hj (by simp))⟩
      have HP := hOd.push (f := ⟨nm, dt, sy⟩) hg7' hsd hfs hfl hown7 (by rcases hnb7 with h | h; exact .inl h; exact .inr ⟨_, by simp, h⟩)
      have hA8 := hA7.grown hg7 (own_far hOd.outer (by omega))
      have hB8 := hB7.grown hg7 HFB.out
      obtain ⟨hv0, hv1, hv2, _, _, _⟩ := hB8.three
      have hqf : w7.frozen? ⟨h, 0, none⟩ = false := by obtain ⟨t, ht⟩ := hA8; simp [World.frozen?, ht]
      have hqa := hA8.one
      have hS := (HSI.out _).2 ⟨hqa, hv0, hv1, hv2⟩
      refine hK.out _ _ (fun _ => hS) ?_; clear hK K
      try simp only [Act.put, List.setIfInBounds_toArray, List.set_cons_zero, List.set_cons_succ]
      refine wpAnyL_one 9 rfl rfl (by kernel_rfl) ?_; intro K hK; rw [if_pos (by rfl)]
      go_simp
      refine hK.out _ _ (fun _ => hS) ?_; clear hK K
      try simp only [Act.put, List.setIfInBounds_toArray, List.set_cons_zero, List.set_cons_succ]
      refine wpAnyL_one 10 rfl rfl (by kernel_rfl) ?_; intro K hK; rw [if_pos (by rfl)]
      go_simp
      refine hK.out _ _ (fun _ => hS) ?_; clear hK K
      try simp only [Act.put, List.setIfInBounds_toArray, List.set_cons_zero, List.set_cons_succ]
      refine wpAnyL_one 11 rfl rfl (by kernel_rfl) ?_; intro K hK; rw [if_pos (by rfl)]
      go_simp
      refine hK.out _ _ (fun _ => hS) ?_; clear hK K
      try simp only [Act.put, List.setIfInBounds_toArray, List.set_cons_zero, List.set_cons_succ]
      refine wpAnyL_one 12 rfl rfl (by kernel_rfl) ?_; intro K hK; rw [if_pos (by rfl)]
      go_simp
      refine hK.out _ _ (fun h => absurd rfl h) ?_; clear hK K
      refine wpAnyL_done (by kernel_rfl) ?_ _
      have e1 : (l' ++ [((⟨nm, dt, sy⟩ : Fl), Value.slice p5 dt.length c5)]).length = l'.length + 1 := by simp
      have hX9 : Bx (w7.setCell ⟨h, 0, none⟩ (.slice p7 (l'.length + 1) c7)) h [.slice p7 (l'.length + 1) c7] := hA8.setc 0 _
      have hO9 := HP.setCell (a := ⟨h, 0, none⟩) (by simp) (.slice p7 (l'.length + 1) c7)
      have hLF2 : (l' ++ [((⟨nm, dt, sy⟩ : Fl), Value.slice p5 dt.length c5)]).map (·.1) = fs.take (k + 1) := by rw [List.map_append, HLF.out, HTK.out]; rfl
      have hb9 : Below w.heap.size w w7 := (hb.trans (hb6.drew.mono hb.size)).trans (((alloc_below _ _).mono (by have := hb.size; omega)).trans (hb7.mono (by omega)))
      have hb9' : Below w.heap.size w (w7.setCell ⟨h, 0, none⟩ (.slice p7 (l'.length + 1) c7)) := hb9.setCell (by show w.heap.size ≤ h; exact hhw) _
      have hsz9 : h < (w7.setCell ⟨h, 0, none⟩ (.slice p7 (l'.length + 1) c7)).heap.size := by simp; omega
      have HE1 := Lib.hid e1
      clear hS hv0 hv1 hv2 hqf hqa hA7 hB7 hA8 hB8 HP hb9 e1
      generalize (w7.setCell ⟨h, 0, none⟩ (.slice p7 (l'.length + 1) c7)) = w9 at *
      go_wp2_with fail
      go_roundg (n - (k + 1))
      case measure => have := HGK.out; omega
      case rel =>
        rw [← HE1.out] at hX9 hO9
        exact ⟨k + 1, p7, c7, _, by go_num, by omega, Lib.hid hLF2, Lib.hid (by rw [HE1.out, HLL.out]), hX9, hO9, hb9', hsz9⟩
    · obtain rfl : k = n := by omega
      have hd1 : decide ((k : Int) < (k : Int)) = false := by simp
      have hd2 : decide (k < k) = false := by simp
      have hlf := HLF.out
      rw [List.take_of_length_le (by rw [HFL.out]; exact Nat.le_refl _), HFS.out] at hlf
      have HLF2 := Lib.hid hlf
      clear hlf
      go_wp2_with fail
      refine bodyPost_ret (results_tmp2 rfl _ _ _) rfl ?_
      exact ⟨h, rfl, p', c', l', HLF2, hhw, hsz, hX, hO, hb⟩
end Go.Proofs.YtmdbcknlipahgaaDoor
