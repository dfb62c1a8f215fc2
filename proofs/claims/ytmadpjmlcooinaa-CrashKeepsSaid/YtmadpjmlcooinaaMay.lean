/- The walk of disk.may. -/
import Derived.Test.YtmadpjmlcooinaaDk
import Derived.Maps.OwnSet
import Derived.Maps.Views
import Derived.WalkKit
import Derived.WalkSpells
import Derived.StringKeys
import Derived.Deep.LoopGhost
namespace Go.Proofs.Ytmadpjmlcooinaa
open Go.RowKit Go.Maps Go.ChangeMaps
def keyS (s : ByteArray) : Lit := .string s.data.toList
def seenD (l : List Fl) : DataW Unit := l.foldl (fun m f => m.put (keyS f.nm) (.agg [])) (.map [])
theorem seenD_snoc (l : List Fl) (f : Fl) : seenD (l ++ [f]) = (seenD l).put (keyS f.nm) (.agg []) := by simp [seenD, List.foldl_append]
theorem keyS_inj {a b : ByteArray} (h : keyS a = keyS b) : a = b := by
  unfold keyS at h
  injection h with h
  have h2 : a.data = b.data := Array.toList_inj.1 h
  exact ByteArray.ext h2
theorem seenD_has (s : ByteArray) (l : List Fl) (h : ∀ f ∈ l, f.nm ≠ s) : Maps.has (seenD l) (keyS s) = false := by
  have key : ∀ (l : List Fl) (m : DataW Unit), (∀ f ∈ l, f.nm ≠ s) → Maps.has (l.foldl (fun m f => m.put (keyS f.nm) (.agg [])) m) (keyS s) = Maps.has m (keyS s) := by
    intro l
    induction l with
    | nil => intro m _; rfl
    | cons f l ih =>
      intro m h
      show Maps.has (l.foldl _ (m.put (keyS f.nm) (.agg []))) (keyS s) = _
      rw [ih _ (fun x hx => h x (List.mem_cons_of_mem _ hx)), Maps.has_put_other (fun e => h f List.mem_cons_self (keyS_inj e).symm)]
  exact (key l (.map []) h).trans rfl
theorem lawS : Keyed Try.prog 9 := string_keyed Try.underlying9
theorem DkOk.apart {k : Nat} {fs : List Fl} (h : DkOk fs) (hk : k < fs.length) : ∀ f ∈ fs.take k, f.nm ≠ fs[k].nm := by
  suffices hs : ∀ f ∈ fs.take k, f.nm.toList ≠ fs[k].nm.toList from fun f hf e => hs f hf (by rw [e])
  intro r hr
  obtain ⟨j, hj, rfl⟩ := List.getElem_of_mem hr
  rw [List.length_take] at hj
  rw [List.getElem_take]
  exact List.pairwise_iff_getElem.1 h.one j k (by omega) hk (by omega)
set_option maxHeartbeats 4000000 in
set_option maxRecDepth 100000 in
theorem may_ok (v : Value) (l : List (Fl × Value)) (w : World) (h : RDk w 0 v l) (hD : DkOk (l.map (·.1))) :
    Calls Try.prog 50 #[.agg #[v]] w fun e w' => e = .returned (.bool true) ∧ Below w.heap.size w w' := by
  have hval := h.val
  obtain ⟨p, c, rfl, hcc1, hcc2⟩ := hval
  have hn40 := hD.len
  rw [List.length_map] at hn40
  have HL := Lib.hid h
  have HD := Lib.hid hD
  clear h hD
  obtain ⟨n, hn⟩ : ∃ n, n = l.length := ⟨_, rfl⟩
  rw [← hn] at hcc1 hn40 HL ⊢
  have HN := Lib.hid hn
  clear hn
  have hmm := @run_makeMap Try.prog
  obtain ⟨b1, B1, z1⟩ := boxed0 w [.slice p n c] 75
  have hx0 := B1.one
  go_enter Try.func50, Try.ntmps50
  go_wp2_with fail
  have hs1 : (w.alloc (.cells #[.slice p n c] 75)).heap.size = w.heap.size + 1 := by simp
  have hmap := World.ownsMap_made (w.alloc (.cells #[.slice p n c] 75)) Try.prog 9 (unitElem (H := Unit))
  have hXm := B1.alloc (.map #[] 0)
  have hbm := b1.trans ((alloc_below (w.alloc (.cells #[.slice p n c] 75)) (.map #[] 0)).mono (by omega))
  have hsm : w.heap.size + 1 < ((w.alloc (.cells #[.slice p n c] 75)).alloc (.map #[] 0)).heap.size := by simp
  rw [hs1] at hmap
  clear b1 B1 z1 hx0 hs1 hmm
  generalize ((w.alloc (.cells #[.slice p n c] 75)).alloc (.map #[] 0)) = W0 at *
  obtain ⟨fs, hfs⟩ : ∃ fs, fs = l.map (·.1) := ⟨_, rfl⟩
  rw [← hfs] at HD
  have hfl : fs.length = n := by rw [hfs, List.length_map]; exact HN.out.symm
  have HFL := Lib.hid hfl
  have HFS := Lib.hid hfs
  clear hfl hfs
  obtain ⟨mb, hmb⟩ : ∃ mb, mb = w.heap.size + 1 := ⟨_, rfl⟩
  rw [← hmb] at hmap hsm ⊢
  have hmw : w.heap.size < mb := by omega
  clear hmb
  go_loopg [14] n (fun gk v14 wr => ∃ k : Nat, v14 = .int .i64 (k : Int) ∧ k + gk = n ∧ wr.ownsMap Try.prog 9 (unitElem (H := Unit)) mb k (seenD (fs.take k)) ∧ Hid (Maps.size (seenD (fs.take k)) = k) ∧ Bx wr w.heap.size [.slice p n c] ∧ Below w.heap.size w wr)
  case atStart => exact ⟨0, rfl, by omega, hmap, Lib.hid (by rw [List.take_zero]; rfl), hXm, hbm⟩
  case round =>
    clear hmap hXm hbm
    obtain ⟨k, rfl, hgk, hM, HSZ, hX, hb⟩ := hrel
    have HGK := Lib.hid hgk
    have hk : k ≤ n := by omega
    clear hgk
    have hx0 := hX.one
    by_cases hlt : k < n
    · have hkl : k < l.length := by have := HN.out; omega
      have hkf : k < fs.length := by have := HFL.out; omega
      have hfk : fs[k] = l[k].1 := by simp only [HFS.out, List.getElem_map]
      have hap := HD.out.apart hkf
      have hok := HD.out.ok _ (List.getElem_mem hkf)
      rw [hfk] at hap hok
      have htk := List.take_succ_eq_append_getElem hkf
      rw [hfk] at htk
      obtain ⟨b, off, rfl, hc0, hc1, hc2, hdv⟩ := (HL.out.later hb).get hkl
      obtain ⟨q, d, hq, hdd1, hdd2⟩ := hdv.val
      have hhas := seenD_has l[k].1.nm (fs.take k) hap
      have hsz2 : Maps.size (seenD (fs.take (k + 1))) = k + 1 := by
        rw [htk, seenD_snoc, Maps.size_put (hM.tidy lawS), hhas, HSZ.out]; simp
      have HS2 := Lib.hid hsz2
      have HTK := Lib.hid (show seenD (fs.take (k + 1)) = (seenD (fs.take k)).put (keyS l[k].1.nm) (.agg []) by rw [htk, seenD_snoc])
      rw [hq] at hc1
      obtain ⟨⟨g1, g2, g5, g6⟩, g3, g4, _⟩ := hok
      clear hfk hap htk hhas hdv hq hsz2
      generalize l[k].2 = dv at *
      generalize l[k].1 = f at *
      obtain ⟨nm, dt, sy⟩ := f
      dsimp only at *
      have hk0 : (0 : Int) ≤ (k : Int) := by omega
      have hkn : (k : Int) < (n : Int) := by omega
      have hd1 : decide ((k : Int) < (n : Int)) = true := by simp; omega
      have hd2 : decide (k < n) = true := by simp; omega
      have hkey : keyOf Try.prog 9 (.string nm) = some (keyS nm) := WideMaps.keyOf_string_mk Try.underlying9 (by unfold maxLen; omega)
      have hq1 : ¬ (20 : Int) < (nm.size : Int) := by omega
      have hq2 : ¬ (sy : Int) < 0 := by omega
      have hq3 : ¬ (dt.length : Int) < (sy : Int) := by omega
      have hq4 : ¬ (100000 : Int) < (dt.length : Int) := by omega
      have hq5 : ¬ dt.length < sy := by omega
      have hq6 : ¬ 20 < nm.size := by omega
      have hq7 : ¬ 100000 < dt.length := by omega
      have hbA := alloc_below wr (.cells #[.string nm, .slice q dt.length d, .int .i64 (sy : Int)] 115)
      go_wp2_with (at_mapUpdate; refine wpList_mapUpdate_own _ rfl _ _ _ 124 rfl 9 125 lawS Try.underlying124 (unitElem (H := Unit)) mb k _ rfl (hM.alloc _) (by unfold maxLen; omega) _ _ _ rfl rfl hkey _ [] unitElem_mk ?_; intro w1 hown1 hgrow1)
      go_roundg (n - (k + 1))
      case measure => have := HGK.out; omega
      case rel =>
        rw [← HTK.out] at hown1
        exact ⟨k + 1, by go_num, by omega, hown1, HS2, (hX.alloc _).grown hgrow1 (fun e => by cases e; omega), (hb.trans (hbA.mono hb.size)).grown hgrow1 (Nat.le_trans hb.size hbA.size) (fun j e => by cases e; omega)⟩
    · obtain rfl : k = n := by omega
      have hd1 : decide ((k : Int) < (k : Int)) = false := by simp
      have hd2 : decide (k < k) = false := by simp
      have hsz := HSZ.out
      rw [List.take_of_length_le (by rw [HFL.out]; exact Nat.le_refl _)] at hM hsz
      go_wp2_with (at_len; refine wpList_len_own _ rfl _ 124 rfl 9 125 Try.underlying124 _ mb k _ rfl hM ?_)
      go_ret
      exact ⟨rfl, hb⟩
end Go.Proofs.Ytmadpjmlcooinaa
