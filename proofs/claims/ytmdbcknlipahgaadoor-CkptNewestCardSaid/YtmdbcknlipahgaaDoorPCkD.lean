/- The disks that checkpoints make: plain laws. No program walked. -/
import Derived.Test.YtmdbcknlipahgaaDoorOwn2
import Derived.ProofKit
import Derived.Test.YtmdbcknlipahgaaDoorPDisk
namespace Go.Proofs.YtmdbcknlipahgaaDoor
open Go.RowKit
def svN (n : Nat) : ByteArray := ⟨#[115, 97, 118, 101, 45, UInt8.ofNat (48 + n)]⟩
set_option maxHeartbeats 1000000 in
set_option maxRecDepth 100000 in
theorem small0 (w : World) : Calls Tryd.prog 84 #[.int .i64 0] w fun e w' => e = .returned (.string ⟨#[48]⟩) ∧ w = w' := by
  go_enter Tryd.func84, Tryd.ntmps84
  go_wp2_with fail
  go_ret
  exact ⟨rfl, rfl⟩
set_option maxHeartbeats 1000000 in
set_option maxRecDepth 100000 in
theorem fmt0 (w : World) : Calls Tryd.prog 72 #[.int .i64 0, .int .i64 10] w fun e w' => e = .returned (.string ⟨#[48]⟩) ∧ w = w' := by
  go_enter Tryd.func72, Tryd.ntmps72
  go_wp2_with fail
  refine (small0 _).mono ?_; rintro e w' ⟨rfl, rfl⟩
  go_wp2_with fail
  go_ret
  exact ⟨rfl, rfl⟩
set_option maxHeartbeats 1000000 in
set_option maxRecDepth 100000 in
theorem itoaI0 (w : World) : Calls Tryd.prog 55 #[.int .i64 0] w fun e w' => e = .returned (.string ⟨#[48]⟩) ∧ w = w' := by
  go_enter Tryd.func55, Tryd.ntmps55
  go_wp2_with fail
  refine (fmt0 _).mono ?_; rintro e w' ⟨rfl, rfl⟩
  go_wp2_with fail
  go_ret
  exact ⟨rfl, rfl⟩
set_option maxHeartbeats 1000000 in
set_option maxRecDepth 100000 in
theorem itoa0 (w : World) : Calls Tryd.prog 31 #[.int .i64 0] w fun e w' => e = .returned (.string ⟨#[48]⟩) ∧ w = w' := by
  go_enter Tryd.func31, Tryd.ntmps31
  go_wp2_with fail
  refine (itoaI0 _).mono ?_; rintro e w' ⟨rfl, rfl⟩
  go_wp2_with fail
  go_ret
  exact ⟨rfl, rfl⟩
set_option maxHeartbeats 1000000 in
set_option maxRecDepth 100000 in
theorem slot0 (w : World) : Calls Tryd.prog 50 #[.int .i64 0] w fun e w' => e = .returned (.string (svN 0)) ∧ w = w' := by
  go_enter Tryd.func50, Tryd.ntmps50
  go_wp2_with fail
  refine (itoa0 _).mono ?_; rintro e w' ⟨rfl, rfl⟩
  go_wp2_with fail
  go_ret
  exact ⟨rfl, rfl⟩
set_option maxHeartbeats 1000000 in
set_option maxRecDepth 100000 in
theorem small1 (w : World) : Calls Tryd.prog 84 #[.int .i64 1] w fun e w' => e = .returned (.string ⟨#[49]⟩) ∧ w = w' := by
  go_enter Tryd.func84, Tryd.ntmps84
  go_wp2_with fail
  go_ret
  exact ⟨rfl, rfl⟩
set_option maxHeartbeats 1000000 in
set_option maxRecDepth 100000 in
theorem fmt1 (w : World) : Calls Tryd.prog 72 #[.int .i64 1, .int .i64 10] w fun e w' => e = .returned (.string ⟨#[49]⟩) ∧ w = w' := by
  go_enter Tryd.func72, Tryd.ntmps72
  go_wp2_with fail
  refine (small1 _).mono ?_; rintro e w' ⟨rfl, rfl⟩
  go_wp2_with fail
  go_ret
  exact ⟨rfl, rfl⟩
set_option maxHeartbeats 1000000 in
set_option maxRecDepth 100000 in
theorem itoaI1 (w : World) : Calls Tryd.prog 55 #[.int .i64 1] w fun e w' => e = .returned (.string ⟨#[49]⟩) ∧ w = w' := by
  go_enter Tryd.func55, Tryd.ntmps55
  go_wp2_with fail
  refine (fmt1 _).mono ?_; rintro e w' ⟨rfl, rfl⟩
  go_wp2_with fail
  go_ret
  exact ⟨rfl, rfl⟩
set_option maxHeartbeats 1000000 in
set_option maxRecDepth 100000 in
theorem itoa1 (w : World) : Calls Tryd.prog 31 #[.int .i64 1] w fun e w' => e = .returned (.string ⟨#[49]⟩) ∧ w = w' := by
  go_enter Tryd.func31, Tryd.ntmps31
  go_wp2_with fail
  refine (itoaI1 _).mono ?_; rintro e w' ⟨rfl, rfl⟩
  go_wp2_with fail
  go_ret
  exact ⟨rfl, rfl⟩
set_option maxHeartbeats 1000000 in
set_option maxRecDepth 100000 in
theorem slot1 (w : World) : Calls Tryd.prog 50 #[.int .i64 1] w fun e w' => e = .returned (.string (svN 1)) ∧ w = w' := by
  go_enter Tryd.func50, Tryd.ntmps50
  go_wp2_with fail
  refine (itoa1 _).mono ?_; rintro e w' ⟨rfl, rfl⟩
  go_wp2_with fail
  go_ret
  exact ⟨rfl, rfl⟩
theorem slot_ok (n : Nat) (hn : n < 2) (w : World) : Calls Tryd.prog 50 #[.int .i64 (n : Int)] w fun e w' => e = .returned (.string (svN n)) ∧ w = w' := by
  obtain rfl | rfl : n = 0 ∨ n = 1 := by omega
  · exact slot0 w
  · exact slot1 w
end Go.Proofs.YtmdbcknlipahgaaDoor
namespace Go.Proofs.YtmdbcknlipahgaaDoor
open Go.RowKit
/-- three names -/
structure Nm3 (nx a b : ByteArray) : Prop where
  okx : NmOk nx
  oka : NmOk a
  okb : NmOk b
  xa : nx.toList ≠ a.toList
  xb : nx.toList ≠ b.toList
  ab : a.toList ≠ b.toList
/-- a file that is whole on the disk; one that is not -/
def whF (nm : ByteArray) (x : List Nat) : Fl := ⟨nm, x, x.length⟩
def nwF (nm : ByteArray) (x : List Nat) : Fl := ⟨nm, x, 0⟩
theorem Nm3.swap {nx a b : ByteArray} (h : Nm3 nx a b) : Nm3 nx b a := ⟨h.okx, h.okb, h.oka, h.xb, h.xa, h.ab.symm⟩
section
variable {nx a b : ByteArray} (h : Nm3 nx a b)
include h
omit h in
theorem ck_put0 (x : List Nat) : apF (rmF [] nx) nx x = [nwF nx x] := by
  simp [rmF, apF, ixF, nwF]
theorem ck_seal0 (x : List Nat) : reF (syF [nwF nx x] nx) nx a = [whF a x] := by
  have h1 := h.xa
  simp [reF, syF, rmF, ixF, whF, nwF, h1]
theorem ck_put1 (x y : List Nat) : apF (rmF [whF a x] nx) nx y = [whF a x, nwF nx y] := by
  have h1 := h.xa.symm
  simp [rmF, apF, ixF, whF, nwF, h1]
theorem ck_seal1 (x y : List Nat) : reF (syF [whF a x, nwF nx y] nx) nx b = [whF a x, whF b y] := by
  have h1 := h.xa.symm
  have h2 := h.xb
  have h3 := h.ab
  simp [reF, syF, rmF, ixF, whF, nwF, h1, h2, h3]
theorem ck_put2 (x y z : List Nat) : apF (rmF [whF a x, whF b y] nx) nx z = [whF a x, whF b y, nwF nx z] := by
  have h1 := h.xa.symm
  have h2 := h.xb.symm
  simp [rmF, apF, ixF, whF, nwF, h1, h2]
theorem ck_put3 (x y z : List Nat) (f : Fl) (hf : f.nm = nx) : apF (rmF [whF a x, whF b y, f] nx) nx z = [whF a x, whF b y, nwF nx z] := by
  have h1 := h.xa.symm
  have h2 := h.xb.symm
  simp [rmF, apF, ixF, whF, nwF, h1, h2, hf]
theorem ck_seal2 (x y z : List Nat) : reF (syF [whF a x, whF b y, nwF nx z] nx) nx a = [whF b y, whF a z] := by
  have h1 := h.xa.symm
  have h2 := h.xb.symm
  have h3 := h.ab.symm
  have h4 := h.xa
  simp [reF, syF, rmF, ixF, whF, nwF, h1, h2, h3, h4]
end
theorem crF_wh (nm : ByteArray) (x : List Nat) (k : Nat) : crF1 k (whF nm x) = whF nm x := by
  simp [crF1, whF]
theorem crF_nw (nm : ByteArray) (x : List Nat) (k : Nat) : (crF1 k (nwF nm x)).nm = nm ∧ (crF1 k (nwF nm x)).dt.length ≤ x.length := by
  simp [crF1, nwF]
  omega
theorem rdF_one (a : ByteArray) (x : List Nat) (l : List Fl) : rdF (whF a x :: l) a = some x := by
  simp [rdF, ixF, whF]
theorem rdF_two {a b : ByteArray} (h : a.toList ≠ b.toList) (x y : List Nat) (l : List Fl) : rdF (whF a x :: whF b y :: l) b = some y := by
  simp [rdF, ixF, whF, h]
/-- whole, or not yet: the files are such as a disk may hold -/
theorem flOk_wh {nm : ByteArray} (h : NmOk nm) {x : List Nat} (hx : AllB x) (hl : x.length ≤ 5000) : FlOk (whF nm x) := ⟨h, Nat.le_refl _, hl, hx⟩
theorem flOk_nw {nm : ByteArray} (h : NmOk nm) {x : List Nat} (hx : AllB x) (hl : x.length ≤ 5000) : FlOk (nwF nm x) := ⟨h, Nat.zero_le _, hl, hx⟩
theorem dk0 : DkOk [] := ⟨fun f hf => (by cases hf), List.Pairwise.nil, Nat.zero_le _⟩
theorem dk1 {f : Fl} (hf : FlOk f) : DkOk [f] := ⟨fun x hx => by rw [List.mem_singleton.1 hx]; exact hf, List.pairwise_singleton _ _, by simp⟩
theorem dk2 {f g : Fl} (hf : FlOk f) (hg : FlOk g) (h : f.nm.toList ≠ g.nm.toList) : DkOk [f, g] := by
  refine ⟨fun x hx => ?_, ?_, by simp⟩
  · simp at hx
    rcases hx with rfl | rfl
    · exact hf
    · exact hg
  · simp [h]
theorem dk3 {f g i : Fl} (hf : FlOk f) (hg : FlOk g) (hi : FlOk i) (h : f.nm.toList ≠ g.nm.toList) (h1 : f.nm.toList ≠ i.nm.toList) (h2 : g.nm.toList ≠ i.nm.toList) : DkOk [f, g, i] := by
  refine ⟨fun x hx => ?_, ?_, by simp⟩
  · simp at hx
    rcases hx with rfl | rfl | rfl
    · exact hf
    · exact hg
    · exact hi
  · simp [h, h1, h2]
theorem flOk_cr {f : Fl} (h : FlOk f) (k : Nat) : FlOk (crF1 k f) := by
  refine ⟨h.nm, ?_, ?_, fun x hx => ?_⟩
  · have := h.sy
    simp [crF1]
    omega
  · have := h.d
    simp [crF1]
    omega
  · exact h.b x (List.mem_of_mem_take hx)
theorem dk_rm {fs : List Fl} (h : DkOk fs) (nm : ByteArray) : DkOk (rmF fs nm) :=
  ⟨fun f hf => h.ok f (List.mem_filter.1 hf).1, h.one.filter _, Nat.le_trans (List.length_filter_le _ _) h.len⟩
theorem rm_ne {fs : List Fl} {nm : ByteArray} {f : Fl} (h : f ∈ rmF fs nm) : f.nm.toList ≠ nm.toList := by
  have := (List.mem_filter.1 h).2
  simpa using this
theorem ix_none {fs : List Fl} {nm : ByteArray} (h : ∀ f ∈ fs, f.nm.toList ≠ nm.toList) : ixF fs nm = fs.length :=
  ixF_eq (fun _ hi _ => h _ (List.getElem_mem hi)) (.inl rfl)
theorem ix_rm (fs : List Fl) (nm : ByteArray) : ixF (rmF fs nm) nm = (rmF fs nm).length := ix_none (fun _ h => rm_ne h)
theorem rm_miss {fs : List Fl} {nm : ByteArray} (h : ixF fs nm = fs.length) : rmF fs nm = fs := by
  unfold rmF
  rw [List.filter_eq_self]
  intro f hf
  obtain ⟨i, hi, rfl⟩ := List.mem_iff_getElem.1 hf
  have := ixF_before (l := fs) (nm := nm) (i := i) (by omega) hi
  simpa using this
theorem rm_len {fs : List Fl} {nm : ByteArray} : (rmF fs nm).length ≤ fs.length := List.length_filter_le _ _
theorem dk_sy {fs : List Fl} (h : DkOk fs) (nm : ByteArray) : DkOk (syF fs nm) := by
  unfold syF
  split
  · rename_i hi
    refine ⟨fun f hf => ?_, ?_, by rw [List.length_set]; exact h.len⟩
    · rcases List.mem_or_eq_of_mem_set hf with h1 | rfl
      · exact h.ok f h1
      · have := h.ok _ (List.getElem_mem hi)
        exact ⟨this.nm, Nat.le_refl _, this.d, this.b⟩
    · have e : (fs.set (ixF fs nm) { fs[ixF fs nm] with sy := fs[ixF fs nm].dt.length }).map (·.nm.toList) = fs.map (·.nm.toList) := by
        rw [List.map_set]
        apply List.ext_getElem?
        intro j
        rw [List.getElem?_set]
        split
        · rename_i e
          subst e
          rw [if_pos (by simpa using hi), List.getElem?_map, List.getElem?_eq_getElem hi]
          rfl
        · rfl
      have h1 : (fs.map (·.nm.toList)).Pairwise (· ≠ ·) := List.pairwise_map.2 h.one
      rw [← e] at h1
      exact List.pairwise_map.1 h1
  · exact h
theorem ix_sy (fs : List Fl) (nm : ByteArray) (h : ixF fs nm < fs.length) : ixF (syF fs nm) nm < (syF fs nm).length := by
  have hm : ∃ f ∈ syF fs nm, f.nm.toList = nm.toList := by
    unfold syF
    rw [dif_pos h]
    refine ⟨_, List.mem_set h _, ixF_at h⟩
  have hle := ixF_le (syF fs nm) nm
  rcases Nat.lt_or_ge (ixF (syF fs nm) nm) (syF fs nm).length with h1 | h1
  · exact h1
  · obtain ⟨f, hf, hn⟩ := hm
    obtain ⟨i, hi, rfl⟩ := List.mem_iff_getElem.1 hf
    exact absurd hn (ixF_before (by omega) hi)
end Go.Proofs.YtmdbcknlipahgaaDoor
