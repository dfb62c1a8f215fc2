/- The walk of board.Ready. -/
import Derived.Test.YtmadpjmlcooinaaBRead
import Derived.IntWalk
import Derived.WalkSmall
import Derived.OwnWalk
import Derived.BigQuiet
import Derived.Deep.QuietTactic
import Derived.Deep.LoopGhost
namespace Go.Proofs.Ytmadpjmlcooinaa
open Go.RowKit
/-- the sum of the first n -/
def smN (f : Nat → Nat) : Nat → Nat
  | 0 => 0
  | n + 1 => smN f n + f n
theorem smN_le {f : Nat → Nat} {b : Nat} (h : ∀ i, f i ≤ b) : ∀ n, smN f n ≤ b * n
  | 0 => Nat.le_refl _
  | n + 1 => by have h1 := smN_le h n; have h2 := h n; show smN f n + f n ≤ b * (n + 1); rw [Nat.mul_succ]; omega
/-- nobody reported for i -/
def MissI (rs : List Rp) (i : Nat) : Prop := ∀ r ∈ rs, r.wk ≠ i
def OffB (F : Nat → Rp) (i k : Nat) : Prop := (F i).sent.getD k 0 ≠ (F k).got.getD i 0
theorem ByOk.look {W b off : Nat} {rs : List Rp} {ps : List Value} {F : Nat → Rp} (h : ByOk W b off rs ps) (hF : ∀ r ∈ rs, r = F r.wk) {i : Nat} (hi : i < W) :
    (MissI rs i ∧ ps[i]? = some (.pointer none)) ∨ ∃ j, rs[j]? = some (F i) ∧ ¬ MissI rs i ∧ ps[i]? = some (.pointer (some ⟨b, off + j * 7, none⟩)) := by
  by_cases hm : MissI rs i
  · exact .inl ⟨hm, h.miss i hi hm⟩
  · unfold MissI at hm
    simp only [Classical.not_forall, ne_eq, Classical.not_not] at hm
    obtain ⟨r, hr, rfl⟩ := hm
    obtain ⟨j, hj, rfl⟩ := List.getElem_of_mem hr
    have he : rs[j]? = some rs[j] := List.getElem?_eq_getElem hj
    exact .inr ⟨j, by rw [← hF _ hr]; exact he, fun hm => hm _ hr rfl, h.hit j _ he⟩
theorem rp_at {w : World} {p : Option Addr} {c n b off j : Nat} {rs : List Rp} {r : Rp} (h : IsBd w (.slice p n c) rs) (hp : rs = [] ∨ p = some ⟨b, off, none⟩) (hj : rs[j]? = some r) :
    ∃ s g, (∀ k u, (rpC r s g)[k]? = some u → w.cell? ⟨b, off + j * 7 + k, none⟩ = some u) ∧ RpV w r s g := by
  obtain ⟨hl, he⟩ := List.getElem?_eq_some_iff.1 hj
  obtain ⟨b', off', s, g, he', hc, hv⟩ := h.get hl
  rcases hp with hp | hp
  · rw [hp] at hl; simp at hl
  · rw [hp] at he'; cases he'
    rw [he] at hc hv
    exact ⟨s, g, hc, hv⟩
theorem nts_getD {l : List Nat} {i : Nat} (h : i < l.length) : (nts l)[i]? = some (.int .i64 ((l.getD i 0 : Nat) : Int)) := nts_get h
def ReadyRet (W : Nat) (rs : List Rp) (F : Nat → Rp) (e : Ending) : Prop :=
  (e = .returned (.tuple #[.int .i64 0, .int .i64 0, .int .i64 12]) ∧ ((∃ i, i < W ∧ MissI rs i) ∨ ∃ i k, i < W ∧ k < W ∧ OffB F i k)) ∨
  (e = .returned (.tuple #[.int .i64 ((smN (fun i => (F i).wa) W : Nat) : Int), .int .i64 ((smN (fun i => (F i).op) W : Nat) : Int), .int .i64 0]) ∧ (∀ i, i < W → ¬ MissI rs i) ∧ ∀ i k, i < W → k < W → ¬ OffB F i k)
set_option maxHeartbeats 8000000 in
set_option maxRecDepth 100000 in
theorem ready_any (W c : Nat) (p : Option Addr) (rs : List Rp) (F : Nat → Rp) (w : World) (h : IsBd w (.slice p rs.length c) rs) (hB : BdOk W rs) (hF : ∀ r ∈ rs, r = F r.wk) (hW1 : 1 ≤ W) (hW : W ≤ 8) (hFb : ∀ i, (F i).wa ≤ 1000 ∧ (F i).op ≤ 1000) :
    Calls Try.prog 25 #[.agg #[.int .i64 (W : Int), .int .i64 2, .int .i64 3, .slice p rs.length c]] w fun e w' => ReadyRet W rs F e ∧ Below w.heap.size w w' := by
  have HRD := Lib.hid (fun W' (hb : Below w.heap.size w W') => bread_ok W c p rs W' (h.later hb) hB hW1 hW)
  have HL := Lib.hid h
  have HB := Lib.hid hB
  have HF := Lib.hid hF
  have HFB := Lib.hid hFb
  clear h hB hF hFb
  obtain ⟨n, hn⟩ : ∃ n, n = rs.length := ⟨_, rfl⟩
  rw [← hn] at HL HRD ⊢
  have HN := Lib.hid hn
  clear hn
  obtain ⟨b1, B1, z1⟩ := boxed0 w [.int .i64 (W : Int), .int .i64 2, .int .i64 3, .slice p n c] 56
  obtain ⟨hx0, hx1, hx2, hx3, _, _, _, _⟩ := B1.four
  go_enter Try.func25, Try.ntmps25
  go_wp2_with fail
  refine (HRD.out _ b1).mono ?_; rintro e w1 ⟨g, b, off, ps, hbo, rfl, ho, hby, hb1⟩
  have hw1 := b1.trans (hb1.mono (by omega))
  have hz0 : w.heap.size ≤ (w.alloc (.cells #[.int .i64 (W : Int), .int .i64 2, .int .i64 3, .slice p n c] 56)).heap.size - 1 := by omega
  have HBO := Lib.hid hbo
  have HBY := Lib.hid hby
  clear hx0 hx1 hx2 hx3 b1 B1 hb1 hbo hby
  generalize w.alloc (.cells #[.int .i64 (W : Int), .int .i64 2, .int .i64 3, .slice p n c] 56) = W0 at *
  have hgw : w.heap.size < g := by have := (ho.lt g rfl).1; omega
  go_wp2_with fail
  obtain ⟨wo, rfl⟩ : ∃ wo : World, wo = w1 := ⟨_, rfl⟩
  go_loopg [2, 3, 22] W (fun gk v2 v3 v22 wr => ∃ (k : Nat), v22 = .int .i64 (k : Int) ∧ k + gk = W ∧ v2 = .int .i64 0 ∧ v3 = .int .i64 0 ∧ Hid (∀ i, i < k → ¬ MissI rs i) ∧ wr.ownsRow (w.heap.size + 1) 105 1 (.slice (some ⟨g, 0, none⟩) W W) W ps ∧ Below w.heap.size w wr)
  case atStart => exact ⟨0, rfl, by omega, rfl, rfl, Lib.hid (fun i hi => absurd hi (by omega)), own_mono ho (by omega), hw1⟩
  case round =>
    clear ho hw1
    obtain ⟨k, rfl, hgk, rfl, rfl, HM, ho, hb⟩ := hrel
    have HGK := Lib.hid hgk
    have hk : k ≤ W := by omega
    clear hgk
    by_cases hlt : k < W
    · have hk0 : (0 : Int) ≤ (k : Int) := by omega
      have hkW : (k : Int) < (W : Int) := by omega
      have hd1 : decide ((k : Int) < (W : Int)) = true := by simp; omega
      have hd2 : decide (k < W) = true := by simp; omega
      have hc := ho.cellAt k (by omega)
      rcases HBY.out.look HF.out hlt with ⟨hm, hp⟩ | ⟨j, _, hj, hp⟩
      · rw [hp] at hc
        have HMM := Lib.hid hm
        clear hm hp
        go_wp2_with fail
        go_ret3
        exact ⟨.inl ⟨rfl, .inl ⟨k, hlt, HMM.out⟩⟩, hb⟩
      · rw [hp] at hc
        have HJ := Lib.hid hj
        clear hj hp
        go_wp2_with fail
        go_roundg (W - (k + 1))
        case measure => have := HGK.out; omega
        case rel =>
          refine ⟨k + 1, by go_num, by omega, rfl, rfl, Lib.hid (fun i hi => ?_), ho, hb⟩
          by_cases hik : i = k
          · rw [hik]; exact HJ.out
          · exact HM.out i (by omega)
    · obtain rfl : W = k := by omega
      have hd1 : decide ((W : Int) < (W : Int)) = false := by simp
      have hd2 : decide (W < W) = false := by simp
      go_wp2_with fail
      obtain ⟨wo, rfl⟩ : ∃ wo : World, wo = wr := ⟨_, rfl⟩
      go_loopg [2, 3, 31] W (fun gk v2 v3 v31 wr => ∃ (i : Nat), v31 = .int .i64 (i : Int) ∧ i + gk = W ∧ v2 = .int .i64 ((smN (fun i => (F i).wa) i : Nat) : Int) ∧ v3 = .int .i64 ((smN (fun i => (F i).op) i : Nat) : Int) ∧ Hid (∀ i', i' < i → ∀ k, k < W → ¬ OffB F i' k) ∧ wr.ownsRow (w.heap.size + 1) 105 1 (.slice (some ⟨g, 0, none⟩) W W) W ps ∧ Below w.heap.size w wr)
      case atStart => exact ⟨0, rfl, by omega, rfl, rfl, Lib.hid (fun i hi => absurd hi (by omega)), ho, hb⟩
      case round =>
        clear ho hb
        obtain ⟨i, rfl, hgi, rfl, rfl, HO, ho, hb⟩ := hrel
        have HGI := Lib.hid hgi
        have hi : i ≤ W := by omega
        clear hgi
        have hsw : smN (fun i => (F i).wa) i ≤ 8000 := Nat.le_trans (smN_le (b := 1000) (fun i => (HFB.out i).1) i) (by omega)
        have hso : smN (fun i => (F i).op) i ≤ 8000 := Nat.le_trans (smN_le (b := 1000) (fun i => (HFB.out i).2) i) (by omega)
        by_cases hli : i < W
        · have hi0 : (0 : Int) ≤ (i : Int) := by omega
          have hiW : (i : Int) < (W : Int) := by omega
          have hd3 : decide ((i : Int) < (W : Int)) = true := by simp; omega
          have hd4 : decide (i < W) = true := by simp; omega
          obtain ⟨j, hj, _, hp⟩ := (HBY.out.look HF.out hli).resolve_left (fun h => HM.out i hli h.1)
          have hc := ho.cellAt i (by omega)
          rw [hp] at hc
          have hok := (HB.out.now _ (List.mem_of_getElem? hj)).1
          have HRI := Lib.hid (fun (W' : World) (hb' : Below w.heap.size w W') => rp_at (HL.out.later hb') HBO.out hj)
          have hsl := hok.sl
          have hfw := hok.wa
          have hfo := hok.op
          clear hj hp hok
          go_wp2_with fail
          obtain ⟨wo, rfl⟩ : ∃ wo : World, wo = wr := ⟨_, rfl⟩
          go_loopg [2, 3, 38] W (fun gk v2 v3 v38 wr => ∃ (k : Nat), v38 = .int .i64 (k : Int) ∧ k + gk = W ∧ v2 = .int .i64 ((smN (fun i => (F i).wa) i : Nat) : Int) ∧ v3 = .int .i64 ((smN (fun i => (F i).op) i : Nat) : Int) ∧ Hid (∀ k', k' < k → ¬ OffB F i k') ∧ wr.ownsRow (w.heap.size + 1) 105 1 (.slice (some ⟨g, 0, none⟩) W W) W ps ∧ Below w.heap.size w wr)
          case atStart => exact ⟨0, rfl, by omega, rfl, rfl, Lib.hid (fun i hi => absurd hi (by omega)), ho, hb⟩
          case round =>
            clear ho hb hc
            obtain ⟨k, rfl, hgk, rfl, rfl, HK, ho, hb⟩ := hrel
            have HGK := Lib.hid hgk
            have hk : k ≤ W := by omega
            clear hgk
            obtain ⟨si, gi, hci, hvi⟩ := HRI.out _ hb
            by_cases hlk : k < W
            · have hk0 : (0 : Int) ≤ (k : Int) := by omega
              have hkW : (k : Int) < (W : Int) := by omega
              have hd5 : decide ((k : Int) < (W : Int)) = true := by simp; omega
              have hd6 : decide (k < W) = true := by simp; omega
              obtain ⟨j2, hj2, _, hp2⟩ := (HBY.out.look HF.out hlk).resolve_left (fun h => HM.out k hlk h.1)
              have hc := ho.cellAt k (by omega)
              rw [hp2] at hc
              obtain ⟨sk, gk', hck, hvk⟩ := rp_at (HL.out.later hb) HBO.out hj2
              have hgl := (HB.out.now _ (List.mem_of_getElem? hj2)).1.gl
              have hc1 := hci 3 _ rfl
              have hc2 := hck 4 _ rfl
              obtain ⟨p3, c3, rfl, hcc31, hcc32⟩ : ∃ p c, si = .slice p (F i).sent.length c ∧ (F i).sent.length ≤ c ∧ c ≤ 9223372036854775807 := by
                obtain ⟨p, c, hs, h1, h2, _⟩ := hvi.1
                exact ⟨p, c, hs, h1, by unfold maxLen at h2; omega⟩
              obtain ⟨p4, c4, rfl, hcc41, hcc42⟩ : ∃ p c, gk' = .slice p (F k).got.length c ∧ (F k).got.length ≤ c ∧ c ≤ 9223372036854775807 := by
                obtain ⟨p, c, hs, h1, h2, _⟩ := hvk.2
                exact ⟨p, c, hs, h1, by unfold maxLen at h2; omega⟩
              obtain ⟨b3, o3, rfl, hc3⟩ := hvi.1.get (nts_getD (l := (F i).sent) (i := k) (by omega))
              obtain ⟨b4, o4, rfl, hc4⟩ := hvk.2.get (nts_getD (l := (F k).got) (i := i) (by omega))
              rw [hsl] at hc1
              rw [hgl] at hc2
              have hoff : OffB F i k ↔ (F i).sent.getD k 0 ≠ (F k).got.getD i 0 := Iff.rfl
              have HOF := Lib.hid hoff
              clear hci hck hvi hvk hj2 hp2 hoff
              generalize (F i).sent.getD k 0 = x at *
              generalize (F k).got.getD i 0 = y at *
              by_cases hxy : x = y
              · subst hxy
                go_wp2_with (go_quiet (fail))
                go_roundg (W - (k + 1))
                case measure => have := HGK.out; omega
                case rel =>
                  refine ⟨k + 1, by go_num, by omega, rfl, rfl, Lib.hid (fun i' hi' => ?_), ho, below_drewN hb _⟩
                  by_cases hik : i' = k
                  · rw [hik, HOF.out]; exact fun h => h rfl
                  · exact HK.out i' (by omega)
              · have hxy' : ¬ ((x : Int) = (y : Int)) := by omega
                go_wp2_with (go_quiet (fail))
                go_ret3
                exact ⟨.inl ⟨rfl, .inr ⟨i, k, hli, hlk, HOF.out.2 hxy⟩⟩, below_drewN hb _⟩
            · obtain rfl : W = k := by omega
              have hd5 : decide ((W : Int) < (W : Int)) = false := by simp
              have hd6 : decide (W < W) = false := by simp
              have hc5 := hci 5 _ rfl
              have hc6 := hci 6 _ rfl
              have hsw2 : smN (fun i => (F i).wa) (i + 1) = smN (fun i => (F i).wa) i + (F i).wa := rfl
              have hso2 : smN (fun i => (F i).op) (i + 1) = smN (fun i => (F i).op) i + (F i).op := rfl
              have HS1 := Lib.hid hsw2
              have HS2 := Lib.hid hso2
              clear hsw2 hso2 hci hvi
              generalize smN (fun i => (F i).wa) i = sw at *
              generalize smN (fun i => (F i).op) i = so at *
              generalize (F i).wa = fw at *
              generalize (F i).op = fo at *
              have hw1 : IntKind.i64.wrap ((sw : Int) + (fw : Int)) = (sw : Int) + (fw : Int) := IntWalk.i64_in _ (by omega)
              have hw2 : IntKind.i64.wrap ((so : Int) + (fo : Int)) = (so : Int) + (fo : Int) := IntWalk.i64_in _ (by omega)
              go_wp2_with fail
              go_roundg (W - (i + 1))
              case measure => have := HGI.out; omega
              case rel =>
                refine ⟨i + 1, by go_num, by omega, by rw [HS1.out]; push_cast; rfl, by rw [HS2.out]; push_cast; rfl, Lib.hid (fun i' hi' => ?_), ho, hb⟩
                by_cases hik : i' = i
                · rw [hik]; exact HK.out
                · exact HO.out i' (by omega)
        · obtain rfl : W = i := by omega
          have hd3 : decide ((W : Int) < (W : Int)) = false := by simp
          have hd4 : decide (W < W) = false := by simp
          go_wp2_with fail
          go_ret3
          exact ⟨.inr ⟨rfl, HM.out, fun i k h1 h2 => HO.out i h1 k h2⟩, hb⟩
end Go.Proofs.Ytmadpjmlcooinaa
