/- The walk of queue.open, at a queue that may be. -/
import Derived.Test.YtcaolnpkpialdaaUnpack
import Derived.Test.YtcaolnpkpialdaaRR
import Derived.OwnWalk
namespace Go.Proofs.Ytcaolnpkpialdaa
open Go.RowKit Go.Sort Go.Proofs
theorem inf_bs : (Try.prog.info? 56).map (fun i => (i.zero, i.size, i.bytes)) = some (some (.slice none 0 0), 1, 24) := by kernel_rfl
theorem inf_ms : (Try.prog.info? 39).map (fun i => (i.zero, i.size, i.bytes)) = some (some (.slice none 0 0), 1, 24) := by kernel_rfl
/-- a queue: its budget, what lies loose, its runs -/
structure Qu where
  bud : Nat
  loose : List (Nat × Nat)
  runs : List (List (Nat × Nat))
def Qu.many (q : Qu) : Nat := q.loose.length + (q.runs.map List.length).sum
/-- a queue that may be -/
structure QuOk (q : Qu) : Prop where
  b1 : 1 ≤ q.bud
  b2 : q.bud ≤ 1000
  lt : q.loose.length < q.bud
  ok : ∀ m ∈ q.loose, okM m
  runs : ∀ r ∈ q.runs, RunOk r
  most : q.many ≤ 5000
/-- a queue's value, that may be read -/
def IsQ (w : World) (v : Value) (q : Qu) : Prop :=
  ∃ (p : Option Addr) (c : Nat) (p' : Option Addr) (c' : Nat), v = .agg #[.int .i64 (q.bud : Int), .slice p q.loose.length c, .slice p' q.runs.length c'] ∧ Sl w 2 (.slice p q.loose.length c) q.loose.length (mcs q.loose) ∧ IsRR (fun r => bys (packL r)) 1 (fun r => (packL r).length) w (.slice p' q.runs.length c') q.runs
theorem IsQ.later {w w' : World} {v : Value} {q : Qu} (h : IsQ w v q) (hb : Below w.heap.size w w') : IsQ w' v q := by
  obtain ⟨p, c, p', c', rfl, h1, h2⟩ := h
  exact ⟨p, c, p', c', rfl, h1.later hb, h2.later hb⟩
theorem sumL_take : ∀ (R : List (List (Nat × Nat))) (k : Nat), ((R.take k).map List.length).sum ≤ (R.map List.length).sum
  | [], k => by simp
  | r :: R, 0 => by simp
  | r :: R, k + 1 => by
    have := sumL_take R k
    simp only [List.take_succ_cons, List.map_cons, List.sum_cons]; omega
theorem sumL_succ {R : List (List (Nat × Nat))} {k : Nat} (h : k < R.length) : ((R.take (k + 1)).map List.length).sum = ((R.take k).map List.length).sum + R[k].length := by
  rw [List.take_succ_eq_append_getElem h, List.map_append, List.sum_append]; simp
theorem runs_le : ∀ (R : List (List (Nat × Nat))), (∀ r ∈ R, RunOk r) → R.length ≤ (R.map List.length).sum
  | [], _ => by simp
  | r :: R, h => by
    have h1 := runs_le R (fun x hx => h x (by simp [hx]))
    have h2 := (h r (by simp)).pos
    simp only [List.length_cons, List.map_cons, List.sum_cons]; omega
def mailRR : List (Nat × Nat) → List Value := mcs
set_option maxHeartbeats 8000000 in
set_option maxRecDepth 100000 in
theorem qopen_ok (v : Value) (q : Qu) (w : World) (hv : IsQ w v q) (hq : QuOk q) :
    Calls Try.prog 65 #[v] w fun e w' => ∃ p' c' vs, e = .returned (.tuple #[.slice p' q.runs.length c', .int .i64 (q.many : Int), .bool true]) ∧ Hid (OwnRR mcs 39 109 2 List.length w' w.heap.size (.slice p' q.runs.length c') q.runs.length q.runs vs) ∧ Below w.heap.size w w' := by
  obtain ⟨p, c, pr, cr, rfl, hl, hr⟩ := hv
  obtain ⟨bud, loose, runs⟩ := q
  obtain ⟨hb1, hb2, hlt, hok, hruns, hmost⟩ := hq
  dsimp only at hb1 hb2 hlt hok hruns hmost hl hr ⊢
  unfold Qu.many at hmost ⊢
  dsimp only at hmost ⊢
  obtain ⟨-, hlc, hlc63⟩ := hl.mlen
  obtain ⟨-, hrc, hrc63⟩ := hr.lens
  have hrl := runs_le runs hruns
  have HL := Lib.hid hl
  have HR := Lib.hid hr
  have HRO := Lib.hid hruns
  have HCF := Lib.hid (fun (W : World) (hW : Below w.heap.size w W) => qcontains_ok _ c p loose W (hl.later hW) hok)
  have HST := Lib.hid (fun k => sumL_take runs k)
  have HSS := Lib.hid (fun k (h : k < runs.length) => sumL_succ h)
  have HSE := Lib.hid (show ((runs.take runs.length).map List.length).sum = (runs.map List.length).sum by rw [List.take_length])
  obtain ⟨n, hn⟩ : ∃ n, n = loose.length := ⟨_, rfl⟩
  obtain ⟨m, hm⟩ : ∃ m, m = runs.length := ⟨_, rfl⟩
  have HM := Lib.hid hm
  rw [← hn] at hlt hlc hmost HCF HL ⊢
  rw [← hm] at hrc hrl HR HSE ⊢
  obtain ⟨t, ht⟩ : ∃ t, t = (runs.map List.length).sum := ⟨_, rfl⟩
  rw [← ht] at hmost hrl HSE ⊢
  have HT := Lib.hid ht
  clear hn hm ht hl hr hok hruns
  obtain ⟨b1, B1, z1⟩ := boxed0 w [.int .i64 (bud : Int), .slice p n c, .slice pr m cr] 86
  have HX := Lib.hid B1
  obtain ⟨hx0, hx1, hx2, _, _, _⟩ := B1.three
  have hd1 : decide ((bud : Int) < 1) = false := by simp; omega
  have hd1' : decide (bud < 1) = false := by simp; omega
  have hd2 : decide ((1000 : Int) < (bud : Int)) = false := by simp; omega
  have hd2' : decide (1000 < bud) = false := by simp; omega
  have hd3 : decide ((bud : Int) ≤ (n : Int)) = false := by simp; omega
  have hd3' : decide (bud ≤ n) = false := by simp; omega
  have hd4 : decide ((5000 : Int) < (m : Int)) = false := by simp; omega
  have hd4' : decide (5000 < m) = false := by simp; omega
  clear B1
  go_enter Try.func65, Try.ntmps65
  go_wp2_with fail
  generalize (w.alloc (.cells #[.int .i64 (bud : Int), .slice p n c, .slice pr m cr] 86)) = w1 at *
  obtain ⟨gx, hgx⟩ : ∃ gx, gx = w.heap.size := ⟨_, rfl⟩
  rw [← hgx] at HX ⊢
  clear hgx
  refine (HCF.out _ b1).mono ?_; rintro e w2 ⟨rfl, hb2'⟩
  have HX2 := Lib.hid (HX.out.next hb2')
  have hbw2 := b1.trans (hb2'.mono b1.size)
  clear hx0 hx1 hx2 hd1 hd1' hd2 hd2' hd3 hd3' hd4 hd4' b1 hb2' HX HCF
  obtain ⟨hx0, hx1, hx2, _, _, _⟩ := HX2.out.three
  go_wp2_with fail
  clear hx0 hx1 hx2 HX2
  go_loopg [5, 6, 42] m (fun gk v5 v6 v42 wr => ∃ (k a : Nat) (p' : Option Addr) (c' : Nat) (vs : List Value), v42 = .int .i64 (k : Int) ∧ k + gk = m ∧ v5 = .int .i64 (a : Int) ∧ Hid (a = n + ((runs.take k).map List.length).sum) ∧ v6 = .slice p' k c' ∧ Hid (OwnRR mcs 39 109 2 List.length wr w.heap.size (.slice p' k c') k (runs.take k) vs) ∧ Below w.heap.size w wr)
  case atStart => exact ⟨0, n, none, 0, [], rfl, by omega, rfl, Lib.hid (by simp), rfl, Lib.hid (OwnRR.nil _ _), hbw2⟩
  case round =>
    clear hbw2
    obtain ⟨k, a, p', c', vs, rfl, hgk, rfl, HA, rfl, HO, hb⟩ := hrel
    have HGK := Lib.hid hgk
    have hk : k ≤ m := by omega
    have hsz := hb.size
    clear hgk
    by_cases hlt : k < m
    · have hkl : k < runs.length := by have := HM.out; omega
      obtain ⟨bb, off, qr, dr, rfl, hc0, hsl⟩ := (HR.out.later hb).get hkl
      have hro := HRO.out _ (List.getElem_mem hkl)
      have hss := HSS.out k hkl
      have hst := HST.out (k + 1)
      have HTK := Lib.hid (show runs.take (k + 1) = runs.take k ++ [runs[k]] from List.take_succ_eq_append_getElem hkl)
      generalize runs[k] = r at hc0 hsl hro hss HTK
      have HUP := Lib.hid (unpack_ok _ dr qr r wr ⟨hsl, packL_bytes r⟩ hro)
      generalize (packL r).length = pl at *
      have hr1 := hro.le
      obtain ⟨u, hu⟩ : ∃ u, u = r.length := ⟨_, rfl⟩
      rw [← hu] at HUP hss hr1
      have HU := Lib.hid hu
      have hau : a + u ≤ 5000 := by have := HA.out; have := HT.out; omega
      have HA2 := Lib.hid (show a + u = n + ((runs.take (k + 1)).map List.length).sum by have := HA.out; omega)
      have hk0 : (0 : Int) ≤ (k : Int) := by omega
      have hkn : (k : Int) < (m : Int) := by omega
      have hd1 : decide ((k : Int) < (m : Int)) = true := by simp; omega
      have hd2 : decide (k < m) = true := by simp; omega
      have hd3 : decide ((5000 : Int) < (a : Int) + (u : Int)) = false := by simp; omega
      have hd4 : decide (5000 < a + u) = false := by simp; omega
      have hwa : IntKind.i64.wrap ((a : Int) + (u : Int)) = (a : Int) + (u : Int) := IntWalk.i64_in _ (by omega)
      clear hsl hro hss hst hu hlt
      go_wp2_with fail
      refine HUP.out.mono ?_; rintro e w5 ⟨p5, c5, rfl, ho5, hb5⟩
      have hbB := hb.trans (hb5.mono hsz)
      have hzB := hbB.size
      have HO5 := Lib.hid (HO.out.later hb5)
      have HU5 := Lib.hid ho5
      have HFAR := Lib.hid (fun k' (hk' : (Value.slice p5 u c5).ownBlock = some k') => (show (Value.slice p' k c').ownBlock ≠ some k' from fun e => by
        have h1 := (ho5.lt k' hk').1
        have h2 := (HO.out.outer.lt k' e).2
        omega))
      clear hc0 ho5 hb5
      go_wp2_with (at_builtin; refine wp_app1h (w0 := w) rfl _ _ _ rfl w.heap.size 39 Try.underlying43 inf_ms rfl (by decide) rfl HO5.out.outer (us := [_]) rfl rfl rfl (by simp [Value.oneCell']) (by unfold maxLen; omega) (by omega) hbB hzB ?_; intro p3 c3 w3 hown3 hb3 hsz3 hgr hblk; have HO3 := Lib.hid (OwnRR.push HO5.out hgr (r := r) (by rw [← HU.out]; exact own_mono HU5.out hsz) HFAR.out hown3 hblk); clear hown3)
      have HO6 := Lib.hid (show OwnRR mcs 39 109 2 List.length w3 w.heap.size (.slice p3 (k + 1) c3) (k + 1) (runs.take (k + 1)) _ by rw [HTK.out]; exact HO3.out)
      go_roundg (m - (k + 1))
      case measure => have := HGK.out; omega
      case rel => exact ⟨k + 1, a + u, p3, c3, _, by go_num, by omega, by go_num, HA2, rfl, HO6, hb3⟩
    · obtain rfl : m = k := by omega
      have hd1 : decide ((m : Int) < (m : Int)) = false := by simp
      have hd2 : decide (m < m) = false := by simp
      have hae : a = n + t := by have := HA.out; rw [List.take_of_length_le (by have := HM.out; omega), ← HT.out] at this; exact this
      have HO2 := Lib.hid (show OwnRR mcs 39 109 2 List.length wr w.heap.size (.slice p' m c') m runs vs by have := HO.out; rw [List.take_of_length_le (by have := HM.out; omega)] at this; exact this)
      have HAE := Lib.hid hae
      clear hlt hae HO
      go_wp2_with fail
      go_ret3
      exact ⟨p', c', vs, by rw [← HAE.out]; rfl, HO2, hb⟩
end Go.Proofs.Ytcaolnpkpialdaa
