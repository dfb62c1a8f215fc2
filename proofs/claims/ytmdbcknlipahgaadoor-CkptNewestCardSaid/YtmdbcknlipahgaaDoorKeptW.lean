/- The walk of pacelinekeep.kept: what may be saved, of raw numbers. Printed by genkept.py. -/
import Derived.Test.YtmdbcknlipahgaaDoorPCkpt
import Derived.Test.YtmdbcknlipahgaaDoorPosts
import Derived.Test.YtmdbcknlipahgaaDoorRead
import Derived.Deep.Fields
import Derived.ChangeSame
import Derived.Test.YtmdbcknlipahgaaDoorDecode
import Derived.Deep.DeepCutAuto
import Derived.Deep.RegionHeld3
namespace Go.Proofs.YtmdbcknlipahgaaDoor
open Go.RowKit Go.Sort Go.Proofs
/-- raw numbers -/
structure KeptR where
  step : Int
  phase : Int
  fresh : Bool
  values : List (List Int)
  mail : List (List Int)
def valOf (r : List Int) : Nat × Nat := (pickN (r.getD 1 0) 4398046511106, pickN (r.getD 0 0) 201)
def valsL (raw : List (List Int)) : List (Nat × Nat) := (raw.take 10).map valOf
def keptS (x : KeptR) : Sv := ⟨pickN x.step 100001, pickN x.phase 2, x.fresh, valsL x.values, srt cfM (postsL x.mail 20)⟩
theorem srtM_twice (l : List (Nat × Nat)) : srt cfM (srt cfM l) = srt cfM l := srt_perm_eq swoM totM (srt_perm l)
theorem postsL_mem (raw : List (List Int)) (m : Nat) : ∀ x ∈ postsL raw m, x.1 < 6 ∧ x.2 < 1000 := fun x hx => by
  unfold postsL at hx
  obtain ⟨r, _, rfl⟩ := List.mem_map.1 hx
  exact ⟨pickN_lt _ (by decide), pickN_lt _ (by decide)⟩
theorem valsL_mem (raw : List (List Int)) : ∀ x ∈ valsL raw, x.1 < 4398046511106 ∧ x.2 < 201 := fun x hx => by
  unfold valsL at hx
  obtain ⟨r, _, rfl⟩ := List.mem_map.1 hx
  exact ⟨pickN_lt _ (by decide), pickN_lt _ (by decide)⟩
theorem keptS_mail (x : KeptR) : ∀ m ∈ (keptS x).mail, m.1 < 6 ∧ m.2 < 1000 := fun m hm => postsL_mem x.mail 20 m ((srt_perm (cf := cfM) _).mem_iff.1 hm)
theorem keptS_mail_len (x : KeptR) : (keptS x).mail.length = min x.mail.length 20 := by
  show (srt cfM (postsL x.mail 20)).length = _
  rw [srt_len]
  simp [postsL, Nat.min_comm]
theorem keptS_vals_len (x : KeptR) : (keptS x).vals.length ≤ 10 := by
  show (valsL x.values).length ≤ 10
  unfold valsL
  rw [List.length_map, List.length_take]
  omega
theorem keptS_ok (x : KeptR) : SvOk (keptS x) := by
  refine ⟨⟨?_, ?_, ?_, ?_, ?_, ?_⟩, srtM_twice _⟩
  · have := pickN_lt x.step (m := 100001) (by decide)
    show pickN x.step 100001 ≤ 100000
    omega
  · have := pickN_lt x.phase (m := 2) (by decide)
    show pickN x.phase 2 ≤ 1
    omega
  · have := keptS_vals_len x; omega
  · have := keptS_mail_len x; omega
  · intro v hv
    have := valsL_mem x.values v hv
    omega
  · intro m hm
    have := keptS_mail x m hm
    unfold okM
    omega
theorem pairL_len_le {l : List (Nat × Nat)} {k : Nat} (h : ∀ m ∈ l, (put m.1).length + (put m.2).length ≤ k) : (pairL l).length ≤ l.length * k := by
  induction l with
  | nil => simp [pairL]
  | cons a l ih =>
    have h1 := h a (by simp)
    have h2 := ih (fun m hm => h m (by simp [hm]))
    have e : (pairL (a :: l)).length = (put a.1).length + (put a.2).length + (pairL l).length := by simp [pairL]; omega
    rw [e, List.length_cons, Nat.succ_mul]
    omega
theorem keptS_enc (x : KeptR) : (encL (keptS x)).length ≤ 400 := by
  have h1 : (pairL (keptS x).vals).length ≤ (keptS x).vals.length * 9 := pairL_len_le (fun m hm => by
    have := valsL_mem x.values m hm
    have a := put_len_le 6 m.1 (by omega)
    have b := put_len_le 1 m.2 (by omega)
    omega)
  have h2 : (pairL (keptS x).mail).length ≤ (keptS x).mail.length * 4 := pairL_len_le (fun m hm => by
    have := keptS_mail x m hm
    have a := put_len_le 1 m.1 (by omega)
    have b := put_len_le 1 m.2 (by omega)
    omega)
  have hv := keptS_vals_len x
  have hm := keptS_mail_len x
  have hok := (keptS_ok x).1
  have a1 := put_len_le 2 (keptS x).step (by have := hok.step; omega)
  have a2 := put_len_le 1 (keptS x).phase (by have := hok.phase; omega)
  have a3 := put_len_le 1 (b01 (keptS x).fresh) (by unfold b01; split <;> omega)
  have a4 := put_len_le 1 (keptS x).vals.length (by omega)
  have a5 := put_len_le 1 (keptS x).mail.length (by omega)
  unfold encL
  simp only [List.length_append]
  omega
end Go.Proofs.YtmdbcknlipahgaaDoor
namespace Go.Proofs.YtmdbcknlipahgaaDoor
open Go.ChangeShapes Go.WideShapes Go.RowKit Go.Deep
/-- raw numbers that may be read -/
def IsKp (w : World) (v : Value) (x : KeptR) : Prop :=
  ∃ v3 v4, v = .agg #[.int .i64 x.step, .int .i64 x.phase, .bool x.fresh, v3, v4] ∧ IsR 2 w v3 x.values ∧ IsR 2 w v4 x.mail ∧ (-9223372036854775808 ≤ x.step ∧ x.step ≤ 9223372036854775807) ∧ (-9223372036854775808 ≤ x.phase ∧ x.phase ≤ 9223372036854775807)
theorem IsKp.later {w w' : World} {v : Value} {x : KeptR} (h : IsKp w v x) (hb : Below w.heap.size w w') : IsKp w' v x := by
  obtain ⟨v3, v4, rfl, h1, h2, h3, h4⟩ := h
  exact ⟨v3, v4, rfl, h1.later hb, h2.later hb, h3, h4⟩
set_option maxRecDepth 100000 in
theorem isPosts_of {H : Type} {enc : TypeId × Value → H} {w : World} {base : Nat} {spare : Nat → Bool} {held : Bool} {v : Value} {n : Nat} {y : DataW H × List MemPlace}
    (h : DataW.trod enc Tryd.prog w base spare held n 45 [v] = some y) : ∃ l, IsR 2 w v l := by
  have hv : ∃ a len cap, v = .slice a len cap := by
    rcases DataW.trod_slice Tryd.underlying45 h with ⟨hc, _⟩ | ⟨a, len, cap, _, _, _, _, hc, _⟩
    · exact ⟨none, 0, 0, by simpa using hc⟩
    · exact ⟨some a, len, cap, by simpa using hc⟩
  obtain ⟨a, len, cap, rfl⟩ := hv
  exact isR_of (k := 2) (d := y.1) (pl := y.2) Tryd.underlying45 Tryd.underlying94 rfl (by decide) (by kernel_rfl) (by kernel_rfl) (fun j f hj => by
    rcases j with _ | _ | _ <;> simp at hj <;> subst hj <;> exact Tryd.underlying3) ⟨n, by simpa [Value.cells] using h⟩
set_option maxRecDepth 100000 in
theorem isKp_of {H : Type} {enc : TypeId × Value → H} {w : World} {base b0 : Nat} {r : Reach} {spare : Nat → Bool} {held : Bool} {v : Value} {d : DataW H} {pl : List MemPlace}
    (hv : Value.okWide Tryd.prog w r b0 47 v) (h : DataW.Trod enc Tryd.prog w base spare held 47 v d pl) : ∃ x, IsKp w v x := by
  obtain ⟨cs, rfl, hsz⟩ := okWide_struct Tryd.underlying47 hv
  have h5 : cs.size = 5 := hsz.trans (by kernel_rfl)
  obtain ⟨l⟩ := cs
  match l, h5 with
  | [c0, c1, c2, c3, c4], _ =>
    obtain ⟨fuel, hf⟩ := h
    obtain ⟨xs, n, _, hx, _, hlen, hg⟩ := DataW.trod_struct Tryd.underlying47 hf
    match xs, hlen with
    | [y0, y1, y2, y3, y4], _ =>
      have g0 := hg 0 _ rfl
      have g1 := hg 1 _ rfl
      have g2 := hg 2 _ rfl
      have g3 := hg 3 _ rfl
      have g4 := hg 4 _ rfl
      have e1 : Tryd.prog.cellsOf 3 = 1 := by kernel_rfl
      have e2 : Tryd.prog.cellsOf 4 = 1 := by kernel_rfl
      have e3 : Tryd.prog.cellsOf 45 = 1 := by kernel_rfl
      simp [Value.cells, e1, e2, e3] at g0 g1 g2 g3 g4
      obtain ⟨s, h0, _, w0⟩ := DataW.trod_int Tryd.underlying3 g0
      obtain ⟨ph, h1, _, w1⟩ := DataW.trod_int Tryd.underlying3 g1
      obtain ⟨fr, h2, _⟩ := DataW.trod_bool Tryd.underlying4 g2
      obtain ⟨l3, h3⟩ := isPosts_of g3
      obtain ⟨l4, h4⟩ := isPosts_of g4
      cases h0
      cases h1
      cases h2
      exact ⟨⟨s, ph, fr, l3, l4⟩, c3, c4, rfl, h3, h4, by simpa [Lit.wf, IntKind.min, IntKind.max, IntKind.signed, IntKind.bits] using w0, by simpa [Lit.wf, IntKind.min, IntKind.max, IntKind.signed, IntKind.bits] using w1⟩
end Go.Proofs.YtmdbcknlipahgaaDoor
namespace Go.Proofs.YtmdbcknlipahgaaDoor
open Go.RowKit Go.Sort Go.Proofs
theorem inf_val : (Tryd.prog.info? 96).map (fun i => (i.zero, i.size, i.bytes)) = some (some (.agg #[.int .i64 0, .int .i64 0]), 2, 16) := by kernel_rfl
theorem Bx.set5 {w : World} {g : Nat} {a b c d e : Value} (h : Bx w g [a, b, c, d, e]) (i : Nat) (u : Value) : Bx (w.setCell ⟨g, i, none⟩ u) g ([a, b, c, d, e].set i u) := h.setc i u
set_option maxHeartbeats 8000000 in
set_option maxRecDepth 100000 in
theorem kept_ok (v : Value) (x : KeptR) (w : World) (hv : IsKp w v x) :
    Calls Tryd.prog 17 #[v] w fun e w' => ∃ v', e = .returned v' ∧ OwnSv w' w.heap.size v' (keptS x) ∧ Below w.heap.size w w' := by
  obtain ⟨v3, v4, rfl, h3, h4, ⟨hs0, hs1⟩, ⟨hp0, hp1⟩⟩ := hv
  obtain ⟨p3, c3, rfl⟩ := h3.val
  obtain ⟨p4, c4, rfl⟩ := h4.val
  obtain ⟨-, hc31, hc32⟩ := h3.lens
  obtain ⟨-, hc41, hc42⟩ := h4.lens
  have HL := Lib.hid h3
  have HPO := Lib.hid (fun (W : World) (hW : Below w.heap.size w W) => (show Calls Tryd.prog 39 #[.slice p4 x.mail.length c4, .int .i64 20] W _ from posts_any p4 c4 x.mail.length x.mail 20 W (h4.later hW) (by omega)))
  have hpm : (postsL x.mail 20).length ≤ 5000 := by
    unfold postsL; rw [List.length_map, List.length_take]; omega
  have HSO := Lib.hid (fun (q : Option Addr) (d : Nat) (W : World) (h : Sl W 2 (.slice q (postsL x.mail 20).length d) (postsL x.mail 20).length (mcs (postsL x.mail 20))) => sorted_ok (postsL x.mail 20).length d q (postsL x.mail 20) W h hpm)
  have HPS := Lib.hid (fun W => picked_i x.step 100001 100001 W rfl hs0 hs1 (by omega) (by omega))
  have HPP := Lib.hid (fun W => picked_i x.phase 2 2 W rfl hp0 hp1 (by omega) (by omega))
  have HKS := Lib.hid (show keptS x = ⟨pickN x.step 100001, pickN x.phase 2, x.fresh, valsL x.values, srt cfM (postsL x.mail 20)⟩ from rfl)
  have hpl : (valsL x.values).length = min 10 x.values.length := by simp [valsL]
  have hlm1 : (valsL x.values).length ≤ 10 := by omega
  have hlm2 : (valsL x.values).length ≤ x.values.length := by omega
  have hlm3 : (valsL x.values).length < x.values.length → 10 ≤ (valsL x.values).length := by omega
  have HTL := Lib.hid hpl
  have HTT := Lib.hid (show ∀ k (h : k < x.values.length), k < 10 → (valsL x.values)[k]? = some (valOf x.values[k]) from fun k h h10 => by
    unfold valsL
    rw [List.getElem?_map, List.getElem?_take_of_lt h10, List.getElem?_eq_getElem h]; rfl)
  clear h3 h4 hpl hs0 hs1 hp0 hp1
  generalize keptS x = KS at *
  generalize pickN x.step 100001 = st at *
  generalize pickN x.phase 2 = ph at *
  generalize valsL x.values = T at *
  generalize postsL x.mail 20 = PM at *
  obtain ⟨xs, xp, fr, raw, rawm⟩ := x
  dsimp only at *
  obtain ⟨b1, B1, z1⟩ := boxed0 w [.int .i64 xs, .int .i64 xp, .bool fr, .slice p3 raw.length c3, .slice p4 rawm.length c4] 47
  have hs1 : (w.alloc (.cells #[.int .i64 xs, .int .i64 xp, .bool fr, .slice p3 raw.length c3, .slice p4 rawm.length c4] 47)).heap.size = w.heap.size + 1 := by simp
  obtain ⟨b2, B2, z2⟩ := boxed0 (w.alloc (.cells #[.int .i64 xs, .int .i64 xp, .bool fr, .slice p3 raw.length c3, .slice p4 rawm.length c4] 47)) [.int .i64 0, .int .i64 0, .bool false, .slice none 0 0, .slice none 0 0] 51
  have hs2 : ((w.alloc (.cells #[.int .i64 xs, .int .i64 xp, .bool fr, .slice p3 raw.length c3, .slice p4 rawm.length c4] 47)).alloc (.cells #[.int .i64 0, .int .i64 0, .bool false, .slice none 0 0, .slice none 0 0] 51)).heap.size = w.heap.size + 2 := by simp
  have hb0 : Below w.heap.size w _ := b1.trans (b2.mono (by omega))
  have X1 := B1.next b2
  rw [hs1] at B2
  have HX := Lib.hid X1
  have HZ := Lib.hid B2
  have HB0 := Lib.hid hb0
  have HS2 := Lib.hid hs2
  obtain ⟨hx0, hx1, hx2, hx3, hx4⟩ := X1.five
  clear b1 b2 B1 B2 X1 z1 z2 hs1 hs2 hb0
  go_enter Tryd.func17, Tryd.ntmps17
  go_upto_region 1 with fail
  generalize ((w.alloc (.cells #[.int .i64 xs, .int .i64 xp, .bool fr, .slice p3 raw.length c3, .slice p4 rawm.length c4] 47)).alloc (.cells #[.int .i64 0, .int .i64 0, .bool false, .slice none 0 0, .slice none 0 0] 51)) = W0 at *
  go_cut [3] (fun s3 wx => s3 = .pointer (some ⟨w.heap.size + 2, 0, none⟩) ∧ Hid (Bx wx (w.heap.size + 2) [.int .i64 (st : Int), .int .i64 (ph : Int), .bool fr, .slice none 0 0, .slice none 0 0]) ∧ Hid (Below W0.heap.size W0 wx))
  case first =>
    go_region_held3 (fun w' => w'.cell? ⟨w.heap.size, 0, none⟩ = some (Value.int .i64 xs) ∧ w'.cell? ⟨w.heap.size, 1, none⟩ = some (Value.int .i64 xp) ∧ w'.cell? ⟨w.heap.size, 2, none⟩ = some (Value.bool fr)) (first | (exact ⟨hx0, hx1, hx2⟩) | go_keep)
      (first
        | (go_at_call_of 18 (Value.int .i64 100001); refine (HPS.out _).mono ?_; rintro e wn ⟨rfl, rfl⟩)
        | (go_at_call_of 18 (Value.int .i64 2); refine (HPP.out _).mono ?_; rintro e wn ⟨rfl, rfl⟩)
        | fail)
    all_goals go_wp2_with fail
    all_goals go_meet
    all_goals exact ⟨by rw [HS2.out], Lib.hid (by rw [← HS2.out]; exact bx_new W0 [.int .i64 (st : Int), .int .i64 (ph : Int), .bool fr, .slice none 0 0, .slice none 0 0] 51), Lib.hid ((Below.refl _ W0).drew.alloc (Nat.le_refl _) _)⟩
  case rest =>
  obtain ⟨rfl, HB7, HBC⟩ := hcut
  obtain ⟨w1, rfl⟩ : ∃ w1 : World, w1 = wc := ⟨_, rfl⟩
  have HB5 := Lib.hid (HX.out.next HBC.out)
  have HB6 := Lib.hid (HZ.out.next HBC.out)
  have HBW := Lib.hid (HB0.out.trans (HBC.out.mono HB0.out.size))
  have HSZ := Lib.hid (show w.heap.size + 3 ≤ w1.heap.size from by have := HB7.out.lt; omega)
  clear HX HZ HB0 HBC HS2 hx0 hx1 hx2 hx3 hx4 HPS HPP
  go_wp2_with fail
  go_loopg [4] T.length (fun gk v4 wr => ∃ (k : Nat) (p' : Option Addr) (c' : Nat), v4 = .int .i64 (k : Int) ∧ k + gk = T.length ∧ Hid (Bx wr w.heap.size [.int .i64 xs, .int .i64 xp, .bool fr, .slice p3 raw.length c3, .slice p4 rawm.length c4]) ∧ Hid (Bx wr (w.heap.size + 1) [.int .i64 0, .int .i64 0, .bool false, .slice none 0 0, .slice none 0 0]) ∧ Hid (Bx wr (w.heap.size + 2) [.int .i64 (st : Int), .int .i64 (ph : Int), .bool fr, .slice p' k c', .slice none 0 0]) ∧ wr.ownsRow (w.heap.size + 3) 96 2 (.slice p' k c') k (vcs (T.take k)) ∧ Below w.heap.size w wr ∧ w.heap.size + 3 ≤ wr.heap.size)
  case atStart => exact ⟨0, none, 0, rfl, by omega, HB5, HB6, HB7, World.ownsRow_nil _ _ _ _, HBW.out, HSZ.out⟩
  case round =>
    clear HB5 HB6 HB7 HBW HSZ
    obtain ⟨k, p', c', rfl, hgk, HB5, HB6, HB7, hown, hb, hsz⟩ := hrel
    have HGK := Lib.hid hgk
    have hk : k ≤ T.length := by omega
    clear hgk
    obtain ⟨hx0, hx1, hx2, hx3, hx4⟩ := HB5.out.five
    obtain ⟨hy0, hy1, hy2, hy3, hy4⟩ := HB7.out.five
    by_cases hlt : k < T.length
    · have hkl : k < raw.length := by omega
      have hkm2 : k < 10 := by omega
      have hTk := HTT.out k hkl hkm2
      have hrow := HL.out.2 _ (List.getElem_mem hkl)
      obtain ⟨hr2, hrb⟩ := hrow
      have h0 : (raw[k])[0]? = some ((raw[k]).getD 0 0) := by rw [List.getD_eq_getElem?_getD, List.getElem?_eq_getElem (by omega)]; rfl
      have h1 : (raw[k])[1]? = some ((raw[k]).getD 1 0) := by rw [List.getD_eq_getElem?_getD, List.getElem?_eq_getElem (by omega)]; rfl
      have hb0 := hrb _ (List.mem_of_getElem? h0)
      have hb1 := hrb _ (List.mem_of_getElem? h1)
      obtain ⟨b, off, rfl, hcw0⟩ := HL.out.get hkl h0
      obtain ⟨b', off', hbe, hcw1⟩ := HL.out.get hkl h1
      cases hbe
      have hbw : b < w.heap.size := World.block_lt_of_cell? w _ hcw0
      rw [Nat.add_zero] at hcw0
      rw [show off + (k * 2 + 1) = off + k * 2 + 1 from rfl] at hcw1
      have HC := Lib.hid (fun (W : World) (h : Below w.heap.size w W) => (⟨(h.cell (p := ⟨b, off + k * 2, none⟩) hbw).trans hcw0, (h.cell (p := ⟨b, off + k * 2 + 1, none⟩) hbw).trans hcw1⟩ : W.cell? ⟨b, off + k * 2, none⟩ = some _ ∧ W.cell? ⟨b, off + k * 2 + 1, none⟩ = some _))
      obtain ⟨hc0, hc1⟩ := HC.out wr hb
      unfold valOf at hTk
      generalize (raw[k]).getD 0 0 = x0 at hb0 hc0 hTk HC
      generalize (raw[k]).getD 1 0 = x1 at hb1 hc1 hTk HC
      have HPX := Lib.hid (fun W => picked_i x1 4398046511106 4398046511106 W rfl hb1.1 hb1.2 (by omega) (by omega))
      have HPY := Lib.hid (fun W => picked_i x0 201 201 W rfl hb0.1 hb0.2 (by omega) (by omega))
      have hX := pickN_lt x1 (m := 4398046511106) (by omega)
      have hY := pickN_lt x0 (m := 201) (by omega)
      generalize pickN x1 4398046511106 = X at HPX hTk hX
      generalize pickN x0 201 = Y at HPY hTk hY
      have HTK := Lib.hid hTk
      have hd1 : decide ((k : Int) < (raw.length : Int)) = true := by simp <;> omega
      have hd2 : decide ((k : Int) < 10) = true := by simp <;> omega
      have hd3 : decide (k < raw.length) = true := by simp <;> omega
      have hd4 : decide (k < 10) = true := by simp <;> omega
      have hk0 : (0 : Int) ≤ (k : Int) := by omega
      have hk1 : (k : Int) < (raw.length : Int) := by omega
      have hwX : IntKind.i64.wrap ((X : Int) - 1) = (X : Int) - 1 := IntWalk.i64_in _ (by omega)
      have hwY : IntKind.i64.wrap ((Y : Int) - 1) = (Y : Int) - 1 := IntWalk.i64_in _ (by omega)
      have hF5 := own_far hown (g := w.heap.size) (by omega)
      have hF6 := own_far hown (g := w.heap.size + 1) (by omega)
      have hF7 := own_far hown (g := w.heap.size + 2) (by omega)
      clear h0 h1 hrb hr2 hTk hcw0 hcw1
      go_upto_region 5 with fail
      obtain ⟨S, hSI⟩ : ∃ S : World → Prop, ∀ w', S w' ↔ (w'.cell? ⟨b, off + k * 2, none⟩ = some (Value.int .i64 x0) ∧ w'.cell? ⟨b, off + k * 2 + 1, none⟩ = some (Value.int .i64 x1) ∧ w'.cell? ⟨w.heap.size, 3, none⟩ = some (Value.slice (some ⟨b, off, none⟩) raw.length c3) ∧ w'.cell? ⟨w.heap.size + 2, 3, none⟩ = some (Value.slice p' k c')) := ⟨fun w' => _, fun w' => Iff.rfl⟩
      have HSI := Lib.hid hSI
      clear hSI
      refine wp_region_L S 22 (by kernel_rfl) ((HSI.out _).2 ⟨hc0, hc1, hx3, hy3⟩) (fun hS => ?_)
      refine wpAnyL_take 0 (v := ?_) rfl rfl (by kernel_rfl) (by kernel_rfl) (by kernel_rfl) (by kernel_rfl) (fun _ _ _ h => h) (Or.inl ⟨by rfl, ?_⟩) hS ?_; rotate_left; · intro w hSw; go_simp <;> with_reducible rfl
      try simp only [Act.put, List.setIfInBounds_toArray, List.set_cons_zero, List.set_cons_succ]
      refine wpAnyL_take 1 (v := ?_) rfl rfl (by kernel_rfl) (by kernel_rfl) (by kernel_rfl) (by kernel_rfl) (fun _ _ _ h => h) (Or.inl ⟨by rfl, ?_⟩) hS ?_; rotate_left; · intro w hSw; obtain ⟨hz0, hz1, hz2, hz3⟩ := (HSI.out w).1 hSw; go_simp <;> with_reducible rfl
      try simp only [Act.put, List.setIfInBounds_toArray, List.set_cons_zero, List.set_cons_succ]
      refine wpAnyL_take 2 (v := ?_) rfl rfl (by kernel_rfl) (by kernel_rfl) (by kernel_rfl) (by kernel_rfl) (fun _ _ _ h => h) (Or.inl ⟨by rfl, ?_⟩) hS ?_; rotate_left; · intro w hSw; go_simp <;> with_reducible rfl
      try simp only [Act.put, List.setIfInBounds_toArray, List.set_cons_zero, List.set_cons_succ]
      refine wpAnyL_take 3 (v := ?_) rfl rfl (by kernel_rfl) (by kernel_rfl) (by kernel_rfl) (by kernel_rfl) (fun _ _ _ h => h) (Or.inl ⟨by rfl, ?_⟩) hS ?_; rotate_left; · intro w hSw; obtain ⟨hz0, hz1, hz2, hz3⟩ := (HSI.out w).1 hSw; go_simp <;> with_reducible rfl
      try simp only [Act.put, List.setIfInBounds_toArray, List.set_cons_zero, List.set_cons_succ]
      refine wpAnyL_take 4 (v := ?_) rfl rfl (by kernel_rfl) (by kernel_rfl) (by kernel_rfl) (by kernel_rfl) (fun _ _ _ h => h) (Or.inl ⟨by rfl, ?_⟩) hS ?_; rotate_left; · intro w hSw; go_simp <;> with_reducible rfl
      try simp only [Act.put, List.setIfInBounds_toArray, List.set_cons_zero, List.set_cons_succ]
      refine wpAnyL_take 5 (v := ?_) rfl rfl (by kernel_rfl) (by kernel_rfl) (by kernel_rfl) (by kernel_rfl) (fun _ _ _ h => h) (Or.inl ⟨by rfl, ?_⟩) hS ?_; rotate_left; · intro w hSw; go_simp <;> with_reducible rfl
      try simp only [Act.put, List.setIfInBounds_toArray, List.set_cons_zero, List.set_cons_succ]
      refine wpAnyL_take 6 (v := ?_) rfl rfl (by kernel_rfl) (by kernel_rfl) (by kernel_rfl) (by kernel_rfl) (fun _ _ _ h => h) (Or.inl ⟨by rfl, ?_⟩) hS ?_; rotate_left; · intro w hSw; go_simp <;> with_reducible rfl
      try simp only [Act.put, List.setIfInBounds_toArray, List.set_cons_zero, List.set_cons_succ]
      refine wpAnyL_take 7 (v := ?_) rfl rfl (by kernel_rfl) (by kernel_rfl) (by kernel_rfl) (by kernel_rfl) (fun _ _ _ h => h) (Or.inl ⟨by rfl, ?_⟩) hS ?_; rotate_left; · intro w hSw; obtain ⟨hz0, hz1, hz2, hz3⟩ := (HSI.out w).1 hSw; go_simp <;> with_reducible rfl
      try simp only [Act.put, List.setIfInBounds_toArray, List.set_cons_zero, List.set_cons_succ]
      refine wpAnyL_take 10 (v := ?_) rfl rfl (by kernel_rfl) (by kernel_rfl) (by kernel_rfl) (by kernel_rfl) (fun _ _ _ h => h) (Or.inl ⟨by rfl, ?_⟩) hS ?_; rotate_left; · intro w hSw; go_simp <;> with_reducible rfl
      try simp only [Act.put, List.setIfInBounds_toArray, List.set_cons_zero, List.set_cons_succ]
      refine wpAnyL_take 11 (v := ?_) rfl rfl (by kernel_rfl) (by kernel_rfl) (by kernel_rfl) (by kernel_rfl) (fun _ _ _ h => h) (Or.inl ⟨by rfl, ?_⟩) hS ?_; rotate_left; · intro w hSw; obtain ⟨hz0, hz1, hz2, hz3⟩ := (HSI.out w).1 hSw; go_simp <;> with_reducible rfl
      try simp only [Act.put, List.setIfInBounds_toArray, List.set_cons_zero, List.set_cons_succ]
      refine wpAnyL_take 12 (v := ?_) rfl rfl (by kernel_rfl) (by kernel_rfl) (by kernel_rfl) (by kernel_rfl) (fun _ _ _ h => h) (Or.inl ⟨by rfl, ?_⟩) hS ?_; rotate_left; · intro w hSw; go_simp <;> with_reducible rfl
      try simp only [Act.put, List.setIfInBounds_toArray, List.set_cons_zero, List.set_cons_succ]
      refine wpAnyL_take 13 (v := ?_) rfl rfl (by kernel_rfl) (by kernel_rfl) (by kernel_rfl) (by kernel_rfl) (fun _ _ _ h => h) (Or.inl ⟨by rfl, ?_⟩) hS ?_; rotate_left; · intro w hSw; go_simp <;> with_reducible rfl
      try simp only [Act.put, List.setIfInBounds_toArray, List.set_cons_zero, List.set_cons_succ]
      refine wpAnyL_take 14 (v := ?_) rfl rfl (by kernel_rfl) (by kernel_rfl) (by kernel_rfl) (by kernel_rfl) (fun _ _ _ h => h) (Or.inl ⟨by rfl, ?_⟩) hS ?_; rotate_left; · intro w hSw; go_simp <;> with_reducible rfl
      try simp only [Act.put, List.setIfInBounds_toArray, List.set_cons_zero, List.set_cons_succ]
      refine wpAnyL_take 15 (v := ?_) rfl rfl (by kernel_rfl) (by kernel_rfl) (by kernel_rfl) (by kernel_rfl) (fun _ _ _ h => h) (Or.inl ⟨by rfl, ?_⟩) hS ?_; rotate_left; · intro w hSw; obtain ⟨hz0, hz1, hz2, hz3⟩ := (HSI.out w).1 hSw; go_simp <;> with_reducible rfl
      try simp only [Act.put, List.setIfInBounds_toArray, List.set_cons_zero, List.set_cons_succ]
      refine wpAnyL_one 8 rfl rfl (by kernel_rfl) ?_; intro K hK; rw [if_pos (by rfl)]
      go_simp
      refine (HPX.out _).mono ?_; rintro e w' ⟨rfl, rfl⟩
      refine hK.out _ _ (fun _ => hS) ?_; clear hK K
      try simp only [Act.put, List.setIfInBounds_toArray, List.set_cons_zero, List.set_cons_succ]
      refine wpAnyL_take 9 (v := ?_) rfl rfl (by kernel_rfl) (by kernel_rfl) (by kernel_rfl) (by kernel_rfl) (fun _ _ _ h => h) (Or.inl ⟨by rfl, ?_⟩) hS ?_; rotate_left; · intro w hSw; go_simp <;> with_reducible rfl
      try simp only [Act.put, List.setIfInBounds_toArray, List.set_cons_zero, List.set_cons_succ]
      refine wpAnyL_one 16 rfl rfl (by kernel_rfl) ?_; intro K hK; rw [if_pos (by rfl)]
      go_simp
      refine (HPY.out _).mono ?_; rintro e w' ⟨rfl, rfl⟩
      refine hK.out _ _ (fun _ => hS) ?_; clear hK K
      try simp only [Act.put, List.setIfInBounds_toArray, List.set_cons_zero, List.set_cons_succ]
      refine wpAnyL_take 17 (v := ?_) rfl rfl (by kernel_rfl) (by kernel_rfl) (by kernel_rfl) (by kernel_rfl) (fun _ _ _ h => h) (Or.inl ⟨by rfl, ?_⟩) hS ?_; rotate_left; · intro w hSw; go_simp <;> with_reducible rfl
      try simp only [Act.put, List.setIfInBounds_toArray, List.set_cons_zero, List.set_cons_succ]
      refine wpAnyL_take 18 (v := ?_) rfl rfl (by kernel_rfl) (by kernel_rfl) (by kernel_rfl) (by kernel_rfl) (fun _ _ _ h => h) (Or.inl ⟨by rfl, ?_⟩) hS ?_; rotate_left; · intro w hSw; go_simp <;> with_reducible rfl
      try simp only [Act.put, List.setIfInBounds_toArray, List.set_cons_zero, List.set_cons_succ]
      refine wpAnyL_one 19 rfl rfl (by kernel_rfl) ?_; intro K hK; rw [if_pos (by rfl)]
      go_simp
      have hb1 : Below w.heap.size w (wr.alloc (.cells #[.int .i64 ((X : Int) - 1), .int .i64 ((Y : Int) - 1)] 96)).drew := below_drew (hb.alloc (by omega) _)
      have hS1 := HC.out _ hb1
      have hS2 := (show Bx (wr.alloc (.cells #[.int .i64 ((X : Int) - 1), .int .i64 ((Y : Int) - 1)] 96)).drew (w.heap.size + 2) _ from HB7.out.alloc _).five
      have hS3 := (show Bx (wr.alloc (.cells #[.int .i64 ((X : Int) - 1), .int .i64 ((Y : Int) - 1)] 96)).drew w.heap.size _ from HB5.out.alloc _).five
      refine hK.out _ _ (fun _ => (HSI.out _).2 ⟨hS1.1, hS1.2, hS3.2.2.2.1, hS2.2.2.2.1⟩) ?_; clear hK K
      have hS := (HSI.out _).2 ⟨hS1.1, hS1.2, hS3.2.2.2.1, hS2.2.2.2.1⟩
      try simp only [Act.put, List.setIfInBounds_toArray, List.set_cons_zero, List.set_cons_succ]
      refine wpAnyL_one 20 rfl rfl (by kernel_rfl) ?_; intro K hK; rw [if_pos (by rfl)]
      refine wp_app_op (.tmp 28) (.tmp 46) _ rfl (w.heap.size + 3) 96 rfl inf_val rfl (by decide) rfl (own_drew (hown.alloc _)) rfl (news := [Value.int .i64 ((X : Int) - 1), Value.int .i64 ((Y : Int) - 1)]) (sl_new wr [Value.int .i64 ((X : Int) - 1), Value.int .i64 ((Y : Int) - 1)] 96).drew (by intro u hu; simp at hu; rcases hu with rfl | rfl <;> rfl) (by unfold maxLen; omega) (by omega) (Below.refl _ _) (by simp; omega) ?_
      intro p3' c3' w3 hown3 hb3 hs3 hg3 _
      have HX7 : Bx w3 (w.heap.size + 2) _ := Bx.grown (w := (wr.alloc _).drew) (HB7.out.alloc _) hg3 hF7
      have HX6 : Bx w3 (w.heap.size + 1) _ := Bx.grown (w := (wr.alloc _).drew) (HB6.out.alloc _) hg3 hF6
      have HX5 : Bx w3 w.heap.size _ := Bx.grown (w := (wr.alloc _).drew) (HB5.out.alloc _) hg3 hF5
      have hbZ : Below w.heap.size w w3 := hb1.trans (hb3.mono (by omega))
      clear hS hS1 hS2 hS3
      have hS1 := HC.out _ hbZ
      have hS2 := HX7.five
      have hS3 := HX5.five
      refine hK.out _ _ (fun _ => (HSI.out _).2 ⟨hS1.1, hS1.2, hS3.2.2.2.1, hS2.2.2.2.1⟩) ?_; clear hK K
      have hS := (HSI.out _).2 ⟨hS1.1, hS1.2, hS3.2.2.2.1, hS2.2.2.2.1⟩
      obtain ⟨hv0, hv1, hv2, hv3, hv4⟩ := HX7.fiveF
      try simp only [Act.put, List.setIfInBounds_toArray, List.set_cons_zero, List.set_cons_succ]
      refine wpAnyL_take 21 (v := ?_) rfl rfl (by kernel_rfl) (by kernel_rfl) (by kernel_rfl) (by kernel_rfl) (fun _ _ _ h => h) (Or.inl ⟨by rfl, ?_⟩) hS ?_; rotate_left; · intro w hSw; go_simp <;> with_reducible rfl
      try simp only [Act.put, List.setIfInBounds_toArray, List.set_cons_zero, List.set_cons_succ]
      refine wpAnyL_one 22 rfl rfl (by kernel_rfl) ?_; intro K hK; rw [if_pos (by rfl)]
      go_simp
      refine hK.out _ _ (fun h => absurd rfl h) ?_; clear hK K
      refine wpAnyL_done (by kernel_rfl) ?_ _
      have hown2 : w3.ownsRow (w.heap.size + 3) 96 2 (.slice p3' (k + 1) c3') (k + 1) (vcs (T.take (k + 1))) := by
        have e : T.take (k + 1) = T.take k ++ [(X, Y)] := by rw [List.take_add_one, HTK.out]; rfl
        rw [e, vcs_snoc]
        exact hown3
      clear hown3 hS1 hS2 hS3 hS hc0 hc1 hx0 hx1 hx2 hx3 hx4 hy0 hy1 hy2 hy3 hy4 hwX hwY
      go_wp2_with fail
      go_roundg (T.length - (k + 1))
      case measure => have := HGK.out; omega
      case rel => exact ⟨k + 1, p3', c3', by go_num, by omega, Lib.hid (bx_oth HX5 (by simp) _), Lib.hid (bx_oth HX6 (by simp) _), Lib.hid (HX7.set5 3 _), own_setCell hown2 (by simp) _, hbZ.setCell (by simp) _, by simp; omega⟩
    · obtain rfl : k = T.length := by omega
      rw [List.take_length] at hown
      have HKV := Lib.hid hown
      have HB := Lib.hid hb
      clear hlt hy0 hy1 hy2 hy3 hy4 hx0 hx1 hx2 hown hlm3
      have hcl : (T.length < raw.length ∧ T.length = 10) ∨ T.length = raw.length := by
        have := HTL.out; omega
      obtain ⟨d1, hd1⟩ : ∃ d1, decide ((T.length : Int) < (raw.length : Int)) = d1 := ⟨_, rfl⟩
      obtain ⟨d2, hd2⟩ : ∃ d2, decide ((T.length : Int) < 10) = d2 := ⟨_, rfl⟩
      have hde : (d1 = true ∧ d2 = false) ∨ d1 = false := by
        rcases hcl with ⟨h1, h2⟩ | h1
        · left; subst hd1 hd2; simp <;> omega
        · right; subst hd1; simp <;> omega
      have hd3 : decide (T.length < raw.length) = d1 := by rw [← hd1]; simp
      have hd4 : decide (T.length < 10) = d2 := by rw [← hd2]; simp <;> omega
      clear hcl
      rcases hde with ⟨rfl, rfl⟩ | rfl
      all_goals
        go_wp2_with fail
        refine (HPO.out _ HB.out).mono ?_; rintro e w4 ⟨p5, c5, rfl, ho5, hb5⟩
        have HB4 := Lib.hid (HB.out.trans (hb5.mono HB.out.size))
        have HS5 := Lib.hid (HSO.out p5 c5 w4 (Sl.of_own ho5))
        have G5 := Lib.hid (HB5.out.next hb5)
        have G6 := Lib.hid (HB6.out.next hb5)
        have G7 := Lib.hid (HB7.out.next hb5)
        have GV := Lib.hid (own_later HKV.out hb5)
        have hsz4 : w.heap.size + 3 ≤ w4.heap.size := Nat.le_trans hsz hb5.size
        clear ho5 hb5 hx3 hx4 hd1 hd2 hd3 hd4
        go_wp2_with fail
        refine HS5.out.mono ?_; rintro e w6 ⟨p6, c6, rfl, ho6, hb6⟩
        have HB6' := Lib.hid (HB4.out.trans (hb6.mono HB4.out.size))
        have F6 := Lib.hid (G6.out.next hb6)
        have F7 := Lib.hid (G7.out.next hb6)
        have FV := Lib.hid (own_later GV.out hb6)
        have FM := Lib.hid ho6
        have HBW := Lib.hid (HB4.out.trans (hb6.mono HB4.out.size))
        obtain ⟨hy0, hy1, hy2, hy3, hy4⟩ := F7.out.five
        obtain ⟨hf0, hf1, hf2, hf3, hf4⟩ := F7.out.fiveF
        obtain ⟨hz0, hz1, hz2, hz3, hz4⟩ := F6.out.five
        obtain ⟨hg0, hg1, hg2, hg3, hg4⟩ := F6.out.fiveF
        clear ho6 hb6
        go_wp2_with fail
        refine bodyPost_ret (v := .agg #[.int .i64 (st : Int), .int .i64 (ph : Int), .bool fr, .slice p' T.length c', .slice p6 PM.length c6]) ?_ rfl ⟨_, rfl, ⟨p', p6, T.length, c', PM.length, c6, by rw [HKS.out], ?_, ?_⟩, ?_⟩
        · rw [results_cell1 rfl]
          go_simp
        · rw [HKS.out]
          refine own_mono (base := w.heap.size + 3) ?_ (by omega)
          exact own_set5 (own_setCell FV.out (by show w.heap.size + 2 < _; omega) _) (by omega) _ _ _ _ _
        · rw [HKS.out]
          refine own_mono (base := w4.heap.size) ?_ (by omega)
          exact own_set5 (own_setCell FM.out (by show w.heap.size + 2 < _; omega) _) (by omega) _ _ _ _ _
        · exact setc5 (HBW.out.setCell (by show w.heap.size ≤ w.heap.size + 2; omega) _) (by omega) _ _ _ _ _
end Go.Proofs.YtmdbcknlipahgaaDoor
