/- The walk of the law CkptFixed. -/
import Derived.Test.YtcaolnpkpialdaaDecode
import Derived.Test.YtcaolnpkpialdaaEncode
import Derived.Test.YtcaolnpkpialdaaSameB
namespace Go.Proofs.Ytcaolnpkpialdaa
open Go.RowKit Go.Sort Go.Proofs
theorem sameB_self (p q : Option Addr) (c d n m : Nat) (a : List Nat) (w : World) (ha : IsB w (.slice p n c) a) (hb : IsB w (.slice q m d) a) :
    Calls Try.prog 26 #[.slice p n c, .slice q m d] w fun e w' => e = .returned (.bool true) ∧ w = w' :=
  (sameBytes_any p q c d n m a a w ha hb).mono fun e w' ⟨h1, h2⟩ => ⟨by rw [h1]; simp, h2⟩
set_option linter.unusedVariables false in
set_option maxHeartbeats 4000000 in
set_option maxRecDepth 100000 in
theorem ckptFixed_walk (w : World) (v0 : Value) (l : List Nat) (h0 : IsB w v0 l) (hz : l.length ≤ 140737488351232) :
    Calls Try.prog 8 #[v0] w fun e w' => e = .returned (.bool true) ∧ Below w.heap.size w w' := by
  obtain ⟨p, c, rfl⟩ := h0.val
  obtain ⟨n, hn⟩ : ∃ n, n = l.length := ⟨_, rfl⟩
  rw [← hn] at h0 hz ⊢
  have HL := Lib.hid h0
  have HN := Lib.hid hn
  have HFX := Lib.hid (fun s => decodeL_fixed (l := l) h0.2 (s := s))
  have HSL := Lib.hid (show Sl w 1 (.slice p n c) n (bys l) from by have h := h0.1; rw [← hn] at h; exact h)
  have hone := bys_one l
  have HONE := Lib.hid hone
  clear h0 hn hone
  go_enter Try.func8, Try.ntmps8
  go_wp2_with (at_builtin; refine wp_app (w0 := w) rfl _ _ _ rfl w.heap.size 5 Try.underlying56 inf_u8 rfl (by decide) rfl (World.ownsRow_nil _ _ _ _) rfl HSL.out HONE.out (by unfold maxLen; omega) (by omega) (Below.refl _ w) (Nat.le_refl _) ?_; rw [Nat.zero_add, List.nil_append]; intro p1 c1 w1 hown1 hb1 hs1 _ _)
  have HI1 := Lib.hid (IsB.of_own hown1 HL.out.2)
  clear hown1
  refine (decode_any p1 c1 n l w1 HI1.out).mono ?_; rintro e w2 ⟨v, er, rfl, hb2, her, hS, hNo⟩
  have HB2 := Lib.hid (hb1.trans (hb2.mono hs1))
  have HL2 := Lib.hid (HL.out.later HB2.out)
  cases hD : decodeL l with
  | none =>
    obtain ⟨he, rfl⟩ := hNo hD
    have hd1 : ((er : Int) == 0) = false := by simp; omega
    have hd2 : ((er : Int) != 0) = true := by simp; omega
    have hd3 : (er == 0) = false := by simp; omega
    obtain ⟨b3, B3, z3⟩ := boxed0 w2 [.int .i64 0, .int .i64 0, .bool false, .slice none 0 0, .slice none 0 0] 59
    obtain ⟨hx0, hx1, hx2, hx3, hx4⟩ := B3.five
    clear B3 z3 hS hNo hD
    unfold zsv
    go_wp2_with fail
    go_ret
    exact ⟨rfl, HB2.out.trans (b3.mono HB2.out.size)⟩
  | some s =>
    obtain ⟨rfl, hv⟩ := hS s hD
    obtain ⟨hok, hwr, hle⟩ := HFX.out s hD
    have HV := Lib.hid hv
    have HOK := Lib.hid hok
    have HWR := Lib.hid hwr
    have HLE := Lib.hid hle
    obtain ⟨p5, p6, n5, c5, n6, c6, rfl, -, -⟩ := hv
    clear hS hNo hD hok hwr hle her
    obtain ⟨step, phase, fresh, vals, mail⟩ := s
    dsimp only at HV ⊢
    obtain ⟨b3, B3, z3⟩ := boxed0 w2 [.int .i64 (step : Int), .int .i64 (phase : Int), .bool fresh, .slice p5 n5 c5, .slice p6 n6 c6] 59
    obtain ⟨hx0, hx1, hx2, hx3, hx4⟩ := B3.five
    have HV3 := Lib.hid (HV.out.later b3)
    have HB3 := Lib.hid (HB2.out.trans (b3.mono HB2.out.size))
    have HL3 := Lib.hid (HL2.out.later b3)
    clear B3 b3 z3
    go_wp2_with fail
    refine (encode_ok _ ⟨step, phase, fresh, vals, mail⟩ _ HV3.out HOK.out HLE.out).mono ?_; rintro e w4 ⟨p7, c7, rfl, ho7, hb7⟩
    rw [HWR.out] at ho7 ⊢
    rw [← HN.out] at ho7 ⊢
    have HI7 := Lib.hid (IsB.of_own ho7 HL.out.2)
    have HL7 := Lib.hid (HL3.out.later hb7)
    have HB7 := Lib.hid (HB3.out.trans (hb7.mono HB3.out.size))
    clear ho7 hb7 hx0 hx1 hx2 hx3 hx4
    go_wp2_with (go_at_call 26; refine (sameB_self _ _ _ _ _ _ l _ HI7.out HL7.out).mono ?_; rintro e w8 ⟨rfl, rfl⟩)
    go_ret
    exact ⟨rfl, HB7.out⟩
end Go.Proofs.Ytcaolnpkpialdaa
