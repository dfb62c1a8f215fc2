/- The walk of the law VarintBack. -/
import Derived.Test.YtfkjojagdgbhdaaPut
import Derived.Test.YtfkjojagdgbhdaaGet
import Derived.Test.YtfkjojagdgbhdaaSome
namespace Go.Proofs.Ytfkjojagdgbhdaa
open Go.RowKit
set_option maxHeartbeats 1000000 in
set_option maxRecDepth 100000 in
theorem varintBack_walk (w : World) (a : Int) (a0 : 0 ≤ a) (a1 : a ≤ 18446744073709551615) (v : Value) (l : List Nat) (hl : IsB w v l) :
    Calls Try.prog 7 #[.int .u64 a, v] w fun e w' => e = .returned (.bool true) ∧ Below w.heap.size w w' := by
  obtain ⟨n, rfl⟩ := Int.eq_ofNat_of_zero_le a0
  have hn : n < U64 := by unfold U64; omega
  clear a0 a1
  obtain ⟨p0, c0, rfl⟩ : ∃ p c, v = .slice p l.length c := by obtain ⟨⟨p, c, rfl, _⟩, _⟩ := hl; exact ⟨p, c, rfl⟩
  have HL := Lib.hid hl
  have hpp := put_pos n
  have hp10 : (put n).length ≤ 10 := put_len10 hn
  have htk : (l.take 20).length ≤ 20 := List.length_take_le _ _
  have HB := Lib.hid (put_bytes n n (Nat.le_refl _))
  have HG := Lib.hid (getL_put hn (l.take 20))
  clear hl
  go_enter Try.func7, Try.ntmps7
  go_wp2_with fail
  refine (put_any n _ hn).mono ?_; rintro e w1 ⟨p1, c1, rfl, ho1, hb1⟩
  have hz1 := hb1.size
  have HS1 := Lib.hid (Sl.of_own ho1)
  go_wp2_with (at_builtin; refine wp_app (w0 := w) rfl _ _ _ rfl w.heap.size 5 Try.underlying26 inf_u8 rfl (by decide) rfl (World.ownsRow_nil _ _ _ _) rfl HS1.out (bys_one _) (by unfold maxLen; omega) (by omega) hb1 hz1 ?_; intro p2 c2 w2 ho2 hb2 hz2 _ _; simp only [Nat.zero_add, List.nil_append] at ho2)
  refine (some_any p0 c0 l 20 w2 (HL.out.later hb2) (by omega)).mono ?_; rintro e w3 ⟨p3, c3, rfl, ho3, hb3⟩
  have HT := Lib.hid (fun x (hx : x ∈ l.take 20) => HL.out.2 x (List.mem_of_mem_take hx))
  generalize l.take 20 = t at *
  have HS3 := Lib.hid (Sl.of_own ho3)
  obtain ⟨hb3', hz3⟩ := below_step hb2 hz2 hb3
  have ho2' := own_later ho2 hb3
  go_wp2_with (at_builtin; refine wp_app (w0 := w) rfl _ _ _ rfl w.heap.size 5 Try.underlying26 inf_u8 rfl (by decide) rfl ho2' rfl HS3.out (bys_one _) (by unfold maxLen; omega) (by omega) hb3' hz3 ?_; intro p4 c4 w4 ho4 hb4 hz4 _ _)
  rw [← bys_append, ← List.length_append] at ho4
  have hball : AllB (put n ++ t) := fun x hx => by
    rcases List.mem_append.1 hx with h | h
    · exact HB.out x h
    · exact HT.out x h
  have HI := Lib.hid (IsB.of_own ho4 hball)
  have e := HG.out
  generalize hg : put n ++ t = g at *
  have hlen : (put n).length + t.length = g.length := by rw [← hg, List.length_append]
  have HH := Lib.hid hg
  clear hball hg
  rw [hlen]
  clear hlen
  refine (get_any p4 c4 g w4 HI.out).mono ?_; rintro e w5 ⟨rfl, rfl⟩
  rw [e]
  clear e
  go_wp2_with fail
  go_ret
  have hd : decide (((put n).length : Int) ≤ 10) = true := by simp <;> omega
  exact ⟨congrArg (fun z => Ending.returned (.bool z)) hd, hb4⟩
end Go.Proofs.Ytfkjojagdgbhdaa
