/- The walk of (*ckpt.taken).get: the next number, if it is no greater than it may be; else the bytes are bad. -/
import Derived.Test.YtmdbcknlipahgaaDoorOwn2
import Derived.Deep.QuietTactic
import Derived.BigQuiet
import Derived.Test.YtmdbcknlipahgaaDoorGet
import Derived.Test.YtmdbcknlipahgaaDoorBoxed
import Derived.Test.YtmdbcknlipahgaaDoorPCkpt
import Derived.IntWalk
namespace Go.Proofs.YtmdbcknlipahgaaDoor
open Go.RowKit
theorem quiet_same {P : Program} {f : FuncId} {args : Array Value} {w : World} {n : Nat} {v : Value}
    (h : Calls P f args (w.drewN n) fun e w' => e = .returned v ∧ w.drewN n = w') : Calls P f args (w.drewN n) fun e w'' => e = .returned v ∧ ∃ m, w'' = w.drewN m :=
  h.mono fun _ _ ⟨he, hm⟩ => ⟨he, n, hm.symm⟩
theorem IsB.drewN {w : World} {v : Value} {l : List Nat} (h : IsB w v l) (n : Nat) : IsB (w.drewN n) v l := h
/-- what is left of a slice, as the model cuts it -/
theorem IsB.cut {w : World} {b off c n : Nat} {l : List Nat} (h : IsB w (.slice (some ⟨b, off, none⟩) n c) l) {k : Nat} (hk : k ≤ n) : IsB w (.slice (if c = k then some ⟨b, off, none⟩ else some ⟨b, off + k, none⟩) (n - k) (c - k)) (l.drop k) := by
  split
  · rename_i hck
    obtain ⟨rfl, h1, h2⟩ := h.lens
    have e : l.length - k = 0 := by omega
    have e2 : l.drop k = [] := List.drop_eq_nil_of_le (by omega)
    rw [e, e2]
    exact ⟨⟨_, _, rfl, Nat.zero_le _, by unfold maxLen; omega, rfl, (fun h => by cases h), .inl rfl⟩, fun x hx => by cases hx⟩
  · exact h.drop hk
end Go.Proofs.YtmdbcknlipahgaaDoor
namespace Go.Proofs.YtmdbcknlipahgaaDoor
open Go.RowKit Go.Sort Go.Proofs
/-- what is left, or bad -/
def stO (bd : Bool) (l : List Nat) : Option (List Nat) := if bd then none else some l
/-- bytes that are taken number by number: the box at g; what it reads lay there in w0 -/
def TkSt (w0 w : World) (g : Nat) (st : Option (List Nat)) : Prop :=
  ∃ (p : Option Addr) (n c : Nat) (bd : Bool) (l : List Nat), Bx w g [.slice p n c, .bool bd] ∧ IsB w0 (.slice p n c) l ∧ st = stO bd l
theorem TkSt.keep {w0 w w' : World} {g : Nat} {st : Option (List Nat)} (h : TkSt w0 w g st) (hb : Below w.heap.size w w') : TkSt w0 w' g st := by
  obtain ⟨p, n, c, bd, l, h1, h2, h3⟩ := h
  exact ⟨p, n, c, bd, l, h1.next hb, h2, h3⟩
theorem TkSt.grown {w0 w w' : World} {g : Nat} {o : Option Nat} {st : Option (List Nat)} (h : TkSt w0 w g st) (hb : w.grownBy w' o) (ho : o ≠ some g) : TkSt w0 w' g st := by
  obtain ⟨p, n, c, bd, l, h1, h2, h3⟩ := h
  exact ⟨p, n, c, bd, l, h1.grown hb ho, h2, h3⟩
set_option maxHeartbeats 4000000 in
set_option maxRecDepth 100000 in
theorem taken_get (g M : Nat) (st : Option (List Nat)) (w0 w : World) (hs : TkSt w0 w g st) (hb : Below w0.heap.size w0 w) (hM : M ≤ 4398046511105) :
    Calls Tryd.prog 45 #[.pointer (some ⟨g, 0, none⟩), .int .i64 (M : Int)] w fun e w' => e = .returned (.int .i64 ((gt M st).1 : Int)) ∧ TkSt w0 w' g (gt M st).2 ∧ w.grownBy w' (some g) := by
  obtain ⟨p, n, c, bd, l, hx, hl, rfl⟩ := hs
  obtain ⟨hn, hc1, hc2⟩ := hl.lens
  have HL0 := Lib.hid hl
  have HL := Lib.hid (hl.later hb)
  have HX := Lib.hid hx
  have hbd := Lib.hid (fun h => getL_bd (l := l) hl.2 h)
  obtain ⟨h0, h1, f0, f1⟩ := hx.two
  have HN := Lib.hid hn
  clear hl hb hx hn
  cases bd
  · have HST := Lib.hid (show stO false l = some l from rfl)
    rw [HST.out]
    have hnp : 0 < n → ∃ b off, p = some ⟨b, off, none⟩ := fun h => HL0.out.some_ h
    have HNP := Lib.hid hnp
    clear hnp
    go_enter Tryd.func45, Tryd.ntmps45
    go_wp2_with fail
    refine (get_any _ _ _ l _ HL.out).mono ?_; rintro e w1 ⟨rfl, rfl⟩
    generalize hG : getL l = G at *
    obtain ⟨N, k, e⟩ := G
    have HG := Lib.hid hG
    dsimp only at *
    by_cases he : e = 0
    · subst he
      obtain ⟨hNu, hk1, hk2, hk10⟩ := hbd.out rfl
      rw [← HN.out] at hk2
      clear hbd hG
      by_cases hNM : N ≤ M
      · have HE := Lib.hid (gt_ok HG.out hNM)
        obtain ⟨b, off, rfl⟩ := HNP.out (by omega)
        have hd1 : decide ((M : Int) < (N : Int)) = false := by simp; omega
        have hd2 : decide (M < N) = false := by simp; omega
        have hwM : IntKind.u64.wrap (M : Int) = (M : Int) := IntWalk.u64_in _ (by omega)
        have hwN : IntKind.i64.wrap (N : Int) = (N : Int) := IntWalk.i64_in _ (by omega)
        have hk0 : (0 : Int) ≤ (k : Int) := by omega
        have hkn : (k : Int) ≤ (n : Int) := by omega
        have hkc : (k : Int) ≤ (c : Int) := by omega
        have hnc : (n : Int) ≤ (c : Int) := by omega
        have HC := Lib.hid (HL0.out.cut hk2)
        by_cases hck : c = k
        · have HC' := HC.out
          rw [if_pos hck, show c - k = 0 by omega] at HC'
          have HC2 := Lib.hid HC'
          clear HC HC'
          go_wp2_with fail
          go_ret
          rw [HE.out]
          exact ⟨rfl, ⟨_, _, _, false, _, (HX.out.setc 1 _).setc 0 _, HC2.out, rfl⟩, grown_trans grown_set grown_set⟩
        · have HC' := HC.out
          rw [if_neg hck] at HC'
          have HC2 := Lib.hid HC'
          clear HC HC'
          go_wp2_with fail
          go_ret
          rw [HE.out]
          exact ⟨rfl, ⟨_, _, _, false, _, (HX.out.setc 1 _).setc 0 _, HC2.out, rfl⟩, grown_trans grown_set grown_set⟩
      · have HE := Lib.hid (gt_big HG.out hNM)
        have hd1 : decide ((M : Int) < (N : Int)) = true := by simp; omega
        have hd2 : decide (M < N) = true := by simp; omega
        have hwM : IntKind.u64.wrap (M : Int) = (M : Int) := IntWalk.u64_in _ (by omega)
        go_wp2_with fail
        go_ret
        rw [HE.out]
        exact ⟨rfl, ⟨_, _, _, true, l, HX.out.setc 1 _, HL0.out, rfl⟩, grown_set⟩
    · have HE := Lib.hid (gt_err (M := M) HG.out he)
      have hd1 : ((e : Int) == 0) = false := by simp; omega
      have hd2 : ((e : Int) != 0) = true := by simp; omega
      have hd3 : (e == 0) = false := by simp; omega
      clear hbd hG he
      go_wp2_with fail
      go_ret
      rw [HE.out]
      exact ⟨rfl, ⟨_, _, _, true, l, HX.out.setc 1 _, HL0.out, rfl⟩, grown_set⟩
  · have HST := Lib.hid (show stO true l = none from rfl)
    rw [HST.out, gt_none]
    dsimp only
    clear hbd
    go_enter Tryd.func45, Tryd.ntmps45
    go_wp2_with fail
    refine (get_any _ _ _ l _ HL.out).mono ?_; rintro e w1 ⟨rfl, rfl⟩
    generalize getL l = G at *
    obtain ⟨N, k, e⟩ := G
    dsimp only at *
    go_wp2_with fail
    go_ret
    exact ⟨rfl, ⟨_, _, _, true, l, HX.out.setc 1 _, HL0.out, rfl⟩, grown_set⟩
theorem taken_at (mi : Int) (g M x : Nat) (st st' : Option (List Nat)) (w0 w : World) (hm : mi = (M : Int)) (hG : gt M st = (x, st')) (hs : TkSt w0 w g st) (hb : Below w0.heap.size w0 w) (hg : w0.heap.size ≤ g) (hM : M ≤ 4398046511105) :
    Calls Tryd.prog 45 #[.pointer (some ⟨g, 0, none⟩), .int .i64 mi] w fun e w' => e = .returned (.int .i64 (x : Int)) ∧ TkSt w0 w' g st' ∧ w.grownBy w' (some g) ∧ Below w0.heap.size w0 w' := by
  subst hm
  have h := taken_get g M st w0 w hs hb hM
  rw [hG] at h
  exact h.mono fun _ _ ⟨h1, h2, h3⟩ => ⟨h1, h2, h3, hb.grown h3 hb.size (fun k hk => by cases hk; exact hg)⟩
end Go.Proofs.YtmdbcknlipahgaaDoor
