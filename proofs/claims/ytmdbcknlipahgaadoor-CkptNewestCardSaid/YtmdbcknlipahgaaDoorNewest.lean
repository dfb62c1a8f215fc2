/- The walk of ckpt.Newest where both slots can be loaded. -/
import Derived.Test.YtmdbcknlipahgaaDoorCkU
namespace Go.Proofs.YtmdbcknlipahgaaDoor
open Go.RowKit Go.Sort Go.Proofs
/-- the better one of what there is and another one -/
def pickB (o : Option Sv) (s : Sv) (m : Nat) : Option Sv := match o with
  | none => if s.step ≤ m then some s else none
  | some b => if s.step ≤ m ∧ b.step < s.step then some s else some b
def bestO (s t : Sv) (m k : Nat) : Option Sv := match k with
  | 0 => none
  | 1 => pickB none s m
  | _ => pickB (pickB none s m) t m
def xk (x y : KeptR) (k : Nat) : KeptR := if k = 0 then x else y
theorem bestO_next (x y : KeptR) (m k : Nat) (hk : k < 2) : bestO (keptS x) (keptS y) m (k + 1) = pickB (bestO (keptS x) (keptS y) m k) (keptS (xk x y k)) m := by
  obtain rfl | rfl : k = 0 ∨ k = 1 := by omega
  · rfl
  · rfl
def zc : List Value := [.int .i64 0, .int .i64 0, .bool false, .slice none 0 0, .slice none 0 0]
/-- the best one so far, in the box g -/
def BestAt (w : World) (g B : Nat) (o : Option Sv) : Prop := match o with
  | none => Bx w g [.int .i64 0, .int .i64 0, .bool false, .slice none 0 0, .slice none 0 0]
  | some s => ∃ (p p' : Option Addr) (n c m c' : Nat), Bx w g [.int .i64 (s.step : Int), .int .i64 (s.phase : Int), .bool s.fresh, .slice p n c, .slice p' m c'] ∧ OwnSv w B (.agg #[.int .i64 (s.step : Int), .int .i64 (s.phase : Int), .bool s.fresh, .slice p n c, .slice p' m c']) s
theorem BestAt.next {w w' : World} {g B : Nat} {o : Option Sv} (h : BestAt w g B o) (hb : Below w.heap.size w w') : BestAt w' g B o := by
  cases o with
  | none => exact Bx.next h hb
  | some s =>
    obtain ⟨p, p', n, c, m, c', h1, q, q', n2, d, m2, d', he, h2, h3⟩ := h
    exact ⟨p, p', n, c, m, c', h1.next hb, q, q', n2, d, m2, d', he, own_later h2 hb, own_later h3 hb⟩
theorem bx_set5 {w : World} {g : Nat} {a b c d e : Value} (h : Bx w g [a, b, c, d, e]) (a' b' c' d' e' : Value) : Bx (((((w.setCell ⟨g, 0, none⟩ a').setCell ⟨g, 1, none⟩ b').setCell ⟨g, 2, none⟩ c').setCell ⟨g, 3, none⟩ d').setCell ⟨g, 4, none⟩ e') g [a', b', c', d', e'] :=
  ((((h.setc 0 a').setc 1 b').setc 2 c').setc 3 d').setc 4 e'
theorem bx_oth5 {w : World} {g h : Nat} {cs : List Value} (hb : Bx w h cs) (hne : h ≠ g) (a' b' c' d' e' : Value) : Bx (((((w.setCell ⟨g, 0, none⟩ a').setCell ⟨g, 1, none⟩ b').setCell ⟨g, 2, none⟩ c').setCell ⟨g, 3, none⟩ d').setCell ⟨g, 4, none⟩ e') h cs :=
  bx_oth (bx_oth (bx_oth (bx_oth (bx_oth hb (a := ⟨g, 0, none⟩) hne a') (a := ⟨g, 1, none⟩) hne b') (a := ⟨g, 2, none⟩) hne c') (a := ⟨g, 3, none⟩) hne d') (a := ⟨g, 4, none⟩) hne e'
/-- what Newest answers -/
def NewP (o : Option Sv) (w : World) (e : Ending) (w' : World) : Prop := Below w.heap.size w w' ∧ match o with
  | some s => ∃ v, e = .returned (.tuple #[v, .int .i64 0]) ∧ IsSv w' v s
  | none => e = .returned (.tuple #[.agg #[.int .i64 0, .int .i64 0, .bool false, .slice none 0 0, .slice none 0 0], .int .i64 7])
set_option maxHeartbeats 8000000 in
set_option maxRecDepth 100000 in
theorem newest_ok (p0 : Option Addr) (n0 c0 : Nat) (fs : List Fl) (x y : KeptR) (m : Nat) (w : World) (hD : IsD w 0 (.slice p0 n0 c0) fs) (hok : DkOk fs) (h0 : rdF fs (svN 0) = some (encK x)) (h1 : rdF fs (svN 1) = some (encK y)) :
    Calls Tryd.prog 27 #[.agg #[.slice p0 n0 c0], .int .i64 (m : Int)] w (NewP (bestO (keptS x) (keptS y) m 2) w) := by
  have HLO := Lib.hid (fun (k : Nat) (hk : k < 2) (W : World) (hW : Below w.heap.size w W) => loadD k hk (.slice p0 n0 c0) fs (xk x y k) W (hD.later hW) hok (by
    obtain rfl | rfl : k = 0 ∨ k = 1 := by omega
    · exact h0
    · exact h1))
  have HBN := Lib.hid (fun (k : Nat) (hk : k < 2) => bestO_next x y m k hk)
  have HB0 := Lib.hid (show bestO (keptS x) (keptS y) m 0 = none from rfl)
  clear hD hok h0 h1
  generalize bestO (keptS x) (keptS y) m = bo at *
  generalize hS : (fun k => keptS (xk x y k)) = S at *
  have HS := Lib.hid (fun k => (show keptS (xk x y k) = S k from by rw [← hS]))
  clear hS
  obtain ⟨b1, B1, z1⟩ := boxed0 w [.slice p0 n0 c0] 61
  have hs1 : (w.alloc (.cells #[.slice p0 n0 c0] 61)).heap.size = w.heap.size + 1 := by simp
  obtain ⟨b2, B2, z2⟩ := boxed0 (w.alloc (.cells #[.slice p0 n0 c0] 61)) [.int .i64 0, .int .i64 0, .bool false, .slice none 0 0, .slice none 0 0] 51
  have hs2 : ((w.alloc (.cells #[.slice p0 n0 c0] 61)).alloc (.cells #[.int .i64 0, .int .i64 0, .bool false, .slice none 0 0, .slice none 0 0] 51)).heap.size = w.heap.size + 1 + 1 := by simp
  obtain ⟨b3, B3, z3⟩ := boxed0 ((w.alloc (.cells #[.slice p0 n0 c0] 61)).alloc (.cells #[.int .i64 0, .int .i64 0, .bool false, .slice none 0 0, .slice none 0 0] 51)) [.int .i64 0, .int .i64 0, .bool false, .slice none 0 0, .slice none 0 0] 51
  have HC0 := Lib.hid ((b1.trans (b2.mono (by omega))).trans (b3.mono (by omega)))
  have X1 := (B1.next b2).next b3
  have X2 := B2.next b3
  rw [hs1] at X2
  have X3 := B3
  rw [hs2] at X3
  have HX1 := Lib.hid X1
  have HX2 := Lib.hid X2
  have HX3 := Lib.hid X3
  clear b1 b2 b3 B1 B2 B3 z1 z2 z3 X1 X2 X3 hs1 hs2
  go_enter Tryd.func27, Tryd.ntmps27
  go_wp2_with fail
  generalize (((w.alloc (.cells #[.slice p0 n0 c0] 61)).alloc (.cells #[.int .i64 0, .int .i64 0, .bool false, .slice none 0 0, .slice none 0 0] 51)).alloc (.cells #[.int .i64 0, .int .i64 0, .bool false, .slice none 0 0, .slice none 0 0] 51)) = w0 at *
  obtain ⟨g, hg⟩ : ∃ g, g = w.heap.size := ⟨_, rfl⟩
  have HG := Lib.hid (show w.heap.size ≤ g from Nat.le_of_eq hg.symm)
  rw [← hg] at HX1 HX2 HX3 ⊢
  clear hg
  go_loopg [7, 11] 2 (fun gk v7 v11 wr => ∃ k : Nat, v11 = .int .i64 (k : Int) ∧ k + gk = 2 ∧ v7 = .bool (bo k).isSome ∧ Hid (BestAt wr (g + 1 + 1) (g + 1 + 1 + 1) (bo k)) ∧ Hid (Bx wr g [.slice p0 n0 c0]) ∧ Hid (Bx wr (g + 1) [.int .i64 0, .int .i64 0, .bool false, .slice none 0 0, .slice none 0 0]) ∧ Hid (Below w.heap.size w wr) ∧ g + 1 + 1 + 1 ≤ wr.heap.size)
  case atStart => exact ⟨0, rfl, by omega, by rw [HB0.out]; rfl, Lib.hid (by rw [HB0.out]; exact HX3.out), HX1, HX2, HC0, HX3.out.lt⟩
  case round =>
    clear HX1 HX2 HX3 HC0
    obtain ⟨k, rfl, hgk, rfl, HBA, HX1, HX2, HC, hsz⟩ := hrel
    have HGK := Lib.hid hgk
    have hk : k ≤ 2 := by omega
    clear hgk
    by_cases hlt : k < 2
    · have hd1 : decide ((k : Int) < 2) = true := by simp; omega
      have hd2 : decide (k < 2) = true := by simp; omega
      have hk0 := HX1.out.one
      have HL := Lib.hid (HLO.out k hlt wr HC.out)
      have HNB := Lib.hid (HBN.out k hlt)
      rw [HS.out] at HL HNB
      generalize S k = s at HL HNB
      generalize hbo : bo k = o at *
      clear hbo
      generalize hos : o.isSome = f at *
      have HOS := Lib.hid hos
      clear hos
      go_wp2_with fail
      refine HL.out.mono ?_; rintro e w1 ⟨v, rfl, hv, hb⟩
      obtain ⟨p5, p6, n5, c5, n6, c6, rfl, h5, h6⟩ := hv
      obtain ⟨b9, B9, z9⟩ := boxed0 w1 [.int .i64 (s.step : Int), .int .i64 (s.phase : Int), .bool s.fresh, .slice p5 n5 c5, .slice p6 n6 c6] 51
      have hb2 := hb.trans (b9.mono hb.size)
      have HB2 := Lib.hid (HBA.out.next hb2)
      have HY1 := Lib.hid (HX1.out.next hb2)
      have HY2 := Lib.hid (HX2.out.next hb2)
      have HC2 := Lib.hid (HC.out.trans (hb2.mono HC.out.size))
      have hsz2 : g + 1 + 1 + 1 ≤ (w1.alloc (.cells #[.int .i64 (s.step : Int), .int .i64 (s.phase : Int), .bool s.fresh, .slice p5 n5 c5, .slice p6 n6 c6] 51)).heap.size := Nat.le_trans hsz hb2.size
      have HR5 := Lib.hid (own_mono (base' := g + 1 + 1 + 1) (own_later h5 b9) hsz)
      have HR6 := Lib.hid (own_mono (base' := g + 1 + 1 + 1) (own_later h6 b9) hsz)
      obtain ⟨hq0, hq1, hq2, hq3, hq4⟩ := B9.five
      clear hb hb2 b9 h5 h6 hk0 HBA HX1 HX2 HC hsz
      cases o with
      | none =>
        obtain rfl : f = false := HOS.out.symm
        have HB3 := Lib.hid (show Bx _ (g + 1 + 1) [.int .i64 0, .int .i64 0, .bool false, .slice none 0 0, .slice none 0 0] from HB2.out)
        obtain ⟨hr0, hr1, hr2, hr3, hr4⟩ := HB3.out.five
        obtain ⟨hf0, hf1, hf2, hf3, hf4⟩ := HB3.out.fiveF
        by_cases hm1 : s.step ≤ m
        · have HN2 := Lib.hid (show bo (k + 1) = some s by rw [HNB.out]; simp [pickB, hm1])
          have e1 : decide ((s.step : Int) ≤ (m : Int)) = true := by simp; omega
          have e2 : decide (s.step ≤ m) = true := by simp; omega
          have e3 : decide ((m : Int) < (s.step : Int)) = false := by simp; omega
          clear hm1
          go_wp2_with fail
          go_roundg (2 - (k + 1))
          case measure => have := HGK.out; omega
          case rel => exact ⟨k + 1, by go_num, by omega, by rw [HN2.out]; rfl, Lib.hid (by rw [HN2.out]; exact ⟨p5, p6, n5, c5, n6, c6, bx_set5 HB3.out _ _ _ _ _, p5, p6, n5, c5, n6, c6, rfl, own_set5 HR5.out (by omega) _ _ _ _ _, own_set5 HR6.out (by omega) _ _ _ _ _⟩), Lib.hid (bx_oth5 HY1.out (by omega) _ _ _ _ _), Lib.hid (bx_oth5 HY2.out (by omega) _ _ _ _ _), Lib.hid (setc5 HC2.out (by have := HG.out; omega) _ _ _ _ _), by simpa using hsz2⟩
        · have HN2 := Lib.hid (show bo (k + 1) = none by rw [HNB.out]; simp [pickB, hm1])
          have e1 : decide ((s.step : Int) ≤ (m : Int)) = false := by simp; omega
          have e2 : decide (s.step ≤ m) = false := by simp; omega
          have e3 : decide ((m : Int) < (s.step : Int)) = true := by simp; omega
          clear hm1
          go_wp2_with fail
          go_roundg (2 - (k + 1))
          case measure => have := HGK.out; omega
          case rel => exact ⟨k + 1, by go_num, by omega, by rw [HN2.out]; rfl, Lib.hid (by rw [HN2.out]; exact HB2.out), HY1, HY2, HC2, hsz2⟩
      | some b =>
        obtain rfl : f = true := HOS.out.symm
        have hba := HB2.out
        obtain ⟨q5, q6, m5, d5, m6, d6, hb3, hbo⟩ := hba
        have HB3 := Lib.hid hb3
        have HBO := Lib.hid hbo
        obtain ⟨hr0, hr1, hr2, hr3, hr4⟩ := hb3.five
        obtain ⟨hf0, hf1, hf2, hf3, hf4⟩ := hb3.fiveF
        clear hb3 hbo
        by_cases hm1 : s.step ≤ m
        · have e1 : decide ((s.step : Int) ≤ (m : Int)) = true := by simp; omega
          have e2 : decide (s.step ≤ m) = true := by simp; omega
          have e3 : decide ((m : Int) < (s.step : Int)) = false := by simp; omega
          by_cases hm2 : b.step < s.step
          · have HN2 := Lib.hid (show bo (k + 1) = some s by rw [HNB.out]; simp [pickB, hm1, hm2])
            have e4 : decide ((b.step : Int) < (s.step : Int)) = true := by simp; omega
            have e5 : decide (b.step < s.step) = true := by simp; omega
            clear hm1 hm2
            go_wp2_with fail
            go_roundg (2 - (k + 1))
            case measure => have := HGK.out; omega
            case rel => exact ⟨k + 1, by go_num, by omega, by rw [HN2.out]; rfl, Lib.hid (by rw [HN2.out]; exact ⟨p5, p6, n5, c5, n6, c6, bx_set5 HB3.out _ _ _ _ _, p5, p6, n5, c5, n6, c6, rfl, own_set5 HR5.out (by omega) _ _ _ _ _, own_set5 HR6.out (by omega) _ _ _ _ _⟩), Lib.hid (bx_oth5 HY1.out (by omega) _ _ _ _ _), Lib.hid (bx_oth5 HY2.out (by omega) _ _ _ _ _), Lib.hid (setc5 HC2.out (by have := HG.out; omega) _ _ _ _ _), by simpa using hsz2⟩
          · have HN2 := Lib.hid (show bo (k + 1) = some b by rw [HNB.out]; simp [pickB, hm2])
            have e4 : decide ((b.step : Int) < (s.step : Int)) = false := by simp; omega
            have e5 : decide (b.step < s.step) = false := by simp; omega
            clear hm1 hm2
            go_wp2_with fail
            go_roundg (2 - (k + 1))
            case measure => have := HGK.out; omega
            case rel => exact ⟨k + 1, by go_num, by omega, by rw [HN2.out]; rfl, Lib.hid (by rw [HN2.out]; exact HB2.out), HY1, HY2, HC2, hsz2⟩
        · have HN2 := Lib.hid (show bo (k + 1) = some b by rw [HNB.out]; simp [pickB, hm1])
          have e1 : decide ((s.step : Int) ≤ (m : Int)) = false := by simp; omega
          have e2 : decide (s.step ≤ m) = false := by simp; omega
          have e3 : decide ((m : Int) < (s.step : Int)) = true := by simp; omega
          clear hm1
          go_wp2_with fail
          go_roundg (2 - (k + 1))
          case measure => have := HGK.out; omega
          case rel => exact ⟨k + 1, by go_num, by omega, by rw [HN2.out]; rfl, Lib.hid (by rw [HN2.out]; exact HB2.out), HY1, HY2, HC2, hsz2⟩
    · obtain rfl : k = 2 := by omega
      have hd1 : decide ((2 : Int) < 2) = false := by simp
      generalize hbo : bo 2 = o at *
      clear hbo hlt
      generalize hos : o.isSome = f at *
      have HOS := Lib.hid hos
      clear hos
      obtain ⟨hx0, hx1, hx2, hx3, hx4⟩ := HX2.out.five
      obtain ⟨hf0, hf1, hf2, hf3, hf4⟩ := HX2.out.fiveF
      cases o with
      | none =>
        obtain rfl : f = false := HOS.out.symm
        go_wp2_with fail
        refine bodyPost_ret (v := .tuple #[.agg #[.int .i64 0, .int .i64 0, .bool false, .slice none 0 0, .slice none 0 0], .int .i64 7]) ?_ rfl ⟨setc5 HC.out (by have := HG.out; omega) _ _ _ _ _, rfl⟩
        rw [results_cell_tmp rfl]
        go_simp
      | some b =>
        obtain rfl : f = true := HOS.out.symm
        have hba := HBA.out
        obtain ⟨q5, q6, m5, d5, m6, d6, hb3, hbo⟩ := hba
        obtain ⟨hr0, hr1, hr2, hr3, hr4⟩ := hb3.five
        have HBO := Lib.hid hbo
        have hne : ¬ g + 1 = g + 1 + 1 := by omega
        clear hb3 hbo
        go_wp2_with fail
        refine bodyPost_ret (v := .tuple #[.agg #[.int .i64 (b.step : Int), .int .i64 (b.phase : Int), .bool b.fresh, .slice q5 m5 d5, .slice q6 m6 d6], .int .i64 0]) ?_ rfl ⟨setc5 HC.out (by have := HG.out; omega) _ _ _ _ _, _, rfl, ?_⟩
        · rw [results_cell_tmp rfl]
          go_simp
        · obtain ⟨u5, u6, y5, x5, y6, x6, he, h5, h6⟩ := HBO.out
          exact ⟨u5, u6, y5, x5, y6, x6, he, Sl.of_own (own_set5 h5 (by omega) _ _ _ _ _), Sl.of_own (own_set5 h6 (by omega) _ _ _ _ _)⟩
end Go.Proofs.YtmdbcknlipahgaaDoor
