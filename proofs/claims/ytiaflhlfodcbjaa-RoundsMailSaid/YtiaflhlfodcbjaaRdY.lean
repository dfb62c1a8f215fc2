/- The walk of (*round).say. -/
import Derived.Test.YtiaflhlfodcbjaaRdS
import Derived.Test.YtiaflhlfodcbjaaHeldL
import Derived.Deep.DeepCutAuto
import Derived.Deep.RegionHeld3
namespace Go.Proofs.Ytiaflhlfodcbjaa
open Go.RowKit
set_option maxHeartbeats 8000000 in
set_option maxRecDepth 100000 in
theorem rsay_ok (p pv : Option Addr) (c n N kind v ph st cv gr gm I : Nat) (src xa xb : Int) (E : List Eg) (ms : List (Nat × Int)) (vs : List Value) (w : World)
    (hE : ∀ W, KeepM gm I w W → Sl W 3 (.slice p n c) n (ecs E)) (hG : InG N E) (hn : n ≤ 20) (hk : 1 ≤ kind ∧ kind ≤ 3) (hp : ph = 0 ∨ (kind = 3 ∧ ph = 1))
    (hr : Bx w gr (rCells N p n c kind src st ph pv cv gm)) (hgr : gr < I) (hgm : gm < I) (hne : gr ≠ gm) (hO : OwnN w gm gm I N (rowsB N ms) vs) (hms : ms.length ≤ 500)
    (ha : 0 ≤ xa) (ha2 : xa ≤ 199) (hb : -1 ≤ xb) (hb2 : xb < 200) (hv : v < N) (hI : I ≤ w.heap.size) :
    Calls Try.prog 27 #[.pointer (some ⟨gr, 0, none⟩), .int .i64 (v : Int), .agg #[.int .i64 xa, .int .i64 xb], .int .i64 (ph : Int)] w fun e w' => e = .returned (.tuple #[]) ∧ ∃ vs', OwnN w' gm gm I N (rowsB N (ms ++ E.flatMap (eMsgs kind ph v xa))) vs' ∧ KeepM gm I w w' := by
  have hEl := (hE w (KeepM.refl _ _ _)).elen.1
  have hEc := (hE w (KeepM.refl _ _ _)).elen.2
  have HE := Lib.hid hE
  have HG := Lib.hid hG
  have HWY := Lib.hid (fun (W : World) => ways_ok kind ph hk hp W)
  have HSY := Lib.hid (fun (wt : Nat) (hw : wt < 10) (W : World) => say_ok kind ph hk hp xa xb wt W ha ha2 hb hb2 hw)
  have HEW := Lib.hid (fun e => eMsgs_ways kind ph v xa e)
  have HLE := Lib.hid hEl
  obtain ⟨b1, B1, z1⟩ := boxed0 w [.int .i64 xa, .int .i64 xb] 40
  have HX := Lib.hid B1
  have HR := Lib.hid (hr.next b1)
  have HK := Lib.hid (KeepM.of_below (gm := gm) (I := I) b1 hI (by omega))
  have HO := Lib.hid (hO.later b1)
  have hI1 : I ≤ (w.alloc (.cells #[.int .i64 xa, .int .i64 xb] 40)).heap.size := Nat.le_trans hI b1.size
  have hxI : I ≤ w.heap.size := hI
  have hr0 := hr
  have HNX0 := Lib.hid (NotIn.new hO (Nat.le_refl _))
  clear hE hG hk hp b1 B1 z1 hEl hr hO hI
  generalize wayO kind ph = wo at *
  generalize wayI kind ph = wi at *
  unfold rCells at *
  have HR0 := Lib.hid hr0
  clear hr0
  have hr1 := (HR.out.at (i := 2) rfl).1
  go_enter Try.func27, Try.ntmps27
  go_wp2_with fail
  generalize (w.alloc (.cells #[.int .i64 xa, .int .i64 xb] 40)) = w0 at *
  obtain ⟨gx, hgx⟩ : ∃ gx, gx = w.heap.size := ⟨_, rfl⟩
  rw [← hgx] at HX hxI HNX0 ⊢
  have HGX := Lib.hid hgx
  clear hgx
  refine (HWY.out _).mono ?_; rintro e w1 ⟨rfl, hb1⟩
  have HX1 := Lib.hid (HX.out.next hb1)
  have HR1 := Lib.hid (HR.out.next hb1)
  have HK1 := Lib.hid (HK.out.trans (KeepM.of_below (gm := gm) (I := I) hb1 hI1 (by omega)))
  have HO1 := Lib.hid (HO.out.later hb1)
  have hI2 : I ≤ w1.heap.size := Nat.le_trans hI1 hb1.size
  have hz1 := HX1.out.lt
  have hr1 := (HR1.out.at (i := 1) rfl).1
  clear hb1 HX HR HK HO hI1
  go_wp2_with fail
  -- WALK
  have HNX1 := Lib.hid (show NotIn vs gx from HNX0.out)
  go_loopg [35] n (fun gk v35 wr => ∃ (k : Nat) (vs' : List Value), v35 = .int .i64 (k : Int) ∧ k + gk = n ∧ Hid (OwnN wr gm gm I N (rowsB N (ms ++ (E.take k).flatMap (eMsgs kind ph v xa))) vs') ∧ Hid (NotIn vs' gx) ∧ Hid (KeepM gm I w wr) ∧ Hid (Bx wr gx [.int .i64 xa, .int .i64 xb]) ∧ I ≤ wr.heap.size ∧ gx < wr.heap.size)
  case atStart => exact ⟨0, vs, rfl, by omega, by rw [List.take_zero, List.flatMap_nil, List.append_nil]; exact HO1, HNX1, HK1, HX1, hI2, hz1⟩
  case round =>
    clear HO1 HK1 HX1 hI2 hz1 hr1 HR1 HNX1 HNX0
    obtain ⟨k, vs', rfl, hgk, HO, HNX, HK, HX, hI2, hz1⟩ := hrel
    have HGK := Lib.hid hgk
    have hk : k ≤ n := by omega
    clear hgk
    by_cases hlt : k < n
    · have hkl : k < E.length := by have := HLE.out; omega
      have hin0 := HG.out _ (List.getElem_mem hkl)
      have HTK := Lib.hid (show (E.take (k + 1)).flatMap (eMsgs kind ph v xa) = (E.take k).flatMap (eMsgs kind ph v xa) ++ eMsgs kind ph v xa E[k] from by rw [List.take_succ_eq_append_getElem hkl, List.flatMap_append]; simp)
      have hml : ((E.take k).flatMap (eMsgs kind ph v xa)).length ≤ 40 := by
        have h1 := flatMap_len_le (eMsgs kind ph v xa) 2 (E.take k) (fun e _ => eMsgs_len _ _ _ _ _)
        rw [List.length_take] at h1
        omega
      obtain ⟨b, off, rfl, hc0, hc1, hc2⟩ := (HE.out _ HK.out).edge hkl
      have HWE := Lib.hid (HEW.out E[k])
      generalize E[k] = x at hin0 hc0 hc1 hc2 HTK HWE
      obtain ⟨e1, e2, e3⟩ := x
      dsimp only at hin0 hc0 hc1 hc2 HWE
      obtain ⟨hx1, hx2, hx3⟩ := hin0
      have hk0 : (0 : Int) ≤ (k : Int) := by omega
      have hkn : (k : Int) < (n : Int) := by omega
      have hd1 : decide ((k : Int) < (n : Int)) = true := by simp; omega
      have hd2 : decide (k < n) = true := by simp; omega
      obtain ⟨b3, B3, z3⟩ := boxed0 wr [.int .i64 (e1 : Int), .int .i64 (e2 : Int), .int .i64 (e3 : Int)] 46
      have HSYE := Lib.hid (HSY.out e3 hx3)
      generalize sayF kind xa e3 = m at *
      generalize (E.take k).flatMap (eMsgs kind ph v xa) = mk at *
      generalize eMsgs kind ph v xa (e1, e2, e3) = me at *
      obtain ⟨he0, he1, he2, _⟩ := B3.three
      have HO3 := Lib.hid (HO.out.later b3)
      have HNE := Lib.hid (NotIn.new HO.out (Nat.le_refl _))
      have HK3 := Lib.hid (HK.out.trans (KeepM.of_below (gm := gm) (I := I) b3 hI2 (by omega)))
      have HX3 := Lib.hid (HX.out.next b3)
      have HB3 := Lib.hid B3
      have hI3 : I ≤ (wr.alloc (.cells #[.int .i64 (e1 : Int), .int .i64 (e2 : Int), .int .i64 (e3 : Int)] 46)).heap.size := Nat.le_trans hI2 b3.size
      have hz3 := z3
      clear hlt b3 B3 z3 HO HK HX
      go_wp2_with fail
      generalize hw3 : (wr.alloc (.cells #[.int .i64 (e1 : Int), .int .i64 (e2 : Int), .int .i64 (e3 : Int)] 46)) = w3 at *
      clear hw3 he0 he1 he2 hc0 hc1 hc2
      obtain ⟨g12, hg12⟩ : ∃ g12, g12 = wr.heap.size := ⟨_, rfl⟩
      rw [← hg12] at HNE HB3 hz3 hI2 hz1 ⊢
      clear hg12
      obtain ⟨wo', hwo'⟩ : ∃ wo' : World, wo' = wr := ⟨_, rfl⟩
      clear hwo'
      go_loopg [52] 2 (fun gk v52 wr => ∃ (i : Nat) (vs2 : List Value), v52 = .int .i64 (i : Int) ∧ i + gk = 2 ∧ Hid (OwnN wr gm gm I N (rowsB N ((ms ++ mk) ++ wm2 (wayMs wo e1 v e2 m) (wayMs wi e2 v e1 m) i)) vs2) ∧ Hid (NotIn vs2 gx) ∧ Hid (NotIn vs2 g12) ∧ Hid (KeepM gm I w wr) ∧ Hid (Bx wr gx [.int .i64 xa, .int .i64 xb]) ∧ Hid (Bx wr g12 [.int .i64 (e1 : Int), .int .i64 (e2 : Int), .int .i64 (e3 : Int)]) ∧ I ≤ wr.heap.size)
      case atStart => exact ⟨0, vs', rfl, by omega, by simp only [wm2, if_true, List.append_nil]; exact HO3, HNX, HNE, HK3, HX3, HB3, hI3⟩
      case round =>
        clear HO3 HNX HNE HK3 HX3 HB3 hI3 hz3
        obtain ⟨i, vs2, rfl, hgk, HO, HNX, HNE, HK, HX, HB12, hI4⟩ := hrel
        have HGK2 := Lib.hid hgk
        have hi : i ≤ 2 := by omega
        clear hgk
        by_cases hlt : i < 2
        · obtain ⟨gs, fr, tt, hway⟩ : ∃ gs fr tt, (i = 0 ∧ gs = wo ∧ fr = e1 ∧ tt = e2) ∨ (i = 1 ∧ gs = wi ∧ fr = e2 ∧ tt = e1) := by
            obtain rfl | rfl : i = 0 ∨ i = 1 := by omega
            · exact ⟨wo, e1, e2, .inl ⟨rfl, rfl, rfl, rfl⟩⟩
            · exact ⟨wi, e2, e1, .inr ⟨rfl, rfl, rfl, rfl⟩⟩
          have htN : tt < N := by rcases hway with ⟨-, -, -, rfl⟩ | ⟨-, -, -, rfl⟩ <;> assumption
          have HWN := Lib.hid (show wm2 (wayMs wo e1 v e2 m) (wayMs wi e2 v e1 m) (i + 1) = wm2 (wayMs wo e1 v e2 m) (wayMs wi e2 v e1 m) i ++ wayMs gs fr v tt m from by
            rcases hway with ⟨rfl, rfl, rfl, rfl⟩ | ⟨rfl, rfl, rfl, rfl⟩ <;> simp [wm2])
          have hwl : (wm2 (wayMs wo e1 v e2 m) (wayMs wi e2 v e1 m) i).length ≤ 2 := by
            unfold wm2
            have h1 := wayMs_len wo e1 v e2 m
            have h2 := wayMs_len wi e2 v e1 m
            (repeat' split) <;> simp <;> omega
          generalize wm2 (wayMs wo e1 v e2 m) (wayMs wi e2 v e1 m) i = wmi at *
          obtain ⟨wi0, hwi0⟩ : ∃ wi0 : World, wi0 = wr := ⟨_, rfl⟩
          rw [← hwi0] at HO HK HX HB12 hI4 ⊢
          clear hwi0
          have hd3 : decide ((i : Int) < 2) = true := by simp; omega
          have hd4 : decide (i < 2) = true := by simp; omega
          have hxa0 : ∀ (a b c d e f : Value) (W : World), (Instr.index 99 (.agg #[a, b, c, d, e, f]) (.int .i64 0)).run Try.prog W = .ok (.agg #[a, b, c]) W := fun _ _ _ _ _ _ _ => by kernel_rfl
          have hxa1 : ∀ (a b c d e f : Value) (W : World), (Instr.index 99 (.agg #[a, b, c, d, e, f]) (.int .i64 1)).run Try.prog W = .ok (.agg #[d, e, f]) W := fun _ _ _ _ _ _ _ => by kernel_rfl
          go_upto_region 7 with fail
          go_cut [14] (fun s14 wx => s14 = .pointer (some ⟨wi0.heap.size, 0, none⟩) ∧ wi0.alloc (.cells #[.bool gs, .int .i64 (fr : Int), .int .i64 (tt : Int)] 98) = wx)
          case first =>
            rcases hway with ⟨rfl, rfl, rfl, rfl⟩ | ⟨rfl, rfl, rfl, rfl⟩
            · go_wp2_with fail
              go_meet
              case rel => exact ⟨rfl, rfl⟩
            · go_wp2_with fail
              go_meet
              case rel => exact ⟨rfl, rfl⟩
          case rest =>
          obtain ⟨rfl, hwc⟩ := hcut
          clear hxa0 hxa1
          obtain ⟨b14, B14, z14⟩ := boxed0 wi0 [.bool gs, .int .i64 (fr : Int), .int .i64 (tt : Int)] 98
          have HO4 := Lib.hid (HO.out.later b14)
          have HK4 := Lib.hid (HK.out.trans (KeepM.of_below (gm := gm) (I := I) b14 hI4 (by omega)))
          have HX4 := Lib.hid (HX.out.next b14)
          have HE4 := Lib.hid (HB12.out.next b14)
          have HR4 := Lib.hid (HK4.out.bx HR0.out hgr hne)
          have hI5 : I ≤ (wi0.alloc (.cells #[.bool gs, .int .i64 (fr : Int), .int .i64 (tt : Int)] 98)).heap.size := Nat.le_trans hI4 b14.size
          have hl12 := HB12.out.lt
          have hlx := HX.out.lt
          rw [hwc] at HO4 HK4 HX4 HE4 HR4 hI5 B14 z14
          have HW4 := Lib.hid B14
          have HN14 := Lib.hid (NotIn.new HO.out (Nat.le_refl _))
          obtain ⟨g14, hg14⟩ : ∃ g14, g14 = wi0.heap.size := ⟨_, rfl⟩
          rw [← hg14] at HW4 z14 hl12 hlx HN14 ⊢
          have h14I : I ≤ g14 := by omega
          obtain ⟨w4, hw4⟩ : ∃ w4 : World, w4 = wc := ⟨_, rfl⟩
          rw [← hw4] at HO4 HK4 HX4 HE4 HR4 hI5 HW4 z14 ⊢
          clear hw4 hg14 hwc b14 B14 HO HK HX HB12 hway
          obtain ⟨ha0, ha1, ha2', _⟩ := HW4.out.three
          cases gs with
          | false =>
            have HEM := Lib.hid (show wayMs false fr v tt m = [] from rfl)
            go_wp2_with fail
            go_roundg (2 - (i + 1))
            case measure => have := HGK2.out; omega
            case rel => exact ⟨i + 1, vs2, by go_num, by omega, Lib.hid (by rw [HWN.out, HEM.out, List.append_nil]; exact HO4.out), HNX, HNE, HK4, HX4, HE4, hI5⟩
          | true =>
            by_cases hfv : fr = v
            case neg =>
              have he : ((fr : Int) != (v : Int)) = true := by simp; omega
              have HEM := Lib.hid (show wayMs true fr v tt m = [] from by simp [wayMs, hfv])
              clear hfv
              go_wp2_with fail
              go_roundg (2 - (i + 1))
              case measure => have := HGK2.out; omega
              case rel => exact ⟨i + 1, vs2, by go_num, by omega, Lib.hid (by rw [HWN.out, HEM.out, List.append_nil]; exact HO4.out), HNX, HNE, HK4, HX4, HE4, hI5⟩
            case pos =>
              subst hfv
              have he : ((fr : Int) != (fr : Int)) = false := by simp
              have HEM := Lib.hid (show wayMs true fr fr tt m = [(tt, m)] from by simp [wayMs])
              go_upto_region 9 with fail
              have hk2 := (HR4.out.at (i := 2) rfl).1
              obtain ⟨hq0, hq1, _, _⟩ := HX4.out.two
              obtain ⟨_, _, hq2, _⟩ := HE4.out.three
              have HKC := Lib.hid (fun (W : World) (hW : Below w4.heap.size w4 W) => (⟨((HR4.out.next hW).at (i := 2) rfl).1, (HX4.out.next hW).two.1, (HX4.out.next hW).two.2.1, (HE4.out.next hW).three.2.2.1⟩ : W.cell? ⟨gr, 2, none⟩ = some (.int .i64 (kind : Int)) ∧ W.cell? ⟨gx, 0, none⟩ = some (.int .i64 xa) ∧ W.cell? ⟨gx, 1, none⟩ = some (.int .i64 xb) ∧ W.cell? ⟨g12, 2, none⟩ = some (.int .i64 (e3 : Int))))
              go_cut [15, 16] (fun s15 s16 wx => s15 = .int .i64 m ∧ s16 = .int .i64 0 ∧ Hid (Below w4.heap.size w4 wx))
              case first =>
                go_region_held3 (fun w' => w'.cell? ⟨gr, 2, none⟩ = some (Value.int .i64 (kind : Int)) ∧ w'.cell? ⟨gx, 0, none⟩ = some (Value.int .i64 xa) ∧ w'.cell? ⟨gx, 1, none⟩ = some (Value.int .i64 xb) ∧ w'.cell? ⟨g12, 2, none⟩ = some (Value.int .i64 (e3 : Int))) (first | (exact ⟨hk2, hq0, hq1, hq2⟩) | go_keep)
                  (first
                    | (go_at_call 44; refine (HSYE.out w4.drew).mono ?_; rintro e w5 ⟨rfl, hb5⟩; have hbx : Below w4.heap.size w4 w5 := ((Below.refl _ w4).drew).trans hb5; obtain ⟨hk2, hq0, hq1, hq2⟩ := HKC.out _ hbx)
                    | fail)
                all_goals go_wp2_with fail
                all_goals go_meet
                all_goals exact ⟨rfl, rfl, Lib.hid hbx⟩
              case rest =>
              obtain ⟨rfl, rfl, HBB⟩ := hcut
              obtain ⟨w5, hw5⟩ : ∃ w5 : World, w5 = wc := ⟨_, rfl⟩
              rw [← hw5] at HBB ⊢
              clear hw5 hk2 hq0 hq1 hq2 HKC
              have HO5 := Lib.hid (HO4.out.later HBB.out)
              have HK5 := Lib.hid (HK4.out.trans (KeepM.of_below (gm := gm) (I := I) HBB.out hI5 (by omega)))
              have HX5 := Lib.hid (HX4.out.next HBB.out)
              have HE5 := Lib.hid (HE4.out.next HBB.out)
              have HW5 := Lib.hid (HW4.out.next HBB.out)
              have HR5 := Lib.hid (HR4.out.next HBB.out)
              have hI6 : I ≤ w5.heap.size := Nat.le_trans hI5 HBB.out.size
              have h145 : g14 < w5.heap.size := HW5.out.lt
              have hx5 : gx < w5.heap.size := HX5.out.lt
              have h125 : g12 < w5.heap.size := HE5.out.lt
              clear HBB HO4 HK4 HX4 HE4 HW4 HR4 hI5 ha0 ha1 ha2' z14
              go_upto_region 12 with fail
              obtain ⟨msk, hmsk⟩ : ∃ msk, msk = (ms ++ mk) ++ wmi := ⟨_, rfl⟩
              have hmskl : msk.length ≤ 600 := by rw [hmsk]; simp only [List.length_append]; omega
              rw [← hmsk] at HO5
              have HMSK := Lib.hid hmsk
              clear hmsk
              have hrt := rowsB_at msk htN
              obtain ⟨u, hu⟩ : ∃ u, vs2[tt]? = some u := ⟨_, List.getElem?_eq_getElem (by rw [HO5.out.vlen]; exact htN)⟩
              have hin := HO5.out.inner tt (boxOf msk tt) u hrt hu
              obtain ⟨p1, c1, rfl⟩ := own_slice hin
              have hbl := boxOf_len msk tt
              have HU := Lib.hid hu
              have HRT := Lib.hid hrt
              have htt0 : (0 : Int) ≤ (tt : Int) := by omega
              have httN : (tt : Int) < (N : Int) := by omega
              have hr9 := (HR5.out.at (i := 9) rfl).1
              have h14 := HW5.out.three
              have hcm := HO5.out.outer.cellAt tt (by omega)
              rw [HU.out] at hcm
              clear hu hrt
              obtain ⟨S, hSI⟩ : ∃ S : World → Prop, ∀ w', S w' ↔ (w'.cell? ⟨gr, 9, none⟩ = some (Value.slice (some ⟨gm, 0, none⟩) N N) ∧ w'.cell? ⟨g14, 2, none⟩ = some (Value.int .i64 (tt : Int)) ∧ w'.cell? ⟨gm, tt, none⟩ = some (Value.slice p1 (boxOf msk tt).length c1)) := ⟨fun w' => _, fun w' => Iff.rfl⟩
              have HSI := Lib.hid hSI
              clear hSI
              refine wp_region_L S 20 (by kernel_rfl) ((HSI.out _).2 ⟨hr9, h14.2.2.1, hcm⟩) (fun hS => ?_)
              clear hr9 h14 hcm
              refine wpAnyL_take 0 (v := ?_) rfl rfl (by kernel_rfl) (by kernel_rfl) (by kernel_rfl) (by kernel_rfl) (fun _ _ _ h => h) (Or.inl ⟨by rfl, ?_⟩) hS ?_; rotate_left; · intro w hSw; go_simp <;> with_reducible rfl
              try simp only [Act.put, List.setIfInBounds_toArray, List.set_cons_zero, List.set_cons_succ]
              refine wpAnyL_take 1 (v := ?_) rfl rfl (by kernel_rfl) (by kernel_rfl) (by kernel_rfl) (by kernel_rfl) (fun _ _ _ h => h) (Or.inl ⟨by rfl, ?_⟩) hS ?_; rotate_left; · intro w hSw; go_simp <;> with_reducible rfl
              try simp only [Act.put, List.setIfInBounds_toArray, List.set_cons_zero, List.set_cons_succ]
              refine wpAnyL_take 2 (v := ?_) rfl rfl (by kernel_rfl) (by kernel_rfl) (by kernel_rfl) (by kernel_rfl) (fun _ _ _ h => h) (Or.inl ⟨by rfl, ?_⟩) hS ?_; rotate_left; · intro w hSw; go_simp <;> with_reducible rfl
              try simp only [Act.put, List.setIfInBounds_toArray, List.set_cons_zero, List.set_cons_succ]
              refine wpAnyL_take 3 (v := ?_) rfl rfl (by kernel_rfl) (by kernel_rfl) (by kernel_rfl) (by kernel_rfl) (fun _ _ _ h => h) (Or.inl ⟨by rfl, ?_⟩) hS ?_; rotate_left; · intro w hSw; go_simp <;> with_reducible rfl
              try simp only [Act.put, List.setIfInBounds_toArray, List.set_cons_zero, List.set_cons_succ]
              refine wpAnyL_take 4 (v := ?_) rfl rfl (by kernel_rfl) (by kernel_rfl) (by kernel_rfl) (by kernel_rfl) (fun _ _ _ h => h) (Or.inl ⟨by rfl, ?_⟩) hS ?_; rotate_left; · intro w hSw; obtain ⟨hz0, hz1, hz2⟩ := (HSI.out w).1 hSw; go_simp <;> with_reducible rfl
              try simp only [Act.put, List.setIfInBounds_toArray, List.set_cons_zero, List.set_cons_succ]
              refine wpAnyL_take 5 (v := ?_) rfl rfl (by kernel_rfl) (by kernel_rfl) (by kernel_rfl) (by kernel_rfl) (fun _ _ _ h => h) (Or.inl ⟨by rfl, ?_⟩) hS ?_; rotate_left; · intro w hSw; go_simp <;> with_reducible rfl
              try simp only [Act.put, List.setIfInBounds_toArray, List.set_cons_zero, List.set_cons_succ]
              refine wpAnyL_take 6 (v := ?_) rfl rfl (by kernel_rfl) (by kernel_rfl) (by kernel_rfl) (by kernel_rfl) (fun _ _ _ h => h) (Or.inl ⟨by rfl, ?_⟩) hS ?_; rotate_left; · intro w hSw; obtain ⟨hz0, hz1, hz2⟩ := (HSI.out w).1 hSw; go_simp <;> with_reducible rfl
              try simp only [Act.put, List.setIfInBounds_toArray, List.set_cons_zero, List.set_cons_succ]
              refine wpAnyL_take 7 (v := ?_) rfl rfl (by kernel_rfl) (by kernel_rfl) (by kernel_rfl) (by kernel_rfl) (fun _ _ _ h => h) (Or.inl ⟨by rfl, ?_⟩) hS ?_; rotate_left; · intro w hSw; go_simp <;> with_reducible rfl
              try simp only [Act.put, List.setIfInBounds_toArray, List.set_cons_zero, List.set_cons_succ]
              refine wpAnyL_take 8 (v := ?_) rfl rfl (by kernel_rfl) (by kernel_rfl) (by kernel_rfl) (by kernel_rfl) (fun _ _ _ h => h) (Or.inl ⟨by rfl, ?_⟩) hS ?_; rotate_left; · intro w hSw; go_simp <;> with_reducible rfl
              try simp only [Act.put, List.setIfInBounds_toArray, List.set_cons_zero, List.set_cons_succ]
              refine wpAnyL_take 9 (v := ?_) rfl rfl (by kernel_rfl) (by kernel_rfl) (by kernel_rfl) (by kernel_rfl) (fun _ _ _ h => h) (Or.inl ⟨by rfl, ?_⟩) hS ?_; rotate_left; · intro w hSw; go_simp <;> with_reducible rfl
              try simp only [Act.put, List.setIfInBounds_toArray, List.set_cons_zero, List.set_cons_succ]
              refine wpAnyL_take 10 (v := ?_) rfl rfl (by kernel_rfl) (by kernel_rfl) (by kernel_rfl) (by kernel_rfl) (fun _ _ _ h => h) (Or.inl ⟨by rfl, ?_⟩) hS ?_; rotate_left; · intro w hSw; go_simp <;> with_reducible rfl
              try simp only [Act.put, List.setIfInBounds_toArray, List.set_cons_zero, List.set_cons_succ]
              refine wpAnyL_take 11 (v := ?_) rfl rfl (by kernel_rfl) (by kernel_rfl) (by kernel_rfl) (by kernel_rfl) (fun _ _ _ h => h) (Or.inl ⟨by rfl, ?_⟩) hS ?_; rotate_left; · intro w hSw; obtain ⟨hz0, hz1, hz2⟩ := (HSI.out w).1 hSw; go_simp <;> with_reducible rfl
              try simp only [Act.put, List.setIfInBounds_toArray, List.set_cons_zero, List.set_cons_succ]
              refine wpAnyL_take 12 (v := ?_) rfl rfl (by kernel_rfl) (by kernel_rfl) (by kernel_rfl) (by kernel_rfl) (fun _ _ _ h => h) (Or.inl ⟨by rfl, ?_⟩) hS ?_; rotate_left; · intro w hSw; go_simp <;> with_reducible rfl
              try simp only [Act.put, List.setIfInBounds_toArray, List.set_cons_zero, List.set_cons_succ]
              refine wpAnyL_take 13 (v := ?_) rfl rfl (by kernel_rfl) (by kernel_rfl) (by kernel_rfl) (by kernel_rfl) (fun _ _ _ h => h) (Or.inl ⟨by rfl, ?_⟩) hS ?_; rotate_left; · intro w hSw; obtain ⟨hz0, hz1, hz2⟩ := (HSI.out w).1 hSw; go_simp <;> with_reducible rfl
              try simp only [Act.put, List.setIfInBounds_toArray, List.set_cons_zero, List.set_cons_succ]
              refine wpAnyL_take 14 (v := ?_) rfl rfl (by kernel_rfl) (by kernel_rfl) (by kernel_rfl) (by kernel_rfl) (fun _ _ _ h => h) (Or.inl ⟨by rfl, ?_⟩) hS ?_; rotate_left; · intro w hSw; go_simp <;> with_reducible rfl
              try simp only [Act.put, List.setIfInBounds_toArray, List.set_cons_zero, List.set_cons_succ]
              refine wpAnyL_take 15 (v := ?_) rfl rfl (by kernel_rfl) (by kernel_rfl) (by kernel_rfl) (by kernel_rfl) (fun _ _ _ h => h) (Or.inl ⟨by rfl, ?_⟩) hS ?_; rotate_left; · intro w hSw; obtain ⟨hz0, hz1, hz2⟩ := (HSI.out w).1 hSw; go_simp <;> with_reducible rfl
              try simp only [Act.put, List.setIfInBounds_toArray, List.set_cons_zero, List.set_cons_succ]
              refine wpAnyL_take 16 (v := ?_) rfl rfl (by kernel_rfl) (by kernel_rfl) (by kernel_rfl) (by kernel_rfl) (fun _ _ _ h => h) (Or.inl ⟨by rfl, ?_⟩) hS ?_; rotate_left; · intro w hSw; go_simp <;> with_reducible rfl
              try simp only [Act.put, List.setIfInBounds_toArray, List.set_cons_zero, List.set_cons_succ]
              refine wpAnyL_one 17 rfl rfl (by kernel_rfl) ?_; intro K hK; rw [if_pos (by rfl)]
              go_simp
              have hO1 := (HO5.out.alloc (.cells #[.int .i64 m] 3)).drew
              have hc1 := hO1.outer.cellAt tt (by omega)
              rw [HU.out] at hc1
              have hr9 := (show Bx (w5.alloc (.cells #[.int .i64 m] 3)).drew gr _ from HR5.out.alloc _).at (i := 9) rfl
              have h14 := (show Bx (w5.alloc (.cells #[.int .i64 m] 3)).drew g14 _ from HW5.out.alloc _).three
              refine hK.out _ _ (fun _ => (HSI.out _).2 ⟨hr9.1, h14.2.2.1, hc1⟩) ?_; clear hK K
              have hS := (HSI.out _).2 ⟨hr9.1, h14.2.2.1, hc1⟩
              try simp only [Act.put, List.setIfInBounds_toArray, List.set_cons_zero, List.set_cons_succ]
              refine wpAnyL_one 18 rfl rfl (by kernel_rfl) ?_; intro K hK; rw [if_pos (by rfl)]
              refine wp_app_op (.tmp 98) (.tmp 100) _ rfl I 3 rfl inf_int rfl (by decide) rfl (own_drew (hin.alloc _)) rfl (news := [Value.int .i64 m]) (sl_new w5 [Value.int .i64 m] 3).drew (by intro u hu; simp at hu; subst hu; rfl) (by unfold maxLen; omega) (by omega) (Below.refl _ _) (by simp; omega) ?_
              intro p3 c3 w6 hown6 hb6 hs6 hg6 hnb6
              clear hS hO1 hc1 hr9 h14
              have hP := ((HO5.out.alloc (.cells #[.int .i64 m] 3)).drew).push HRT.out HU.out hg6 (r' := boxOf msk tt ++ [m]) (by rw [its_snoc1]; exact hown6) (by simp) hnb6
              have hNG1 := (HNX.out).set HU.out hnb6 (by simp; omega)
              have hNG2 := (HNE.out).set HU.out hnb6 (by simp; omega)
              have hR6 : Bx w6 gr _ := Bx.grown (w := (w5.alloc (.cells #[.int .i64 m] 3)).drew) (HR5.out.alloc _) hg6 (fun e => by have := (hin.lt _ e).1; omega)
              have hX6 : Bx w6 gx _ := Bx.grown (w := (w5.alloc (.cells #[.int .i64 m] 3)).drew) (HX5.out.alloc _) hg6 (HNX.out _ _ HU.out)
              have hE6 : Bx w6 g12 _ := Bx.grown (w := (w5.alloc (.cells #[.int .i64 m] 3)).drew) (HE5.out.alloc _) hg6 (HNE.out _ _ HU.out)
              have hW6 : Bx w6 g14 _ := Bx.grown (w := (w5.alloc (.cells #[.int .i64 m] 3)).drew) (HW5.out.alloc _) hg6 (HN14.out _ _ HU.out)
              have hO6 := own_grown (own_drew (HO5.out.outer.alloc (.cells #[.int .i64 m] 3))) hg6 (fun j hj e => by have h1 : gm = j := Option.some.inj hj; have := (hin.lt _ e).1; omega)
              have hc1 := hO6.cellAt tt (by omega)
              rw [HU.out] at hc1
              have hr9 := hR6.at (i := 9) rfl
              have h14 := hW6.three
              have hf1 := hO6.frozenAt tt
              refine hK.out _ _ (fun _ => (HSI.out _).2 ⟨hr9.1, h14.2.2.1, hc1⟩) ?_; clear hK K
              have hS := (HSI.out _).2 ⟨hr9.1, h14.2.2.1, hc1⟩
              have hK6 : KeepM gm I w w6 := HK5.out.trans ((KeepM.of_below (gm := gm) (I := I) (w := w5) ((alloc_below w5 (.cells #[.int .i64 m] 3)).drew) (by omega) (by omega)).grown hg6 (fun k hk => (hin.lt k hk).1) (by simp; omega) hgm)
              try simp only [Act.put, List.setIfInBounds_toArray, List.set_cons_zero, List.set_cons_succ]
              refine wpAnyL_take 19 (v := ?_) rfl rfl (by kernel_rfl) (by kernel_rfl) (by kernel_rfl) (by kernel_rfl) (fun _ _ _ h => h) (Or.inl ⟨by rfl, ?_⟩) hS ?_; rotate_left; · intro w hSw; go_simp <;> with_reducible rfl
              try simp only [Act.put, List.setIfInBounds_toArray, List.set_cons_zero, List.set_cons_succ]
              refine wpAnyL_one 20 rfl rfl (by kernel_rfl) ?_; intro K hK; rw [if_pos (by rfl)]
              go_simp
              refine hK.out _ _ (fun h => absurd rfl h) ?_; clear hK K
              refine wpAnyL_done (by kernel_rfl) ?_ _
              clear hS hc1 hr9 h14
              have HP := Lib.hid hP
              clear hP
              go_wp2_with fail
              go_roundg (2 - (i + 1))
              case measure => have := HGK2.out; omega
              case rel => exact ⟨i + 1, _, by go_num, by omega, Lib.hid (by rw [HWN.out, HEM.out, ← List.append_assoc, ← HMSK.out, rowsB_snoc _ _ htN]; exact HP.out), Lib.hid hNG1, Lib.hid hNG2, Lib.hid (hK6.setCell _ _), Lib.hid (bx_oth hX6 (by show gx ≠ gm; omega) _), Lib.hid (bx_oth hE6 (by show g12 ≠ gm; omega) _), by simp; omega⟩
        · obtain rfl : i = 2 := by omega
          have hd3 : decide ((2 : Int) < 2) = false := by simp
          have HW2 := Lib.hid (show wm2 (wayMs wo e1 v e2 m) (wayMs wi e2 v e1 m) 2 = me from by rw [HWE.out]; rfl)
          rw [HW2.out] at HO
          clear HW2 hlt
          go_wp2_with fail
          go_roundg (n - (k + 1))
          case measure => have := HGK.out; omega
          case rel => exact ⟨k + 1, vs2, by go_num, by omega, Lib.hid (by rw [HTK.out, ← List.append_assoc]; exact HO.out), HNX, HK, HX, hI4, HX.out.lt⟩
    · obtain rfl : k = n := by omega
      have hd1 : decide ((k : Int) < (k : Int)) = false := by simp
      have hd2 : decide (k < k) = false := by simp
      have HT := Lib.hid (show E.take k = E from List.take_of_length_le (by have := HLE.out; omega))
      rw [HT.out] at HO
      clear HT hlt
      go_wp2_with fail
      go_end0
      exact ⟨rfl, vs', HO.out, HK.out⟩
end Go.Proofs.Ytiaflhlfodcbjaa
