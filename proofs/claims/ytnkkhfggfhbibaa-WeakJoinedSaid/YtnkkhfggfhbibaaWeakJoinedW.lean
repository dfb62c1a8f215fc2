/- The walk of the law WeakJoined. -/
import Derived.Test.YtnkkhfggfhbibaaReachGoesW
import Derived.Test.YtnkkhfggfhbibaaWeak
namespace Go.Proofs.Ytnkkhfggfhbibaa
open Go.RowKit
theorem sl_newN (w : World) (us : List Value) (e : TypeId) (n size : Nat) (hn : n ≤ maxLen) (hl : us.length = n * size) : Sl (w.alloc (.cells us.toArray e)) size (.slice (some ⟨w.heap.size, 0, none⟩) n n) n us := by
  refine ⟨_, n, rfl, Nat.le_refl _, hn, hl, (fun h => by cases h), .inr ⟨_, 0, rfl, fun j u hj => ?_⟩⟩
  rw [cell_of_row _ _ (0 + j) us.toArray e (0, 0) (heap_alloc_new w _), Nat.zero_add]
  simpa using hj
/-- some pieces appended, that lie in a new block; the heap's size under a name -/
theorem wp_appN {P : Program} {W w0 : World} {ops : Array Oper} {rest : List Oper} {o : Oper} {a : Act} {Q : Exit → Act → World → Prop} (hgd : o.guard = none) (s x : Operand) (t : TypeId)
    (ho : o.op = .call { callee := .builtin .append, args := #[s, x], argTypes := #[t, t] })
    (base : Nat) (e : TypeId) {z : Value} {size bytes : Nat} (ht : P.underlying t = some (.slice e)) (hinf : (P.info? e).map (fun i => (i.zero, i.size, i.bytes)) = some (some z, size, bytes)) (hz : z.cells.size = size) (hsz : 0 < size)
    {v : Value} {n m : Nat} {xs : List Value} (hs : a.eval s = v) (hown : W.ownsRow base e size v n xs)
    {us : List Value} {H : Nat} (hx : a.eval x = .slice (some ⟨H, 0, none⟩) m m) (hH : W.heap.size = H) (hul : us.length = m * size) (hm : m ≤ 1000) (hu : ∀ u ∈ us, u.oneCell' = true)
    (h63 : n + m ≤ maxLen) (hbytes : (n + m) * bytes ≤ 140737488355328) (hbel : Below base w0 W) (hbase : base ≤ W.heap.size)
    (h : ∀ p' c' w', w'.ownsRow base e size (.slice p' (n + m) c') (n + m) (xs ++ us) → Below base w0 w' → base ≤ w'.heap.size → W.grownBy w' v.ownBlock →
      ((Value.slice p' (n + m) c').ownBlock = v.ownBlock ∨ ∃ k, W.heap.size ≤ k ∧ (Value.slice p' (n + m) c').ownBlock = some k) → wpList P ops Q rest (a.put o.dst (.slice p' (n + m) c')) w') :
    wpList P ops Q (o :: rest) a (W.alloc (.cells us.toArray e)) := by
  subst hH
  have hA := World.grownBy_alloc W (.cells us.toArray e) v.ownBlock
  refine wp_app (w0 := w0) hgd s x t ho base e ht hinf hz hsz hs (hown.alloc _) hx (sl_newN W us e m size (by unfold maxLen; omega) hul) hu h63 hbytes (hbel.alloc hbase _) (by simp; omega) ?_
  intro p' c' w' h1 h2 h3 h4 h5
  have hg : W.grownBy w' v.ownBlock :=
    ⟨h4.os.trans hA.os, h4.tape.trans hA.tape, h4.output.trans hA.output, Nat.le_trans hA.size h4.size, fun k hk hr => (h4.block k (Nat.lt_of_lt_of_le hk hA.size) hr).trans (hA.block k hk hr)⟩
  refine h p' c' w' h1 h2 h3 hg ?_
  rcases h5 with h5 | h5
  · exact .inl h5
  · exact .inr ⟨_, by simp, h5⟩
theorem bothL_take {E : List Eg} {i : Nat} (h : i < E.length) : bothL (E.take (i + 1)) = bothL (E.take i) ++ [E[i], flipE E[i]] := by
  unfold bothL
  rw [List.take_succ_eq_append_getElem h, List.flatMap_append]; simp
theorem bothL_len (E : List Eg) : (bothL E).length = 2 * E.length := by
  unfold bothL
  induction E with
  | nil => rfl
  | cons a l ih => rw [List.flatMap_cons, List.length_append, ih]; simp; omega
theorem InG.both {N : Nat} {E : List Eg} (h : InG N E) : InG N (bothL E) := by
  intro e he
  obtain ⟨x, hx, hh⟩ := List.mem_flatMap.1 he
  have := h x hx
  simp at hh
  rcases hh with rfl | rfl
  · exact this
  · exact ⟨this.2.1, this.1, this.2.2⟩
theorem nts_get {l : List Nat} {i : Nat} (h : i < l.length) : (nts l)[i]? = some (.int .i64 ((l.getD i 0 : Nat) : Int)) := by
  unfold nts
  rw [List.getElem?_map, List.getD_eq_getElem?_getD, List.getElem?_eq_getElem h]; rfl
set_option maxHeartbeats 16000000 in
set_option maxRecDepth 100000 in
theorem weakJoined_walk (w : World) (a0 : Int) (ha0 : -9223372036854775808 ≤ a0) (ha1 : a0 ≤ 9223372036854775807) (v1 : Value) (l1 : List (List Int)) (h1 : IsR 3 w v1 l1) :
    Calls Try.prog 4 #[.int .i64 a0, v1] w fun e w' => e = .returned (.bool true) ∧ Below w.heap.size w w' := by
  obtain ⟨p1, c1, rfl⟩ := h1.val
  have HM := Lib.hid (made_ok a0 p1 c1 _ l1 8 w ha0 ha1 h1 (by omega) (by omega))
  have hpk := pickN_lt a0 (m := 8) (by decide)
  clear h1 ha0 ha1
  obtain ⟨N, hN⟩ : ∃ N, N = 1 + pickN a0 8 := ⟨_, rfl⟩
  rw [← hN] at HM
  have hN200 : N ≤ 200 := by omega
  have hG := Lib.hid (edgesL_in N l1 (by omega))
  have hn10 := edgesL_len N l1
  clear hN hpk
  generalize edgesL N l1 = E at *
  obtain ⟨n, hn⟩ : ∃ n, n = E.length := ⟨_, rfl⟩
  rw [← hn] at HM hn10
  have HN := Lib.hid hn
  clear hn
  go_enter Try.func4, Try.ntmps4
  go_wp2_with fail
  refine HM.out.mono ?_; rintro e w1 ⟨q1, d1, rfl, ho1, hb1⟩
  have HS1 := Lib.hid (Sl.of_own ho1)
  have hz1 := hb1.size
  clear ho1
  go_wp2_with fail
  refine (weak_ok N n d1 q1 E _ (HS1.out.later (alloc_below w1 _)) hG.out hN200 (by omega)).mono ?_; rintro e w2 ⟨g, wk, rfl, hwk, ho2, hb2⟩
  obtain ⟨b12, X5, hz2⟩ := boxed (cs := [.int .i64 (N : Int), .slice q1 n d1]) hb2
  have HX5 := Lib.hid X5
  have HK := Lib.hid hwk
  have HWO := Lib.hid ho2
  have HS2 := Lib.hid (HS1.out.later b12)
  have hbw := hb1.trans (b12.mono hz1)
  obtain ⟨hnd, hd63⟩ := HS2.out.elen.2
  obtain ⟨hy0, hy1, _, _⟩ := X5.two
  have he1 : ((N : Int) != (N : Int)) = false := by simp
  clear ho2 X5 hb1 b12 hb2 hwk
  go_wp2_with fail
  clear he1
  go_loopg [8] n (fun gk v8 wr => ∃ i : Nat, v8 = .int .i64 (i : Int) ∧ i + gk = n ∧ Below w2.heap.size w2 wr)
  case atStart => exact ⟨0, rfl, by omega, Below.refl _ _⟩
  case round =>
    obtain ⟨i, rfl, hgi, hb⟩ := hrel
    clear hy0 hy1
    obtain ⟨hy0, hy1, _, _⟩ := (HX5.out.next hb).two
    have HGI := Lib.hid hgi
    have hi : i ≤ n := by omega
    clear hgi
    by_cases hil : i < n
    · have hil2 : i < E.length := by have := HN.out; omega
      have hmem := List.getElem_mem hil2
      have hin := hG.out _ hmem
      have hsame := HK.out.same _ hmem
      obtain ⟨b, off, rfl, hc0, hc1, hc2⟩ := (HS2.out.later hb).edge hil2
      generalize E[i] = x at hin hmem hsame hc0 hc1 hc2
      obtain ⟨x1, x2, x3⟩ := x
      dsimp only at hin hsame hc0 hc1 hc2
      obtain ⟨hx1, hx2, _⟩ := hin
      have how := own_later HWO.out hb
      have hca := (how.cellAt x1 (by omega)).trans (nts_get (by rw [HK.out.len]; exact hx1))
      have hcb := (how.cellAt x2 (by omega)).trans (nts_get (by rw [HK.out.len]; exact hx2))
      rw [← hsame] at hcb
      generalize wk.getD x1 0 = q at hca hcb
      clear hsame hmem how
      have hi0 : (0 : Int) ≤ (i : Int) := by omega
      have hin' : (i : Int) < (n : Int) := by omega
      have hd3' : decide ((i : Int) < (n : Int)) = true := by simp; omega
      have hd4' : decide (i < n) = true := by simp; omega
      have hx10 : (0 : Int) ≤ (x1 : Int) := by omega
      have hx1N : (x1 : Int) < (N : Int) := by omega
      have hx20 : (0 : Int) ≤ (x2 : Int) := by omega
      have hx2N : (x2 : Int) < (N : Int) := by omega
      have hqq : ((q : Int) != (q : Int)) = false := by simp
      go_wp2_with fail
      go_quiet (fail)
      go_wp2_with fail
      go_roundg (n - (i + 1))
      case measure => have := HGI.out; omega
      case rel => exact ⟨i + 1, by go_num, by omega, below_drewN hb _⟩
    · have hd3' : decide ((i : Int) < (n : Int)) = false := by simp; omega
      have hd4' : decide (i < n) = false := by simp; omega
      obtain ⟨wo, rfl⟩ : ∃ wo : World, wo = wr := ⟨_, rfl⟩
      go_wp2_with fail
      clear hy0 hy1 hd3' hd4' hil
      obtain ⟨b9, X9, hz9⟩ := boxed0 wo [.int .i64 (N : Int), .slice none 0 0] 25
      have hzW : (wo.alloc (.cells #[.int .i64 (N : Int), .slice none 0 0] 25)).heap.size = wo.heap.size + 1 := by simp
      have HZW := Lib.hid hzW
      clear hzW
      obtain ⟨B, hB⟩ : ∃ B, B = wo.heap.size := ⟨_, rfl⟩
      have hbB : w2.heap.size ≤ B := by have := hb.size; omega
      have hb2W : Below w2.heap.size w2 (wo.alloc (.cells #[.int .i64 (N : Int), .slice none 0 0] 25)) := hb.trans (b9.mono (by omega))
      rw [← hB] at X9 HZW hz9 ⊢
      clear b9 hB hb
      generalize (wo.alloc (.cells #[.int .i64 (N : Int), .slice none 0 0] 25)) = W2 at *
      go_loopg [10] n (fun gk v10 wr => ∃ (i : Nat) (p' : Option Addr) (c' : Nat), v10 = .int .i64 (i : Int) ∧ i + gk = n ∧ Bx wr B [.int .i64 (N : Int), .slice p' (2 * i) c'] ∧ wr.ownsRow (B + 1) 33 3 (.slice p' (2 * i) c') (2 * i) (ecs (bothL (E.take i))) ∧ Below B W2 wr ∧ B + 1 ≤ wr.heap.size)
      case atStart => exact ⟨0, none, 0, rfl, by omega, X9, World.ownsRow_nil _ _ _ _, Below.refl _ _, hz9⟩
      case round =>
        clear X9 hz9
        obtain ⟨i, p', c', rfl, hgi, X9, hown, hb, hsz⟩ := hrel
        have HGI := Lib.hid hgi
        have hi : i ≤ n := by omega
        clear hgi
        have hb2 := hb2W.trans (hb.mono hbB)
        obtain ⟨hy0, hy1, _, _⟩ := (HX5.out.next hb2).two
        by_cases hil : i < n
        · have hil2 : i < E.length := by have := HN.out; omega
          have hbt := Lib.hid (bothL_take hil2)
          obtain ⟨b, off, rfl, hc0, hc1, hc2⟩ := (HS2.out.later hb2).edge hil2
          generalize E[i] = x at hbt hc0 hc1 hc2
          obtain ⟨x1, x2, x3⟩ := x
          dsimp only at hc0 hc1 hc2
          have hi0 : (0 : Int) ≤ (i : Int) := by omega
          have hin' : (i : Int) < (n : Int) := by omega
          have hd3' : decide ((i : Int) < (n : Int)) = true := by simp; omega
          have hd4' : decide (i < n) = true := by simp; omega
          obtain ⟨hg0, hg1, hf0, hf1⟩ := (X9.alloc (.cells #[.int .i64 (x1 : Int), .int .i64 (x2 : Int), .int .i64 (x3 : Int)] 33)).two
          have HX9 := Lib.hid X9
          have hF9 := own_far hown (g := B) (by omega)
          clear X9
          go_wp2_with (at_builtin; refine wp_appN (w0 := wr.alloc (.cells #[.int .i64 (x1 : Int), .int .i64 (x2 : Int), .int .i64 (x3 : Int)] 33)) rfl (.tmp 74) (.tmp 83) _ rfl (B + 1) 33 rfl inf_edge rfl (by decide) rfl (hown.alloc _) (us := [.int .i64 (x1 : Int), .int .i64 (x2 : Int), .int .i64 (x3 : Int), .int .i64 (x2 : Int), .int .i64 (x1 : Int), .int .i64 (x3 : Int)]) rfl (by simp) rfl (by decide) (by simp [Value.oneCell']) (by unfold maxLen; omega) (by omega) (Below.refl _ _) (by simp; omega) ?_; intro p3 c3 w3 hown3 hb3 hs3 hg3 _; have HY9 := Bx.grown (HX9.out.alloc _) hg3 hF9; obtain ⟨hu0, hu1, hv0, hv1⟩ := HY9.two)
          have hown2 : w3.ownsRow (B + 1) 33 3 (.slice p3 (2 * (i + 1)) c3) (2 * (i + 1)) (ecs (bothL (E.take (i + 1)))) := by
            rw [hbt.out, ecs_append]; exact hown3
          have hbZ : Below B W2 w3 := (hb.alloc (by omega) _).trans (hb3.mono (by omega))
          have hYY : Bx (w3.setCell ⟨B, 1, none⟩ (.slice p3 (2 * (i + 1)) c3)) B [.int .i64 (N : Int), .slice p3 (2 * (i + 1)) c3] := bx_set1 HY9 _
          go_wp2_with fail
          go_roundg (n - (i + 1))
          case measure => have := HGI.out; omega
          case rel => exact ⟨i + 1, p3, c3, by go_num, by omega, hYY, own_setCell hown2 (by simp) _, hbZ.setCell (by simp) _, by simp; omega⟩
        · obtain rfl : i = n := by omega
          have hd3' : decide ((i : Int) < (i : Int)) = false := by simp
          rw [List.take_of_length_le (by have := HN.out; omega)] at hown
          have HBS := Lib.hid (Sl.of_own hown)
          have HX9 := Lib.hid X9
          clear hown X9
          go_wp2_with fail
          clear hy0 hy1 hd3'
          obtain ⟨wq, rfl⟩ : ∃ wq : World, wq = wr := ⟨_, rfl⟩
          go_loopg [12] N (fun gk v12 wr => ∃ v : Nat, v12 = .int .i64 (v : Int) ∧ v + gk = N ∧ Below wq.heap.size wq wr)
          case atStart => exact ⟨0, rfl, by omega, Below.refl _ _⟩
          case round =>
            obtain ⟨v, rfl, hgv, hbv⟩ := hrel
            have HGV := Lib.hid hgv
            have hv : v ≤ N := by omega
            clear hgv
            have hb3 := hb2.trans (hbv.mono hb2.size)
            obtain ⟨hy0, hy1, _, _⟩ := (HX5.out.next hb3).two
            obtain ⟨hw0, hw1, _, _⟩ := (HX9.out.next hbv).two
            by_cases hvl : v < N
            · have hle := HK.out.le v hvl
              have hself := HK.out.own v hvl
              have hrc := Lib.hid (HK.out.rch v hvl)
              have how := own_later HWO.out hb3
              have hca := (how.cellAt v (by omega)).trans (nts_get (by rw [HK.out.len]; exact hvl))
              have hcb := (how.cellAt (wk.getD v 0) (by omega)).trans (nts_get (by rw [HK.out.len]; omega))
              rw [hself] at hcb
              obtain ⟨q, hq⟩ : ∃ q, wk.getD v 0 = q := ⟨_, rfl⟩
              rw [hq] at hle hca hcb hrc
              have HQ := Lib.hid hq
              clear hq
              clear hself how
              have hv0 : (0 : Int) ≤ (v : Int) := by omega
              have hvN : (v : Int) < (N : Int) := by omega
              have hq0 : (0 : Int) ≤ (q : Int) := by omega
              have hqN : (q : Int) < (N : Int) := by omega
              have hd3' : decide ((v : Int) < (N : Int)) = true := by simp; omega
              have hd4' : decide (v < N) = true := by simp; omega
              have hd5' : decide ((q : Int) < 0) = false := by simp <;> omega
              have hd6' : decide ((v : Int) < (q : Int)) = false := by simp; omega
              have hd7' : decide (v < q) = false := by simp; omega
              have hd8' : ((q : Int) != (q : Int)) = false := by simp
              have he1 : ((N : Int) != (N : Int)) = false := by simp
              go_wp2_with fail
              go_quiet (fail)
              go_wp2_with fail
              refine (reachP_ok N (2 * i) c' v p' (bothL E) _ (HBS.out.later (below_drewN hbv _)) hG.out.both hN200 (by omega) hvl).mono ?_; rintro e w5 ⟨gb, rfl, ho5, hb5⟩
              have hb35 : Below wq.heap.size wq w5 := (below_drewN hbv _).trans (hb5.mono hbv.size)
              have hb25 := hb2.trans (hb35.mono hb2.size)
              clear hy0 hy1 hw0 hw1 hca hcb
              obtain ⟨hy0, hy1, _, _⟩ := (HX5.out.next hb25).two
              have hca := ((own_later HWO.out hb25).cellAt v (by omega)).trans (nts_get (by rw [HK.out.len]; exact hvl))
              rw [HQ.out] at hca
              have hcr := (reach_cell ho5 (x := q) (by omega)).1 hrc.out
              clear ho5
              go_wp2_with fail
              go_roundg (N - (v + 1))
              case measure => have := HGV.out; omega
              case rel => exact ⟨v + 1, by go_num, by omega, hb35⟩
            · have hd3' : decide ((v : Int) < (N : Int)) = false := by simp; omega
              have hd4' : decide (v < N) = false := by simp; omega
              go_wp2_with fail
              go_ret
              exact ⟨rfl, hbw.trans (hb3.mono hbw.size)⟩
end Go.Proofs.Ytnkkhfggfhbibaa
