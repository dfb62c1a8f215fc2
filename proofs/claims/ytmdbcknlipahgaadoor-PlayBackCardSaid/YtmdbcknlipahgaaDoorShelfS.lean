/- What the library's functions on texts answer at this program, said in the words of these walks. -/
import Derived.Test.YtmdbcknlipahgaaDoorPText
import Derived.Test.YtmdbcknlipahgaaDoorBoxed
import Derived.Test.YtmdbcknlipahgaaDoorLay
import Derived.Shelf.Strconv.Itoa3
import Derived.Shelf.Strconv.ErrVarAll
import Derived.Shelf.Strings.SplitCore
import Derived.Shelf.Strings.Search3
import Derived.Shelf.Strings.Count
import Derived.Shelf.Strings.Prefix
import Derived.Shelf.Small.Strs
import Derived.Lib.AppendIntMem
import Derived.Lib.IndexBytes
namespace Go.Proofs.YtmdbcknlipahgaaDoor
open Go.RowKit Go.Shelf Go.Proofs
theorem var_later {P : Program} {w w' : World} {n : String} {cs : Array Value} (h : w.var? P n = some cs) (hb : Below w.heap.size w w') : w'.var? P n = some cs := by
  unfold World.var? at h ⊢
  cases hg : P.globalNamed n with
  | none => rw [hg] at h; cases h
  | some g =>
    rw [hg] at h
    simp only [Option.bind_some] at h ⊢
    cases hh : w.heap[g]? with
    | none => rw [hh] at h; cases h
    | some o =>
      rw [hb.block g (Array.getElem?_eq_some_iff.1 hh).1, hh]
      rw [hh] at h
      exact h
/-- the library's own variables, as its text lays them -/
structure Tabs (w : World) : Prop where
  pow : Lib.TabIs Tryd.prog w "internal/strconv.uint64pow10" .u64 Lib.pow10Tab
  syn : ∃ tp p, w.var? Tryd.prog "strconv.ErrSyntax" = some #[.iface tp p]
  rng : ∃ tp p, w.var? Tryd.prog "strconv.ErrRange" = some #[.iface tp p]
theorem Tabs.later {w w' : World} (h : Tabs w) (hb : Below w.heap.size w w') : Tabs w' := by
  obtain ⟨h1, ⟨t2, p2, h2⟩, ⟨t3, p3, h3⟩⟩ := h
  exact ⟨var_later h1 hb, ⟨t2, p2, var_later h2 hb⟩, ⟨t3, p3, var_later h3 hb⟩⟩
theorem itoa_ok (n : Int) (h0 : -9223372036854775808 ≤ n) (h1 : n ≤ 9223372036854775807) (w : World) (h : Tabs w) :
    Calls Tryd.prog 31 #[.int .i64 n] w fun e w' => e = .returned (.string ⟨(Lib.itoa n).toArray⟩) ∧ Below w.heap.size w w' := by
  have hc := Any.strconv_Itoa layItoa n h0 h1 w h.pow
  change Calls Tryd.prog 31 _ _ _ at hc
  refine hc.mono ?_
  rintro e w' ⟨rfl, k, os, rfl⟩
  exact ⟨rfl, Lib.below_grow _ w (Nat.le_refl _) k os⟩
theorem atoi_bd {l : List UInt8} {v : Int} (h : Lib.atoiAll l = .ok v) : -9223372036854775808 ≤ v ∧ v ≤ 9223372036854775807 := by
  obtain ⟨h1, h2⟩ := Lib.atoiAll_bounds h
  exact ⟨by omega, by omega⟩
theorem atoi_ok (s : ByteArray) (hs : s.size ≤ 10000000) (w : World) (h : Tabs w) :
    Calls Tryd.prog 60 #[.string s] w fun e w' => (∃ (x : Int) (ev : Value), e = .returned (.tuple #[.int .i64 x, ev]) ∧ ((ev = .nilIface ∧ numW s.data.toList = x) ∨ ((∃ t p, ev = .iface t p) ∧ numW s.data.toList = -1))) ∧ Below w.heap.size w w' := by
  rcases ha : Lib.atoiAll s.data.toList with v | _ | _
  · have hc := Any.strconv_Atoi_ok layAtoi s (by omega) v ha w
    change Calls Tryd.prog 60 _ _ _ at hc
    refine hc.mono ?_
    rintro e w' ⟨rfl, hw⟩
    refine ⟨⟨v, .nilIface, rfl, .inl ⟨rfl, by unfold numW; rw [ha]⟩⟩, ?_⟩
    rcases hw with rfl | ⟨t, rfl⟩
    · exact Below.refl _ _
    · exact Lib.bytesWorld_below w _ t
  · obtain ⟨t2, p2, h2⟩ := h.syn
    have hc := Any.strconv_Atoi_syntax_var layAtoi s (by omega) ha t2 p2 w h2
    change Calls Tryd.prog 60 _ _ _ at hc
    refine hc.mono ?_
    rintro e w' ⟨N, rfl, -, -, hb⟩
    exact ⟨⟨0, _, rfl, .inr ⟨⟨_, _, rfl⟩, by unfold numW; rw [ha]⟩⟩, hb⟩
  · obtain ⟨t2, p2, h2⟩ := h.rng
    have hc := Any.strconv_Atoi_range_var layAtoi s (by omega) ha t2 p2 w h2
    change Calls Tryd.prog 60 _ _ _ at hc
    refine hc.mono ?_
    rintro e w' ⟨N, rfl, -, -, hb⟩
    exact ⟨⟨_, _, rfl, .inr ⟨⟨_, _, rfl⟩, by unfold numW; rw [ha]⟩⟩, hb⟩
theorem trim_ok (s : ByteArray) (hs : s.size ≤ 10000000) (w : World) :
    Calls Tryd.prog 59 #[.string s, .string ⟨#[10]⟩] w fun e w' => e = .returned (.string ⟨(Lib.trimSuffix s.data.toList [10]).toArray⟩) ∧ w = w' := by
  have hc := Any.strings_TrimSuffix layTrimSuffix s ⟨#[10]⟩ w (by omega)
  change Calls Tryd.prog 59 _ _ _ at hc
  refine hc.mono ?_
  rintro e w' ⟨rfl, rfl⟩
  exact ⟨rfl, rfl⟩
theorem inf_str : (Tryd.prog.info? 9).map (fun i => (i.zero, i.size, i.bytes)) = some (some (.string ByteArray.empty), 1, 16) := by kernel_rfl
theorem splitB_len (s : ByteArray) : (Lib.splitB ⟨#[32]⟩ 0 (Lib.countB s ⟨#[32]⟩) s).length = Lib.countB s ⟨#[32]⟩ + 1 := Lib.splitB_all _ (by decide) 0 _ s rfl
theorem splitB_sz (sep : ByteArray) (save : Nat) : ∀ (k : Nat) (s x : ByteArray), x ∈ Lib.splitB sep save k s → x.size ≤ s.size
  | 0, s, x, h => by
    rw [Lib.splitB_zero, List.mem_singleton] at h
    rw [h]; exact Nat.le_refl _
  | k + 1, s, x, h => by
    unfold Lib.splitB at h
    split at h
    · rw [List.mem_singleton] at h
      rw [h]; exact Nat.le_refl _
    · rcases List.mem_cons.1 h with rfl | h
      · rw [ByteArray.size_extract]; omega
      · have := splitB_sz sep save k _ x h
        rw [ByteArray.size_extract] at this
        omega
/-- texts as cells -/
def strs (l : List ByteArray) : List Value := l.map Value.string
theorem gen_ok (s : ByteArray) (hs : s.size ≤ 10000000) (w : World) :
    Calls Tryd.prog 74 #[.string s, .string ⟨#[32]⟩, .int .i64 0, .int .i64 (-1)] w fun e w' =>
      e = .returned (.slice (some ⟨w.heap.size, 0, none⟩) (Lib.countB s ⟨#[32]⟩ + 1) (Lib.countB s ⟨#[32]⟩ + 1)) ∧ w' = w.alloc (.cells (strs (Lib.splitB ⟨#[32]⟩ 0 (Lib.countB s ⟨#[32]⟩) s)).toArray 9) := by
  have hle := Lib.countB_le ⟨#[32]⟩ (by decide) s.size s (Nat.le_refl _)
  have hlen := splitB_len s
  have hc := Any.strings_genSplit_core layGenSplit inf_str s ⟨#[32]⟩ 0 (-1) (Lib.countB s ⟨#[32]⟩ + 1) w (by omega) (by decide) (Nat.zero_le _)
    (fun x c hx => (Any.strings_Index_one { layGenSplit with } x 32 _).mono (by rintro e w' ⟨rfl, rfl⟩; exact ⟨by rw [← Lib.index_one], rfl⟩))
    ((Any.strings_Count_one { layGenSplit with } s 32 w).mono (by rintro e w' ⟨rfl, rfl⟩; refine ⟨?_, rfl⟩; show Ending.returned (Value.int .i64 ((s.data.toList.count 32 : Nat) : Int)) = Ending.returned (Value.int .i64 ((Lib.count s.data.toList [32] : Nat) : Int)); rw [Lib.count_one]))
    (by decide) (by decide) (by rw [if_pos (by decide)]; omega)
  change Calls Tryd.prog 74 _ _ _ at hc
  rw [Nat.add_sub_cancel, hlen] at hc
  refine hc.mono ?_
  rintro e w' ⟨rfl, rfl⟩
  refine ⟨rfl, ?_⟩
  have e2 : Lib.cellsOf (Lib.splitB ⟨#[32]⟩ 0 (Lib.countB s ⟨#[32]⟩) s) (Lib.countB s ⟨#[32]⟩ + 1) = (strs (Lib.splitB ⟨#[32]⟩ 0 (Lib.countB s ⟨#[32]⟩) s)).toArray := by rw [← hlen]; exact Lib.cellsOf_full _
  rw [e2]
  rfl
set_option maxHeartbeats 1000000 in
set_option maxRecDepth 100000 in
theorem split_ok (s : ByteArray) (hs : s.size ≤ 10000000) (w : World) :
    Calls Tryd.prog 58 #[.string s, .string ⟨#[32]⟩] w fun e w' => ∃ (l : List ByteArray) (g : Nat), e = .returned (.slice (some ⟨g, 0, none⟩) l.length l.length) ∧ l.map (·.data.toList) = Lib.split s.data.toList [32] ∧ (∀ x ∈ l, x.size ≤ s.size) ∧ 1 ≤ l.length ∧ l.length ≤ s.size + 1 ∧ Sl w' 1 (.slice (some ⟨g, 0, none⟩) l.length l.length) l.length (strs l) ∧ Below w.heap.size w w' := by
  have hg := Lib.hid (gen_ok s hs w)
  have hle := Lib.countB_le ⟨#[32]⟩ (by decide) s.size s (Nat.le_refl _)
  go_enter Tryd.func58, Tryd.ntmps58
  go_wp2_with fail
  refine hg.out.mono ?_; rintro e w' ⟨rfl, rfl⟩
  have hlen := splitB_len s
  have hdat := Lib.splitB_data ⟨#[32]⟩ 0 (Lib.countB s ⟨#[32]⟩) s
  have hsz := splitB_sz ⟨#[32]⟩ 0 (Lib.countB s ⟨#[32]⟩) s
  generalize Lib.splitB ⟨#[32]⟩ 0 (Lib.countB s ⟨#[32]⟩) s = l at hlen hdat hsz ⊢
  go_wp2_with fail
  go_ret
  refine ⟨l, w.heap.size, by rw [hlen]; rfl, hdat, hsz, by omega, by omega, ?_, (Below.refl _ w).alloc (Nat.le_refl _) _⟩
  exact sl_newN w (strs l) _ l.length 1 (by unfold maxLen; omega) (by simp [strs])
end Go.Proofs.YtmdbcknlipahgaaDoor
