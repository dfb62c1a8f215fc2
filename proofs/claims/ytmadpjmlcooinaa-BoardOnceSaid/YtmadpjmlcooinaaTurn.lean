/- A row of one's own behind a copy; a turn that one more is put into. -/
import Derived.Test.YtmadpjmlcooinaaBoxed
import Derived.Test.YtmadpjmlcooinaaPRep
import Derived.Laws.CopyOwn
namespace Go.Proofs.Ytmadpjmlcooinaa
open Go.RowKit
theorem own_splice {w : World} {B g n c : Nat} {e : TypeId} {xs : List Value} (h : w.ownsRow B e 1 (.slice (some ⟨g, 0, none⟩) n c) n xs) :
    ∃ cur : List Value, w.heap[g]? = some (.cells cur.toArray e (0, 0)) ∧ n ≤ cur.length ∧ B ≤ g ∧ cur.take n = xs ∧
      ∀ (w' : World) (off : Nat) (cs : List Value), off + cs.length ≤ n → w'.heap[g]? = some (.cells (splice cur off cs).toArray e (0, 0)) → w'.ownsRow B e 1 (.slice (some ⟨g, 0, none⟩) n c) n (splice xs off cs) := by
  obtain ⟨h1, ⟨h2, _⟩ | ⟨g', cap, cur, h2, h3, h4, h5, h6, h7, h8⟩⟩ := h
  · cases h2
  · cases h2
    rw [Nat.mul_one] at h7 h8
    have hl : cur.toList.length = c := by simpa using h7
    refine ⟨cur.toList, by simpa using h4, by omega, h3, h8, fun w' off cs ho hg => ⟨?_, .inr ⟨g, c, (splice cur.toList off cs).toArray, rfl, h3, hg, h5, h6, ?_, ?_⟩⟩⟩
    · rw [length_splice _ _ _ (by omega)]; omega
    · rw [Nat.mul_one]; show (splice cur.toList off cs).toArray.size = c; rw [List.size_toArray, length_splice _ _ _ (by omega)]; exact hl
    · rw [Nat.mul_one]
      show (splice cur.toList off cs).take n = splice xs off cs
      rw [← h8]
      unfold splice
      rw [List.take_append, List.take_append, List.take_of_length_le (by rw [List.length_take]; omega), List.take_of_length_le (l := cs) (by rw [List.length_take]; omega), List.take_take, Nat.min_eq_left (by omega), List.length_take, Nat.min_eq_left (by omega), List.drop_take]
      congr 3
      omega
/-- one more put into a turn -/
theorem turn_put {T : List Nat} {i at' : Nat} (hT : T.length = i) (ha : at' ≤ i) :
    (splice (nts T ++ [Value.int .i64 0]) (at' + 1) (nts (T.drop at'))).set at' (.int .i64 (i : Int)) = nts (T.take at' ++ [i] ++ T.drop at') := by
  have hd : (nts (T.drop at')).length = i - at' := by rw [nts_len, List.length_drop]; omega
  have hl : (nts T ++ [Value.int .i64 0]).length = i + 1 := by rw [List.length_append, nts_len]; simp; omega
  unfold splice
  rw [show (nts T ++ [Value.int .i64 0]).drop (at' + 1 + (nts (T.drop at')).length) = [] from List.drop_eq_nil_of_le (by rw [hl, hd]; omega), List.append_nil, List.set_append_left _ _ (by rw [List.length_take, hl]; omega)]
  rw [nts_append, nts_append]
  congr 1
  apply List.ext_getElem?
  intro q
  rw [List.getElem?_set, List.length_take, hl]
  have hlt : (nts (T.take at')).length = at' := by rw [nts_len, List.length_take]; omega
  by_cases hq : at' = q
  · subst hq
    rw [if_pos rfl, if_pos (by omega), List.getElem?_append_right (by omega), hlt]
    simp [nts]
  · rw [if_neg hq]
    by_cases hlt2 : q < at'
    · rw [List.getElem?_append_left (by omega), List.getElem?_take_of_lt (by omega), List.getElem?_append_left (by rw [nts_len]; omega)]
      simp [nts, List.getElem?_take_of_lt hlt2]
    · rw [List.getElem?_eq_none (by rw [List.length_take, hl]; omega), List.getElem?_eq_none (by rw [List.length_append, hlt]; simp [nts]; omega)]
theorem repsL_skip {L : List Tl} {W out : Nat} {off : Int} {T : List Nat} {t : Nat} (ht : t < T.length) (he : T[t] = out) : repsL L W out off (T.take (t + 1)) = repsL L W out off (T.take t) := by
  unfold repsL
  rw [List.take_succ_eq_append_getElem ht, List.filter_append]
  simp [he]
theorem repsL_take {L : List Tl} {W out : Nat} {off : Int} {T : List Nat} {t : Nat} (ht : t < T.length) (he : T[t] ≠ out) : repsL L W out off (T.take (t + 1)) = repsL L W out off (T.take t) ++ [repF L W off T[t]] := by
  unfold repsL
  rw [List.take_succ_eq_append_getElem ht, List.filter_append]
  simp [he]
theorem TurnOk.nodup {i : Nat} {t : List Nat} (h : TurnOk i t) : t.Nodup := h.nodup_iff.2 List.nodup_range
theorem repsL_new {L : List Tl} {W out : Nat} {off : Int} {T : List Nat} {t : Nat} (hT : TurnOk W T) (ht : t < T.length) : ∀ x ∈ repsL L W out off (T.take t), x.wk ≠ T[t] := by
  intro x hx
  obtain ⟨i, hi, rfl⟩ := List.mem_map.1 hx
  have hi2 := (List.mem_filter.1 hi).1
  obtain ⟨j, hj, rfl⟩ := List.getElem_of_mem hi2
  rw [List.length_take] at hj
  rw [List.getElem_take]
  exact List.pairwise_iff_getElem.1 hT.nodup j t (by omega) ht (by omega)
theorem repsL_bd {L : List Tl} {W out : Nat} {off : Int} {T : List Nat} {t : Nat} (hT : TurnOk W T) : BdOk W (repsL L W out off (T.take t)) :=
  repsL_ok ((List.take_sublist t T).nodup hT.nodup) (fun x hx => hT.lt x (List.mem_of_mem_take hx))
theorem sep_new {v v' z : Value} {w : World} {B : Nat} {e : TypeId} {size n : Nat} {xs : List Value} (hz : w.ownsRow B e size z n xs) (hsep : ∀ b, v.ownBlock = some b → z.ownBlock ≠ some b)
    (hnb : v'.ownBlock = v.ownBlock ∨ ∃ k, w.heap.size ≤ k ∧ v'.ownBlock = some k) : ∀ b, v'.ownBlock = some b → z.ownBlock ≠ some b := by
  intro b hb hz'
  rcases hnb with h | ⟨k, h1, h2⟩
  · rw [h] at hb; exact hsep b hb hz'
  · rw [h2] at hb; cases hb
    have := (hz.lt _ hz').2
    omega
theorem nts_row {f : Nat → Nat} (k : Nat) : nts ((List.range (k + 1)).map f) = nts ((List.range k).map f) ++ [.int .i64 ((f k : Nat) : Int)] := by
  rw [List.range_succ, List.map_append, nts_append]; rfl
theorem nts_some {l : List Nat} {i x : Nat} (h : l[i]? = some x) : (nts l)[i]? = some (.int .i64 (x : Int)) := by simp [nts, h]
end Go.Proofs.Ytmadpjmlcooinaa
