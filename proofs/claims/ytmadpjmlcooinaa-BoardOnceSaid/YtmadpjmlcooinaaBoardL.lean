/- What a board tells, out of what was reported. No program walked. -/
import Derived.Test.YtmadpjmlcooinaaReady
import Derived.Test.YtmadpjmlcooinaaTurn
namespace Go.Proofs.Ytmadpjmlcooinaa
open Go.RowKit
theorem repsL_F {L : List Tl} {W out : Nat} {off : Int} {T : List Nat} : ∀ r ∈ repsL L W out off T, r = repF L W off r.wk := by
  intro r hr
  obtain ⟨i, _, rfl⟩ := List.mem_map.1 hr
  rfl
theorem repsL_all {L : List Tl} {W : Nat} {off : Int} {T : List Nat} (hT : TurnOk W T) {out i : Nat} (hi : i < W) (ho : i ≠ out) : ¬ MissI (repsL L W out off T) i := by
  intro h
  refine h (repF L W off i) (List.mem_map.2 ⟨i, List.mem_filter.2 ⟨hT.mem_iff.2 (List.mem_range.2 hi), by simpa using ho⟩, rfl⟩) rfl
theorem repsL_miss {L : List Tl} {W : Nat} {off : Int} {T : List Nat} {out : Nat} : MissI (repsL L W out off T) out := by
  intro r hr
  obtain ⟨i, hi, rfl⟩ := List.mem_map.1 hr
  have := (List.mem_filter.1 hi).2
  show i ≠ out
  simpa using this
theorem offB_iff {L : List Tl} {W : Nat} {off : Int} {i k : Nat} (hi : i < W) (hk : k < W) : OffB (repF L W off) i k ↔ ((i * W + k : Nat) : Int) = off := by
  have h1 : (repF L W off i).sent.getD k 0 = snt L i k := by simp [repF, List.getD_eq_getElem?_getD, hk]
  have h2 : (repF L W off k).got.getD i 0 = gtN L W off k i := by simp [repF, List.getD_eq_getElem?_getD, hi]
  unfold OffB
  rw [h1, h2]
  unfold gtN
  by_cases h : ((i * W + k : Nat) : Int) = off
  · rw [if_pos h]; simp [h]
  · rw [if_neg h, Nat.add_zero]; exact ⟨fun h2 => absurd rfl h2, fun h2 => absurd h2 h⟩
theorem repF_b (L : List Tl) (W : Nat) (off : Int) (i : Nat) : (repF L W off i).wa ≤ 1000 ∧ (repF L W off i).op ≤ 1000 := by
  have h1 := waO_lt L i
  have h2 := opO_lt L i
  exact ⟨by show waO L i ≤ 1000; omega, by show opO L i ≤ 1000; omega⟩
theorem ready_all {L : List Tl} {W : Nat} {T : List Nat} {e : Ending} (hT : TurnOk W T) (h : ReadyRet W (repsL L W W (-1) T) (repF L W (-1)) e) :
    e = .returned (.tuple #[.int .i64 ((smN (waO L) W : Nat) : Int), .int .i64 ((smN (opO L) W : Nat) : Int), .int .i64 0]) := by
  rcases h with ⟨_, ⟨i, hi, hm⟩ | ⟨i, k, hi, hk, ho⟩⟩ | ⟨h, _⟩
  · exact absurd hm (repsL_all hT hi (by omega))
  · have := (offB_iff hi hk).1 ho; omega
  · exact h
theorem ready_miss {L : List Tl} {W out : Nat} {off : Int} {T : List Nat} {e : Ending} (ho : out < W) (h : ReadyRet W (repsL L W out off T) (repF L W off) e) :
    e = .returned (.tuple #[.int .i64 0, .int .i64 0, .int .i64 12]) := by
  rcases h with ⟨h, _⟩ | ⟨_, h, _⟩
  · exact h
  · exact absurd repsL_miss (h out ho)
theorem ready_off {L : List Tl} {W out off : Nat} {T : List Nat} {e : Ending} (ho : off < W * W) (h : ReadyRet W (repsL L W out (off : Int) T) (repF L W (off : Int)) e) :
    e = .returned (.tuple #[.int .i64 0, .int .i64 0, .int .i64 12]) := by
  rcases h with ⟨h, _⟩ | ⟨_, _, h⟩
  · exact h
  · have hW : 0 < W := by
      rcases Nat.eq_zero_or_pos W with h0 | h0
      · subst h0; omega
      · exact h0
    refine absurd ?_ (h (off / W) (off % W) (Nat.div_lt_of_lt_mul ho) (Nat.mod_lt _ hW))
    refine (offB_iff (Nat.div_lt_of_lt_mul ho) (Nat.mod_lt _ hW)).2 ?_
    rw [Nat.mul_comm, Nat.div_add_mod]
theorem repsL_len {L : List Tl} {W : Nat} {off : Int} {T : List Nat} (hT : TurnOk W T) : (repsL L W W off T).length = W := by
  unfold repsL
  rw [List.length_map, List.filter_eq_self.2 (fun x hx => by have := hT.lt x hx; simp; omega), hT.len]
theorem smN_tail {f : Nat → Nat} {n : Nat} (h : ∀ i, n ≤ i → f i = 0) : ∀ W, n ≤ W → smN f W = smN f n := by
  intro W hW
  induction W with
  | zero => obtain rfl : n = 0 := by omega
            rfl
  | succ W ih =>
    rcases Nat.eq_or_lt_of_le hW with h1 | h1
    · rw [h1]
    · have h2 := ih (by omega)
      show smN f W + f W = _
      rw [h2, h W (by omega), Nat.add_zero]
theorem waO_far {L : List Tl} {i : Nat} (h : L.length ≤ i) : waO L i = 0 := by unfold waO; rw [dif_neg (by omega)]
theorem opO_far {L : List Tl} {i : Nat} (h : L.length ≤ i) : opO L i = 0 := by unfold opO; rw [dif_neg (by omega)]
end Go.Proofs.Ytmadpjmlcooinaa
