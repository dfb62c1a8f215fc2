/- What may be saved, of raw numbers: plain laws. No program walked. -/
import Derived.Test.YtmdbcknlipahgaaDoorPCkpt
import Derived.Test.YtmdbcknlipahgaaDoorPosts
namespace Go.Proofs.YtmdbcknlipahgaaDoor
open Go.RowKit Go.Sort Go.Proofs
/-- raw numbers -/
structure KeptR where
  step : Int
  phase : Int
  fresh : Bool
  values : List (List Int)
  mail : List (List Int)
def valOf (r : List Int) : Nat × Nat := (pickN (r.getD 1 0) 4398046511106, pickN (r.getD 0 0) 201)
def valsL (raw : List (List Int)) : List (Nat × Nat) := (raw.take 10).map valOf
def keptS (x : KeptR) : Sv := ⟨pickN x.step 100001, pickN x.phase 2, x.fresh, valsL x.values, srt cfM (postsL x.mail 20)⟩
theorem srtM_twice (l : List (Nat × Nat)) : srt cfM (srt cfM l) = srt cfM l := srt_perm_eq swoM totM (srt_perm l)
theorem postsL_mem (raw : List (List Int)) (m : Nat) : ∀ x ∈ postsL raw m, x.1 < 6 ∧ x.2 < 1000 := fun x hx => by
  unfold postsL at hx
  obtain ⟨r, _, rfl⟩ := List.mem_map.1 hx
  exact ⟨pickN_lt _ (by decide), pickN_lt _ (by decide)⟩
theorem valsL_mem (raw : List (List Int)) : ∀ x ∈ valsL raw, x.1 < 4398046511106 ∧ x.2 < 201 := fun x hx => by
  unfold valsL at hx
  obtain ⟨r, _, rfl⟩ := List.mem_map.1 hx
  exact ⟨pickN_lt _ (by decide), pickN_lt _ (by decide)⟩
theorem keptS_mail (x : KeptR) : ∀ m ∈ (keptS x).mail, m.1 < 6 ∧ m.2 < 1000 := fun m hm => postsL_mem x.mail 20 m ((srt_perm (cf := cfM) _).mem_iff.1 hm)
theorem keptS_mail_len (x : KeptR) : (keptS x).mail.length = min x.mail.length 20 := by
  show (srt cfM (postsL x.mail 20)).length = _
  rw [srt_len]
  simp [postsL, Nat.min_comm]
theorem keptS_vals_len (x : KeptR) : (keptS x).vals.length ≤ 10 := by
  show (valsL x.values).length ≤ 10
  unfold valsL
  rw [List.length_map, List.length_take]
  omega
theorem keptS_ok (x : KeptR) : SvOk (keptS x) := by
  refine ⟨⟨?_, ?_, ?_, ?_, ?_, ?_⟩, srtM_twice _⟩
  · have := pickN_lt x.step (m := 100001) (by decide)
    show pickN x.step 100001 ≤ 100000
    omega
  · have := pickN_lt x.phase (m := 2) (by decide)
    show pickN x.phase 2 ≤ 1
    omega
  · have := keptS_vals_len x; omega
  · have := keptS_mail_len x; omega
  · intro v hv
    have := valsL_mem x.values v hv
    omega
  · intro m hm
    have := keptS_mail x m hm
    unfold okM
    omega
theorem pairL_len_le {l : List (Nat × Nat)} {k : Nat} (h : ∀ m ∈ l, (put m.1).length + (put m.2).length ≤ k) : (pairL l).length ≤ l.length * k := by
  induction l with
  | nil => simp [pairL]
  | cons a l ih =>
    have h1 := h a (by simp)
    have h2 := ih (fun m hm => h m (by simp [hm]))
    have e : (pairL (a :: l)).length = (put a.1).length + (put a.2).length + (pairL l).length := by simp [pairL]; omega
    rw [e, List.length_cons, Nat.succ_mul]
    omega
theorem keptS_enc (x : KeptR) : (encL (keptS x)).length ≤ 400 := by
  have h1 : (pairL (keptS x).vals).length ≤ (keptS x).vals.length * 9 := pairL_len_le (fun m hm => by
    have := valsL_mem x.values m hm
    have a := put_len_le 6 m.1 (by omega)
    have b := put_len_le 1 m.2 (by omega)
    omega)
  have h2 : (pairL (keptS x).mail).length ≤ (keptS x).mail.length * 4 := pairL_len_le (fun m hm => by
    have := keptS_mail x m hm
    have a := put_len_le 1 m.1 (by omega)
    have b := put_len_le 1 m.2 (by omega)
    omega)
  have hv := keptS_vals_len x
  have hm := keptS_mail_len x
  have hok := (keptS_ok x).1
  have a1 := put_len_le 2 (keptS x).step (by have := hok.step; omega)
  have a2 := put_len_le 1 (keptS x).phase (by have := hok.phase; omega)
  have a3 := put_len_le 1 (b01 (keptS x).fresh) (by unfold b01; split <;> omega)
  have a4 := put_len_le 1 (keptS x).vals.length (by omega)
  have a5 := put_len_le 1 (keptS x).mail.length (by omega)
  unfold encL
  simp only [List.length_append]
  omega
end Go.Proofs.YtmdbcknlipahgaaDoor
