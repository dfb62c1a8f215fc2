/- append of a readable slice at a guarded operation that is wanted. -/
import Derived.Test.YtmadpjmlcooinaaOwn
namespace Go.Proofs.Ytmadpjmlcooinaa
open Go.RowKit
theorem wp_appG {P : Program} {W w0 : World} {ops : Array Oper} {rest : List Oper} {o : Oper} {a : Act} {Q : Exit → Act → World → Prop} (hwt : Region.wanted o (yielded ops a.tmps) = true) (s x : Operand) (t : TypeId)
    (ho : o.op = .call { callee := .builtin .append, args := #[s, x], argTypes := #[t, t] })
    (base : Nat) (e : TypeId) {z : Value} {size bytes : Nat} (ht : P.underlying t = some (.slice e)) (hinf : (P.info? e).map (fun i => (i.zero, i.size, i.bytes)) = some (some z, size, bytes)) (hz : z.cells.size = size) (hsz : 0 < size)
    {v : Value} {n : Nat} {xs : List Value} (hs : a.eval s = v) (hown : W.ownsRow base e size v n xs)
    {p : Option Addr} {m c : Nat} {news : List Value} (hx : a.eval x = .slice p m c) (hr : Sl W size (.slice p m c) m news) (h1 : ∀ u ∈ news, u.oneCell' = true)
    (h63 : n + m ≤ maxLen) (hbytes : (n + m) * bytes ≤ 140737488355328) (hbel : Below base w0 W) (hbase : base ≤ W.heap.size)
    (h : ∀ p' c' w', w'.ownsRow base e size (.slice p' (n + m) c') (n + m) (xs ++ news) → Below base w0 w' → base ≤ w'.heap.size → W.grownBy w' v.ownBlock →
      ((Value.slice p' (n + m) c').ownBlock = v.ownBlock ∨ (Value.slice p' (n + m) c').ownBlock = some W.heap.size) → wpList P ops Q rest (a.put o.dst (.slice p' (n + m) c')) w') :
    wpList P ops Q (o :: rest) a W := by
  refine wpList_step fun K hK => ?_
  simp only [hwt, if_true]
  obtain ⟨v', w', hrun, h2, h3, h4⟩ := run_app (P := P) base t o.type e ht hinf hz hsz hown hr h1 h63 hbytes hbase
  unfold Oper.wp execOp
  simp only [ho, resolve, invoke, builtin, Sem.run_bind, Sem.run_pure, Result.andThen_ok, List.map_toArray, List.map_cons, List.map_nil, hs, hx, hrun]
  obtain ⟨p', c', rfl⟩ := own_slice h2
  exact hK _ _ (h p' c' w' h2 (hbel.grown h3 hbase (fun k hk => (hown.lt k hk).1)) (Nat.le_trans hbase h3.size) h3 h4)
end Go.Proofs.Ytmadpjmlcooinaa
