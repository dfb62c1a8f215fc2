/- More laws of memory: a copy of a slice, by append to nothing. -/
import Derived.Test.YtmdbcknlipahgaaDoorOwn
namespace Go.Proofs.YtmdbcknlipahgaaDoor
open Go.RowKit
theorem grown_below {W w' : World} (h : W.grownBy w' none) : Below W.heap.size W w' := ⟨h.os, h.tape, h.output, h.size, fun k hk => h.block k hk (by simp)⟩
/-- 'append(nil, x..)': a new slice -/
theorem wp_app0 {P : Program} {W : World} {ops : Array Oper} {rest : List Oper} {o : Oper} {a : Act} {Q : Exit → Act → World → Prop} (hgd : o.guard = none) (s x : Operand) (t : TypeId)
    (ho : o.op = .call { callee := .builtin .append, args := #[s, x], argTypes := #[t, t] })
    (e : TypeId) {z : Value} {size bytes : Nat} (ht : P.underlying t = some (.slice e)) (hinf : (P.info? e).map (fun i => (i.zero, i.size, i.bytes)) = some (some z, size, bytes)) (hz : z.cells.size = size) (hsz : 0 < size)
    (hs : a.eval s = .slice none 0 0)
    {p : Option Addr} {m c : Nat} {news : List Value} (hx : a.eval x = .slice p m c) (hr : Sl W size (.slice p m c) m news) (h1 : ∀ u ∈ news, u.oneCell' = true)
    (h63 : m ≤ maxLen) (hbytes : m * bytes ≤ 140737488355328)
    (h : ∀ p' c' w', w'.ownsRow W.heap.size e size (.slice p' m c') m news → Below W.heap.size W w' → wpList P ops Q rest (a.put o.dst (.slice p' m c')) w') :
    wpList P ops Q (o :: rest) a W := by
  refine wp_app (w0 := W) hgd s x t ho W.heap.size e ht hinf hz hsz hs (World.ownsRow_nil _ _ _ _) hx hr h1 (by omega) (by rw [Nat.zero_add]; exact hbytes) (Below.refl _ _) (Nat.le_refl _) ?_
  intro p' c' w' h2 h3 h4 h5 h6
  rw [Nat.zero_add, List.nil_append] at h2
  rw [Nat.zero_add]
  exact h p' c' w' h2 h3
theorem below_drewN {B : Nat} {w w' : World} (h : Below B w w') (n : Nat) : Below B w (w'.drewN n) := ⟨h.os, h.tape, h.output, h.size, h.block⟩
theorem grown_setCell (w : World) (g i : Nat) (v : Value) : w.grownBy (w.setCell ⟨g, i, none⟩ v) (some g) :=
  ⟨rfl, rfl, rfl, by simp [World.setCell], fun k _ hr => heap_setCell_other w _ k v (fun h => hr (by rw [h]))⟩
theorem grown_drewN {w w' : World} {r : Option Nat} (h : w.grownBy w' r) (n : Nat) : w.grownBy (w'.drewN n) r := ⟨h.os, h.tape, h.output, h.size, h.block⟩
theorem grown_ofDrewN {w w' : World} {r : Option Nat} {n : Nat} (h : (w.drewN n).grownBy w' r) : w.grownBy w' r := ⟨h.os, h.tape, h.output, h.size, h.block⟩
end Go.Proofs.YtmdbcknlipahgaaDoor
