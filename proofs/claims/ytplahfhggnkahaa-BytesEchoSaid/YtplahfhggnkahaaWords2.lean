/- More words on bytes: append inside a region that draws its order. -/
import Derived.Test.YtplahfhggnkahaaWords
namespace Go.Proofs.Ytplahfhggnkahaa
open Go.RowKit

theorem step_app_u8 (w : World) {ops : Array Oper} {o : Oper} {a : Act} {K : Act → World → Prop} {Q : Exit → Act → World → Prop} {E : Prop} (hgd : o.guard = none) (s x : Operand)
    (ho : o.op = .call { callee := .builtin .append, args := #[s, x], argTypes := #[22, 22] })
    (base : Nat) (v : Value) (l : List UInt8) (hs : a.eval s = v) (hown : OwnB w base v l)
    (A : Option Addr) (m c : Nat) (l2 : List UInt8) (hx : a.eval x = .slice A m c) (hm : m = l2.length) (hA : A = none → m = 0) (hr : Sl w A (u8s l2))
    (hb : l.length + l2.length ≤ 140737488355328) (hbase : base ≤ w.heap.size)
    (h : ∀ v' w', OwnB w' base v' (l ++ l2) → Grew 1 w w' v v' → K (a.put o.dst v') w') :
    if Region.wanted o (yielded ops a.tmps) = true then Oper.wp Try.prog o a w K Q else E := by
  obtain ⟨i, hi, hz, h1, h2⟩ := info_parts info_u8
  subst hm
  refine step_app w hgd s x 22 ho base 5 i _ 1 1 Try.underlying22 hi hz h1 h2 rfl v l.length (u8s l) hs hown A l2.length c (u8s l2) hx (by simp [u8s_length]) hA hr (u8s_one l2)
    (by unfold maxLen; omega) (by omega) hbase fun v' w' h3 h4 => h v' w' ?_ h4
  unfold OwnB
  rw [u8s_append, List.length_append]
  exact h3

theorem OwnB.lt {w : World} {base : Nat} {v : Value} {l : List UInt8} (h : OwnB w base v l) : ∀ k, v.ownBlock = some k → base ≤ k ∧ k < w.heap.size := World.ownsRow.lt h

end Go.Proofs.Ytplahfhggnkahaa
