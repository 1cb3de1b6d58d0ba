/- Slices of uint16 over this seat's translation. -/
import Derived.Test.YtplahfhggnkahaaWords2
import Derived.Test.YtplahfhggnkahaaTurned
namespace Go.Proofs.Ytplahfhggnkahaa
open Go.RowKit

theorem info_u16 : (Try.prog.info? 29).map (fun i => (i.zero, i.size, i.bytes)) = some (some (.int .u16 0), 1, 2) := by kernel_rfl

/-- A row of the call's own that holds the numbers l. -/
def OwnH (w : World) (base : Nat) (v : Value) (l : List Nat) : Prop := w.ownsRow base 29 1 v l.length (u16s l)
theorem u16s_append (l r : List Nat) : u16s (l ++ r) = u16s l ++ u16s r := by simp [u16s]
theorem u16s_length (l : List Nat) : (u16s l).length = l.length := by simp [u16s]
theorem u16s_one (l : List Nat) : ∀ u ∈ u16s l, u.oneCell' = true := by
  intro u hu
  simp only [u16s, List.mem_map] at hu
  obtain ⟨b, _, rfl⟩ := hu
  rfl
theorem OwnH.nil (w : World) (base : Nat) : OwnH w base (.slice none 0 0) [] := World.ownsRow_nil w base _ 1
theorem OwnH.sl {w : World} {base c : Nat} {A : Option Addr} {l : List Nat} (h : OwnH w base (.slice A l.length c) l) : Sl w A (u16s l) := Sl.of_own h
theorem OwnH.form {w : World} {base : Nat} {v : Value} {l : List Nat} (h : OwnH w base v l) : ∃ A c, v = .slice A l.length c ∧ l.length ≤ c ∧ c ≤ maxLen := own_form h
theorem OwnH.lt {w : World} {base : Nat} {v : Value} {l : List Nat} (h : OwnH w base v l) : ∀ k, v.ownBlock = some k → base ≤ k ∧ k < w.heap.size := World.ownsRow.lt h

/-- 'append(s, k)': one number. -/
theorem app1_u16 (w : World) {ops : Array Oper} {rest : List Oper} {o : Oper} {a : Act} {Q : Exit → Act → World → Prop} (hgd : o.guard = none) (s x : Operand)
    (ho : o.op = .call { callee := .builtin .append, args := #[s, x], argTypes := #[23, 23] })
    (base : Nat) (v : Value) (l : List Nat) (hs : a.eval s = v) (hown : OwnH w base v l) (n : Int) (k : Nat) (hn : n = (k : Int))
    (hx : a.eval x = .slice (some ⟨w.heap.size, 0, none⟩) 1 1)
    (hb : l.length + 1 ≤ 1048576) (hbase : base ≤ w.heap.size)
    (h : ∀ v' w', OwnH w' base v' (l ++ [k]) → Grew 1 w w' v v' → wpList Try.prog ops Q rest (a.put o.dst v') w') : wpList Try.prog ops Q (o :: rest) a (w.alloc (.cells #[.int .u16 n] 29)) := by
  subst hn
  obtain ⟨i, hi, hz, h1, h2⟩ := info_parts info_u16
  refine wpList_app _ hgd s x 23 ho base 29 i _ 1 2 Try.underlying23 hi hz h1 h2 rfl v l.length (u16s l) hs (hown.alloc _) _ 1 1 (u16s [k]) hx rfl (by intro h; cases h) ?_ (u16s_one _)
    (by unfold maxLen; omega) (by omega) (by simp; omega) fun v' w' h3 h4 => h v' w' ?_ (h4.unalloc ?_)
  · intro j u hj
    match j, hj with
    | 0, hj =>
      simp [u16s] at hj
      subst hj
      refine ⟨_, 0, rfl, ?_⟩
      simp
  · unfold OwnH
    rw [u16s_append, List.length_append]
    exact h3
  · intro k hk
    exact (World.ownsRow.lt hown k hk).2

end Go.Proofs.Ytplahfhggnkahaa
