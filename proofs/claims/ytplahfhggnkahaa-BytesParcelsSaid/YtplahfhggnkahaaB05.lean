/- Plain laws of layer 1: bits turned. -/
import Derived.Test.YtplahfhggnkahaaB04
set_option linter.all false
namespace Go.P1

/-- The bit i, counted from the last one on, is turned. -/
def flip (l : List UInt8) (i : Nat) : List UInt8 := l.set (l.length - 1 - i / 8) (l.getD (l.length - 1 - i / 8) 0 ^^^ UInt8.ofNat (2 ^ (i % 8)))
def turned (l : List UInt8) (ks : List Nat) : List UInt8 := ks.foldl (fun r k => flip r (k % (8 * r.length))) l

theorem flip_len (l : List UInt8) (i : Nat) : (flip l i).length = l.length := by simp [flip]
theorem turned_len (ks : List Nat) : ∀ l : List UInt8, (turned l ks).length = l.length := by
  induction ks with
  | nil => intro l; rfl
  | cons k ks ih => intro l; show (turned (flip l _) ks).length = _; rw [ih, flip_len]
theorem turned_snoc (l : List UInt8) (ks : List Nat) (k : Nat) : turned l (ks ++ [k]) = flip (turned l ks) (k % (8 * l.length)) := by
  unfold turned
  rw [List.foldl_append]
  show flip _ _ = _
  rw [show (ks.foldl (fun r k => flip r (k % (8 * r.length))) l).length = l.length from turned_len ks l]

end Go.P1
