/- Plain laws of layer 1: how a sum changes hangs on which bits were turned, and how far from the end they are. -/
import Derived.Test.YtplahfhggnkahaaB05
set_option linter.all false
namespace Go.P1

theorem xorL_self : ∀ r : List UInt8, xorL r r = List.replicate r.length 0
  | [] => rfl
  | a :: r => by
    show (a ^^^ a) :: xorL r r = _
    rw [xorL_self r, UInt8.xor_self]
    rfl

/-- What a sum changes by, if the bit i from the end is turned. -/
def D (i : Nat) : Nat := run crcT 0 (UInt8.ofNat (2 ^ (i % 8)) :: List.replicate (i / 8) 0)

theorem flip_run (l : List UInt8) (i : Nat) (h : i < 8 * l.length) (s : Nat) : run crcT s l ^^^ run crcT s (flip l i) = D i := by
  obtain ⟨j, hj⟩ : ∃ j, j = l.length - 1 - i / 8 := ⟨_, rfl⟩
  have hjl : j < l.length := by omega
  have e1 : l = l.take j ++ l[j] :: l.drop (j + 1) := by rw [← List.drop_eq_getElem_cons hjl, List.take_append_drop]
  have e2 : flip l i = l.take j ++ (l[j] ^^^ UInt8.ofNat (2 ^ (i % 8))) :: l.drop (j + 1) := by
    unfold flip
    rw [← hj, List.set_eq_take_append_cons_drop, if_pos hjl, List.getD_eq_getElem?_getD, List.getElem?_eq_getElem hjl]
    rfl
  have e3 : run crcT s l = run crcT (run crcT s (l.take j)) (l[j] :: l.drop (j + 1)) := by rw [← run_append, ← e1]
  have e4 : run crcT s (flip l i) = run crcT (run crcT s (l.take j)) ((l[j] ^^^ UInt8.ofNat (2 ^ (i % 8))) :: l.drop (j + 1)) := by rw [e2, run_append]
  rw [e3, e4, ← run_xor _ _ _ _ (by simp only [List.length_cons]), Nat.xor_self]
  unfold D
  congr 1
  show (l[j] ^^^ (l[j] ^^^ UInt8.ofNat (2 ^ (i % 8)))) :: xorL (l.drop (j + 1)) (l.drop (j + 1)) = _
  rw [xorL_self, ← UInt8.xor_assoc, UInt8.xor_self, UInt8.zero_xor, List.length_drop]
  congr 2
  omega

def Ds (ks : List Nat) : Nat := ks.foldl (fun a k => a ^^^ D k) 0

theorem xor_tel (x y z : Nat) : (x ^^^ y) ^^^ (y ^^^ z) = x ^^^ z := by rw [Nat.xor_assoc, ← Nat.xor_assoc y y z, Nat.xor_self, Nat.zero_xor]

theorem turned_sum (ks : List Nat) (l : List UInt8) (h : ∀ k ∈ ks, k < 8 * l.length) : sum crcT l ^^^ sum crcT (turned l ks) = Ds ks := by
  have key : ∀ (ks : List Nat) (r : List UInt8) (a : Nat), r.length = l.length → (∀ k ∈ ks, k < 8 * l.length) → run crcT 4294967295 l ^^^ run crcT 4294967295 r = a →
      run crcT 4294967295 l ^^^ run crcT 4294967295 (turned r ks) = ks.foldl (fun a k => a ^^^ D k) a := by
    intro ks
    induction ks with
    | nil => intro r a _ _ ha; exact ha
    | cons k ks ih =>
      intro r a hr hk ha
      have hk1 := hk k (by simp)
      show run crcT 4294967295 l ^^^ run crcT 4294967295 (turned (flip r (k % (8 * r.length))) ks) = ks.foldl _ (a ^^^ D k)
      refine ih _ _ (by rw [flip_len, hr]) (fun k' h' => hk k' (by simp [h'])) ?_
      rw [hr, Nat.mod_eq_of_lt hk1, ← flip_run r k (by omega) 4294967295, ← ha, xor_tel]
  rw [sum_xor crcT_tab]
  exact key ks l 0 rfl h (Nat.xor_self _)

/-- The same bits turned in two strings change their sums alike. -/
theorem echo (ks : List Nat) (a b : List UInt8) (ha : ∀ k ∈ ks, k < 8 * a.length) (hb : ∀ k ∈ ks, k < 8 * b.length) :
    sum crcT a ^^^ sum crcT (turned a ks) = sum crcT b ^^^ sum crcT (turned b ks) := by
  rw [turned_sum ks a ha, turned_sum ks b hb]

end Go.P1
