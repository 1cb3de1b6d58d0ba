/- Plain laws of layer 1: sums are linear. -/
import Derived.Test.YtplahfhggnkahaaB01
set_option linter.all false
namespace Go.P1

theorem xor_mod2 (a b : Nat) : (a ^^^ b) % 2 = (a % 2) ^^^ (b % 2) := by
  have h := Nat.xor_mod_two_pow (a := a) (b := b) (n := 1)
  simpa using h
theorem xor_div2 (a b : Nat) : (a ^^^ b) / 2 = (a / 2) ^^^ (b / 2) := by
  have h := Nat.shiftRight_xor_distrib (a := a) (b := b) (i := 1)
  simpa [Nat.shiftRight_eq_div_pow] using h
theorem xor_mod256 (a b : Nat) : (a ^^^ b) % 256 = (a % 256) ^^^ (b % 256) := by
  have h := Nat.xor_mod_two_pow (a := a) (b := b) (n := 8)
  simpa using h
theorem xor_div256 (a b : Nat) : (a ^^^ b) / 256 = (a / 256) ^^^ (b / 256) := by
  have h := Nat.shiftRight_xor_distrib (a := a) (b := b) (i := 8)
  simpa [Nat.shiftRight_eq_div_pow] using h
theorem xor4 (a b c d : Nat) : (a ^^^ b) ^^^ (c ^^^ d) = (a ^^^ c) ^^^ (b ^^^ d) := by
  rw [Nat.xor_assoc, ← Nat.xor_assoc b c d, Nat.xor_comm b c, Nat.xor_assoc c b d, ← Nat.xor_assoc]

theorem halved_xor (a b : Nat) : halved (a ^^^ b) = halved a ^^^ halved b := by
  unfold halved
  rw [xor_div2, xor_mod2, xor4]
  congr 1
  have ha : a % 2 = 0 ∨ a % 2 = 1 := by omega
  have hb : b % 2 = 0 ∨ b % 2 = 1 := by omega
  rcases ha with ha | ha <;> rcases hb with hb | hb <;> rw [ha, hb] <;> simp

theorem entry_xor (a b : Nat) : entry (a ^^^ b) = entry a ^^^ entry b := by
  unfold entry
  simp only [halved_xor]

theorem crcT_get {i : Nat} (h : i < 256) : crcT.getD i 0 = entry i := by
  rw [crcT_is]
  simp [List.getD, h]

theorem step_xor {s t : Nat} (a b : UInt8) : step crcT (s ^^^ t) (a ^^^ b) = step crcT s a ^^^ step crcT t b := by
  have ha := UInt8.toNat_lt a
  have hb := UInt8.toNat_lt b
  have h1 := xor_lt8 (show s % 256 < 256 by omega) ha
  have h2 := xor_lt8 (show t % 256 < 256 by omega) hb
  have h3 := xor_lt8 h1 h2
  unfold step
  rw [UInt8.toNat_xor, xor_div256, xor_mod256, xor4 (s % 256) (t % 256), crcT_get h1, crcT_get h2, crcT_get h3, entry_xor, xor4]

/-- Bytes by bytes. -/
def xorL : List UInt8 → List UInt8 → List UInt8
  | a :: l, b :: r => (a ^^^ b) :: xorL l r
  | _, _ => []

theorem run_xor : ∀ (l r : List UInt8) (s t : Nat), l.length = r.length → run crcT (s ^^^ t) (xorL l r) = run crcT s l ^^^ run crcT t r
  | [], [], s, t, _ => rfl
  | a :: l, b :: r, s, t, h => by
    show run crcT (step crcT (s ^^^ t) (a ^^^ b)) (xorL l r) = run crcT (step crcT s a) l ^^^ run crcT (step crcT t b) r
    rw [step_xor]
    exact run_xor l r _ _ (by simpa using h)
  | [], _ :: _, _, _, h => by simp at h
  | _ :: _, [], _, _, h => by simp at h

theorem run_append (T : List Nat) (s : Nat) (l r : List UInt8) : run T s (l ++ r) = run T (run T s l) r := by simp [run, List.foldl_append]

theorem compl {a : Nat} (h : a < 4294967296) : 4294967295 - a = a ^^^ 4294967295 := by
  have h1 : (~~~ (BitVec.ofNat 32 a)).toNat = 4294967295 - a := by
    rw [BitVec.toNat_not, BitVec.toNat_ofNat]
    omega
  rw [← h1, ← BitVec.xor_allOnes, BitVec.toNat_xor, BitVec.toNat_allOnes, BitVec.toNat_ofNat]
  congr 1
  omega

theorem sum_xor {T : List Nat} (hT : Tab T) (l r : List UInt8) : sum T l ^^^ sum T r = run T 4294967295 l ^^^ run T 4294967295 r := by
  unfold sum
  rw [compl (run_lt hT l (by omega)), compl (run_lt hT r (by omega)), xor4, Nat.xor_self, Nat.xor_zero]

/-- Of two strings that begin alike the sums differ by what those of their ends differ by. -/
theorem tails (c a b : List UInt8) (h : a.length = b.length) : sum crcT (c ++ a) ^^^ sum crcT (c ++ b) = sum crcT a ^^^ sum crcT b := by
  rw [sum_xor crcT_tab, sum_xor crcT_tab, run_append, run_append, ← run_xor a b _ _ h, ← run_xor a b _ _ h, Nat.xor_self, Nat.xor_self]

theorem unsealed_sealed (S : List UInt8 → Nat) (l : List UInt8) : unsealed S (sealed S l) = (l, 0) := by
  have hl : (sealed S l).length = l.length + 4 := by simp [sealed, be4]
  have ht : (sealed S l).take ((sealed S l).length - 4) = l := by rw [hl]; simp [sealed]
  rw [unsealed_is S (by omega), ht, if_pos rfl]

end Go.P1
