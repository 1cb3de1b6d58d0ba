/- Plain laws of layer 1: one bit turned, two bits, any bits within four bytes change a sum. -/
import Derived.Test.YtplahfhggnkahaaB06
set_option linter.all false
namespace Go.P1

theorem halved_back {y x : Nat} (hy : y < 4294967296) (h : halved y = x) (hx : x < 2147483648) : y = 2 * x := by
  unfold halved at h
  have h2 : y % 2 = 0 ∨ y % 2 = 1 := by omega
  rcases h2 with h2 | h2
  · rw [h2] at h
    simp at h
    omega
  · exfalso
    rw [h2, Nat.mul_one] at h
    have hb : (x).testBit 31 = false := Nat.testBit_lt_two_pow (by omega)
    have h3 : (y / 2).testBit 31 = false := Nat.testBit_lt_two_pow (by omega)
    rw [← h, Nat.testBit_xor, h3] at hb
    revert hb
    decide

def iter (n : Nat) (a : Nat) : Nat := Nat.repeat halved n a
theorem iter_add (m : Nat) : ∀ (n a : Nat), iter n (iter m a) = iter (n + m) a
  | 0, a => by simp [iter, Nat.repeat]
  | n + 1, a => by
    have := iter_add m n a
    unfold iter at this ⊢
    rw [show n + 1 + m = (n + m) + 1 by omega]
    simp only [Nat.repeat, this]
theorem iter_lt (n : Nat) {a : Nat} (h : a < 4294967296) : iter n a < 4294967296 := by
  induction n with
  | zero => exact h
  | succ n ih => exact halved_lt ih
theorem entry_iter (a : Nat) : entry a = iter 8 a := rfl

theorem iter_xor (n a b : Nat) : iter n (a ^^^ b) = iter n a ^^^ iter n b := by
  induction n with
  | zero => rfl
  | succ n ih =>
    show halved (iter n (a ^^^ b)) = halved (iter n a) ^^^ halved (iter n b)
    rw [ih, halved_xor]

theorem halved_even (n : Nat) : halved (2 * n) = n := by
  unfold halved
  rw [show 2 * n / 2 = n by omega, show 2 * n % 2 = 0 by omega]
  simp
theorem iter_pow (k : Nat) : ∀ x, iter k (2 ^ k * x) = x := by
  induction k with
  | zero => intro x; simp [iter, Nat.repeat]
  | succ k ih =>
    intro x
    have : iter (k + 1) (2 ^ (k + 1) * x) = iter k (iter 1 (2 ^ (k + 1) * x)) := (iter_add 1 k _).symm
    rw [this]
    show iter k (halved (2 ^ (k + 1) * x)) = x
    rw [show 2 ^ (k + 1) * x = 2 * (2 ^ k * x) by rw [Nat.pow_succ, Nat.mul_comm (2 ^ k) 2, Nat.mul_assoc], halved_even]
    exact ih x

theorem iter_back (n : Nat) {y : Nat} (hy : y < 4294967296) : ∀ x, iter n y = x → x * 2 ^ n < 4294967296 → y = x * 2 ^ n := by
  induction n with
  | zero => intro x h _; simpa [iter, Nat.repeat] using h
  | succ n ih =>
    intro x h hx
    have hp : 0 < 2 ^ n := Nat.pow_pos (by omega)
    have h1 : halved (iter n y) = x := h
    have hxx : x * 2 ^ (n + 1) = 2 * x * 2 ^ n := by rw [Nat.pow_succ, Nat.mul_comm (2 ^ n) 2, ← Nat.mul_assoc, Nat.mul_comm x 2]
    rw [hxx] at hx ⊢
    have hx2 : 2 * x < 4294967296 := Nat.lt_of_le_of_lt (Nat.le_mul_of_pos_right _ hp) hx
    exact ih (2 * x) (halved_back (iter_lt n hy) h1 (by omega)) hx

theorem split256 (s : Nat) : s = (256 * (s / 256)) ^^^ (s % 256) := by
  have h := Nat.two_pow_add_eq_or_of_lt (i := 8) (b := s % 256) (by omega) (s / 256)
  have e : s = 2 ^ 8 * (s / 256) + s % 256 := by omega
  have h2 : 2 ^ 8 * (s / 256) ^^^ s % 256 = 2 ^ 8 * (s / 256) ||| s % 256 := by
    apply Nat.eq_of_testBit_eq
    intro i
    rw [Nat.testBit_xor, Nat.testBit_or]
    by_cases hi : i < 8
    · have : (2 ^ 8 * (s / 256)).testBit i = false := by rw [Nat.testBit_two_pow_mul]; simp; omega
      rw [this]; simp
    · have : (s % 256).testBit i = false := Nat.testBit_lt_two_pow (Nat.lt_of_lt_of_le (show s % 256 < 2 ^ 8 by omega) (Nat.pow_le_pow_right (by omega) (by omega)))
      rw [this]; simp
  show s = 2 ^ 8 * (s / 256) ^^^ s % 256
  rw [h2, ← h]
  exact e

theorem step_iter {s : Nat} (b : UInt8) : step crcT s b = iter 8 (s ^^^ b.toNat) := by
  have hb := UInt8.toNat_lt b
  unfold step
  rw [crcT_get (xor_lt8 (by omega) hb), entry_iter]
  have h1 : s ^^^ b.toNat = (256 * (s / 256)) ^^^ (s % 256 ^^^ b.toNat) := by
    conv => lhs; rw [split256 s]
    rw [Nat.xor_assoc]
  have h9 := iter_pow 8 (s / 256)
  rw [show (2 : Nat) ^ 8 * (s / 256) = 256 * (s / 256) from rfl] at h9
  rw [h1, iter_xor 8 (256 * (s / 256)), h9]

/-- Up to four bytes as a word, the first one weighs least. -/
def word (l : List UInt8) : Nat := l.foldr (fun b n => 256 * n + b.toNat) 0
theorem word_cons (b : UInt8) (r : List UInt8) : word (b :: r) = 256 * word r + b.toNat := rfl
theorem word_lt : ∀ l : List UInt8, word l < 256 ^ l.length
  | [] => by simp [word]
  | b :: r => by
    have := word_lt r
    have hb := UInt8.toNat_lt b
    rw [word_cons, List.length_cons, Nat.pow_succ]
    omega

theorem run_word : ∀ (l : List UInt8) (s : Nat), s < 4294967296 → l.length ≤ 4 → run crcT s l = 0 → s = word l
  | [], s, _, _, h => h
  | b :: r, s, hs, hl, h => by
    simp only [List.length_cons] at hl
    have hb := UInt8.toNat_lt b
    have h1 : run crcT (step crcT s b) r = 0 := h
    have h2 := run_word r _ (step_lt crcT_tab hs b) (by omega) h1
    rw [step_iter] at h2
    have hw := word_lt r
    have hw3 : word r < 16777216 := Nat.lt_of_lt_of_le hw (Nat.pow_le_pow_right (show 0 < 256 by omega) (show r.length ≤ 3 by omega))
    have h3 := iter_back 8 (xor_lt32 hs (by omega)) _ h2 (by omega)
    have h4 : s = (s ^^^ b.toNat) ^^^ b.toNat := by rw [Nat.xor_assoc, Nat.xor_self, Nat.xor_zero]
    rw [h4, h3, word_cons]
    have h5 := split256 (256 * word r + b.toNat)
    rw [show (256 * word r + b.toNat) / 256 = word r by omega, show (256 * word r + b.toNat) % 256 = b.toNat by omega] at h5
    rw [h5, Nat.mul_comm (word r) (2 ^ 8)]

theorem word_zero : ∀ l : List UInt8, word l = 0 → l = List.replicate l.length 0
  | [], _ => rfl
  | b :: r, h => by
    rw [word_cons] at h
    have hb : b.toNat = 0 := by omega
    have := word_zero r (by omega)
    rw [List.length_cons, List.replicate_succ, ← this]
    congr 1
    exact UInt8.toNat_inj.1 hb

theorem step_zero (s : Nat) : step crcT s 0 = iter 8 s := by
  have h := step_iter (s := s) 0
  have hz : (0 : UInt8).toNat = 0 := UInt8.toNat_zero
  rw [h, hz, Nat.xor_zero]
theorem run_rep (n : Nat) : ∀ s, run crcT s (List.replicate n 0) = iter (8 * n) s := by
  induction n with
  | zero => intro s; rfl
  | succ n ih =>
    intro s
    have h1 : run crcT s (List.replicate (n + 1) 0) = run crcT (step crcT s 0) (List.replicate n 0) := by rw [List.replicate_succ]; exact List.foldl_cons ..
    rw [h1, ih, step_zero, iter_add]
    congr 1
theorem iter_zero (n : Nat) : iter n 0 = 0 := by
  have := iter_pow n 0
  rwa [Nat.mul_zero] at this
theorem run_zeros (n s : Nat) (hs : s < 4294967296) (h : run crcT s (List.replicate n 0) = 0) : s = 0 := by
  rw [run_rep] at h
  have := iter_back (8 * n) hs 0 h (by omega)
  rw [this, Nat.zero_mul]
theorem run_zeros0 (n : Nat) : run crcT 0 (List.replicate n 0) = 0 := by rw [run_rep, iter_zero]

/-- Two strings of one length that differ within four bytes: their sums differ. -/
theorem burst_run (d : List UInt8) (m n : Nat) (hd : d.length ≤ 4) (h : run crcT 0 (List.replicate m 0 ++ (d ++ List.replicate n 0)) = 0) : d = List.replicate d.length 0 := by
  rw [run_append, run_zeros0, run_append] at h
  have h1 := run_zeros n _ (run_lt crcT_tab d (by omega)) h
  exact word_zero d (run_word d 0 (by omega) hd h1).symm

/-- D, by halving 128. -/
theorem D_iter (i : Nat) : D i = iter (8 * (i / 8) + 15 - i % 8) 128 := by
  unfold D
  show run crcT (step crcT 0 _) (List.replicate (i / 8) 0) = _
  have hk : i % 8 < 8 := Nat.mod_lt _ (by omega)
  have hp : (UInt8.ofNat (2 ^ (i % 8))).toNat = 2 ^ (i % 8) := by
    rw [UInt8.toNat_ofNat']
    exact Nat.mod_eq_of_lt (Nat.lt_of_le_of_lt (Nat.pow_le_pow_right (by omega) (show i % 8 ≤ 7 by omega)) (by decide))
  have h128 : (2 : Nat) ^ (i % 8) = iter (7 - i % 8) 128 := by
    have := iter_pow (7 - i % 8) (2 ^ (i % 8))
    rw [← Nat.pow_add, show 7 - i % 8 + i % 8 = 7 by omega] at this
    exact this.symm
  rw [run_rep, step_iter, Nat.zero_xor, hp, h128, iter_add, iter_add]
  congr 1
  omega

theorem iter_inj (n : Nat) {a b : Nat} (ha : a < 4294967296) (hb : b < 4294967296) (h : iter n a = iter n b) : a = b := by
  have h1 : iter n (a ^^^ b) = 0 := by rw [iter_xor, h, Nat.xor_self]
  have h2 := iter_back n (xor_lt32 ha hb) 0 h1 (by omega)
  rw [Nat.zero_mul] at h2
  have h3 : a = (a ^^^ b) ^^^ b := by rw [Nat.xor_assoc, Nat.xor_self, Nat.xor_zero]
  rw [h3, h2, Nat.zero_xor]

/-- No 128 comes again for a long time. -/
def away : Nat → Nat → Bool
  | 0, _ => true
  | n + 1, a => halved a != 128 && away n (halved a)
theorem away_iter : ∀ (n a : Nat), away n a = true → ∀ d, d < n → iter (d + 1) a ≠ 128
  | n + 1, a, h, d, hd => by
    simp only [away, Bool.and_eq_true, bne_iff_ne] at h
    rcases d with _ | d
    · exact h.1
    · have := away_iter n (halved a) h.2 d (by omega)
      rw [show d + 1 + 1 = (d + 1) + 1 from rfl, ← iter_add 1 (d + 1) a]
      exact this
set_option maxRecDepth 100000 in
theorem away128 : away 3300 128 = true := by decide +kernel

theorem D_ne {i j : Nat} (hi : i < 3200) (hj : j < 3200) (h : D i = D j) : i = j := by
  have key : ∀ x y : Nat, x < y → y ≤ 3210 → iter x 128 ≠ iter y 128 := by
    intro x y hxy hy h
    rw [show y = x + (y - x) by omega, ← iter_add (y - x) x 128] at h
    have h2 := iter_inj x (by omega) (iter_lt _ (by omega)) h
    have := away_iter 3300 128 away128 (y - x - 1) (by omega)
    rw [show y - x - 1 + 1 = y - x by omega] at this
    exact this h2.symm
  rw [D_iter, D_iter] at h
  rcases Nat.lt_trichotomy (8 * (i / 8) + 15 - i % 8) (8 * (j / 8) + 15 - j % 8) with hl | he | hg
  · exact absurd h (key _ _ hl (by omega))
  · omega
  · exact absurd h.symm (key _ _ hg (by omega))
theorem D_pos (i : Nat) : D i ≠ 0 := by
  rw [D_iter]
  intro h
  have := iter_back _ (show 128 < 4294967296 by omega) 0 h (by omega)
  omega

end Go.P1
