/- Plain Lean; no program in sight. -/
import Derived.KernelRfl
import Derived.KernelRfl
set_option linter.all false
/- Plain laws of layer 1 (bytes): what numbers and strings of bytes come to; no program in sight. -/
namespace Go.P1

/-- The bytes of a number, read from place k on with n so far: the number, how many bytes, the error. -/
def num : List UInt8 → Nat → Nat → Nat × Nat × Nat
  | [], _, _ => (0, 0, 11)
  | c :: r, k, n =>
    if (0 < k ∧ c.toNat = 0) ∨ (8 < k ∧ 1 < c.toNat) then (0, 0, 10)
    else if c.toNat < 128 then (n + c.toNat % 128 * 2 ^ (7 * k), k + 1, 0)
    else num r (k + 1) (n + c.toNat % 128 * 2 ^ (7 * k))

def getUint (l : List UInt8) (p : Int) : Nat × Nat × Nat :=
  if p < 0 ∨ (l.length : Int) < p then (0, 0, 2)
  else match num (l.drop p.toNat) 0 0 with
    | (n, j, e) => if e = 0 then (n, p.toNat + j, 0) else (0, 0, e)

theorem pow7 (k : Nat) : 2 ^ (7 * (k + 1)) = 128 * 2 ^ (7 * k) := by
  rw [Nat.mul_add, Nat.pow_add]; omega

theorem num_step {c : UInt8} {r : List UInt8} {k n : Nat} (h1 : ¬ ((0 < k ∧ c.toNat = 0) ∨ (8 < k ∧ 1 < c.toNat))) (h2 : 128 ≤ c.toNat) :
    num (c :: r) k n = num r (k + 1) (n + c.toNat % 128 * 2 ^ (7 * k)) := by
  rw [num, if_neg h1, if_neg (by omega)]

theorem num_bad {c : UInt8} {r : List UInt8} {k n : Nat} (h1 : (0 < k ∧ c.toNat = 0) ∨ (8 < k ∧ 1 < c.toNat)) : num (c :: r) k n = (0, 0, 10) := by
  rw [num, if_pos h1]

theorem num_end {c : UInt8} {r : List UInt8} {k n : Nat} (h1 : ¬ ((0 < k ∧ c.toNat = 0) ∨ (8 < k ∧ 1 < c.toNat))) (h2 : c.toNat < 128) :
    num (c :: r) k n = (n + c.toNat % 128 * 2 ^ (7 * k), k + 1, 0) := by
  rw [num, if_neg h1, if_pos h2]

theorem getUint_of {l : List UInt8} {p n j : Nat} (h : p ≤ l.length) (hn : num (l.drop p) 0 0 = (n, j, 0)) : getUint l p = (n, p + j, 0) := by
  unfold getUint
  rw [if_neg (by omega)]
  simp [hn]

theorem getUint_err {l : List UInt8} {p e : Nat} (h : p ≤ l.length) (he : e ≠ 0) (hn : num (l.drop p) 0 0 = (0, 0, e)) : getUint l p = (0, 0, e) := by
  unfold getUint
  rw [if_neg (by omega)]
  simp [hn, he]

theorem getUint_out {l : List UInt8} {p : Int} (h : p < 0 ∨ (l.length : Int) < p) : getUint l p = (0, 0, 2) := by
  unfold getUint
  rw [if_pos h]

theorem room (m x k : Nat) (hk : k ≤ 9) (hm : m < 2 ^ (7 * k)) (hx : 8 < k → x < 2) : m + x % 128 * 2 ^ (7 * k) < 18446744073709551616 ∧ (k ≤ 8 → m + x % 128 * 2 ^ (7 * k) < 2 ^ (7 * (k + 1))) := by
  have hp := pow7 k
  have h1 : x % 128 < 128 := Nat.mod_lt _ (by omega)
  have h2 : x % 128 * 2 ^ (7 * k) ≤ 127 * 2 ^ (7 * k) := Nat.mul_le_mul_right _ (by omega)
  rcases Nat.lt_or_ge 8 k with h9 | h8
  · obtain rfl : k = 9 := by omega
    have := hx (by omega)
    have h3 : x % 128 ≤ 1 := by omega
    have h4 : x % 128 * 2 ^ (7 * 9) ≤ 1 * 2 ^ (7 * 9) := Nat.mul_le_mul_right _ h3
    have h5 : (2 : Nat) ^ (7 * 9) = 9223372036854775808 := by decide
    exact ⟨by omega, fun h => by omega⟩
  · have h6 : 2 ^ (7 * k) ≤ 2 ^ (7 * 8) := Nat.pow_le_pow_right (by omega) (by omega)
    have h7 : (2 : Nat) ^ (7 * 8) = 72057594037927936 := by decide
    exact ⟨by omega, fun _ => by omega⟩

theorem wlt {k : Nat} (hk : k ≤ 9) : 2 ^ (7 * k) ≤ 9223372036854775808 := by
  have h6 : 2 ^ (7 * k) ≤ 2 ^ (7 * 9) := Nat.pow_le_pow_right (by omega) (by omega)
  have h7 : (2 : Nat) ^ (7 * 9) = 9223372036854775808 := by decide
  omega

/-- A string that comes. -/
def getBlob (l : List UInt8) (p most : Int) : List UInt8 × Nat × Nat :=
  match getUint l p with
  | (n, j, e) => if e ≠ 0 then ([], 0, e) else if most < 0 ∨ most < n then ([], 0, 3) else if l.length - j < n then ([], 0, 11) else ((l.drop j).take n, j + n, 0)

theorem drop_at {l : List UInt8} {j : Nat} (h : j < l.length) : l.drop j = l[j] :: l.drop (j + 1) := List.drop_eq_getElem_cons h

/-- A number as it is sent. -/
def varint (n : Nat) : List UInt8 := if n < 128 then [UInt8.ofNat n] else UInt8.ofNat (n % 128 + 128) :: varint (n / 128)
termination_by n
decreasing_by omega

theorem varint_lt {n : Nat} (h : n < 128) : varint n = [UInt8.ofNat n] := by rw [varint, if_pos h]
theorem varint_ge {n : Nat} (h : 128 ≤ n) : varint n = UInt8.ofNat (n % 128 + 128) :: varint (n / 128) := by rw [varint, if_neg (by omega)]

theorem varint_pos (n : Nat) : 0 < (varint n).length := by
  rcases Nat.lt_or_ge n 128 with h | h
  · rw [varint_lt h]; simp
  · rw [varint_ge h]; simp

theorem varint_len : ∀ (k n : Nat), n < 128 ^ (k + 1) → (varint n).length ≤ k + 1
  | 0, n, h => by rw [varint_lt (by simpa using h)]; simp
  | k + 1, n, h => by
    rcases Nat.lt_or_ge n 128 with hl | hg
    · rw [varint_lt hl]; simp
    · rw [varint_ge hg, List.length_cons]
      have : n / 128 < 128 ^ (k + 1) := by
        rw [Nat.div_lt_iff_lt_mul (by omega)]
        rw [Nat.pow_succ] at h
        exact h
      have := varint_len k (n / 128) this
      omega

theorem varint_len10 {n : Nat} (h : n < 18446744073709551616) : (varint n).length ≤ 10 := varint_len 9 n (Nat.lt_of_lt_of_le h (by decide))

theorem num_fits : ∀ (l : List UInt8) (k n a j e : Nat), k ≤ 9 → n < 2 ^ (7 * k) → num l k n = (a, j, e) → a < 18446744073709551616 ∧ (e = 0 → k < j ∧ j ≤ k + l.length) ∧ e ≤ 11
  | [], k, n, a, j, e, _, _, h => by
    simp only [num, Prod.mk.injEq] at h
    omega
  | c :: r, k, n, a, j, e, hk, hn, h => by
    by_cases h1 : (0 < k ∧ c.toNat = 0) ∨ (8 < k ∧ 1 < c.toNat)
    · rw [num_bad h1] at h
      simp only [Prod.mk.injEq] at h
      omega
    · have hr := room n c.toNat k hk hn (by omega)
      by_cases h2 : c.toNat < 128
      · rw [num_end h1 h2] at h
        simp only [Prod.mk.injEq] at h
        simp only [List.length_cons]
        omega
      · rw [num_step h1 (by omega)] at h
        have := num_fits r (k + 1) _ a j e (by omega) (hr.2 (by omega)) h
        simp only [List.length_cons]
        omega

theorem getUint_fits (l : List UInt8) (p : Int) : (getUint l p).1 < 18446744073709551616 ∧ (getUint l p).2.1 ≤ l.length ∧ (getUint l p).2.2 ≤ 11 ∧ ((getUint l p).2.2 = 0 → 0 < (getUint l p).2.1) ∧ ((getUint l p).2.2 ≠ 0 → (getUint l p).1 = 0 ∧ (getUint l p).2.1 = 0) := by
  unfold getUint
  split
  · simp
  · rename_i h
    rcases hq : num (l.drop p.toNat) 0 0 with ⟨a, j, e⟩
    have := num_fits _ 0 0 a j e (by omega) (by simp) hq
    simp only [List.length_drop] at this
    by_cases he : e = 0
    · simp only [he, if_true]
      exact ⟨this.1, by omega, by omega, fun _ => by omega, fun h => absurd rfl h⟩
    · simp only [if_neg he]
      exact ⟨by omega, by omega, by omega, fun h => absurd h he, fun _ => by simp⟩

theorem getBlob_err {l : List UInt8} {p most : Int} {n j e : Nat} (h : getUint l p = (n, j, e)) (he : e ≠ 0) : getBlob l p most = ([], 0, e) := by
  unfold getBlob
  simp [h, he]
theorem getBlob_long {l : List UInt8} {p most : Int} {n j : Nat} (h : getUint l p = (n, j, 0)) (hm : most < 0 ∨ most < n) : getBlob l p most = ([], 0, 3) := by
  unfold getBlob
  simp [h, hm]
theorem getBlob_short {l : List UInt8} {p most : Int} {n j : Nat} (h : getUint l p = (n, j, 0)) (hm : ¬ (most < 0 ∨ most < n)) (hs : l.length - j < n) : getBlob l p most = ([], 0, 11) := by
  unfold getBlob
  simp [h, hm, hs]
theorem getBlob_ok {l : List UInt8} {p most : Int} {n j : Nat} (h : getUint l p = (n, j, 0)) (hm : ¬ (most < 0 ∨ most < n)) (hs : ¬ l.length - j < n) : getBlob l p most = ((l.drop j).take n, j + n, 0) := by
  unfold getBlob
  simp [h, hm, hs]

/-- One byte of a sum, by the table T. -/
def step (T : List Nat) (s : Nat) (b : UInt8) : Nat := s / 256 ^^^ T.getD (s % 256 ^^^ b.toNat) 0
def run (T : List Nat) (s : Nat) (l : List UInt8) : Nat := l.foldl (step T) s
def sum (T : List Nat) (l : List UInt8) : Nat := 4294967295 - run T 4294967295 l

/-- 256 numbers of 32 bits. -/
def Tab (T : List Nat) : Prop := T.length = 256 ∧ ∀ x ∈ T, x < 4294967296

theorem Tab.lt {T : List Nat} (h : Tab T) (k : Nat) : T.getD k 0 < 4294967296 := by
  rcases Nat.lt_or_ge k T.length with hk | hk
  · rw [List.getD_eq_getElem?_getD, List.getElem?_eq_getElem hk]
    exact h.2 _ (List.getElem_mem hk)
  · rw [List.getD_eq_getElem?_getD, List.getElem?_eq_none hk]
    decide

theorem xor_lt32 {a b : Nat} (ha : a < 4294967296) (hb : b < 4294967296) : a ^^^ b < 4294967296 := Nat.xor_lt_two_pow (n := 32) ha hb
theorem xor_lt8 {a b : Nat} (ha : a < 256) (hb : b < 256) : a ^^^ b < 256 := Nat.xor_lt_two_pow (n := 8) ha hb

theorem step_lt {T : List Nat} (h : Tab T) {s : Nat} (hs : s < 4294967296) (b : UInt8) : step T s b < 4294967296 := xor_lt32 (by omega) (h.lt _)
theorem run_lt {T : List Nat} (h : Tab T) : ∀ (l : List UInt8) {s : Nat}, s < 4294967296 → run T s l < 4294967296
  | [], _, hs => hs
  | b :: r, _, hs => run_lt h r (step_lt h hs b)
theorem run_snoc (T : List Nat) (s : Nat) (l : List UInt8) (b : UInt8) : run T s (l ++ [b]) = step T (run T s l) b := by simp [run]
theorem sum_lt (T : List Nat) (l : List UInt8) : sum T l < 4294967296 := by unfold sum; omega

def halved (n : Nat) : Nat := n / 2 ^^^ 2197175160 * (n % 2)
theorem halved_lt {n : Nat} (h : n < 4294967296) : halved n < 4294967296 := by
  have h1 : n % 2 < 2 := Nat.mod_lt _ (by omega)
  exact xor_lt32 (by omega) (by omega)

/-- The powers of the turn: what the table has at 128, 64, .. -/
def hv : Nat → Nat
  | 0 => 2197175160
  | k + 1 => halved (hv k)
def zeros : List Nat := List.replicate 256 0
def tab1 : Nat → List Nat
  | 0 => zeros
  | k + 1 => (tab1 k).set (128 / 2 ^ k) (hv k)
/-- The places from 2^k on, low of them. -/
def fill (T : List Nat) (k : Nat) : Nat → List Nat
  | 0 => T
  | low + 1 => (fill T k low).set (2 ^ k + low) ((fill T k low).getD (2 ^ k) 0 ^^^ (fill T k low).getD low 0)
def tab2 : Nat → List Nat
  | 0 => tab1 8
  | k + 1 => fill (tab2 k) k (2 ^ k)
def crcT : List Nat := tab2 8
def entry (i : Nat) : Nat := halved (halved (halved (halved (halved (halved (halved (halved i)))))))

theorem hv_lt : ∀ k, hv k < 4294967296
  | 0 => by decide
  | k + 1 => halved_lt (hv_lt k)
theorem Tab.set {T : List Nat} (h : Tab T) (i : Nat) {v : Nat} (hv : v < 4294967296) : Tab (T.set i v) :=
  ⟨by rw [List.length_set]; exact h.1, fun x hx => by
    rcases List.mem_or_eq_of_mem_set hx with h1 | h1
    · exact h.2 x h1
    · rw [h1]; exact hv⟩
theorem zeros_tab : Tab zeros := ⟨List.length_replicate, fun x hx => by rw [(List.mem_replicate.1 hx).2]; decide⟩
theorem tab1_tab : ∀ k, Tab (tab1 k)
  | 0 => zeros_tab
  | k + 1 => (tab1_tab k).set _ (hv_lt k)
theorem fill_tab {T : List Nat} (h : Tab T) (k : Nat) : ∀ low, Tab (fill T k low)
  | 0 => h
  | low + 1 => (fill_tab h k low).set _ (xor_lt32 ((fill_tab h k low).lt _) ((fill_tab h k low).lt _))
theorem tab2_tab : ∀ k, Tab (tab2 k)
  | 0 => tab1_tab 8
  | k + 1 => fill_tab (tab2_tab k) k _
theorem crcT_tab : Tab crcT := tab2_tab 8
theorem div_words (k : Nat) : ∃ x : Nat, 128 / 2 ^ k = x ∧ x < 256 ∧ (128 : Int) / 2 ^ k = (x : Int) :=
  ⟨_, rfl, Nat.lt_of_le_of_lt (Nat.div_le_self 128 (2 ^ k)) (by omega), by push_cast; rfl⟩
theorem pow_words (k : Nat) (h : k < 8) : ∃ p : Nat, 2 ^ k = p ∧ 1 ≤ p ∧ p ≤ 128 ∧ (2 : Int) ^ k = (p : Int) :=
  ⟨_, rfl, Nat.pow_pos (by omega), Nat.pow_le_pow_right (show 0 < 2 by omega) (show k ≤ 7 by omega), by push_cast; rfl⟩
/-- Low bits beside a power. -/
theorem or_words (k p low : Nat) (hp : 2 ^ k = p) (hl : low < p) : p ||| low = p + low := by
  subst hp
  rw [Nat.or_comm, Nat.add_comm]
  have := Nat.two_pow_add_eq_or_of_lt hl 1
  rw [Nat.mul_one] at this
  rw [Nat.or_comm, ← this, Nat.add_comm]
theorem fill_step (T : List Nat) (k p low : Nat) (hp : 2 ^ k = p) : fill T k (low + 1) = (fill T k low).set (p + low) ((fill T k low).getD p 0 ^^^ (fill T k low).getD low 0) := by
  subst hp; rfl
theorem tab2_step (k p : Nat) (hp : 2 ^ k = p) : tab2 (k + 1) = fill (tab2 k) k p := by subst hp; rfl

theorem crcT_is : crcT = (List.range 256).map entry := by decide +kernel

/-- Four bytes of a number, the one that weighs most first. -/
def be4 (s : Nat) : List UInt8 := [UInt8.ofNat (s / 16777216), UInt8.ofNat (s / 65536), UInt8.ofNat (s / 256), UInt8.ofNat s]
def sealed (S : List UInt8 → Nat) (l : List UInt8) : List UInt8 := l ++ be4 (S l)
theorem be4_len (s : Nat) : (be4 s).length = 4 := rfl
/-- What is laid so far: k of the four bytes, from the last one on. -/
def laid4 (n s k : Nat) : List UInt8 := List.replicate (n + (4 - k)) 0 ++ (be4 s).drop (4 - k)
theorem laid4_len (n s k : Nat) (h : k ≤ 4) : (laid4 n s k).length = n + 4 := by simp [laid4, be4]; omega
theorem set_last (m : Nat) (R : List UInt8) (b : UInt8) : (List.replicate (m + 1) 0 ++ R).set m b = List.replicate m 0 ++ b :: R := by
  rw [List.set_append_left _ _ (by simp)]
  rw [List.replicate_succ', List.set_append_right _ _ (by simp)]
  simp
theorem laid4_step (n s k : Nat) (h : k < 4) : (laid4 n s k).set (n + 3 - k) (UInt8.ofNat (s / 2 ^ (8 * k))) = laid4 n s (k + 1) := by
  have hk : k = 0 ∨ k = 1 ∨ k = 2 ∨ k = 3 := by omega
  rcases hk with rfl | rfl | rfl | rfl
  · have := set_last (n + 3) [] (UInt8.ofNat s)
    simpa [laid4, be4] using this
  · have := set_last (n + 2) [UInt8.ofNat s] (UInt8.ofNat (s / 256))
    simpa [laid4, be4] using this
  · have := set_last (n + 1) [UInt8.ofNat (s / 256), UInt8.ofNat s] (UInt8.ofNat (s / 65536))
    simpa [laid4, be4] using this
  · have := set_last n [UInt8.ofNat (s / 65536), UInt8.ofNat (s / 256), UInt8.ofNat s] (UInt8.ofNat (s / 16777216))
    simpa [laid4, be4] using this
theorem byte_word (s k : Nat) : ((UInt8.ofNat (s / 2 ^ (8 * k))).toNat : Int) = (s : Int) / 2 ^ (8 * k) % 256 := by
  rw [UInt8.toNat_ofNat', Int.natCast_emod, Int.natCast_ediv, Int.natCast_pow]
  rfl
theorem laid4_end (n s : Nat) : laid4 n s 4 = List.replicate n 0 ++ be4 s := by simp [laid4]

def unsealed (S : List UInt8 → Nat) (l : List UInt8) : List UInt8 × Nat :=
  if l.length < 4 then ([], 11) else if sealed S (l.take (l.length - 4)) = l then (l.take (l.length - 4), 0) else ([], 12)
theorem unsealed_short (S : List UInt8 → Nat) {l : List UInt8} (h : l.length < 4) : unsealed S l = ([], 11) := by unfold unsealed; rw [if_pos h]
theorem unsealed_is (S : List UInt8 → Nat) {l : List UInt8} (h : 4 ≤ l.length) : unsealed S l = if sealed S (l.take (l.length - 4)) = l then (l.take (l.length - 4), 0) else ([], 12) := by
  unfold unsealed; rw [if_neg (by omega)]

/-- What comes, as text. -/
def comesL (l : List UInt8) (p : Int) : List UInt8 :=
  match getUint l p with
  | (n, j, e) => if e ≠ 0 then [101, 114, 114, 111, 114, 32] ++ varint e else varint n ++ [32] ++ varint j

end Go.P1

/- Plain laws of layer 1: sums are linear. -/
namespace Go.P1

theorem xor_mod2 (a b : Nat) : (a ^^^ b) % 2 = (a % 2) ^^^ (b % 2) := by
  have h := Nat.xor_mod_two_pow (a := a) (b := b) (n := 1)
  simpa using h
theorem xor_div2 (a b : Nat) : (a ^^^ b) / 2 = (a / 2) ^^^ (b / 2) := by
  have h := Nat.shiftRight_xor_distrib (a := a) (b := b) (i := 1)
  simpa [Nat.shiftRight_eq_div_pow] using h
theorem xor_mod256 (a b : Nat) : (a ^^^ b) % 256 = (a % 256) ^^^ (b % 256) := by
  have h := Nat.xor_mod_two_pow (a := a) (b := b) (n := 8)
  simpa using h
theorem xor_div256 (a b : Nat) : (a ^^^ b) / 256 = (a / 256) ^^^ (b / 256) := by
  have h := Nat.shiftRight_xor_distrib (a := a) (b := b) (i := 8)
  simpa [Nat.shiftRight_eq_div_pow] using h
theorem xor4 (a b c d : Nat) : (a ^^^ b) ^^^ (c ^^^ d) = (a ^^^ c) ^^^ (b ^^^ d) := by
  rw [Nat.xor_assoc, ← Nat.xor_assoc b c d, Nat.xor_comm b c, Nat.xor_assoc c b d, ← Nat.xor_assoc]

theorem halved_xor (a b : Nat) : halved (a ^^^ b) = halved a ^^^ halved b := by
  unfold halved
  rw [xor_div2, xor_mod2, xor4]
  congr 1
  have ha : a % 2 = 0 ∨ a % 2 = 1 := by omega
  have hb : b % 2 = 0 ∨ b % 2 = 1 := by omega
  rcases ha with ha | ha <;> rcases hb with hb | hb <;> rw [ha, hb] <;> simp

theorem entry_xor (a b : Nat) : entry (a ^^^ b) = entry a ^^^ entry b := by
  unfold entry
  simp only [halved_xor]

theorem crcT_get {i : Nat} (h : i < 256) : crcT.getD i 0 = entry i := by
  rw [crcT_is]
  simp [List.getD, h]

theorem step_xor {s t : Nat} (a b : UInt8) : step crcT (s ^^^ t) (a ^^^ b) = step crcT s a ^^^ step crcT t b := by
  have ha := UInt8.toNat_lt a
  have hb := UInt8.toNat_lt b
  have h1 := xor_lt8 (show s % 256 < 256 by omega) ha
  have h2 := xor_lt8 (show t % 256 < 256 by omega) hb
  have h3 := xor_lt8 h1 h2
  unfold step
  rw [UInt8.toNat_xor, xor_div256, xor_mod256, xor4 (s % 256) (t % 256), crcT_get h1, crcT_get h2, crcT_get h3, entry_xor, xor4]

/-- Bytes by bytes. -/
def xorL : List UInt8 → List UInt8 → List UInt8
  | a :: l, b :: r => (a ^^^ b) :: xorL l r
  | _, _ => []

theorem run_xor : ∀ (l r : List UInt8) (s t : Nat), l.length = r.length → run crcT (s ^^^ t) (xorL l r) = run crcT s l ^^^ run crcT t r
  | [], [], s, t, _ => rfl
  | a :: l, b :: r, s, t, h => by
    show run crcT (step crcT (s ^^^ t) (a ^^^ b)) (xorL l r) = run crcT (step crcT s a) l ^^^ run crcT (step crcT t b) r
    rw [step_xor]
    exact run_xor l r _ _ (by simpa using h)
  | [], _ :: _, _, _, h => by simp at h
  | _ :: _, [], _, _, h => by simp at h

theorem run_append (T : List Nat) (s : Nat) (l r : List UInt8) : run T s (l ++ r) = run T (run T s l) r := by simp [run, List.foldl_append]

theorem compl {a : Nat} (h : a < 4294967296) : 4294967295 - a = a ^^^ 4294967295 := by
  have h1 : (~~~ (BitVec.ofNat 32 a)).toNat = 4294967295 - a := by
    rw [BitVec.toNat_not, BitVec.toNat_ofNat]
    omega
  rw [← h1, ← BitVec.xor_allOnes, BitVec.toNat_xor, BitVec.toNat_allOnes, BitVec.toNat_ofNat]
  congr 1
  omega

theorem sum_xor {T : List Nat} (hT : Tab T) (l r : List UInt8) : sum T l ^^^ sum T r = run T 4294967295 l ^^^ run T 4294967295 r := by
  unfold sum
  rw [compl (run_lt hT l (by omega)), compl (run_lt hT r (by omega)), xor4, Nat.xor_self, Nat.xor_zero]

/-- Of two strings that begin alike the sums differ by what those of their ends differ by. -/
theorem tails (c a b : List UInt8) (h : a.length = b.length) : sum crcT (c ++ a) ^^^ sum crcT (c ++ b) = sum crcT a ^^^ sum crcT b := by
  rw [sum_xor crcT_tab, sum_xor crcT_tab, run_append, run_append, ← run_xor a b _ _ h, ← run_xor a b _ _ h, Nat.xor_self, Nat.xor_self]

theorem unsealed_sealed (S : List UInt8 → Nat) (l : List UInt8) : unsealed S (sealed S l) = (l, 0) := by
  have hl : (sealed S l).length = l.length + 4 := by simp [sealed, be4]
  have ht : (sealed S l).take ((sealed S l).length - 4) = l := by rw [hl]; simp [sealed]
  rw [unsealed_is S (by omega), ht, if_pos rfl]

end Go.P1

/- Plain laws of layer 1: bits turned. -/
namespace Go.P1

/-- The bit i, counted from the last one on, is turned. -/
def flip (l : List UInt8) (i : Nat) : List UInt8 := l.set (l.length - 1 - i / 8) (l.getD (l.length - 1 - i / 8) 0 ^^^ UInt8.ofNat (2 ^ (i % 8)))
def turned (l : List UInt8) (ks : List Nat) : List UInt8 := ks.foldl (fun r k => flip r (k % (8 * r.length))) l

theorem flip_len (l : List UInt8) (i : Nat) : (flip l i).length = l.length := by simp [flip]
theorem turned_len (ks : List Nat) : ∀ l : List UInt8, (turned l ks).length = l.length := by
  induction ks with
  | nil => intro l; rfl
  | cons k ks ih => intro l; show (turned (flip l _) ks).length = _; rw [ih, flip_len]
theorem turned_snoc (l : List UInt8) (ks : List Nat) (k : Nat) : turned l (ks ++ [k]) = flip (turned l ks) (k % (8 * l.length)) := by
  unfold turned
  rw [List.foldl_append]
  show flip _ _ = _
  rw [show (ks.foldl (fun r k => flip r (k % (8 * r.length))) l).length = l.length from turned_len ks l]

end Go.P1

/- Plain laws of layer 1: how a sum changes hangs on which bits were turned, and how far from the end they are. -/
namespace Go.P1

theorem xorL_self : ∀ r : List UInt8, xorL r r = List.replicate r.length 0
  | [] => rfl
  | a :: r => by
    show (a ^^^ a) :: xorL r r = _
    rw [xorL_self r, UInt8.xor_self]
    rfl

/-- What a sum changes by, if the bit i from the end is turned. -/
def D (i : Nat) : Nat := run crcT 0 (UInt8.ofNat (2 ^ (i % 8)) :: List.replicate (i / 8) 0)

theorem flip_run (l : List UInt8) (i : Nat) (h : i < 8 * l.length) (s : Nat) : run crcT s l ^^^ run crcT s (flip l i) = D i := by
  obtain ⟨j, hj⟩ : ∃ j, j = l.length - 1 - i / 8 := ⟨_, rfl⟩
  have hjl : j < l.length := by omega
  have e1 : l = l.take j ++ l[j] :: l.drop (j + 1) := by rw [← List.drop_eq_getElem_cons hjl, List.take_append_drop]
  have e2 : flip l i = l.take j ++ (l[j] ^^^ UInt8.ofNat (2 ^ (i % 8))) :: l.drop (j + 1) := by
    unfold flip
    rw [← hj, List.set_eq_take_append_cons_drop, if_pos hjl, List.getD_eq_getElem?_getD, List.getElem?_eq_getElem hjl]
    rfl
  have e3 : run crcT s l = run crcT (run crcT s (l.take j)) (l[j] :: l.drop (j + 1)) := by rw [← run_append, ← e1]
  have e4 : run crcT s (flip l i) = run crcT (run crcT s (l.take j)) ((l[j] ^^^ UInt8.ofNat (2 ^ (i % 8))) :: l.drop (j + 1)) := by rw [e2, run_append]
  rw [e3, e4, ← run_xor _ _ _ _ (by simp only [List.length_cons]), Nat.xor_self]
  unfold D
  congr 1
  show (l[j] ^^^ (l[j] ^^^ UInt8.ofNat (2 ^ (i % 8)))) :: xorL (l.drop (j + 1)) (l.drop (j + 1)) = _
  rw [xorL_self, ← UInt8.xor_assoc, UInt8.xor_self, UInt8.zero_xor, List.length_drop]
  congr 2
  omega

def Ds (ks : List Nat) : Nat := ks.foldl (fun a k => a ^^^ D k) 0

theorem xor_tel (x y z : Nat) : (x ^^^ y) ^^^ (y ^^^ z) = x ^^^ z := by rw [Nat.xor_assoc, ← Nat.xor_assoc y y z, Nat.xor_self, Nat.zero_xor]

theorem turned_sum (ks : List Nat) (l : List UInt8) (h : ∀ k ∈ ks, k < 8 * l.length) : sum crcT l ^^^ sum crcT (turned l ks) = Ds ks := by
  have key : ∀ (ks : List Nat) (r : List UInt8) (a : Nat), r.length = l.length → (∀ k ∈ ks, k < 8 * l.length) → run crcT 4294967295 l ^^^ run crcT 4294967295 r = a →
      run crcT 4294967295 l ^^^ run crcT 4294967295 (turned r ks) = ks.foldl (fun a k => a ^^^ D k) a := by
    intro ks
    induction ks with
    | nil => intro r a _ _ ha; exact ha
    | cons k ks ih =>
      intro r a hr hk ha
      have hk1 := hk k (by simp)
      show run crcT 4294967295 l ^^^ run crcT 4294967295 (turned (flip r (k % (8 * r.length))) ks) = ks.foldl _ (a ^^^ D k)
      refine ih _ _ (by rw [flip_len, hr]) (fun k' h' => hk k' (by simp [h'])) ?_
      rw [hr, Nat.mod_eq_of_lt hk1, ← flip_run r k (by omega) 4294967295, ← ha, xor_tel]
  rw [sum_xor crcT_tab]
  exact key ks l 0 rfl h (Nat.xor_self _)

/-- The same bits turned in two strings change their sums alike. -/
theorem echo (ks : List Nat) (a b : List UInt8) (ha : ∀ k ∈ ks, k < 8 * a.length) (hb : ∀ k ∈ ks, k < 8 * b.length) :
    sum crcT a ^^^ sum crcT (turned a ks) = sum crcT b ^^^ sum crcT (turned b ks) := by
  rw [turned_sum ks a ha, turned_sum ks b hb]

end Go.P1

/- Plain laws of layer 1: one bit turned, two bits, any bits within four bytes change a sum. -/
namespace Go.P1

theorem halved_back {y x : Nat} (hy : y < 4294967296) (h : halved y = x) (hx : x < 2147483648) : y = 2 * x := by
  unfold halved at h
  have h2 : y % 2 = 0 ∨ y % 2 = 1 := by omega
  rcases h2 with h2 | h2
  · rw [h2] at h
    simp at h
    omega
  · exfalso
    rw [h2, Nat.mul_one] at h
    have hb : (x).testBit 31 = false := Nat.testBit_lt_two_pow (by omega)
    have h3 : (y / 2).testBit 31 = false := Nat.testBit_lt_two_pow (by omega)
    rw [← h, Nat.testBit_xor, h3] at hb
    revert hb
    decide

def iter (n : Nat) (a : Nat) : Nat := Nat.repeat halved n a
theorem iter_add (m : Nat) : ∀ (n a : Nat), iter n (iter m a) = iter (n + m) a
  | 0, a => by simp [iter, Nat.repeat]
  | n + 1, a => by
    have := iter_add m n a
    unfold iter at this ⊢
    rw [show n + 1 + m = (n + m) + 1 by omega]
    simp only [Nat.repeat, this]
theorem iter_lt (n : Nat) {a : Nat} (h : a < 4294967296) : iter n a < 4294967296 := by
  induction n with
  | zero => exact h
  | succ n ih => exact halved_lt ih
theorem entry_iter (a : Nat) : entry a = iter 8 a := rfl

theorem iter_xor (n a b : Nat) : iter n (a ^^^ b) = iter n a ^^^ iter n b := by
  induction n with
  | zero => rfl
  | succ n ih =>
    show halved (iter n (a ^^^ b)) = halved (iter n a) ^^^ halved (iter n b)
    rw [ih, halved_xor]

theorem halved_even (n : Nat) : halved (2 * n) = n := by
  unfold halved
  rw [show 2 * n / 2 = n by omega, show 2 * n % 2 = 0 by omega]
  simp
theorem iter_pow (k : Nat) : ∀ x, iter k (2 ^ k * x) = x := by
  induction k with
  | zero => intro x; simp [iter, Nat.repeat]
  | succ k ih =>
    intro x
    have : iter (k + 1) (2 ^ (k + 1) * x) = iter k (iter 1 (2 ^ (k + 1) * x)) := (iter_add 1 k _).symm
    rw [this]
    show iter k (halved (2 ^ (k + 1) * x)) = x
    rw [show 2 ^ (k + 1) * x = 2 * (2 ^ k * x) by rw [Nat.pow_succ, Nat.mul_comm (2 ^ k) 2, Nat.mul_assoc], halved_even]
    exact ih x

theorem iter_back (n : Nat) {y : Nat} (hy : y < 4294967296) : ∀ x, iter n y = x → x * 2 ^ n < 4294967296 → y = x * 2 ^ n := by
  induction n with
  | zero => intro x h _; simpa [iter, Nat.repeat] using h
  | succ n ih =>
    intro x h hx
    have hp : 0 < 2 ^ n := Nat.pow_pos (by omega)
    have h1 : halved (iter n y) = x := h
    have hxx : x * 2 ^ (n + 1) = 2 * x * 2 ^ n := by rw [Nat.pow_succ, Nat.mul_comm (2 ^ n) 2, ← Nat.mul_assoc, Nat.mul_comm x 2]
    rw [hxx] at hx ⊢
    have hx2 : 2 * x < 4294967296 := Nat.lt_of_le_of_lt (Nat.le_mul_of_pos_right _ hp) hx
    exact ih (2 * x) (halved_back (iter_lt n hy) h1 (by omega)) hx

theorem split256 (s : Nat) : s = (256 * (s / 256)) ^^^ (s % 256) := by
  have h := Nat.two_pow_add_eq_or_of_lt (i := 8) (b := s % 256) (by omega) (s / 256)
  have e : s = 2 ^ 8 * (s / 256) + s % 256 := by omega
  have h2 : 2 ^ 8 * (s / 256) ^^^ s % 256 = 2 ^ 8 * (s / 256) ||| s % 256 := by
    apply Nat.eq_of_testBit_eq
    intro i
    rw [Nat.testBit_xor, Nat.testBit_or]
    by_cases hi : i < 8
    · have : (2 ^ 8 * (s / 256)).testBit i = false := by rw [Nat.testBit_two_pow_mul]; simp; omega
      rw [this]; simp
    · have : (s % 256).testBit i = false := Nat.testBit_lt_two_pow (Nat.lt_of_lt_of_le (show s % 256 < 2 ^ 8 by omega) (Nat.pow_le_pow_right (by omega) (by omega)))
      rw [this]; simp
  show s = 2 ^ 8 * (s / 256) ^^^ s % 256
  rw [h2, ← h]
  exact e

theorem step_iter {s : Nat} (b : UInt8) : step crcT s b = iter 8 (s ^^^ b.toNat) := by
  have hb := UInt8.toNat_lt b
  unfold step
  rw [crcT_get (xor_lt8 (by omega) hb), entry_iter]
  have h1 : s ^^^ b.toNat = (256 * (s / 256)) ^^^ (s % 256 ^^^ b.toNat) := by
    conv => lhs; rw [split256 s]
    rw [Nat.xor_assoc]
  have h9 := iter_pow 8 (s / 256)
  rw [show (2 : Nat) ^ 8 * (s / 256) = 256 * (s / 256) from rfl] at h9
  rw [h1, iter_xor 8 (256 * (s / 256)), h9]

/-- Up to four bytes as a word, the first one weighs least. -/
def word (l : List UInt8) : Nat := l.foldr (fun b n => 256 * n + b.toNat) 0
theorem word_cons (b : UInt8) (r : List UInt8) : word (b :: r) = 256 * word r + b.toNat := rfl
theorem word_lt : ∀ l : List UInt8, word l < 256 ^ l.length
  | [] => by simp [word]
  | b :: r => by
    have := word_lt r
    have hb := UInt8.toNat_lt b
    rw [word_cons, List.length_cons, Nat.pow_succ]
    omega

theorem run_word : ∀ (l : List UInt8) (s : Nat), s < 4294967296 → l.length ≤ 4 → run crcT s l = 0 → s = word l
  | [], s, _, _, h => h
  | b :: r, s, hs, hl, h => by
    simp only [List.length_cons] at hl
    have hb := UInt8.toNat_lt b
    have h1 : run crcT (step crcT s b) r = 0 := h
    have h2 := run_word r _ (step_lt crcT_tab hs b) (by omega) h1
    rw [step_iter] at h2
    have hw := word_lt r
    have hw3 : word r < 16777216 := Nat.lt_of_lt_of_le hw (Nat.pow_le_pow_right (show 0 < 256 by omega) (show r.length ≤ 3 by omega))
    have h3 := iter_back 8 (xor_lt32 hs (by omega)) _ h2 (by omega)
    have h4 : s = (s ^^^ b.toNat) ^^^ b.toNat := by rw [Nat.xor_assoc, Nat.xor_self, Nat.xor_zero]
    rw [h4, h3, word_cons]
    have h5 := split256 (256 * word r + b.toNat)
    rw [show (256 * word r + b.toNat) / 256 = word r by omega, show (256 * word r + b.toNat) % 256 = b.toNat by omega] at h5
    rw [h5, Nat.mul_comm (word r) (2 ^ 8)]

theorem word_zero : ∀ l : List UInt8, word l = 0 → l = List.replicate l.length 0
  | [], _ => rfl
  | b :: r, h => by
    rw [word_cons] at h
    have hb : b.toNat = 0 := by omega
    have := word_zero r (by omega)
    rw [List.length_cons, List.replicate_succ, ← this]
    congr 1
    exact UInt8.toNat_inj.1 hb

theorem step_zero (s : Nat) : step crcT s 0 = iter 8 s := by
  have h := step_iter (s := s) 0
  have hz : (0 : UInt8).toNat = 0 := UInt8.toNat_zero
  rw [h, hz, Nat.xor_zero]
theorem run_rep (n : Nat) : ∀ s, run crcT s (List.replicate n 0) = iter (8 * n) s := by
  induction n with
  | zero => intro s; rfl
  | succ n ih =>
    intro s
    have h1 : run crcT s (List.replicate (n + 1) 0) = run crcT (step crcT s 0) (List.replicate n 0) := by rw [List.replicate_succ]; exact List.foldl_cons ..
    rw [h1, ih, step_zero, iter_add]
    congr 1
theorem iter_zero (n : Nat) : iter n 0 = 0 := by
  have := iter_pow n 0
  rwa [Nat.mul_zero] at this
theorem run_zeros (n s : Nat) (hs : s < 4294967296) (h : run crcT s (List.replicate n 0) = 0) : s = 0 := by
  rw [run_rep] at h
  have := iter_back (8 * n) hs 0 h (by omega)
  rw [this, Nat.zero_mul]
theorem run_zeros0 (n : Nat) : run crcT 0 (List.replicate n 0) = 0 := by rw [run_rep, iter_zero]

/-- Two strings of one length that differ within four bytes: their sums differ. -/
theorem burst_run (d : List UInt8) (m n : Nat) (hd : d.length ≤ 4) (h : run crcT 0 (List.replicate m 0 ++ (d ++ List.replicate n 0)) = 0) : d = List.replicate d.length 0 := by
  rw [run_append, run_zeros0, run_append] at h
  have h1 := run_zeros n _ (run_lt crcT_tab d (by omega)) h
  exact word_zero d (run_word d 0 (by omega) hd h1).symm

/-- D, by halving 128. -/
theorem D_iter (i : Nat) : D i = iter (8 * (i / 8) + 15 - i % 8) 128 := by
  unfold D
  show run crcT (step crcT 0 _) (List.replicate (i / 8) 0) = _
  have hk : i % 8 < 8 := Nat.mod_lt _ (by omega)
  have hp : (UInt8.ofNat (2 ^ (i % 8))).toNat = 2 ^ (i % 8) := by
    rw [UInt8.toNat_ofNat']
    exact Nat.mod_eq_of_lt (Nat.lt_of_le_of_lt (Nat.pow_le_pow_right (by omega) (show i % 8 ≤ 7 by omega)) (by decide))
  have h128 : (2 : Nat) ^ (i % 8) = iter (7 - i % 8) 128 := by
    have := iter_pow (7 - i % 8) (2 ^ (i % 8))
    rw [← Nat.pow_add, show 7 - i % 8 + i % 8 = 7 by omega] at this
    exact this.symm
  rw [run_rep, step_iter, Nat.zero_xor, hp, h128, iter_add, iter_add]
  congr 1
  omega

theorem iter_inj (n : Nat) {a b : Nat} (ha : a < 4294967296) (hb : b < 4294967296) (h : iter n a = iter n b) : a = b := by
  have h1 : iter n (a ^^^ b) = 0 := by rw [iter_xor, h, Nat.xor_self]
  have h2 := iter_back n (xor_lt32 ha hb) 0 h1 (by omega)
  rw [Nat.zero_mul] at h2
  have h3 : a = (a ^^^ b) ^^^ b := by rw [Nat.xor_assoc, Nat.xor_self, Nat.xor_zero]
  rw [h3, h2, Nat.zero_xor]

/-- No 128 comes again for a long time. -/
def away : Nat → Nat → Bool
  | 0, _ => true
  | n + 1, a => halved a != 128 && away n (halved a)
theorem away_iter : ∀ (n a : Nat), away n a = true → ∀ d, d < n → iter (d + 1) a ≠ 128
  | n + 1, a, h, d, hd => by
    simp only [away, Bool.and_eq_true, bne_iff_ne] at h
    rcases d with _ | d
    · exact h.1
    · have := away_iter n (halved a) h.2 d (by omega)
      rw [show d + 1 + 1 = (d + 1) + 1 from rfl, ← iter_add 1 (d + 1) a]
      exact this
set_option maxRecDepth 100000 in
theorem away128 : away 3300 128 = true := by decide +kernel

theorem D_ne {i j : Nat} (hi : i < 3200) (hj : j < 3200) (h : D i = D j) : i = j := by
  have key : ∀ x y : Nat, x < y → y ≤ 3210 → iter x 128 ≠ iter y 128 := by
    intro x y hxy hy h
    rw [show y = x + (y - x) by omega, ← iter_add (y - x) x 128] at h
    have h2 := iter_inj x (by omega) (iter_lt _ (by omega)) h
    have := away_iter 3300 128 away128 (y - x - 1) (by omega)
    rw [show y - x - 1 + 1 = y - x by omega] at this
    exact this h2.symm
  rw [D_iter, D_iter] at h
  rcases Nat.lt_trichotomy (8 * (i / 8) + 15 - i % 8) (8 * (j / 8) + 15 - j % 8) with hl | he | hg
  · exact absurd h (key _ _ hl (by omega))
  · omega
  · exact absurd h.symm (key _ _ hg (by omega))
theorem D_pos (i : Nat) : D i ≠ 0 := by
  rw [D_iter]
  intro h
  have := iter_back _ (show 128 < 4294967296 by omega) 0 h (by omega)
  omega

end Go.P1

/- Plain laws of layer 1: what BytesPairs asks. -/
namespace Go.P1

/-- x is as long as b, and has b's sum only if it is b. -/
def Told (b x : List UInt8) : Prop := x.length = b.length ∧ (sum crcT x = sum crcT b → x = b)

theorem flip_flip (l : List UInt8) (i : Nat) (h : i < 8 * l.length) : flip (flip l i) i = l := by
  have hj : l.length - 1 - i / 8 < l.length := by omega
  unfold flip
  rw [List.length_set, List.set_set]
  have e : (l.set (l.length - 1 - i / 8) (l.getD (l.length - 1 - i / 8) 0 ^^^ UInt8.ofNat (2 ^ (i % 8)))).getD (l.length - 1 - i / 8) 0 = l.getD (l.length - 1 - i / 8) 0 ^^^ UInt8.ofNat (2 ^ (i % 8)) := by
    rw [List.getD_eq_getElem?_getD, List.getElem?_set_self hj]
    rfl
  rw [e, UInt8.xor_assoc, UInt8.xor_self, UInt8.xor_zero, List.getD_eq_getElem?_getD, List.getElem?_eq_getElem hj]
  simp

theorem told_one (b : List UInt8) (k : Nat) (hb : 0 < b.length) : Told b (turned b [k]) := by
  have hk : k % (8 * b.length) < 8 * b.length := Nat.mod_lt _ (by omega)
  refine ⟨turned_len _ _, fun h => ?_⟩
  exfalso
  have e : turned b [k] = turned b [k % (8 * b.length)] := by
    show flip b _ = flip b _
    rw [Nat.mod_mod]
  have h1 := turned_sum [k % (8 * b.length)] b (fun x hx => by simp at hx; omega)
  rw [← e, h, Nat.xor_self] at h1
  have h2 : Ds [k % (8 * b.length)] = D (k % (8 * b.length)) := by unfold Ds; simp
  rw [h2] at h1
  exact D_pos _ h1.symm

theorem turned2 (b : List UInt8) (k m : Nat) : turned b [k, m] = flip (flip b (k % (8 * b.length))) (m % (8 * b.length)) := by
  unfold turned
  simp [flip_len]
theorem xor_zero_eq {a b : Nat} (h : a ^^^ b = 0) : a = b := by
  have h3 : a = (a ^^^ b) ^^^ b := by rw [Nat.xor_assoc, Nat.xor_self, Nat.xor_zero]
  rw [h3, h, Nat.zero_xor]

theorem told_two (b : List UInt8) (k m : Nat) (hb : 0 < b.length) (hb4 : b.length ≤ 400) : Told b (turned b [k, m]) := by
  have hk : k % (8 * b.length) < 8 * b.length := Nat.mod_lt _ (by omega)
  have hm : m % (8 * b.length) < 8 * b.length := Nat.mod_lt _ (by omega)
  refine ⟨turned_len _ _, fun h => ?_⟩
  have e : turned b [k, m] = turned b [k % (8 * b.length), m % (8 * b.length)] := by
    rw [turned2, turned2, Nat.mod_mod, Nat.mod_mod]
  have h1 := turned_sum [k % (8 * b.length), m % (8 * b.length)] b (fun x hx => by simp at hx; omega)
  rw [← e, h, Nat.xor_self] at h1
  have h2 : Ds [k % (8 * b.length), m % (8 * b.length)] = D (k % (8 * b.length)) ^^^ D (m % (8 * b.length)) := by unfold Ds; simp
  rw [h2] at h1
  have h3 : D (k % (8 * b.length)) = D (m % (8 * b.length)) := xor_zero_eq h1.symm
  have h4 := D_ne (by omega) (by omega) h3
  rw [e, h4]
  rw [turned2, Nat.mod_mod]
  exact flip_flip b _ hm

/-- The bytes from k on are turned by those of f, t of them. -/
def burst (b : List UInt8) (k f : Nat) : Nat → List UInt8
  | 0 => b
  | t + 1 => (burst b k f t).set (k + t) ((burst b k f t).getD (k + t) 0 ^^^ UInt8.ofNat (f / 2 ^ (8 * t)))
theorem burst_len (b : List UInt8) (k f : Nat) : ∀ t, (burst b k f t).length = b.length
  | 0 => rfl
  | t + 1 => by simp [burst, burst_len b k f t]
/-- What it is turned by. -/
def fs (f : Nat) : Nat → List UInt8
  | 0 => []
  | t + 1 => fs f t ++ [UInt8.ofNat (f / 2 ^ (8 * t))]
theorem fs_len (f : Nat) : ∀ t, (fs f t).length = t
  | 0 => rfl
  | t + 1 => by simp [fs, fs_len f t]

theorem xorL_len : ∀ (l r : List UInt8), l.length = r.length → (xorL l r).length = l.length
  | [], [], _ => rfl
  | a :: l, b :: r, h => by
    show (xorL l r).length + 1 = l.length + 1
    rw [xorL_len l r (by simpa using h)]
  | [], _ :: _, h => by simp at h
  | _ :: _, [], h => by simp at h
theorem xorL_get : ∀ (l r : List UInt8) (i : Nat), l.length = r.length → (xorL l r)[i]? = (l[i]?).bind fun a => (r[i]?).map fun b => a ^^^ b
  | [], [], i, _ => by simp [xorL]
  | a :: l, b :: r, 0, _ => rfl
  | a :: l, b :: r, i + 1, h => by
    show (xorL l r)[i]? = _
    rw [xorL_get l r i (by simpa using h)]
    simp
  | [], _ :: _, _, h => by simp at h
  | _ :: _, [], _, h => by simp at h
theorem xorL_append : ∀ (l r l2 r2 : List UInt8), l.length = r.length → xorL (l ++ l2) (r ++ r2) = xorL l r ++ xorL l2 r2
  | [], [], _, _, _ => rfl
  | a :: l, b :: r, l2, r2, h => by
    show (a ^^^ b) :: xorL (l ++ l2) (r ++ r2) = (a ^^^ b) :: (xorL l r ++ xorL l2 r2)
    rw [xorL_append l r l2 r2 (by simpa using h)]
  | [], _ :: _, _, _, h => by simp at h
  | _ :: _, [], _, _, h => by simp at h
theorem xorL_back : ∀ (l r : List UInt8), l.length = r.length → xorL l r = List.replicate l.length 0 → r = l
  | [], [], _, _ => rfl
  | a :: l, b :: r, h, h2 => by
    have h3 : (a ^^^ b) :: xorL l r = 0 :: List.replicate l.length 0 := by
      have : List.replicate (a :: l).length (0 : UInt8) = 0 :: List.replicate l.length 0 := by rw [List.length_cons, List.replicate_succ]
      rw [← this]
      exact h2
    injection h3 with h4 h5
    rw [xorL_back l r (by simpa using h) h5, UInt8.xor_eq_zero_iff.1 h4]
  | [], _ :: _, h, _ => by simp at h
  | _ :: _, [], h, _ => by simp at h

theorem burst_is (b : List UInt8) (k f : Nat) : ∀ t, k + t ≤ b.length → burst b k f t = b.take k ++ (xorL ((b.drop k).take t) (fs f t) ++ b.drop (k + t))
  | 0, _ => by simp [burst, fs, xorL]
  | t + 1, h => by
    have ih := burst_is b k f t (by omega)
    have hx : (xorL ((b.drop k).take t) (fs f t)).length = t := by rw [xorL_len _ _ (by rw [fs_len, List.length_take, List.length_drop]; omega), List.length_take, List.length_drop]; omega
    have hlt : k + t < b.length := by omega
    show (burst b k f t).set (k + t) ((burst b k f t).getD (k + t) 0 ^^^ _) = _
    have hd : b.drop (k + t) = b[k + t] :: b.drop (k + t + 1) := List.drop_eq_getElem_cons hlt
    have htk : (b.take k).length = k := by rw [List.length_take]; omega
    have hg : (burst b k f t).getD (k + t) 0 = b[k + t] := by
      rw [ih, List.getD_eq_getElem?_getD, List.getElem?_append_right (by omega), List.getElem?_append_right (by omega), hd]
      simp [htk, hx]
      rw [List.getElem?_eq_getElem hlt]
      rfl
    have hdt : (b.drop k).take (t + 1) = (b.drop k).take t ++ [b[k + t]] := by
      rw [List.take_succ_eq_append_getElem (by rw [List.length_drop]; omega)]
      simp
    rw [hg, ih, List.set_append_right _ _ (by omega), List.set_append_right _ _ (by omega), htk, hx, show k + t - k - t = 0 by omega, hd, List.set_cons_zero, hdt]
    show b.take k ++ (xorL ((b.drop k).take t) (fs f t) ++ (b[k + t] ^^^ UInt8.ofNat (f / 2 ^ (8 * t))) :: b.drop (k + t + 1)) = b.take k ++ (xorL ((b.drop k).take t ++ [b[k + t]]) (fs f t ++ [UInt8.ofNat (f / 2 ^ (8 * t))]) ++ b.drop (k + (t + 1)))
    rw [xorL_append _ _ _ _ (by rw [fs_len, List.length_take, List.length_drop]; omega)]
    simp [xorL, Nat.add_assoc]

theorem told_burst (b : List UInt8) (k f t : Nat) (ht : t ≤ 4) (hk : k + t ≤ b.length) : Told b (burst b k f t) := by
  refine ⟨burst_len _ _ _ _, fun h => ?_⟩
  have hl : ((b.drop k).take t).length = t := by rw [List.length_take, List.length_drop]; omega
  have hb : b = b.take k ++ ((b.drop k).take t ++ b.drop (k + t)) := by rw [← List.drop_drop, List.take_append_drop, List.take_append_drop]
  have hx := burst_is b k f t hk
  have h1 : run crcT 4294967295 b ^^^ run crcT 4294967295 (burst b k f t) = 0 := by rw [← sum_xor crcT_tab, h, Nat.xor_self]
  rw [← run_xor _ _ _ _ (burst_len b k f t).symm, Nat.xor_self] at h1
  have h2 : xorL b (burst b k f t) = List.replicate (b.take k).length 0 ++ (xorL ((b.drop k).take t) (xorL ((b.drop k).take t) (fs f t)) ++ List.replicate (b.drop (k + t)).length 0) := by
    conv => lhs; rw [hx]; arg 1; rw [hb]
    rw [xorL_append _ _ _ _ rfl, xorL_self, xorL_append _ _ _ _ (by rw [xorL_len _ _ (by rw [hl, fs_len])]), xorL_self]
  rw [h2] at h1
  have h3 := burst_run _ _ _ (by rw [xorL_len _ _ (by rw [xorL_len _ _ (by rw [hl, fs_len])]), hl]; exact ht) h1
  rw [xorL_len _ _ (by rw [xorL_len _ _ (by rw [hl, fs_len])])] at h3
  have h4 := xorL_back _ _ (by rw [xorL_len _ _ (by rw [hl, fs_len])]) h3
  rw [hx, h4]
  exact hb.symm

theorem be4_inj {a b : Nat} (ha : a < 4294967296) (hb : b < 4294967296) (h : be4 a = be4 b) : a = b := by
  unfold be4 at h
  simp only [List.cons.injEq, and_true] at h
  obtain ⟨h1, h2, h3, h4⟩ := h
  have e1 := congrArg UInt8.toNat h1
  have e2 := congrArg UInt8.toNat h2
  have e3 := congrArg UInt8.toNat h3
  have e4 := congrArg UInt8.toNat h4
  simp only [UInt8.toNat_ofNat'] at e1 e2 e3 e4
  omega

/-- What is told of b, with another string in its place. -/
theorem told_unsealed {b x : List UInt8} (h : Told b x) : unsealed (sum crcT) (x ++ be4 (sum crcT b)) = if x = b then (x, 0) else ([], 12) := by
  have hl : (x ++ be4 (sum crcT b)).length = x.length + 4 := by simp [be4]
  have ht : (x ++ be4 (sum crcT b)).take ((x ++ be4 (sum crcT b)).length - 4) = x := by rw [hl]; simp
  rw [unsealed_is _ (by omega), ht]
  by_cases hx : x = b
  · rw [if_pos hx, if_pos (by rw [sealed, hx])]
  · rw [if_neg hx, if_neg]
    intro he
    unfold sealed at he
    have := List.append_cancel_left he
    exact hx (h.2 (be4_inj (sum_lt _ _) (sum_lt _ _) this))
theorem told_sum {b x : List UInt8} (h : Told b x) : sum crcT x = sum crcT b ↔ x = b := ⟨h.2, fun e => by rw [e]⟩

end Go.P1

/- Plain laws of layer 1: the examples. -/
namespace Go.P1

theorem v300 : varint 300 = [172, 2] := by rw [varint_ge (by omega), varint_lt (by omega)]; decide
theorem v2 : varint 2 = [2] := by rw [varint_lt (by omega)]; decide
theorem v10 : varint 10 = [10] := by rw [varint_lt (by omega)]; decide
theorem v11 : varint 11 = [11] := by rw [varint_lt (by omega)]; decide
theorem c1 : comesL [172, 2] 0 = [172, 2, 32, 2] := by
  have h : getUint [172, 2] 0 = (300, 2, 0) := by decide
  unfold comesL
  rw [h]
  simp [v300, v2]
theorem c2 : comesL [128, 0] 0 = [101, 114, 114, 111, 114, 32, 10] := by
  have h : getUint [128, 0] 0 = (0, 0, 10) := by decide
  unfold comesL
  rw [h]
  simp [v10]
theorem c3 : comesL [128] 0 = [101, 114, 114, 111, 114, 32, 11] := by
  have h : getUint [128] 0 = (0, 0, 11) := by decide
  unfold comesL
  rw [h]
  simp [v11]
theorem nine : sum crcT [49, 50, 51, 52, 53, 54, 55, 56, 57] = 3808858755 := by decide +kernel
theorem none4 : sealed (sum crcT) [] = [0, 0, 0, 0] := by decide +kernel
theorem t0 : crcT.getD 0 0 = 0 := by decide +kernel
theorem t128 : crcT.getD 128 0 = 2197175160 := by decide +kernel

end Go.P1

/- Plain laws of layer 1: a number weighs its bytes. -/
namespace Go.P1

def weigh (l : List UInt8) : Nat := l.foldr (fun c s => s * 128 + c.toNat % 128) 0

theorem varint_ind : ∀ (l : List UInt8) (k a n m : Nat), num l k a = (n, m, 0) →
    ∃ v, n = a + v * 2 ^ (7 * k) ∧ k < m ∧ m ≤ k + l.length ∧ l.take (m - k) = varint v ∧ (0 < k → 0 < v)
  | [], k, a, n, m, h => by simp [num] at h
  | c :: r, k, a, n, m, h => by
    by_cases h1 : (0 < k ∧ c.toNat = 0) ∨ (8 < k ∧ 1 < c.toNat)
    · rw [num_bad h1] at h
      simp at h
    · by_cases h2 : c.toNat < 128
      · rw [num_end h1 h2] at h
        simp only [Prod.mk.injEq] at h
        obtain ⟨rfl, rfl, _⟩ := h
        refine ⟨c.toNat, by rw [Nat.mod_eq_of_lt h2], by omega, by simp, ?_, by omega⟩
        rw [varint_lt h2, show k + 1 - k = 1 by omega]
        simp
      · rw [num_step h1 (by omega)] at h
        obtain ⟨v, hv, h3, h4, h5, h6⟩ := varint_ind r (k + 1) _ n m h
        have hv0 := h6 (by omega)
        have hc := UInt8.toNat_lt c
        refine ⟨c.toNat % 128 + 128 * v, ?_, by omega, by simp only [List.length_cons]; omega, ?_, by omega⟩
        · rw [hv, pow7, Nat.add_mul, Nat.add_assoc]
          congr 2
          rw [Nat.mul_comm 128 v, Nat.mul_assoc]
        · rw [varint_ge (by omega), show m - k = (m - (k + 1)) + 1 by omega, List.take_succ_cons, h5]
          have e1 : (c.toNat % 128 + 128 * v) / 128 = v := by omega
          have e2 : (c.toNat % 128 + 128 * v) % 128 + 128 = c.toNat := by omega
          rw [e1, e2]
          simp

theorem weigh_cons (c : UInt8) (r : List UInt8) : weigh (c :: r) = weigh r * 128 + c.toNat % 128 := rfl

theorem weigh_varint (n : Nat) : weigh (varint n) = n := by
  induction n using Nat.strongRecOn with
  | ind n ih =>
    rcases Nat.lt_or_ge n 128 with h | h
    · rw [varint_lt h, weigh_cons]
      simp [weigh, UInt8.toNat_ofNat']
      omega
    · rw [varint_ge h, weigh_cons, ih (n / 128) (by omega), UInt8.toNat_ofNat']
      omega

theorem varint_get (n : Nat) : ∀ i (h : i < (varint n).length), (i + 1 < (varint n).length → 128 ≤ ((varint n)[i]).toNat) ∧ (i + 1 = (varint n).length → ((varint n)[i]).toNat < 128 ∧ (0 < i → ((varint n)[i]).toNat ≠ 0)) := by
  induction n using Nat.strongRecOn with
  | ind n ih =>
    intro i hi
    rcases Nat.lt_or_ge n 128 with h | h
    · have e := varint_lt h
      simp only [e, List.length_cons, List.length_nil] at hi ⊢
      obtain rfl : i = 0 := by omega
      simp [UInt8.toNat_ofNat']
      omega
    · have e := varint_ge h
      have hn := varint_pos (n / 128)
      have he : (varint n).length = (varint (n / 128)).length + 1 := by rw [e]; simp
      rcases i with _ | i
      · have : (varint n)[0]? = some (UInt8.ofNat (n % 128 + 128)) := by rw [e]; rfl
        have h0 : (varint n)[0] = UInt8.ofNat (n % 128 + 128) := by
          have := List.getElem?_eq_getElem hi
          simp_all
        rw [h0, UInt8.toNat_ofNat']
        exact ⟨fun _ => by omega, fun h => by omega⟩
      · have hi' : i < (varint (n / 128)).length := by omega
        have hg : (varint n)[i + 1] = (varint (n / 128))[i] := by
          have h1 : (varint n)[i + 1]? = (varint (n / 128))[i]? := by rw [e]; simp
          rw [List.getElem?_eq_getElem hi, List.getElem?_eq_getElem hi'] at h1
          injection h1
        rw [hg]
        have := ih (n / 128) (by omega) i hi'
        refine ⟨fun h => this.1 (by omega), fun h => ⟨(this.2 (by omega)).1, fun _ => ?_⟩⟩
        rcases Nat.eq_zero_or_pos i with h0 | h0
        · subst h0
          have hlen : (varint (n / 128)).length = 1 := by omega
          have hlt : n / 128 < 128 := by
            rcases Nat.lt_or_ge (n / 128) 128 with hl | hl
            · exact hl
            · have e2 := varint_ge hl
              have := varint_pos (n / 128 / 128)
              rw [e2] at hlen
              simp only [List.length_cons] at hlen
              omega
          have e3 := varint_lt hlt
          have h9 : (varint (n / 128))[0] = UInt8.ofNat (n / 128) := by
            have h1 : (varint (n / 128))[0]? = some (UInt8.ofNat (n / 128)) := by rw [e3]; rfl
            rw [List.getElem?_eq_getElem hi'] at h1
            injection h1
          rw [h9, UInt8.toNat_ofNat']
          omega
        · exact (this.2 (by omega)).2 h0

/-- The bytes from i on, up to j, weighed. -/
def W (l : List UInt8) (j i : Nat) : Nat := weigh ((l.take j).drop i)
theorem W_end (l : List UInt8) (j : Nat) : W l j j = 0 := by
  unfold W
  rw [List.drop_of_length_le (by simp; omega)]
  rfl
theorem W_step (l : List UInt8) (j i : Nat) (hi : i < j) (hj : j ≤ l.length) : W l j i = W l j (i + 1) * 128 + (l[i]'(by omega)).toNat % 128 := by
  unfold W
  rw [List.drop_eq_getElem_cons (by simp; omega), weigh_cons]
  simp
theorem W_le (l : List UInt8) (j p : Nat) (hj : j ≤ l.length) : ∀ d, p + d ≤ j → W l j (p + d) ≤ W l j p
  | 0, _ => Nat.le_refl _
  | d + 1, h => by
    have := W_le l j p hj d (by omega)
    have h2 := W_step l j (p + d) (by omega) hj
    have : W l j (p + (d + 1)) ≤ W l j (p + d) := by rw [h2, Nat.add_assoc]; omega
    omega

theorem weighs {l : List UInt8} {p n j : Nat} (hp : p ≤ l.length) (h : getUint l p = (n, j, 0)) :
    p < j ∧ j ≤ l.length ∧ j ≤ p + 10 ∧ varint n = (l.take j).drop p ∧ W l j p = n ∧ (∀ i (hi : i < l.length), p ≤ i → i + 1 < j → 128 ≤ (l[i]).toNat) ∧
      ∃ x, l[j - 1]? = some x ∧ x.toNat < 128 ∧ (p + 1 < j → x.toNat ≠ 0) := by
  have hn : num (l.drop p) 0 0 = (n, j - p, 0) ∧ p ≤ j := by
    unfold getUint at h
    rw [if_neg (by omega)] at h
    rcases hq : num (l.drop (p : Int).toNat) 0 0 with ⟨a, b, e⟩
    rw [hq] at h
    simp only [Int.toNat_natCast] at h hq
    by_cases he : e = 0
    · simp only [he, if_true, Prod.mk.injEq] at h
      obtain ⟨rfl, rfl, _⟩ := h
      rw [hq, he, Nat.add_sub_cancel_left]
      exact ⟨rfl, by omega⟩
    · rw [if_neg he] at h
      simp only [Prod.mk.injEq] at h
      omega
  obtain ⟨v, hv, h1, h2, h3, _⟩ := varint_ind _ 0 0 n (j - p) hn.1
  simp only [Nat.mul_zero, Nat.pow_zero, Nat.mul_one, Nat.zero_add, Nat.sub_zero, List.length_drop] at hv h1 h2 h3
  subst hv
  have hfit := (num_fits _ 0 0 n (j - p) 0 (by omega) (by simp) hn.1).1
  have h10 := varint_len10 hfit
  have hlen : (varint n).length = j - p := by rw [← h3, List.length_take, List.length_drop]; omega
  have hsame : varint n = (l.take j).drop p := by
    rw [← h3, List.take_drop]
    congr 2
    omega
  have hget : ∀ i (hi : i < (varint n).length), (varint n)[i] = l[p + i]'(by omega) := by
    intro i hi
    have h9 : (varint n)[i]? = l[p + i]? := by
      rw [hsame, List.getElem?_drop, List.getElem?_take_of_lt (by omega)]
    rw [List.getElem?_eq_getElem hi, List.getElem?_eq_getElem (by omega)] at h9
    injection h9
  refine ⟨by omega, by omega, by omega, hsame, ?_, ?_, ?_⟩
  · unfold W
    rw [← hsame, weigh_varint]
  · intro i hi hpi hij
    have := (varint_get n (i - p) (by omega)).1 (by omega)
    rw [hget] at this
    simpa [show p + (i - p) = i by omega] using this
  · have := (varint_get n (j - p - 1) (by omega)).2 (by omega)
    rw [hget] at this
    refine ⟨l[j - 1]'(by omega), List.getElem?_eq_getElem _, ?_, ?_⟩
    · simpa [show p + (j - p - 1) = j - 1 by omega] using this.1
    · intro h
      simpa [show p + (j - p - 1) = j - 1 by omega] using this.2 (by omega)

theorem getUint_errs {l : List UInt8} {p : Nat} {n j e : Nat} (hp : p ≤ l.length) (h : getUint l p = (n, j, e)) : e = 0 ∨ e = 10 ∨ e = 11 := by
  have key : ∀ (l : List UInt8) (k a n j e : Nat), num l k a = (n, j, e) → e = 0 ∨ e = 10 ∨ e = 11 := by
    intro l
    induction l with
    | nil => intro k a n j e h; simp [num] at h; omega
    | cons c r ih =>
      intro k a n j e h
      by_cases h1 : (0 < k ∧ c.toNat = 0) ∨ (8 < k ∧ 1 < c.toNat)
      · rw [num_bad h1] at h; simp at h; omega
      · by_cases h2 : c.toNat < 128
        · rw [num_end h1 h2] at h; simp at h; omega
        · rw [num_step h1 (by omega)] at h; exact ih _ _ _ _ _ h
  unfold getUint at h
  rw [if_neg (by omega)] at h
  rcases hq : num (l.drop (p : Int).toNat) 0 0 with ⟨a, b, e'⟩
  rw [hq] at h
  have := key _ _ _ _ _ _ hq
  by_cases he : e' = 0
  · simp [he] at h; omega
  · simp [he] at h; omega

end Go.P1

/- Plain laws of layer 1: numbers and strings read one behind the other. -/
namespace Go.P1

theorem num_varint : ∀ (n k m : Nat) (post : List UInt8), (0 < k → n ≠ 0) → k ≤ 9 → n * 2 ^ (7 * k) < 18446744073709551616 → num (varint n ++ post) k m = (m + n * 2 ^ (7 * k), k + (varint n).length, 0) := fun n => by
  induction n using Nat.strongRecOn with
  | _ n ih =>
    intro k m post h0 hk hn
    by_cases h : n < 128
    · rw [varint_lt h]
      have hc : (UInt8.ofNat n).toNat = n := by rw [UInt8.toNat_ofNat']; omega
      have h9 : 8 < k → n ≤ 1 := fun h8 => by
        obtain rfl : k = 9 := by omega
        have : (2 : Nat) ^ (7 * 9) = 9223372036854775808 := by decide
        rw [this] at hn
        omega
      show num (UInt8.ofNat n :: post) k m = _
      rw [num_end (by rw [hc]; rintro (⟨a, b⟩ | ⟨a, b⟩); exact h0 a b; have := h9 a; omega) (by rw [hc]; exact h), hc, Nat.mod_eq_of_lt h]
      rfl
    · have h' : 128 ≤ n := by omega
      rw [varint_ge h']
      have hc : (UInt8.ofNat (n % 128 + 128)).toNat = n % 128 + 128 := by rw [UInt8.toNat_ofNat']; omega
      have hk8 : k ≤ 8 := by
        by_cases h8 : k ≤ 8
        · exact h8
        · exfalso
          obtain rfl : k = 9 := by omega
          have : (2 : Nat) ^ (7 * 9) = 9223372036854775808 := by decide
          rw [this] at hn
          omega
      show num (UInt8.ofNat (n % 128 + 128) :: (varint (n / 128) ++ post)) k m = _
      have hm : (n % 128 + 128) % 128 = n % 128 := by omega
      have hp := pow7 k
      have hsplit : n % 128 * 2 ^ (7 * k) + n / 128 * (128 * 2 ^ (7 * k)) = n * 2 ^ (7 * k) := by
        rw [← Nat.mul_assoc, Nat.mul_comm (n / 128) 128, ← Nat.add_mul, Nat.mod_add_div]
      rw [num_step (by rw [hc]; omega) (by rw [hc]; omega), hc, hm, ih (n / 128) (by omega) (k + 1) _ post (by omega) (by omega) (by rw [hp]; omega), hp]
      simp only [List.length_cons, Prod.mk.injEq, and_true]
      omega
theorem getUint_at {n : Nat} (hn : n < 18446744073709551616) (pre post : List UInt8) : getUint (pre ++ (varint n ++ post)) (pre.length : Int) = (n, pre.length + (varint n).length, 0) := by
  have := num_varint n 0 0 post (by omega) (by omega) (by simpa using hn)
  refine getUint_of (by simp) ?_
  rw [List.drop_left]
  simpa using this
theorem getBlob_at {s : List UInt8} {most : Int} (hs : s.length < 18446744073709551616) (hm : (s.length : Int) ≤ most) (pre post : List UInt8) :
    getBlob (pre ++ (varint s.length ++ (s ++ post))) (pre.length : Int) most = (s, pre.length + (varint s.length).length + s.length, 0) := by
  have hu := getUint_at hs pre (s ++ post)
  have hlen : (pre ++ (varint s.length ++ (s ++ post))).length = pre.length + (varint s.length).length + s.length + post.length := by simp; omega
  rw [getBlob_ok hu (by omega) (by omega)]
  have : (pre ++ (varint s.length ++ (s ++ post))).drop (pre.length + (varint s.length).length) = s ++ post := by
    rw [← List.append_assoc]
    exact List.drop_left' (by simp)
  rw [this, List.take_left]


/-! One behind the other -/
/-- A number of at most so much, and what is behind it. -/
def pNum (most : Nat) (l : List UInt8) : Option (Nat × List UInt8) :=
  if (num l 0 0).2.2 = 0 ∧ (num l 0 0).1 ≤ most then some ((num l 0 0).1, l.drop (num l 0 0).2.1) else none
theorem num_inv {l : List UInt8} {n j : Nat} (h : num l 0 0 = (n, j, 0)) : j ≤ l.length ∧ l.take j = varint n ∧ n < 18446744073709551616 := by
  obtain ⟨v, h1, h2, h3, h4, h5⟩ := varint_ind l 0 0 n j h
  have h6 := num_fits l 0 0 n j 0 (by omega) (by simp) h
  simp only [Nat.mul_zero, Nat.pow_zero, Nat.mul_one, Nat.zero_add] at h1
  subst h1
  exact ⟨by omega, by simpa using h4, h6.1⟩
theorem pNum_iff {most n : Nat} {l r : List UInt8} (hm : most < 18446744073709551616) : pNum most l = some (n, r) ↔ n ≤ most ∧ l = varint n ++ r := by
  unfold pNum
  constructor
  · intro h
    by_cases hc : (num l 0 0).2.2 = 0 ∧ (num l 0 0).1 ≤ most
    · rw [if_pos hc] at h
      simp only [Option.some.injEq, Prod.mk.injEq] at h
      obtain ⟨h1, h2⟩ := h
      obtain ⟨n', j, e⟩ : ∃ n' j, num l 0 0 = (n', j, 0) := ⟨_, _, Prod.ext rfl (Prod.ext rfl hc.1)⟩
      rw [e] at h1 h2 hc
      simp only at h1 h2 hc
      subst h1
      obtain ⟨k1, k2, k3⟩ := num_inv e
      refine ⟨hc.2, ?_⟩
      rw [← k2, ← h2, List.take_append_drop]
    · rw [if_neg hc] at h
      cases h
  · rintro ⟨h1, rfl⟩
    have := num_varint n 0 0 r (by omega) (by omega) (by simpa using (by omega : n < 18446744073709551616))
    rw [this]
    simp [h1]
/-- A string of at most so many bytes, and what is behind it. -/
def pBlob (most : Nat) (l : List UInt8) : Option (List UInt8 × List UInt8) :=
  (pNum most l).bind fun x => if x.1 ≤ x.2.length then some (x.2.take x.1, x.2.drop x.1) else none
theorem pBlob_iff {most : Nat} {l s r : List UInt8} (hm : most < 18446744073709551616) : pBlob most l = some (s, r) ↔ s.length ≤ most ∧ l = varint s.length ++ (s ++ r) := by
  unfold pBlob
  rw [Option.bind_eq_some_iff]
  constructor
  · rintro ⟨⟨n, r'⟩, h1, h2⟩
    rw [pNum_iff hm] at h1
    by_cases hc : n ≤ r'.length
    · simp only [hc, if_true, Option.some.injEq, Prod.mk.injEq] at h2
      obtain ⟨rfl, rfl⟩ := h2
      have hl : (r'.take n).length = n := by simp; omega
      rw [hl, List.take_append_drop]
      exact h1
    · simp only [hc, if_false] at h2
      cases h2
  · rintro ⟨h1, rfl⟩
    exact ⟨(s.length, s ++ r), (pNum_iff hm).2 ⟨h1, rfl⟩, by simp⟩
theorem getUint_drop {l : List UInt8} {p : Nat} (hp : p ≤ l.length) : getUint l p = if (num (l.drop p) 0 0).2.2 = 0 then ((num (l.drop p) 0 0).1, p + (num (l.drop p) 0 0).2.1, 0) else (0, 0, (num (l.drop p) 0 0).2.2) := by
  unfold getUint
  rw [if_neg (by omega)]
  simp
/-- A number that comes. -/
theorem getUint_some {most n p : Nat} {l r : List UInt8} (hp : p ≤ l.length) (h : pNum most (l.drop p) = some (n, r)) :
    getUint l p = (n, l.length - r.length, 0) ∧ n ≤ most ∧ p ≤ l.length - r.length ∧ l.drop (l.length - r.length) = r ∧ r.length ≤ l.length := by
  rw [getUint_drop hp]
  unfold pNum at h
  by_cases hc : (num (l.drop p) 0 0).2.2 = 0 ∧ (num (l.drop p) 0 0).1 ≤ most
  · rw [if_pos hc] at h
    simp only [Option.some.injEq, Prod.mk.injEq] at h
    obtain ⟨h1, h2⟩ := h
    obtain ⟨n', j, e⟩ : ∃ n' j, num (l.drop p) 0 0 = (n', j, 0) := ⟨_, _, Prod.ext rfl (Prod.ext rfl hc.1)⟩
    rw [e] at h1 h2 hc ⊢
    simp only at h1 h2 hc ⊢
    subst h1
    obtain ⟨k1, k2, k3⟩ := num_inv e
    rw [List.length_drop] at k1
    rw [List.drop_drop] at h2
    have hl : r.length = l.length - (p + j) := by rw [← h2, List.length_drop]
    have hq : l.length - r.length = p + j := by omega
    rw [hq]
    exact ⟨by simp, hc.2, by omega, h2, by omega⟩
  · rw [if_neg hc] at h
    cases h
theorem getUint_none {most p : Nat} {l : List UInt8} (hp : p ≤ l.length) (h : pNum most (l.drop p) = none) : (getUint l p).2.2 ≠ 0 ∨ most < (getUint l p).1 := by
  rw [getUint_drop hp]
  unfold pNum at h
  by_cases hc : (num (l.drop p) 0 0).2.2 = 0
  · rw [if_pos hc]
    by_cases hd : (num (l.drop p) 0 0).1 ≤ most
    · rw [if_pos ⟨hc, hd⟩] at h
      cases h
    · exact .inr (by simp only; omega)
  · rw [if_neg hc]
    exact .inl hc
theorem getBlob_some {most p : Nat} {l s r : List UInt8} (hp : p ≤ l.length) (h : pBlob most (l.drop p) = some (s, r)) :
    getBlob l p most = (s, l.length - r.length, 0) ∧ l.drop (l.length - r.length) = r ∧ r.length ≤ l.length ∧ s.length ≤ most := by
  unfold pBlob at h
  rw [Option.bind_eq_some_iff] at h
  obtain ⟨⟨n, r'⟩, h1, h2⟩ := h
  obtain ⟨k1, k2, k3, k4, k5⟩ := getUint_some hp h1
  by_cases hc : n ≤ r'.length
  · simp only [hc, if_true, Option.some.injEq, Prod.mk.injEq] at h2
    obtain ⟨rfl, rfl⟩ := h2
    rw [getBlob_ok k1 (by omega) (by omega), k4]
    simp only [List.length_drop, List.length_take]
    have e : l.length - (r'.length - n) = l.length - r'.length + n := by omega
    rw [e, ← List.drop_drop, k4]
    exact ⟨rfl, rfl, by omega, by omega⟩
  · simp only [hc, if_false] at h2
    cases h2
theorem getBlob_none {most p : Nat} {l : List UInt8} (hp : p ≤ l.length) (h : pBlob most (l.drop p) = none) : (getBlob l p most).2.2 ≠ 0 ∧ (getBlob l p most).1 = [] ∧ (getBlob l p most).2.1 = 0 := by
  unfold pBlob at h
  rcases hn : pNum most (l.drop p) with _ | ⟨n, r⟩
  · obtain ⟨a, b, e, hu⟩ : ∃ a b e, getUint l p = (a, b, e) := ⟨_, _, _, rfl⟩
    have := getUint_none hp hn
    rw [hu] at this
    by_cases he : e = 0
    · subst he
      have : most < a := by simpa using this
      rw [getBlob_long hu (by omega)]
      simp
    · rw [getBlob_err hu he]
      simpa using he
  · rw [hn] at h
    obtain ⟨k1, k2, k3, k4, k5⟩ := getUint_some hp hn
    by_cases hc : n ≤ r.length
    · simp [hc] at h
    · rw [getBlob_short k1 (by omega) (by omega)]
      simp
end Go.P1

/- Chapter 10: messages as bytes, and back; no program in sight. -/
namespace Go.P10
open Go.P1

abbrev Ask := Int × (Int × (UInt8 × (Int × (Int × (Int × List UInt8)))))
abbrev Info := Int × (Int × (Int × UInt8))
abbrev Tell := Int × (Int × (UInt8 × (Int × (List Info × (List UInt8 × Int)))))

instance decAsk3 : DecidableEq (UInt8 × (Int × (Int × (Int × List UInt8)))) := instDecidableEqProd
instance decAsk2 : DecidableEq (Int × (UInt8 × (Int × (Int × (Int × List UInt8))))) := instDecidableEqProd
instance decAsk1 : DecidableEq Ask := instDecidableEqProd
instance decTell4 : DecidableEq (Int × (List Info × (List UInt8 × Int))) := instDecidableEqProd
instance decTell3 : DecidableEq (UInt8 × (Int × (List Info × (List UInt8 × Int)))) := instDecidableEqProd
instance decTell2 : DecidableEq (Int × (UInt8 × (Int × (List Info × (List UInt8 × Int))))) := instDecidableEqProd
instance decTell1 : DecidableEq Tell := instDecidableEqProd

def named (s i v least : Int) : Bool := decide (0 ≤ s ∧ s ≤ 1099511627776 ∧ 0 ≤ i ∧ i ≤ 254 ∧ least ≤ v ∧ v ≤ 1099511627776)
def headed (life seq op : Int) : Bool := decide (1 ≤ life ∧ life ≤ 1099511627776 ∧ 1 ≤ seq ∧ seq ≤ 1099511627776 ∧ 1 ≤ op ∧ op ≤ 6)
def least (op : Nat) : Int := if op = 4 ∨ op = 5 then 0 else 1
def rightAsk (a : Ask) : Bool :=
  headed a.1 a.2.1 (a.2.2.1.toNat : Int) && (named a.2.2.2.1 a.2.2.2.2.1 a.2.2.2.2.2.1 (least a.2.2.1.toNat) &&
    (if a.2.2.1.toNat = 1 then decide (a.2.2.2.2.2.2.length ≤ 65536) else decide (a.2.2.2.2.2.2 = [])))
def infoOk (i : Info) : Bool := named i.1 i.2.1 i.2.2.1 1 && decide (i.2.2.2.toNat = 1 ∨ i.2.2.2.toNat = 2)
def rightTell (x : Tell) : Bool :=
  headed x.1 x.2.1 (x.2.2.1.toNat : Int) && (decide (0 ≤ x.2.2.2.1 ∧ x.2.2.2.1 ≤ 1000) && (decide (x.2.2.2.2.1.length ≤ 50) && (x.2.2.2.2.1.all infoOk &&
    (decide (x.2.2.2.2.2.1.length ≤ 65536) && (decide (0 ≤ x.2.2.2.2.2.2 ∧ x.2.2.2.2.2.2 ≤ 65536) && decide (x.2.2.2.1 = 0 ∨ (x.2.2.2.2.1 = [] ∧ x.2.2.2.2.2.1 = [])))))))

def vi (n : Int) : List UInt8 := varint n.toNat
def blobB (b : List UInt8) : List UInt8 := varint b.length ++ b
def askBody (a : Ask) : List UInt8 := 1 :: (vi a.1 ++ (vi a.2.1 ++ (varint a.2.2.1.toNat ++ (vi a.2.2.2.1 ++ (vi a.2.2.2.2.1 ++ (vi a.2.2.2.2.2.1 ++ blobB a.2.2.2.2.2.2))))))
def infoB (i : Info) : List UInt8 := vi i.1 ++ (vi i.2.1 ++ (vi i.2.2.1 ++ varint i.2.2.2.toNat))
def tellBody (x : Tell) : List UInt8 :=
  2 :: (vi x.1 ++ (vi x.2.1 ++ (varint x.2.2.1.toNat ++ (vi x.2.2.2.1 ++ (vi x.2.2.2.2.2.2 ++ (varint x.2.2.2.2.1.length ++ (x.2.2.2.2.1.flatMap infoB ++ blobB x.2.2.2.2.2.1)))))))

def pAskB (l : List UInt8) : Option (Ask × List UInt8) :=
  (pNum 1099511627776 l).bind fun x1 => (pNum 1099511627776 x1.2).bind fun x2 => (pNum 9 x2.2).bind fun x3 => (pNum 1099511627776 x3.2).bind fun x4 => (pNum 255 x4.2).bind fun x5 => (pNum 1099511627776 x5.2).bind fun x6 =>
  (pBlob 65536 x6.2).bind fun x7 =>
  if rightAsk ((x1.1 : Int), ((x2.1 : Int), (UInt8.ofNat x3.1, ((x4.1 : Int), ((x5.1 : Int), ((x6.1 : Int), x7.1)))))) = true then
    some (((x1.1 : Int), ((x2.1 : Int), (UInt8.ofNat x3.1, ((x4.1 : Int), ((x5.1 : Int), ((x6.1 : Int), x7.1)))))), x7.2) else none
def pAskR (l : List UInt8) : Option (Ask × List UInt8) :=
  match l with
  | [] => none
  | c :: l => if c = 1 then pAskB l else none
def pInfos : Nat → List UInt8 → Option (List Info × List UInt8)
  | 0, l => some ([], l)
  | n + 1, l =>
      (pNum 1099511627776 l).bind fun x1 => (pNum 255 x1.2).bind fun x2 => (pNum 1099511627776 x2.2).bind fun x3 => (pNum 9 x3.2).bind fun x4 =>
      (pInfos n x4.2).bind fun y => some (((x1.1 : Int), ((x2.1 : Int), ((x3.1 : Int), UInt8.ofNat x4.1))) :: y.1, y.2)
def pTellB (l : List UInt8) : Option (Tell × List UInt8) :=
  (pNum 1099511627776 l).bind fun x1 => (pNum 1099511627776 x1.2).bind fun x2 => (pNum 9 x2.2).bind fun x3 => (pNum 1000 x3.2).bind fun x4 => (pNum 65536 x4.2).bind fun x5 => (pNum 50 x5.2).bind fun x6 =>
  (pInfos x6.1 x6.2).bind fun x7 => (pBlob 65536 x7.2).bind fun x8 =>
  if rightTell ((x1.1 : Int), ((x2.1 : Int), (UInt8.ofNat x3.1, ((x4.1 : Int), (x7.1, (x8.1, (x5.1 : Int))))))) = true then
    some (((x1.1 : Int), ((x2.1 : Int), (UInt8.ofNat x3.1, ((x4.1 : Int), (x7.1, (x8.1, (x5.1 : Int))))))), x8.2) else none
def pTellR (l : List UInt8) : Option (Tell × List UInt8) :=
  match l with
  | [] => none
  | c :: l => if c = 2 then pTellB l else none

theorem vi_nat (n : Nat) : vi (n : Int) = varint n := rfl
theorem u8_nat {n : Nat} (h : n ≤ 255) : (UInt8.ofNat n).toNat = n := by rw [UInt8.toNat_ofNat']; omega
theorem nat_u8 (c : UInt8) : UInt8.ofNat c.toNat = c := by simp
theorem headed_iff {life seq op : Int} : headed life seq op = true ↔ 1 ≤ life ∧ life ≤ 1099511627776 ∧ 1 ≤ seq ∧ seq ≤ 1099511627776 ∧ 1 ≤ op ∧ op ≤ 6 := by simp [headed]
theorem named_iff {s i v l : Int} : named s i v l = true ↔ 0 ≤ s ∧ s ≤ 1099511627776 ∧ 0 ≤ i ∧ i ≤ 254 ∧ l ≤ v ∧ v ≤ 1099511627776 := by simp [named]
theorem least_nonneg (op : Nat) : 0 ≤ least op := by unfold least; split <;> omega
structure AskFits (a : Ask) : Prop where
  h1 : 0 ≤ a.1 ∧ a.1 ≤ 1099511627776
  h2 : 0 ≤ a.2.1 ∧ a.2.1 ≤ 1099511627776
  h3 : a.2.2.1.toNat ≤ 6
  h4 : 0 ≤ a.2.2.2.1 ∧ a.2.2.2.1 ≤ 1099511627776
  h5 : 0 ≤ a.2.2.2.2.1 ∧ a.2.2.2.2.1 ≤ 254
  h6 : 0 ≤ a.2.2.2.2.2.1 ∧ a.2.2.2.2.2.1 ≤ 1099511627776
  h7 : a.2.2.2.2.2.2.length ≤ 65536
theorem rightAsk_fits {a : Ask} (h : rightAsk a = true) : AskFits a := by
  unfold rightAsk at h
  simp only [Bool.and_eq_true, headed_iff, named_iff] at h
  obtain ⟨h1, h2, h3⟩ := h
  have := least_nonneg a.2.2.1.toNat
  refine ⟨by omega, by omega, by omega, by omega, by omega, by omega, ?_⟩
  by_cases hc : a.2.2.1.toNat = 1
  · rw [if_pos hc] at h3
    simpa using h3
  · rw [if_neg hc] at h3
    have : a.2.2.2.2.2.2 = [] := by simpa using h3
    rw [this]; simp
theorem ifs {α : Type} {c : Prop} [Decidable c] {x y : α} : (if c then some x else none) = some y ↔ c ∧ x = y := by
  by_cases h : c <;> simp [h]
theorem pAskR_iff {l r : List UInt8} {a : Ask} : pAskR l = some (a, r) ↔ rightAsk a = true ∧ l = askBody a ++ r := by
  unfold pAskR
  constructor
  · intro h
    rcases l with _ | ⟨c, l⟩
    · cases h
    · simp only at h
      by_cases hc : c = 1
      · subst hc
        rw [if_pos rfl] at h
        unfold pAskB at h
        simp only [Option.bind_eq_some_iff, ifs] at h
        obtain ⟨⟨n1, l1⟩, k1, ⟨n2, l2⟩, k2, ⟨n3, l3⟩, k3, ⟨n4, l4⟩, k4, ⟨n5, l5⟩, k5, ⟨n6, l6⟩, k6, ⟨b, l7⟩, k7, hr, he⟩ := h
        rw [pNum_iff (by decide)] at k1 k2 k3 k4 k5 k6
        rw [pBlob_iff (by decide)] at k7
        simp only [Prod.mk.injEq] at he
        obtain ⟨rfl, rfl⟩ := he
        refine ⟨hr, ?_⟩
        have h3 := k3.1
        simp only at k1 k2 k3 k4 k5 k6 k7
        rw [k1.2, k2.2, k3.2, k4.2, k5.2, k6.2, k7.2]
        simp only [askBody, vi_nat, blobB, u8_nat (show n3 ≤ 255 by omega), List.cons_append, List.append_assoc]
      · rw [if_neg hc] at h
        cases h
  · rintro ⟨hr, rfl⟩
    have hf := rightAsk_fits hr
    obtain ⟨a1, a2, a3, a4, a5, a6, a7⟩ := a
    obtain ⟨h1, h2, h3, h4, h5, h6, h7⟩ := hf
    simp only at h1 h2 h3 h4 h5 h6 h7
    simp only [askBody, vi, List.cons_append, List.append_assoc, if_true, pAskB]
    rw [(pNum_iff (most := 1099511627776) (n := a1.toNat) (by decide)).2 ⟨by omega, rfl⟩]
    simp only [Option.bind_some]
    rw [(pNum_iff (most := 1099511627776) (n := a2.toNat) (by decide)).2 ⟨by omega, rfl⟩]
    simp only [Option.bind_some]
    rw [(pNum_iff (most := 9) (n := a3.toNat) (by decide)).2 ⟨by omega, rfl⟩]
    simp only [Option.bind_some]
    rw [(pNum_iff (most := 1099511627776) (n := a4.toNat) (by decide)).2 ⟨by omega, rfl⟩]
    simp only [Option.bind_some]
    rw [(pNum_iff (most := 255) (n := a5.toNat) (by decide)).2 ⟨by omega, rfl⟩]
    simp only [Option.bind_some]
    rw [(pNum_iff (most := 1099511627776) (n := a6.toNat) (by decide)).2 ⟨by omega, rfl⟩]
    simp only [Option.bind_some]
    rw [(pBlob_iff (most := 65536) (s := a7) (r := r) (by decide)).2 ⟨h7, by simp [blobB]⟩]
    simp only [Option.bind_some, nat_u8, Int.toNat_of_nonneg h1.1, Int.toNat_of_nonneg h2.1, Int.toNat_of_nonneg h4.1, Int.toNat_of_nonneg h5.1, Int.toNat_of_nonneg h6.1]
    rw [if_pos hr]
def inR (i : Info) : Prop := (0 ≤ i.1 ∧ i.1 ≤ 1099511627776) ∧ (0 ≤ i.2.1 ∧ i.2.1 ≤ 255) ∧ (0 ≤ i.2.2.1 ∧ i.2.2.1 ≤ 1099511627776) ∧ i.2.2.2.toNat ≤ 9
theorem infoOk_inR {i : Info} (h : infoOk i = true) : inR i := by
  unfold infoOk at h
  simp only [Bool.and_eq_true, named_iff, decide_eq_true_eq] at h
  unfold inR
  omega
theorem pInfos_iff : ∀ {n : Nat} {l r : List UInt8} {is : List Info}, pInfos n l = some (is, r) ↔ is.length = n ∧ (∀ i ∈ is, inR i) ∧ l = is.flatMap infoB ++ r
  | 0, l, r, is => by
    simp only [pInfos, Option.some.injEq, Prod.mk.injEq]
    constructor
    · rintro ⟨rfl, rfl⟩; simp
    · rintro ⟨h1, _, h2⟩
      have : is = [] := List.eq_nil_of_length_eq_zero h1
      subst this
      simpa using h2
  | n + 1, l, r, is => by
    simp only [pInfos, Option.bind_eq_some_iff, Option.some.injEq, Prod.mk.injEq]
    constructor
    · rintro ⟨⟨n1, l1⟩, k1, ⟨n2, l2⟩, k2, ⟨n3, l3⟩, k3, ⟨n4, l4⟩, k4, ⟨is', l5⟩, k5, rfl, rfl⟩
      rw [pNum_iff (by decide)] at k1 k2 k3 k4
      rw [pInfos_iff] at k5
      simp only at k1 k2 k3 k4 k5
      refine ⟨by simp [k5.1], ?_, ?_⟩
      · intro i hi
        rcases List.mem_cons.1 hi with rfl | hi
        · unfold inR
          simp only [u8_nat (show n4 ≤ 255 by omega)]
          omega
        · exact k5.2.1 i hi
      · rw [k1.2, k2.2, k3.2, k4.2, k5.2.2]
        simp only [List.flatMap_cons, infoB, vi_nat, u8_nat (show n4 ≤ 255 by omega), List.append_assoc]
    · rintro ⟨h1, h2, rfl⟩
      rcases is with _ | ⟨i, is⟩
      · simp at h1
      · have hi := h2 i (by simp)
        obtain ⟨i1, i2, i3, i4⟩ := i
        obtain ⟨g1, g2, g3, g4⟩ := hi
        simp only at g1 g2 g3 g4
        refine ⟨(i1.toNat, _), (pNum_iff (by decide)).2 ⟨by omega, by simp only [List.flatMap_cons, infoB, vi, List.append_assoc]⟩, (i2.toNat, _), (pNum_iff (by decide)).2 ⟨by omega, rfl⟩,
          (i3.toNat, _), (pNum_iff (by decide)).2 ⟨by omega, rfl⟩, (i4.toNat, _), (pNum_iff (by decide)).2 ⟨by omega, rfl⟩, (is, r), (pInfos_iff).2 ⟨by simpa using h1, fun i hi => h2 i (by simp [hi]), rfl⟩, ?_, rfl⟩
        simp only [nat_u8, Int.toNat_of_nonneg g1.1, Int.toNat_of_nonneg g2.1, Int.toNat_of_nonneg g3.1]
structure TellFits (x : Tell) : Prop where
  h1 : 0 ≤ x.1 ∧ x.1 ≤ 1099511627776
  h2 : 0 ≤ x.2.1 ∧ x.2.1 ≤ 1099511627776
  h3 : x.2.2.1.toNat ≤ 6
  h4 : 0 ≤ x.2.2.2.1 ∧ x.2.2.2.1 ≤ 1000
  h5 : x.2.2.2.2.1.length ≤ 50 ∧ ∀ i ∈ x.2.2.2.2.1, inR i
  h6 : x.2.2.2.2.2.1.length ≤ 65536
  h7 : 0 ≤ x.2.2.2.2.2.2 ∧ x.2.2.2.2.2.2 ≤ 65536
theorem rightTell_fits {x : Tell} (h : rightTell x = true) : TellFits x := by
  unfold rightTell at h
  simp only [Bool.and_eq_true, headed_iff, decide_eq_true_eq, List.all_eq_true] at h
  obtain ⟨h1, h2, h3, h4, h5, h6, h7⟩ := h
  exact ⟨by omega, by omega, by omega, h2, ⟨h3, fun i hi => infoOk_inR (h4 i hi)⟩, h5, h6⟩
theorem pTellR_iff {l r : List UInt8} {x : Tell} : pTellR l = some (x, r) ↔ rightTell x = true ∧ l = tellBody x ++ r := by
  unfold pTellR
  constructor
  · intro h
    rcases l with _ | ⟨c, l⟩
    · cases h
    · simp only at h
      by_cases hc : c = 2
      · subst hc
        rw [if_pos rfl] at h
        unfold pTellB at h
        simp only [Option.bind_eq_some_iff, ifs] at h
        obtain ⟨⟨n1, l1⟩, k1, ⟨n2, l2⟩, k2, ⟨n3, l3⟩, k3, ⟨n4, l4⟩, k4, ⟨n5, l5⟩, k5, ⟨n6, l6⟩, k6, ⟨is, l7⟩, k7, ⟨b, l8⟩, k8, hr, he⟩ := h
        rw [pNum_iff (by decide)] at k1 k2 k3 k4 k5 k6
        rw [pInfos_iff] at k7
        rw [pBlob_iff (by decide)] at k8
        simp only [Prod.mk.injEq] at he
        obtain ⟨rfl, rfl⟩ := he
        refine ⟨hr, ?_⟩
        have h3 := k3.1
        simp only at k1 k2 k3 k4 k5 k6 k7 k8
        rw [k1.2, k2.2, k3.2, k4.2, k5.2, k6.2, k7.2.2, k8.2]
        simp only [tellBody, vi_nat, blobB, u8_nat (show n3 ≤ 255 by omega), List.cons_append, List.append_assoc, k7.1]
      · rw [if_neg hc] at h
        cases h
  · rintro ⟨hr, rfl⟩
    have hf := rightTell_fits hr
    obtain ⟨a1, a2, a3, a4, is, b, a5⟩ := x
    obtain ⟨h1, h2, h3, h4, h5, h6, h7⟩ := hf
    simp only at h1 h2 h3 h4 h5 h6 h7
    simp only [tellBody, vi, List.cons_append, List.append_assoc, if_true, pTellB]
    rw [(pNum_iff (most := 1099511627776) (n := a1.toNat) (by decide)).2 ⟨by omega, rfl⟩]
    simp only [Option.bind_some]
    rw [(pNum_iff (most := 1099511627776) (n := a2.toNat) (by decide)).2 ⟨by omega, rfl⟩]
    simp only [Option.bind_some]
    rw [(pNum_iff (most := 9) (n := a3.toNat) (by decide)).2 ⟨by omega, rfl⟩]
    simp only [Option.bind_some]
    rw [(pNum_iff (most := 1000) (n := a4.toNat) (by decide)).2 ⟨by omega, rfl⟩]
    simp only [Option.bind_some]
    rw [(pNum_iff (most := 65536) (n := a5.toNat) (by decide)).2 ⟨by omega, rfl⟩]
    simp only [Option.bind_some]
    rw [(pNum_iff (most := 50) (n := is.length) (by decide)).2 ⟨h5.1, rfl⟩]
    simp only [Option.bind_some]
    rw [(pInfos_iff (n := is.length)).2 ⟨rfl, h5.2, rfl⟩]
    simp only [Option.bind_some]
    rw [(pBlob_iff (most := 65536) (s := b) (r := r) (by decide)).2 ⟨h6, by simp [blobB]⟩]
    simp only [Option.bind_some, nat_u8, Int.toNat_of_nonneg h1.1, Int.toNat_of_nonneg h2.1, Int.toNat_of_nonneg h4.1, Int.toNat_of_nonneg h7.1]
    rw [if_pos hr]
theorem ask_prefix {a a' : Ask} {r r' : List UInt8} (h : rightAsk a = true) (h' : rightAsk a' = true) (e : askBody a ++ r = askBody a' ++ r') : a = a' ∧ r = r' := by
  have h1 : pAskR (askBody a ++ r) = some (a, r) := pAskR_iff.2 ⟨h, rfl⟩
  have h2 := pAskR_iff.2 ⟨h', e⟩
  rw [h1] at h2
  simpa using h2
theorem tell_prefix {a a' : Tell} {r r' : List UInt8} (h : rightTell a = true) (h' : rightTell a' = true) (e : tellBody a ++ r = tellBody a' ++ r') : a = a' ∧ r = r' := by
  have h1 : pTellR (tellBody a ++ r) = some (a, r) := pTellR_iff.2 ⟨h, rfl⟩
  have h2 := pTellR_iff.2 ⟨h', e⟩
  rw [h1] at h2
  simpa using h2
theorem ask_tell (a : Ask) (r : List UInt8) : pTellR (askBody a ++ r) = none := rfl
theorem tell_ask (x : Tell) (r : List UInt8) : pAskR (tellBody x ++ r) = none := rfl

/-! What any bytes say -/
abbrev zA : Ask := (0, (0, (0, (0, (0, (0, []))))))
abbrev zT : Tell := (0, (0, (0, (0, ([], ([], 0))))))
def whole {α : Type} (x : Option (α × List UInt8)) : Option α := match x with | some (a, []) => some a | _ => none
def askOf (body : List UInt8) : Option Ask := whole (pAskR body)
def tellOf (body : List UInt8) : Option Tell := whole (pTellR body)
theorem askOf_one (r : List UInt8) : askOf (1 :: r) = whole (pAskB r) := by
  have h : pAskR (1 :: r) = pAskB r := by simp [pAskR, pTellR]
  unfold askOf
  rw [h]
theorem tellOf_two (r : List UInt8) : tellOf (2 :: r) = whole (pTellB r) := by
  have h : pTellR (2 :: r) = pTellB r := by simp [pAskR, pTellR]
  unfold tellOf
  rw [h]
theorem askOf_iff {l : List UInt8} {a : Ask} : askOf l = some a ↔ rightAsk a = true ∧ l = askBody a := by
  have h := pAskR_iff (l := l) (r := []) (a := a)
  rw [List.append_nil] at h
  rw [← h]
  unfold askOf whole
  rcases pAskR l with _ | ⟨a', r⟩
  · simp
  · rcases r with _ | ⟨c, r⟩ <;> simp
theorem tellOf_iff {l : List UInt8} {a : Tell} : tellOf l = some a ↔ rightTell a = true ∧ l = tellBody a := by
  have h := pTellR_iff (l := l) (r := []) (x := a)
  rw [List.append_nil] at h
  rw [← h]
  unfold tellOf whole
  rcases pTellR l with _ | ⟨a', r⟩
  · simp
  · rcases r with _ | ⟨c, r⟩ <;> simp
def getAsk (T : List Nat) (b : List UInt8) : Ask × Nat :=
  if (unsealed (sum T) b).2 = 0 then (match askOf (unsealed (sum T) b).1 with | some a => (a, 0) | none => (zA, 110)) else (zA, (unsealed (sum T) b).2)
def getTell (T : List Nat) (b : List UInt8) : Tell × Nat :=
  if (unsealed (sum T) b).2 = 0 then (match tellOf (unsealed (sum T) b).1 with | some a => (a, 0) | none => (zT, 110)) else (zT, (unsealed (sum T) b).2)
def putAsk (T : List Nat) (a : Ask) : Nat × List UInt8 := if rightAsk a = true then (0, sealed (sum T) (askBody a)) else (110, [])
def putTell (T : List Nat) (a : Tell) : Nat × List UInt8 := if rightTell a = true then (0, sealed (sum T) (tellBody a)) else (110, [])
theorem unsealed_inv {S : List UInt8 → Nat} {l : List UInt8} (h : (unsealed S l).2 = 0) : sealed S (unsealed S l).1 = l := by
  by_cases hl : l.length < 4
  · rw [unsealed_short S hl] at h; cases h
  · rw [unsealed_is S (by omega)] at h ⊢
    by_cases he : sealed S (l.take (l.length - 4)) = l
    · rw [if_pos he]; exact he
    · rw [if_neg he] at h; cases h
theorem sealed_same {S S' : List UInt8 → Nat} {a b : List UInt8} (h : sealed S a = sealed S' b) : a = b := by
  unfold sealed at h
  have hl : a.length = b.length := by
    have := congrArg List.length h
    simp only [List.length_append, be4_len] at this
    omega
  exact (List.append_inj h hl).1
theorem body_len {a : Ask} (h : rightAsk a = true) : (askBody a).length ≤ 70000 := by
  have hf := rightAsk_fits h
  obtain ⟨h1, h2, h3, h4, h5, h6, h7⟩ := hf
  have v1 := varint_len10 (n := a.1.toNat) (by omega)
  have v2 := varint_len10 (n := a.2.1.toNat) (by omega)
  have v3 := varint_len10 (n := a.2.2.1.toNat) (by omega)
  have v4 := varint_len10 (n := a.2.2.2.1.toNat) (by omega)
  have v5 := varint_len10 (n := a.2.2.2.2.1.toNat) (by omega)
  have v6 := varint_len10 (n := a.2.2.2.2.2.1.toNat) (by omega)
  have v7 := varint_len10 (n := a.2.2.2.2.2.2.length) (by omega)
  simp only [askBody, vi, blobB, List.length_cons, List.length_append]
  omega
theorem infos_len : ∀ {is : List Info}, (∀ i ∈ is, inR i) → (is.flatMap infoB).length ≤ 40 * is.length
  | [], _ => by simp
  | i :: is, h => by
    have ih := infos_len (is := is) fun j hj => h j (by simp [hj])
    obtain ⟨h1, h2, h3, h4⟩ := h i (by simp)
    have v1 := varint_len10 (n := i.1.toNat) (by omega)
    have v2 := varint_len10 (n := i.2.1.toNat) (by omega)
    have v3 := varint_len10 (n := i.2.2.1.toNat) (by omega)
    have v4 := varint_len10 (n := i.2.2.2.toNat) (by omega)
    simp only [List.flatMap_cons, infoB, vi, List.length_append, List.length_cons]
    omega
theorem tell_len {x : Tell} (h : rightTell x = true) : (tellBody x).length ≤ 70000 := by
  have hf := rightTell_fits h
  obtain ⟨h1, h2, h3, h4, h5, h6, h7⟩ := hf
  have v1 := varint_len10 (n := x.1.toNat) (by omega)
  have v2 := varint_len10 (n := x.2.1.toNat) (by omega)
  have v3 := varint_len10 (n := x.2.2.1.toNat) (by omega)
  have v4 := varint_len10 (n := x.2.2.2.1.toNat) (by omega)
  have v5 := varint_len10 (n := x.2.2.2.2.2.2.toNat) (by omega)
  have v6 := varint_len10 (n := x.2.2.2.2.1.length) (by omega)
  have v7 := varint_len10 (n := x.2.2.2.2.2.1.length) (by omega)
  have v8 := infos_len h5.2
  simp only [tellBody, vi, blobB, List.length_cons, List.length_append]
  omega
end Go.P10

/- Chapter 10: messages turned, cut, grown; no program in sight. -/
namespace Go.P10
open Go.P1

/-- The bytes from k on are turned by those of ts, t of them. -/
def turnL (b : List UInt8) (k : Nat) (ts : List UInt8) : Nat → List UInt8
  | 0 => b
  | t + 1 => (turnL b k ts t).set (k + t) ((turnL b k ts t).getD (k + t) 0 ^^^ ts.getD t 0)
theorem turnL_len (b : List UInt8) (k : Nat) (ts : List UInt8) : ∀ t, (turnL b k ts t).length = b.length
  | 0 => rfl
  | t + 1 => by simp [turnL, turnL_len b k ts t]
theorem word_byte {ts : List UInt8} (h : ts.length = 4) {t : Nat} (ht : t < 4) : UInt8.ofNat (word ts / 2 ^ (8 * t)) = ts.getD t 0 := by
  obtain ⟨a, b, c, d, rfl⟩ : ∃ a b c d, ts = [a, b, c, d] := by
    match ts, h with
    | [a, b, c, d], _ => exact ⟨a, b, c, d, rfl⟩
  have ha := a.toNat_lt
  have hb := b.toNat_lt
  have hc := c.toNat_lt
  have hd := d.toNat_lt
  have hw : word [a, b, c, d] = 256 * (256 * (256 * d.toNat + c.toNat) + b.toNat) + a.toNat := by simp [word]
  rw [hw]
  apply UInt8.toNat_inj.1
  rw [UInt8.toNat_ofNat']
  match t, ht with
  | 0, _ => show _ = a.toNat; simp
  | 1, _ => show _ = b.toNat; simp; omega
  | 2, _ => show _ = c.toNat; simp; omega
  | 3, _ => show _ = d.toNat; simp; omega
theorem turnL_burst (b : List UInt8) (k : Nat) {ts : List UInt8} (h : ts.length = 4) : ∀ t, t ≤ 4 → turnL b k ts t = burst b k (word ts) t
  | 0, _ => rfl
  | t + 1, ht => by
    simp only [turnL, burst]
    rw [turnL_burst b k h t (by omega), word_byte h (by omega)]
theorem turnL_append (b s : List UInt8) (k : Nat) (ts : List UInt8) : ∀ t, k + t ≤ b.length → turnL (b ++ s) k ts t = turnL b k ts t ++ s
  | 0, _ => rfl
  | t + 1, h => by
    have hl := turnL_len b k ts t
    simp only [turnL]
    rw [turnL_append b s k ts t (by omega), List.set_append_left _ _ (by omega)]
    congr 3
    rw [List.getD_eq_getElem?_getD, List.getD_eq_getElem?_getD, List.getElem?_append_left (by omega)]
theorem turnL_far (b : List UInt8) (k : Nat) (ts : List UInt8) : ∀ t j, k + t ≤ j → (turnL b k ts t)[j]? = b[j]?
  | 0, _, _ => rfl
  | t + 1, j, h => by
    simp only [turnL]
    rw [List.getElem?_set_ne (by omega), turnL_far b k ts t j (by omega)]
theorem turnL_at (b : List UInt8) (k : Nat) (ts : List UInt8) : ∀ t i, i < t → k + t ≤ b.length → (turnL b k ts t)[k + i]? = some (b.getD (k + i) 0 ^^^ ts.getD i 0)
  | 0, i, h, _ => by omega
  | t + 1, i, h, hl => by
    simp only [turnL]
    rcases Nat.lt_or_ge i t with hi | hi
    · rw [List.getElem?_set_ne (by omega), turnL_at b k ts t i hi (by omega)]
    · obtain rfl : i = t := by omega
      rw [List.getElem?_set_self (by rw [turnL_len]; omega)]
      have e : (turnL b k ts i).getD (k + i) 0 = b.getD (k + i) 0 := by rw [List.getD_eq_getElem?_getD, turnL_far b k ts i _ (by omega), ← List.getD_eq_getElem?_getD]
      rw [e]
/-- Is one of the first t not nought? -/
def chg (ts : List UInt8) : Nat → Bool
  | 0 => false
  | t + 1 => chg ts t || !(((ts.getD t 0).toNat : Int) == 0)
theorem chg_true {ts : List UInt8} : ∀ {t : Nat}, chg ts t = true → ∃ i, i < t ∧ ts.getD i 0 ≠ 0
  | 0, h => by cases h
  | t + 1, h => by
    simp only [chg, Bool.or_eq_true] at h
    rcases h with h | h
    · obtain ⟨i, h1, h2⟩ := chg_true h
      exact ⟨i, by omega, h2⟩
    · refine ⟨t, by omega, fun e => ?_⟩
      rw [e] at h
      simp at h
theorem chg_false {ts : List UInt8} : ∀ {t : Nat}, chg ts t = false → ∀ i, i < t → ts.getD i 0 = 0
  | 0, _, i, h => by omega
  | t + 1, h, i, hi => by
    simp only [chg, Bool.or_eq_false_iff, Bool.not_eq_false'] at h
    rcases Nat.lt_or_ge i t with h1 | h1
    · exact chg_false h.1 i h1
    · obtain rfl : i = t := by omega
      have h2 := beq_iff_eq.1 h.2
      apply UInt8.toNat_inj.1
      have : (0 : UInt8).toNat = 0 := rfl
      omega
theorem turnL_zero (b : List UInt8) (k : Nat) (ts : List UInt8) : ∀ t, (∀ i, i < t → ts.getD i 0 = 0) → turnL b k ts t = b
  | 0, _ => rfl
  | t + 1, h => by
    simp only [turnL]
    rw [turnL_zero b k ts t fun i hi => h i (by omega), h t (by omega)]
    rcases Nat.lt_or_ge (k + t) b.length with hl | hl
    · rw [List.getD_eq_getElem?_getD, List.getElem?_eq_getElem hl]
      simp
    · rw [List.set_eq_of_length_le hl]
theorem turnL_same {b : List UInt8} {k : Nat} {ts : List UInt8} {t : Nat} (h : k + t ≤ b.length) : turnL b k ts t = b ↔ chg ts t = false := by
  constructor
  · intro e
    cases hc : chg ts t with
    | false => rfl
    | true =>
      obtain ⟨i, h1, h2⟩ := chg_true hc
      have := turnL_at b k ts t i h1 h
      rw [e, List.getD_eq_getElem?_getD, List.getElem?_eq_getElem (by omega)] at this
      simp only [Option.getD_some, Option.some.injEq] at this
      have h3 : b[k + i] ^^^ b[k + i] = b[k + i] ^^^ (b[k + i] ^^^ ts.getD i 0) := by rw [← this]
      rw [← UInt8.xor_assoc, UInt8.xor_self, UInt8.zero_xor] at h3
      exact absurd h3.symm h2
  · intro hc
    exact turnL_zero b k ts t (chg_false hc)
/-- A message turned is refused, just if it is another one. -/
theorem turned_unsealed {b : List UInt8} {k : Nat} {ts : List UInt8} {t : Nat} (h4 : ts.length = 4) (ht : t ≤ 4) (h : k + t ≤ b.length) :
    unsealed (sum crcT) (turnL b k ts t ++ be4 (sum crcT b)) = if chg ts t = true then ([], 12) else (b, 0) := by
  have hT := told_burst b k (word ts) t ht h
  rw [← turnL_burst b k h4 t ht] at hT
  rw [told_unsealed hT]
  by_cases hc : chg ts t = true
  · rw [if_pos hc, if_neg]
    intro e
    have := (turnL_same h).1 e
    rw [hc] at this
    cases this
  · have hc' : chg ts t = false := by simpa using hc
    rw [if_neg hc, if_pos ((turnL_same h).2 hc'), (turnL_same h).2 hc']

/-! Put and got -/
theorem get_sealed_ask (T : List Nat) (b : List UInt8) : getAsk T (sealed (sum T) b) = match askOf b with | some a => (a, 0) | none => (zA, 110) := by
  unfold getAsk
  rw [unsealed_sealed]
  rfl
theorem get_sealed_tell (T : List Nat) (b : List UInt8) : getTell T (sealed (sum T) b) = match tellOf b with | some a => (a, 0) | none => (zT, 110) := by
  unfold getTell
  rw [unsealed_sealed]
  rfl
theorem askOf_body {a : Ask} (h : rightAsk a = true) : askOf (askBody a) = some a := askOf_iff.2 ⟨h, rfl⟩
theorem tellOf_body {x : Tell} (h : rightTell x = true) : tellOf (tellBody x) = some x := tellOf_iff.2 ⟨h, rfl⟩
theorem tellOf_ask (a : Ask) : tellOf (askBody a) = none := rfl
theorem askOf_tell (x : Tell) : askOf (tellBody x) = none := rfl
theorem cut_none {a : Ask} (h : rightAsk a = true) {k : Nat} (hk : k < (askBody a).length) : askOf ((askBody a).take k) = none := by
  rcases hc : askOf ((askBody a).take k) with _ | a'
  · rfl
  · obtain ⟨h1, h2⟩ := askOf_iff.1 hc
    have e : askBody a' ++ (askBody a).drop k = askBody a ++ [] := by rw [← h2, List.take_append_drop, List.append_nil]
    have := (ask_prefix h1 h e).2
    have hl := congrArg List.length this
    simp only [List.length_drop, List.length_nil] at hl
    omega
theorem more_none {a : Ask} (h : rightAsk a = true) (c : UInt8) : askOf (askBody a ++ [c]) = none := by
  rcases hc : askOf (askBody a ++ [c]) with _ | a'
  · rfl
  · obtain ⟨h1, h2⟩ := askOf_iff.1 hc
    rw [← List.append_nil (askBody a')] at h2
    have := (ask_prefix h h1 h2).2
    cases this
theorem put_got_ask {T : List Nat} {l : List UInt8} (h : (getAsk T l).2 = 0) : putAsk T (getAsk T l).1 = (0, l) := by
  unfold getAsk at h ⊢
  by_cases h0 : (unsealed (sum T) l).2 = 0
  · rw [if_pos h0] at h ⊢
    rcases hc : askOf (unsealed (sum T) l).1 with _ | a
    · rw [hc] at h; cases h
    · obtain ⟨h1, h2⟩ := askOf_iff.1 hc
      show putAsk T a = _
      unfold putAsk
      rw [if_pos h1, ← h2, unsealed_inv h0]
  · rw [if_neg h0] at h
    exact absurd h h0
theorem put_got_tell {T : List Nat} {l : List UInt8} (h : (getTell T l).2 = 0) : putTell T (getTell T l).1 = (0, l) := by
  unfold getTell at h ⊢
  by_cases h0 : (unsealed (sum T) l).2 = 0
  · rw [if_pos h0] at h ⊢
    rcases hc : tellOf (unsealed (sum T) l).1 with _ | a
    · rw [hc] at h; cases h
    · obtain ⟨h1, h2⟩ := tellOf_iff.1 hc
      show putTell T a = _
      unfold putTell
      rw [if_pos h1, ← h2, unsealed_inv h0]
  · rw [if_neg h0] at h
    exact absurd h h0
theorem got_infos {T : List Nat} (l : List UInt8) : (getTell T l).1.2.2.2.2.1.length ≤ 50 := by
  unfold getTell
  split
  · rcases hc : tellOf (unsealed (sum T) l).1 with _ | a
    · simp
    · obtain ⟨h1, h2⟩ := tellOf_iff.1 hc
      exact (rightTell_fits h1).h5.1
  · simp
theorem sealed_body {S : List UInt8 → Nat} {a a' : Ask} (h : rightAsk a = true) (h' : rightAsk a' = true) : sealed S (askBody a) = sealed S (askBody a') ↔ a = a' := by
  constructor
  · intro e
    have e2 : askBody a ++ [] = askBody a' ++ [] := by rw [sealed_same e]
    exact (ask_prefix h h' e2).1
  · rintro rfl; rfl
theorem sealed_tell {S : List UInt8 → Nat} {a a' : Tell} (h : rightTell a = true) (h' : rightTell a' = true) : sealed S (tellBody a) = sealed S (tellBody a') ↔ a = a' := by
  constructor
  · intro e
    have e2 : tellBody a ++ [] = tellBody a' ++ [] := by rw [sealed_same e]
    exact (tell_prefix h h' e2).1
  · rintro rfl; rfl
end Go.P10
