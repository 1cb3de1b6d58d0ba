/- Plain laws of layer 1 (bytes): what numbers and strings of bytes come to; no program in sight. -/
import Derived.KernelRfl
set_option linter.all false
namespace Go.P1

/-- The bytes of a number, read from place k on with n so far: the number, how many bytes, the error. -/
def num : List UInt8 → Nat → Nat → Nat × Nat × Nat
  | [], _, _ => (0, 0, 11)
  | c :: r, k, n =>
    if (0 < k ∧ c.toNat = 0) ∨ (8 < k ∧ 1 < c.toNat) then (0, 0, 10)
    else if c.toNat < 128 then (n + c.toNat % 128 * 2 ^ (7 * k), k + 1, 0)
    else num r (k + 1) (n + c.toNat % 128 * 2 ^ (7 * k))

def getUint (l : List UInt8) (p : Int) : Nat × Nat × Nat :=
  if p < 0 ∨ (l.length : Int) < p then (0, 0, 2)
  else match num (l.drop p.toNat) 0 0 with
    | (n, j, e) => if e = 0 then (n, p.toNat + j, 0) else (0, 0, e)

theorem pow7 (k : Nat) : 2 ^ (7 * (k + 1)) = 128 * 2 ^ (7 * k) := by
  rw [Nat.mul_add, Nat.pow_add]; omega

theorem num_step {c : UInt8} {r : List UInt8} {k n : Nat} (h1 : ¬ ((0 < k ∧ c.toNat = 0) ∨ (8 < k ∧ 1 < c.toNat))) (h2 : 128 ≤ c.toNat) :
    num (c :: r) k n = num r (k + 1) (n + c.toNat % 128 * 2 ^ (7 * k)) := by
  rw [num, if_neg h1, if_neg (by omega)]

theorem num_bad {c : UInt8} {r : List UInt8} {k n : Nat} (h1 : (0 < k ∧ c.toNat = 0) ∨ (8 < k ∧ 1 < c.toNat)) : num (c :: r) k n = (0, 0, 10) := by
  rw [num, if_pos h1]

theorem num_end {c : UInt8} {r : List UInt8} {k n : Nat} (h1 : ¬ ((0 < k ∧ c.toNat = 0) ∨ (8 < k ∧ 1 < c.toNat))) (h2 : c.toNat < 128) :
    num (c :: r) k n = (n + c.toNat % 128 * 2 ^ (7 * k), k + 1, 0) := by
  rw [num, if_neg h1, if_pos h2]

theorem getUint_of {l : List UInt8} {p n j : Nat} (h : p ≤ l.length) (hn : num (l.drop p) 0 0 = (n, j, 0)) : getUint l p = (n, p + j, 0) := by
  unfold getUint
  rw [if_neg (by omega)]
  simp [hn]

theorem getUint_err {l : List UInt8} {p e : Nat} (h : p ≤ l.length) (he : e ≠ 0) (hn : num (l.drop p) 0 0 = (0, 0, e)) : getUint l p = (0, 0, e) := by
  unfold getUint
  rw [if_neg (by omega)]
  simp [hn, he]

theorem getUint_out {l : List UInt8} {p : Int} (h : p < 0 ∨ (l.length : Int) < p) : getUint l p = (0, 0, 2) := by
  unfold getUint
  rw [if_pos h]

theorem room (m x k : Nat) (hk : k ≤ 9) (hm : m < 2 ^ (7 * k)) (hx : 8 < k → x < 2) : m + x % 128 * 2 ^ (7 * k) < 18446744073709551616 ∧ (k ≤ 8 → m + x % 128 * 2 ^ (7 * k) < 2 ^ (7 * (k + 1))) := by
  have hp := pow7 k
  have h1 : x % 128 < 128 := Nat.mod_lt _ (by omega)
  have h2 : x % 128 * 2 ^ (7 * k) ≤ 127 * 2 ^ (7 * k) := Nat.mul_le_mul_right _ (by omega)
  rcases Nat.lt_or_ge 8 k with h9 | h8
  · obtain rfl : k = 9 := by omega
    have := hx (by omega)
    have h3 : x % 128 ≤ 1 := by omega
    have h4 : x % 128 * 2 ^ (7 * 9) ≤ 1 * 2 ^ (7 * 9) := Nat.mul_le_mul_right _ h3
    have h5 : (2 : Nat) ^ (7 * 9) = 9223372036854775808 := by decide
    exact ⟨by omega, fun h => by omega⟩
  · have h6 : 2 ^ (7 * k) ≤ 2 ^ (7 * 8) := Nat.pow_le_pow_right (by omega) (by omega)
    have h7 : (2 : Nat) ^ (7 * 8) = 72057594037927936 := by decide
    exact ⟨by omega, fun _ => by omega⟩

theorem wlt {k : Nat} (hk : k ≤ 9) : 2 ^ (7 * k) ≤ 9223372036854775808 := by
  have h6 : 2 ^ (7 * k) ≤ 2 ^ (7 * 9) := Nat.pow_le_pow_right (by omega) (by omega)
  have h7 : (2 : Nat) ^ (7 * 9) = 9223372036854775808 := by decide
  omega

/-- A string that comes. -/
def getBlob (l : List UInt8) (p most : Int) : List UInt8 × Nat × Nat :=
  match getUint l p with
  | (n, j, e) => if e ≠ 0 then ([], 0, e) else if most < 0 ∨ most < n then ([], 0, 3) else if l.length - j < n then ([], 0, 11) else ((l.drop j).take n, j + n, 0)

theorem drop_at {l : List UInt8} {j : Nat} (h : j < l.length) : l.drop j = l[j] :: l.drop (j + 1) := List.drop_eq_getElem_cons h

/-- A number as it is sent. -/
def varint (n : Nat) : List UInt8 := if n < 128 then [UInt8.ofNat n] else UInt8.ofNat (n % 128 + 128) :: varint (n / 128)
termination_by n
decreasing_by omega

theorem varint_lt {n : Nat} (h : n < 128) : varint n = [UInt8.ofNat n] := by rw [varint, if_pos h]
theorem varint_ge {n : Nat} (h : 128 ≤ n) : varint n = UInt8.ofNat (n % 128 + 128) :: varint (n / 128) := by rw [varint, if_neg (by omega)]

theorem varint_pos (n : Nat) : 0 < (varint n).length := by
  rcases Nat.lt_or_ge n 128 with h | h
  · rw [varint_lt h]; simp
  · rw [varint_ge h]; simp

theorem varint_len : ∀ (k n : Nat), n < 128 ^ (k + 1) → (varint n).length ≤ k + 1
  | 0, n, h => by rw [varint_lt (by simpa using h)]; simp
  | k + 1, n, h => by
    rcases Nat.lt_or_ge n 128 with hl | hg
    · rw [varint_lt hl]; simp
    · rw [varint_ge hg, List.length_cons]
      have : n / 128 < 128 ^ (k + 1) := by
        rw [Nat.div_lt_iff_lt_mul (by omega)]
        rw [Nat.pow_succ] at h
        exact h
      have := varint_len k (n / 128) this
      omega

theorem varint_len10 {n : Nat} (h : n < 18446744073709551616) : (varint n).length ≤ 10 := varint_len 9 n (Nat.lt_of_lt_of_le h (by decide))

theorem num_fits : ∀ (l : List UInt8) (k n a j e : Nat), k ≤ 9 → n < 2 ^ (7 * k) → num l k n = (a, j, e) → a < 18446744073709551616 ∧ (e = 0 → k < j ∧ j ≤ k + l.length) ∧ e ≤ 11
  | [], k, n, a, j, e, _, _, h => by
    simp only [num, Prod.mk.injEq] at h
    omega
  | c :: r, k, n, a, j, e, hk, hn, h => by
    by_cases h1 : (0 < k ∧ c.toNat = 0) ∨ (8 < k ∧ 1 < c.toNat)
    · rw [num_bad h1] at h
      simp only [Prod.mk.injEq] at h
      omega
    · have hr := room n c.toNat k hk hn (by omega)
      by_cases h2 : c.toNat < 128
      · rw [num_end h1 h2] at h
        simp only [Prod.mk.injEq] at h
        simp only [List.length_cons]
        omega
      · rw [num_step h1 (by omega)] at h
        have := num_fits r (k + 1) _ a j e (by omega) (hr.2 (by omega)) h
        simp only [List.length_cons]
        omega

theorem getUint_fits (l : List UInt8) (p : Int) : (getUint l p).1 < 18446744073709551616 ∧ (getUint l p).2.1 ≤ l.length ∧ (getUint l p).2.2 ≤ 11 ∧ ((getUint l p).2.2 = 0 → 0 < (getUint l p).2.1) ∧ ((getUint l p).2.2 ≠ 0 → (getUint l p).1 = 0 ∧ (getUint l p).2.1 = 0) := by
  unfold getUint
  split
  · simp
  · rename_i h
    rcases hq : num (l.drop p.toNat) 0 0 with ⟨a, j, e⟩
    have := num_fits _ 0 0 a j e (by omega) (by simp) hq
    simp only [List.length_drop] at this
    by_cases he : e = 0
    · simp only [he, if_true]
      exact ⟨this.1, by omega, by omega, fun _ => by omega, fun h => absurd rfl h⟩
    · simp only [if_neg he]
      exact ⟨by omega, by omega, by omega, fun h => absurd h he, fun _ => by simp⟩

theorem getBlob_err {l : List UInt8} {p most : Int} {n j e : Nat} (h : getUint l p = (n, j, e)) (he : e ≠ 0) : getBlob l p most = ([], 0, e) := by
  unfold getBlob
  simp [h, he]
theorem getBlob_long {l : List UInt8} {p most : Int} {n j : Nat} (h : getUint l p = (n, j, 0)) (hm : most < 0 ∨ most < n) : getBlob l p most = ([], 0, 3) := by
  unfold getBlob
  simp [h, hm]
theorem getBlob_short {l : List UInt8} {p most : Int} {n j : Nat} (h : getUint l p = (n, j, 0)) (hm : ¬ (most < 0 ∨ most < n)) (hs : l.length - j < n) : getBlob l p most = ([], 0, 11) := by
  unfold getBlob
  simp [h, hm, hs]
theorem getBlob_ok {l : List UInt8} {p most : Int} {n j : Nat} (h : getUint l p = (n, j, 0)) (hm : ¬ (most < 0 ∨ most < n)) (hs : ¬ l.length - j < n) : getBlob l p most = ((l.drop j).take n, j + n, 0) := by
  unfold getBlob
  simp [h, hm, hs]

/-- One byte of a sum, by the table T. -/
def step (T : List Nat) (s : Nat) (b : UInt8) : Nat := s / 256 ^^^ T.getD (s % 256 ^^^ b.toNat) 0
def run (T : List Nat) (s : Nat) (l : List UInt8) : Nat := l.foldl (step T) s
def sum (T : List Nat) (l : List UInt8) : Nat := 4294967295 - run T 4294967295 l

/-- 256 numbers of 32 bits. -/
def Tab (T : List Nat) : Prop := T.length = 256 ∧ ∀ x ∈ T, x < 4294967296

theorem Tab.lt {T : List Nat} (h : Tab T) (k : Nat) : T.getD k 0 < 4294967296 := by
  rcases Nat.lt_or_ge k T.length with hk | hk
  · rw [List.getD_eq_getElem?_getD, List.getElem?_eq_getElem hk]
    exact h.2 _ (List.getElem_mem hk)
  · rw [List.getD_eq_getElem?_getD, List.getElem?_eq_none hk]
    decide

theorem xor_lt32 {a b : Nat} (ha : a < 4294967296) (hb : b < 4294967296) : a ^^^ b < 4294967296 := Nat.xor_lt_two_pow (n := 32) ha hb
theorem xor_lt8 {a b : Nat} (ha : a < 256) (hb : b < 256) : a ^^^ b < 256 := Nat.xor_lt_two_pow (n := 8) ha hb

theorem step_lt {T : List Nat} (h : Tab T) {s : Nat} (hs : s < 4294967296) (b : UInt8) : step T s b < 4294967296 := xor_lt32 (by omega) (h.lt _)
theorem run_lt {T : List Nat} (h : Tab T) : ∀ (l : List UInt8) {s : Nat}, s < 4294967296 → run T s l < 4294967296
  | [], _, hs => hs
  | b :: r, _, hs => run_lt h r (step_lt h hs b)
theorem run_snoc (T : List Nat) (s : Nat) (l : List UInt8) (b : UInt8) : run T s (l ++ [b]) = step T (run T s l) b := by simp [run]
theorem sum_lt (T : List Nat) (l : List UInt8) : sum T l < 4294967296 := by unfold sum; omega

def halved (n : Nat) : Nat := n / 2 ^^^ 2197175160 * (n % 2)
theorem halved_lt {n : Nat} (h : n < 4294967296) : halved n < 4294967296 := by
  have h1 : n % 2 < 2 := Nat.mod_lt _ (by omega)
  exact xor_lt32 (by omega) (by omega)

/-- The powers of the turn: what the table has at 128, 64, .. -/
def hv : Nat → Nat
  | 0 => 2197175160
  | k + 1 => halved (hv k)
def zeros : List Nat := List.replicate 256 0
def tab1 : Nat → List Nat
  | 0 => zeros
  | k + 1 => (tab1 k).set (128 / 2 ^ k) (hv k)
/-- The places from 2^k on, low of them. -/
def fill (T : List Nat) (k : Nat) : Nat → List Nat
  | 0 => T
  | low + 1 => (fill T k low).set (2 ^ k + low) ((fill T k low).getD (2 ^ k) 0 ^^^ (fill T k low).getD low 0)
def tab2 : Nat → List Nat
  | 0 => tab1 8
  | k + 1 => fill (tab2 k) k (2 ^ k)
def crcT : List Nat := tab2 8
def entry (i : Nat) : Nat := halved (halved (halved (halved (halved (halved (halved (halved i)))))))

theorem hv_lt : ∀ k, hv k < 4294967296
  | 0 => by decide
  | k + 1 => halved_lt (hv_lt k)
theorem Tab.set {T : List Nat} (h : Tab T) (i : Nat) {v : Nat} (hv : v < 4294967296) : Tab (T.set i v) :=
  ⟨by rw [List.length_set]; exact h.1, fun x hx => by
    rcases List.mem_or_eq_of_mem_set hx with h1 | h1
    · exact h.2 x h1
    · rw [h1]; exact hv⟩
theorem zeros_tab : Tab zeros := ⟨List.length_replicate, fun x hx => by rw [(List.mem_replicate.1 hx).2]; decide⟩
theorem tab1_tab : ∀ k, Tab (tab1 k)
  | 0 => zeros_tab
  | k + 1 => (tab1_tab k).set _ (hv_lt k)
theorem fill_tab {T : List Nat} (h : Tab T) (k : Nat) : ∀ low, Tab (fill T k low)
  | 0 => h
  | low + 1 => (fill_tab h k low).set _ (xor_lt32 ((fill_tab h k low).lt _) ((fill_tab h k low).lt _))
theorem tab2_tab : ∀ k, Tab (tab2 k)
  | 0 => tab1_tab 8
  | k + 1 => fill_tab (tab2_tab k) k _
theorem crcT_tab : Tab crcT := tab2_tab 8
theorem div_words (k : Nat) : ∃ x : Nat, 128 / 2 ^ k = x ∧ x < 256 ∧ (128 : Int) / 2 ^ k = (x : Int) :=
  ⟨_, rfl, Nat.lt_of_le_of_lt (Nat.div_le_self 128 (2 ^ k)) (by omega), by push_cast; rfl⟩
theorem pow_words (k : Nat) (h : k < 8) : ∃ p : Nat, 2 ^ k = p ∧ 1 ≤ p ∧ p ≤ 128 ∧ (2 : Int) ^ k = (p : Int) :=
  ⟨_, rfl, Nat.pow_pos (by omega), Nat.pow_le_pow_right (show 0 < 2 by omega) (show k ≤ 7 by omega), by push_cast; rfl⟩
/-- Low bits beside a power. -/
theorem or_words (k p low : Nat) (hp : 2 ^ k = p) (hl : low < p) : p ||| low = p + low := by
  subst hp
  rw [Nat.or_comm, Nat.add_comm]
  have := Nat.two_pow_add_eq_or_of_lt hl 1
  rw [Nat.mul_one] at this
  rw [Nat.or_comm, ← this, Nat.add_comm]
theorem fill_step (T : List Nat) (k p low : Nat) (hp : 2 ^ k = p) : fill T k (low + 1) = (fill T k low).set (p + low) ((fill T k low).getD p 0 ^^^ (fill T k low).getD low 0) := by
  subst hp; rfl
theorem tab2_step (k p : Nat) (hp : 2 ^ k = p) : tab2 (k + 1) = fill (tab2 k) k p := by subst hp; rfl

theorem crcT_is : crcT = (List.range 256).map entry := by decide +kernel

/-- Four bytes of a number, the one that weighs most first. -/
def be4 (s : Nat) : List UInt8 := [UInt8.ofNat (s / 16777216), UInt8.ofNat (s / 65536), UInt8.ofNat (s / 256), UInt8.ofNat s]
def sealed (S : List UInt8 → Nat) (l : List UInt8) : List UInt8 := l ++ be4 (S l)
theorem be4_len (s : Nat) : (be4 s).length = 4 := rfl
/-- What is laid so far: k of the four bytes, from the last one on. -/
def laid4 (n s k : Nat) : List UInt8 := List.replicate (n + (4 - k)) 0 ++ (be4 s).drop (4 - k)
theorem laid4_len (n s k : Nat) (h : k ≤ 4) : (laid4 n s k).length = n + 4 := by simp [laid4, be4]; omega
theorem set_last (m : Nat) (R : List UInt8) (b : UInt8) : (List.replicate (m + 1) 0 ++ R).set m b = List.replicate m 0 ++ b :: R := by
  rw [List.set_append_left _ _ (by simp)]
  rw [List.replicate_succ', List.set_append_right _ _ (by simp)]
  simp
theorem laid4_step (n s k : Nat) (h : k < 4) : (laid4 n s k).set (n + 3 - k) (UInt8.ofNat (s / 2 ^ (8 * k))) = laid4 n s (k + 1) := by
  have hk : k = 0 ∨ k = 1 ∨ k = 2 ∨ k = 3 := by omega
  rcases hk with rfl | rfl | rfl | rfl
  · have := set_last (n + 3) [] (UInt8.ofNat s)
    simpa [laid4, be4] using this
  · have := set_last (n + 2) [UInt8.ofNat s] (UInt8.ofNat (s / 256))
    simpa [laid4, be4] using this
  · have := set_last (n + 1) [UInt8.ofNat (s / 256), UInt8.ofNat s] (UInt8.ofNat (s / 65536))
    simpa [laid4, be4] using this
  · have := set_last n [UInt8.ofNat (s / 65536), UInt8.ofNat (s / 256), UInt8.ofNat s] (UInt8.ofNat (s / 16777216))
    simpa [laid4, be4] using this
theorem byte_word (s k : Nat) : ((UInt8.ofNat (s / 2 ^ (8 * k))).toNat : Int) = (s : Int) / 2 ^ (8 * k) % 256 := by
  rw [UInt8.toNat_ofNat', Int.natCast_emod, Int.natCast_ediv, Int.natCast_pow]
  rfl
theorem laid4_end (n s : Nat) : laid4 n s 4 = List.replicate n 0 ++ be4 s := by simp [laid4]

def unsealed (S : List UInt8 → Nat) (l : List UInt8) : List UInt8 × Nat :=
  if l.length < 4 then ([], 11) else if sealed S (l.take (l.length - 4)) = l then (l.take (l.length - 4), 0) else ([], 12)
theorem unsealed_short (S : List UInt8 → Nat) {l : List UInt8} (h : l.length < 4) : unsealed S l = ([], 11) := by unfold unsealed; rw [if_pos h]
theorem unsealed_is (S : List UInt8 → Nat) {l : List UInt8} (h : 4 ≤ l.length) : unsealed S l = if sealed S (l.take (l.length - 4)) = l then (l.take (l.length - 4), 0) else ([], 12) := by
  unfold unsealed; rw [if_neg (by omega)]

/-- What comes, as text. -/
def comesL (l : List UInt8) (p : Int) : List UInt8 :=
  match getUint l p with
  | (n, j, e) => if e ≠ 0 then [101, 114, 114, 111, 114, 32] ++ varint e else varint n ++ [32] ++ varint j

end Go.P1
