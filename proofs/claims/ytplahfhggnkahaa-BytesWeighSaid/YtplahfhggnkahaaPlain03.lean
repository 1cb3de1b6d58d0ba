/- Plain laws of layer 1: a number weighs its bytes. -/
import Derived.Test.YtplahfhggnkahaaPlain01
namespace Go.Proofs.Ytplahfhggnkahaa.P1

def weigh (l : List UInt8) : Nat := l.foldr (fun c s => s * 128 + c.toNat % 128) 0

theorem varint_ind : ∀ (l : List UInt8) (k a n m : Nat), num l k a = (n, m, 0) →
    ∃ v, n = a + v * 2 ^ (7 * k) ∧ k < m ∧ m ≤ k + l.length ∧ l.take (m - k) = varint v ∧ (0 < k → 0 < v)
  | [], k, a, n, m, h => by simp [num] at h
  | c :: r, k, a, n, m, h => by
    by_cases h1 : (0 < k ∧ c.toNat = 0) ∨ (8 < k ∧ 1 < c.toNat)
    · rw [num_bad h1] at h
      simp at h
    · by_cases h2 : c.toNat < 128
      · rw [num_end h1 h2] at h
        simp only [Prod.mk.injEq] at h
        obtain ⟨rfl, rfl, _⟩ := h
        refine ⟨c.toNat, by rw [Nat.mod_eq_of_lt h2], by omega, by simp, ?_, by omega⟩
        rw [varint_lt h2, show k + 1 - k = 1 by omega]
        simp
      · rw [num_step h1 (by omega)] at h
        obtain ⟨v, hv, h3, h4, h5, h6⟩ := varint_ind r (k + 1) _ n m h
        have hv0 := h6 (by omega)
        have hc := UInt8.toNat_lt c
        refine ⟨c.toNat % 128 + 128 * v, ?_, by omega, by simp only [List.length_cons]; omega, ?_, by omega⟩
        · rw [hv, pow7, Nat.add_mul, Nat.add_assoc]
          congr 2
          rw [Nat.mul_comm 128 v, Nat.mul_assoc]
        · rw [varint_ge (by omega), show m - k = (m - (k + 1)) + 1 by omega, List.take_succ_cons, h5]
          have e1 : (c.toNat % 128 + 128 * v) / 128 = v := by omega
          have e2 : (c.toNat % 128 + 128 * v) % 128 + 128 = c.toNat := by omega
          rw [e1, e2]
          simp

theorem weigh_cons (c : UInt8) (r : List UInt8) : weigh (c :: r) = weigh r * 128 + c.toNat % 128 := rfl

theorem weigh_varint (n : Nat) : weigh (varint n) = n := by
  induction n using Nat.strongRecOn with
  | ind n ih =>
    rcases Nat.lt_or_ge n 128 with h | h
    · rw [varint_lt h, weigh_cons]
      simp [weigh, UInt8.toNat_ofNat']
      omega
    · rw [varint_ge h, weigh_cons, ih (n / 128) (by omega), UInt8.toNat_ofNat']
      omega

theorem varint_get (n : Nat) : ∀ i (h : i < (varint n).length), (i + 1 < (varint n).length → 128 ≤ ((varint n)[i]).toNat) ∧ (i + 1 = (varint n).length → ((varint n)[i]).toNat < 128 ∧ (0 < i → ((varint n)[i]).toNat ≠ 0)) := by
  induction n using Nat.strongRecOn with
  | ind n ih =>
    intro i hi
    rcases Nat.lt_or_ge n 128 with h | h
    · have e := varint_lt h
      simp only [e, List.length_cons, List.length_nil] at hi ⊢
      obtain rfl : i = 0 := by omega
      simp [UInt8.toNat_ofNat']
      omega
    · have e := varint_ge h
      have hn := varint_pos (n / 128)
      have he : (varint n).length = (varint (n / 128)).length + 1 := by rw [e]; simp
      rcases i with _ | i
      · have : (varint n)[0]? = some (UInt8.ofNat (n % 128 + 128)) := by rw [e]; rfl
        have h0 : (varint n)[0] = UInt8.ofNat (n % 128 + 128) := by
          have := List.getElem?_eq_getElem hi
          simp_all
        rw [h0, UInt8.toNat_ofNat']
        exact ⟨fun _ => by omega, fun h => by omega⟩
      · have hi' : i < (varint (n / 128)).length := by omega
        have hg : (varint n)[i + 1] = (varint (n / 128))[i] := by
          have h1 : (varint n)[i + 1]? = (varint (n / 128))[i]? := by rw [e]; simp
          rw [List.getElem?_eq_getElem hi, List.getElem?_eq_getElem hi'] at h1
          injection h1
        rw [hg]
        have := ih (n / 128) (by omega) i hi'
        refine ⟨fun h => this.1 (by omega), fun h => ⟨(this.2 (by omega)).1, fun _ => ?_⟩⟩
        rcases Nat.eq_zero_or_pos i with h0 | h0
        · subst h0
          have hlen : (varint (n / 128)).length = 1 := by omega
          have hlt : n / 128 < 128 := by
            rcases Nat.lt_or_ge (n / 128) 128 with hl | hl
            · exact hl
            · have e2 := varint_ge hl
              have := varint_pos (n / 128 / 128)
              rw [e2] at hlen
              simp only [List.length_cons] at hlen
              omega
          have e3 := varint_lt hlt
          have h9 : (varint (n / 128))[0] = UInt8.ofNat (n / 128) := by
            have h1 : (varint (n / 128))[0]? = some (UInt8.ofNat (n / 128)) := by rw [e3]; rfl
            rw [List.getElem?_eq_getElem hi'] at h1
            injection h1
          rw [h9, UInt8.toNat_ofNat']
          omega
        · exact (this.2 (by omega)).2 h0

/-- The bytes from i on, up to j, weighed. -/
def W (l : List UInt8) (j i : Nat) : Nat := weigh ((l.take j).drop i)
theorem W_end (l : List UInt8) (j : Nat) : W l j j = 0 := by
  unfold W
  rw [List.drop_of_length_le (by simp; omega)]
  rfl
theorem W_step (l : List UInt8) (j i : Nat) (hi : i < j) (hj : j ≤ l.length) : W l j i = W l j (i + 1) * 128 + (l[i]'(by omega)).toNat % 128 := by
  unfold W
  rw [List.drop_eq_getElem_cons (by simp; omega), weigh_cons]
  simp
theorem W_le (l : List UInt8) (j p : Nat) (hj : j ≤ l.length) : ∀ d, p + d ≤ j → W l j (p + d) ≤ W l j p
  | 0, _ => Nat.le_refl _
  | d + 1, h => by
    have := W_le l j p hj d (by omega)
    have h2 := W_step l j (p + d) (by omega) hj
    have : W l j (p + (d + 1)) ≤ W l j (p + d) := by rw [h2, Nat.add_assoc]; omega
    omega

theorem weighs {l : List UInt8} {p n j : Nat} (hp : p ≤ l.length) (h : getUint l p = (n, j, 0)) :
    p < j ∧ j ≤ l.length ∧ j ≤ p + 10 ∧ varint n = (l.take j).drop p ∧ W l j p = n ∧ (∀ i (hi : i < l.length), p ≤ i → i + 1 < j → 128 ≤ (l[i]).toNat) ∧
      ∃ x, l[j - 1]? = some x ∧ x.toNat < 128 ∧ (p + 1 < j → x.toNat ≠ 0) := by
  have hn : num (l.drop p) 0 0 = (n, j - p, 0) ∧ p ≤ j := by
    unfold getUint at h
    rw [if_neg (by omega)] at h
    rcases hq : num (l.drop (p : Int).toNat) 0 0 with ⟨a, b, e⟩
    rw [hq] at h
    simp only [Int.toNat_natCast] at h hq
    by_cases he : e = 0
    · simp only [he, if_true, Prod.mk.injEq] at h
      obtain ⟨rfl, rfl, _⟩ := h
      rw [hq, he, Nat.add_sub_cancel_left]
      exact ⟨rfl, by omega⟩
    · rw [if_neg he] at h
      simp only [Prod.mk.injEq] at h
      omega
  obtain ⟨v, hv, h1, h2, h3, _⟩ := varint_ind _ 0 0 n (j - p) hn.1
  simp only [Nat.mul_zero, Nat.pow_zero, Nat.mul_one, Nat.zero_add, Nat.sub_zero, List.length_drop] at hv h1 h2 h3
  subst hv
  have hfit := (num_fits _ 0 0 n (j - p) 0 (by omega) (by simp) hn.1).1
  have h10 := varint_len10 hfit
  have hlen : (varint n).length = j - p := by rw [← h3, List.length_take, List.length_drop]; omega
  have hsame : varint n = (l.take j).drop p := by
    rw [← h3, List.take_drop]
    congr 2
    omega
  have hget : ∀ i (hi : i < (varint n).length), (varint n)[i] = l[p + i]'(by omega) := by
    intro i hi
    have h9 : (varint n)[i]? = l[p + i]? := by
      rw [hsame, List.getElem?_drop, List.getElem?_take_of_lt (by omega)]
    rw [List.getElem?_eq_getElem hi, List.getElem?_eq_getElem (by omega)] at h9
    injection h9
  refine ⟨by omega, by omega, by omega, hsame, ?_, ?_, ?_⟩
  · unfold W
    rw [← hsame, weigh_varint]
  · intro i hi hpi hij
    have := (varint_get n (i - p) (by omega)).1 (by omega)
    rw [hget] at this
    simpa [show p + (i - p) = i by omega] using this
  · have := (varint_get n (j - p - 1) (by omega)).2 (by omega)
    rw [hget] at this
    refine ⟨l[j - 1]'(by omega), List.getElem?_eq_getElem _, ?_, ?_⟩
    · simpa [show p + (j - p - 1) = j - 1 by omega] using this.1
    · intro h
      simpa [show p + (j - p - 1) = j - 1 by omega] using this.2 (by omega)

theorem getUint_errs {l : List UInt8} {p : Nat} {n j e : Nat} (hp : p ≤ l.length) (h : getUint l p = (n, j, e)) : e = 0 ∨ e = 10 ∨ e = 11 := by
  have key : ∀ (l : List UInt8) (k a n j e : Nat), num l k a = (n, j, e) → e = 0 ∨ e = 10 ∨ e = 11 := by
    intro l
    induction l with
    | nil => intro k a n j e h; simp [num] at h; omega
    | cons c r ih =>
      intro k a n j e h
      by_cases h1 : (0 < k ∧ c.toNat = 0) ∨ (8 < k ∧ 1 < c.toNat)
      · rw [num_bad h1] at h; simp at h; omega
      · by_cases h2 : c.toNat < 128
        · rw [num_end h1 h2] at h; simp at h; omega
        · rw [num_step h1 (by omega)] at h; exact ih _ _ _ _ _ h
  unfold getUint at h
  rw [if_neg (by omega)] at h
  rcases hq : num (l.drop (p : Int).toNat) 0 0 with ⟨a, b, e'⟩
  rw [hq] at h
  have := key _ _ _ _ _ _ hq
  by_cases he : e' = 0
  · simp [he] at h; omega
  · simp [he] at h; omega

end Go.Proofs.Ytplahfhggnkahaa.P1
