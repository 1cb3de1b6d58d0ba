/- Layer 1: numbers and strings, sent and got. -/
import Derived.Test.YtplahfhggnkahaaC1
set_option linter.all false
namespace Go.Ab.D
open Go.P1

/-! Numbers -/
def uintF (tt : Int × List UInt8) : Option ((Int × List UInt8) ⊕ (Int × List UInt8)) := bytes_Uint_v1_l0 tt.1 tt.2
theorem uint_end {n : Nat} (h : n < 128) (l : List UInt8) : uintF ((n : Int), l) = some (.inr ((n : Int), l)) := by
  show bytes_Uint_v1_l0 (n : Int) l = _
  unfold bytes_Uint_v1_l0
  rw [decide_eq_false (by omega)]
  rfl
theorem uint_go {n : Nat} (h : 128 ≤ n) (hn : n < 18446744073709551616) (l : List UInt8) (hl : l.length + 1 ≤ 140737488355328) : uintF ((n : Int), l) = some (.inl (((n / 128 : Nat) : Int), l ++ [UInt8.ofNat (n % 128 + 128)])) := by
  show bytes_Uint_v1_l0 (n : Int) l = _
  unfold bytes_Uint_v1_l0
  have e1 : Int.tmod (n : Int) 128 = ((n % 128 : Nat) : Int) := rfl
  have e2 : Int.tdiv (n : Int) 128 = ((n / 128 : Nat) : Int) := rfl
  have hm : n % 128 < 128 := Nat.mod_lt _ (by omega)
  have e3 : IntKind.wrap .u8 (IntKind.wrap .u64 (((n % 128 : Nat) : Int) + 128)) = ((n % 128 + 128 : Nat) : Int) := by
    rw [wu64 ⟨by omega, by omega⟩, wu8 ⟨by omega, by omega⟩]; omega
  have e4 : IntKind.wrap .u64 ((n / 128 : Nat) : Int) = ((n / 128 : Nat) : Int) := wu64 ⟨by omega, by omega⟩
  rw [decide_eq_true (by omega), e1, e2, e3, e4, byte_nat (by omega)]
  simp only [cond_true, Option.bind_some]
  rw [need_true (by rw [Nat.mul_one, ble_true (by unfold room; omega)]; rfl)]
theorem uint_loop : ∀ (n m : Nat) (l : List UInt8), n < 18446744073709551616 → (varint n).length ≤ m → l.length + (varint n).length ≤ 140737488355328 →
    ∃ (c : Nat) (r : List UInt8), iter m uintF ((n : Int), l) = some ((c : Int), r) ∧ c < 128 ∧ r ++ [UInt8.ofNat c] = l ++ varint n := fun n => by
  induction n using Nat.strongRecOn with
  | _ n ih =>
    intro m l hn hm hl
    by_cases h : n < 128
    · rw [varint_lt h] at hm hl ⊢
      obtain ⟨m, rfl⟩ : ∃ k, m = k + 1 := ⟨m - 1, by simp at hm; omega⟩
      refine ⟨n, l, ?_, h, rfl⟩
      show (uintF _).ob _ = _
      rw [uint_end h]
      rfl
    · have h' : 128 ≤ n := by omega
      rw [varint_ge h'] at hm hl ⊢
      simp only [List.length_cons] at hm hl
      obtain ⟨m, rfl⟩ : ∃ k, m = k + 1 := ⟨m - 1, by omega⟩
      have hp := varint_pos (n / 128)
      obtain ⟨c, r, q1, q2, q3⟩ := ih (n / 128) (by omega) m (l ++ [UInt8.ofNat (n % 128 + 128)]) (by omega) (by omega) (by simp; omega)
      refine ⟨c, r, ?_, q2, by rw [q3]; simp⟩
      show (uintF _).ob _ = _
      rw [uint_go h' hn l (by omega)]
      exact q1
theorem uint_v1_is {n : Nat} (hn : n < 18446744073709551616) {l : List UInt8} (hl : l.length + 10 ≤ 140737488355328) : bytes_Uint_v1 (n : Int) l = some (l ++ varint n) := by
  unfold bytes_Uint_v1 bytes_Uint_v1_l0_it
  have h10 := varint_len10 hn
  obtain ⟨c, r, q1, q2, q3⟩ := uint_loop n fuel l hn (by unfold fuel; omega) (by omega)
  have q1' : iter fuel (fun tt => bytes_Uint_v1_l0 tt.1 tt.2) ((n : Int), l) = some ((c : Int), r) := q1
  have hr : r.length + 1 = l.length + (varint n).length := by
    have := congrArg List.length q3
    simpa using this
  rw [q1']
  simp only [Option.bind_some]
  rw [wu8 ⟨by omega, by omega⟩, byte_nat (by omega)]
  simp only [Option.bind_some]
  rw [need_true (by rw [Nat.mul_one, ble_true (by unfold room; omega)]; rfl), q3]
theorem uint_same (n : Int) : bytes_Uint n = bytes_Uint_v1 n [] := rfl
theorem uint_is {n : Nat} (hn : n < 18446744073709551616) : bytes_Uint (n : Int) = some (varint n) := by
  rw [uint_same, uint_v1_is hn (by simp)]
  rfl

/-! Lists of bytes laid end to end -/
theorem flat_take (ls : List (List UInt8)) (k : Nat) : (ls.take k).flatten.length ≤ ls.flatten.length := by
  have : ls.flatten = (ls.take k).flatten ++ (ls.drop k).flatten := by rw [← List.flatten_append, List.take_append_drop]
  rw [this, List.length_append]
  omega
theorem flat_succ {ls : List (List UInt8)} {k : Nat} (h : k < ls.length) : (ls.take (k + 1)).flatten = (ls.take k).flatten ++ ls[k] := by
  rw [List.take_succ_eq_append_getElem h, List.flatten_append]
  simp
theorem concat_is {ls : List (List UInt8)} (hn : ls.length < 1000000) (hl : ls.flatten.length ≤ 140737488355328) : slices_Concat__byte_byte ls = some ls.flatten := by
  unfold slices_Concat__byte_byte slices_Concat__byte_byte_l0_it slices_Concat__byte_byte_l1_it
  have s1 := iter_range (f := fun (tt : Int × Int) => slices_Concat__byte_byte_l0 ls tt.1 tt.2) (o := ((ls.flatten.length : Nat) : Int)) (fun k => ((((ls.take k).flatten.length : Nat) : Int), (k : Int))) ls.length (by omega)
    (fun k hk => by
      have h1 := flat_take ls (k + 1)
      rw [flat_succ hk, List.length_append] at h1
      show slices_Concat__byte_byte_l0 ls ((((ls.take k).flatten.length : Nat) : Int)) (k : Int) = _
      unfold slices_Concat__byte_byte_l0
      rw [decide_eq_true (by omega), idx_nat hk]
      simp only [cond_true, Option.bind_some, List.getElem?_eq_getElem hk]
      rw [w64 ⟨by omega, by omega⟩, decide_eq_false (by omega), w64 ⟨by omega, by omega⟩, flat_succ hk, List.length_append]
      simp)
    (by
      show slices_Concat__byte_byte_l0 ls _ ((ls.length : Nat) : Int) = _
      unfold slices_Concat__byte_byte_l0
      rw [decide_eq_false (by omega), List.take_length]
      rfl)
  have s1' : iter fuel (fun (tt : Int × Int) => slices_Concat__byte_byte_l0 ls tt.1 tt.2) ((0 : Int), (0 : Int)) = some ((ls.flatten.length : Nat) : Int) := s1
  have sg : slices_Grow__byte_byte ((ls.flatten.length : Nat) : Int) = some [] := by
    unfold slices_Grow__byte_byte
    rw [decide_eq_false (by omega)]
    simp only [cond_false]
    by_cases h0 : ls.flatten.length = 0
    · rw [decide_eq_false (by rw [w64 ⟨by omega, by omega⟩]; omega)]
      rfl
    · have e : IntKind.wrap .i64 (((ls.flatten.length : Nat) : Int) - 0) = ((ls.flatten.length : Nat) : Int) := by rw [w64 ⟨by omega, by omega⟩]; omega
      rw [e, decide_eq_true (by omega), upto_nat (show ls.flatten.length ≤ room from hl)]
      simp only [cond_true, Option.bind_some]
      rw [need_true (by rw [Nat.mul_one, ble_true (show ls.flatten.length ≤ room from hl)]; rfl)]
      have e0 : ∀ m, upto? 0 m = some 0 := fun m => upto_nat (i := 0) (Nat.zero_le m)
      rw [e0]
      rfl
  have s2 := iter_range (f := fun (tt : Int × List UInt8) => slices_Concat__byte_byte_l1 ls tt.1 tt.2) (o := ls.flatten) (fun k => ((k : Int), (ls.take k).flatten)) ls.length (by omega)
    (fun k hk => by
      have h1 := flat_take ls (k + 1)
      rw [flat_succ hk, List.length_append] at h1
      show slices_Concat__byte_byte_l1 ls (k : Int) (ls.take k).flatten = _
      unfold slices_Concat__byte_byte_l1
      rw [decide_eq_true (by omega), idx_nat hk]
      simp only [cond_true, Option.bind_some, List.getElem?_eq_getElem hk]
      rw [need_true (by rw [Nat.mul_one, ble_true (by unfold room; omega)]; rfl), w64 ⟨by omega, by omega⟩, flat_succ hk]
      rfl)
    (by
      show slices_Concat__byte_byte_l1 ls ((ls.length : Nat) : Int) _ = _
      unfold slices_Concat__byte_byte_l1
      rw [decide_eq_false (by omega), List.take_length]
      rfl)
  have s2' : iter fuel (fun (tt : Int × List UInt8) => slices_Concat__byte_byte_l1 ls tt.1 tt.2) ((0 : Int), []) = some ls.flatten := s2
  rw [s1']
  simp only [Option.bind_some, sg, s2']
theorem blob_v1_is {b h : List UInt8} (hl : h.length + b.length + 10 ≤ 140737488355328) : bytes_Blob_v1 b h = some (h ++ varint b.length ++ b) := by
  unfold bytes_Blob_v1
  have hb := varint_len10 (n := b.length) (by omega)
  rw [wu64 ⟨by omega, by omega⟩, uint_v1_is (by omega) (by omega)]
  simp only [Option.bind_some]
  rw [concat_is (by simp) (by simp; omega)]
  simp

/-! What comes -/
def getF (b : List UInt8) (at_ : Int) (tt : Int × Int) : Option ((Int × Int) ⊕ (Unit ⊕ (Int × (Int × Int)))) := bytes_GetUint_l0 b at_ tt.1 tt.2
def getRes (at_ : Nat) (r : Nat × Nat × Nat) : Unit ⊕ (Int × (Int × Int)) := if r.2.2 = 11 then .inl () else if r.2.2 = 0 then .inr ((r.1 : Int), (((at_ + r.2.1 : Nat) : Int), 0)) else .inr (0, (0, ((r.2.2 : Nat) : Int)))
theorem get_step {b : List UInt8} {at_ k n : Nat} (hb : b.length < 4611686018427387904) (hk : k ≤ 9) (hn : n < 2 ^ (7 * k)) (hlt : at_ + k < b.length) (hc : b[at_ + k].toNat % 128 = b[at_ + k].toNat % 128) :
    getF b (at_ : Int) ((n : Int), ((at_ + k : Nat) : Int)) =
      if (0 < k ∧ b[at_ + k].toNat = 0) ∨ (8 < k ∧ 1 < b[at_ + k].toNat) then some (.inr (.inr (0, (0, 10))))
      else if b[at_ + k].toNat < 128 then some (.inr (.inr (((n + b[at_ + k].toNat % 128 * 2 ^ (7 * k) : Nat) : Int), (((at_ + k + 1 : Nat) : Int), 0))))
      else some (.inl (((n + b[at_ + k].toNat % 128 * 2 ^ (7 * k) : Nat) : Int), ((at_ + k + 1 : Nat) : Int))) := by
  show bytes_GetUint_l0 b (at_ : Int) (n : Int) ((at_ + k : Nat) : Int) = _
  unfold bytes_GetUint_l0
  obtain ⟨c, hcc⟩ : ∃ c, b[at_ + k] = c := ⟨_, rfl⟩
  have hc8 := c.toNat_lt
  have e1 : IntKind.wrap .i64 (((at_ + k : Nat) : Int) - (at_ : Int)) = (k : Int) := by rw [w64 ⟨by omega, by omega⟩]; omega
  rw [decide_eq_true (by omega), idx_nat hlt]
  simp only [cond_true, Option.bind_some, List.getElem?_eq_getElem hlt, hcc, e1]
  have hz : (((c.toNat : Nat) : Int) == 0) = decide (c.toNat = 0) := by
    by_cases h : c.toNat = 0
    · simp [h]
    · rw [decide_eq_false h, beq_eq_false_iff_ne]; omega
  have e7 : IntKind.wrap .i64 (7 * (k : Int)) = ((7 * k : Nat) : Int) := by rw [w64 ⟨by omega, by omega⟩]; omega
  have em : min ((7 * k : Nat) : Int).toNat 64 = 7 * k := by omega
  have et : Int.tmod ((c.toNat : Nat) : Int) 128 = ((c.toNat % 128 : Nat) : Int) := rfl
  have hm : c.toNat % 128 < 128 := Nat.mod_lt _ (by omega)
  have ewu : IntKind.wrap .u64 ((c.toNat % 128 : Nat) : Int) = ((c.toNat % 128 : Nat) : Int) := wu64 ⟨by omega, by omega⟩
  by_cases hbad : (0 < k ∧ c.toNat = 0) ∨ (8 < k ∧ 1 < c.toNat)
  · rw [if_pos hbad]
    rcases hbad with ⟨h1, h2⟩ | ⟨h1, h2⟩
    · rw [decide_eq_true (show (k : Int) > 0 by omega), hz, decide_eq_true h2]
      rfl
    · rw [decide_eq_true (show (k : Int) > 0 by omega), hz, decide_eq_false (by omega), decide_eq_true (show (k : Int) > 8 by omega), decide_eq_true (show ((c.toNat : Nat) : Int) > 1 by omega)]
      rfl
  · rw [if_neg hbad]
    have hroom := P1.room n c.toNat k hk hn (fun h8 => by omega)
    have ep : ((c.toNat % 128 : Nat) : Int) * 2 ^ (7 * k) = ((c.toNat % 128 * 2 ^ (7 * k) : Nat) : Int) := by simp
    have ew : IntKind.wrap .u64 ((n : Int) + IntKind.wrap .u64 (IntKind.wrap .u64 ((c.toNat % 128 : Nat) : Int) * 2 ^ (min (IntKind.wrap .i64 (7 * (k : Int))).toNat 64))) = ((n + c.toNat % 128 * 2 ^ (7 * k) : Nat) : Int) := by
      rw [ewu, e7, em, ep, wu64 (x := ((c.toNat % 128 * 2 ^ (7 * k) : Nat) : Int)) ⟨by omega, by omega⟩, wu64 ⟨by omega, by omega⟩]
      omega
    have hguard : (bif decide ((k : Int) > 0) then bif decide (c.toNat = 0) then some true else bif decide ((k : Int) > 8) then some (decide (((c.toNat : Nat) : Int) > 1)) else some false
        else bif decide ((k : Int) > 8) then some (decide (((c.toNat : Nat) : Int) > 1)) else some false) = some false := by
      by_cases h0 : 0 < k
      · have : ¬ c.toNat = 0 := fun h => hbad (.inl ⟨h0, h⟩)
        rw [decide_eq_true (show (k : Int) > 0 by omega), decide_eq_false this]
        by_cases h8 : 8 < k
        · have : ¬ 1 < c.toNat := fun h => hbad (.inr ⟨h8, h⟩)
          rw [decide_eq_true (show (k : Int) > 8 by omega), decide_eq_false (show ¬ ((c.toNat : Nat) : Int) > 1 by omega)]
          rfl
        · rw [decide_eq_false (show ¬ (k : Int) > 8 by omega)]
          rfl
      · rw [decide_eq_false (show ¬ (k : Int) > 0 by omega), decide_eq_false (show ¬ (k : Int) > 8 by omega)]
        rfl
    rw [hz, hguard]
    simp only [Option.bind_some, cond_false, et, ew]
    have ex : IntKind.wrap .i64 (((at_ + k : Nat) : Int) + 1) = ((at_ + k + 1 : Nat) : Int) := by rw [w64 ⟨by omega, by omega⟩]; omega
    rw [e7, need_true (decide_eq_true (by omega)), ex]
    by_cases h128 : c.toNat < 128
    · rw [if_pos h128, decide_eq_true (show ((c.toNat : Nat) : Int) < 128 by omega)]
      rfl
    · rw [if_neg h128, decide_eq_false (show ¬ ((c.toNat : Nat) : Int) < 128 by omega)]
      rfl
theorem get_loop {b : List UInt8} {at_ : Nat} (hb : b.length < 4611686018427387904) : ∀ (rem k n m : Nat), at_ + k + rem = b.length → rem < m → k ≤ 9 → n < 2 ^ (7 * k) →
    iter m (getF b (at_ : Int)) ((n : Int), ((at_ + k : Nat) : Int)) = some (getRes at_ (num (b.drop (at_ + k)) k n))
  | 0, k, n, m, h, hm, hk, hn => by
    obtain ⟨m, rfl⟩ : ∃ j, m = j + 1 := ⟨m - 1, by omega⟩
    have : b.drop (at_ + k) = [] := List.drop_of_length_le (by omega)
    rw [this]
    show (getF b (at_ : Int) _).ob _ = _
    have e : getF b (at_ : Int) ((n : Int), ((at_ + k : Nat) : Int)) = some (.inr (.inl ())) := by
      show bytes_GetUint_l0 b (at_ : Int) (n : Int) ((at_ + k : Nat) : Int) = _
      unfold bytes_GetUint_l0
      rw [decide_eq_false (by omega)]
      rfl
    rw [e]
    rfl
  | rem + 1, k, n, m, h, hm, hk, hn => by
    obtain ⟨m, rfl⟩ : ∃ j, m = j + 1 := ⟨m - 1, by omega⟩
    have hlt : at_ + k < b.length := by omega
    rw [drop_at hlt]
    show (getF b (at_ : Int) _).ob _ = _
    rw [get_step hb hk hn hlt rfl]
    by_cases hbad : (0 < k ∧ b[at_ + k].toNat = 0) ∨ (8 < k ∧ 1 < b[at_ + k].toNat)
    · rw [if_pos hbad, num_bad hbad]
      rfl
    · rw [if_neg hbad]
      by_cases h128 : b[at_ + k].toNat < 128
      · rw [if_pos h128, num_end hbad h128]
        show some _ = some _
        simp [getRes]
        omega
      · rw [if_neg h128, num_step hbad (by omega)]
        have hroom := P1.room n b[at_ + k].toNat k hk hn (fun h8 => by omega)
        have hk8 : k ≤ 8 := by
          by_cases h9 : k ≤ 8
          · exact h9
          · exfalso; exact hbad (.inr ⟨by omega, by omega⟩)
        have := get_loop (at_ := at_) hb rem (k + 1) (n + b[at_ + k].toNat % 128 * 2 ^ (7 * k)) m (by omega) (by omega) (by omega) (hroom.2 hk8)
        exact this
/-- What a place of bytes tells, as the program tells it. -/
theorem getUint_is {b : List UInt8} {at_ : Int} (hb : b.length < 4611686018427387904) : bytes_GetUint b at_ = some ((((getUint b at_).1 : Nat) : Int), ((((getUint b at_).2.1 : Nat) : Int), (((getUint b at_).2.2 : Nat) : Int))) := by
  unfold bytes_GetUint
  by_cases hout : at_ < 0 ∨ (b.length : Int) < at_
  · rw [getUint_out hout]
    rcases hout with h | h
    · rw [decide_eq_true h]
      rfl
    · by_cases h0 : at_ < 0
      · rw [decide_eq_true h0]; rfl
      · rw [decide_eq_false h0, decide_eq_true (show at_ > ((b.length : Nat) : Int) by omega)]
        rfl
  · obtain ⟨a, rfl⟩ : ∃ a : Nat, at_ = a := ⟨at_.toNat, by omega⟩
    rw [decide_eq_false (by omega), decide_eq_false (by omega)]
    simp only [cond_false, Option.bind_some]
    unfold bytes_GetUint_l0_it
    have hl : iter fuel (fun tt => bytes_GetUint_l0 b (a : Int) tt.1 tt.2) ((0 : Int), (a : Int)) = some (getRes a (num (b.drop a) 0 0)) :=
      get_loop hb (b.length - a) 0 0 fuel (by omega) (by unfold fuel; omega) (by omega) (by decide)
    rw [hl]
    simp only [Option.bind_some]
    obtain ⟨n, j, e, hnum⟩ : ∃ n j e, num (b.drop a) 0 0 = (n, j, e) := ⟨_, _, _, rfl⟩
    have hg : getUint b (a : Int) = if e = 0 then (n, a + j, 0) else (0, 0, e) := by
      unfold getUint
      rw [if_neg (by omega)]
      simp only [Int.toNat_natCast, hnum]
    rw [hg, hnum]
    unfold getRes
    by_cases h11 : e = 11
    · subst h11; rfl
    · by_cases h0 : e = 0
      · subst h0; rfl
      · simp only [h11, h0, if_false]
        rfl
theorem getBlob_is {b : List UInt8} {at_ most : Int} (hb : b.length ≤ 140737488355328) (hm : most ≤ 9223372036854775807) : bytes_GetBlob b at_ most = some ((((getBlob b at_ most).2.1 : Nat) : Int), ((((getBlob b at_ most).2.2 : Nat) : Int), (getBlob b at_ most).1)) := by
  unfold bytes_GetBlob
  rw [getUint_is (by omega)]
  simp only [Option.bind_some]
  obtain ⟨n, j, e, hu⟩ : ∃ n j e, getUint b at_ = (n, j, e) := ⟨_, _, _, rfl⟩
  have hfit := getUint_fits b at_
  rw [hu] at hfit ⊢
  simp only at hfit ⊢
  by_cases he : e = 0
  · subst he
    have e0 : (!(((0 : Nat) : Int) == 0)) = false := rfl
    rw [e0]
    simp only [cond_false]
    by_cases hmost : most < 0 ∨ most < n
    · rw [getBlob_long hu hmost]
      by_cases h0 : most < 0
      · rw [decide_eq_true h0]; rfl
      · rw [decide_eq_false h0, wu64 ⟨by omega, by omega⟩, decide_eq_true (show ((n : Nat) : Int) > most by omega)]
        rfl
    · rw [decide_eq_false (show ¬ most < 0 by omega), wu64 (x := most) ⟨by omega, by omega⟩, decide_eq_false (show ¬ ((n : Nat) : Int) > most by omega)]
      simp only [cond_false, Option.bind_some]
      have hj : j ≤ b.length := hfit.2.1
      rw [w64 (x := ((b.length : Nat) : Int) - (j : Int)) ⟨by omega, by omega⟩, wu64 ⟨by omega, by omega⟩]
      by_cases hs : b.length - j < n
      · rw [getBlob_short hu hmost hs, decide_eq_true (by omega)]
        rfl
      · rw [getBlob_ok hu hmost hs, decide_eq_false (by omega), upto_nat hj]
        simp only [cond_false, Option.bind_some]
        have hnl : n ≤ (List.drop j b).length := by rw [List.length_drop]; omega
        rw [upto_nat hnl]
        simp only [Option.bind_some]
        have hl : (List.take n (List.drop j b)).length = n := by rw [List.length_take]; omega
        rw [clone_is (by rw [hl]; unfold room; omega)]
        simp only [Option.bind_some, hl]
        rw [w64 ⟨by omega, by omega⟩]
        rfl
  · have e0 : (!(((e : Nat) : Int) == 0)) = true := by
      have : (((e : Nat) : Int) == 0) = false := by rw [beq_eq_false_iff_ne]; omega
      rw [this]; rfl
    rw [getBlob_err hu he, e0]
    rfl
end Go.Ab.D
