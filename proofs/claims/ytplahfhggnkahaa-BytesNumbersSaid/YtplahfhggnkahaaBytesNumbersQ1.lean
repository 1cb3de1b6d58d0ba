/- What the functions compute; the plain law. -/
import Derived.Test.YtplahfhggnkahaaBytesNumbersD1
import Derived.Test.YtplahfhggnkahaaBytesNumbersP1
set_option linter.all false
/- Tools for plain proofs about decompiled functions: numbers in bounds, indexes, loops. -/
namespace Go.Ab

/-! Numbers in bounds -/
theorem w64 {x : Int} (h : -9223372036854775808 ≤ x ∧ x ≤ 9223372036854775807) : IntKind.wrap .i64 x = x := by
  simp only [IntKind.wrap, IntKind.bits, IntKind.signed]; simp; omega
theorem wu64 {x : Int} (h : 0 ≤ x ∧ x ≤ 18446744073709551615) : IntKind.wrap .u64 x = x := by
  simp only [IntKind.wrap, IntKind.bits, IntKind.signed]; simp; omega
theorem wu32 {x : Int} (h : 0 ≤ x ∧ x ≤ 4294967295) : IntKind.wrap .u32 x = x := by
  simp only [IntKind.wrap, IntKind.bits, IntKind.signed]; simp; omega
theorem wu16 {x : Int} (h : 0 ≤ x ∧ x ≤ 65535) : IntKind.wrap .u16 x = x := by
  simp only [IntKind.wrap, IntKind.bits, IntKind.signed]; simp; omega
theorem wu8 {x : Int} (h : 0 ≤ x ∧ x ≤ 255) : IntKind.wrap .u8 x = x := by
  simp only [IntKind.wrap, IntKind.bits, IntKind.signed]; simp; omega
theorem wu8_mod (x : Int) : IntKind.wrap .u8 x = x % 256 := by
  simp only [IntKind.wrap, IntKind.bits, IntKind.signed]; simp
theorem wu32_mod (x : Int) : IntKind.wrap .u32 x = x % 4294967296 := by
  simp only [IntKind.wrap, IntKind.bits, IntKind.signed]; simp
theorem wu64_mod (x : Int) : IntKind.wrap .u64 x = x % 18446744073709551616 := by
  simp only [IntKind.wrap, IntKind.bits, IntKind.signed]; simp
theorem bv_nat (n a : Nat) (h : a < 2 ^ n) : BitVec.ofInt n (a : Int) = BitVec.ofNat n a := by simp
theorem bits_xor (k : IntKind) {a b : Nat} (ha : a < 2 ^ k.bits) (hb : b < 2 ^ k.bits) (hw : ∀ x : Int, 0 ≤ x ∧ x < 2 ^ k.bits → k.wrap x = x) : bitsI .xor k a b = ((a ^^^ b : Nat) : Int) := by
  have h := Nat.xor_lt_two_pow ha hb
  simp only [bitsI, BitVec.ofInt_natCast, ← BitVec.ofNat_xor, BitVec.toNat_ofNat, Nat.mod_eq_of_lt h]
  exact hw _ ⟨by omega, by exact_mod_cast h⟩
theorem bits_or (k : IntKind) {a b : Nat} (ha : a < 2 ^ k.bits) (hb : b < 2 ^ k.bits) (hw : ∀ x : Int, 0 ≤ x ∧ x < 2 ^ k.bits → k.wrap x = x) : bitsI .or k a b = ((a ||| b : Nat) : Int) := by
  have h := Nat.or_lt_two_pow ha hb
  simp only [bitsI, BitVec.ofInt_natCast, ← BitVec.ofNat_or, BitVec.toNat_ofNat, Nat.mod_eq_of_lt h]
  exact hw _ ⟨by omega, by exact_mod_cast h⟩
theorem bits_and (k : IntKind) {a b : Nat} (ha : a < 2 ^ k.bits) (hb : b < 2 ^ k.bits) (hw : ∀ x : Int, 0 ≤ x ∧ x < 2 ^ k.bits → k.wrap x = x) : bitsI .and k a b = ((a &&& b : Nat) : Int) := by
  have h := Nat.and_lt_two_pow (y := b) a hb
  simp only [bitsI, BitVec.ofInt_natCast, ← BitVec.ofNat_and, BitVec.toNat_ofNat, Nat.mod_eq_of_lt h]
  exact hw _ ⟨by omega, by exact_mod_cast h⟩
theorem xor8 {a b : Nat} (ha : a < 256) (hb : b < 256) : bitsI .xor .u8 a b = ((a ^^^ b : Nat) : Int) := bits_xor .u8 ha hb fun x h => wu8 ⟨h.1, by have := h.2; simp [IntKind.bits] at this; omega⟩
theorem xor32 {a b : Nat} (ha : a < 4294967296) (hb : b < 4294967296) : bitsI .xor .u32 a b = ((a ^^^ b : Nat) : Int) := bits_xor .u32 ha hb fun x h => wu32 ⟨h.1, by have := h.2; simp [IntKind.bits] at this; omega⟩
theorem and32 {a b : Nat} (ha : a < 4294967296) (hb : b < 4294967296) : bitsI .and .u32 a b = ((a &&& b : Nat) : Int) := bits_and .u32 ha hb fun x h => wu32 ⟨h.1, by have := h.2; simp [IntKind.bits] at this; omega⟩
theorem fdiv_nat (a b : Nat) : Int.fdiv (a : Int) (b : Int) = ((a / b : Nat) : Int) := by
  rw [Int.fdiv_eq_ediv_of_nonneg _ (by omega)]; rfl

/-! Indexes -/
theorem idx_nat {i n : Nat} (h : i < n) : idx? (i : Int) n = some i := by simp [idx?, h]
theorem idx_int {x : Int} {n : Nat} (h0 : 0 ≤ x) (h : x < n) : idx? x n = some x.toNat := by simp [idx?, h0, h]
theorem upto_nat {i n : Nat} (h : i ≤ n) : upto? (i : Int) n = some i := by simp [upto?, h]
theorem upto_int {x : Int} {n : Nat} (h0 : 0 ≤ x) (h : x ≤ n) : upto? x n = some x.toNat := by simp [upto?, h0, h]
theorem byte_nat {n : Nat} (h : n < 256) : byte? (n : Int) = some (UInt8.ofNat n) := by
  have : (n : Int) < 256 := by omega
  simp [byte?, this]
theorem need_true {β : Type} {b : Bool} {K : Option β} (h : b = true) : need b K = K := by subst h; rfl
theorem ble_true {a b : Nat} (h : a ≤ b) : Nat.ble a b = true := Nat.ble_eq_true_of_le h
theorem nilQ_same {β : Type} {n : Nat} {K : Bool → Option β} (h : n = 0 → K true = K false) : nilQ n K = K false := by
  unfold nilQ
  rw [if_pos h]
theorem roomIs : room = 140737488355328 := rfl

/-! Loops -/
theorem fuel_big {n : Nat} (h : n < 4611686018427387904) : ∃ m, fuel = m + (n + 1) := ⟨4611686018427387903 - n, by unfold fuel; omega⟩
theorem iter_steps {τ ο : Type} {f : τ → Option (τ ⊕ ο)} (S : Nat → τ) : ∀ (n m : Nat), (∀ k, k < n → f (S k) = some (.inl (S (k + 1)))) → iter (m + n) f (S 0) = iter m f (S n)
  | 0, m, _ => rfl
  | n + 1, m, h => by
    have e : m + (n + 1) = (m + 1) + n := by omega
    rw [e, iter_steps S n (m + 1) fun k hk => h k (by omega)]
    show (f (S n)).ob _ = _
    rw [h n (by omega)]
    rfl
/-- A loop of n rounds. -/
theorem iter_range {τ ο : Type} {f : τ → Option (τ ⊕ ο)} {o : ο} (S : Nat → τ) (n : Nat) (hn : n < 4611686018427387904) (hs : ∀ k, k < n → f (S k) = some (.inl (S (k + 1)))) (he : f (S n) = some (.inr o)) : iter fuel f (S 0) = some o := by
  obtain ⟨m, hm⟩ := fuel_big hn
  have e : fuel = (m + 1) + n := by omega
  rw [e, iter_steps S n (m + 1) hs]
  show (f (S n)).ob _ = _
  rw [he]
  rfl
/-- A loop by a relation between its state and what is yet to do. -/
theorem iter_rel {τ ο : Type} {f : τ → Option (τ ⊕ ο)} {o : ο} (I : Nat → τ → Prop) (hs : ∀ n s, I (n + 1) s → ∃ s', f s = some (.inl s') ∧ I n s') (he : ∀ s, I 0 s → f s = some (.inr o)) : ∀ (n : Nat) (s : τ), n < 4611686018427387904 → I n s → iter fuel f s = some o := by
  have main : ∀ (n m : Nat) (s : τ), n < m → I n s → iter m f s = some o := fun n => by
    induction n with
    | zero =>
      intro m s hm hi
      obtain ⟨m, rfl⟩ : ∃ k, m = k + 1 := ⟨m - 1, by omega⟩
      show (f s).ob _ = _
      rw [he s hi]
      rfl
    | succ n ih =>
      intro m s hm hi
      obtain ⟨m, rfl⟩ : ∃ k, m = k + 1 := ⟨m - 1, by omega⟩
      obtain ⟨s', h1, h2⟩ := hs n s hi
      show (f s).ob _ = _
      rw [h1]
      exact ih m s' (by omega) h2
  exact fun n s hn hi => main n fuel s hn hi
/-! Loops, step by step -/
theorem iter_inl {τ ο : Type} {f : τ → Option (τ ⊕ ο)} {s s' : τ} {n : Nat} (h : f s = some (.inl s')) : iter (n + 1) f s = iter n f s' := by
  show (f s).ob _ = _
  rw [h]
  rfl
theorem iter_inr {τ ο : Type} {f : τ → Option (τ ⊕ ο)} {s : τ} {o : ο} {n : Nat} (h : f s = some (.inr o)) : iter (n + 1) f s = some o := by
  show (f s).ob _ = _
  rw [h]
  rfl
theorem fuelS (n : Nat) (h : n < 4611686018427387904) : ∃ m, fuel = m + n + 1 := ⟨4611686018427387903 - n, by unfold fuel; omega⟩
/-- A loop, by a relation; what comes out is told by a property. -/
theorem iter_ex {τ ο : Type} {f : τ → Option (τ ⊕ ο)} (I : Nat → τ → Prop) (Q : ο → Prop) (hs : ∀ n s, I (n + 1) s → (∃ s', f s = some (.inl s') ∧ I n s') ∨ ∃ o, f s = some (.inr o) ∧ Q o) (he : ∀ s, I 0 s → ∃ o, f s = some (.inr o) ∧ Q o) : ∀ (n : Nat) (s : τ), n < 4611686018427387904 → I n s → ∃ o, iter fuel f s = some o ∧ Q o := by
  have main : ∀ (n m : Nat) (s : τ), n < m → I n s → ∃ o, iter m f s = some o ∧ Q o := fun n => by
    induction n with
    | zero =>
      intro m s hm hi
      obtain ⟨m, rfl⟩ : ∃ k, m = k + 1 := ⟨m - 1, by omega⟩
      obtain ⟨o, h1, h2⟩ := he s hi
      exact ⟨o, iter_inr h1, h2⟩
    | succ n ih =>
      intro m s hm hi
      obtain ⟨m, rfl⟩ : ∃ k, m = k + 1 := ⟨m - 1, by omega⟩
      rcases hs n s hi with ⟨s', h1, h2⟩ | ⟨o, h1, h2⟩
      · rw [iter_inl h1]
        exact ih m s' (by omega) h2
      · exact ⟨o, iter_inr h1, h2⟩
  exact fun n s hn hi => main n fuel s hn hi
theorem bind_ex {α β : Type} {x : Option α} {k : α → Option β} (R : Option β → Prop) (P : α → Prop) (h : ∃ v, x = some v ∧ P v) (hk : ∀ v, P v → R (k v)) : R (x.bind k) := by
  obtain ⟨v, rfl, hv⟩ := h
  exact hk v hv
theorem iter_fuel_inr {τ ο : Type} {f : τ → Option (τ ⊕ ο)} {s : τ} {o : ο} (h : f s = some (.inr o)) : iter fuel f s = some o := by
  obtain ⟨n, hn⟩ := fuelS 0 (by omega)
  rw [hn]
  exact iter_inr h
end Go.Ab

/- Layer 1: what the decompiled functions are. -/
namespace Go.Ab.D
open Go.P1

/-- A table as the program holds it. -/
def tabI (T : List Nat) : List Int := T.map fun (n : Nat) => (n : Int)
theorem tabI_len (T : List Nat) : (tabI T).length = T.length := by simp [tabI]
theorem tabI_get {T : List Nat} (h : Tab T) {i : Nat} (hi : i < 256) : (tabI T)[i]? = some ((T.getD i 0 : Nat) : Int) := by
  have : i < T.length := by rw [h.1]; exact hi
  simp [tabI, this]
theorem table_is : bytes_Table fuel = some (tabI crcT) := by kernel_rfl

theorem sum_step {T : List Nat} (h : Tab T) {b : List UInt8} (s k : Nat) (hk : k < b.length) (hb : b.length < 9223372036854775807) (hs : s < 4294967296) :
    bytes_Sum_l0 fuel b (tabI T) (s : Int) (k : Int) = some (.inl (((P1.step T s b[k] : Nat) : Int), ((k + 1 : Nat) : Int))) := by
  unfold bytes_Sum_l0
  have h1 : decide ((k : Int) < ((b.length : Nat) : Int)) = true := decide_eq_true (by omega)
  have hc := b[k].toNat_lt
  have hm : s % 256 < 256 := Nat.mod_lt _ (by omega)
  have hx : s % 256 ^^^ b[k].toNat < 256 := xor_lt8 hm hc
  have e1 : IntKind.wrap .u8 (s : Int) = ((s % 256 : Nat) : Int) := by rw [wu8_mod]; omega
  have e2 : Int.fdiv (s : Int) 256 = ((s / 256 : Nat) : Int) := fdiv_nat s 256
  have e3 : IntKind.wrap .i64 ((k : Int) + 1) = ((k + 1 : Nat) : Int) := by rw [w64 ⟨by omega, by omega⟩]; omega
  have ht := h.lt (s % 256 ^^^ b[k].toNat)
  simp only [h1, cond_true, idx_nat hk, Option.bind_some, List.getElem?_eq_getElem hk, e1, xor8 hm hc, idx_nat hx, tabI_get h hx, e2, xor32 ht (show s / 256 < 4294967296 by omega), e3]
  rw [P1.step, Nat.xor_comm]
theorem sum_is {T : List Nat} (h : Tab T) {b : List UInt8} (hb : b.length < 4611686018427387904) : bytes_Sum fuel (tabI T) b = some ((P1.sum T b : Nat) : Int) := by
  unfold bytes_Sum bytes_Sum_l0_it
  have e : iter fuel (fun tt => bytes_Sum_l0 fuel b (tabI T) tt.1 tt.2) (4294967295, 0) = some ((P1.run T 4294967295 b : Nat) : Int) := by
    have := iter_range (f := fun (tt : Int × Int) => bytes_Sum_l0 fuel b (tabI T) tt.1 tt.2) (o := ((P1.run T 4294967295 b : Nat) : Int)) (fun k => (((P1.run T 4294967295 (b.take k) : Nat) : Int), (k : Int))) b.length hb
      (fun k hk => by
        rw [sum_step h _ k hk (by omega) (P1.run_lt h _ (by omega))]
        rw [List.take_succ_eq_append_getElem hk, P1.run_snoc])
      (by
        simp only [List.take_length]
        unfold bytes_Sum_l0
        rw [decide_eq_false (by omega)]
        rfl)
    simpa [P1.run] using this
  rw [e]
  have hl := P1.run_lt h b (s := 4294967295) (by omega)
  simp only [Option.bind_some]
  rw [wu32 ⟨by omega, by omega⟩]
  congr 1
  unfold P1.sum
  omega
theorem copy_is {b : List UInt8} (h : b.length ≤ room) : low_CopyBytes fuel b = some b := by
  unfold low_CopyBytes
  rw [need_true (by rw [Nat.mul_one, ble_true h]; rfl)]
theorem clone_is {b : List UInt8} (h : b.length ≤ room) : slices_Clone__byte_byte fuel b = some b := by
  unfold slices_Clone__byte_byte
  have hn : need (Nat.ble ((0 + b.length) * 1) room && Nat.ble (0 + b.length) room) (some b) = some b := need_true (by rw [Nat.zero_add, Nat.mul_one, ble_true h]; rfl)
  rw [nilQ_same (fun h0 => by
    have : b = [] := List.eq_nil_of_length_eq_zero h0
    subst this
    rw [hn]
    rfl)]
  rw [hn]
  rfl
theorem seal_is {T : List Nat} (h : Tab T) {b : List UInt8} (hb : b.length + 4 ≤ 140737488355328) : bytes_Seal fuel (tabI T) b = some (sealed (P1.sum T) b) := by
  have hs := P1.sum_lt T b
  have e0 : IntKind.wrap .i64 (((b.length : Nat) : Int) + 4) = ((b.length + 4 : Nat) : Int) := by rw [w64 ⟨by omega, by omega⟩]; omega
  unfold bytes_Seal
  rw [e0, upto_nat (show b.length + 4 ≤ room from hb)]
  simp only [Option.bind_some]
  rw [upto_nat (Nat.le_refl _)]
  simp only [Option.bind_some]
  rw [need_true (by rw [Nat.mul_one, ble_true (show b.length + 4 ≤ room from hb)]), sum_is h (by omega)]
  simp only [Option.bind_some]
  have e : bytes_Seal_l0_it fuel b ((P1.sum T b : Nat) : Int) (0, List.replicate (b.length + 4) 0) = some (laid4 b.length (P1.sum T b) 4) := by
    unfold bytes_Seal_l0_it
    have := iter_range (f := fun (tt : Int × List UInt8) => bytes_Seal_l0 fuel b ((P1.sum T b : Nat) : Int) tt.1 tt.2) (o := laid4 b.length (P1.sum T b) 4) (fun k => ((k : Int), laid4 b.length (P1.sum T b) k)) 4 (by decide)
      (fun k hk => by
        have hlen := laid4_len b.length (P1.sum T b) k (by omega)
        have e1 : IntKind.wrap .i64 (8 * (k : Int)) = ((8 * k : Nat) : Int) := by rw [w64 ⟨by omega, by omega⟩]; omega
        have e2 : IntKind.wrap .i64 (IntKind.wrap .i64 (((b.length + 4 : Nat) : Int) - 1) - (k : Int)) = ((b.length + 3 - k : Nat) : Int) := by
          rw [w64 (x := ((b.length + 4 : Nat) : Int) - 1) ⟨by omega, by omega⟩, w64 ⟨by omega, by omega⟩]; omega
        have e3 : (2 : Int) ^ (min ((8 * k : Nat) : Int).toNat 32) = ((2 ^ (8 * k) : Nat) : Int) := by
          have : min ((8 * k : Nat) : Int).toNat 32 = 8 * k := by omega
          rw [this]; simp
        have e4 : IntKind.wrap .u8 (Int.fdiv ((P1.sum T b : Nat) : Int) ((2 ^ (8 * k) : Nat) : Int)) = ((P1.sum T b / 2 ^ (8 * k) % 256 : Nat) : Int) := by rw [fdiv_nat, wu8_mod]; omega
        have hq : b.length + 3 - k < (laid4 b.length (P1.sum T b) k).length := by omega
        show bytes_Seal_l0 fuel b _ (k : Int) (laid4 b.length (P1.sum T b) k) = _
        unfold bytes_Seal_l0
        rw [decide_eq_true (show (k : Int) < 4 by omega), e1, e0, e2, e3, e4, need_true (decide_eq_true (by omega)), idx_nat hq, byte_nat (Nat.mod_lt _ (by omega))]
        simp only [cond_true, Option.bind_some, List.getElem?_eq_getElem hq]
        rw [w64 ⟨by omega, by omega⟩, ← laid4_step b.length (P1.sum T b) k hk]
        have : UInt8.ofNat (P1.sum T b / 2 ^ (8 * k) % 256) = UInt8.ofNat (P1.sum T b / 2 ^ (8 * k)) := by
          apply UInt8.toNat_inj.1
          simp
        rw [this]
        rfl)
      (by
        show bytes_Seal_l0 fuel b _ ((4 : Nat) : Int) (laid4 b.length (P1.sum T b) 4) = _
        unfold bytes_Seal_l0
        rw [decide_eq_false (by omega)]
        rfl)
    have h0 : laid4 b.length (P1.sum T b) 0 = List.replicate (b.length + 4) 0 := by
      unfold laid4
      simp [be4]
    simp only [h0] at this
    exact this
  rw [e]
  simp only [Option.bind_some]
  congr 1
  rw [laid4_end]
  unfold splice sealed
  have : List.take (List.replicate b.length (0 : UInt8) ++ be4 (P1.sum T b)).length b = b := List.take_of_length_le (by simp)
  rw [this]
  simp
theorem unseal_is {T : List Nat} (h : Tab T) {b : List UInt8} (hb : b.length ≤ 140737488355328) : bytes_Unseal fuel (tabI T) b = some ((unsealed (P1.sum T) b).1, (((unsealed (P1.sum T) b).2 : Nat) : Int)) := by
  unfold bytes_Unseal
  by_cases h4 : b.length < 4
  · rw [decide_eq_true (by omega), unsealed_short _ h4]
    rfl
  · rw [decide_eq_false (by omega)]
    have e0 : IntKind.wrap .i64 (((b.length : Nat) : Int) - 4) = ((b.length - 4 : Nat) : Int) := by rw [w64 ⟨by omega, by omega⟩]; omega
    have hl : (b.take (b.length - 4)).length = b.length - 4 := by simp
    simp only [cond_false]
    rw [e0, upto_nat (by omega)]
    simp only [Option.bind_some]
    rw [clone_is (by rw [hl]; unfold room; omega)]
    simp only [Option.bind_some]
    rw [seal_is h (by rw [hl]; omega)]
    simp only [Option.bind_some]
    rw [unsealed_is _ (by omega)]
    by_cases he : sealed (P1.sum T) (b.take (b.length - 4)) = b
    · rw [if_pos he]
      simp [he]
    · rw [if_neg he]
      have : (sealed (P1.sum T) (b.take (b.length - 4)) == b) = false := by simpa using he
      rw [this]
      rfl
end Go.Ab.D

/- Layer 1: numbers and strings, sent and got. -/
namespace Go.Ab.D
open Go.P1

/-! Numbers -/
def uintF (tt : Int × List UInt8) : Option ((Int × List UInt8) ⊕ (Int × List UInt8)) := bytes_Uint_o0_l0 fuel tt.1 tt.2
theorem uint_end {n : Nat} (h : n < 128) (l : List UInt8) : uintF ((n : Int), l) = some (.inr ((n : Int), l)) := by
  show bytes_Uint_o0_l0 fuel (n : Int) l = _
  unfold bytes_Uint_o0_l0
  rw [decide_eq_false (by omega)]
  rfl
theorem uint_go {n : Nat} (h : 128 ≤ n) (hn : n < 18446744073709551616) (l : List UInt8) (hl : l.length + 1 ≤ 140737488355328) : uintF ((n : Int), l) = some (.inl (((n / 128 : Nat) : Int), l ++ [UInt8.ofNat (n % 128 + 128)])) := by
  show bytes_Uint_o0_l0 fuel (n : Int) l = _
  unfold bytes_Uint_o0_l0
  have e1 : Int.tmod (n : Int) 128 = ((n % 128 : Nat) : Int) := rfl
  have e2 : Int.tdiv (n : Int) 128 = ((n / 128 : Nat) : Int) := rfl
  have hm : n % 128 < 128 := Nat.mod_lt _ (by omega)
  have e3 : IntKind.wrap .u8 (IntKind.wrap .u64 (((n % 128 : Nat) : Int) + 128)) = ((n % 128 + 128 : Nat) : Int) := by
    rw [wu64 ⟨by omega, by omega⟩, wu8 ⟨by omega, by omega⟩]; omega
  have e4 : IntKind.wrap .u64 ((n / 128 : Nat) : Int) = ((n / 128 : Nat) : Int) := wu64 ⟨by omega, by omega⟩
  rw [decide_eq_true (by omega), e1, e2, e3, e4, byte_nat (by omega)]
  simp only [cond_true, Option.bind_some]
  rw [need_true (by rw [Nat.mul_one, ble_true (by unfold room; omega)]; rfl)]
theorem uint_loop : ∀ (n m : Nat) (l : List UInt8), n < 18446744073709551616 → (varint n).length ≤ m → l.length + (varint n).length ≤ 140737488355328 →
    ∃ (c : Nat) (r : List UInt8), iter m uintF ((n : Int), l) = some ((c : Int), r) ∧ c < 128 ∧ r ++ [UInt8.ofNat c] = l ++ varint n := fun n => by
  induction n using Nat.strongRecOn with
  | _ n ih =>
    intro m l hn hm hl
    by_cases h : n < 128
    · rw [varint_lt h] at hm hl ⊢
      obtain ⟨m, rfl⟩ : ∃ k, m = k + 1 := ⟨m - 1, by simp at hm; omega⟩
      refine ⟨n, l, ?_, h, rfl⟩
      show (uintF _).ob _ = _
      rw [uint_end h]
      rfl
    · have h' : 128 ≤ n := by omega
      rw [varint_ge h'] at hm hl ⊢
      simp only [List.length_cons] at hm hl
      obtain ⟨m, rfl⟩ : ∃ k, m = k + 1 := ⟨m - 1, by omega⟩
      have hp := varint_pos (n / 128)
      obtain ⟨c, r, q1, q2, q3⟩ := ih (n / 128) (by omega) m (l ++ [UInt8.ofNat (n % 128 + 128)]) (by omega) (by omega) (by simp; omega)
      refine ⟨c, r, ?_, q2, by rw [q3]; simp⟩
      show (uintF _).ob _ = _
      rw [uint_go h' hn l (by omega)]
      exact q1
theorem uint_v1_is {n : Nat} (hn : n < 18446744073709551616) {l : List UInt8} (hl : l.length + 10 ≤ 140737488355328) : bytes_Uint_o0 fuel (n : Int) l = some (l ++ varint n) := by
  unfold bytes_Uint_o0 bytes_Uint_o0_l0_it
  have h10 := varint_len10 hn
  obtain ⟨c, r, q1, q2, q3⟩ := uint_loop n fuel l hn (by unfold fuel; omega) (by omega)
  have q1' : iter fuel (fun tt => bytes_Uint_o0_l0 fuel tt.1 tt.2) ((n : Int), l) = some ((c : Int), r) := q1
  have hr : r.length + 1 = l.length + (varint n).length := by
    have := congrArg List.length q3
    simpa using this
  rw [q1']
  simp only [Option.bind_some]
  rw [wu8 ⟨by omega, by omega⟩, byte_nat (by omega)]
  simp only [Option.bind_some]
  rw [need_true (by rw [Nat.mul_one, ble_true (by unfold room; omega)]; rfl), q3]
theorem flat_take (ls : List (List UInt8)) (k : Nat) : (ls.take k).flatten.length ≤ ls.flatten.length := by
  have : ls.flatten = (ls.take k).flatten ++ (ls.drop k).flatten := by rw [← List.flatten_append, List.take_append_drop]
  rw [this, List.length_append]
  omega
theorem flat_succ {ls : List (List UInt8)} {k : Nat} (h : k < ls.length) : (ls.take (k + 1)).flatten = (ls.take k).flatten ++ ls[k] := by
  rw [List.take_succ_eq_append_getElem h, List.flatten_append]
  simp
theorem concat_is {ls : List (List UInt8)} (hn : ls.length < 1000000) (hl : ls.flatten.length ≤ 140737488355328) : slices_Concat__byte_byte fuel ls = some ls.flatten := by
  unfold slices_Concat__byte_byte slices_Concat__byte_byte_l0_it slices_Concat__byte_byte_l1_it
  have s1 := iter_range (f := fun (tt : Int × Int) => slices_Concat__byte_byte_l0 fuel ls tt.1 tt.2) (o := ((ls.flatten.length : Nat) : Int)) (fun k => ((((ls.take k).flatten.length : Nat) : Int), (k : Int))) ls.length (by omega)
    (fun k hk => by
      have h1 := flat_take ls (k + 1)
      rw [flat_succ hk, List.length_append] at h1
      show slices_Concat__byte_byte_l0 fuel ls ((((ls.take k).flatten.length : Nat) : Int)) (k : Int) = _
      unfold slices_Concat__byte_byte_l0
      rw [decide_eq_true (by omega), idx_nat hk]
      simp only [cond_true, Option.bind_some, List.getElem?_eq_getElem hk]
      rw [w64 ⟨by omega, by omega⟩, decide_eq_false (by omega), w64 ⟨by omega, by omega⟩, flat_succ hk, List.length_append]
      simp)
    (by
      show slices_Concat__byte_byte_l0 fuel ls _ ((ls.length : Nat) : Int) = _
      unfold slices_Concat__byte_byte_l0
      rw [decide_eq_false (by omega), List.take_length]
      rfl)
  have s1' : iter fuel (fun (tt : Int × Int) => slices_Concat__byte_byte_l0 fuel ls tt.1 tt.2) ((0 : Int), (0 : Int)) = some ((ls.flatten.length : Nat) : Int) := s1
  have sg : slices_Grow__byte_byte_n0 fuel ((ls.flatten.length : Nat) : Int) = some [] := by
    unfold slices_Grow__byte_byte_n0
    rw [decide_eq_false (by omega)]
    simp only [cond_false]
    by_cases h0 : ls.flatten.length = 0
    · rw [decide_eq_false (by rw [w64 ⟨by omega, by omega⟩]; omega)]
      rfl
    · have e : IntKind.wrap .i64 (((ls.flatten.length : Nat) : Int) - 0) = ((ls.flatten.length : Nat) : Int) := by rw [w64 ⟨by omega, by omega⟩]; omega
      rw [e, decide_eq_true (by omega), upto_nat (show ls.flatten.length ≤ room from hl)]
      simp only [cond_true, Option.bind_some]
      rw [need_true (by rw [Nat.mul_one, ble_true (show ls.flatten.length ≤ room from hl)]; rfl)]
      have e0 : ∀ m, upto? 0 m = some 0 := fun m => upto_nat (i := 0) (Nat.zero_le m)
      rw [e0]
      rfl
  have s2 := iter_range (f := fun (tt : Int × List UInt8) => slices_Concat__byte_byte_l1 fuel ls tt.1 tt.2) (o := ls.flatten) (fun k => ((k : Int), (ls.take k).flatten)) ls.length (by omega)
    (fun k hk => by
      have h1 := flat_take ls (k + 1)
      rw [flat_succ hk, List.length_append] at h1
      show slices_Concat__byte_byte_l1 fuel ls (k : Int) (ls.take k).flatten = _
      unfold slices_Concat__byte_byte_l1
      rw [decide_eq_true (by omega), idx_nat hk]
      simp only [cond_true, Option.bind_some, List.getElem?_eq_getElem hk]
      rw [need_true (by rw [Nat.mul_one, ble_true (by unfold room; omega)]; rfl), w64 ⟨by omega, by omega⟩, flat_succ hk]
      rfl)
    (by
      show slices_Concat__byte_byte_l1 fuel ls ((ls.length : Nat) : Int) _ = _
      unfold slices_Concat__byte_byte_l1
      rw [decide_eq_false (by omega), List.take_length]
      rfl)
  have s2' : iter fuel (fun (tt : Int × List UInt8) => slices_Concat__byte_byte_l1 fuel ls tt.1 tt.2) ((0 : Int), []) = some ls.flatten := s2
  rw [s1']
  simp only [Option.bind_some, sg, s2']
theorem blob_v1_is {b h : List UInt8} (hl : h.length + b.length + 10 ≤ 140737488355328) : bytes_Blob_o0 fuel b h = some (h ++ varint b.length ++ b) := by
  unfold bytes_Blob_o0
  have hb := varint_len10 (n := b.length) (by omega)
  rw [wu64 ⟨by omega, by omega⟩, uint_v1_is (by omega) (by omega)]
  simp only [Option.bind_some]
  rw [concat_is (by simp) (by simp; omega)]
  simp

/-! What comes -/
def getF (b : List UInt8) (at_ : Int) (tt : Int × Int) : Option ((Int × Int) ⊕ (Unit ⊕ (Int × (Int × Int)))) := bytes_GetUint_l0 fuel b at_ tt.1 tt.2
def getRes (at_ : Nat) (r : Nat × Nat × Nat) : Unit ⊕ (Int × (Int × Int)) := if r.2.2 = 11 then .inl () else if r.2.2 = 0 then .inr ((r.1 : Int), (((at_ + r.2.1 : Nat) : Int), 0)) else .inr (0, (0, ((r.2.2 : Nat) : Int)))
theorem get_step {b : List UInt8} {at_ k n : Nat} (hb : b.length < 4611686018427387904) (hk : k ≤ 9) (hn : n < 2 ^ (7 * k)) (hlt : at_ + k < b.length) (hc : b[at_ + k].toNat % 128 = b[at_ + k].toNat % 128) :
    getF b (at_ : Int) ((n : Int), ((at_ + k : Nat) : Int)) =
      if (0 < k ∧ b[at_ + k].toNat = 0) ∨ (8 < k ∧ 1 < b[at_ + k].toNat) then some (.inr (.inr (0, (0, 10))))
      else if b[at_ + k].toNat < 128 then some (.inr (.inr (((n + b[at_ + k].toNat % 128 * 2 ^ (7 * k) : Nat) : Int), (((at_ + k + 1 : Nat) : Int), 0))))
      else some (.inl (((n + b[at_ + k].toNat % 128 * 2 ^ (7 * k) : Nat) : Int), ((at_ + k + 1 : Nat) : Int))) := by
  show bytes_GetUint_l0 fuel b (at_ : Int) (n : Int) ((at_ + k : Nat) : Int) = _
  unfold bytes_GetUint_l0
  obtain ⟨c, hcc⟩ : ∃ c, b[at_ + k] = c := ⟨_, rfl⟩
  have hc8 := c.toNat_lt
  have e1 : IntKind.wrap .i64 (((at_ + k : Nat) : Int) - (at_ : Int)) = (k : Int) := by rw [w64 ⟨by omega, by omega⟩]; omega
  rw [decide_eq_true (by omega), idx_nat hlt]
  simp only [cond_true, Option.bind_some, List.getElem?_eq_getElem hlt, hcc, e1]
  have hz : (((c.toNat : Nat) : Int) == 0) = decide (c.toNat = 0) := by
    by_cases h : c.toNat = 0
    · simp [h]
    · rw [decide_eq_false h, beq_eq_false_iff_ne]; omega
  have e7 : IntKind.wrap .i64 (7 * (k : Int)) = ((7 * k : Nat) : Int) := by rw [w64 ⟨by omega, by omega⟩]; omega
  have em : min ((7 * k : Nat) : Int).toNat 64 = 7 * k := by omega
  have et : Int.tmod ((c.toNat : Nat) : Int) 128 = ((c.toNat % 128 : Nat) : Int) := rfl
  have hm : c.toNat % 128 < 128 := Nat.mod_lt _ (by omega)
  have ewu : IntKind.wrap .u64 ((c.toNat % 128 : Nat) : Int) = ((c.toNat % 128 : Nat) : Int) := wu64 ⟨by omega, by omega⟩
  by_cases hbad : (0 < k ∧ c.toNat = 0) ∨ (8 < k ∧ 1 < c.toNat)
  · rw [if_pos hbad]
    rcases hbad with ⟨h1, h2⟩ | ⟨h1, h2⟩
    · rw [decide_eq_true (show (k : Int) > 0 by omega), hz, decide_eq_true h2]
      rfl
    · rw [decide_eq_true (show (k : Int) > 0 by omega), hz, decide_eq_false (by omega), decide_eq_true (show (k : Int) > 8 by omega), decide_eq_true (show ((c.toNat : Nat) : Int) > 1 by omega)]
      rfl
  · rw [if_neg hbad]
    have hroom := P1.room n c.toNat k hk hn (fun h8 => by omega)
    have ep : ((c.toNat % 128 : Nat) : Int) * 2 ^ (7 * k) = ((c.toNat % 128 * 2 ^ (7 * k) : Nat) : Int) := by simp
    have ew : IntKind.wrap .u64 ((n : Int) + IntKind.wrap .u64 (IntKind.wrap .u64 ((c.toNat % 128 : Nat) : Int) * 2 ^ (min (IntKind.wrap .i64 (7 * (k : Int))).toNat 64))) = ((n + c.toNat % 128 * 2 ^ (7 * k) : Nat) : Int) := by
      rw [ewu, e7, em, ep, wu64 (x := ((c.toNat % 128 * 2 ^ (7 * k) : Nat) : Int)) ⟨by omega, by omega⟩, wu64 ⟨by omega, by omega⟩]
      omega
    have hguard : (bif decide ((k : Int) > 0) then bif decide (c.toNat = 0) then some true else bif decide ((k : Int) > 8) then some (decide (((c.toNat : Nat) : Int) > 1)) else some false
        else bif decide ((k : Int) > 8) then some (decide (((c.toNat : Nat) : Int) > 1)) else some false) = some false := by
      by_cases h0 : 0 < k
      · have : ¬ c.toNat = 0 := fun h => hbad (.inl ⟨h0, h⟩)
        rw [decide_eq_true (show (k : Int) > 0 by omega), decide_eq_false this]
        by_cases h8 : 8 < k
        · have : ¬ 1 < c.toNat := fun h => hbad (.inr ⟨h8, h⟩)
          rw [decide_eq_true (show (k : Int) > 8 by omega), decide_eq_false (show ¬ ((c.toNat : Nat) : Int) > 1 by omega)]
          rfl
        · rw [decide_eq_false (show ¬ (k : Int) > 8 by omega)]
          rfl
      · rw [decide_eq_false (show ¬ (k : Int) > 0 by omega), decide_eq_false (show ¬ (k : Int) > 8 by omega)]
        rfl
    rw [hz, hguard]
    simp only [Option.bind_some, cond_false, et, ew]
    have ex : IntKind.wrap .i64 (((at_ + k : Nat) : Int) + 1) = ((at_ + k + 1 : Nat) : Int) := by rw [w64 ⟨by omega, by omega⟩]; omega
    rw [e7, need_true (decide_eq_true (by omega)), ex]
    by_cases h128 : c.toNat < 128
    · rw [if_pos h128, decide_eq_true (show ((c.toNat : Nat) : Int) < 128 by omega)]
      rfl
    · rw [if_neg h128, decide_eq_false (show ¬ ((c.toNat : Nat) : Int) < 128 by omega)]
      rfl
theorem get_loop {b : List UInt8} {at_ : Nat} (hb : b.length < 4611686018427387904) : ∀ (rem k n m : Nat), at_ + k + rem = b.length → rem < m → k ≤ 9 → n < 2 ^ (7 * k) →
    iter m (getF b (at_ : Int)) ((n : Int), ((at_ + k : Nat) : Int)) = some (getRes at_ (num (b.drop (at_ + k)) k n))
  | 0, k, n, m, h, hm, hk, hn => by
    obtain ⟨m, rfl⟩ : ∃ j, m = j + 1 := ⟨m - 1, by omega⟩
    have : b.drop (at_ + k) = [] := List.drop_of_length_le (by omega)
    rw [this]
    show (getF b (at_ : Int) _).ob _ = _
    have e : getF b (at_ : Int) ((n : Int), ((at_ + k : Nat) : Int)) = some (.inr (.inl ())) := by
      show bytes_GetUint_l0 fuel b (at_ : Int) (n : Int) ((at_ + k : Nat) : Int) = _
      unfold bytes_GetUint_l0
      rw [decide_eq_false (by omega)]
      rfl
    rw [e]
    rfl
  | rem + 1, k, n, m, h, hm, hk, hn => by
    obtain ⟨m, rfl⟩ : ∃ j, m = j + 1 := ⟨m - 1, by omega⟩
    have hlt : at_ + k < b.length := by omega
    rw [drop_at hlt]
    show (getF b (at_ : Int) _).ob _ = _
    rw [get_step hb hk hn hlt rfl]
    by_cases hbad : (0 < k ∧ b[at_ + k].toNat = 0) ∨ (8 < k ∧ 1 < b[at_ + k].toNat)
    · rw [if_pos hbad, num_bad hbad]
      rfl
    · rw [if_neg hbad]
      by_cases h128 : b[at_ + k].toNat < 128
      · rw [if_pos h128, num_end hbad h128]
        show some _ = some _
        simp [getRes]
        omega
      · rw [if_neg h128, num_step hbad (by omega)]
        have hroom := P1.room n b[at_ + k].toNat k hk hn (fun h8 => by omega)
        have hk8 : k ≤ 8 := by
          by_cases h9 : k ≤ 8
          · exact h9
          · exfalso; exact hbad (.inr ⟨by omega, by omega⟩)
        have := get_loop (at_ := at_) hb rem (k + 1) (n + b[at_ + k].toNat % 128 * 2 ^ (7 * k)) m (by omega) (by omega) (by omega) (hroom.2 hk8)
        exact this
/-- What a place of bytes tells, as the program tells it. -/
theorem getUint_is {b : List UInt8} {at_ : Int} (hb : b.length < 4611686018427387904) : bytes_GetUint fuel b at_ = some ((((getUint b at_).1 : Nat) : Int), ((((getUint b at_).2.1 : Nat) : Int), (((getUint b at_).2.2 : Nat) : Int))) := by
  unfold bytes_GetUint
  by_cases hout : at_ < 0 ∨ (b.length : Int) < at_
  · rw [getUint_out hout]
    rcases hout with h | h
    · rw [decide_eq_true h]
      rfl
    · by_cases h0 : at_ < 0
      · rw [decide_eq_true h0]; rfl
      · rw [decide_eq_false h0, decide_eq_true (show at_ > ((b.length : Nat) : Int) by omega)]
        rfl
  · obtain ⟨a, rfl⟩ : ∃ a : Nat, at_ = a := ⟨at_.toNat, by omega⟩
    rw [decide_eq_false (by omega), decide_eq_false (by omega)]
    simp only [cond_false, Option.bind_some]
    unfold bytes_GetUint_l0_it
    have hl : iter fuel (fun tt => bytes_GetUint_l0 fuel b (a : Int) tt.1 tt.2) ((0 : Int), (a : Int)) = some (getRes a (num (b.drop a) 0 0)) :=
      get_loop hb (b.length - a) 0 0 fuel (by omega) (by unfold fuel; omega) (by omega) (by decide)
    rw [hl]
    simp only [Option.bind_some]
    obtain ⟨n, j, e, hnum⟩ : ∃ n j e, num (b.drop a) 0 0 = (n, j, e) := ⟨_, _, _, rfl⟩
    have hg : getUint b (a : Int) = if e = 0 then (n, a + j, 0) else (0, 0, e) := by
      unfold getUint
      rw [if_neg (by omega)]
      simp only [Int.toNat_natCast, hnum]
    rw [hg, hnum]
    unfold getRes
    by_cases h11 : e = 11
    · subst h11; rfl
    · by_cases h0 : e = 0
      · subst h0; rfl
      · simp only [h11, h0, if_false]
        rfl
theorem getBlob_is {b : List UInt8} {at_ most : Int} (hb : b.length ≤ 140737488355328) (hm : most ≤ 9223372036854775807) : bytes_GetBlob fuel b at_ most = some ((((getBlob b at_ most).2.1 : Nat) : Int), ((((getBlob b at_ most).2.2 : Nat) : Int), (getBlob b at_ most).1)) := by
  unfold bytes_GetBlob
  rw [getUint_is (by omega)]
  simp only [Option.bind_some]
  obtain ⟨n, j, e, hu⟩ : ∃ n j e, getUint b at_ = (n, j, e) := ⟨_, _, _, rfl⟩
  have hfit := getUint_fits b at_
  rw [hu] at hfit ⊢
  simp only at hfit ⊢
  by_cases he : e = 0
  · subst he
    have e0 : (!(((0 : Nat) : Int) == 0)) = false := rfl
    rw [e0]
    simp only [cond_false]
    by_cases hmost : most < 0 ∨ most < n
    · rw [getBlob_long hu hmost]
      by_cases h0 : most < 0
      · rw [decide_eq_true h0]; rfl
      · rw [decide_eq_false h0, wu64 ⟨by omega, by omega⟩, decide_eq_true (show ((n : Nat) : Int) > most by omega)]
        rfl
    · rw [decide_eq_false (show ¬ most < 0 by omega), wu64 (x := most) ⟨by omega, by omega⟩, decide_eq_false (show ¬ ((n : Nat) : Int) > most by omega)]
      simp only [cond_false, Option.bind_some]
      have hj : j ≤ b.length := hfit.2.1
      rw [w64 (x := ((b.length : Nat) : Int) - (j : Int)) ⟨by omega, by omega⟩, wu64 ⟨by omega, by omega⟩]
      by_cases hs : b.length - j < n
      · rw [getBlob_short hu hmost hs, decide_eq_true (by omega)]
        rfl
      · rw [getBlob_ok hu hmost hs, decide_eq_false (by omega), upto_nat hj]
        simp only [cond_false, Option.bind_some]
        have hnl : n ≤ (List.drop j b).length := by rw [List.length_drop]; omega
        rw [upto_nat hnl]
        simp only [Option.bind_some]
        have hl : (List.take n (List.drop j b)).length = n := by rw [List.length_take]; omega
        rw [clone_is (by rw [hl]; unfold room; omega)]
        simp only [Option.bind_some, hl]
        rw [w64 ⟨by omega, by omega⟩]
        rfl
  · have e0 : (!(((e : Nat) : Int) == 0)) = true := by
      have : (((e : Nat) : Int) == 0) = false := by rw [beq_eq_false_iff_ne]; omega
      rw [this]; rfl
    rw [getBlob_err hu he, e0]
    rfl
end Go.Ab.D

/- Layer 1, BytesNumbers. -/
set_option maxRecDepth 100000
namespace Go.Ab.D
open Go Go.Ab Go.P1
attribute [local irreducible] Go.P1.crcT tabI
theorem entry_all : ∀ i : Nat, i < 256 → ref01_Entry fuel (i : Int) = some ((entry i : Nat) : Int) := by decide +kernel
theorem crc_get {i : Nat} (hi : i < 256) : (tabI crcT)[i]? = some ((entry i : Nat) : Int) := by
  rw [tabI_get crcT_tab hi, crcT_is]
  simp [hi]
/-- What two bytes say. -/
theorem two_1 {a b : UInt8} (h : a.toNat < 128) : (getUint [a, b] 0).2 = (1, 0) := by
  have hn : num ([a, b].drop 0) 0 0 = (0 + a.toNat % 128 * 2 ^ (7 * 0), 0 + 1, 0) := num_end (by omega) h
  exact congrArg Prod.snd (getUint_of (l := [a, b]) (p := 0) (by simp) hn)
theorem two_2 {a b : UInt8} (h : 128 ≤ a.toNat) (h1 : 1 ≤ b.toNat) (h2 : b.toNat < 128) : (getUint [a, b] 0).2 = (2, 0) := by
  have hn : num ([a, b].drop 0) 0 0 = (_, 2, 0) := (num_step (c := a) (r := [b]) (k := 0) (n := 0) (by omega) h).trans (num_end (by omega) h2)
  exact congrArg Prod.snd (getUint_of (l := [a, b]) (p := 0) (by simp) hn)
theorem two_10 {a b : UInt8} (h : 128 ≤ a.toNat) (h1 : b.toNat = 0) : (getUint [a, b] 0).2 = (0, 10) := by
  have hn : num ([a, b].drop 0) 0 0 = (0, 0, 10) := (num_step (c := a) (r := [b]) (k := 0) (n := 0) (by omega) h).trans (num_bad (.inl ⟨by omega, h1⟩))
  exact congrArg Prod.snd (getUint_err (l := [a, b]) (p := 0) (by simp) (by omega) hn)
theorem two_11 {a b : UInt8} (h : 128 ≤ a.toNat) (h1 : 128 ≤ b.toNat) : (getUint [a, b] 0).2 = (0, 11) := by
  have hn : num ([a, b].drop 0) 0 0 = (0, 0, 11) := (num_step (c := a) (r := [b]) (k := 0) (n := 0) (by omega) h).trans ((num_step (c := b) (r := []) (by omega) h1).trans rfl)
  exact congrArg Prod.snd (getUint_err (l := [a, b]) (p := 0) (by simp) (by omega) hn)
/-- How many so far, by the place behind, or the error. -/
def manyL (i : Nat) : List Int :=
  [0, ((min i 32768 : Nat) : Int), ((127 * ((i - 32768) / 256) + min ((i - 32768) % 256 - 1) 127 : Nat) : Int), 0, 0, 0, 0, 0, 0, 0,
    (((i - 32768) / 256 + min ((i - 32768) % 256) 1 : Nat) : Int), ((128 * ((i - 32768) / 256) + ((i - 32768) % 256 - 128) : Nat) : Int)]
theorem many_step {i : Nat} (hi : i < 65536) : ∃ k v : Nat, (getUint [UInt8.ofNat (i / 256), UInt8.ofNat i] 0).2.1 + (getUint [UInt8.ofNat (i / 256), UInt8.ofNat i] 0).2.2 = k ∧ k < 12 ∧ (manyL i)[k]? = some (v : Int) ∧ v ≤ 65536 ∧ (manyL i).set k ((v : Int) + 1) = manyL (i + 1) := by
  have ha : (UInt8.ofNat (i / 256)).toNat = i / 256 := by rw [UInt8.toNat_ofNat']; omega
  have hb : (UInt8.ofNat i).toNat = i % 256 := by rw [UInt8.toNat_ofNat']
  by_cases h1 : i / 256 < 128
  · rw [two_1 (by omega)]
    refine ⟨1, min i 32768, rfl, by omega, rfl, by omega, ?_⟩
    have e1 : i - 32768 = 0 := by omega
    have e2 : i + 1 - 32768 = 0 := by omega
    have e3 : ((min i 32768 : Nat) : Int) + 1 = ((min (i + 1) 32768 : Nat) : Int) := by omega
    unfold manyL
    rw [e1, e2, e3]
    rfl
  · have m1 : min (i + 1) 32768 = min i 32768 := by omega
    generalize hj : i - 32768 = j
    have hj1 : i + 1 - 32768 = j + 1 := by omega
    have hmod : i % 256 = j % 256 := by omega
    by_cases h2 : i % 256 = 0
    · rw [two_10 (by omega) (by omega)]
      refine ⟨10, (i - 32768) / 256 + min ((i - 32768) % 256) 1, rfl, by omega, rfl, by omega, ?_⟩
      unfold manyL
      rw [m1, hj1, hj]
      have e1 : 127 * ((j + 1) / 256) + min ((j + 1) % 256 - 1) 127 = 127 * (j / 256) + min (j % 256 - 1) 127 := by omega
      have e2 : 128 * ((j + 1) / 256) + ((j + 1) % 256 - 128) = 128 * (j / 256) + (j % 256 - 128) := by omega
      have e3 : (((j + 1) / 256 + min ((j + 1) % 256) 1 : Nat) : Int) = ((j / 256 + min (j % 256) 1 : Nat) : Int) + 1 := by omega
      rw [e1, e2, e3]
      rfl
    · by_cases h3 : i % 256 < 128
      · rw [two_2 (by omega) (by omega) (by omega)]
        refine ⟨2, 127 * ((i - 32768) / 256) + min ((i - 32768) % 256 - 1) 127, rfl, by omega, rfl, by omega, ?_⟩
        unfold manyL
        rw [m1, hj1, hj]
        have e1 : (j + 1) / 256 + min ((j + 1) % 256) 1 = j / 256 + min (j % 256) 1 := by omega
        have e2 : 128 * ((j + 1) / 256) + ((j + 1) % 256 - 128) = 128 * (j / 256) + (j % 256 - 128) := by omega
        have e3 : ((127 * ((j + 1) / 256) + min ((j + 1) % 256 - 1) 127 : Nat) : Int) = ((127 * (j / 256) + min (j % 256 - 1) 127 : Nat) : Int) + 1 := by omega
        rw [e1, e2, e3]
        rfl
      · rw [two_11 (by omega) (by omega)]
        refine ⟨11, 128 * ((i - 32768) / 256) + ((i - 32768) % 256 - 128), rfl, by omega, rfl, by omega, ?_⟩
        unfold manyL
        rw [m1, hj1, hj]
        have e1 : (j + 1) / 256 + min ((j + 1) % 256) 1 = j / 256 + min (j % 256) 1 := by omega
        have e2 : 127 * ((j + 1) / 256) + min ((j + 1) % 256 - 1) 127 = 127 * (j / 256) + min (j % 256 - 1) 127 := by omega
        have e3 : ((128 * ((j + 1) / 256) + ((j + 1) % 256 - 128) : Nat) : Int) = ((128 * (j / 256) + (j % 256 - 128) : Nat) : Int) + 1 := by omega
        rw [e1, e2, e3]
        rfl
theorem numbers_loop : law01_BytesNumbers_l0_it fuel (0, (tabI crcT, [0, 0, 0, 0, 0, 0, 0, 0, 0, 0, 0, 0])) = some (.inl (tabI crcT, [0, 32768, 16256, 0, 0, 0, 0, 0, 0, 0, 128, 16384])) := by
  unfold law01_BytesNumbers_l0_it
  have := iter_range (f := fun tt : Int × (List Int × List Int) => law01_BytesNumbers_l0 fuel tt.1 tt.2.1 tt.2.2) (o := .inl (tabI crcT, manyL 65536)) (fun k => ((k : Int), (tabI crcT, manyL k))) 65536 (by omega) (fun i hi => by
    show law01_BytesNumbers_l0 fuel (i : Int) (tabI crcT) (manyL i) = _
    obtain ⟨k, v, h1, h2, h3, h4, h5⟩ := many_step hi
    unfold law01_BytesNumbers_l0
    have q1 : Int.fdiv (i : Int) 256 = ((i / 256 : Nat) : Int) := fdiv_nat i 256
    have q2 : byte? (IntKind.wrap .u8 ((i / 256 : Nat) : Int)) = some (UInt8.ofNat (i / 256)) := by
      rw [wu8 ⟨by omega, by omega⟩]
      exact byte_nat (by omega)
    have q3 : byte? (IntKind.wrap .u8 (i : Int)) = some (UInt8.ofNat i) := by
      rw [wu8_mod, show (i : Int) % 256 = ((i % 256 : Nat) : Int) by omega, byte_nat (by omega)]
      congr 1
      apply UInt8.toNat_inj.1
      rw [UInt8.toNat_ofNat', UInt8.toNat_ofNat']
      omega
    rw [decide_eq_true (by omega), cond_true, q1, q2]
    simp only [Option.bind_some]
    rw [q3]
    simp only [Option.bind_some]
    rw [getUint_is (by simp)]
    simp only [Option.bind_some]
    generalize getUint [UInt8.ofNat (i / 256), UInt8.ofNat i] 0 = g at h1 ⊢
    obtain ⟨g1, g2, g3⟩ := g
    simp only at h1 ⊢
    have q4 : IntKind.wrap .i64 (((g2 : Nat) : Int) + ((g3 : Nat) : Int)) = (k : Int) := by rw [w64 ⟨by omega, by omega⟩]; omega
    rw [q4]
    have q5 : decide ((k : Int) ≥ 0) = true := decide_eq_true (by omega)
    have q6 : decide ((k : Int) < 12) = true := decide_eq_true (by omega)
    rw [q5, q6]
    simp only [cond_true, Option.bind_some]
    rw [idx_nat h2]
    simp only [Option.bind_some, h3]
    rw [w64 (x := (v : Int) + 1) ⟨by omega, by omega⟩, h5, w64 (x := (i : Int) + 1) ⟨by omega, by omega⟩]
    by_cases h256 : i < 256
    · rw [decide_eq_true (show (i : Int) < 256 by omega), cond_true, idx_nat h256]
      simp only [Option.bind_some, crc_get h256, entry_all i h256, beq_self_eq_true, Bool.not_true, cond_false]
      rfl
    · rw [decide_eq_false (show ¬ (i : Int) < 256 by omega)]
      rfl) (by
    show law01_BytesNumbers_l0 fuel 65536 (tabI crcT) (manyL 65536) = _
    rfl)
  exact this
theorem unseal_nil : bytes_Unseal_n0 fuel [UInt8.ofNat 97, UInt8.ofNat 98, UInt8.ofNat 0, UInt8.ofNat 0, UInt8.ofNat 0, UInt8.ofNat 0] = some ([97, 98], 0) := by
  unfold bytes_Unseal_n0
  refine Eq.trans (b := (slices_Clone__byte_byte fuel [97, 98]).bind fun r => (bytes_Seal_n0 fuel r).bind fun r1 => bif (!(r1 == [UInt8.ofNat 97, UInt8.ofNat 98, UInt8.ofNat 0, UInt8.ofNat 0, UInt8.ofNat 0, UInt8.ofNat 0])) then some ([], 12) else some (r, 0)) (by kernel_rfl) ?_
  rw [clone_is (by rw [roomIs]; simp)]
  show _ = _
  kernel_rfl
end Go.Ab.D

/- Layer 1, BytesNumbers: the law. -/
set_option maxRecDepth 100000
namespace Go.Ab.D
open Go Go.Ab Go.P1
attribute [local irreducible] Go.P1.crcT tabI
/- The kernel shall not unfold these. -/
theorem bsome {α β : Type} (a : α) (f : α → Option β) : (some a).bind f = f a := Eq.trans (Eq.refl _) (Eq.refl _)
theorem ctrue {α : Type} (a b : α) : (bif true then a else b) = a := Eq.trans (Eq.refl _) (Eq.refl _)
theorem cfalse {α : Type} (a b : α) : (bif false then a else b) = b := Eq.trans (Eq.refl _) (Eq.refl _)
theorem bn_aw : law01_awake fuel = some true := by kernel_rfl
theorem bn_u1 : bytes_Uint_n0 fuel 18446744073709551615 = some [255, 255, 255, 255, 255, 255, 255, 255, 255, 1] := by kernel_rfl
theorem bn_v1 : law01_comes fuel [255, 255, 255, 255, 255, 255, 255, 255, 255, 1] 0 = some [255, 255, 255, 255, 255, 255, 255, 255, 255, 1, 32, 10] := by kernel_rfl
theorem bn_v2 : law01_comes fuel [255, 255, 255, 255, 255, 255, 255, 255, 255, 2] 0 = some [101, 114, 114, 111, 114, 32, 10] := by kernel_rfl
theorem bn_v3 : law01_comes fuel [255, 255, 255, 255, 255, 255, 255, 255, 255, 129, 1] 0 = some [101, 114, 114, 111, 114, 32, 10] := by kernel_rfl
theorem bn_v4 : law01_comes fuel [255, 255, 255, 255, 255, 255, 255, 255, 255] 0 = some [101, 114, 114, 111, 114, 32, 11] := by kernel_rfl
theorem bn_v5 : law01_comes fuel [] 0 = some [101, 114, 114, 111, 114, 32, 11] := by kernel_rfl
theorem bn_v6 : law01_comes fuel [97] 1 = some [101, 114, 114, 111, 114, 32, 11] := by kernel_rfl
theorem bn_v7 : law01_comes fuel [97] 2 = some [101, 114, 114, 111, 114, 32, 2] := by kernel_rfl
theorem bn_v8 : law01_comes fuel [97] (-1) = some [101, 114, 114, 111, 114, 32, 2] := by kernel_rfl
theorem law01_BytesNumbers_true : law01_BytesNumbers fuel = some true := by
  have x1 := getBlob_is (b := [UInt8.ofNat 3, UInt8.ofNat 97, UInt8.ofNat 98]) (at_ := 0) (most := 9) (by simp) (by omega)
  have x2 := getBlob_is (b := [UInt8.ofNat 3, UInt8.ofNat 97, UInt8.ofNat 98, UInt8.ofNat 99]) (at_ := 0) (most := 2) (by simp) (by omega)
  have x3 := getBlob_is (b := [UInt8.ofNat 0]) (at_ := 0) (most := -1) (by simp) (by omega)
  have x4 := getBlob_is (b := [UInt8.ofNat 9, UInt8.ofNat 0, UInt8.ofNat 9]) (at_ := 1) (most := 0) (by simp) (by omega)
  have y1 := unseal_is crcT_tab (b := [UInt8.ofNat 0, UInt8.ofNat 0, UInt8.ofNat 0]) (by simp)
  have y2 := unseal_is crcT_tab (b := [UInt8.ofNat 0, UInt8.ofNat 0, UInt8.ofNat 0, UInt8.ofNat 1]) (by simp)
  unfold law01_BytesNumbers
  rw [table_is]
  simp only [bsome]
  rw [need_true (b := Nat.beq (List.replicate (α := Int) 256 0).length 256) (by rw [List.length_replicate]; rfl), need_true (b := Nat.beq (tabI crcT).length 256) (by rw [tabI_len, crcT_tab.1]; rfl), need_true (b := Nat.beq (List.replicate (α := Int) 12 0).length 12) rfl]
  rw [numbers_loop]
  simp only [bsome]
  rw [need_true (b := Nat.beq ([0, 32768, 16256, 0, 0, 0, 0, 0, 0, 0, 128, 16384] : List Int).length 12) rfl]
  rw [show (!(listEqb (Ty.eqb (.int .i64)) [(0 : Int), 32768, 16256, 0, 0, 0, 0, 0, 0, 0, 128, 16384] [0, 32768, 16256, 0, 0, 0, 0, 0, 0, 0, 128, 16384])) = false from rfl, cfalse, bn_u1]
  simp only [bsome, beq_self_eq_true, Bool.not_true, cfalse]
  rw [bn_v1]
  simp only [bsome, beq_self_eq_true, Bool.not_true, cfalse]
  rw [bn_v2]
  simp only [bsome, beq_self_eq_true, Bool.not_true, cfalse]
  rw [bn_v3]
  simp only [bsome, beq_self_eq_true, Bool.not_true, cfalse]
  rw [bn_v4]
  simp only [bsome, beq_self_eq_true, Bool.not_true, cfalse]
  rw [bn_v5]
  simp only [bsome, beq_self_eq_true, Bool.not_true, cfalse]
  rw [bn_v6]
  simp only [bsome, beq_self_eq_true, Bool.not_true, cfalse]
  rw [bn_v7]
  simp only [bsome, beq_self_eq_true, Bool.not_true, cfalse]
  rw [bn_v8]
  simp only [bsome, beq_self_eq_true, Bool.not_true, cfalse]
  rw [x1, x2, x3, x4]
  simp only [bsome]
  rw [y1]
  simp only [bsome]
  rw [y2]
  simp only [bsome]
  rw [unseal_nil]
  simp only [bsome]
  rw [show (((getBlob [UInt8.ofNat 3, UInt8.ofNat 97, UInt8.ofNat 98] 0 9).2.2 : Int) == 11) = true from rfl, show (((getBlob [UInt8.ofNat 3, UInt8.ofNat 97, UInt8.ofNat 98, UInt8.ofNat 99] 0 2).2.2 : Int) == 3) = true from rfl, show (((getBlob [UInt8.ofNat 0] 0 (-1)).2.2 : Int) == 3) = true from rfl,
    show ((((getBlob [UInt8.ofNat 9, UInt8.ofNat 0, UInt8.ofNat 9] 1 0).1.length : Nat) : Int) == 0) = true from rfl, show (((getBlob [UInt8.ofNat 9, UInt8.ofNat 0, UInt8.ofNat 9] 1 0).2.1 : Int) == 2) = true from rfl, show (((getBlob [UInt8.ofNat 9, UInt8.ofNat 0, UInt8.ofNat 9] 1 0).2.2 : Int) == 0) = true from rfl,
    show (((unsealed (P1.sum crcT) [UInt8.ofNat 0, UInt8.ofNat 0, UInt8.ofNat 0]).2 : Int) == 11) = true from rfl, show (((unsealed (P1.sum crcT) [UInt8.ofNat 0, UInt8.ofNat 0, UInt8.ofNat 0, UInt8.ofNat 1]).2 : Int) == 12) = true from rfl]
  simp only [ctrue, beq_self_eq_true]
  rw [show bytes_Sum_n0 fuel [UInt8.ofNat 120] = some 0 from rfl]
  simp only [bsome, beq_self_eq_true, ctrue]
  rw [bn_aw]
  rfl
end Go.Ab.D
