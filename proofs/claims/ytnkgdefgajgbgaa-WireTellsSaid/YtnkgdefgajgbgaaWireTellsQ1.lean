/- What the functions compute; the plain law. -/
import Derived.Test.YtnkgdefgajgbgaaWireTellsD1
import Derived.Test.YtnkgdefgajgbgaaWireTellsP1
set_option linter.all false
/- Tools for plain proofs about decompiled functions: numbers in bounds, indexes, loops. -/
namespace Go.Ab

/-! Numbers in bounds -/
theorem w64 {x : Int} (h : -9223372036854775808 ≤ x ∧ x ≤ 9223372036854775807) : IntKind.wrap .i64 x = x := by
  simp only [IntKind.wrap, IntKind.bits, IntKind.signed]; simp; omega
theorem wu64 {x : Int} (h : 0 ≤ x ∧ x ≤ 18446744073709551615) : IntKind.wrap .u64 x = x := by
  simp only [IntKind.wrap, IntKind.bits, IntKind.signed]; simp; omega
theorem wu32 {x : Int} (h : 0 ≤ x ∧ x ≤ 4294967295) : IntKind.wrap .u32 x = x := by
  simp only [IntKind.wrap, IntKind.bits, IntKind.signed]; simp; omega
theorem wu16 {x : Int} (h : 0 ≤ x ∧ x ≤ 65535) : IntKind.wrap .u16 x = x := by
  simp only [IntKind.wrap, IntKind.bits, IntKind.signed]; simp; omega
theorem wu8 {x : Int} (h : 0 ≤ x ∧ x ≤ 255) : IntKind.wrap .u8 x = x := by
  simp only [IntKind.wrap, IntKind.bits, IntKind.signed]; simp; omega
theorem wu8_mod (x : Int) : IntKind.wrap .u8 x = x % 256 := by
  simp only [IntKind.wrap, IntKind.bits, IntKind.signed]; simp
theorem wu32_mod (x : Int) : IntKind.wrap .u32 x = x % 4294967296 := by
  simp only [IntKind.wrap, IntKind.bits, IntKind.signed]; simp
theorem wu64_mod (x : Int) : IntKind.wrap .u64 x = x % 18446744073709551616 := by
  simp only [IntKind.wrap, IntKind.bits, IntKind.signed]; simp
theorem bv_nat (n a : Nat) (h : a < 2 ^ n) : BitVec.ofInt n (a : Int) = BitVec.ofNat n a := by simp
theorem bits_xor (k : IntKind) {a b : Nat} (ha : a < 2 ^ k.bits) (hb : b < 2 ^ k.bits) (hw : ∀ x : Int, 0 ≤ x ∧ x < 2 ^ k.bits → k.wrap x = x) : bitsI .xor k a b = ((a ^^^ b : Nat) : Int) := by
  have h := Nat.xor_lt_two_pow ha hb
  simp only [bitsI, BitVec.ofInt_natCast, ← BitVec.ofNat_xor, BitVec.toNat_ofNat, Nat.mod_eq_of_lt h]
  exact hw _ ⟨by omega, by exact_mod_cast h⟩
theorem bits_or (k : IntKind) {a b : Nat} (ha : a < 2 ^ k.bits) (hb : b < 2 ^ k.bits) (hw : ∀ x : Int, 0 ≤ x ∧ x < 2 ^ k.bits → k.wrap x = x) : bitsI .or k a b = ((a ||| b : Nat) : Int) := by
  have h := Nat.or_lt_two_pow ha hb
  simp only [bitsI, BitVec.ofInt_natCast, ← BitVec.ofNat_or, BitVec.toNat_ofNat, Nat.mod_eq_of_lt h]
  exact hw _ ⟨by omega, by exact_mod_cast h⟩
theorem bits_and (k : IntKind) {a b : Nat} (ha : a < 2 ^ k.bits) (hb : b < 2 ^ k.bits) (hw : ∀ x : Int, 0 ≤ x ∧ x < 2 ^ k.bits → k.wrap x = x) : bitsI .and k a b = ((a &&& b : Nat) : Int) := by
  have h := Nat.and_lt_two_pow (y := b) a hb
  simp only [bitsI, BitVec.ofInt_natCast, ← BitVec.ofNat_and, BitVec.toNat_ofNat, Nat.mod_eq_of_lt h]
  exact hw _ ⟨by omega, by exact_mod_cast h⟩
theorem xor8 {a b : Nat} (ha : a < 256) (hb : b < 256) : bitsI .xor .u8 a b = ((a ^^^ b : Nat) : Int) := bits_xor .u8 ha hb fun x h => wu8 ⟨h.1, by have := h.2; simp [IntKind.bits] at this; omega⟩
theorem xor32 {a b : Nat} (ha : a < 4294967296) (hb : b < 4294967296) : bitsI .xor .u32 a b = ((a ^^^ b : Nat) : Int) := bits_xor .u32 ha hb fun x h => wu32 ⟨h.1, by have := h.2; simp [IntKind.bits] at this; omega⟩
theorem and32 {a b : Nat} (ha : a < 4294967296) (hb : b < 4294967296) : bitsI .and .u32 a b = ((a &&& b : Nat) : Int) := bits_and .u32 ha hb fun x h => wu32 ⟨h.1, by have := h.2; simp [IntKind.bits] at this; omega⟩
theorem fdiv_nat (a b : Nat) : Int.fdiv (a : Int) (b : Int) = ((a / b : Nat) : Int) := by
  rw [Int.fdiv_eq_ediv_of_nonneg _ (by omega)]; rfl

/-! Indexes -/
theorem idx_nat {i n : Nat} (h : i < n) : idx? (i : Int) n = some i := by simp [idx?, h]
theorem idx_int {x : Int} {n : Nat} (h0 : 0 ≤ x) (h : x < n) : idx? x n = some x.toNat := by simp [idx?, h0, h]
theorem upto_nat {i n : Nat} (h : i ≤ n) : upto? (i : Int) n = some i := by simp [upto?, h]
theorem upto_int {x : Int} {n : Nat} (h0 : 0 ≤ x) (h : x ≤ n) : upto? x n = some x.toNat := by simp [upto?, h0, h]
theorem byte_nat {n : Nat} (h : n < 256) : byte? (n : Int) = some (UInt8.ofNat n) := by
  have : (n : Int) < 256 := by omega
  simp [byte?, this]
theorem need_true {β : Type} {b : Bool} {K : Option β} (h : b = true) : need b K = K := by subst h; rfl
theorem ble_true {a b : Nat} (h : a ≤ b) : Nat.ble a b = true := Nat.ble_eq_true_of_le h
theorem nilQ_same {β : Type} {n : Nat} {K : Bool → Option β} (h : n = 0 → K true = K false) : nilQ n K = K false := by
  unfold nilQ
  rw [if_pos h]
theorem roomIs : room = 140737488355328 := rfl

/-! Loops -/
theorem fuel_big {n : Nat} (h : n < 4611686018427387904) : ∃ m, fuel = m + (n + 1) := ⟨4611686018427387903 - n, by unfold fuel; omega⟩
theorem iter_steps {τ ο : Type} {f : τ → Option (τ ⊕ ο)} (S : Nat → τ) : ∀ (n m : Nat), (∀ k, k < n → f (S k) = some (.inl (S (k + 1)))) → iter (m + n) f (S 0) = iter m f (S n)
  | 0, m, _ => rfl
  | n + 1, m, h => by
    have e : m + (n + 1) = (m + 1) + n := by omega
    rw [e, iter_steps S n (m + 1) fun k hk => h k (by omega)]
    show (f (S n)).ob _ = _
    rw [h n (by omega)]
    rfl
/-- A loop of n rounds. -/
theorem iter_range {τ ο : Type} {f : τ → Option (τ ⊕ ο)} {o : ο} (S : Nat → τ) (n : Nat) (hn : n < 4611686018427387904) (hs : ∀ k, k < n → f (S k) = some (.inl (S (k + 1)))) (he : f (S n) = some (.inr o)) : iter fuel f (S 0) = some o := by
  obtain ⟨m, hm⟩ := fuel_big hn
  have e : fuel = (m + 1) + n := by omega
  rw [e, iter_steps S n (m + 1) hs]
  show (f (S n)).ob _ = _
  rw [he]
  rfl
/-- A loop by a relation between its state and what is yet to do. -/
theorem iter_rel {τ ο : Type} {f : τ → Option (τ ⊕ ο)} {o : ο} (I : Nat → τ → Prop) (hs : ∀ n s, I (n + 1) s → ∃ s', f s = some (.inl s') ∧ I n s') (he : ∀ s, I 0 s → f s = some (.inr o)) : ∀ (n : Nat) (s : τ), n < 4611686018427387904 → I n s → iter fuel f s = some o := by
  have main : ∀ (n m : Nat) (s : τ), n < m → I n s → iter m f s = some o := fun n => by
    induction n with
    | zero =>
      intro m s hm hi
      obtain ⟨m, rfl⟩ : ∃ k, m = k + 1 := ⟨m - 1, by omega⟩
      show (f s).ob _ = _
      rw [he s hi]
      rfl
    | succ n ih =>
      intro m s hm hi
      obtain ⟨m, rfl⟩ : ∃ k, m = k + 1 := ⟨m - 1, by omega⟩
      obtain ⟨s', h1, h2⟩ := hs n s hi
      show (f s).ob _ = _
      rw [h1]
      exact ih m s' (by omega) h2
  exact fun n s hn hi => main n fuel s hn hi
/-! Loops, step by step -/
theorem iter_inl {τ ο : Type} {f : τ → Option (τ ⊕ ο)} {s s' : τ} {n : Nat} (h : f s = some (.inl s')) : iter (n + 1) f s = iter n f s' := by
  show (f s).ob _ = _
  rw [h]
  rfl
theorem iter_inr {τ ο : Type} {f : τ → Option (τ ⊕ ο)} {s : τ} {o : ο} {n : Nat} (h : f s = some (.inr o)) : iter (n + 1) f s = some o := by
  show (f s).ob _ = _
  rw [h]
  rfl
theorem fuelS (n : Nat) (h : n < 4611686018427387904) : ∃ m, fuel = m + n + 1 := ⟨4611686018427387903 - n, by unfold fuel; omega⟩
/-- A loop, by a relation; what comes out is told by a property. -/
theorem iter_ex {τ ο : Type} {f : τ → Option (τ ⊕ ο)} (I : Nat → τ → Prop) (Q : ο → Prop) (hs : ∀ n s, I (n + 1) s → (∃ s', f s = some (.inl s') ∧ I n s') ∨ ∃ o, f s = some (.inr o) ∧ Q o) (he : ∀ s, I 0 s → ∃ o, f s = some (.inr o) ∧ Q o) : ∀ (n : Nat) (s : τ), n < 4611686018427387904 → I n s → ∃ o, iter fuel f s = some o ∧ Q o := by
  have main : ∀ (n m : Nat) (s : τ), n < m → I n s → ∃ o, iter m f s = some o ∧ Q o := fun n => by
    induction n with
    | zero =>
      intro m s hm hi
      obtain ⟨m, rfl⟩ : ∃ k, m = k + 1 := ⟨m - 1, by omega⟩
      obtain ⟨o, h1, h2⟩ := he s hi
      exact ⟨o, iter_inr h1, h2⟩
    | succ n ih =>
      intro m s hm hi
      obtain ⟨m, rfl⟩ : ∃ k, m = k + 1 := ⟨m - 1, by omega⟩
      rcases hs n s hi with ⟨s', h1, h2⟩ | ⟨o, h1, h2⟩
      · rw [iter_inl h1]
        exact ih m s' (by omega) h2
      · exact ⟨o, iter_inr h1, h2⟩
  exact fun n s hn hi => main n fuel s hn hi
theorem bind_ex {α β : Type} {x : Option α} {k : α → Option β} (R : Option β → Prop) (P : α → Prop) (h : ∃ v, x = some v ∧ P v) (hk : ∀ v, P v → R (k v)) : R (x.bind k) := by
  obtain ⟨v, rfl, hv⟩ := h
  exact hk v hv
theorem iter_fuel_inr {τ ο : Type} {f : τ → Option (τ ⊕ ο)} {s : τ} {o : ο} (h : f s = some (.inr o)) : iter fuel f s = some o := by
  obtain ⟨n, hn⟩ := fuelS 0 (by omega)
  rw [hn]
  exact iter_inr h
end Go.Ab

/- Layer 1: what the decompiled functions are. -/
namespace Go.Ab.D
open Go.P1

/-- A table as the program holds it. -/
def tabI (T : List Nat) : List Int := T.map fun (n : Nat) => (n : Int)
theorem tabI_len (T : List Nat) : (tabI T).length = T.length := by simp [tabI]
theorem tabI_get {T : List Nat} (h : Tab T) {i : Nat} (hi : i < 256) : (tabI T)[i]? = some ((T.getD i 0 : Nat) : Int) := by
  have : i < T.length := by rw [h.1]; exact hi
  simp [tabI, this]
theorem table_is : bytes_Table fuel = some (tabI crcT) := by kernel_rfl

theorem sum_step {T : List Nat} (h : Tab T) {b : List UInt8} (s k : Nat) (hk : k < b.length) (hb : b.length < 9223372036854775807) (hs : s < 4294967296) :
    bytes_Sum_l0 fuel b (tabI T) (s : Int) (k : Int) = some (.inl (((P1.step T s b[k] : Nat) : Int), ((k + 1 : Nat) : Int))) := by
  unfold bytes_Sum_l0
  have h1 : decide ((k : Int) < ((b.length : Nat) : Int)) = true := decide_eq_true (by omega)
  have hc := b[k].toNat_lt
  have hm : s % 256 < 256 := Nat.mod_lt _ (by omega)
  have hx : s % 256 ^^^ b[k].toNat < 256 := xor_lt8 hm hc
  have e1 : IntKind.wrap .u8 (s : Int) = ((s % 256 : Nat) : Int) := by rw [wu8_mod]; omega
  have e2 : Int.fdiv (s : Int) 256 = ((s / 256 : Nat) : Int) := fdiv_nat s 256
  have e3 : IntKind.wrap .i64 ((k : Int) + 1) = ((k + 1 : Nat) : Int) := by rw [w64 ⟨by omega, by omega⟩]; omega
  have ht := h.lt (s % 256 ^^^ b[k].toNat)
  simp only [h1, cond_true, idx_nat hk, Option.bind_some, List.getElem?_eq_getElem hk, e1, xor8 hm hc, idx_nat hx, tabI_get h hx, e2, xor32 ht (show s / 256 < 4294967296 by omega), e3]
  rw [P1.step, Nat.xor_comm]
theorem sum_is {T : List Nat} (h : Tab T) {b : List UInt8} (hb : b.length < 4611686018427387904) : bytes_Sum fuel (tabI T) b = some ((P1.sum T b : Nat) : Int) := by
  unfold bytes_Sum bytes_Sum_l0_it
  have e : iter fuel (fun tt => bytes_Sum_l0 fuel b (tabI T) tt.1 tt.2) (4294967295, 0) = some ((P1.run T 4294967295 b : Nat) : Int) := by
    have := iter_range (f := fun (tt : Int × Int) => bytes_Sum_l0 fuel b (tabI T) tt.1 tt.2) (o := ((P1.run T 4294967295 b : Nat) : Int)) (fun k => (((P1.run T 4294967295 (b.take k) : Nat) : Int), (k : Int))) b.length hb
      (fun k hk => by
        rw [sum_step h _ k hk (by omega) (P1.run_lt h _ (by omega))]
        rw [List.take_succ_eq_append_getElem hk, P1.run_snoc])
      (by
        simp only [List.take_length]
        unfold bytes_Sum_l0
        rw [decide_eq_false (by omega)]
        rfl)
    simpa [P1.run] using this
  rw [e]
  have hl := P1.run_lt h b (s := 4294967295) (by omega)
  simp only [Option.bind_some]
  rw [wu32 ⟨by omega, by omega⟩]
  congr 1
  unfold P1.sum
  omega
theorem copy_is {b : List UInt8} (h : b.length ≤ room) : low_CopyBytes fuel b = some b := by
  unfold low_CopyBytes
  rw [need_true (by rw [Nat.mul_one, ble_true h]; rfl)]
theorem clone_is {b : List UInt8} (h : b.length ≤ room) : slices_Clone__byte_byte fuel b = some b := by
  unfold slices_Clone__byte_byte
  have hn : need (Nat.ble ((0 + b.length) * 1) room && Nat.ble (0 + b.length) room) (some b) = some b := need_true (by rw [Nat.zero_add, Nat.mul_one, ble_true h]; rfl)
  rw [nilQ_same (fun h0 => by
    have : b = [] := List.eq_nil_of_length_eq_zero h0
    subst this
    rw [hn]
    rfl)]
  rw [hn]
  rfl
theorem seal_is {T : List Nat} (h : Tab T) {b : List UInt8} (hb : b.length + 4 ≤ 140737488355328) : bytes_Seal fuel (tabI T) b = some (sealed (P1.sum T) b) := by
  have hs := P1.sum_lt T b
  have e0 : IntKind.wrap .i64 (((b.length : Nat) : Int) + 4) = ((b.length + 4 : Nat) : Int) := by rw [w64 ⟨by omega, by omega⟩]; omega
  unfold bytes_Seal
  rw [e0, upto_nat (show b.length + 4 ≤ room from hb)]
  simp only [Option.bind_some]
  rw [upto_nat (Nat.le_refl _)]
  simp only [Option.bind_some]
  rw [need_true (by rw [Nat.mul_one, ble_true (show b.length + 4 ≤ room from hb)]), sum_is h (by omega)]
  simp only [Option.bind_some]
  have e : bytes_Seal_l0_it fuel b ((P1.sum T b : Nat) : Int) (0, List.replicate (b.length + 4) 0) = some (laid4 b.length (P1.sum T b) 4) := by
    unfold bytes_Seal_l0_it
    have := iter_range (f := fun (tt : Int × List UInt8) => bytes_Seal_l0 fuel b ((P1.sum T b : Nat) : Int) tt.1 tt.2) (o := laid4 b.length (P1.sum T b) 4) (fun k => ((k : Int), laid4 b.length (P1.sum T b) k)) 4 (by decide)
      (fun k hk => by
        have hlen := laid4_len b.length (P1.sum T b) k (by omega)
        have e1 : IntKind.wrap .i64 (8 * (k : Int)) = ((8 * k : Nat) : Int) := by rw [w64 ⟨by omega, by omega⟩]; omega
        have e2 : IntKind.wrap .i64 (IntKind.wrap .i64 (((b.length + 4 : Nat) : Int) - 1) - (k : Int)) = ((b.length + 3 - k : Nat) : Int) := by
          rw [w64 (x := ((b.length + 4 : Nat) : Int) - 1) ⟨by omega, by omega⟩, w64 ⟨by omega, by omega⟩]; omega
        have e3 : (2 : Int) ^ (min ((8 * k : Nat) : Int).toNat 32) = ((2 ^ (8 * k) : Nat) : Int) := by
          have : min ((8 * k : Nat) : Int).toNat 32 = 8 * k := by omega
          rw [this]; simp
        have e4 : IntKind.wrap .u8 (Int.fdiv ((P1.sum T b : Nat) : Int) ((2 ^ (8 * k) : Nat) : Int)) = ((P1.sum T b / 2 ^ (8 * k) % 256 : Nat) : Int) := by rw [fdiv_nat, wu8_mod]; omega
        have hq : b.length + 3 - k < (laid4 b.length (P1.sum T b) k).length := by omega
        show bytes_Seal_l0 fuel b _ (k : Int) (laid4 b.length (P1.sum T b) k) = _
        unfold bytes_Seal_l0
        rw [decide_eq_true (show (k : Int) < 4 by omega), e1, e0, e2, e3, e4, need_true (decide_eq_true (by omega)), idx_nat hq, byte_nat (Nat.mod_lt _ (by omega))]
        simp only [cond_true, Option.bind_some, List.getElem?_eq_getElem hq]
        rw [w64 ⟨by omega, by omega⟩, ← laid4_step b.length (P1.sum T b) k hk]
        have : UInt8.ofNat (P1.sum T b / 2 ^ (8 * k) % 256) = UInt8.ofNat (P1.sum T b / 2 ^ (8 * k)) := by
          apply UInt8.toNat_inj.1
          simp
        rw [this]
        rfl)
      (by
        show bytes_Seal_l0 fuel b _ ((4 : Nat) : Int) (laid4 b.length (P1.sum T b) 4) = _
        unfold bytes_Seal_l0
        rw [decide_eq_false (by omega)]
        rfl)
    have h0 : laid4 b.length (P1.sum T b) 0 = List.replicate (b.length + 4) 0 := by
      unfold laid4
      simp [be4]
    simp only [h0] at this
    exact this
  rw [e]
  simp only [Option.bind_some]
  congr 1
  rw [laid4_end]
  unfold splice sealed
  have : List.take (List.replicate b.length (0 : UInt8) ++ be4 (P1.sum T b)).length b = b := List.take_of_length_le (by simp)
  rw [this]
  simp
theorem unseal_is {T : List Nat} (h : Tab T) {b : List UInt8} (hb : b.length ≤ 140737488355328) : bytes_Unseal fuel (tabI T) b = some ((unsealed (P1.sum T) b).1, (((unsealed (P1.sum T) b).2 : Nat) : Int)) := by
  unfold bytes_Unseal
  by_cases h4 : b.length < 4
  · rw [decide_eq_true (by omega), unsealed_short _ h4]
    rfl
  · rw [decide_eq_false (by omega)]
    have e0 : IntKind.wrap .i64 (((b.length : Nat) : Int) - 4) = ((b.length - 4 : Nat) : Int) := by rw [w64 ⟨by omega, by omega⟩]; omega
    have hl : (b.take (b.length - 4)).length = b.length - 4 := by simp
    simp only [cond_false]
    rw [e0, upto_nat (by omega)]
    simp only [Option.bind_some]
    rw [clone_is (by rw [hl]; unfold room; omega)]
    simp only [Option.bind_some]
    rw [seal_is h (by rw [hl]; omega)]
    simp only [Option.bind_some]
    rw [unsealed_is _ (by omega)]
    by_cases he : sealed (P1.sum T) (b.take (b.length - 4)) = b
    · rw [if_pos he]
      simp [he]
    · rw [if_neg he]
      have : (sealed (P1.sum T) (b.take (b.length - 4)) == b) = false := by simpa using he
      rw [this]
      rfl
end Go.Ab.D

/- Layer 1: numbers and strings, sent and got. -/
namespace Go.Ab.D
open Go.P1

/-! Numbers -/
def uintF (tt : Int × List UInt8) : Option ((Int × List UInt8) ⊕ (Int × List UInt8)) := bytes_Uint_o0_l0 fuel tt.1 tt.2
theorem uint_end {n : Nat} (h : n < 128) (l : List UInt8) : uintF ((n : Int), l) = some (.inr ((n : Int), l)) := by
  show bytes_Uint_o0_l0 fuel (n : Int) l = _
  unfold bytes_Uint_o0_l0
  rw [decide_eq_false (by omega)]
  rfl
theorem uint_go {n : Nat} (h : 128 ≤ n) (hn : n < 18446744073709551616) (l : List UInt8) (hl : l.length + 1 ≤ 140737488355328) : uintF ((n : Int), l) = some (.inl (((n / 128 : Nat) : Int), l ++ [UInt8.ofNat (n % 128 + 128)])) := by
  show bytes_Uint_o0_l0 fuel (n : Int) l = _
  unfold bytes_Uint_o0_l0
  have e1 : Int.tmod (n : Int) 128 = ((n % 128 : Nat) : Int) := rfl
  have e2 : Int.tdiv (n : Int) 128 = ((n / 128 : Nat) : Int) := rfl
  have hm : n % 128 < 128 := Nat.mod_lt _ (by omega)
  have e3 : IntKind.wrap .u8 (IntKind.wrap .u64 (((n % 128 : Nat) : Int) + 128)) = ((n % 128 + 128 : Nat) : Int) := by
    rw [wu64 ⟨by omega, by omega⟩, wu8 ⟨by omega, by omega⟩]; omega
  have e4 : IntKind.wrap .u64 ((n / 128 : Nat) : Int) = ((n / 128 : Nat) : Int) := wu64 ⟨by omega, by omega⟩
  rw [decide_eq_true (by omega), e1, e2, e3, e4, byte_nat (by omega)]
  simp only [cond_true, Option.bind_some]
  rw [need_true (by rw [Nat.mul_one, ble_true (by unfold room; omega)]; rfl)]
theorem uint_loop : ∀ (n m : Nat) (l : List UInt8), n < 18446744073709551616 → (varint n).length ≤ m → l.length + (varint n).length ≤ 140737488355328 →
    ∃ (c : Nat) (r : List UInt8), iter m uintF ((n : Int), l) = some ((c : Int), r) ∧ c < 128 ∧ r ++ [UInt8.ofNat c] = l ++ varint n := fun n => by
  induction n using Nat.strongRecOn with
  | _ n ih =>
    intro m l hn hm hl
    by_cases h : n < 128
    · rw [varint_lt h] at hm hl ⊢
      obtain ⟨m, rfl⟩ : ∃ k, m = k + 1 := ⟨m - 1, by simp at hm; omega⟩
      refine ⟨n, l, ?_, h, rfl⟩
      show (uintF _).ob _ = _
      rw [uint_end h]
      rfl
    · have h' : 128 ≤ n := by omega
      rw [varint_ge h'] at hm hl ⊢
      simp only [List.length_cons] at hm hl
      obtain ⟨m, rfl⟩ : ∃ k, m = k + 1 := ⟨m - 1, by omega⟩
      have hp := varint_pos (n / 128)
      obtain ⟨c, r, q1, q2, q3⟩ := ih (n / 128) (by omega) m (l ++ [UInt8.ofNat (n % 128 + 128)]) (by omega) (by omega) (by simp; omega)
      refine ⟨c, r, ?_, q2, by rw [q3]; simp⟩
      show (uintF _).ob _ = _
      rw [uint_go h' hn l (by omega)]
      exact q1
theorem uint_v1_is {n : Nat} (hn : n < 18446744073709551616) {l : List UInt8} (hl : l.length + 10 ≤ 140737488355328) : bytes_Uint_o0 fuel (n : Int) l = some (l ++ varint n) := by
  unfold bytes_Uint_o0 bytes_Uint_o0_l0_it
  have h10 := varint_len10 hn
  obtain ⟨c, r, q1, q2, q3⟩ := uint_loop n fuel l hn (by unfold fuel; omega) (by omega)
  have q1' : iter fuel (fun tt => bytes_Uint_o0_l0 fuel tt.1 tt.2) ((n : Int), l) = some ((c : Int), r) := q1
  have hr : r.length + 1 = l.length + (varint n).length := by
    have := congrArg List.length q3
    simpa using this
  rw [q1']
  simp only [Option.bind_some]
  rw [wu8 ⟨by omega, by omega⟩, byte_nat (by omega)]
  simp only [Option.bind_some]
  rw [need_true (by rw [Nat.mul_one, ble_true (by unfold room; omega)]; rfl), q3]
theorem flat_take (ls : List (List UInt8)) (k : Nat) : (ls.take k).flatten.length ≤ ls.flatten.length := by
  have : ls.flatten = (ls.take k).flatten ++ (ls.drop k).flatten := by rw [← List.flatten_append, List.take_append_drop]
  rw [this, List.length_append]
  omega
theorem flat_succ {ls : List (List UInt8)} {k : Nat} (h : k < ls.length) : (ls.take (k + 1)).flatten = (ls.take k).flatten ++ ls[k] := by
  rw [List.take_succ_eq_append_getElem h, List.flatten_append]
  simp
theorem concat_is {ls : List (List UInt8)} (hn : ls.length < 1000000) (hl : ls.flatten.length ≤ 140737488355328) : slices_Concat__byte_byte fuel ls = some ls.flatten := by
  unfold slices_Concat__byte_byte slices_Concat__byte_byte_l0_it slices_Concat__byte_byte_l1_it
  have s1 := iter_range (f := fun (tt : Int × Int) => slices_Concat__byte_byte_l0 fuel ls tt.1 tt.2) (o := ((ls.flatten.length : Nat) : Int)) (fun k => ((((ls.take k).flatten.length : Nat) : Int), (k : Int))) ls.length (by omega)
    (fun k hk => by
      have h1 := flat_take ls (k + 1)
      rw [flat_succ hk, List.length_append] at h1
      show slices_Concat__byte_byte_l0 fuel ls ((((ls.take k).flatten.length : Nat) : Int)) (k : Int) = _
      unfold slices_Concat__byte_byte_l0
      rw [decide_eq_true (by omega), idx_nat hk]
      simp only [cond_true, Option.bind_some, List.getElem?_eq_getElem hk]
      rw [w64 ⟨by omega, by omega⟩, decide_eq_false (by omega), w64 ⟨by omega, by omega⟩, flat_succ hk, List.length_append]
      simp)
    (by
      show slices_Concat__byte_byte_l0 fuel ls _ ((ls.length : Nat) : Int) = _
      unfold slices_Concat__byte_byte_l0
      rw [decide_eq_false (by omega), List.take_length]
      rfl)
  have s1' : iter fuel (fun (tt : Int × Int) => slices_Concat__byte_byte_l0 fuel ls tt.1 tt.2) ((0 : Int), (0 : Int)) = some ((ls.flatten.length : Nat) : Int) := s1
  have sg : slices_Grow__byte_byte_n0 fuel ((ls.flatten.length : Nat) : Int) = some [] := by
    unfold slices_Grow__byte_byte_n0
    rw [decide_eq_false (by omega)]
    simp only [cond_false]
    by_cases h0 : ls.flatten.length = 0
    · rw [decide_eq_false (by rw [w64 ⟨by omega, by omega⟩]; omega)]
      rfl
    · have e : IntKind.wrap .i64 (((ls.flatten.length : Nat) : Int) - 0) = ((ls.flatten.length : Nat) : Int) := by rw [w64 ⟨by omega, by omega⟩]; omega
      rw [e, decide_eq_true (by omega), upto_nat (show ls.flatten.length ≤ room from hl)]
      simp only [cond_true, Option.bind_some]
      rw [need_true (by rw [Nat.mul_one, ble_true (show ls.flatten.length ≤ room from hl)]; rfl)]
      have e0 : ∀ m, upto? 0 m = some 0 := fun m => upto_nat (i := 0) (Nat.zero_le m)
      rw [e0]
      rfl
  have s2 := iter_range (f := fun (tt : Int × List UInt8) => slices_Concat__byte_byte_l1 fuel ls tt.1 tt.2) (o := ls.flatten) (fun k => ((k : Int), (ls.take k).flatten)) ls.length (by omega)
    (fun k hk => by
      have h1 := flat_take ls (k + 1)
      rw [flat_succ hk, List.length_append] at h1
      show slices_Concat__byte_byte_l1 fuel ls (k : Int) (ls.take k).flatten = _
      unfold slices_Concat__byte_byte_l1
      rw [decide_eq_true (by omega), idx_nat hk]
      simp only [cond_true, Option.bind_some, List.getElem?_eq_getElem hk]
      rw [need_true (by rw [Nat.mul_one, ble_true (by unfold room; omega)]; rfl), w64 ⟨by omega, by omega⟩, flat_succ hk]
      rfl)
    (by
      show slices_Concat__byte_byte_l1 fuel ls ((ls.length : Nat) : Int) _ = _
      unfold slices_Concat__byte_byte_l1
      rw [decide_eq_false (by omega), List.take_length]
      rfl)
  have s2' : iter fuel (fun (tt : Int × List UInt8) => slices_Concat__byte_byte_l1 fuel ls tt.1 tt.2) ((0 : Int), []) = some ls.flatten := s2
  rw [s1']
  simp only [Option.bind_some, sg, s2']
theorem blob_v1_is {b h : List UInt8} (hl : h.length + b.length + 10 ≤ 140737488355328) : bytes_Blob_o0 fuel b h = some (h ++ varint b.length ++ b) := by
  unfold bytes_Blob_o0
  have hb := varint_len10 (n := b.length) (by omega)
  rw [wu64 ⟨by omega, by omega⟩, uint_v1_is (by omega) (by omega)]
  simp only [Option.bind_some]
  rw [concat_is (by simp) (by simp; omega)]
  simp

/-! What comes -/
def getF (b : List UInt8) (at_ : Int) (tt : Int × Int) : Option ((Int × Int) ⊕ (Unit ⊕ (Int × (Int × Int)))) := bytes_GetUint_l0 fuel b at_ tt.1 tt.2
def getRes (at_ : Nat) (r : Nat × Nat × Nat) : Unit ⊕ (Int × (Int × Int)) := if r.2.2 = 11 then .inl () else if r.2.2 = 0 then .inr ((r.1 : Int), (((at_ + r.2.1 : Nat) : Int), 0)) else .inr (0, (0, ((r.2.2 : Nat) : Int)))
theorem get_step {b : List UInt8} {at_ k n : Nat} (hb : b.length < 4611686018427387904) (hk : k ≤ 9) (hn : n < 2 ^ (7 * k)) (hlt : at_ + k < b.length) (hc : b[at_ + k].toNat % 128 = b[at_ + k].toNat % 128) :
    getF b (at_ : Int) ((n : Int), ((at_ + k : Nat) : Int)) =
      if (0 < k ∧ b[at_ + k].toNat = 0) ∨ (8 < k ∧ 1 < b[at_ + k].toNat) then some (.inr (.inr (0, (0, 10))))
      else if b[at_ + k].toNat < 128 then some (.inr (.inr (((n + b[at_ + k].toNat % 128 * 2 ^ (7 * k) : Nat) : Int), (((at_ + k + 1 : Nat) : Int), 0))))
      else some (.inl (((n + b[at_ + k].toNat % 128 * 2 ^ (7 * k) : Nat) : Int), ((at_ + k + 1 : Nat) : Int))) := by
  show bytes_GetUint_l0 fuel b (at_ : Int) (n : Int) ((at_ + k : Nat) : Int) = _
  unfold bytes_GetUint_l0
  obtain ⟨c, hcc⟩ : ∃ c, b[at_ + k] = c := ⟨_, rfl⟩
  have hc8 := c.toNat_lt
  have e1 : IntKind.wrap .i64 (((at_ + k : Nat) : Int) - (at_ : Int)) = (k : Int) := by rw [w64 ⟨by omega, by omega⟩]; omega
  rw [decide_eq_true (by omega), idx_nat hlt]
  simp only [cond_true, Option.bind_some, List.getElem?_eq_getElem hlt, hcc, e1]
  have hz : (((c.toNat : Nat) : Int) == 0) = decide (c.toNat = 0) := by
    by_cases h : c.toNat = 0
    · simp [h]
    · rw [decide_eq_false h, beq_eq_false_iff_ne]; omega
  have e7 : IntKind.wrap .i64 (7 * (k : Int)) = ((7 * k : Nat) : Int) := by rw [w64 ⟨by omega, by omega⟩]; omega
  have em : min ((7 * k : Nat) : Int).toNat 64 = 7 * k := by omega
  have et : Int.tmod ((c.toNat : Nat) : Int) 128 = ((c.toNat % 128 : Nat) : Int) := rfl
  have hm : c.toNat % 128 < 128 := Nat.mod_lt _ (by omega)
  have ewu : IntKind.wrap .u64 ((c.toNat % 128 : Nat) : Int) = ((c.toNat % 128 : Nat) : Int) := wu64 ⟨by omega, by omega⟩
  by_cases hbad : (0 < k ∧ c.toNat = 0) ∨ (8 < k ∧ 1 < c.toNat)
  · rw [if_pos hbad]
    rcases hbad with ⟨h1, h2⟩ | ⟨h1, h2⟩
    · rw [decide_eq_true (show (k : Int) > 0 by omega), hz, decide_eq_true h2]
      rfl
    · rw [decide_eq_true (show (k : Int) > 0 by omega), hz, decide_eq_false (by omega), decide_eq_true (show (k : Int) > 8 by omega), decide_eq_true (show ((c.toNat : Nat) : Int) > 1 by omega)]
      rfl
  · rw [if_neg hbad]
    have hroom := P1.room n c.toNat k hk hn (fun h8 => by omega)
    have ep : ((c.toNat % 128 : Nat) : Int) * 2 ^ (7 * k) = ((c.toNat % 128 * 2 ^ (7 * k) : Nat) : Int) := by simp
    have ew : IntKind.wrap .u64 ((n : Int) + IntKind.wrap .u64 (IntKind.wrap .u64 ((c.toNat % 128 : Nat) : Int) * 2 ^ (min (IntKind.wrap .i64 (7 * (k : Int))).toNat 64))) = ((n + c.toNat % 128 * 2 ^ (7 * k) : Nat) : Int) := by
      rw [ewu, e7, em, ep, wu64 (x := ((c.toNat % 128 * 2 ^ (7 * k) : Nat) : Int)) ⟨by omega, by omega⟩, wu64 ⟨by omega, by omega⟩]
      omega
    have hguard : (bif decide ((k : Int) > 0) then bif decide (c.toNat = 0) then some true else bif decide ((k : Int) > 8) then some (decide (((c.toNat : Nat) : Int) > 1)) else some false
        else bif decide ((k : Int) > 8) then some (decide (((c.toNat : Nat) : Int) > 1)) else some false) = some false := by
      by_cases h0 : 0 < k
      · have : ¬ c.toNat = 0 := fun h => hbad (.inl ⟨h0, h⟩)
        rw [decide_eq_true (show (k : Int) > 0 by omega), decide_eq_false this]
        by_cases h8 : 8 < k
        · have : ¬ 1 < c.toNat := fun h => hbad (.inr ⟨h8, h⟩)
          rw [decide_eq_true (show (k : Int) > 8 by omega), decide_eq_false (show ¬ ((c.toNat : Nat) : Int) > 1 by omega)]
          rfl
        · rw [decide_eq_false (show ¬ (k : Int) > 8 by omega)]
          rfl
      · rw [decide_eq_false (show ¬ (k : Int) > 0 by omega), decide_eq_false (show ¬ (k : Int) > 8 by omega)]
        rfl
    rw [hz, hguard]
    simp only [Option.bind_some, cond_false, et, ew]
    have ex : IntKind.wrap .i64 (((at_ + k : Nat) : Int) + 1) = ((at_ + k + 1 : Nat) : Int) := by rw [w64 ⟨by omega, by omega⟩]; omega
    rw [e7, need_true (decide_eq_true (by omega)), ex]
    by_cases h128 : c.toNat < 128
    · rw [if_pos h128, decide_eq_true (show ((c.toNat : Nat) : Int) < 128 by omega)]
      rfl
    · rw [if_neg h128, decide_eq_false (show ¬ ((c.toNat : Nat) : Int) < 128 by omega)]
      rfl
theorem get_loop {b : List UInt8} {at_ : Nat} (hb : b.length < 4611686018427387904) : ∀ (rem k n m : Nat), at_ + k + rem = b.length → rem < m → k ≤ 9 → n < 2 ^ (7 * k) →
    iter m (getF b (at_ : Int)) ((n : Int), ((at_ + k : Nat) : Int)) = some (getRes at_ (num (b.drop (at_ + k)) k n))
  | 0, k, n, m, h, hm, hk, hn => by
    obtain ⟨m, rfl⟩ : ∃ j, m = j + 1 := ⟨m - 1, by omega⟩
    have : b.drop (at_ + k) = [] := List.drop_of_length_le (by omega)
    rw [this]
    show (getF b (at_ : Int) _).ob _ = _
    have e : getF b (at_ : Int) ((n : Int), ((at_ + k : Nat) : Int)) = some (.inr (.inl ())) := by
      show bytes_GetUint_l0 fuel b (at_ : Int) (n : Int) ((at_ + k : Nat) : Int) = _
      unfold bytes_GetUint_l0
      rw [decide_eq_false (by omega)]
      rfl
    rw [e]
    rfl
  | rem + 1, k, n, m, h, hm, hk, hn => by
    obtain ⟨m, rfl⟩ : ∃ j, m = j + 1 := ⟨m - 1, by omega⟩
    have hlt : at_ + k < b.length := by omega
    rw [drop_at hlt]
    show (getF b (at_ : Int) _).ob _ = _
    rw [get_step hb hk hn hlt rfl]
    by_cases hbad : (0 < k ∧ b[at_ + k].toNat = 0) ∨ (8 < k ∧ 1 < b[at_ + k].toNat)
    · rw [if_pos hbad, num_bad hbad]
      rfl
    · rw [if_neg hbad]
      by_cases h128 : b[at_ + k].toNat < 128
      · rw [if_pos h128, num_end hbad h128]
        show some _ = some _
        simp [getRes]
        omega
      · rw [if_neg h128, num_step hbad (by omega)]
        have hroom := P1.room n b[at_ + k].toNat k hk hn (fun h8 => by omega)
        have hk8 : k ≤ 8 := by
          by_cases h9 : k ≤ 8
          · exact h9
          · exfalso; exact hbad (.inr ⟨by omega, by omega⟩)
        have := get_loop (at_ := at_) hb rem (k + 1) (n + b[at_ + k].toNat % 128 * 2 ^ (7 * k)) m (by omega) (by omega) (by omega) (hroom.2 hk8)
        exact this
/-- What a place of bytes tells, as the program tells it. -/
theorem getUint_is {b : List UInt8} {at_ : Int} (hb : b.length < 4611686018427387904) : bytes_GetUint fuel b at_ = some ((((getUint b at_).1 : Nat) : Int), ((((getUint b at_).2.1 : Nat) : Int), (((getUint b at_).2.2 : Nat) : Int))) := by
  unfold bytes_GetUint
  by_cases hout : at_ < 0 ∨ (b.length : Int) < at_
  · rw [getUint_out hout]
    rcases hout with h | h
    · rw [decide_eq_true h]
      rfl
    · by_cases h0 : at_ < 0
      · rw [decide_eq_true h0]; rfl
      · rw [decide_eq_false h0, decide_eq_true (show at_ > ((b.length : Nat) : Int) by omega)]
        rfl
  · obtain ⟨a, rfl⟩ : ∃ a : Nat, at_ = a := ⟨at_.toNat, by omega⟩
    rw [decide_eq_false (by omega), decide_eq_false (by omega)]
    simp only [cond_false, Option.bind_some]
    unfold bytes_GetUint_l0_it
    have hl : iter fuel (fun tt => bytes_GetUint_l0 fuel b (a : Int) tt.1 tt.2) ((0 : Int), (a : Int)) = some (getRes a (num (b.drop a) 0 0)) :=
      get_loop hb (b.length - a) 0 0 fuel (by omega) (by unfold fuel; omega) (by omega) (by decide)
    rw [hl]
    simp only [Option.bind_some]
    obtain ⟨n, j, e, hnum⟩ : ∃ n j e, num (b.drop a) 0 0 = (n, j, e) := ⟨_, _, _, rfl⟩
    have hg : getUint b (a : Int) = if e = 0 then (n, a + j, 0) else (0, 0, e) := by
      unfold getUint
      rw [if_neg (by omega)]
      simp only [Int.toNat_natCast, hnum]
    rw [hg, hnum]
    unfold getRes
    by_cases h11 : e = 11
    · subst h11; rfl
    · by_cases h0 : e = 0
      · subst h0; rfl
      · simp only [h11, h0, if_false]
        rfl
theorem getBlob_is {b : List UInt8} {at_ most : Int} (hb : b.length ≤ 140737488355328) (hm : most ≤ 9223372036854775807) : bytes_GetBlob fuel b at_ most = some ((((getBlob b at_ most).2.1 : Nat) : Int), ((((getBlob b at_ most).2.2 : Nat) : Int), (getBlob b at_ most).1)) := by
  unfold bytes_GetBlob
  rw [getUint_is (by omega)]
  simp only [Option.bind_some]
  obtain ⟨n, j, e, hu⟩ : ∃ n j e, getUint b at_ = (n, j, e) := ⟨_, _, _, rfl⟩
  have hfit := getUint_fits b at_
  rw [hu] at hfit ⊢
  simp only at hfit ⊢
  by_cases he : e = 0
  · subst he
    have e0 : (!(((0 : Nat) : Int) == 0)) = false := rfl
    rw [e0]
    simp only [cond_false]
    by_cases hmost : most < 0 ∨ most < n
    · rw [getBlob_long hu hmost]
      by_cases h0 : most < 0
      · rw [decide_eq_true h0]; rfl
      · rw [decide_eq_false h0, wu64 ⟨by omega, by omega⟩, decide_eq_true (show ((n : Nat) : Int) > most by omega)]
        rfl
    · rw [decide_eq_false (show ¬ most < 0 by omega), wu64 (x := most) ⟨by omega, by omega⟩, decide_eq_false (show ¬ ((n : Nat) : Int) > most by omega)]
      simp only [cond_false, Option.bind_some]
      have hj : j ≤ b.length := hfit.2.1
      rw [w64 (x := ((b.length : Nat) : Int) - (j : Int)) ⟨by omega, by omega⟩, wu64 ⟨by omega, by omega⟩]
      by_cases hs : b.length - j < n
      · rw [getBlob_short hu hmost hs, decide_eq_true (by omega)]
        rfl
      · rw [getBlob_ok hu hmost hs, decide_eq_false (by omega), upto_nat hj]
        simp only [cond_false, Option.bind_some]
        have hnl : n ≤ (List.drop j b).length := by rw [List.length_drop]; omega
        rw [upto_nat hnl]
        simp only [Option.bind_some]
        have hl : (List.take n (List.drop j b)).length = n := by rw [List.length_take]; omega
        rw [clone_is (by rw [hl]; unfold room; omega)]
        simp only [Option.bind_some, hl]
        rw [w64 ⟨by omega, by omega⟩]
        rfl
  · have e0 : (!(((e : Nat) : Int) == 0)) = true := by
      have : (((e : Nat) : Int) == 0) = false := by rw [beq_eq_false_iff_ne]; omega
      rw [this]; rfl
    rw [getBlob_err hu he, e0]
    rfl
end Go.Ab.D

/- Chapter 10: awake. -/
set_option maxRecDepth 100000
set_option maxHeartbeats 4000000
namespace Go.Ab.D
open Go Go.Ab
def T0 : List Int := (bytes_Table fuel).getD []
theorem T0_is : bytes_Table fuel = some T0 := by kernel_rfl
def askB : List UInt8 := [1,1,2,2,3,0,4,0,42,17,116,27]
def tellB : List UInt8 := [2,1,2,2,0,5,0,0,230,98,45,243]
theorem unseal_ask : bytes_Unseal fuel T0 askB = some (askB.take 8, 0) := by
  unfold bytes_Unseal
  have h : (upto? (IntKind.wrap .i64 (((askB.length : Nat) : Int) - 4)) askB.length) = some 8 := by kernel_rfl
  have hc : slices_Clone__byte_byte fuel (List.take 8 askB) = some (List.take 8 askB) := clone_is (by decide)
  rw [h, Option.bind_some, hc]
  show _ = _
  kernel_rfl
theorem unseal_tell : bytes_Unseal fuel T0 tellB = some (tellB.take 8, 0) := by
  unfold bytes_Unseal
  have h : (upto? (IntKind.wrap .i64 (((tellB.length : Nat) : Int) - 4)) tellB.length) = some 8 := by kernel_rfl
  have hc : slices_Clone__byte_byte fuel (List.take 8 tellB) = some (List.take 8 tellB) := clone_is (by decide)
  rw [h, Option.bind_some, hc]
  show _ = _
  kernel_rfl
theorem unseal_cut : bytes_Unseal fuel T0 (tellB.take 11) = some ([], 12) := by
  unfold bytes_Unseal
  have h : (upto? (IntKind.wrap .i64 ((((tellB.take 11).length : Nat) : Int) - 4)) (tellB.take 11).length) = some 7 := by kernel_rfl
  have hc : slices_Clone__byte_byte fuel (List.take 7 (tellB.take 11)) = some (List.take 7 (tellB.take 11)) := clone_is (by decide)
  rw [h, Option.bind_some, hc]
  show _ = _
  kernel_rfl
theorem reader_ask : wire_reader fuel T0 askB 1 = some (.inr (0, (false, (askB.take 8, 1)))) := by
  unfold wire_reader
  rw [unseal_ask]
  show _ = _
  kernel_rfl
theorem reader_tell : wire_reader fuel T0 tellB 2 = some (.inr (0, (false, (tellB.take 8, 1)))) := by
  unfold wire_reader
  rw [unseal_tell]
  show _ = _
  kernel_rfl
theorem reader_ask2 : wire_reader fuel T0 askB 2 = some (.inr (0, (true, (askB.take 8, 1)))) := by
  unfold wire_reader
  rw [unseal_ask]
  show _ = _
  kernel_rfl
theorem reader_cut : wire_reader fuel T0 (tellB.take 11) 2 = some (.inl 12) := by
  unfold wire_reader
  rw [unseal_cut]
  show _ = _
  kernel_rfl
theorem put_ask : wire_PutAsk fuel T0 (1, (2, ((UInt8.ofNat 2), (3, (0, (4, [])))))) = some (0, askB) := by kernel_rfl
theorem put_tell : wire_PutTell fuel T0 (1, (2, ((UInt8.ofNat 2), (0, ([], ([], 5)))))) = some (0, tellB) := by kernel_rfl
theorem get_cut : wire_GetTell fuel T0 (tellB.take 11) = some (0, (0, (0, (0, ([], ([], (0, 12))))))) := by
  unfold wire_GetTell
  rw [reader_cut]
  show _ = _
  kernel_rfl
end Go.Ab.D

/- Chapter 10: awake, on. -/
set_option maxRecDepth 100000
set_option maxHeartbeats 4000000
namespace Go.Ab.D
open Go Go.Ab
theorem clone_nil : slices_Clone__byte_byte fuel [] = some [] := clone_is (by decide)
theorem blob_ask : bytes_GetBlob fuel (askB.take 8) 7 65536 = some (8, (0, [])) := by
  refine Eq.trans (b := (slices_Clone__byte_byte fuel []).bind fun r1 => some (8, (0, r1))) (by kernel_rfl) ?_
  rw [clone_nil]; rfl
theorem blob_tell : bytes_GetBlob fuel (tellB.take 8) 7 65536 = some (8, (0, [])) := by
  refine Eq.trans (b := (slices_Clone__byte_byte fuel []).bind fun r1 => some (8, (0, r1))) (by kernel_rfl) ?_
  rw [clone_nil]; rfl
theorem end_ask : wire_reader_2 fuel false (askB.take 8) 7 = some (true, (false, (askB.take 8, (7, [])))) := by
  unfold wire_reader_2
  rw [blob_ask]
  show _ = _
  kernel_rfl
theorem end_tell : wire_reader_2 fuel false (tellB.take 8) 7 = some (true, (false, (tellB.take 8, (7, [])))) := by
  unfold wire_reader_2
  rw [blob_tell]
  show _ = _
  kernel_rfl
theorem ask_0 : wire_reader_1 fuel 1099511627776 false (askB.take 8) 1 = some (1, (false, (askB.take 8, 2))) := by kernel_rfl
theorem ask_1 : wire_reader_1 fuel 1099511627776 false (askB.take 8) 2 = some (2, (false, (askB.take 8, 3))) := by kernel_rfl
theorem ask_2 : wire_reader_1 fuel 9 false (askB.take 8) 3 = some (2, (false, (askB.take 8, 4))) := by kernel_rfl
theorem ask_3 : wire_reader_1 fuel 1099511627776 false (askB.take 8) 4 = some (3, (false, (askB.take 8, 5))) := by kernel_rfl
theorem ask_4 : wire_reader_1 fuel 255 false (askB.take 8) 5 = some (0, (false, (askB.take 8, 6))) := by kernel_rfl
theorem ask_5 : wire_reader_1 fuel 1099511627776 false (askB.take 8) 6 = some (4, (false, (askB.take 8, 7))) := by kernel_rfl
theorem get_ask : wire_GetAsk fuel T0 askB = some (1, (2, (2, (3, (0, (4, ([], 0))))))) := by
  unfold wire_GetAsk
  rw [reader_ask]
  simp only [Option.bind_some, beq_self_eq_true, Bool.not_true, cond_false, ask_0, ask_1, ask_2, ask_3, ask_4, ask_5, end_ask]
  show _ = _
  kernel_rfl
theorem tell_0 : wire_reader_1 fuel 1099511627776 false (tellB.take 8) 1 = some (1, (false, (tellB.take 8, 2))) := by kernel_rfl
theorem tell_1 : wire_reader_1 fuel 1099511627776 false (tellB.take 8) 2 = some (2, (false, (tellB.take 8, 3))) := by kernel_rfl
theorem tell_2 : wire_reader_1 fuel 9 false (tellB.take 8) 3 = some (2, (false, (tellB.take 8, 4))) := by kernel_rfl
theorem tell_3 : wire_reader_1 fuel 1000 false (tellB.take 8) 4 = some (0, (false, (tellB.take 8, 5))) := by kernel_rfl
theorem tell_4 : wire_reader_1 fuel 65536 false (tellB.take 8) 5 = some (5, (false, (tellB.take 8, 6))) := by kernel_rfl
theorem tell_5 : wire_reader_1 fuel 50 false (tellB.take 8) 6 = some (0, (false, (tellB.take 8, 7))) := by kernel_rfl
theorem get_tell : wire_GetTell fuel T0 tellB = some (1, (2, (2, (0, ([], ([], (5, 0))))))) := by
  unfold wire_GetTell
  rw [reader_tell]
  simp only [Option.bind_some, beq_self_eq_true, Bool.not_true, cond_false, tell_0, tell_1, tell_2, tell_3, tell_4, tell_5]
  have hl : wire_GetTell_l0_it fuel (0, (false, (tellB.take 8, 7))) (0, (0, (0, (0, (0, (0, (false, (tellB.take 8, (7, (1, (2, (IntKind.wrap .u8 2, (0, (5, [])))))))))))))) = some (0, (0, (0, (0, (0, (false, (tellB.take 8, (7, (1, (2, (2, (0, (5, []))))))))))))) := by kernel_rfl
  rw [hl]
  simp only [Option.bind_some, end_tell]
  show _ = _
  kernel_rfl
theorem get_ask2 : wire_GetTell fuel T0 askB = some (0, (0, (0, (0, ([], ([], (0, 110))))))) := by
  unfold wire_GetTell
  rw [reader_ask2]
  show _ = _
  kernel_rfl
theorem law10_awake_true : law10_awake fuel = some true := by
  refine Eq.trans (b := (wire_GetAsk fuel T0 askB).bind fun r5 => (wire_GetTell fuel T0 tellB).bind fun r6 => (wire_GetTell fuel T0 askB).bind fun r7 => (wire_GetTell fuel T0 (tellB.take 11)).bind fun r8 =>
    bif (r5.2.2.2.2.2.2.2 == 0) then
      bif (r6.2.2.2.2.2.2.2 == 0) then
        (byte? r5.2.2.1).bind fun c1 =>
        (byte? 2).bind fun c =>
        (low_SameAsk fuel (1, (2, (c, (3, (0, (4, [])))))) (r5.1, (r5.2.1, (c1, (r5.2.2.2.1, (r5.2.2.2.2.1, (r5.2.2.2.2.2.1, r5.2.2.2.2.2.2.1))))))).bind fun r9 =>
        bif r9 then
          (byte? r6.2.2.1).bind fun c3 =>
          (byte? 2).bind fun c2 =>
          (low_SameTell fuel (1, (2, (c2, (0, ([], ([], 5)))))) (r6.1, (r6.2.1, (c3, (r6.2.2.2.1, (r6.2.2.2.2.1, (r6.2.2.2.2.2.1, r6.2.2.2.2.2.2.1))))))).bind fun r10 =>
          bif r10 then
            bif (r7.2.2.2.2.2.2.2 == 110) then
              some (r8.2.2.2.2.2.2.2 == 12)
            else some false
          else some false
        else some false
      else some false
    else some false) (by kernel_rfl) ?_
  rw [get_ask, get_tell, get_ask2, get_cut]
  show _ = _
  kernel_rfl
end Go.Ab.D

/- Chapter 10: what the decompiled functions are. -/
set_option maxRecDepth 100000
namespace Go.Ab.D
open Go Go.Ab Go.P1 Go.P10
attribute [local irreducible] Go.P1.crcT tabI

theorem bif_some {α : Type} (a : Bool) (x y : α) : (bif a then some x else some y) = some (bif a then x else y) := by cases a <;> rfl
theorem bif_false (a b : Bool) : (bif a then b else false) = (a && b) := by cases a <;> rfl
theorem bif_true (a b : Bool) : (bif a then true else b) = (a || b) := by cases a <;> rfl
theorem bif_ff (a b : Bool) : (bif a then false else b) = (!a && b) := by cases a <;> rfl
theorem bif_fst {α β : Type} (a : Bool) (x y : α × β) : (bif a then x else y).1 = bif a then x.1 else y.1 := by cases a <;> rfl
theorem bif_snd {α β : Type} (a : Bool) (x y : α × β) : (bif a then x else y).2 = bif a then x.2 else y.2 := by cases a <;> rfl
theorem bif_same {α : Type} (a : Bool) (x : α) : (bif a then x else x) = x := by cases a <;> rfl
theorem byte_u8 (c : UInt8) : byte? ((c.toNat : Nat) : Int) = some c := by
  rw [byte_nat c.toNat_lt]; simp
theorem byte_wrap {n : Nat} : byte? (IntKind.wrap .u8 (n : Int)) = some (UInt8.ofNat n) := by
  rw [wu8_mod]
  have : ((n : Int) % 256) = ((n % 256 : Nat) : Int) := by omega
  rw [this, byte_nat (by omega)]
  congr 1
  apply UInt8.toNat_inj.1
  simp

theorem within_is (n lo hi : Int) : wire_within fuel n lo hi = some (decide (lo ≤ n ∧ n ≤ hi)) := by
  unfold wire_within
  simp only [bif_some, bif_false, ge_iff_le, Bool.decide_and]
theorem headed_is (a b c : Int) : wire_headed fuel a b c = some (headed a b c) := by
  unfold wire_headed headed
  simp only [within_is, Option.bind_some, bif_some, bif_false, ge_iff_le, Bool.decide_and, Bool.and_assoc]
theorem named_is (a b c d : Int) : wire_named fuel a b c d = some (named a b c d) := by
  unfold wire_named named
  simp only [within_is, Option.bind_some, bif_some, bif_false, ge_iff_le, Bool.decide_and, Bool.and_assoc]
theorem rightAsk_is (a : P10.Ask) : wire_RightAsk fuel a = some (rightAsk a) := by
  obtain ⟨a1, a2, a3, a4, a5, a6, a7⟩ := a
  unfold wire_RightAsk rightAsk
  simp only [headed_is, named_is, Option.bind_some, bif_some, bif_fst, bif_snd, bif_same, bif_false, bif_true, bif_ff]
  congr 1
  have e : (bif (!(((a3.toNat : Nat) : Int) == 4)) && !(((a3.toNat : Nat) : Int) == 5) then (1 : Int) else 0) = P10.least a3.toNat := by
    unfold P10.least
    by_cases h4 : a3.toNat = 4
    · simp [h4]
    · by_cases h5 : a3.toNat = 5
      · simp [h5]
      · have e4 : (((a3.toNat : Nat) : Int) == 4) = false := beq_eq_false_iff_ne.2 (by omega)
        have e5 : (((a3.toNat : Nat) : Int) == 5) = false := beq_eq_false_iff_ne.2 (by omega)
        rw [e4, e5, if_neg (by omega)]
        rfl
  rw [e]
  cases headed a1 a2 (a3.toNat : Int) with
  | false => simp
  | true =>
    cases named a4 a5 a6 (P10.least a3.toNat) with
    | false => simp
    | true =>
      simp only [Bool.not_true, bif_same, Bool.true_and, cond_false, Bool.not_false, cond_true]
      by_cases h1 : a3.toNat = 1
      · have e1 : (((a3.toNat : Nat) : Int) == 1) = true := beq_iff_eq.2 (by omega)
        rw [e1, if_pos h1]
        simp only [cond_true]
        by_cases hl : a7.length ≤ 65536
        · rw [decide_eq_true hl, decide_eq_true (by omega)]; rfl
        · rw [decide_eq_false hl, decide_eq_false (by omega)]; rfl
      · have e1 : (((a3.toNat : Nat) : Int) == 1) = false := beq_eq_false_iff_ne.2 (by omega)
        rw [e1, if_neg h1]
        simp only [cond_false]
        cases a7 with
        | nil => rfl
        | cons c r =>
          rw [decide_eq_false (by simp)]
          have : ((((c :: r).length : Nat) : Int) == 0) = false := beq_eq_false_iff_ne.2 (by simp only [List.length_cons]; omega)
          rw [this]; rfl
theorem wrong_is (i : P10.Info) : wire_wrong fuel i = some (!infoOk i) := by
  obtain ⟨i1, i2, i3, i4⟩ := i
  unfold wire_wrong infoOk
  simp only [named_is, Option.bind_some, bif_some, bif_true]
  congr 1
  cases named i1 i2 i3 1 with
  | false => rfl
  | true =>
    by_cases h1 : i4.toNat = 1
    · simp [h1]
    · by_cases h2 : i4.toNat = 2
      · simp [h2]
      · have : ¬ (i4.toNat : Int) = 1 := by omega
        have : ¬ (i4.toNat : Int) = 2 := by omega
        simp [*]
/-- A loop that looks for one. -/
theorem find_loop {α : Type} (p : α → Bool) (s : List α) (hs : s.length < 4611686018427387904) {f : Int → Option (Int ⊕ (Unit ⊕ Int))}
    (h1 : ∀ (k : Nat) (h : k < s.length), f (k : Int) = if p s[k] = true then some (.inr (.inr (k : Int))) else some (.inl ((k + 1 : Nat) : Int)))
    (h2 : f ((s.length : Nat) : Int) = some (.inr (.inl ()))) :
    ∃ o, iter fuel f 0 = some o ∧ ((o = .inl () ∧ ∀ x ∈ s, p x = false) ∨ ∃ k : Nat, o = .inr (k : Int) ∧ ∃ h : k < s.length, p s[k] = true ∧ ∀ j (hj : j < k), p s[j] = false) := by
  have main : ∀ (rem k m : Nat), k + rem = s.length → rem < m → (∀ j (hj : j < s.length), j < k → p s[j] = false) →
      ∃ o, iter m f (k : Int) = some o ∧ ((o = .inl () ∧ ∀ x ∈ s, p x = false) ∨ ∃ k : Nat, o = .inr (k : Int) ∧ ∃ h : k < s.length, p s[k] = true ∧ ∀ j (hj : j < k), p s[j] = false) := fun rem => by
    induction rem with
    | zero =>
      intro k m hk hm hp
      obtain ⟨m, rfl⟩ : ∃ j, m = j + 1 := ⟨m - 1, by omega⟩
      obtain rfl : k = s.length := by omega
      refine ⟨.inl (), ?_, .inl ⟨rfl, fun x hx => ?_⟩⟩
      · show (f ((s.length : Nat) : Int)).ob _ = _
        rw [h2]; rfl
      · obtain ⟨j, hj, rfl⟩ := List.mem_iff_getElem.1 hx
        exact hp j hj hj
    | succ rem ih =>
      intro k m hk hm hp
      obtain ⟨m, rfl⟩ : ∃ j, m = j + 1 := ⟨m - 1, by omega⟩
      have hlt : k < s.length := by omega
      by_cases hc : p s[k] = true
      · refine ⟨.inr (k : Int), ?_, .inr ⟨k, rfl, hlt, hc, fun j hj => hp j (by omega) hj⟩⟩
        show (f (k : Int)).ob _ = _
        rw [h1 k hlt, if_pos hc]; rfl
      · obtain ⟨o, e, ho⟩ := ih (k + 1) m (by omega) (by omega) fun j hj hjk => by
          rcases Nat.lt_or_ge j k with h | h
          · exact hp j hj h
          · obtain rfl : j = k := by omega
            simpa using hc
        refine ⟨o, ?_, ho⟩
        show (f (k : Int)).ob _ = _
        rw [h1 k hlt, if_neg hc]
        exact e
  exact main s.length 0 fuel (by omega) (by unfold fuel; omega) fun j _ hj => by omega
theorem wrongs_is {s : List P10.Info} (hs : s.length < 4611686018427387904) : slices_ContainsFunc__api_Info_api_Info_fwrong1 fuel s = some (!s.all infoOk) := by
  unfold slices_ContainsFunc__api_Info_api_Info_fwrong1 slices_IndexFunc__api_Info_api_Info_fwrong1 slices_IndexFunc__api_Info_api_Info_fwrong1_l0_it
  obtain ⟨o, e, ho⟩ := find_loop (fun i => !infoOk i) s hs (f := fun tt => slices_IndexFunc__api_Info_api_Info_fwrong1_l0 fuel s tt)
    (fun k h => by
      unfold slices_IndexFunc__api_Info_api_Info_fwrong1_l0
      rw [decide_eq_true (by omega), idx_nat h]
      simp only [cond_true, Option.bind_some, List.getElem?_eq_getElem h, wrong_is]
      rw [w64 ⟨by omega, by omega⟩]
      cases infoOk s[k] <;> rfl)
    (by
      unfold slices_IndexFunc__api_Info_api_Info_fwrong1_l0
      rw [decide_eq_false (by omega)]; rfl)
  rw [e]
  rcases ho with ⟨rfl, h⟩ | ⟨k, rfl, hk, h, _⟩
  · have : s.all infoOk = true := List.all_eq_true.2 fun x hx => by simpa using h x hx
    rw [this]; rfl
  · have : s.all infoOk = false := by
      rw [List.all_eq_false]
      exact ⟨s[k], List.getElem_mem hk, by simpa using h⟩
    rw [this]
    simp
theorem rightTell_is {x : P10.Tell} (hx : x.2.2.2.2.1.length < 4611686018427387904) : wire_RightTell fuel x = some (rightTell x) := by
  obtain ⟨a1, a2, a3, a4, is, b, a5⟩ := x
  simp only at hx
  unfold wire_RightTell rightTell
  simp only [headed_is, within_is, wrongs_is hx, Option.bind_some, bif_some, bif_fst, bif_snd, bif_same, bif_false, bif_true, bif_ff, Bool.not_not]
  congr 1
  cases headed a1 a2 (a3.toNat : Int) with
  | false => simp
  | true =>
    by_cases h2 : 0 ≤ a4 ∧ a4 ≤ 1000
    · by_cases h3 : is.length ≤ 50
      · have h3' : ((is.length : Nat) : Int) ≤ 50 := by omega
        cases is.all infoOk with
        | false => simp [h2]
        | true =>
          by_cases h4 : b.length ≤ 65536
          · have h4' : ((b.length : Nat) : Int) ≤ 65536 := by omega
            have e : IntKind.wrap .i64 (((is.length : Nat) : Int) + ((b.length : Nat) : Int)) = ((is.length + b.length : Nat) : Int) := by rw [w64 ⟨by omega, by omega⟩]; omega
            have e0 : ((((is.length + b.length : Nat) : Int)) == 0) = decide (is = [] ∧ b = []) := by
              simp only [← List.length_eq_zero_iff]
              by_cases h : is.length = 0 ∧ b.length = 0
              · simp [h.1, h.2]
              · rw [decide_eq_false h]
                simp only [beq_eq_false_iff_ne, ne_eq]
                omega
            rw [e, e0]
            simp only [h2, h3, h3', h4, h4', decide_true, Bool.true_and, Bool.and_true, cond_true, and_self]
            by_cases h5 : 0 ≤ a5 ∧ a5 ≤ 65536
            · by_cases h6 : a4 = 0
              · simp [h5, h6]
              · simp [h5, h6]
            · simp [h5]
          · have h4' : ¬ ((b.length : Nat) : Int) ≤ 65536 := by omega
            simp [h2, h3, h3', h4, h4']
      · have h3' : ¬ ((is.length : Nat) : Int) ≤ 50 := by omega
        simp [h2, h3, h3']
    · rw [decide_eq_false h2]
      simp
end Go.Ab.D

/- Chapter 10: readers; messages got. -/
set_option maxRecDepth 100000
namespace Go.Ab.D
open Go Go.Ab Go.P1 Go.P10
attribute [local irreducible] Go.P1.crcT tabI

theorem rd1_bad (most : Int) (l : List UInt8) (p : Int) : wire_reader_1 fuel most true l p = some (0, (true, (l, p))) := rfl
theorem rd1_some {M : Int} {most n p : Nat} {l r : List UInt8} (hM : M = (most : Int)) (hb : l.length < 4611686018427387904) (hm : most ≤ 4611686018427387904) (hp : p ≤ l.length) (h : pNum most (l.drop p) = some (n, r)) :
    wire_reader_1 fuel M false l (p : Int) = some ((n : Int), (false, (l, ((l.length - r.length : Nat) : Int)))) := by
  subst hM
  obtain ⟨h1, h2, h3, h4, h5⟩ := getUint_some hp h
  unfold wire_reader_1
  rw [getUint_is hb, h1]
  simp only [cond_false, Option.bind_some]
  rw [wu64 ⟨by omega, by omega⟩, w64 ⟨by omega, by omega⟩]
  have : decide ((n : Int) > (most : Int)) = false := decide_eq_false (by omega)
  rw [this]
  rfl
theorem rd1_none {M : Int} {most p : Nat} {l : List UInt8} (hM : M = (most : Int)) (hb : l.length < 4611686018427387904) (hm : most ≤ 4611686018427387904) (hp : p ≤ l.length) (h : pNum most (l.drop p) = none) :
    wire_reader_1 fuel M false l (p : Int) = some (0, (true, (l, (p : Int)))) := by
  subst hM
  have h1 := getUint_none hp h
  unfold wire_reader_1
  rw [getUint_is hb]
  simp only [cond_false, Option.bind_some]
  by_cases he : (getUint l p).2.2 = 0
  · rw [he, wu64 ⟨by omega, by omega⟩]
    have : decide (((getUint l p).1 : Int) > (most : Int)) = true := decide_eq_true (by rcases h1 with h1 | h1 <;> omega)
    rw [this]
    rfl
  · have : ((((getUint l p).2.2 : Nat) : Int) == 0) = false := beq_eq_false_iff_ne.2 (by omega)
    rw [this]
    rfl
theorem rd2_bad (l : List UInt8) (p : Int) : wire_reader_2 fuel true l p = some (false, (true, (l, (p, [])))) := rfl
theorem rd2_some {p : Nat} {l s r : List UInt8} (hb : l.length ≤ 140737488355328) (hp : p ≤ l.length) (h : pBlob 65536 (l.drop p) = some (s, r)) :
    wire_reader_2 fuel false l (p : Int) = some (decide (r = []), (false, (l, ((p : Int), s)))) := by
  obtain ⟨h1, h2, h3, h4⟩ := getBlob_some hp h
  unfold wire_reader_2
  rw [getBlob_is hb (by omega)]
  have h1' : getBlob l (p : Int) 65536 = (s, l.length - r.length, 0) := h1
  rw [h1']
  simp only [cond_false, Option.bind_some]
  have : ((((l.length - r.length : Nat) : Int)) == ((l.length : Nat) : Int)) = decide (r = []) := by
    simp only [← List.length_eq_zero_iff]
    by_cases h0 : r.length = 0
    · rw [h0]; simp
    · rw [decide_eq_false h0]
      exact beq_eq_false_iff_ne.2 (by omega)
  rw [this]
  rfl
theorem rd2_none {p : Nat} {l : List UInt8} (hb : l.length ≤ 140737488355328) (hp : p ≤ l.length) (h : pBlob 65536 (l.drop p) = none) :
    wire_reader_2 fuel false l (p : Int) = some (false, (false, (l, ((p : Int), [])))) := by
  obtain ⟨h1, h2, h3⟩ := getBlob_none hp h
  unfold wire_reader_2
  rw [getBlob_is hb (by omega)]
  have h1' : (getBlob l (p : Int) 65536).2.2 ≠ 0 := h1
  have h2' : (getBlob l (p : Int) 65536).1 = [] := h2
  rw [h2']
  simp only [cond_false, Option.bind_some]
  have : ((((getBlob l (p : Int) 65536).2.2 : Nat) : Int) == 0) = false := beq_eq_false_iff_ne.2 (by omega)
  rw [this]
  rfl
theorem reader_err {T : List Nat} (hT : Tab T) {b : List UInt8} (hb : b.length ≤ 140737488355328) (k : Int) (h : (unsealed (P1.sum T) b).2 ≠ 0) : wire_reader fuel (tabI T) b k = some (.inl ((unsealed (P1.sum T) b).2 : Int)) := by
  unfold wire_reader
  rw [unseal_is hT hb]
  simp only [Option.bind_some]
  have : ((((unsealed (P1.sum T) b).2 : Nat) : Int) == 0) = false := beq_eq_false_iff_ne.2 (by omega)
  rw [this]
  rfl
theorem reader_nil {T : List Nat} (hT : Tab T) {b : List UInt8} (hb : b.length ≤ 140737488355328) (k : Int) (h : (unsealed (P1.sum T) b).2 = 0) (h0 : (unsealed (P1.sum T) b).1 = []) : wire_reader fuel (tabI T) b k = some (.inr (0, (true, ([], 1)))) := by
  unfold wire_reader
  rw [unseal_is hT hb, h, h0]
  rfl
theorem reader_ok {T : List Nat} (hT : Tab T) {b : List UInt8} (hb : b.length ≤ 140737488355328) {K : Int} {k : Nat} (hK : K = (k : Int)) (h : (unsealed (P1.sum T) b).2 = 0) {c : UInt8} {r : List UInt8} (h0 : (unsealed (P1.sum T) b).1 = c :: r) :
    wire_reader fuel (tabI T) b K = some (.inr (0, (decide (c.toNat ≠ k), (c :: r, 1)))) := by
  subst hK
  unfold wire_reader
  rw [unseal_is hT hb, h, h0]
  have e1 : ((((c :: r).length : Nat) : Int) == 0) = false := beq_eq_false_iff_ne.2 (by simp only [List.length_cons]; omega)
  have e2 : idx? 0 (c :: r).length = some 0 := idx_nat (i := 0) (by simp)
  simp only [Option.bind_some, e1, cond_false, e2, List.getElem?_cons_zero]
  have e3 : (!(((c.toNat : Nat) : Int) == (k : Int))) = decide (c.toNat ≠ k) := by
    by_cases hc : c.toNat = k
    · simp [hc]
    · have : (((c.toNat : Nat) : Int) == (k : Int)) = false := beq_eq_false_iff_ne.2 (by omega)
      simp [hc, this]
  rw [e3]
  rfl
def outA (x : P10.Ask × Nat) : Int × (Int × (Int × (Int × (Int × (Int × (List UInt8 × Int)))))) := (x.1.1, (x.1.2.1, ((x.1.2.2.1.toNat : Int), (x.1.2.2.2.1, (x.1.2.2.2.2.1, (x.1.2.2.2.2.2.1, (x.1.2.2.2.2.2.2, (x.2 : Int))))))))
theorem unsealed_len (S : List UInt8 → Nat) (b : List UInt8) : (unsealed S b).1.length ≤ b.length := by
  by_cases hl : b.length < 4
  · rw [unsealed_short S hl]; simp
  · rw [unsealed_is S (by omega)]
    split <;> simp
/-- What is behind the first byte is no ask. -/
theorem askOf_none {c : UInt8} {r : List UInt8} (h : c ≠ 1) : askOf (c :: r) = none := by
  simp [askOf, pAskR, h, whole]
theorem wrap_u8 {n : Nat} : IntKind.wrap .u8 (n : Int) = (((UInt8.ofNat n).toNat : Nat) : Int) := by
  rw [wu8_mod, UInt8.toNat_ofNat']; omega
theorem getAsk_is {T : List Nat} (hT : Tab T) {b : List UInt8} (hb : b.length ≤ 140737488355328) : wire_GetAsk fuel (tabI T) b = some (outA (getAsk T b)) := by
  unfold wire_GetAsk getAsk
  by_cases h0 : (unsealed (P1.sum T) b).2 = 0
  · rw [if_pos h0]
    obtain ⟨l, hl⟩ : ∃ l, (unsealed (P1.sum T) b).1 = l := ⟨_, rfl⟩
    have hlen := unsealed_len (P1.sum T) b
    rw [hl] at hlen ⊢
    rcases l with _ | ⟨c, r⟩
    · rw [reader_nil hT hb 1 h0 hl]
      rfl
    · rw [reader_ok hT hb (K := 1) (k := 1) rfl h0 hl]
      simp only [Option.bind_some]
      by_cases hc : c = 1
      · subst hc
        have e1 : decide ((1 : UInt8).toNat ≠ 1) = false := rfl
        rw [e1]
        obtain ⟨L, hL⟩ : ∃ L, L = (1 :: r : List UInt8) := ⟨_, rfl⟩
        have d1 : L.drop 1 = r := by rw [hL]; rfl
        have hp0 : 1 ≤ L.length := by rw [hL]; simp
        rw [← hL] at hlen ⊢
        have hbig : L.length < 4611686018427387904 := by omega
        have hun : askOf L = whole (pAskB r) := by rw [hL]; exact askOf_one r
        unfold pAskB at hun
        simp only [beq_self_eq_true, Bool.not_true, cond_false]
        rcases h1 : pNum 1099511627776 r with _ | ⟨n1, r1⟩
        · have hN : askOf L = none := by rw [hun, h1]; rfl
          have q := rd1_none (M := 1099511627776) (most := 1099511627776) rfl hbig (by omega) hp0 (by rw [d1]; exact h1)
          have q' : wire_reader_1 fuel 1099511627776 false L 1 = _ := q
          rw [q', hN]
          rfl
        have q := rd1_some (M := 1099511627776) (most := 1099511627776) rfl hbig (by omega) hp0 (by rw [d1]; exact h1)
        have q' : wire_reader_1 fuel 1099511627776 false L 1 = _ := q
        obtain ⟨_, _, _, d2, g2⟩ := getUint_some hp0 (by rw [d1]; exact h1)
        rw [q']
        simp only [Option.bind_some]
        clear q q'
        rcases h2 : pNum 1099511627776 r1 with _ | ⟨n2, r2⟩
        · have hN : askOf L = none := by rw [hun, h1]; simp only [Option.bind_some, h2]; rfl
          rw [rd1_none (M := 1099511627776) (most := 1099511627776) rfl hbig (by omega) (Nat.sub_le _ _) (by rw [d2]; exact h2), hN]
          rfl
        rw [rd1_some (M := 1099511627776) (most := 1099511627776) rfl hbig (by omega) (Nat.sub_le _ _) (by rw [d2]; exact h2)]
        obtain ⟨_, _, _, d3, g3⟩ := getUint_some (Nat.sub_le L.length r1.length) (by rw [d2]; exact h2)
        simp only [Option.bind_some]
        rcases h3 : pNum 9 r2 with _ | ⟨n3, r3⟩
        · have hN : askOf L = none := by rw [hun, h1]; simp only [Option.bind_some, h2, h3]; rfl
          rw [rd1_none (M := 9) (most := 9) rfl hbig (by omega) (Nat.sub_le _ _) (by rw [d3]; exact h3), hN]
          rfl
        rw [rd1_some (M := 9) (most := 9) rfl hbig (by omega) (Nat.sub_le _ _) (by rw [d3]; exact h3)]
        obtain ⟨_, _, _, d4, g4⟩ := getUint_some (Nat.sub_le L.length r2.length) (by rw [d3]; exact h3)
        simp only [Option.bind_some]
        rcases h4 : pNum 1099511627776 r3 with _ | ⟨n4, r4⟩
        · have hN : askOf L = none := by rw [hun, h1]; simp only [Option.bind_some, h2, h3, h4]; rfl
          rw [rd1_none (M := 1099511627776) (most := 1099511627776) rfl hbig (by omega) (Nat.sub_le _ _) (by rw [d4]; exact h4), hN]
          rfl
        rw [rd1_some (M := 1099511627776) (most := 1099511627776) rfl hbig (by omega) (Nat.sub_le _ _) (by rw [d4]; exact h4)]
        obtain ⟨_, _, _, d5, g5⟩ := getUint_some (Nat.sub_le L.length r3.length) (by rw [d4]; exact h4)
        simp only [Option.bind_some]
        rcases h5 : pNum 255 r4 with _ | ⟨n5, r5⟩
        · have hN : askOf L = none := by rw [hun, h1]; simp only [Option.bind_some, h2, h3, h4, h5]; rfl
          rw [rd1_none (M := 255) (most := 255) rfl hbig (by omega) (Nat.sub_le _ _) (by rw [d5]; exact h5), hN]
          rfl
        rw [rd1_some (M := 255) (most := 255) rfl hbig (by omega) (Nat.sub_le _ _) (by rw [d5]; exact h5)]
        obtain ⟨_, _, _, d6, g6⟩ := getUint_some (Nat.sub_le L.length r4.length) (by rw [d5]; exact h5)
        simp only [Option.bind_some]
        rcases h6 : pNum 1099511627776 r5 with _ | ⟨n6, r6⟩
        · have hN : askOf L = none := by rw [hun, h1]; simp only [Option.bind_some, h2, h3, h4, h5, h6]; rfl
          rw [rd1_none (M := 1099511627776) (most := 1099511627776) rfl hbig (by omega) (Nat.sub_le _ _) (by rw [d6]; exact h6), hN]
          rfl
        rw [rd1_some (M := 1099511627776) (most := 1099511627776) rfl hbig (by omega) (Nat.sub_le _ _) (by rw [d6]; exact h6)]
        obtain ⟨_, _, _, d7, g7⟩ := getUint_some (Nat.sub_le L.length r5.length) (by rw [d6]; exact h6)
        simp only [Option.bind_some]
        rcases h7 : pBlob 65536 r6 with _ | ⟨s, r7⟩
        · have hN : askOf L = none := by rw [hun, h1]; simp only [Option.bind_some, h2, h3, h4, h5, h6, h7]; rfl
          rw [rd2_none (by omega) (Nat.sub_le _ _) (by rw [d7]; exact h7), hN]
          rfl
        rw [rd2_some (by omega) (Nat.sub_le _ _) (by rw [d7]; exact h7)]
        simp only [Option.bind_some]
        rw [byte_wrap]
        simp only [Option.bind_some]
        rw [rightAsk_is, wrap_u8]
        simp only [Option.bind_some]
        have hA : askOf L = if r7 = [] then (if rightAsk ((n1 : Int), ((n2 : Int), (UInt8.ofNat n3, ((n4 : Int), ((n5 : Int), ((n6 : Int), s)))))) = true then some ((n1 : Int), ((n2 : Int), (UInt8.ofNat n3, ((n4 : Int), ((n5 : Int), ((n6 : Int), s)))))) else none) else none := by
          rw [hun, h1]
          simp only [Option.bind_some, h2, h3, h4, h5, h6, h7]
          by_cases hr : rightAsk ((n1 : Int), ((n2 : Int), (UInt8.ofNat n3, ((n4 : Int), ((n5 : Int), ((n6 : Int), s)))))) = true
          · simp only [if_pos hr]
            rcases r7 with _ | _ <;> rfl
          · simp only [if_neg hr]
            split <;> rfl
        rw [hA]
        by_cases hr7 : r7 = []
        · rw [decide_eq_true hr7, if_pos hr7]
          by_cases hr : rightAsk ((n1 : Int), ((n2 : Int), (UInt8.ofNat n3, ((n4 : Int), ((n5 : Int), ((n6 : Int), s)))))) = true
          · rw [if_pos hr, hr]
            rfl
          · rw [if_neg hr]
            have : rightAsk ((n1 : Int), ((n2 : Int), (UInt8.ofNat n3, ((n4 : Int), ((n5 : Int), ((n6 : Int), s)))))) = false := by simpa using hr
            rw [this]
            rfl
        · rw [decide_eq_false hr7, if_neg hr7]
          rfl
      · have hne : c.toNat ≠ 1 := fun h => hc (UInt8.toNat_inj.1 h)
        rw [askOf_none hc, decide_eq_true hne]
        rfl
  · rw [reader_err hT hb 1 h0, if_neg h0]
    have : ((((unsealed (P1.sum T) b).2 : Nat) : Int) == 0) = false := beq_eq_false_iff_ne.2 (by omega)
    simp only [Option.bind_some, this]
    rfl
end Go.Ab.D

/- Chapter 10: tells got. -/
set_option maxRecDepth 100000
namespace Go.Ab.D
open Go Go.Ab Go.P1 Go.P10
attribute [local irreducible] Go.P1.crcT tabI

theorem tellOf_none {c : UInt8} {r : List UInt8} (h : c ≠ 2) : tellOf (c :: r) = none := by
  simp [tellOf, pTellR, h, whole]
def outT (x : P10.Tell × Nat) : Int × (Int × (Int × (Int × (List P10.Info × (List UInt8 × (Int × Int)))))) := (x.1.1, (x.1.2.1, ((x.1.2.2.1.toNat : Int), (x.1.2.2.2.1, (x.1.2.2.2.2.1, (x.1.2.2.2.2.2.1, (x.1.2.2.2.2.2.2, (x.2 : Int))))))))
/-- The loop over infos: its state. -/
abbrev TS := Int × (Int × (Int × (Int × (Int × (Int × (Bool × (List UInt8 × (Int × (Int × (Int × (Int × (Int × (Int × List P10.Info)))))))))))))
abbrev TO := Int × (Int × (Int × (Int × (Int × (Bool × (List UInt8 × (Int × (Int × (Int × (Int × (Int × (Int × List P10.Info))))))))))))
def tf (r8 : Int × (Bool × (List UInt8 × Int))) (tt : TS) : Option (TS ⊕ TO) :=
  wire_GetTell_l0 fuel r8 tt.1 tt.2.1 tt.2.2.1 tt.2.2.2.1 tt.2.2.2.2.1 tt.2.2.2.2.2.1 tt.2.2.2.2.2.2.1 tt.2.2.2.2.2.2.2.1 tt.2.2.2.2.2.2.2.2.1 tt.2.2.2.2.2.2.2.2.2.1 tt.2.2.2.2.2.2.2.2.2.2.1 tt.2.2.2.2.2.2.2.2.2.2.2.1 tt.2.2.2.2.2.2.2.2.2.2.2.2.1 tt.2.2.2.2.2.2.2.2.2.2.2.2.2.1 tt.2.2.2.2.2.2.2.2.2.2.2.2.2.2
def tS (x : Int) (z : Int × (Int × (Int × (Int × Int)))) (bad : Bool) (l : List UInt8) (p : Int) (y : Int × (Int × (Int × (Int × Int)))) (is : List P10.Info) : TS :=
  (x, (z.1, (z.2.1, (z.2.2.1, (z.2.2.2.1, (z.2.2.2.2, (bad, (l, (p, (y.1, (y.2.1, (y.2.2.1, (y.2.2.2.1, (y.2.2.2.2, is))))))))))))))
theorem room_is {n : Nat} (h : n ≤ 1000) : (Nat.ble ((n + 1) * 32) Go.Ab.room && Nat.ble (n + 1) Go.Ab.room) = true := by
  unfold Go.Ab.room
  simp only [Bool.and_eq_true, Nat.ble_eq]
  omega
theorem byte0 : byte? (IntKind.wrap .u8 0) = some 0 := byte_wrap (n := 0)
/-- Once bad, so it stays. -/
theorem tf_bad {N : Nat} (hN : N ≤ 50) (r8 : Int × (Bool × (List UInt8 × Int))) (h8 : r8.1 = (N : Int)) (z y : Int × (Int × (Int × (Int × Int)))) (l : List UInt8) (p : Int) : ∀ (d k m : Nat) (is : List P10.Info), k + d = N → is.length = k → d < m →
    ∃ is', iter m (tf r8) (tS (k : Int) z true l p y is) = some (tS 0 z true l p y is').2
  | 0, k, m, is, hk, hi, hm => by
    obtain ⟨m, rfl⟩ : ∃ j, m = j + 1 := ⟨m - 1, by omega⟩
    refine ⟨is, ?_⟩
    show (tf r8 (tS (k : Int) z true l p y is)).ob _ = _
    have : tf r8 (tS (k : Int) z true l p y is) = some (.inr (tS 0 z true l p y is).2) := by
      unfold tf tS wire_GetTell_l0
      simp only
      rw [decide_eq_false (by omega)]
      rfl
    rw [this]
    rfl
  | d + 1, k, m, is, hk, hi, hm => by
    obtain ⟨m, rfl⟩ : ∃ j, m = j + 1 := ⟨m - 1, by omega⟩
    obtain ⟨is', e⟩ := tf_bad hN r8 h8 z y l p d (k + 1) m (is ++ [(0, (0, (0, 0)))]) (by omega) (by simp [hi]) (by omega)
    refine ⟨is', ?_⟩
    show (tf r8 (tS (k : Int) z true l p y is)).ob _ = _
    have : tf r8 (tS (k : Int) z true l p y is) = some (.inl (tS ((k + 1 : Nat) : Int) z true l p y (is ++ [(0, (0, (0, 0)))]))) := by
      unfold tf tS wire_GetTell_l0
      simp only [rd1_bad, Option.bind_some]
      rw [decide_eq_true (by omega), byte0]
      simp only [Option.bind_some, cond_true]
      rw [need_true (by rw [hi]; exact room_is (by omega)), w64 ⟨by omega, by omega⟩]
      rfl
    rw [this]
    exact e
theorem tf_loop {N : Nat} (hN : N ≤ 50) (r8 : Int × (Bool × (List UInt8 × Int))) (h8 : r8.1 = (N : Int)) (z y : Int × (Int × (Int × (Int × Int)))) {L : List UInt8} (hL : L.length ≤ 140737488355328) :
    ∀ (d k m p : Nat) (is : List P10.Info), k + d = N → is.length = k → d < m → p ≤ L.length →
      (pInfos d (L.drop p) = none ∧ ∃ p' is', iter m (tf r8) (tS (k : Int) z false L (p : Int) y is) = some (tS 0 z true L p' y is').2) ∨
      (∃ js r, pInfos d (L.drop p) = some (js, r) ∧ r.length ≤ L.length ∧ L.drop (L.length - r.length) = r ∧ iter m (tf r8) (tS (k : Int) z false L (p : Int) y is) = some (tS 0 z false L ((L.length - r.length : Nat) : Int) y (is ++ js)).2)
  | 0, k, m, p, is, hk, hi, hm, hp => by
    obtain ⟨m, rfl⟩ : ∃ j, m = j + 1 := ⟨m - 1, by omega⟩
    refine .inr ⟨[], L.drop p, rfl, by simp, ?_, ?_⟩
    · rw [List.length_drop]; congr 1; omega
    show (tf r8 (tS (k : Int) z false L (p : Int) y is)).ob _ = _
    have : tf r8 (tS (k : Int) z false L (p : Int) y is) = some (.inr (tS 0 z false L (p : Int) y is).2) := by
      unfold tf tS wire_GetTell_l0
      simp only
      rw [decide_eq_false (by omega)]
      rfl
    rw [this, List.append_nil, List.length_drop]
    have : L.length - (L.length - p) = p := by omega
    rw [this]
    rfl
  | d + 1, k, m, p, is, hk, hi, hm, hp => by
    obtain ⟨m, rfl⟩ : ∃ j, m = j + 1 := ⟨m - 1, by omega⟩
    have hbig : L.length < 4611686018427387904 := by omega
    have e0 : decide ((k : Int) < r8.1) = true := decide_eq_true (by omega)
    have eN : need (Nat.ble ((is.length + 1) * 32) Go.Ab.room && Nat.ble (is.length + 1) Go.Ab.room) = fun (x : Option (TS ⊕ TO)) => x := funext fun x => need_true (by rw [hi]; exact room_is (by omega))
    have ek : IntKind.wrap .i64 ((k : Int) + 1) = ((k + 1 : Nat) : Int) := by rw [w64 ⟨by omega, by omega⟩]; omega
    -- what a bad round does
    have bad : ∀ {p' : Int} {i : P10.Info}, tf r8 (tS (k : Int) z false L (p : Int) y is) = some (.inl (tS ((k + 1 : Nat) : Int) z true L p' y (is ++ [i]))) →
        ∃ p' is', iter (m + 1) (tf r8) (tS (k : Int) z false L (p : Int) y is) = some (tS 0 z true L p' y is').2 := fun {p' i} h => by
      obtain ⟨is', e⟩ := tf_bad hN r8 h8 z y L p' d (k + 1) m (is ++ [i]) (by omega) (by simp [hi]) (by omega)
      refine ⟨p', is', ?_⟩
      show (tf r8 (tS (k : Int) z false L (p : Int) y is)).ob _ = _
      rw [h]
      exact e
    rcases h1 : pNum 1099511627776 (L.drop p) with _ | ⟨n1, r1⟩
    · refine .inl ⟨by unfold pInfos; rw [h1]; rfl, bad (p' := (p : Int)) (i := (0, (0, (0, 0)))) ?_⟩
      unfold tf tS wire_GetTell_l0
      simp only
      rw [e0, rd1_none (M := 1099511627776) (most := 1099511627776) rfl hbig (by decide) hp h1]
      simp only [rd1_bad, Option.bind_some, cond_true, eN, ek, byte0]
    have q1 := rd1_some (M := 1099511627776) (most := 1099511627776) rfl hbig (by decide) hp h1
    obtain ⟨_, _, _, d2, g2⟩ := getUint_some hp h1
    rcases h2 : pNum 255 r1 with _ | ⟨n2, r2⟩
    · refine .inl ⟨by unfold pInfos; rw [h1]; simp only [Option.bind_some, h2]; rfl, bad (p' := ((L.length - r1.length : Nat) : Int)) (i := ((n1 : Int), (0, (0, 0)))) ?_⟩
      unfold tf tS wire_GetTell_l0
      simp only
      rw [e0, q1]
      simp only [Option.bind_some, cond_true]
      rw [rd1_none (M := 255) (most := 255) rfl hbig (by decide) (Nat.sub_le _ _) (by rw [d2]; exact h2)]
      simp only [rd1_bad, Option.bind_some, eN, ek, byte0]
    have q2 := rd1_some (M := 255) (most := 255) rfl hbig (by decide) (Nat.sub_le L.length r1.length) (by rw [d2]; exact h2)
    obtain ⟨_, _, _, d3, g3⟩ := getUint_some (Nat.sub_le L.length r1.length) (by rw [d2]; exact h2)
    rcases h3 : pNum 1099511627776 r2 with _ | ⟨n3, r3⟩
    · refine .inl ⟨by unfold pInfos; rw [h1]; simp only [Option.bind_some, h2, h3]; rfl, bad (p' := ((L.length - r2.length : Nat) : Int)) (i := ((n1 : Int), ((n2 : Int), (0, 0)))) ?_⟩
      unfold tf tS wire_GetTell_l0
      simp only
      rw [e0, q1]
      simp only [Option.bind_some, cond_true]
      rw [q2]
      simp only [Option.bind_some]
      rw [rd1_none (M := 1099511627776) (most := 1099511627776) rfl hbig (by decide) (Nat.sub_le _ _) (by rw [d3]; exact h3)]
      simp only [rd1_bad, Option.bind_some, eN, ek, byte0]
    have q3 := rd1_some (M := 1099511627776) (most := 1099511627776) rfl hbig (by decide) (Nat.sub_le L.length r2.length) (by rw [d3]; exact h3)
    obtain ⟨_, _, _, d4, g4⟩ := getUint_some (Nat.sub_le L.length r2.length) (by rw [d3]; exact h3)
    rcases h4 : pNum 9 r3 with _ | ⟨n4, r4⟩
    · refine .inl ⟨by unfold pInfos; rw [h1]; simp only [Option.bind_some, h2, h3, h4]; rfl, bad (p' := ((L.length - r3.length : Nat) : Int)) (i := ((n1 : Int), ((n2 : Int), ((n3 : Int), 0)))) ?_⟩
      unfold tf tS wire_GetTell_l0
      simp only
      rw [e0, q1]
      simp only [Option.bind_some, cond_true]
      rw [q2]
      simp only [Option.bind_some]
      rw [q3]
      simp only [Option.bind_some]
      rw [rd1_none (M := 9) (most := 9) rfl hbig (by decide) (Nat.sub_le _ _) (by rw [d4]; exact h4)]
      simp only [rd1_bad, Option.bind_some, eN, ek, byte0]
    have q4 := rd1_some (M := 9) (most := 9) rfl hbig (by decide) (Nat.sub_le L.length r3.length) (by rw [d4]; exact h4)
    obtain ⟨_, _, _, d5, g5⟩ := getUint_some (Nat.sub_le L.length r3.length) (by rw [d4]; exact h4)
    have hstep : tf r8 (tS (k : Int) z false L (p : Int) y is) = some (.inl (tS ((k + 1 : Nat) : Int) z false L ((L.length - r4.length : Nat) : Int) y (is ++ [((n1 : Int), ((n2 : Int), ((n3 : Int), UInt8.ofNat n4)))]))) := by
      unfold tf tS wire_GetTell_l0
      simp only
      rw [e0, q1]
      simp only [Option.bind_some, cond_true]
      rw [q2]
      simp only [Option.bind_some]
      rw [q3]
      simp only [Option.bind_some]
      rw [q4]
      simp only [Option.bind_some, eN, ek, byte_wrap]
    have ih := tf_loop hN r8 h8 z y hL d (k + 1) m (L.length - r4.length) (is ++ [((n1 : Int), ((n2 : Int), ((n3 : Int), UInt8.ofNat n4)))]) (by omega) (by simp [hi]) (by omega) (Nat.sub_le _ _)
    rw [d5] at ih
    have hgo : iter (m + 1) (tf r8) (tS (k : Int) z false L (p : Int) y is) = iter m (tf r8) (tS ((k + 1 : Nat) : Int) z false L ((L.length - r4.length : Nat) : Int) y (is ++ [((n1 : Int), ((n2 : Int), ((n3 : Int), UInt8.ofNat n4)))])) := by
      show (tf r8 (tS (k : Int) z false L (p : Int) y is)).ob _ = _
      rw [hstep]
      rfl
    rcases ih with ⟨i1, p', is', i2⟩ | ⟨js, r, i1, i2, i3, i4⟩
    · exact .inl ⟨by unfold pInfos; rw [h1]; simp only [Option.bind_some, h2, h3, h4, i1]; rfl, p', is', hgo.trans i2⟩
    · refine .inr ⟨((n1 : Int), ((n2 : Int), ((n3 : Int), UInt8.ofNat n4))) :: js, r, by unfold pInfos; rw [h1]; simp only [Option.bind_some, h2, h3, h4, i1], i2, i3, hgo.trans ?_⟩
      rw [i4, List.append_assoc]
      rfl
theorem getTell_is {T : List Nat} (hT : Tab T) {b : List UInt8} (hb : b.length ≤ 140737488355328) : wire_GetTell fuel (tabI T) b = some (outT (getTell T b)) := by
  unfold wire_GetTell getTell
  by_cases h0 : (unsealed (P1.sum T) b).2 = 0
  · rw [if_pos h0]
    obtain ⟨l, hl⟩ : ∃ l, (unsealed (P1.sum T) b).1 = l := ⟨_, rfl⟩
    have hlen := unsealed_len (P1.sum T) b
    rw [hl] at hlen ⊢
    -- what is behind a bad number
    have loop_bad : ∀ (y z : Int × (Int × (Int × (Int × Int)))) (L : List UInt8) (p : Int), ∃ is', wire_GetTell_l0_it fuel (0, (true, (L, p))) (tS 0 z true L p y []) = some (tS 0 z true L p y is').2 := fun y z L p => by
      exact tf_bad (N := 0) (by omega) (0, (true, (L, p))) rfl z y L p 0 0 fuel [] rfl rfl (by unfold fuel; omega)
    rcases l with _ | ⟨c, r⟩
    · rw [reader_nil hT hb 2 h0 hl]
      simp only [Option.bind_some, rd1_bad, beq_self_eq_true, Bool.not_true, cond_false]
      obtain ⟨is', e⟩ := loop_bad (0, (0, (0, (0, 0)))) (0, (0, (0, (0, 0)))) [] 1
      have e' : wire_GetTell_l0_it fuel (0, (true, ([], 1))) (0, (0, (0, (0, (0, (0, (true, ([], (1, (0, (0, ((IntKind.wrap .u8 0), (0, (0, [])))))))))))))) = _ := e
      rw [e']
      rfl
    · rw [reader_ok hT hb (K := 2) (k := 2) rfl h0 hl]
      simp only [Option.bind_some]
      by_cases hc : c = 2
      · subst hc
        have e1 : decide ((2 : UInt8).toNat ≠ 2) = false := rfl
        rw [e1]
        obtain ⟨L, hL⟩ : ∃ L, L = (2 :: r : List UInt8) := ⟨_, rfl⟩
        have d1 : L.drop 1 = r := by rw [hL]; rfl
        have hp0 : 1 ≤ L.length := by rw [hL]; simp
        rw [← hL] at hlen ⊢
        have hbig : L.length < 4611686018427387904 := by omega
        have hun : tellOf L = whole (pTellB r) := by rw [hL]; exact tellOf_two r
        unfold pTellB at hun
        simp only [beq_self_eq_true, Bool.not_true, cond_false]
        rcases h1 : pNum 1099511627776 r with _ | ⟨n1, r1⟩
        · have hN : tellOf L = none := by rw [hun, h1]; rfl
          have q := rd1_none (M := 1099511627776) (most := 1099511627776) rfl hbig (by decide) hp0 (by rw [d1]; exact h1)
          have q' : wire_reader_1 fuel 1099511627776 false L 1 = _ := q
          rw [q', hN]
          simp only [Option.bind_some, rd1_bad]
          obtain ⟨is', e⟩ := loop_bad (0, (0, (IntKind.wrap .u8 0, (0, 0)))) (0, (0, (0, (0, 0)))) L ((1 : Nat) : Int)
          have e' : wire_GetTell_l0_it fuel (0, (true, (L, ((1 : Nat) : Int)))) (0, (0, (0, (0, (0, (0, (true, (L, (((1 : Nat) : Int), (0, (0, (IntKind.wrap .u8 0, (0, (0, [])))))))))))))) = _ := e
          rw [e']
          rfl
        have q := rd1_some (M := 1099511627776) (most := 1099511627776) rfl hbig (by decide) hp0 (by rw [d1]; exact h1)
        have q' : wire_reader_1 fuel 1099511627776 false L 1 = _ := q
        obtain ⟨_, _, _, d2, g2⟩ := getUint_some hp0 (by rw [d1]; exact h1)
        rw [q']
        simp only [Option.bind_some]
        clear q q'
        rcases h2 : pNum 1099511627776 r1 with _ | ⟨n2, r2⟩
        · have hN : tellOf L = none := by rw [hun, h1]; simp only [Option.bind_some, h2]; rfl
          rw [rd1_none (M := 1099511627776) (most := 1099511627776) rfl hbig (by decide) (Nat.sub_le _ _) (by rw [d2]; exact h2), hN]
          simp only [Option.bind_some, rd1_bad]
          obtain ⟨is', e⟩ := loop_bad ((n1 : Int), (0, (IntKind.wrap .u8 0, (0, 0)))) (0, (0, (0, (0, 0)))) L ((L.length - r1.length : Nat) : Int)
          have e' : wire_GetTell_l0_it fuel (0, (true, (L, ((L.length - r1.length : Nat) : Int)))) (0, (0, (0, (0, (0, (0, (true, (L, (((L.length - r1.length : Nat) : Int), ((n1 : Int), (0, (IntKind.wrap .u8 0, (0, (0, [])))))))))))))) = _ := e
          rw [e']
          rfl
        rw [rd1_some (M := 1099511627776) (most := 1099511627776) rfl hbig (by decide) (Nat.sub_le _ _) (by rw [d2]; exact h2)]
        obtain ⟨_, _, _, d3, g3⟩ := getUint_some (Nat.sub_le L.length r1.length) (by rw [d2]; exact h2)
        simp only [Option.bind_some]
        rcases h3 : pNum 9 r2 with _ | ⟨n3, r3⟩
        · have hN : tellOf L = none := by rw [hun, h1]; simp only [Option.bind_some, h2, h3]; rfl
          rw [rd1_none (M := 9) (most := 9) rfl hbig (by decide) (Nat.sub_le _ _) (by rw [d3]; exact h3), hN]
          simp only [Option.bind_some, rd1_bad]
          obtain ⟨is', e⟩ := loop_bad ((n1 : Int), ((n2 : Int), (IntKind.wrap .u8 0, (0, 0)))) (0, (0, (0, (0, 0)))) L ((L.length - r2.length : Nat) : Int)
          have e' : wire_GetTell_l0_it fuel (0, (true, (L, ((L.length - r2.length : Nat) : Int)))) (0, (0, (0, (0, (0, (0, (true, (L, (((L.length - r2.length : Nat) : Int), ((n1 : Int), ((n2 : Int), (IntKind.wrap .u8 0, (0, (0, [])))))))))))))) = _ := e
          rw [e']
          rfl
        rw [rd1_some (M := 9) (most := 9) rfl hbig (by decide) (Nat.sub_le _ _) (by rw [d3]; exact h3)]
        obtain ⟨_, _, _, d4, g4⟩ := getUint_some (Nat.sub_le L.length r2.length) (by rw [d3]; exact h3)
        simp only [Option.bind_some]
        rcases h4 : pNum 1000 r3 with _ | ⟨n4, r4⟩
        · have hN : tellOf L = none := by rw [hun, h1]; simp only [Option.bind_some, h2, h3, h4]; rfl
          rw [rd1_none (M := 1000) (most := 1000) rfl hbig (by decide) (Nat.sub_le _ _) (by rw [d4]; exact h4), hN]
          simp only [Option.bind_some, rd1_bad]
          obtain ⟨is', e⟩ := loop_bad ((n1 : Int), ((n2 : Int), (IntKind.wrap .u8 (n3 : Int), (0, 0)))) (0, (0, (0, (0, 0)))) L ((L.length - r3.length : Nat) : Int)
          have e' : wire_GetTell_l0_it fuel (0, (true, (L, ((L.length - r3.length : Nat) : Int)))) (0, (0, (0, (0, (0, (0, (true, (L, (((L.length - r3.length : Nat) : Int), ((n1 : Int), ((n2 : Int), (IntKind.wrap .u8 (n3 : Int), (0, (0, [])))))))))))))) = _ := e
          rw [e']
          rfl
        rw [rd1_some (M := 1000) (most := 1000) rfl hbig (by decide) (Nat.sub_le _ _) (by rw [d4]; exact h4)]
        obtain ⟨_, _, _, d5, g5⟩ := getUint_some (Nat.sub_le L.length r3.length) (by rw [d4]; exact h4)
        simp only [Option.bind_some]
        rcases h5 : pNum 65536 r4 with _ | ⟨n5, r5⟩
        · have hN : tellOf L = none := by rw [hun, h1]; simp only [Option.bind_some, h2, h3, h4, h5]; rfl
          rw [rd1_none (M := 65536) (most := 65536) rfl hbig (by decide) (Nat.sub_le _ _) (by rw [d5]; exact h5), hN]
          simp only [Option.bind_some, rd1_bad]
          obtain ⟨is', e⟩ := loop_bad ((n1 : Int), ((n2 : Int), (IntKind.wrap .u8 (n3 : Int), ((n4 : Int), 0)))) (0, (0, (0, (0, 0)))) L ((L.length - r4.length : Nat) : Int)
          have e' : wire_GetTell_l0_it fuel (0, (true, (L, ((L.length - r4.length : Nat) : Int)))) (0, (0, (0, (0, (0, (0, (true, (L, (((L.length - r4.length : Nat) : Int), ((n1 : Int), ((n2 : Int), (IntKind.wrap .u8 (n3 : Int), ((n4 : Int), (0, [])))))))))))))) = _ := e
          rw [e']
          rfl
        rw [rd1_some (M := 65536) (most := 65536) rfl hbig (by decide) (Nat.sub_le _ _) (by rw [d5]; exact h5)]
        obtain ⟨_, _, _, d6, g6⟩ := getUint_some (Nat.sub_le L.length r4.length) (by rw [d5]; exact h5)
        simp only [Option.bind_some]
        rcases h6 : pNum 50 r5 with _ | ⟨n6, r6⟩
        · have hN : tellOf L = none := by rw [hun, h1]; simp only [Option.bind_some, h2, h3, h4, h5, h6]; rfl
          rw [rd1_none (M := 50) (most := 50) rfl hbig (by decide) (Nat.sub_le _ _) (by rw [d6]; exact h6), hN]
          simp only [Option.bind_some]
          obtain ⟨is', e⟩ := loop_bad ((n1 : Int), ((n2 : Int), (IntKind.wrap .u8 (n3 : Int), ((n4 : Int), (n5 : Int))))) (0, (0, (0, (0, 0)))) L ((L.length - r5.length : Nat) : Int)
          have e' : wire_GetTell_l0_it fuel (0, (true, (L, ((L.length - r5.length : Nat) : Int)))) (0, (0, (0, (0, (0, (0, (true, (L, (((L.length - r5.length : Nat) : Int), ((n1 : Int), ((n2 : Int), (IntKind.wrap .u8 (n3 : Int), ((n4 : Int), ((n5 : Int), [])))))))))))))) = _ := e
          rw [e']
          rfl
        rw [rd1_some (M := 50) (most := 50) rfl hbig (by decide) (Nat.sub_le _ _) (by rw [d6]; exact h6)]
        obtain ⟨_, hn6, _, d7, g7⟩ := getUint_some (Nat.sub_le L.length r5.length) (by rw [d6]; exact h6)
        simp only [Option.bind_some]
        have hloop := tf_loop (N := n6) hn6 ((n6 : Int), (false, (L, ((L.length - r6.length : Nat) : Int)))) rfl (0, (0, (0, (0, 0)))) ((n1 : Int), ((n2 : Int), (IntKind.wrap .u8 (n3 : Int), ((n4 : Int), (n5 : Int))))) (L := L) (by omega) n6 0 fuel (L.length - r6.length) [] (by omega) rfl (by unfold fuel; omega) (Nat.sub_le _ _)
        rw [d7] at hloop
        rcases hloop with ⟨i1, p', is', i2⟩ | ⟨js, r7, i1, i2, d8, i4⟩
        · have hN : tellOf L = none := by rw [hun, h1]; simp only [Option.bind_some, h2, h3, h4, h5, h6, i1]; rfl
          have e' : wire_GetTell_l0_it fuel ((n6 : Int), (false, (L, ((L.length - r6.length : Nat) : Int)))) (0, (0, (0, (0, (0, (0, (false, (L, (((L.length - r6.length : Nat) : Int), ((n1 : Int), ((n2 : Int), (IntKind.wrap .u8 (n3 : Int), ((n4 : Int), ((n5 : Int), [])))))))))))))) = _ := i2
          rw [e', hN]
          rfl
        have e' : wire_GetTell_l0_it fuel ((n6 : Int), (false, (L, ((L.length - r6.length : Nat) : Int)))) (0, (0, (0, (0, (0, (0, (false, (L, (((L.length - r6.length : Nat) : Int), ((n1 : Int), ((n2 : Int), (IntKind.wrap .u8 (n3 : Int), ((n4 : Int), ((n5 : Int), [])))))))))))))) = _ := i4
        rw [e']
        simp only [Option.bind_some, tS, List.nil_append]
        rcases h8 : pBlob 65536 r7 with _ | ⟨s, r8⟩
        · have hN : tellOf L = none := by rw [hun, h1]; simp only [Option.bind_some, h2, h3, h4, h5, h6, i1, h8]; rfl
          rw [rd2_none (by omega) (Nat.sub_le _ _) (by rw [d8]; exact h8), hN]
          rfl
        rw [rd2_some (by omega) (Nat.sub_le _ _) (by rw [d8]; exact h8)]
        simp only [Option.bind_some]
        rw [byte_wrap, wrap_u8]
        simp only [Option.bind_some]
        have hjs : js.length ≤ 50 := by have := (pInfos_iff.1 i1).1; omega
        rw [rightTell_is (by simp only; omega)]
        simp only [Option.bind_some]
        obtain ⟨X, hX⟩ : ∃ X : P10.Tell, X = ((n1 : Int), ((n2 : Int), (UInt8.ofNat n3, ((n4 : Int), (js, (s, (n5 : Int))))))) := ⟨_, rfl⟩
        have hA : tellOf L = if r8 = [] then (if rightTell X = true then some X else none) else none := by
          rw [hun, h1]
          simp only [Option.bind_some, h2, h3, h4, h5, h6, i1, h8, ← hX]
          by_cases hr : rightTell X = true
          · simp only [if_pos hr]
            rcases r8 with _ | _ <;> rfl
          · simp only [if_neg hr]
            split <;> rfl
        rw [hA, ← hX]
        by_cases hr8 : r8 = []
        · rw [decide_eq_true hr8, if_pos hr8]
          by_cases hr : rightTell X = true
          · rw [if_pos hr, hr, hX]
            rfl
          · rw [if_neg hr]
            have : rightTell X = false := by simpa using hr
            rw [this]
            rfl
        · rw [decide_eq_false hr8, if_neg hr8]
          rfl
      · have hne : c.toNat ≠ 2 := fun h => hc (UInt8.toNat_inj.1 h)
        rw [tellOf_none hc, decide_eq_true hne]
        simp only [Option.bind_some, rd1_bad, beq_self_eq_true, Bool.not_true, cond_false]
        obtain ⟨is', e⟩ := loop_bad (0, (0, (IntKind.wrap .u8 0, (0, 0)))) (0, (0, (0, (0, 0)))) (c :: r) 1
        have e' : wire_GetTell_l0_it fuel (0, (true, (c :: r, 1))) (0, (0, (0, (0, (0, (0, (true, (c :: r, (1, (0, (0, (IntKind.wrap .u8 0, (0, (0, [])))))))))))))) = _ := e
        rw [e']
        rfl
  · rw [reader_err hT hb 2 h0, if_neg h0]
    have : ((((unsealed (P1.sum T) b).2 : Nat) : Int) == 0) = false := beq_eq_false_iff_ne.2 (by omega)
    simp only [Option.bind_some, this]
    rfl
end Go.Ab.D

/- Chapter 10: messages put, and held against each other. -/
set_option maxRecDepth 100000
namespace Go.Ab.D
open Go Go.Ab Go.P1 Go.P10
attribute [local irreducible] Go.P1.crcT tabI

/-- A loop over a list, with a list that grows. -/
theorem fold_loop {α : Type} (g : α → List UInt8) (s : List α) (h : List UInt8) (hs : s.length < 4611686018427387904) {f : Int × List UInt8 → Option ((Int × List UInt8) ⊕ List UInt8)}
    (h1 : ∀ (k : Nat) (hk : k < s.length) (l : List UInt8), l = h ++ (s.take k).flatMap g → f ((k : Int), l) = some (.inl (((k + 1 : Nat) : Int), l ++ g s[k])))
    (h2 : ∀ l, f (((s.length : Nat) : Int), l) = some (.inr l)) : iter fuel f (0, h) = some (h ++ s.flatMap g) := by
  have := iter_range (f := f) (o := h ++ s.flatMap g) (fun k => ((k : Int), h ++ (s.take k).flatMap g)) s.length hs
    (fun k hk => by
      show f ((k : Int), h ++ (s.take k).flatMap g) = _
      rw [h1 k hk _ rfl, List.take_succ_eq_append_getElem hk, List.flatMap_append, List.append_assoc]
      simp)
    (by rw [List.take_length]; exact h2 _)
  simpa using this
/-- Numbers as they are put. -/
def nums (l : List Int) : List UInt8 := l.flatMap vi
theorem put_is {l : List Int} (hl : l.length ≤ 100) (hn : ∀ n ∈ l, 0 ≤ n ∧ n ≤ 9223372036854775807) {h : List UInt8} (hh : h.length ≤ 100000000) : wire_put_o0 fuel l h = some (h ++ nums l) := by
  unfold wire_put_o0 wire_put_o0_l0_it
  have hlen : ∀ k, ((l.take k).flatMap vi).length ≤ 10 * l.length := fun k => by
    have : ∀ r : List Int, (∀ n ∈ r, 0 ≤ n ∧ n ≤ 9223372036854775807) → (r.flatMap vi).length ≤ 10 * r.length := fun r => by
      induction r with
      | nil => simp
      | cons n r ih =>
        intro hr
        have h0 := hr n (by simp)
        have := ih fun m hm => hr m (by simp [hm])
        have v := varint_len10 (n := n.toNat) (by omega)
        simp only [List.flatMap_cons, vi, List.length_append, List.length_cons] at this ⊢
        omega
    have h1 := this (l.take k) fun n hn' => hn n (List.mem_of_mem_take hn')
    have : (l.take k).length ≤ l.length := by simp; omega
    omega
  have e := fold_loop vi l h (by omega) (f := fun tt => wire_put_o0_l0 fuel l tt.1 tt.2)
    (fun k hk m hm => by
      have h0 := hn l[k] (List.getElem_mem hk)
      obtain ⟨n, hn'⟩ : ∃ n : Nat, l[k] = (n : Int) := ⟨l[k].toNat, by omega⟩
      have hg : l[k]? = some (n : Int) := by rw [List.getElem?_eq_getElem hk, hn']
      have hmlen : m.length + 10 ≤ 140737488355328 := by
        rw [hm, List.length_append]
        have := hlen k
        omega
      show wire_put_o0_l0 fuel l (k : Int) m = _
      unfold wire_put_o0_l0
      rw [decide_eq_true (by omega), idx_nat hk]
      simp only [cond_true, Option.bind_some, hg]
      rw [wu64 ⟨by omega, by omega⟩, uint_v1_is (by omega) hmlen]
      simp only [Option.bind_some]
      rw [w64 ⟨by omega, by omega⟩, hn']
      rfl)
    (fun m => by
      show wire_put_o0_l0 fuel l ((l.length : Nat) : Int) m = _
      unfold wire_put_o0_l0
      rw [decide_eq_false (by omega)]; rfl)
  rw [e]
  rfl
theorem putAsk_is {T : List Nat} (hT : Tab T) (a : P10.Ask) : wire_PutAsk fuel (tabI T) a = some (((putAsk T a).1 : Int), (putAsk T a).2) := by
  unfold wire_PutAsk putAsk
  simp only [byte_u8, Option.bind_some]
  have e : wire_RightAsk fuel (a.1, (a.2.1, (a.2.2.1, (a.2.2.2.1, (a.2.2.2.2.1, (a.2.2.2.2.2.1, a.2.2.2.2.2.2)))))) = some (rightAsk a) := rightAsk_is a
  rw [e]
  simp only [Option.bind_some]
  by_cases hr : rightAsk a = true
  · rw [if_pos hr, hr]
    have hf := rightAsk_fits hr
    have hlen := body_len hr
    obtain ⟨h1, h2, h3, h4, h5, h6, h7⟩ := hf
    have hc := a.2.2.1.toNat_lt
    rw [w64 ⟨by omega, by omega⟩]
    have hb : [UInt8.ofNat 1] ++ nums [a.1, a.2.1, ((a.2.2.1.toNat : Nat) : Int), a.2.2.2.1, a.2.2.2.2.1, a.2.2.2.2.2.1] ++ varint a.2.2.2.2.2.2.length ++ a.2.2.2.2.2.2 = askBody a := by
      simp only [nums, List.flatMap_cons, List.flatMap_nil, askBody, blobB, List.append_nil, List.append_assoc, List.singleton_append, List.cons_append, vi_nat]
      rfl
    have hl : ([UInt8.ofNat 1] ++ nums [a.1, a.2.1, ((a.2.2.1.toNat : Nat) : Int), a.2.2.2.1, a.2.2.2.2.1, a.2.2.2.2.2.1]).length ≤ 70000 := by
      rw [← hb] at hlen
      simp only [List.length_append] at hlen ⊢
      omega
    simp only [Bool.not_true, cond_false]
    rw [put_is (by simp) (by
      intro n hn
      simp only [List.mem_cons, List.mem_nil_iff, or_false] at hn
      rcases hn with rfl | rfl | rfl | rfl | rfl | rfl <;> omega) (by simp)]
    simp only [Option.bind_some]
    rw [blob_v1_is (by omega), hb]
    simp only [Option.bind_some]
    rw [seal_is hT (by omega)]
    rfl
  · rw [if_neg hr]
    have : rightAsk a = false := by simpa using hr
    rw [this]
    rfl
abbrev PT := Int × (Int × (Int × (Int × (Int × (List P10.Info × (List UInt8 × (Int × List UInt8)))))))
theorem putInfos_is {x : P10.Tell} (hx : ∀ i ∈ x.2.2.2.2.1, inR i) (hl : x.2.2.2.2.1.length ≤ 50) {h : List UInt8} (hh : h.length ≤ 1000000) (z1 z2 z3 z4 : Int) (z5 : List P10.Info) (z6 : List UInt8) (z7 : Int) :
    wire_PutTell_l0_it fuel x (0, (z1, (z2, (z3, (z4, (z5, (z6, (z7, h)))))))) = some (z1, (z2, (z3, (z4, (z5, (z6, (z7, h ++ x.2.2.2.2.1.flatMap infoB))))))) := by
  unfold wire_PutTell_l0_it
  obtain ⟨is, his⟩ : ∃ is, x.2.2.2.2.1 = is := ⟨_, rfl⟩
  have := iter_range (f := fun (tt : PT) => wire_PutTell_l0 fuel x tt.1 tt.2.1 tt.2.2.1 tt.2.2.2.1 tt.2.2.2.2.1 tt.2.2.2.2.2.1 tt.2.2.2.2.2.2.1 tt.2.2.2.2.2.2.2.1 tt.2.2.2.2.2.2.2.2) (o := (z1, (z2, (z3, (z4, (z5, (z6, (z7, h ++ is.flatMap infoB))))))))
    (fun k => ((k : Int), (z1, (z2, (z3, (z4, (z5, (z6, (z7, h ++ (is.take k).flatMap infoB))))))))) is.length (by rw [his] at hl; omega)
    (fun k hk => by
      show wire_PutTell_l0 fuel x (k : Int) z1 z2 z3 z4 z5 z6 z7 (h ++ (is.take k).flatMap infoB) = _
      rw [his] at hx hl
      have hi := hx is[k] (List.getElem_mem hk)
      have hlen := infos_len (is := is.take k) fun i hi => hx i (List.mem_of_mem_take hi)
      have htk : (is.take k).length ≤ is.length := by simp; omega
      unfold wire_PutTell_l0
      rw [his, decide_eq_true (by omega), idx_nat hk]
      simp only [cond_true, Option.bind_some, List.getElem?_eq_getElem hk]
      obtain ⟨i, hik⟩ : ∃ i, is[k] = i := ⟨_, rfl⟩
      rw [hik] at hi ⊢
      obtain ⟨g1, g2, g3, g4⟩ := hi
      rw [w64 (x := ((i.2.2.2.toNat : Nat) : Int)) ⟨by omega, by omega⟩]
      rw [put_is (by simp) (by
        intro n hn
        simp only [List.mem_cons, List.mem_nil_iff, or_false] at hn
        rcases hn with rfl | rfl | rfl | rfl <;> omega) (by simp only [List.length_append]; omega)]
      simp only [Option.bind_some]
      rw [w64 ⟨by omega, by omega⟩, List.take_succ_eq_append_getElem hk, hik, List.flatMap_append, List.append_assoc]
      simp only [nums, List.flatMap_cons, List.flatMap_nil, infoB, vi_nat, List.append_nil]
      rfl)
    (by
      show wire_PutTell_l0 fuel x ((is.length : Nat) : Int) z1 z2 z3 z4 z5 z6 z7 (h ++ (is.take is.length).flatMap infoB) = _
      rw [List.take_length]
      unfold wire_PutTell_l0
      rw [his, decide_eq_false (by omega)]
      rfl)
  rw [his]
  simpa using this
theorem putTell_is {T : List Nat} (hT : Tab T) {x : P10.Tell} (hx : x.2.2.2.2.1.length < 4611686018427387904) : wire_PutTell fuel (tabI T) x = some (((putTell T x).1 : Int), (putTell T x).2) := by
  unfold wire_PutTell putTell
  simp only [byte_u8, Option.bind_some]
  have e : wire_RightTell fuel (x.1, (x.2.1, (x.2.2.1, (x.2.2.2.1, (x.2.2.2.2.1, (x.2.2.2.2.2.1, x.2.2.2.2.2.2)))))) = some (rightTell x) := rightTell_is (x := x) hx
  rw [e]
  simp only [Option.bind_some]
  by_cases hr : rightTell x = true
  · rw [if_pos hr, hr]
    have hf := rightTell_fits hr
    have hlen := tell_len hr
    obtain ⟨h1, h2, h3, h4, h5, h6, h7⟩ := hf
    have hc := x.2.2.1.toNat_lt
    rw [w64 (x := ((x.2.2.1.toNat : Nat) : Int)) ⟨by omega, by omega⟩]
    have hb : [UInt8.ofNat 2] ++ nums [x.1, x.2.1, ((x.2.2.1.toNat : Nat) : Int), x.2.2.2.1, x.2.2.2.2.2.2, ((x.2.2.2.2.1.length : Nat) : Int)] ++ x.2.2.2.2.1.flatMap infoB ++ varint x.2.2.2.2.2.1.length ++ x.2.2.2.2.2.1 = tellBody x := by
      simp only [nums, List.flatMap_cons, List.flatMap_nil, tellBody, blobB, List.append_nil, List.append_assoc, List.singleton_append, List.cons_append, vi_nat]
      rfl
    have hl : ([UInt8.ofNat 2] ++ nums [x.1, x.2.1, ((x.2.2.1.toNat : Nat) : Int), x.2.2.2.1, x.2.2.2.2.2.2, ((x.2.2.2.2.1.length : Nat) : Int)] ++ x.2.2.2.2.1.flatMap infoB).length ≤ 70000 := by
      rw [← hb] at hlen
      simp only [List.length_append] at hlen ⊢
      omega
    simp only [Bool.not_true, cond_false]
    rw [put_is (by simp) (by
      intro n hn
      simp only [List.mem_cons, List.mem_nil_iff, or_false] at hn
      rcases hn with rfl | rfl | rfl | rfl | rfl | rfl <;> omega) (by simp)]
    simp only [Option.bind_some]
    rw [putInfos_is h5.2 h5.1 (by simp only [List.length_append] at hl ⊢; omega)]
    simp only [Option.bind_some]
    rw [blob_v1_is (by omega), hb]
    simp only [Option.bind_some]
    rw [seal_is hT (by omega)]
    rfl
  · rw [if_neg hr]
    have : rightTell x = false := by simpa using hr
    rw [this]
    rfl

/-! Held against each other -/
theorem beqI (a b : Int) : (a == b) = decide (a = b) := rfl
theorem u8_eq (a b : UInt8) : (((a.toNat : Nat) : Int) == ((b.toNat : Nat) : Int)) = decide (a = b) := by
  by_cases h : a = b
  · subst h; simp
  · rw [decide_eq_false h]
    refine beq_eq_false_iff_ne.2 fun e => h (UInt8.toNat_inj.1 (by omega))
theorem u8_eq' (a b : UInt8) : decide (((a.toNat : Nat) : Int) = ((b.toNat : Nat) : Int)) = decide (a = b) := u8_eq a b
theorem sameBytes_is (a b : List UInt8) : low_SameBytes fuel a b = some (decide (a = b)) := by
  unfold low_SameBytes
  by_cases h : a = b
  · subst h; simp
  · rw [decide_eq_false h, beq_eq_false_iff_ne.2 h]
theorem sameAsk_is (a b : P10.Ask) : low_SameAsk fuel a b = some (decide (a = b)) := by
  obtain ⟨a1, a2, a3, a4, a5, a6, a7⟩ := a
  obtain ⟨b1, b2, b3, b4, b5, b6, b7⟩ := b
  unfold low_SameAsk
  simp only [sameBytes_is, Option.bind_some, bif_some, bif_false, u8_eq', beqI]
  congr 1
  simp only [Prod.mk.injEq, Bool.decide_and]
theorem sameInfos_is {a b : List P10.Info} (ha : a.length < 4611686018427387904) : low_SameInfos fuel a b = some (decide (a = b)) := by
  unfold low_SameInfos
  by_cases hl : a.length = b.length
  · have e : ((((a.length : Nat) : Int)) == ((b.length : Nat) : Int)) = true := beq_iff_eq.2 (by omega)
    rw [e]
    simp only [Bool.not_true, cond_false]
    unfold low_SameInfos_l0_it
    have step : ∀ (k : Nat) (hk : k < a.length), low_SameInfos_l0 fuel a b (k : Int) = if a[k] = b[k]'(by omega) then some (.inl ((k + 1 : Nat) : Int)) else some (.inr (.inr false)) := fun k hk => by
      unfold low_SameInfos_l0
      rw [decide_eq_true (by omega), idx_nat hk, idx_nat (show k < b.length by omega)]
      simp only [cond_true, Option.bind_some, List.getElem?_eq_getElem hk, List.getElem?_eq_getElem (show k < b.length by omega)]
      rw [w64 ⟨by omega, by omega⟩]
      have e : ((a[k].1 == (b[k]'(by omega)).1) && ((a[k].2.1 == (b[k]'(by omega)).2.1) && ((a[k].2.2.1 == (b[k]'(by omega)).2.2.1) && (a[k].2.2.2 == (b[k]'(by omega)).2.2.2)))) = decide (a[k] = b[k]'(by omega)) := by
        obtain ⟨x1, x2, x3, x4⟩ := a[k]
        obtain ⟨y1, y2, y3, y4⟩ := b[k]'(by omega)
        simp only [Prod.mk.injEq, Bool.decide_and, beqI]
        congr 3
      rw [e]
      by_cases h : a[k] = b[k]'(by omega)
      · rw [if_pos h, decide_eq_true h]; rfl
      · rw [if_neg h, decide_eq_false h]; rfl
    have last : low_SameInfos_l0 fuel a b ((a.length : Nat) : Int) = some (.inr (.inl ())) := by
      unfold low_SameInfos_l0
      rw [decide_eq_false (by omega)]; rfl
    have main : ∀ (rem k m : Nat), k + rem = a.length → rem < m → a.take k = b.take k → ∃ o, iter m (fun tt => low_SameInfos_l0 fuel a b tt) (k : Int) = some o ∧ ((o = .inl () ∧ a = b) ∨ (o = .inr false ∧ a ≠ b)) := fun rem => by
      induction rem with
      | zero =>
        intro k m hk hm hp
        obtain ⟨m, rfl⟩ : ∃ j, m = j + 1 := ⟨m - 1, by omega⟩
        obtain rfl : k = a.length := by omega
        refine ⟨.inl (), ?_, .inl ⟨rfl, ?_⟩⟩
        · show (low_SameInfos_l0 fuel a b ((a.length : Nat) : Int)).ob _ = _
          rw [last]; rfl
        · rw [List.take_length] at hp
          rw [hp, hl, List.take_length]
      | succ rem ih =>
        intro k m hk hm hp
        obtain ⟨m, rfl⟩ : ∃ j, m = j + 1 := ⟨m - 1, by omega⟩
        have hlt : k < a.length := by omega
        by_cases h : a[k] = b[k]'(by omega)
        · obtain ⟨o, e, ho⟩ := ih (k + 1) m (by omega) (by omega) (by rw [List.take_succ_eq_append_getElem hlt, List.take_succ_eq_append_getElem (show k < b.length by omega), hp, h])
          refine ⟨o, ?_, ho⟩
          show (low_SameInfos_l0 fuel a b (k : Int)).ob _ = _
          rw [step k hlt, if_pos h]
          exact e
        · refine ⟨.inr false, ?_, .inr ⟨rfl, fun e => h (by subst e; rfl)⟩⟩
          show (low_SameInfos_l0 fuel a b (k : Int)).ob _ = _
          rw [step k hlt, if_neg h]; rfl
    obtain ⟨o, e, ho⟩ := main a.length 0 fuel (by omega) (by unfold fuel; omega) rfl
    have e' : iter fuel (fun tt => low_SameInfos_l0 fuel a b tt) 0 = some o := e
    rw [e']
    rcases ho with ⟨rfl, h⟩ | ⟨rfl, h⟩
    · rw [decide_eq_true h]; rfl
    · rw [decide_eq_false h]; rfl
  · have e : ((((a.length : Nat) : Int)) == ((b.length : Nat) : Int)) = false := beq_eq_false_iff_ne.2 (by omega)
    rw [e, decide_eq_false fun h => hl (by rw [h])]
    rfl
theorem sameTell_is {a b : P10.Tell} (ha : a.2.2.2.2.1.length < 4611686018427387904) : low_SameTell fuel a b = some (decide (a = b)) := by
  obtain ⟨a1, a2, a3, a4, a5, a6, a7⟩ := a
  obtain ⟨b1, b2, b3, b4, b5, b6, b7⟩ := b
  unfold low_SameTell
  simp only at ha
  simp only [sameBytes_is, sameInfos_is ha, Option.bind_some, bif_some, bif_false, u8_eq', beqI]
  congr 1
  simp only [Prod.mk.injEq, Bool.decide_and]
theorem small_is (a : P10.Ask) (x : P10.Tell) (b : List UInt8) : law10_small fuel a x b = some (decide (a.2.2.2.2.2.2.length ≤ 500 ∧ x.2.2.2.2.2.1.length ≤ 500 ∧ x.2.2.2.2.1.length ≤ 60 ∧ b.length ≤ 1000)) := by
  unfold law10_small
  simp only [bif_some, bif_false, Bool.decide_and]
  have e : ∀ (n : Nat) (k : Nat), decide (((n : Nat) : Int) ≤ (k : Int)) = decide (n ≤ k) := fun n k => by
    by_cases h : n ≤ k
    · rw [decide_eq_true h, decide_eq_true (by omega)]
    · rw [decide_eq_false h, decide_eq_false (by omega)]
  congr 1
  rw [show ((500 : Int)) = ((500 : Nat) : Int) from rfl, show ((60 : Int)) = ((60 : Nat) : Int) from rfl, show ((1000 : Int)) = ((1000 : Nat) : Int) from rfl, e, e, e, e]
theorem awake10 : law10_awake fuel = some true := law10_awake_true
theorem crc_len : (tabI crcT).length = 256 := by rw [tabI_len]; exact crcT_tab.1
end Go.Ab.D

/- The document's layer 1: what the decompiled functions are. -/
set_option maxRecDepth 100000
namespace Go.Ab.D
open Go.P1
attribute [local irreducible] Go.P1.crcT tabI

theorem joined_is {a b : List UInt8} (h : a.length + b.length ≤ 140737488355328) : ref01_joined fuel a b = some (a ++ b) := by
  unfold ref01_joined
  rw [need_true (ble_true (by unfold Go.Ab.room; omega)), need_true (ble_true (by rw [List.length_append]; unfold Go.Ab.room; omega))]
def rvarF (tt : Int × List UInt8) : Option ((Int × List UInt8) ⊕ List UInt8) := ref01_Varint_l0 fuel tt.1 tt.2
theorem rvar_room {l : List UInt8} (hl : l.length + 1 ≤ 140737488355328) : (Nat.ble ((l.length + 1) * 1) Go.Ab.room && Nat.ble (l.length + 1) Go.Ab.room) = true := by
  rw [Nat.mul_one, ble_true (by unfold Go.Ab.room; omega)]; rfl
theorem rvar_loop : ∀ (n m : Nat) (l : List UInt8), n < 18446744073709551616 → (varint n).length ≤ m → l.length + (varint n).length ≤ 140737488355328 → iter m rvarF ((n : Int), l) = some (l ++ varint n) := fun n => by
  induction n using Nat.strongRecOn with
  | _ n ih =>
    intro m l hn hm hl
    by_cases h : n < 128
    · rw [varint_lt h] at hm hl ⊢
      obtain ⟨m, rfl⟩ : ∃ k, m = k + 1 := ⟨m - 1, by simp at hm; omega⟩
      show (rvarF _).ob _ = _
      have : rvarF ((n : Int), l) = some (.inr (l ++ [UInt8.ofNat n])) := by
        show ref01_Varint_l0 fuel (n : Int) l = _
        unfold ref01_Varint_l0
        rw [decide_eq_true (by omega), wu8 ⟨by omega, by omega⟩, byte_nat (by omega)]
        simp only [cond_true, Option.bind_some]
        rw [need_true (rvar_room (by simp at hl; omega))]
      rw [this]
      rfl
    · have h' : 128 ≤ n := by omega
      rw [varint_ge h'] at hm hl ⊢
      simp only [List.length_cons] at hm hl
      obtain ⟨m, rfl⟩ : ∃ k, m = k + 1 := ⟨m - 1, by omega⟩
      have hp := varint_pos (n / 128)
      have q1 := ih (n / 128) (by omega) m (l ++ [UInt8.ofNat (n % 128 + 128)]) (by omega) (by omega) (by simp; omega)
      show (rvarF _).ob _ = _
      have : rvarF ((n : Int), l) = some (.inl (((n / 128 : Nat) : Int), l ++ [UInt8.ofNat (n % 128 + 128)])) := by
        show ref01_Varint_l0 fuel (n : Int) l = _
        unfold ref01_Varint_l0
        have e1 : Int.tmod (n : Int) 128 = ((n % 128 : Nat) : Int) := rfl
        have e2 : Int.tdiv (n : Int) 128 = ((n / 128 : Nat) : Int) := rfl
        have e3 : IntKind.wrap .u8 (IntKind.wrap .u8 ((n % 128 : Nat) : Int) + 128) = ((n % 128 + 128 : Nat) : Int) := by
          rw [wu8 (x := ((n % 128 : Nat) : Int)) ⟨by omega, by omega⟩, wu8 ⟨by omega, by omega⟩]; omega
        rw [decide_eq_false (by omega), e1, e2, e3, byte_nat (by omega)]
        simp only [cond_false, Option.bind_some]
        rw [need_true (rvar_room (by omega)), wu64 ⟨by omega, by omega⟩]
      rw [this]
      show iter m rvarF _ = _
      rw [q1, List.append_assoc]
      rfl
theorem rvarint_is {n : Nat} (hn : n < 18446744073709551616) : ref01_Varint fuel (n : Int) = some (varint n) := by
  unfold ref01_Varint ref01_Varint_l0_it
  have h10 := varint_len10 hn
  have q : iter fuel (fun tt => ref01_Varint_l0 fuel tt.1 tt.2) ((n : Int), []) = some (varint n) := rvar_loop n fuel [] hn (by unfold fuel; omega) (by simp; omega)
  rw [q]
  rfl
theorem ruint_is {n : Nat} (hn : n < 18446744073709551616) {l : List UInt8} (hl : l.length + 10 ≤ 140737488355328) : ref01_Uint fuel l (n : Int) = some (l ++ varint n) := by
  unfold ref01_Uint
  have h10 := varint_len10 hn
  rw [rvarint_is hn]
  simp only [Option.bind_some]
  rw [joined_is (by omega)]
  rfl
theorem rblob_is {l b : List UInt8} (hl : l.length + b.length + 10 ≤ 140737488355328) : ref01_Blob fuel l b = some (l ++ varint b.length ++ b) := by
  unfold ref01_Blob
  have h10 := varint_len10 (n := b.length) (by omega)
  rw [wu64 ⟨by omega, by omega⟩, ruint_is (by omega) (by omega)]
  simp only [Option.bind_some]
  rw [joined_is (by rw [List.length_append]; omega)]
  rfl
theorem rsum_step {T : List Nat} (h : Tab T) {b : List UInt8} (s k : Nat) (hk : k < b.length) (hb : b.length < 9223372036854775807) (hs : s < 4294967296) :
    ref01_Sum_l0 fuel b (tabI T) (s : Int) (k : Int) = some (.inl (((P1.step T s b[k] : Nat) : Int), ((k + 1 : Nat) : Int))) := by
  unfold ref01_Sum_l0
  have hc := b[k].toNat_lt
  have hm : s % 256 < 256 := Nat.mod_lt _ (by omega)
  have hx : s % 256 ^^^ b[k].toNat < 256 := xor_lt8 hm hc
  have e1 : Int.tmod (s : Int) 256 = ((s % 256 : Nat) : Int) := rfl
  have e2 : Int.tdiv (s : Int) 256 = ((s / 256 : Nat) : Int) := rfl
  have e4 : IntKind.wrap .u32 ((b[k].toNat : Nat) : Int) = ((b[k].toNat : Nat) : Int) := wu32 ⟨by omega, by omega⟩
  have e5 : IntKind.wrap .u32 ((s / 256 : Nat) : Int) = ((s / 256 : Nat) : Int) := wu32 ⟨by omega, by omega⟩
  have e3 : IntKind.wrap .i64 ((k : Int) + 1) = ((k + 1 : Nat) : Int) := by rw [w64 ⟨by omega, by omega⟩]; omega
  have ht := h.lt (s % 256 ^^^ b[k].toNat)
  rw [decide_eq_true (by omega), idx_nat hk]
  simp only [cond_true, Option.bind_some, List.getElem?_eq_getElem hk, e1, e2, e4, e5, xor32 (show s % 256 < 4294967296 by omega) (show b[k].toNat < 4294967296 by omega)]
  rw [idx_nat hx]
  simp only [Option.bind_some, tabI_get h hx, e3]
  rw [xor32 (by omega) ht]
  rfl
theorem rsum_is {T : List Nat} (h : Tab T) {b : List UInt8} (hb : b.length < 4611686018427387904) : ref01_Sum fuel (tabI T) b = some ((P1.sum T b : Nat) : Int) := by
  unfold ref01_Sum ref01_Sum_l0_it
  have e : iter fuel (fun tt => ref01_Sum_l0 fuel b (tabI T) tt.1 tt.2) (4294967295, 0) = some ((P1.run T 4294967295 b : Nat) : Int) := by
    have := iter_range (f := fun (tt : Int × Int) => ref01_Sum_l0 fuel b (tabI T) tt.1 tt.2) (o := ((P1.run T 4294967295 b : Nat) : Int)) (fun k => (((P1.run T 4294967295 (b.take k) : Nat) : Int), (k : Int))) b.length hb
      (fun k hk => by
        show ref01_Sum_l0 fuel b (tabI T) (((P1.run T 4294967295 (b.take k) : Nat) : Int)) (k : Int) = _
        rw [rsum_step h _ k hk (by omega) (P1.run_lt h _ (by omega))]
        rw [List.take_succ_eq_append_getElem hk, P1.run_snoc])
      (by
        simp only [List.take_length]
        unfold ref01_Sum_l0
        rw [decide_eq_false (by omega)]
        rfl)
    simpa [P1.run] using this
  rw [e]
  have hl := P1.run_lt h b (s := 4294967295) (by omega)
  simp only [Option.bind_some]
  rw [wu32 ⟨by omega, by omega⟩]
  congr 1
  unfold P1.sum
  omega
theorem rseal_is {T : List Nat} (h : Tab T) {b : List UInt8} (hb : b.length + 4 ≤ 140737488355328) : ref01_Seal fuel (tabI T) b = some (sealed (P1.sum T) b) := by
  unfold ref01_Seal
  rw [rsum_is h (by omega)]
  simp only [Option.bind_some]
  have hs := P1.sum_lt T b
  obtain ⟨s, hsv⟩ : ∃ s, P1.sum T b = s := ⟨_, rfl⟩
  rw [hsv] at hs ⊢
  have e : ∀ d : Nat, 0 < d → byte? (IntKind.wrap .u8 (IntKind.wrap .u32 (Int.tdiv (s : Int) (d : Int)))) = some (UInt8.ofNat (s / d)) := fun d hd => by
    have e1 : Int.tdiv (s : Int) (d : Int) = ((s / d : Nat) : Int) := rfl
    have hle : s / d ≤ s := Nat.div_le_self _ _
    rw [e1]
    generalize s / d = x at hle ⊢
    rw [wu32 ⟨by omega, by omega⟩, wu8_mod]
    have e2 : ((x : Int) % 256) = ((x % 256 : Nat) : Int) := by omega
    rw [e2, byte_nat (Nat.mod_lt _ (by omega))]
    congr 1
    apply UInt8.toNat_inj.1
    simp
  have e0 : byte? (IntKind.wrap .u8 (s : Int)) = some (UInt8.ofNat s) := by
    rw [wu8_mod]
    have e2 : ((s : Int) % 256) = ((s % 256 : Nat) : Int) := by omega
    rw [e2, byte_nat (Nat.mod_lt _ (by omega))]
    congr 1
    apply UInt8.toNat_inj.1
    simp
  have e1 := e 16777216 (by omega)
  have e2 := e 65536 (by omega)
  have e3 := e 256 (by omega)
  have e1' : byte? (IntKind.wrap .u8 (IntKind.wrap .u32 (Int.tdiv (s : Int) 16777216))) = some (UInt8.ofNat (s / 16777216)) := e1
  have e2' : byte? (IntKind.wrap .u8 (IntKind.wrap .u32 (Int.tdiv (s : Int) 65536))) = some (UInt8.ofNat (s / 65536)) := e2
  have e3' : byte? (IntKind.wrap .u8 (IntKind.wrap .u32 (Int.tdiv (s : Int) 256))) = some (UInt8.ofNat (s / 256)) := e3
  rw [e1', e2', e3', e0]
  simp only [Option.bind_some]
  rw [joined_is (by simp; omega)]
  simp only [Option.bind_some]
  unfold sealed be4
  rw [hsv]
theorem runseal_is {T : List Nat} (h : Tab T) {b : List UInt8} (hb : b.length ≤ 140737488355328) : ref01_Unseal fuel (tabI T) b = some ((unsealed (P1.sum T) b).1, (((unsealed (P1.sum T) b).2 : Nat) : Int)) := by
  unfold ref01_Unseal
  by_cases h4 : b.length < 4
  · rw [decide_eq_true (by omega), unsealed_short _ h4]
    rfl
  · rw [decide_eq_false (by omega)]
    have e0 : IntKind.wrap .i64 (((b.length : Nat) : Int) - 4) = ((b.length - 4 : Nat) : Int) := by rw [w64 ⟨by omega, by omega⟩]; omega
    have hl : (b.take (b.length - 4)).length = b.length - 4 := by simp
    simp only [cond_false]
    rw [e0, upto_nat (by omega)]
    simp only [Option.bind_some]
    rw [joined_is (by rw [hl]; simp; omega), List.nil_append]
    simp only [Option.bind_some]
    rw [rseal_is h (by rw [hl]; omega)]
    simp only [Option.bind_some]
    rw [unsealed_is _ (by omega)]
    by_cases he : sealed (P1.sum T) (b.take (b.length - 4)) = b
    · rw [if_pos he]
      simp [he]
    · rw [if_neg he]
      have : (sealed (P1.sum T) (b.take (b.length - 4)) == b) = false := by simpa using he
      rw [this]
      rfl
def rgetF (at_ : Int) (b : List UInt8) (tt : Int × (Int × Int)) : Option ((Int × (Int × Int)) ⊕ (Int × (Int × Int))) := ref01_GetUint_l0 fuel at_ b tt.1 tt.2.1 tt.2.2
def rgetRes (at_ : Nat) (r : Nat × Nat × Nat) : Int × (Int × Int) := if r.2.2 = 0 then ((r.1 : Int), (((at_ + r.2.1 : Nat) : Int), 0)) else (0, (0, ((r.2.2 : Nat) : Int)))
theorem pow_le63 {k : Nat} (hk : k ≤ 9) : 2 ^ (7 * k) ≤ 9223372036854775808 := P1.wlt hk
theorem rget_step {b : List UInt8} {at_ k n : Nat} (hb : b.length < 4611686018427387904) (hk : k ≤ 9) (hn : n < 2 ^ (7 * k)) (hlt : at_ + k < b.length) :
    rgetF (at_ : Int) b ((n : Int), (((2 ^ (7 * k) : Nat) : Int), (k : Int))) =
      if (0 < k ∧ b[at_ + k].toNat = 0) ∨ (8 < k ∧ 1 < b[at_ + k].toNat) then some (.inr (0, (0, 10)))
      else if b[at_ + k].toNat < 128 then some (.inr (((n + b[at_ + k].toNat % 128 * 2 ^ (7 * k) : Nat) : Int), (((at_ + k + 1 : Nat) : Int), 0)))
      else some (.inl (((n + b[at_ + k].toNat % 128 * 2 ^ (7 * k) : Nat) : Int), (IntKind.wrap .u64 (((2 ^ (7 * k) : Nat) : Int) * 128), ((k + 1 : Nat) : Int)))) := by
  show ref01_GetUint_l0 fuel (at_ : Int) b (n : Int) ((2 ^ (7 * k) : Nat) : Int) (k : Int) = _
  unfold ref01_GetUint_l0
  obtain ⟨c, hcc⟩ : ∃ c, b[at_ + k] = c := ⟨_, rfl⟩
  have hc8 := c.toNat_lt
  have e1 : IntKind.wrap .i64 ((at_ : Int) + (k : Int)) = ((at_ + k : Nat) : Int) := by rw [w64 ⟨by omega, by omega⟩]; omega
  have ek : IntKind.wrap .i64 ((k : Int) + 1) = ((k + 1 : Nat) : Int) := by rw [w64 ⟨by omega, by omega⟩]; omega
  have ne : ((((at_ + k : Nat) : Int)) == ((b.length : Nat) : Int)) = false := beq_eq_false_iff_ne.2 (by omega)
  rw [e1, ne, idx_nat hlt, ek]
  simp only [cond_false, Option.bind_some, List.getElem?_eq_getElem hlt, hcc]
  have hz : (((c.toNat : Nat) : Int) == 0) = decide (c.toNat = 0) := by
    by_cases h : c.toNat = 0
    · simp [h]
    · rw [decide_eq_false h, beq_eq_false_iff_ne]; omega
  have h10 : ((((k + 1 : Nat) : Int)) == 10) = decide (8 < k) := by
    by_cases h : k = 9
    · subst h; rfl
    · rw [decide_eq_false (by omega), beq_eq_false_iff_ne]; omega
  have hk1 : decide ((((k + 1 : Nat) : Int)) > 1) = decide (0 < k) := by
    by_cases h : 0 < k
    · rw [decide_eq_true h, decide_eq_true (by omega)]
    · rw [decide_eq_false h, decide_eq_false (by omega)]
  rw [hz, h10, hk1]
  have hguard : (bif decide (0 < k) then bif decide (c.toNat = 0) then some true else bif decide (8 < k) then some (decide (((c.toNat : Nat) : Int) > 1)) else some false
      else bif decide (8 < k) then some (decide (((c.toNat : Nat) : Int) > 1)) else some false) = some (decide ((0 < k ∧ c.toNat = 0) ∨ (8 < k ∧ 1 < c.toNat))) := by
    have e : decide (((c.toNat : Nat) : Int) > 1) = decide (1 < c.toNat) := by
      by_cases h : 1 < c.toNat
      · rw [decide_eq_true h, decide_eq_true (by omega)]
      · rw [decide_eq_false h, decide_eq_false (by omega)]
    rw [e]
    by_cases h1 : 0 < k <;> by_cases h2 : c.toNat = 0 <;> by_cases h3 : 8 < k <;> simp [h1, h2, h3]
  rw [hguard]
  simp only [Option.bind_some]
  have hp := pow_le63 hk
  by_cases hbad : (0 < k ∧ c.toNat = 0) ∨ (8 < k ∧ 1 < c.toNat)
  · rw [if_pos hbad, decide_eq_true hbad]
    rfl
  · rw [if_neg hbad, decide_eq_false hbad]
    have hroom := P1.room n c.toNat k hk hn (fun h8 => by omega)
    have ep : (((2 ^ (7 * k) : Nat) : Int)) * ((c.toNat % 128 : Nat) : Int) = ((c.toNat % 128 * 2 ^ (7 * k) : Nat) : Int) := by rw [Int.mul_comm, ← Int.natCast_mul]
    have e2 : IntKind.wrap .i64 ((at_ : Int) + ((k + 1 : Nat) : Int)) = ((at_ + k + 1 : Nat) : Int) := by rw [w64 ⟨by omega, by omega⟩]; omega
    simp only [cond_false]
    by_cases h128 : c.toNat < 128
    · have em : c.toNat % 128 = c.toNat := Nat.mod_eq_of_lt h128
      have ew : IntKind.wrap .u64 ((n : Int) + IntKind.wrap .u64 (((2 ^ (7 * k) : Nat) : Int) * IntKind.wrap .u64 ((c.toNat : Nat) : Int))) = ((n + c.toNat % 128 * 2 ^ (7 * k) : Nat) : Int) := by
        rw [wu64 (x := ((c.toNat : Nat) : Int)) ⟨by omega, by omega⟩]
        rw [em] at ep hroom ⊢
        rw [ep, wu64 (x := ((c.toNat * 2 ^ (7 * k) : Nat) : Int)) ⟨by omega, by omega⟩, wu64 ⟨by omega, by omega⟩]
        omega
      rw [if_pos h128, decide_eq_true (show ((c.toNat : Nat) : Int) < 128 by omega), ew, e2]
      rfl
    · have em : IntKind.wrap .u8 (((c.toNat : Nat) : Int) - 128) = ((c.toNat % 128 : Nat) : Int) := by rw [wu8 ⟨by omega, by omega⟩]; omega
      have hm : c.toNat % 128 < 128 := Nat.mod_lt _ (by omega)
      have ew : IntKind.wrap .u64 ((n : Int) + IntKind.wrap .u64 (((2 ^ (7 * k) : Nat) : Int) * IntKind.wrap .u64 (IntKind.wrap .u8 (((c.toNat : Nat) : Int) - 128)))) = ((n + c.toNat % 128 * 2 ^ (7 * k) : Nat) : Int) := by
        rw [em, wu64 (x := ((c.toNat % 128 : Nat) : Int)) ⟨by omega, by omega⟩, ep, wu64 (x := ((c.toNat % 128 * 2 ^ (7 * k) : Nat) : Int)) ⟨by omega, by omega⟩, wu64 ⟨by omega, by omega⟩]
        omega
      rw [if_neg h128, decide_eq_false (show ¬ ((c.toNat : Nat) : Int) < 128 by omega), ew]
      rfl
theorem rget_loop {b : List UInt8} {at_ : Nat} (hb : b.length < 4611686018427387904) : ∀ (rem k n m : Nat), at_ + k + rem = b.length → rem < m → k ≤ 9 → n < 2 ^ (7 * k) →
    iter m (rgetF (at_ : Int) b) ((n : Int), (((2 ^ (7 * k) : Nat) : Int), (k : Int))) = some (rgetRes at_ (num (b.drop (at_ + k)) k n))
  | 0, k, n, m, h, hm, hk, hn => by
    obtain ⟨m, rfl⟩ : ∃ j, m = j + 1 := ⟨m - 1, by omega⟩
    have : b.drop (at_ + k) = [] := List.drop_of_length_le (by omega)
    rw [this]
    show (rgetF (at_ : Int) b _).ob _ = _
    have e : rgetF (at_ : Int) b ((n : Int), (((2 ^ (7 * k) : Nat) : Int), (k : Int))) = some (.inr (0, (0, 11))) := by
      show ref01_GetUint_l0 fuel (at_ : Int) b (n : Int) ((2 ^ (7 * k) : Nat) : Int) (k : Int) = _
      unfold ref01_GetUint_l0
      have e1 : IntKind.wrap .i64 ((at_ : Int) + (k : Int)) = ((at_ + k : Nat) : Int) := by rw [w64 ⟨by omega, by omega⟩]; omega
      have ne : ((((at_ + k : Nat) : Int)) == ((b.length : Nat) : Int)) = true := beq_iff_eq.2 (by omega)
      rw [e1, ne]
      rfl
    rw [e]
    rfl
  | rem + 1, k, n, m, h, hm, hk, hn => by
    obtain ⟨m, rfl⟩ : ∃ j, m = j + 1 := ⟨m - 1, by omega⟩
    have hlt : at_ + k < b.length := by omega
    rw [drop_at hlt]
    show (rgetF (at_ : Int) b _).ob _ = _
    rw [rget_step hb hk hn hlt]
    by_cases hbad : (0 < k ∧ b[at_ + k].toNat = 0) ∨ (8 < k ∧ 1 < b[at_ + k].toNat)
    · rw [if_pos hbad, num_bad hbad]
      rfl
    · rw [if_neg hbad]
      by_cases h128 : b[at_ + k].toNat < 128
      · rw [if_pos h128, num_end hbad h128]
        show some _ = some _
        simp [rgetRes]
        omega
      · rw [if_neg h128, num_step hbad (by omega)]
        have hroom := P1.room n b[at_ + k].toNat k hk hn (fun h8 => by omega)
        have hk8 : k ≤ 8 := by
          by_cases h9 : k ≤ 8
          · exact h9
          · exfalso; exact hbad (.inr ⟨by omega, by omega⟩)
        have hp := pow_le63 (k := k + 1) (by omega)
        have e7 := pow7 k
        have ew : IntKind.wrap .u64 (((2 ^ (7 * k) : Nat) : Int) * 128) = ((2 ^ (7 * (k + 1)) : Nat) : Int) := by
          rw [e7] at hp ⊢
          rw [wu64 ⟨by omega, by omega⟩]
          omega
        rw [ew]
        exact rget_loop (at_ := at_) hb rem (k + 1) (n + b[at_ + k].toNat % 128 * 2 ^ (7 * k)) m (by omega) (by omega) (by omega) (hroom.2 hk8)
theorem rgetUint_is {b : List UInt8} {at_ : Int} (hb : b.length < 4611686018427387904) : ref01_GetUint fuel b at_ = some ((((getUint b at_).1 : Nat) : Int), ((((getUint b at_).2.1 : Nat) : Int), (((getUint b at_).2.2 : Nat) : Int))) := by
  unfold ref01_GetUint
  by_cases hout : at_ < 0 ∨ (b.length : Int) < at_
  · rw [getUint_out hout]
    rcases hout with h | h
    · rw [decide_eq_true h]
      rfl
    · by_cases h0 : at_ < 0
      · rw [decide_eq_true h0]; rfl
      · rw [decide_eq_false h0, decide_eq_true (show at_ > ((b.length : Nat) : Int) by omega)]
        rfl
  · obtain ⟨a, rfl⟩ : ∃ a : Nat, at_ = a := ⟨at_.toNat, by omega⟩
    rw [decide_eq_false (by omega), decide_eq_false (by omega)]
    simp only [cond_false, Option.bind_some]
    unfold ref01_GetUint_l0_it
    have hl : iter fuel (fun tt => ref01_GetUint_l0 fuel (a : Int) b tt.1 tt.2.1 tt.2.2) ((0 : Int), ((1 : Int), (0 : Int))) = some (rgetRes a (num (b.drop a) 0 0)) :=
      rget_loop hb (b.length - a) 0 0 fuel (by omega) (by unfold fuel; omega) (by omega) (by decide)
    rw [hl]
    simp only [Option.bind_some]
    rw [getUint_drop (by omega)]
    unfold rgetRes
    by_cases h0 : (num (b.drop a) 0 0).2.2 = 0
    · rw [if_pos h0, if_pos h0]; rfl
    · rw [if_neg h0, if_neg h0]; rfl
theorem rgetBlob_is {b : List UInt8} {at_ most : Int} (hb : b.length ≤ 140737488355328) (hm : most ≤ 9223372036854775807) : ref01_GetBlob fuel b at_ most = some ((((getBlob b at_ most).2.1 : Nat) : Int), ((((getBlob b at_ most).2.2 : Nat) : Int), (getBlob b at_ most).1)) := by
  unfold ref01_GetBlob
  rw [rgetUint_is (by omega)]
  simp only [Option.bind_some]
  obtain ⟨n, j, e, hu⟩ : ∃ n j e, getUint b at_ = (n, j, e) := ⟨_, _, _, rfl⟩
  have hfit := getUint_fits b at_
  rw [hu] at hfit ⊢
  simp only at hfit ⊢
  by_cases he : e = 0
  · subst he
    have e0 : (!(((0 : Nat) : Int) == 0)) = false := rfl
    rw [e0]
    simp only [cond_false]
    by_cases hmost : most < 0 ∨ most < n
    · rw [getBlob_long hu hmost]
      by_cases h0 : most < 0
      · rw [decide_eq_true h0]; rfl
      · rw [decide_eq_false h0, wu64 ⟨by omega, by omega⟩, decide_eq_true (show ((n : Nat) : Int) > most by omega)]
        rfl
    · rw [decide_eq_false (show ¬ most < 0 by omega), wu64 (x := most) ⟨by omega, by omega⟩, decide_eq_false (show ¬ ((n : Nat) : Int) > most by omega)]
      simp only [cond_false, Option.bind_some]
      have hj : j ≤ b.length := hfit.2.1
      rw [wu64 ⟨by omega, by omega⟩]
      by_cases hs : b.length - j < n
      · rw [getBlob_short hu hmost hs]
        by_cases hs2 : b.length < n
        · rw [decide_eq_true (by omega)]; rfl
        · rw [decide_eq_false (by omega), w64 (x := (n : Int)) ⟨by omega, by omega⟩, w64 ⟨by omega, by omega⟩, decide_eq_true (by omega)]
          rfl
      · have e1 : IntKind.wrap .i64 ((j : Int) + IntKind.wrap .i64 (n : Int)) = ((j + n : Nat) : Int) := by
          rw [w64 (x := (n : Int)) ⟨by omega, by omega⟩, w64 ⟨by omega, by omega⟩]; omega
        have hle : j + n ≤ b.length := by omega
        rw [getBlob_ok hu hmost hs, decide_eq_false (by omega), e1, decide_eq_false (by omega), upto_nat hle]
        simp only [cond_false, Option.bind_some]
        rw [upto_nat (show j ≤ j + n by omega)]
        simp only [Option.bind_some]
        have hc : List.drop j (List.take (j + n) b) = List.take n (List.drop j b) := by
          rw [List.drop_take]; congr 1; omega
        have hl : (List.take n (List.drop j b)).length = n := by rw [List.length_take, List.length_drop]; omega
        rw [hc, joined_is (by rw [hl, List.length_nil]; omega), List.nil_append]
        rfl
  · have e0 : (!(((e : Nat) : Int) == 0)) = true := by
      have : (((e : Nat) : Int) == 0) = false := by rw [beq_eq_false_iff_ne]; omega
      rw [this]; rfl
    rw [getBlob_err hu he, e0]
    rfl
end Go.Ab.D

/- Chapter 10, the reference: right messages, and put. -/
set_option maxRecDepth 100000
namespace Go.Ab.D
open Go Go.Ab Go.P1 Go.P10
attribute [local irreducible] Go.P1.crcT tabI
theorem orK {α : Type} (a b : Bool) (S : α) : (bif a then some (true, S) else some (b, S)) = some (a || b, S) := by cases a <;> rfl
theorem andK (a b : Bool) : (bif a then some false else some b) = some (!a && b) := by cases a <;> rfl
theorem andK2 (a b : Bool) : (bif a then some b else some false) = some (a && b) := by cases a <;> rfl
theorem condK1 (a b : Bool) : (bif a then some true else some b) = some (a || b) := by cases a <;> rfl
theorem beqL {α : Type} (l : List α) : (((l.length : Nat) : Int) == 0) = decide (l.length = 0) := by
  by_cases h : l.length = 0
  · rw [h]; rfl
  · rw [decide_eq_false h]; exact beq_eq_false_iff_ne.2 (by omega)
theorem rheaded_is (a b c : Int) : ref10_headed fuel a b c = some (headed a b c) := by
  unfold ref10_headed
  simp only [andK2]
  congr 1
  rw [Bool.eq_iff_iff]
  unfold headed
  simp only [Bool.and_eq_true, decide_eq_true_eq]
  try omega
theorem rnamed_is (a b c d : Int) : ref10_named fuel a b c d = some (named a b c d) := by
  unfold ref10_named
  simp only [andK2]
  congr 1
  rw [Bool.eq_iff_iff]
  unfold named
  simp only [Bool.and_eq_true, decide_eq_true_eq]
  omega
theorem rrightAsk_is (a : P10.Ask) : ref10_RightAsk fuel a = some (rightAsk a) := by
  obtain ⟨a1, a2, a3, a4, a5, a6, a7⟩ := a
  unfold ref10_RightAsk
  simp only [rheaded_is, rnamed_is, Option.bind_some, andK2, orK]
  unfold rightAsk
  simp only
  cases hh : headed a1 a2 ((a3.toNat : Nat) : Int) with
  | false => rfl
  | true =>
    have hop := headed_iff.1 hh
    obtain ⟨n, hn⟩ : ∃ n, a3.toNat = n := ⟨_, rfl⟩
    rw [hn] at hop ⊢
    have h7 : (a7 = []) = (a7.length = 0) := by rw [List.length_eq_zero_iff]
    have : n = 1 ∨ n = 2 ∨ n = 3 ∨ n = 4 ∨ n = 5 ∨ n = 6 := by omega
    have e0 : decide (((a7.length : Nat) : Int) ≤ 65536) = decide (a7.length ≤ 65536) := by
      by_cases h : a7.length ≤ 65536
      · rw [decide_eq_true h, decide_eq_true (by omega)]
      · rw [decide_eq_false h, decide_eq_false (by omega)]
    have e1 : (((a7.length : Nat) : Int) == 0) = decide (a7 = []) := by
      rw [beqL]
      by_cases h : a7.length = 0
      · rw [decide_eq_true h, decide_eq_true (h7 ▸ h)]
      · rw [decide_eq_false h, decide_eq_false (h7 ▸ h)]
    rcases this with rfl | rfl | rfl | rfl | rfl | rfl
    · show some (named a4 a5 a6 1 && decide (((a7.length : Nat) : Int) ≤ 65536)) = some (true && (named a4 a5 a6 1 && decide (a7.length ≤ 65536)))
      rw [e0, Bool.true_and]
    · show some (named a4 a5 a6 1 && (((a7.length : Nat) : Int) == 0)) = some (true && (named a4 a5 a6 1 && decide (a7 = [])))
      rw [e1, Bool.true_and]
    · show some (named a4 a5 a6 1 && (((a7.length : Nat) : Int) == 0)) = some (true && (named a4 a5 a6 1 && decide (a7 = [])))
      rw [e1, Bool.true_and]
    · show some (named a4 a5 a6 0 && (((a7.length : Nat) : Int) == 0)) = some (true && (named a4 a5 a6 0 && decide (a7 = [])))
      rw [e1, Bool.true_and]
    · show some (named a4 a5 a6 0 && (((a7.length : Nat) : Int) == 0)) = some (true && (named a4 a5 a6 0 && decide (a7 = [])))
      rw [e1, Bool.true_and]
    · show some (named a4 a5 a6 1 && (((a7.length : Nat) : Int) == 0)) = some (true && (named a4 a5 a6 1 && decide (a7 = [])))
      rw [e1, Bool.true_and]
theorem rnumber_is {n : Int} (h : 0 ≤ n ∧ n ≤ 9223372036854775807) {l : List UInt8} (hl : l.length + 10 ≤ 140737488355328) : ref10_number fuel l n = some (l ++ vi n) := by
  obtain ⟨k, rfl⟩ : ∃ k : Nat, n = k := ⟨n.toNat, by omega⟩
  unfold ref10_number
  rw [wu64 ⟨by omega, by omega⟩, ruint_is (by omega) hl]
  rfl
theorem vi_len {n : Int} (h : 0 ≤ n ∧ n ≤ 9223372036854775807) : (vi n).length ≤ 10 := varint_len10 (by omega)
theorem raskBytes_is {a : P10.Ask} (hf : AskFits a) : ref10_askBytes fuel a = some (askBody a) := by
  obtain ⟨a1, a2, a3, a4, a5, a6, a7⟩ := a
  obtain ⟨h1, h2, h3, h4, h5, h6, h7⟩ := hf
  simp only at h1 h2 h3 h4 h5 h6 h7
  have v1 := vi_len (n := a1) (by omega)
  have v2 := vi_len (n := a2) (by omega)
  have v3 := vi_len (n := ((a3.toNat : Nat) : Int)) (by omega)
  have v4 := vi_len (n := a4) (by omega)
  have v5 := vi_len (n := a5) (by omega)
  have v6 := vi_len (n := a6) (by omega)
  unfold ref10_askBytes
  simp only
  rw [w64 (x := ((a3.toNat : Nat) : Int)) ⟨by omega, by omega⟩]
  rw [rnumber_is (by omega) (by simp only [List.length_append, List.length_cons, List.length_nil]; omega)]
  simp only [Option.bind_some]
  rw [rnumber_is (by omega) (by simp only [List.length_append, List.length_cons, List.length_nil]; omega)]
  simp only [Option.bind_some]
  rw [rnumber_is (by omega) (by simp only [List.length_append, List.length_cons, List.length_nil]; omega)]
  simp only [Option.bind_some]
  rw [rnumber_is (by omega) (by simp only [List.length_append, List.length_cons, List.length_nil]; omega)]
  simp only [Option.bind_some]
  rw [rnumber_is (by omega) (by simp only [List.length_append, List.length_cons, List.length_nil]; omega)]
  simp only [Option.bind_some]
  rw [rnumber_is (by omega) (by simp only [List.length_append, List.length_cons, List.length_nil]; omega)]
  simp only [Option.bind_some]
  rw [rblob_is (by simp only [List.length_append, List.length_cons, List.length_nil]; omega)]
  simp only [Option.bind_some]
  unfold askBody blobB
  simp only [List.append_assoc, List.cons_append, List.nil_append]
  rfl
theorem rputAsk_is {T : List Nat} (hT : Tab T) (a : P10.Ask) : ref10_PutAsk fuel (tabI T) a = some (((putAsk T a).1 : Int), (putAsk T a).2) := by
  unfold ref10_PutAsk putAsk
  simp only [byte_u8, Option.bind_some]
  have e : ref10_RightAsk fuel (a.1, (a.2.1, (a.2.2.1, (a.2.2.2.1, (a.2.2.2.2.1, (a.2.2.2.2.2.1, a.2.2.2.2.2.2)))))) = some (rightAsk a) := rrightAsk_is a
  rw [e]
  simp only [Option.bind_some]
  cases hr : rightAsk a with
  | false => rfl
  | true =>
    have e2 : ref10_askBytes fuel (a.1, (a.2.1, (a.2.2.1, (a.2.2.2.1, (a.2.2.2.2.1, (a.2.2.2.2.2.1, a.2.2.2.2.2.2)))))) = some (askBody a) := raskBytes_is (rightAsk_fits hr)
    have hb := body_len hr
    rw [if_pos rfl, e2]
    simp only [Bool.not_true, cond_false, Option.bind_some]
    rw [rseal_is hT (by omega)]
    rfl
abbrev RT : Type := Int × (Int × (Int × (Int × (Int × (List P10.Info × (List UInt8 × Int))))))
theorem rinfos_is {x1 x2 x3 x4 x7 : Int} {x6 : List UInt8} {is : List P10.Info} (hes : is.length < 4611686018427387904) :
    ref10_RightTell_l0_it fuel (0, (x1, (x2, (x3, (x4, (is, (x6, x7))))))) = some (if is.all infoOk = true then .inl (x1, (x2, (x3, (x4, (is, (x6, x7)))))) else .inr false) := by
  unfold ref10_RightTell_l0_it
  have := iter_ex (f := fun tt : RT => ref10_RightTell_l0 fuel tt.1 tt.2.1 tt.2.2.1 tt.2.2.2.1 tt.2.2.2.2.1 tt.2.2.2.2.2.1 tt.2.2.2.2.2.2.1 tt.2.2.2.2.2.2.2)
    (fun n s => ∃ k : Nat, s = ((k : Int), (x1, (x2, (x3, (x4, (is, (x6, x7))))))) ∧ k + n = is.length ∧ (is.take k).all infoOk = true)
    (fun o => o = if is.all infoOk = true then .inl (x1, (x2, (x3, (x4, (is, (x6, x7)))))) else .inr false)
    (fun n s ⟨k, hs, hk, ha⟩ => by
      subst hs
      have hk' : k < is.length := by omega
      show (∃ s', ref10_RightTell_l0 fuel (k : Int) x1 x2 x3 x4 is x6 x7 = _ ∧ _) ∨ ∃ o, ref10_RightTell_l0 fuel (k : Int) x1 x2 x3 x4 is x6 x7 = _ ∧ _
      unfold ref10_RightTell_l0
      rw [decide_eq_true (show (k : Int) < ((is.length : Nat) : Int) by omega), idx_nat hk', w64 (x := (k : Int) + 1) ⟨by omega, by omega⟩]
      simp only [cond_true, Option.bind_some, List.getElem?_eq_getElem hk', rnamed_is]
      have htk : (is.take (k + 1)).all infoOk = ((is.take k).all infoOk && infoOk is[k]) := by rw [List.take_succ_eq_append_getElem hk', List.all_append]; simp
      have hbad : infoOk is[k] = false → is.all infoOk = false := fun h => by
        rw [List.all_eq_false]
        exact ⟨is[k], List.getElem_mem hk', by rw [h]; simp⟩
      generalize is[k] = en at htk hbad ⊢
      obtain ⟨s, i, v, st⟩ := en
      simp only [orK, Option.bind_some]
      have hcond : (!named s i v 1 || (decide (((st.toNat : Nat) : Int) < 1) || decide (((st.toNat : Nat) : Int) > 2))) = !infoOk (s, i, v, st) := by
        unfold infoOk
        simp only
        rw [Bool.eq_iff_iff]
        simp only [Bool.or_eq_true, Bool.not_eq_true', Bool.and_eq_false_iff, decide_eq_true_eq, decide_eq_false_iff_not]
        constructor
        · rintro (h | h)
          · exact .inl h
          · exact .inr (by omega)
        · rintro (h | h)
          · exact .inl h
          · exact .inr (by omega)
      rw [hcond]
      by_cases g : infoOk (s, i, v, st) = true
      · left
        rw [g]
        exact ⟨_, rfl, k + 1, rfl, by omega, by rw [htk, ha, g]; rfl⟩
      · right
        have g0 : infoOk (s, i, v, st) = false := by simpa using g
        rw [hbad g0, g0]
        exact ⟨_, rfl, rfl⟩)
    (fun s ⟨k, hs, hk, ha⟩ => by
      subst hs
      have : k = is.length := by omega
      subst this
      rw [List.take_length] at ha
      rw [ha]
      refine ⟨_, ?_, rfl⟩
      show ref10_RightTell_l0 fuel ((is.length : Nat) : Int) x1 x2 x3 x4 is x6 x7 = _
      unfold ref10_RightTell_l0
      rw [decide_eq_false (by omega)]
      rfl)
    is.length (0, (x1, (x2, (x3, (x4, (is, (x6, x7))))))) hes ⟨0, rfl, by omega, by simp⟩
  obtain ⟨o, e1, e2⟩ := this
  rw [e1, e2]
theorem rrightTell_is {x : P10.Tell} (hx : x.2.2.2.2.1.length < 4611686018427387904) : ref10_RightTell fuel x = some (rightTell x) := by
  obtain ⟨x1, x2, x3, x4, is, x6, x7⟩ := x
  simp only at hx
  unfold ref10_RightTell
  simp only [rheaded_is, Option.bind_some, orK]
  rw [rinfos_is hx]
  simp only [Option.bind_some]
  by_cases ha : is.all infoOk = true
  · rw [if_pos ha]
    simp only [andK2, condK1, andK]
    congr 1
    rw [Bool.eq_iff_iff]
    unfold rightTell
    simp only [ha, beqL, Bool.and_eq_true, Bool.or_eq_true, Bool.not_eq_true', Bool.or_eq_false_iff, Bool.not_eq_false', decide_eq_true_eq, decide_eq_false_iff_not, beq_iff_eq, true_and, ← List.length_eq_zero_iff]
    generalize headed x1 x2 ((x3.toNat : Nat) : Int) = z
    cases z
    · simp
    · simp only [true_and]
      omega
  · rw [if_neg ha]
    have hr : rightTell (x1, (x2, (x3, (x4, (is, (x6, x7)))))) = false := by
      unfold rightTell
      have ha' : is.all infoOk = false := by simpa using ha
      simp only [ha', Bool.false_and, Bool.and_false]
    rw [hr]
    simp only [andK, Bool.and_false]
abbrev RP : Type := Int × (Int × (Int × (Int × (Int × (List P10.Info × (List UInt8 × (Int × List UInt8)))))))
theorem rtellInfos_is {is : List P10.Info} (hx : ∀ i ∈ is, inR i) (hl : is.length ≤ 50) {h : List UInt8} (hh : h.length ≤ 1000000) (z1 z2 z3 z4 z7 : Int) (z6 : List UInt8) :
    ref10_tellBytes_l0_it fuel (0, (z1, (z2, (z3, (z4, (is, (z6, (z7, h)))))))) = some (z1, (z2, (z3, (z4, (is, (z6, (z7, h ++ is.flatMap infoB))))))) := by
  unfold ref10_tellBytes_l0_it
  have := iter_range (f := fun (tt : RP) => ref10_tellBytes_l0 fuel tt.1 tt.2.1 tt.2.2.1 tt.2.2.2.1 tt.2.2.2.2.1 tt.2.2.2.2.2.1 tt.2.2.2.2.2.2.1 tt.2.2.2.2.2.2.2.1 tt.2.2.2.2.2.2.2.2) (o := (z1, (z2, (z3, (z4, (is, (z6, (z7, h ++ is.flatMap infoB))))))))
    (fun k => ((k : Int), (z1, (z2, (z3, (z4, (is, (z6, (z7, h ++ (is.take k).flatMap infoB))))))))) is.length (by omega)
    (fun k hk => by
      show ref10_tellBytes_l0 fuel (k : Int) z1 z2 z3 z4 is z6 z7 (h ++ (is.take k).flatMap infoB) = some (.inl (((k + 1 : Nat) : Int), (z1, (z2, (z3, (z4, (is, (z6, (z7, h ++ (is.take (k + 1)).flatMap infoB)))))))))
      have hi := hx is[k] (List.getElem_mem hk)
      have hlen := infos_len (is := is.take k) fun i hi => hx i (List.mem_of_mem_take hi)
      have htk : (is.take k).length ≤ is.length := by simp; omega
      unfold ref10_tellBytes_l0
      rw [decide_eq_true (by omega), idx_nat hk]
      simp only [cond_true, Option.bind_some, List.getElem?_eq_getElem hk]
      rw [List.take_succ_eq_append_getElem hk, List.flatMap_append, ← List.append_assoc]
      have hm : (h ++ (is.take k).flatMap infoB).length ≤ 2000000 := by rw [List.length_append]; omega
      generalize h ++ (is.take k).flatMap infoB = m at hm ⊢
      obtain ⟨i, hik⟩ : ∃ i, is[k] = i := ⟨_, rfl⟩
      rw [hik] at hi ⊢
      obtain ⟨g1, g2, g3, g4⟩ := hi
      have v1 := vi_len (n := i.1) (by omega)
      have v2 := vi_len (n := i.2.1) (by omega)
      have v3 := vi_len (n := i.2.2.1) (by omega)
      rw [w64 (x := ((i.2.2.2.toNat : Nat) : Int)) ⟨by omega, by omega⟩]
      rw [rnumber_is (by omega) (by omega)]
      simp only [Option.bind_some]
      rw [rnumber_is (by omega) (by simp only [List.length_append]; omega)]
      simp only [Option.bind_some]
      rw [rnumber_is (by omega) (by simp only [List.length_append]; omega)]
      simp only [Option.bind_some]
      rw [rnumber_is (by omega) (by simp only [List.length_append]; omega)]
      simp only [Option.bind_some]
      rw [w64 ⟨by omega, by omega⟩]
      simp only [List.flatMap_cons, List.flatMap_nil, infoB, vi_nat, List.append_nil, List.append_assoc]
      rfl)
    (by
      show ref10_tellBytes_l0 fuel ((is.length : Nat) : Int) z1 z2 z3 z4 is z6 z7 (h ++ (is.take is.length).flatMap infoB) = _
      rw [List.take_length]
      unfold ref10_tellBytes_l0
      rw [decide_eq_false (by omega)]
      rfl)
  simpa using this
theorem rtellBytes_is {x : P10.Tell} (hf : TellFits x) : ref10_tellBytes fuel x = some (tellBody x) := by
  obtain ⟨a1, a2, a3, a4, is, b, a5⟩ := x
  obtain ⟨h1, h2, h3, h4, h5, h6, h7⟩ := hf
  simp only at h1 h2 h3 h4 h5 h6 h7
  have v1 := vi_len (n := a1) (by omega)
  have v2 := vi_len (n := a2) (by omega)
  have v3 := vi_len (n := ((a3.toNat : Nat) : Int)) (by omega)
  have v4 := vi_len (n := a4) (by omega)
  have v5 := vi_len (n := a5) (by omega)
  have v6 := vi_len (n := ((is.length : Nat) : Int)) (by omega)
  have hil := infos_len h5.2
  unfold ref10_tellBytes
  simp only
  rw [w64 (x := ((a3.toNat : Nat) : Int)) ⟨by omega, by omega⟩]
  rw [rnumber_is (by omega) (by simp only [List.length_append, List.length_cons, List.length_nil]; omega)]
  simp only [Option.bind_some]
  rw [rnumber_is (by omega) (by simp only [List.length_append, List.length_cons, List.length_nil]; omega)]
  simp only [Option.bind_some]
  rw [rnumber_is (by omega) (by simp only [List.length_append, List.length_cons, List.length_nil]; omega)]
  simp only [Option.bind_some]
  rw [rnumber_is (by omega) (by simp only [List.length_append, List.length_cons, List.length_nil]; omega)]
  simp only [Option.bind_some]
  rw [rnumber_is (by omega) (by simp only [List.length_append, List.length_cons, List.length_nil]; omega)]
  simp only [Option.bind_some]
  rw [rnumber_is (by omega) (by simp only [List.length_append, List.length_cons, List.length_nil]; omega)]
  simp only [Option.bind_some]
  rw [rtellInfos_is h5.2 h5.1 (by simp only [List.length_append, List.length_cons, List.length_nil]; omega)]
  simp only [Option.bind_some]
  rw [rblob_is (by simp only [List.length_append, List.length_cons, List.length_nil]; omega)]
  simp only [Option.bind_some]
  unfold tellBody blobB
  simp only [List.append_assoc, List.cons_append, List.nil_append]
  rfl
theorem rputTell_is {T : List Nat} (hT : Tab T) {x : P10.Tell} (hx : x.2.2.2.2.1.length < 4611686018427387904) : ref10_PutTell fuel (tabI T) x = some (((putTell T x).1 : Int), (putTell T x).2) := by
  unfold ref10_PutTell putTell
  simp only [byte_u8, Option.bind_some]
  have e : ref10_RightTell fuel (x.1, (x.2.1, (x.2.2.1, (x.2.2.2.1, (x.2.2.2.2.1, (x.2.2.2.2.2.1, x.2.2.2.2.2.2)))))) = some (rightTell x) := rrightTell_is (x := x) hx
  rw [e]
  simp only [Option.bind_some]
  cases hr : rightTell x with
  | false => rfl
  | true =>
    have e2 : ref10_tellBytes fuel (x.1, (x.2.1, (x.2.2.1, (x.2.2.2.1, (x.2.2.2.2.1, (x.2.2.2.2.2.1, x.2.2.2.2.2.2)))))) = some (tellBody x) := rtellBytes_is (rightTell_fits hr)
    have hb := tell_len hr
    rw [if_pos rfl, e2]
    simp only [Bool.not_true, cond_false, Option.bind_some]
    rw [rseal_is hT (by omega)]
    rfl
end Go.Ab.D

/- Chapter 10, the reference: messages got. -/
set_option maxRecDepth 100000
namespace Go.Ab.D
open Go Go.Ab Go.P1 Go.P10
attribute [local irreducible] Go.P1.crcT tabI
def M62 : Nat := 4611686018427387904
def pNs : Nat → List UInt8 → Option (List Nat × List UInt8)
  | 0, l => some ([], l)
  | n + 1, l => (pNum M62 l).bind fun x => (pNs n x.2).bind fun y => some (x.1 :: y.1, y.2)
theorem pNs_len : ∀ {n : Nat} {l r : List UInt8} {ns : List Nat}, pNs n l = some (ns, r) → ns.length = n
  | 0, l, r, ns, h => by
    simp only [pNs, Option.some.injEq, Prod.mk.injEq] at h
    rw [← h.1]; rfl
  | n + 1, l, r, ns, h => by
    simp only [pNs, Option.bind_eq_some_iff, Option.some.injEq, Prod.mk.injEq] at h
    obtain ⟨⟨a, l1⟩, h1, ⟨y, l2⟩, h2, rfl, rfl⟩ := h
    have := pNs_len h2
    simp [this]
theorem pNum_vi {n : Int} (h : 0 ≤ n ∧ n ≤ 4611686018427387904) (r : List UInt8) : pNum M62 (vi n ++ r) = some (n.toNat, r) := (pNum_iff (by decide)).2 ⟨by unfold M62; omega, rfl⟩
theorem pNum_var {n : Nat} (h : n ≤ 4611686018427387904) (r : List UInt8) : pNum M62 (varint n ++ r) = some (n, r) := (pNum_iff (by decide)).2 ⟨by unfold M62; omega, rfl⟩
/-- What numbers tells. -/
def outN (len : Nat) (x : Option (List Nat × List UInt8)) : Int × List Int :=
  match x with
  | some (ns, r) => (((len - r.length : Nat) : Int), ns.map fun n : Nat => (n : Int))
  | none => (-1, [])
abbrev NS : Type := Int × (Int × List Int)
theorem numbers_is {l : List UInt8} (hb : l.length ≤ 140737488355328) {p N : Nat} (hp : p ≤ l.length) (hN : N ≤ 100) :
    ref10_numbers fuel l (p : Int) (N : Int) = some (outN l.length (pNs N (l.drop p))) ∧ ∀ ns r, pNs N (l.drop p) = some (ns, r) → r.length ≤ l.length ∧ l.drop (l.length - r.length) = r := by
  have := iter_ex (f := fun tt : NS => ref10_numbers_l0 fuel (N : Int) l tt.1 tt.2.1 tt.2.2)
    (fun m s => ∃ (q i : Nat) (acc : List Nat), s = ((q : Int), ((i : Int), acc.map fun n : Nat => (n : Int))) ∧ q ≤ l.length ∧ i + m = N ∧ acc.length = i ∧ pNs N (l.drop p) = (pNs m (l.drop q)).map fun y => (acc ++ y.1, y.2))
    (fun o => (match o with | .inl s => s | .inr s => s) = outN l.length (pNs N (l.drop p)) ∧ ∀ ns r, pNs N (l.drop p) = some (ns, r) → r.length ≤ l.length ∧ l.drop (l.length - r.length) = r)
    (fun m s ⟨q, i, acc, hs, hq, hi, hacc, he⟩ => by
      subst hs
      show (∃ s', ref10_numbers_l0 fuel (N : Int) l (q : Int) (i : Int) _ = _ ∧ _) ∨ ∃ o, ref10_numbers_l0 fuel (N : Int) l (q : Int) (i : Int) _ = _ ∧ _
      unfold ref10_numbers_l0
      rw [decide_eq_true (show (i : Int) < (N : Int) by omega), rgetUint_is (by omega)]
      simp only [cond_true, Option.bind_some]
      cases hx : pNum M62 (l.drop q) with
      | none =>
        right
        have hn : pNs N (l.drop p) = none := by rw [he]; simp only [pNs, hx, Option.bind_none, Option.map_none]
        rw [hn]
        refine ⟨.inr (-1, []), ?_, rfl, fun ns r h => by cases h⟩
        have g := getUint_none hq hx
        unfold M62 at g
        by_cases h0 : (getUint l q).2.2 = 0
        · rw [h0]
          have : decide (((getUint l q).1 : Int) > 4611686018427387904) = true := decide_eq_true (by rcases g with g | g <;> omega)
          rw [this]
          rfl
        · rw [beq_eq_false_iff_ne.2 (show (((getUint l q).2.2 : Nat) : Int) ≠ 0 by omega)]
          rfl
      | some x =>
        left
        obtain ⟨n, r⟩ := x
        obtain ⟨g1, g2, g3, g4, g5⟩ := getUint_some hq hx
        unfold M62 at g2
        rw [g1]
        have : decide ((n : Int) > 4611686018427387904) = false := decide_eq_false (by omega)
        simp only [this, show (!(((0 : Nat) : Int) == 0)) = false from rfl, cond_false, Option.bind_some]
        rw [need_true (by
          rw [Bool.and_eq_true]
          exact ⟨ble_true (by unfold Go.Ab.room; simp only [List.length_map]; omega), ble_true (by unfold Go.Ab.room; simp only [List.length_map]; omega)⟩), w64 (x := (i : Int) + 1) ⟨by omega, by omega⟩, w64 (x := (n : Int)) ⟨by omega, by omega⟩]
        refine ⟨_, rfl, l.length - r.length, i + 1, acc ++ [n], by simp, by omega, by omega, by simp [hacc], ?_⟩
        rw [he, g4]
        simp only [pNs, hx, Option.bind_some]
        cases pNs m r with
        | none => rfl
        | some y => simp)
    (fun s ⟨q, i, acc, hs, hq, hi, hacc, he⟩ => by
      subst hs
      have he' : pNs N (l.drop p) = some (acc, l.drop q) := by rw [he]; simp [pNs]
      refine ⟨.inl ((q : Int), acc.map fun n : Nat => (n : Int)), ?_, ?_, ?_⟩
      · show ref10_numbers_l0 fuel (N : Int) l (q : Int) (i : Int) _ = _
        unfold ref10_numbers_l0
        rw [decide_eq_false (by omega)]
        rfl
      · rw [he']
        show ((q : Int), acc.map fun n : Nat => (n : Int)) = (((l.length - (l.drop q).length : Nat) : Int), _)
        rw [List.length_drop, show l.length - (l.length - q) = q by omega]
      · intro ns r h
        rw [he'] at h
        cases h
        rw [List.length_drop, show l.length - (l.length - q) = q by omega]
        exact ⟨by omega, rfl⟩)
    N ((p : Int), (0, [])) (by omega) ⟨p, 0, [], rfl, hp, by omega, rfl, by simp⟩
  obtain ⟨o, e1, e2, e3⟩ := this
  refine ⟨?_, e3⟩
  unfold ref10_numbers ref10_numbers_l0_it
  rw [e1]
  simp only [Option.bind_some]
  cases o with
  | inl s => rw [← e2]
  | inr s => rw [← e2]
theorem six_of {l : List Nat} (h : l.length = 6) : ∃ a b c d e f, l = [a, b, c, d, e, f] := by
  match l, h with
  | [a, b, c, d, e, f], _ => exact ⟨a, b, c, d, e, f, rfl⟩
theorem four_of {l : List Nat} (h : l.length = 4) : ∃ a b c d, l = [a, b, c, d] := by
  match l, h with
  | [a, b, c, d], _ => exact ⟨a, b, c, d, rfl⟩
theorem ask_pre {a : P10.Ask} (hf : AskFits a) : ∃ r, pNs 6 ((askBody a).drop 1) = some ([a.1.toNat, a.2.1.toNat, a.2.2.1.toNat, a.2.2.2.1.toNat, a.2.2.2.2.1.toNat, a.2.2.2.2.2.1.toNat], r) ∧ pBlob 65536 r = some (a.2.2.2.2.2.2, []) := by
  obtain ⟨h1, h2, h3, h4, h5, h6, h7⟩ := hf
  refine ⟨blobB a.2.2.2.2.2.2, ?_, ?_⟩
  · show pNs 6 (vi a.1 ++ (vi a.2.1 ++ (varint a.2.2.1.toNat ++ (vi a.2.2.2.1 ++ (vi a.2.2.2.2.1 ++ (vi a.2.2.2.2.2.1 ++ blobB a.2.2.2.2.2.2)))))) = _
    have v3 := a.2.2.1.toNat_lt
    simp only [pNs, pNum_vi (show 0 ≤ a.1 ∧ a.1 ≤ 4611686018427387904 by omega), pNum_vi (show 0 ≤ a.2.1 ∧ a.2.1 ≤ 4611686018427387904 by omega), pNum_var (show a.2.2.1.toNat ≤ 4611686018427387904 by omega), pNum_vi (show 0 ≤ a.2.2.2.1 ∧ a.2.2.2.1 ≤ 4611686018427387904 by omega), pNum_vi (show 0 ≤ a.2.2.2.2.1 ∧ a.2.2.2.2.1 ≤ 4611686018427387904 by omega), pNum_vi (show 0 ≤ a.2.2.2.2.2.1 ∧ a.2.2.2.2.2.1 ≤ 4611686018427387904 by omega), Option.bind_some]
  · exact (pBlob_iff (by decide)).2 ⟨h7, by unfold blobB; simp⟩
/-- Where a body's numbers begin. -/
theorem begin_at {l : List UInt8} : (if ((l.length : Nat) : Int) < 1 then ((l.length : Nat) : Int) else 1) = ((min 1 l.length : Nat) : Int) := by
  split <;> omega
theorem rgetAsk_is {T : List Nat} (hT : Tab T) {b : List UInt8} (hb : b.length ≤ 140737488355328) : ref10_GetAsk fuel (tabI T) b = some (outA (getAsk T b)) := by
  have hlen := unsealed_len (P1.sum T) b
  unfold ref10_GetAsk getAsk
  rw [runseal_is hT hb]
  simp only [Option.bind_some]
  by_cases h0 : (unsealed (P1.sum T) b).2 = 0
  · rw [if_pos h0, h0]
    generalize (unsealed (P1.sum T) b).1 = l at hlen ⊢
    simp only [show (!(((0 : Nat) : Int) == 0)) = false from rfl, cond_false]
    have nn : ∀ P : Prop, (∀ a, askOf l = some a → P) → ¬ P → askOf l = none := fun P h1 h2 => by
      cases hc : askOf l with
      | none => rfl
      | some c => exact absurd (h1 c hc) h2
    have pre : ∀ a, askOf l = some a → rightAsk a = true ∧ l = askBody a ∧ ∃ r, pNs 6 (l.drop (min 1 l.length)) = some ([a.1.toNat, a.2.1.toNat, a.2.2.1.toNat, a.2.2.2.1.toNat, a.2.2.2.2.1.toNat, a.2.2.2.2.2.1.toNat], r) ∧ pBlob 65536 r = some (a.2.2.2.2.2.2, []) := fun a ha => by
      obtain ⟨g1, rfl⟩ := askOf_iff.1 ha
      refine ⟨g1, rfl, ?_⟩
      rw [show min 1 (askBody a).length = 1 by simp [askBody]]
      exact ask_pre (rightAsk_fits g1)
    obtain ⟨q1, q2⟩ := numbers_is (l := l) (by omega) (p := min 1 l.length) (N := 6) (by omega) (by omega)
    have q1' : ref10_numbers fuel l ((min 1 l.length : Nat) : Int) 6 = _ := q1
    rw [begin_at, q1']
    simp only [Option.bind_some]
    cases hp : pNs 6 (l.drop (min 1 l.length)) with
    | none =>
      rw [nn False (fun a ha => by obtain ⟨_, _, r, h, _⟩ := pre a ha; rw [hp] at h; cases h) (fun h => h)]
      rfl
    | some x =>
      obtain ⟨ns, r⟩ := x
      obtain ⟨n1, n2, n3, n4, n5, n6, rfl⟩ := six_of (pNs_len hp)
      obtain ⟨hr1, hr2⟩ := q2 _ _ hp
      rw [hp] at pre
      show Option.bind _ _ = _
      simp only [outN, List.map_cons, List.map_nil, List.length_cons, List.length_nil]
      rw [decide_eq_false (show ¬ (((l.length - r.length : Nat) : Int) < 0) by omega)]
      simp only [cond_false]
      rw [show idx? 2 (0 + 1 + 1 + 1 + 1 + 1 + 1) = some 2 from rfl]
      simp only [Option.bind_some, List.getElem?_cons_succ, List.getElem?_cons_zero]
      by_cases h9 : n3 > 9
      · rw [decide_eq_true (show (n3 : Int) > 9 by omega), nn (n3 ≤ 9) (fun a ha => by
          obtain ⟨g1, _, r, h, _⟩ := pre a ha
          have h3 := (rightAsk_fits g1).h3
          simp only [Option.some.injEq, Prod.mk.injEq, List.cons.injEq] at h
          omega) (by omega)]
        rfl
      · rw [decide_eq_false (show ¬ (n3 : Int) > 9 by omega)]
        simp only [cond_false]
        rw [rgetBlob_is (by omega) (by omega)]
        simp only [Option.bind_some]
        cases hbl : pBlob 65536 r with
        | none =>
          rw [← hr2] at hbl
          have g := (getBlob_none (by omega) hbl).1
          have g' : (getBlob l ((l.length - r.length : Nat) : Int) 65536).2.2 ≠ 0 := g
          rw [beq_eq_false_iff_ne.2 (show (((getBlob l ((l.length - r.length : Nat) : Int) 65536).2.2 : Nat) : Int) ≠ 0 by omega), nn False (fun a ha => by
            obtain ⟨_, _, r', h, h'⟩ := pre a ha
            simp only [Option.some.injEq, Prod.mk.injEq] at h
            rw [← h.2, ← hr2, hbl] at h'
            cases h') (fun h => h)]
          rfl
        | some y =>
          obtain ⟨bs, r''⟩ := y
          have hbl' := hbl
          rw [← hr2] at hbl'
          have g1 := (getBlob_some (by omega) hbl').1
          have g1' : getBlob l ((l.length - r.length : Nat) : Int) 65536 = _ := g1
          rw [g1']
          simp only [show (!(((0 : Nat) : Int) == 0)) = false from rfl, cond_false, show idx? 0 (0 + 1 + 1 + 1 + 1 + 1 + 1) = some 0 from rfl, show idx? 1 (0 + 1 + 1 + 1 + 1 + 1 + 1) = some 1 from rfl, show idx? 2 (0 + 1 + 1 + 1 + 1 + 1 + 1) = some 2 from rfl, show idx? 3 (0 + 1 + 1 + 1 + 1 + 1 + 1) = some 3 from rfl, show idx? 4 (0 + 1 + 1 + 1 + 1 + 1 + 1) = some 4 from rfl, show idx? 5 (0 + 1 + 1 + 1 + 1 + 1 + 1) = some 5 from rfl,
            Option.bind_some, List.getElem?_cons_succ, List.getElem?_cons_zero, List.length_cons, List.length_nil]
          rw [byte_wrap, wrap_u8]
          simp only [Option.bind_some]
          generalize hA : (((n1 : Nat) : Int), (((n2 : Nat) : Int), (UInt8.ofNat n3, (((n4 : Nat) : Int), (((n5 : Nat) : Int), (((n6 : Nat) : Int), bs)))))) = A
          have hA' : ∀ a, askOf l = some a → a = A := fun a ha => by
            obtain ⟨g1, _, r', h, h'⟩ := pre a ha
            have hf := rightAsk_fits g1
            simp only [Option.some.injEq, Prod.mk.injEq, List.cons.injEq] at h
            obtain ⟨⟨e1, e2, e3, e4, e5, e6, _⟩, rfl⟩ := h
            rw [hbl] at h'
            simp only [Option.some.injEq, Prod.mk.injEq] at h'
            obtain ⟨rfl, _⟩ := h'
            obtain ⟨a1, a2, a3, a4, a5, a6, a7⟩ := a
            obtain ⟨k1, k2, k3, k4, k5, k6, k7⟩ := hf
            simp only at e1 e2 e3 e4 e5 e6 k1 k2 k4 k5 k6
            rw [← hA, e1, e2, e3, e4, e5, e6, Int.toNat_of_nonneg k1.1, Int.toNat_of_nonneg k2.1, Int.toNat_of_nonneg k4.1, Int.toNat_of_nonneg k5.1, Int.toNat_of_nonneg k6.1, nat_u8]
          have e0 : ref10_RightAsk fuel A = some (rightAsk A) := rrightAsk_is A
          rw [e0]
          simp only [Option.bind_some]
          cases hr : rightAsk A with
          | false =>
            rw [nn (rightAsk A = true) (fun a ha => by rw [← hA' a ha]; exact (pre a ha).1) (by rw [hr]; simp)]
            rfl
          | true =>
            simp only [Bool.not_true, cond_false]
            rw [raskBytes_is (rightAsk_fits hr)]
            simp only [Option.bind_some]
            by_cases hq : askBody A = l
            · rw [show (askBody A == l) = true from beq_iff_eq.2 hq, askOf_iff.2 ⟨hr, hq.symm⟩]
              subst hA
              rfl
            · rw [show (askBody A == l) = false from beq_eq_false_iff_ne.2 hq, nn (askBody A = l) (fun a ha => by rw [← hA' a ha]; exact (pre a ha).2.1.symm) hq]
              rfl
  · rw [if_neg h0]
    have : ((((unsealed (P1.sum T) b).2 : Nat) : Int) == 0) = false := beq_eq_false_iff_ne.2 (by omega)
    rw [this]
    rfl
end Go.Ab.D

/- Chapter 10, the reference: tells got. -/
set_option maxRecDepth 100000
namespace Go.Ab.D
open Go Go.Ab Go.P1 Go.P10
attribute [local irreducible] Go.P1.crcT tabI
def infoN (ns : List Nat) : P10.Info := (((ns.getD 0 0 : Nat) : Int), (((ns.getD 1 0 : Nat) : Int), (((ns.getD 2 0 : Nat) : Int), UInt8.ofNat (ns.getD 3 0))))
def pI5 : Nat → List UInt8 → Option (List P10.Info × List UInt8)
  | 0, l => some ([], l)
  | n + 1, l => (pNs 4 l).bind fun x => if x.1.getD 3 0 ≤ 9 then (pI5 n x.2).bind fun y => some (infoN x.1 :: y.1, y.2) else none
theorem pI5_at : ∀ (is : List P10.Info) (r : List UInt8), (∀ i ∈ is, inR i) → pI5 is.length (is.flatMap infoB ++ r) = some (is, r)
  | [], r, _ => rfl
  | i :: is, r, h => by
    obtain ⟨g1, g2, g3, g4⟩ := h i (by simp)
    have ih := pI5_at is r fun x hx => h x (by simp [hx])
    have e : pNs 4 ((i :: is).flatMap infoB ++ r) = some ([i.1.toNat, i.2.1.toNat, i.2.2.1.toNat, i.2.2.2.toNat], is.flatMap infoB ++ r) := by
      simp only [List.flatMap_cons, infoB, List.append_assoc, pNs, pNum_vi (show 0 ≤ i.1 ∧ i.1 ≤ 4611686018427387904 by omega), pNum_vi (show 0 ≤ i.2.1 ∧ i.2.1 ≤ 4611686018427387904 by omega), pNum_vi (show 0 ≤ i.2.2.1 ∧ i.2.2.1 ≤ 4611686018427387904 by omega), pNum_var (show i.2.2.2.toNat ≤ 4611686018427387904 by omega), Option.bind_some]
    show pI5 (is.length + 1) _ = _
    simp only [pI5, e, Option.bind_some]
    rw [if_pos (by show i.2.2.2.toNat ≤ 9; omega), ih]
    simp only [Option.bind_some]
    obtain ⟨i1, i2, i3, i4⟩ := i
    show some ((((i1.toNat : Nat) : Int), (((i2.toNat : Nat) : Int), (((i3.toNat : Nat) : Int), UInt8.ofNat i4.toNat))) :: is, r) = _
    simp only at g1 g2 g3
    rw [Int.toNat_of_nonneg g1.1, Int.toNat_of_nonneg g2.1, Int.toNat_of_nonneg g3.1, nat_u8]
theorem tell_pre {x : P10.Tell} (hf : TellFits x) : ∃ r1 r2, pNs 6 ((tellBody x).drop 1) = some ([x.1.toNat, x.2.1.toNat, x.2.2.1.toNat, x.2.2.2.1.toNat, x.2.2.2.2.2.2.toNat, x.2.2.2.2.1.length], r1) ∧ pI5 x.2.2.2.2.1.length r1 = some (x.2.2.2.2.1, r2) ∧ pBlob 65536 r2 = some (x.2.2.2.2.2.1, []) := by
  obtain ⟨h1, h2, h3, h4, h5, h6, h7⟩ := hf
  refine ⟨x.2.2.2.2.1.flatMap infoB ++ blobB x.2.2.2.2.2.1, blobB x.2.2.2.2.2.1, ?_, pI5_at _ _ h5.2, ?_⟩
  · show pNs 6 (vi x.1 ++ (vi x.2.1 ++ (varint x.2.2.1.toNat ++ (vi x.2.2.2.1 ++ (vi x.2.2.2.2.2.2 ++ (varint x.2.2.2.2.1.length ++ (x.2.2.2.2.1.flatMap infoB ++ blobB x.2.2.2.2.2.1))))))) = _
    have h50 := h5.1
    simp only [pNs, pNum_vi (show 0 ≤ x.1 ∧ x.1 ≤ 4611686018427387904 by omega), pNum_vi (show 0 ≤ x.2.1 ∧ x.2.1 ≤ 4611686018427387904 by omega), pNum_var (show x.2.2.1.toNat ≤ 4611686018427387904 by omega), pNum_vi (show 0 ≤ x.2.2.2.1 ∧ x.2.2.2.1 ≤ 4611686018427387904 by omega), pNum_vi (show 0 ≤ x.2.2.2.2.2.2 ∧ x.2.2.2.2.2.2 ≤ 4611686018427387904 by omega), pNum_var (show x.2.2.2.2.1.length ≤ 4611686018427387904 by omega), Option.bind_some]
  · exact (pBlob_iff (by decide)).2 ⟨h6, by unfold blobB; simp⟩
abbrev LT : Type := Int × (Int × (Int × (Int × (Int × (Int × (Int × (List Int × (Int × (Int × (Int × (Int × (Int × List P10.Info))))))))))))
abbrev LO : Type := (Int × (Int × (Int × (Int × (Int × (Int × (Int × (Int × (Int × (Int × (Int × List P10.Info))))))))))) ⊕ (Int × (Int × (Int × (Int × (List P10.Info × (List UInt8 × (Int × Int)))))))
def stT (ns : List Int) (y1 y2 y3 y4 y5 : Int) (q i : Int) (is : List P10.Info) : LT := (q, (i, (0, (0, (0, (0, (0, (ns, (y1, (y2, (y3, (y4, (y5, is)))))))))))))
def outL (y1 y2 y3 y4 y5 : Int) (len : Nat) (x : Option (List P10.Info × List UInt8)) : LO :=
  match x with
  | some (is, r) => .inl (((len - r.length : Nat) : Int), (0, (0, (0, (0, (0, (y1, (y2, (y3, (y4, (y5, is)))))))))))
  | none => .inr (0, (0, (0, (0, ([], ([], (0, 110)))))))
theorem tellLoop_is {l : List UInt8} (hb : l.length ≤ 140737488355328) {p N : Nat} (hp : p ≤ l.length) (hN : N ≤ 50) (e : Int) (n1 n2 n3 n4 n5 : Int) (y1 y2 y3 y4 y5 : Int) :
    ref10_GetTell_l0_it fuel (l, e) (stT [n1, n2, n3, n4, n5, (N : Int)] y1 y2 y3 y4 y5 (p : Int) 0 []) = some (outL y1 y2 y3 y4 y5 l.length (pI5 N (l.drop p))) ∧ ∀ is r, pI5 N (l.drop p) = some (is, r) → r.length ≤ l.length ∧ l.drop (l.length - r.length) = r := by
  unfold ref10_GetTell_l0_it
  have := iter_ex (f := fun tt : LT => ref10_GetTell_l0 fuel (l, e) tt.1 tt.2.1 tt.2.2.1 tt.2.2.2.1 tt.2.2.2.2.1 tt.2.2.2.2.2.1 tt.2.2.2.2.2.2.1 tt.2.2.2.2.2.2.2.1 tt.2.2.2.2.2.2.2.2.1 tt.2.2.2.2.2.2.2.2.2.1 tt.2.2.2.2.2.2.2.2.2.2.1 tt.2.2.2.2.2.2.2.2.2.2.2.1 tt.2.2.2.2.2.2.2.2.2.2.2.2.1 tt.2.2.2.2.2.2.2.2.2.2.2.2.2)
    (fun m s => ∃ (q i : Nat) (acc : List P10.Info), s = stT [n1, n2, n3, n4, n5, (N : Int)] y1 y2 y3 y4 y5 (q : Int) (i : Int) acc ∧ q ≤ l.length ∧ i + m = N ∧ acc.length = i ∧ pI5 N (l.drop p) = (pI5 m (l.drop q)).map fun y => (acc ++ y.1, y.2))
    (fun o => o = outL y1 y2 y3 y4 y5 l.length (pI5 N (l.drop p)) ∧ ∀ is r, pI5 N (l.drop p) = some (is, r) → r.length ≤ l.length ∧ l.drop (l.length - r.length) = r)
    (fun m s ⟨q, i, acc, hs, hq, hi, hacc, he⟩ => by
      subst hs
      show (∃ s', ref10_GetTell_l0 fuel (l, e) (q : Int) (i : Int) 0 0 0 0 0 [n1, n2, n3, n4, n5, (N : Int)] y1 y2 y3 y4 y5 acc = _ ∧ _) ∨ ∃ o, ref10_GetTell_l0 fuel (l, e) (q : Int) (i : Int) 0 0 0 0 0 [n1, n2, n3, n4, n5, (N : Int)] y1 y2 y3 y4 y5 acc = _ ∧ _
      unfold ref10_GetTell_l0
      simp only [List.length_cons, List.length_nil, show idx? 5 (0 + 1 + 1 + 1 + 1 + 1 + 1) = some 5 from rfl, Option.bind_some, List.getElem?_cons_succ, List.getElem?_cons_zero]
      rw [decide_eq_true (show (i : Int) < (N : Int) by omega)]
      obtain ⟨q1, q2⟩ := numbers_is hb hq (N := 4) (by omega)
      have q1' : ref10_numbers fuel l (q : Int) 4 = _ := q1
      rw [q1']
      simp only [cond_true, Option.bind_some]
      cases hx : pNs 4 (l.drop q) with
      | none =>
        right
        have hn : pI5 N (l.drop p) = none := by rw [he]; simp only [pI5, hx, Option.bind_none, Option.map_none]
        rw [hn]
        exact ⟨_, rfl, rfl, fun is r h => by cases h⟩
      | some x =>
        obtain ⟨ns, r⟩ := x
        obtain ⟨a, b, c, d, rfl⟩ := four_of (pNs_len hx)
        obtain ⟨hr1, hr2⟩ := q2 _ _ hx
        simp only [outN, List.map_cons, List.map_nil, List.length_cons, List.length_nil, decide_eq_false (show ¬ (((l.length - r.length : Nat) : Int) < 0) by omega), cond_false, show idx? 3 (0 + 1 + 1 + 1 + 1) = some 3 from rfl, show idx? 2 (0 + 1 + 1 + 1 + 1) = some 2 from rfl, show idx? 1 (0 + 1 + 1 + 1 + 1) = some 1 from rfl, show idx? 0 (0 + 1 + 1 + 1 + 1) = some 0 from rfl, Option.bind_some, List.getElem?_cons_succ, List.getElem?_cons_zero]
        by_cases h9 : d ≤ 9
        · left
          rw [decide_eq_false (show ¬ ((d : Nat) : Int) > 9 by omega), byte_wrap]
          simp only [cond_false, Option.bind_some]
          rw [need_true (by
            rw [Bool.and_eq_true]
            exact ⟨ble_true (by unfold Go.Ab.room; omega), ble_true (by unfold Go.Ab.room; omega)⟩), w64 (x := (i : Int) + 1) ⟨by omega, by omega⟩]
          refine ⟨_, rfl, l.length - r.length, i + 1, acc ++ [infoN [a, b, c, d]], rfl, by omega, by omega, by simp [hacc], ?_⟩
          rw [he, hr2]
          simp only [pI5, hx, Option.bind_some]
          rw [if_pos (show ([a, b, c, d].getD 3 0) ≤ 9 from h9)]
          cases pI5 m r with
          | none => rfl
          | some y => simp
        · right
          have hn : pI5 N (l.drop p) = none := by
            rw [he]
            simp only [pI5, hx, Option.bind_some]
            rw [if_neg (show ¬ ([a, b, c, d].getD 3 0) ≤ 9 from h9)]
            rfl
          rw [hn, decide_eq_true (show ((d : Nat) : Int) > 9 by omega)]
          exact ⟨_, rfl, rfl, fun is r h => by cases h⟩)
    (fun s ⟨q, i, acc, hs, hq, hi, hacc, he⟩ => by
      subst hs
      have he' : pI5 N (l.drop p) = some (acc, l.drop q) := by rw [he]; simp [pI5]
      refine ⟨.inl ((q : Int), (0, (0, (0, (0, (0, (y1, (y2, (y3, (y4, (y5, acc))))))))))), ?_, ?_, ?_⟩
      · show ref10_GetTell_l0 fuel (l, e) (q : Int) (i : Int) 0 0 0 0 0 [n1, n2, n3, n4, n5, (N : Int)] y1 y2 y3 y4 y5 acc = _
        unfold ref10_GetTell_l0
        simp only [List.length_cons, List.length_nil, show idx? 5 (0 + 1 + 1 + 1 + 1 + 1 + 1) = some 5 from rfl, Option.bind_some, List.getElem?_cons_succ, List.getElem?_cons_zero]
        rw [decide_eq_false (by omega)]
        rfl
      · rw [he']
        show _ = Sum.inl (((l.length - (l.drop q).length : Nat) : Int), _)
        rw [List.length_drop, show l.length - (l.length - q) = q by omega]
      · intro is r h
        rw [he'] at h
        cases h
        rw [List.length_drop, show l.length - (l.length - q) = q by omega]
        exact ⟨by omega, rfl⟩)
    N (stT [n1, n2, n3, n4, n5, (N : Int)] y1 y2 y3 y4 y5 (p : Int) 0 []) (by omega) ⟨p, 0, [], rfl, hp, by omega, rfl, by simp⟩
  obtain ⟨o, e1, e2, e3⟩ := this
  rw [e2] at e1
  exact ⟨e1, e3⟩
theorem rgetTell_is {T : List Nat} (hT : Tab T) {b : List UInt8} (hb : b.length ≤ 140737488355328) : ref10_GetTell fuel (tabI T) b = some (outT (getTell T b)) := by
  have hlen := unsealed_len (P1.sum T) b
  unfold ref10_GetTell getTell
  rw [runseal_is hT hb]
  simp only [Option.bind_some]
  by_cases h0 : (unsealed (P1.sum T) b).2 = 0
  · rw [if_pos h0, h0]
    generalize (unsealed (P1.sum T) b).1 = l at hlen ⊢
    simp only [show (!(((0 : Nat) : Int) == 0)) = false from rfl, cond_false]
    have nn : ∀ P : Prop, (∀ a, tellOf l = some a → P) → ¬ P → tellOf l = none := fun P h1 h2 => by
      cases hc : tellOf l with
      | none => rfl
      | some c => exact absurd (h1 c hc) h2
    have pre : ∀ x, tellOf l = some x → rightTell x = true ∧ l = tellBody x ∧ ∃ r1 r2, pNs 6 (l.drop (min 1 l.length)) = some ([x.1.toNat, x.2.1.toNat, x.2.2.1.toNat, x.2.2.2.1.toNat, x.2.2.2.2.2.2.toNat, x.2.2.2.2.1.length], r1) ∧ pI5 x.2.2.2.2.1.length r1 = some (x.2.2.2.2.1, r2) ∧ pBlob 65536 r2 = some (x.2.2.2.2.2.1, []) := fun x hx => by
      obtain ⟨g1, rfl⟩ := tellOf_iff.1 hx
      refine ⟨g1, rfl, ?_⟩
      rw [show min 1 (tellBody x).length = 1 by simp [tellBody]]
      exact tell_pre (rightTell_fits g1)
    obtain ⟨q1, q2⟩ := numbers_is (l := l) (by omega) (p := min 1 l.length) (N := 6) (by omega) (by omega)
    have q1' : ref10_numbers fuel l ((min 1 l.length : Nat) : Int) 6 = _ := q1
    rw [begin_at, q1']
    simp only [Option.bind_some]
    cases hp : pNs 6 (l.drop (min 1 l.length)) with
    | none =>
      rw [nn False (fun a ha => by obtain ⟨_, _, r, _, h, _⟩ := pre a ha; rw [hp] at h; cases h) (fun h => h)]
      rfl
    | some x =>
      obtain ⟨ns, r⟩ := x
      obtain ⟨n1, n2, n3, n4, n5, n6, rfl⟩ := six_of (pNs_len hp)
      obtain ⟨hr1, hr2⟩ := q2 _ _ hp
      rw [hp] at pre
      show Option.bind _ _ = _
      simp only [outN, List.map_cons, List.map_nil, List.length_cons, List.length_nil, decide_eq_false (show ¬ (((l.length - r.length : Nat) : Int) < 0) by omega), cond_false, show idx? 2 (0 + 1 + 1 + 1 + 1 + 1 + 1) = some 2 from rfl, show idx? 5 (0 + 1 + 1 + 1 + 1 + 1 + 1) = some 5 from rfl, Option.bind_some, List.getElem?_cons_succ, List.getElem?_cons_zero]
      by_cases h9 : n3 > 9
      · rw [decide_eq_true (show (n3 : Int) > 9 by omega), nn (n3 ≤ 9) (fun a ha => by
          obtain ⟨g1, _, r, _, h, _⟩ := pre a ha
          have h3 := (rightTell_fits g1).h3
          simp only [Option.some.injEq, Prod.mk.injEq, List.cons.injEq] at h
          omega) (by omega)]
        rfl
      rw [decide_eq_false (show ¬ (n3 : Int) > 9 by omega)]
      simp only [cond_false]
      by_cases h50 : n6 > 50
      · rw [decide_eq_true (show (n6 : Int) > 50 by omega), nn (n6 ≤ 50) (fun a ha => by
          obtain ⟨g1, _, r, _, h, _⟩ := pre a ha
          have h3 := (rightTell_fits g1).h5.1
          simp only [Option.some.injEq, Prod.mk.injEq, List.cons.injEq] at h
          omega) (by omega)]
        rfl
      rw [decide_eq_false (show ¬ (n6 : Int) > 50 by omega)]
      simp only [cond_false, Option.bind_some, List.length_cons, List.length_nil, show idx? 0 (0 + 1 + 1 + 1 + 1 + 1 + 1) = some 0 from rfl, show idx? 1 (0 + 1 + 1 + 1 + 1 + 1 + 1) = some 1 from rfl, show idx? 2 (0 + 1 + 1 + 1 + 1 + 1 + 1) = some 2 from rfl, show idx? 3 (0 + 1 + 1 + 1 + 1 + 1 + 1) = some 3 from rfl, show idx? 4 (0 + 1 + 1 + 1 + 1 + 1 + 1) = some 4 from rfl, List.getElem?_cons_succ, List.getElem?_cons_zero]
      obtain ⟨c1, c2⟩ := tellLoop_is (l := l) (by omega) (p := l.length - r.length) (N := n6) (by omega) (by omega) ((0 : Nat) : Int) (n1 : Int) (n2 : Int) (n3 : Int) (n4 : Int) (n5 : Int) (n1 : Int) (n2 : Int) (IntKind.wrap .u8 (n3 : Int)) (n4 : Int) (n5 : Int)
      unfold stT at c1
      rw [c1]
      simp only [Option.bind_some]
      rw [hr2] at c2 ⊢
      cases hI : pI5 n6 r with
      | none =>
        rw [nn False (fun a ha => by
          obtain ⟨_, _, r1, r2, h, h', _⟩ := pre a ha
          simp only [Option.some.injEq, Prod.mk.injEq, List.cons.injEq] at h
          obtain ⟨⟨_, _, _, _, _, e6, _⟩, rfl⟩ := h
          rw [← e6, hI] at h'
          cases h') (fun h => h)]
        rfl
      | some y =>
        obtain ⟨is, rr⟩ := y
        obtain ⟨hs1, hs2⟩ := c2 _ _ hI
        simp only [outL]
        rw [rgetBlob_is (by omega) (by omega)]
        simp only [Option.bind_some]
        have pre2 : ∀ x, tellOf l = some x → x.1.toNat = n1 ∧ x.2.1.toNat = n2 ∧ x.2.2.1.toNat = n3 ∧ x.2.2.2.1.toNat = n4 ∧ x.2.2.2.2.2.2.toNat = n5 ∧ x.2.2.2.2.1 = is ∧ pBlob 65536 rr = some (x.2.2.2.2.2.1, []) := fun x hx => by
          obtain ⟨_, _, r1, r2, h, h', h''⟩ := pre x hx
          simp only [Option.some.injEq, Prod.mk.injEq, List.cons.injEq] at h
          obtain ⟨⟨e1, e2, e3, e4, e5, e6, _⟩, rfl⟩ := h
          rw [← e6, hI] at h'
          simp only [Option.some.injEq, Prod.mk.injEq] at h'
          obtain ⟨e7, rfl⟩ := h'
          exact ⟨e1.symm, e2.symm, e3.symm, e4.symm, e5.symm, e7.symm, h''⟩
        cases hbl : pBlob 65536 rr with
        | none =>
          rw [← hs2] at hbl
          have g := (getBlob_none (by omega) hbl).1
          have g' : (getBlob l ((l.length - rr.length : Nat) : Int) 65536).2.2 ≠ 0 := g
          rw [beq_eq_false_iff_ne.2 (show (((getBlob l ((l.length - rr.length : Nat) : Int) 65536).2.2 : Nat) : Int) ≠ 0 by omega), nn False (fun a ha => by
            have h' := (pre2 a ha).2.2.2.2.2.2
            rw [← hs2, hbl] at h'
            cases h') (fun h => h)]
          rfl
        | some y =>
          obtain ⟨bs, r''⟩ := y
          have hbl' := hbl
          rw [← hs2] at hbl'
          have g1 := (getBlob_some (by omega) hbl').1
          have g1' : getBlob l ((l.length - rr.length : Nat) : Int) 65536 = _ := g1
          rw [g1']
          simp only [show (!(((0 : Nat) : Int) == 0)) = false from rfl, cond_false]
          rw [byte_wrap, wrap_u8]
          simp only [Option.bind_some]
          have hil : is.length ≤ 50 := by
            have : ∀ (n : Nat) (r : List UInt8) (is : List P10.Info) (r' : List UInt8), pI5 n r = some (is, r') → is.length = n := fun n => by
              induction n with
              | zero => intro r is r' h; simp only [pI5, Option.some.injEq, Prod.mk.injEq] at h; rw [← h.1]; rfl
              | succ n ih =>
                intro r is r' h
                simp only [pI5, Option.bind_eq_some_iff] at h
                obtain ⟨x, _, h⟩ := h
                split at h
                · simp only [Option.bind_eq_some_iff, Option.some.injEq, Prod.mk.injEq] at h
                  obtain ⟨⟨y1, y2⟩, h1, rfl, rfl⟩ := h
                  simp [ih _ _ _ h1]
                · cases h
            have := this _ _ _ _ hI
            omega
          generalize hA : (((n1 : Nat) : Int), (((n2 : Nat) : Int), (UInt8.ofNat n3, (((n4 : Nat) : Int), (is, (bs, ((n5 : Nat) : Int))))))) = A
          have hA' : ∀ a, tellOf l = some a → a = A := fun a ha => by
            obtain ⟨e1, e2, e3, e4, e5, e6, e7⟩ := pre2 a ha
            have hf := rightTell_fits (pre a ha).1
            rw [hbl] at e7
            simp only [Option.some.injEq, Prod.mk.injEq] at e7
            obtain ⟨rfl, _⟩ := e7
            obtain ⟨a1, a2, a3, a4, ai, ab, a5⟩ := a
            obtain ⟨k1, k2, k3, k4, k5, k6, k7⟩ := hf
            simp only at e1 e2 e3 e4 e5 e6 k1 k2 k4 k7
            rw [← hA, ← e1, ← e2, ← e3, ← e4, ← e5, e6, Int.toNat_of_nonneg k1.1, Int.toNat_of_nonneg k2.1, Int.toNat_of_nonneg k4.1, Int.toNat_of_nonneg k7.1, nat_u8]
          have hAl : A.2.2.2.2.1.length < 4611686018427387904 := by rw [← hA]; show is.length < _; omega
          rw [rrightTell_is hAl]
          simp only [Option.bind_some]
          cases hr : rightTell A with
          | false =>
            rw [nn (rightTell A = true) (fun a ha => by rw [← hA' a ha]; exact (pre a ha).1) (by rw [hr]; simp)]
            rfl
          | true =>
            simp only [Bool.not_true, cond_false]
            rw [rtellBytes_is (rightTell_fits hr)]
            simp only [Option.bind_some]
            by_cases hq : tellBody A = l
            · rw [show (tellBody A == l) = true from beq_iff_eq.2 hq, tellOf_iff.2 ⟨hr, hq.symm⟩]
              subst hA
              rfl
            · rw [show (tellBody A == l) = false from beq_eq_false_iff_ne.2 hq, nn (tellBody A = l) (fun a ha => by rw [← hA' a ha]; exact (pre a ha).2.1.symm) hq]
              rfl
  · rw [if_neg h0]
    have : ((((unsealed (P1.sum T) b).2 : Nat) : Int) == 0) = false := beq_eq_false_iff_ne.2 (by omega)
    rw [this]
    rfl
end Go.Ab.D

/- WireTells: the plain law. -/
set_option maxRecDepth 100000
set_option maxHeartbeats 2000000
namespace Go.Ab.D
open Go Go.Ab Go.P1 Go.P10
attribute [local irreducible] Go.P1.crcT tabI
theorem lit0 : ([0, 0, 0, 0, 0, 0, 0, 0, 0, 0, 0, 0, 0, 0, 0, 0, 0, 0, 0, 0, 0, 0, 0, 0, 0, 0, 0, 0, 0, 0, 0, 0, 0, 0, 0, 0, 0, 0, 0, 0, 0, 0, 0, 0, 0, 0, 0, 0, 0, 0, 0, 0, 0, 0, 0, 0, 0, 0, 0, 0, 0, 0, 0, 0, 0, 0, 0, 0, 0, 0, 0, 0, 0, 0, 0, 0, 0, 0, 0, 0, 0, 0, 0, 0, 0, 0, 0, 0, 0, 0, 0, 0, 0, 0, 0, 0, 0, 0, 0, 0, 0, 0, 0, 0, 0, 0, 0, 0, 0, 0, 0, 0, 0, 0, 0, 0, 0, 0, 0, 0, 0, 0, 0, 0, 0, 0, 0, 0, 0, 0, 0, 0, 0, 0, 0, 0, 0, 0, 0, 0, 0, 0, 0, 0, 0, 0, 0, 0, 0, 0, 0, 0, 0, 0, 0, 0, 0, 0, 0, 0, 0, 0, 0, 0, 0, 0, 0, 0, 0, 0, 0, 0, 0, 0, 0, 0, 0, 0, 0, 0, 0, 0, 0, 0, 0, 0, 0, 0, 0, 0, 0, 0, 0, 0, 0, 0, 0, 0, 0, 0, 0, 0, 0, 0, 0, 0, 0, 0, 0, 0, 0, 0, 0, 0, 0, 0, 0, 0, 0, 0, 0, 0, 0, 0, 0, 0, 0, 0, 0, 0, 0, 0, 0, 0, 0, 0, 0, 0, 0, 0, 0, 0, 0, 0, 0, 0, 0, 0, 0, 0, 0, 0, 0, 0, 0, 0] : List Int) = tabI zeros := by
  unfold tabI zeros
  rw [List.map_replicate]
  rfl
theorem putAsk_len {T : List Nat} (a : P10.Ask) : (putAsk T a).2.length ≤ 70004 := by
  unfold putAsk
  by_cases h : rightAsk a = true
  · have := body_len h
    rw [if_pos h]
    simp only [sealed, List.length_append, be4_len]
    omega
  · rw [if_neg h]; simp
theorem putTell_len {T : List Nat} (a : P10.Tell) : (putTell T a).2.length ≤ 70004 := by
  unfold putTell
  by_cases h : rightTell a = true
  · have := tell_len h
    rw [if_pos h]
    simp only [sealed, List.length_append, be4_len]
    omega
  · rw [if_neg h]; simp
theorem tells_round {T : List Nat} (hT : Tab T) (ls : List (List UInt8)) (k : Nat) (hk : k < 4) (hl : ls.length = 4) (hlen : ∀ l ∈ ls, l.length ≤ 140737488355328) :
    law10_WireTells_l0 fuel (k : Int) (tabI T) ls = some (.inl (((k + 1 : Nat) : Int), (tabI T, ls))) := by
  have hk2 : k < ls.length := by omega
  have hb := hlen _ (List.getElem_mem hk2)
  unfold law10_WireTells_l0
  rw [decide_eq_true (by omega), idx_nat hk2]
  simp only [cond_true, Option.bind_some, List.getElem?_eq_getElem hk2]
  generalize ls[k] = l at hb ⊢
  rw [getAsk_is hT hb, rgetAsk_is hT hb, getTell_is hT hb, rgetTell_is hT hb]
  have hin := got_infos (T := T) l
  generalize getAsk T l = A
  generalize getTell T l = X at hin ⊢
  obtain ⟨⟨a1, a2, a3, a4, a5, a6, a7⟩, ae⟩ := A
  obtain ⟨⟨x1, x2, x3, x4, x5, x6, x7⟩, xe⟩ := X
  simp only at hin
  simp only [Option.bind_some, outA, outT, byte_u8, sameAsk_is, decide_true, Bool.not_true, cond_false, beq_self_eq_true]
  rw [sameTell_is (by simp only; omega)]
  simp only [Option.bind_some, decide_true, Bool.not_true, cond_false]
  rw [w64 ⟨by omega, by omega⟩]
  rfl
theorem tells_loop {T : List Nat} (hT : Tab T) (ls : List (List UInt8)) (hl : ls.length = 4) (hlen : ∀ l ∈ ls, l.length ≤ 140737488355328) : law10_WireTells_l0_it fuel (0, (tabI T, ls)) = some (.inl ()) := by
  unfold law10_WireTells_l0_it
  exact iter_range (f := fun (tt : Int × (List Int × List (List UInt8))) => law10_WireTells_l0 fuel tt.1 tt.2.1 tt.2.2) (o := .inl ()) (fun k => ((k : Int), (tabI T, ls))) 4 (by omega)
    (fun k hk => tells_round hT ls k hk hl hlen)
    (by
      show law10_WireTells_l0 fuel ((4 : Nat) : Int) (tabI T) ls = _
      unfold law10_WireTells_l0
      rw [decide_eq_false (by omega)]; rfl)
theorem law10_WireTells_true (a : Int × (Int × (UInt8 × (Int × (Int × (Int × List UInt8)))))) (x : Int × (Int × (UInt8 × (Int × (List (Int × (Int × (Int × UInt8))) × (List UInt8 × Int)))))) (b : List UInt8) (other : Bool) (_k0 : OkV (.pair (.int .i64) (.pair (.int .i64) (.pair .byte (.pair (.int .i64) (.pair (.int .i64) (.pair (.int .i64) (.sl .byte))))))) a) (_k1 : OkV (.pair (.int .i64) (.pair (.int .i64) (.pair .byte (.pair (.int .i64) (.pair (.sl (.pair (.int .i64) (.pair (.int .i64) (.pair (.int .i64) .byte)))) (.pair (.sl .byte) (.int .i64))))))) x) (_k2 : OkV (.sl .byte) b) (_k3 : OkV .bool other) : law10_WireTells fuel a x b other = some true := by
  clear _k0 _k1 _k2 _k3
  obtain ⟨a1, a2, a3, a4, a5, a6, a7⟩ := a
  obtain ⟨x1, x2, x3, x4, x5, x6, x7⟩ := x
  unfold law10_WireTells
  obtain ⟨s1, hs1⟩ : ∃ s1, law10_small fuel (a1, (a2, (a3, (a4, (a5, (a6, a7)))))) (x1, (x2, (x3, (x4, (x5, (x6, x7)))))) b = some s1 := ⟨_, small_is _ _ _⟩
  simp only [byte_u8, Option.bind_some, hs1, awake10]
  cases s1 with
  | false => rfl
  | true =>
    rw [small_is] at hs1
    have hsm := of_decide_eq_true (Option.some.inj hs1)
    simp only at hsm
    obtain ⟨hs7, hs6, hs5, hsb⟩ := hsm
    have hx : x5.length < 4611686018427387904 := by omega
    simp only [Bool.not_true, cond_false, table_is, Option.bind_some]
    rw [need_true (by decide), need_true (by rw [crc_len]; rfl), need_true (by rw [crc_len]; rfl)]
    have hO : ∃ T, Tab T ∧ (bif other then some (a1, (a2, (((a3.toNat : Nat) : Int), (a4, (a5, (a6, (a7, (x1, (x2, (((x3.toNat : Nat) : Int), (x4, (x5, (x6, (x7, [0, 0, 0, 0, 0, 0, 0, 0, 0, 0, 0, 0, 0, 0, 0, 0, 0, 0, 0, 0, 0, 0, 0, 0, 0, 0, 0, 0, 0, 0, 0, 0, 0, 0, 0, 0, 0, 0, 0, 0, 0, 0, 0, 0, 0, 0, 0, 0, 0, 0, 0, 0, 0, 0, 0, 0, 0, 0, 0, 0, 0, 0, 0, 0, 0, 0, 0, 0, 0, 0, 0, 0, 0, 0, 0, 0, 0, 0, 0, 0, 0, 0, 0, 0, 0, 0, 0, 0, 0, 0, 0, 0, 0, 0, 0, 0, 0, 0, 0, 0, 0, 0, 0, 0, 0, 0, 0, 0, 0, 0, 0, 0, 0, 0, 0, 0, 0, 0, 0, 0, 0, 0, 0, 0, 0, 0, 0, 0, 0, 0, 0, 0, 0, 0, 0, 0, 0, 0, 0, 0, 0, 0, 0, 0, 0, 0, 0, 0, 0, 0, 0, 0, 0, 0, 0, 0, 0, 0, 0, 0, 0, 0, 0, 0, 0, 0, 0, 0, 0, 0, 0, 0, 0, 0, 0, 0, 0, 0, 0, 0, 0, 0, 0, 0, 0, 0, 0, 0, 0, 0, 0, 0, 0, 0, 0, 0, 0, 0, 0, 0, 0, 0, 0, 0, 0, 0, 0, 0, 0, 0, 0, 0, 0, 0, 0, 0, 0, 0, 0, 0, 0, 0, 0, 0, 0, 0, 0, 0, 0, 0, 0, 0, 0, 0, 0, 0, 0, 0, 0, 0, 0, 0, 0, 0, 0, 0, 0, 0, 0, 0, 0, 0, 0, 0, 0, 0])))))))))))))) else some (a1, (a2, (((a3.toNat : Nat) : Int), (a4, (a5, (a6, (a7, (x1, (x2, (((x3.toNat : Nat) : Int), (x4, (x5, (x6, (x7, tabI crcT))))))))))))))) = some (a1, (a2, (((a3.toNat : Nat) : Int), (a4, (a5, (a6, (a7, (x1, (x2, (((x3.toNat : Nat) : Int), (x4, (x5, (x6, (x7, tabI T)))))))))))))) := by
      cases other with
      | true => exact ⟨zeros, zeros_tab, by rw [cond_true, lit0]⟩
      | false => exact ⟨crcT, crcT_tab, rfl⟩
    obtain ⟨T, hT, hO⟩ := hO
    rw [hO]
    simp only [byte_u8, Option.bind_some]
    rw [putAsk_is hT, rputAsk_is hT, putTell_is hT hx, rputTell_is hT hx]
    simp only [Option.bind_some, sameBytes_is, decide_true, Bool.not_true, cond_false, beq_self_eq_true]
    rw [rightAsk_is, rrightAsk_is]
    simp only [Option.bind_some, Bool.not_true, cond_false, beq_self_eq_true]
    rw [rightTell_is hx, rrightTell_is hx]
    simp only [Option.bind_some, Bool.not_true, cond_false, beq_self_eq_true]
    rw [seal_is hT (by omega)]
    simp only [Option.bind_some]
    have lA := putAsk_len (T := T) (a1, (a2, (a3, (a4, (a5, (a6, a7))))))
    have lX := putTell_len (T := T) (x1, (x2, (x3, (x4, (x5, (x6, x7))))))
    rw [tells_loop hT _ rfl (by
      intro l hl
      simp only [List.mem_cons, List.mem_nil_iff, or_false] at hl
      rcases hl with rfl | rfl | rfl | rfl
      · omega
      · simp [sealed, be4]; omega
      · omega
      · omega)]
    rfl
end Go.Ab.D
