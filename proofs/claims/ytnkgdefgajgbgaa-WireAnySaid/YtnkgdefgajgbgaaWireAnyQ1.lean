/- What the functions compute; the plain law. -/
import Derived.Test.YtnkgdefgajgbgaaWireAnyD1
import Derived.Test.YtnkgdefgajgbgaaWireAnyP1
set_option linter.all false
/- Tools for plain proofs about decompiled functions: numbers in bounds, indexes, loops. -/
namespace Go.Ab

/-! Numbers in bounds -/
theorem w64 {x : Int} (h : -9223372036854775808 ≤ x ∧ x ≤ 9223372036854775807) : IntKind.wrap .i64 x = x := by
  simp only [IntKind.wrap, IntKind.bits, IntKind.signed]; simp; omega
theorem wu64 {x : Int} (h : 0 ≤ x ∧ x ≤ 18446744073709551615) : IntKind.wrap .u64 x = x := by
  simp only [IntKind.wrap, IntKind.bits, IntKind.signed]; simp; omega
theorem wu32 {x : Int} (h : 0 ≤ x ∧ x ≤ 4294967295) : IntKind.wrap .u32 x = x := by
  simp only [IntKind.wrap, IntKind.bits, IntKind.signed]; simp; omega
theorem wu16 {x : Int} (h : 0 ≤ x ∧ x ≤ 65535) : IntKind.wrap .u16 x = x := by
  simp only [IntKind.wrap, IntKind.bits, IntKind.signed]; simp; omega
theorem wu8 {x : Int} (h : 0 ≤ x ∧ x ≤ 255) : IntKind.wrap .u8 x = x := by
  simp only [IntKind.wrap, IntKind.bits, IntKind.signed]; simp; omega
theorem wu8_mod (x : Int) : IntKind.wrap .u8 x = x % 256 := by
  simp only [IntKind.wrap, IntKind.bits, IntKind.signed]; simp
theorem wu32_mod (x : Int) : IntKind.wrap .u32 x = x % 4294967296 := by
  simp only [IntKind.wrap, IntKind.bits, IntKind.signed]; simp
theorem wu64_mod (x : Int) : IntKind.wrap .u64 x = x % 18446744073709551616 := by
  simp only [IntKind.wrap, IntKind.bits, IntKind.signed]; simp
theorem bv_nat (n a : Nat) (h : a < 2 ^ n) : BitVec.ofInt n (a : Int) = BitVec.ofNat n a := by simp
theorem bits_xor (k : IntKind) {a b : Nat} (ha : a < 2 ^ k.bits) (hb : b < 2 ^ k.bits) (hw : ∀ x : Int, 0 ≤ x ∧ x < 2 ^ k.bits → k.wrap x = x) : bitsI .xor k a b = ((a ^^^ b : Nat) : Int) := by
  have h := Nat.xor_lt_two_pow ha hb
  simp only [bitsI, BitVec.ofInt_natCast, ← BitVec.ofNat_xor, BitVec.toNat_ofNat, Nat.mod_eq_of_lt h]
  exact hw _ ⟨by omega, by exact_mod_cast h⟩
theorem bits_or (k : IntKind) {a b : Nat} (ha : a < 2 ^ k.bits) (hb : b < 2 ^ k.bits) (hw : ∀ x : Int, 0 ≤ x ∧ x < 2 ^ k.bits → k.wrap x = x) : bitsI .or k a b = ((a ||| b : Nat) : Int) := by
  have h := Nat.or_lt_two_pow ha hb
  simp only [bitsI, BitVec.ofInt_natCast, ← BitVec.ofNat_or, BitVec.toNat_ofNat, Nat.mod_eq_of_lt h]
  exact hw _ ⟨by omega, by exact_mod_cast h⟩
theorem bits_and (k : IntKind) {a b : Nat} (ha : a < 2 ^ k.bits) (hb : b < 2 ^ k.bits) (hw : ∀ x : Int, 0 ≤ x ∧ x < 2 ^ k.bits → k.wrap x = x) : bitsI .and k a b = ((a &&& b : Nat) : Int) := by
  have h := Nat.and_lt_two_pow (y := b) a hb
  simp only [bitsI, BitVec.ofInt_natCast, ← BitVec.ofNat_and, BitVec.toNat_ofNat, Nat.mod_eq_of_lt h]
  exact hw _ ⟨by omega, by exact_mod_cast h⟩
theorem xor8 {a b : Nat} (ha : a < 256) (hb : b < 256) : bitsI .xor .u8 a b = ((a ^^^ b : Nat) : Int) := bits_xor .u8 ha hb fun x h => wu8 ⟨h.1, by have := h.2; simp [IntKind.bits] at this; omega⟩
theorem xor32 {a b : Nat} (ha : a < 4294967296) (hb : b < 4294967296) : bitsI .xor .u32 a b = ((a ^^^ b : Nat) : Int) := bits_xor .u32 ha hb fun x h => wu32 ⟨h.1, by have := h.2; simp [IntKind.bits] at this; omega⟩
theorem and32 {a b : Nat} (ha : a < 4294967296) (hb : b < 4294967296) : bitsI .and .u32 a b = ((a &&& b : Nat) : Int) := bits_and .u32 ha hb fun x h => wu32 ⟨h.1, by have := h.2; simp [IntKind.bits] at this; omega⟩
theorem fdiv_nat (a b : Nat) : Int.fdiv (a : Int) (b : Int) = ((a / b : Nat) : Int) := by
  rw [Int.fdiv_eq_ediv_of_nonneg _ (by omega)]; rfl

/-! Indexes -/
theorem idx_nat {i n : Nat} (h : i < n) : idx? (i : Int) n = some i := by simp [idx?, h]
theorem idx_int {x : Int} {n : Nat} (h0 : 0 ≤ x) (h : x < n) : idx? x n = some x.toNat := by simp [idx?, h0, h]
theorem upto_nat {i n : Nat} (h : i ≤ n) : upto? (i : Int) n = some i := by simp [upto?, h]
theorem upto_int {x : Int} {n : Nat} (h0 : 0 ≤ x) (h : x ≤ n) : upto? x n = some x.toNat := by simp [upto?, h0, h]
theorem byte_nat {n : Nat} (h : n < 256) : byte? (n : Int) = some (UInt8.ofNat n) := by
  have : (n : Int) < 256 := by omega
  simp [byte?, this]
theorem need_true {β : Type} {b : Bool} {K : Option β} (h : b = true) : need b K = K := by subst h; rfl
theorem ble_true {a b : Nat} (h : a ≤ b) : Nat.ble a b = true := Nat.ble_eq_true_of_le h
theorem nilQ_same {β : Type} {n : Nat} {K : Bool → Option β} (h : n = 0 → K true = K false) : nilQ n K = K false := by
  unfold nilQ
  rw [if_pos h]
theorem roomIs : room = 140737488355328 := rfl

/-! Loops -/
theorem fuel_big {n : Nat} (h : n < 4611686018427387904) : ∃ m, fuel = m + (n + 1) := ⟨4611686018427387903 - n, by unfold fuel; omega⟩
theorem iter_steps {τ ο : Type} {f : τ → Option (τ ⊕ ο)} (S : Nat → τ) : ∀ (n m : Nat), (∀ k, k < n → f (S k) = some (.inl (S (k + 1)))) → iter (m + n) f (S 0) = iter m f (S n)
  | 0, m, _ => rfl
  | n + 1, m, h => by
    have e : m + (n + 1) = (m + 1) + n := by omega
    rw [e, iter_steps S n (m + 1) fun k hk => h k (by omega)]
    show (f (S n)).ob _ = _
    rw [h n (by omega)]
    rfl
/-- A loop of n rounds. -/
theorem iter_range {τ ο : Type} {f : τ → Option (τ ⊕ ο)} {o : ο} (S : Nat → τ) (n : Nat) (hn : n < 4611686018427387904) (hs : ∀ k, k < n → f (S k) = some (.inl (S (k + 1)))) (he : f (S n) = some (.inr o)) : iter fuel f (S 0) = some o := by
  obtain ⟨m, hm⟩ := fuel_big hn
  have e : fuel = (m + 1) + n := by omega
  rw [e, iter_steps S n (m + 1) hs]
  show (f (S n)).ob _ = _
  rw [he]
  rfl
/-- A loop by a relation between its state and what is yet to do. -/
theorem iter_rel {τ ο : Type} {f : τ → Option (τ ⊕ ο)} {o : ο} (I : Nat → τ → Prop) (hs : ∀ n s, I (n + 1) s → ∃ s', f s = some (.inl s') ∧ I n s') (he : ∀ s, I 0 s → f s = some (.inr o)) : ∀ (n : Nat) (s : τ), n < 4611686018427387904 → I n s → iter fuel f s = some o := by
  have main : ∀ (n m : Nat) (s : τ), n < m → I n s → iter m f s = some o := fun n => by
    induction n with
    | zero =>
      intro m s hm hi
      obtain ⟨m, rfl⟩ : ∃ k, m = k + 1 := ⟨m - 1, by omega⟩
      show (f s).ob _ = _
      rw [he s hi]
      rfl
    | succ n ih =>
      intro m s hm hi
      obtain ⟨m, rfl⟩ : ∃ k, m = k + 1 := ⟨m - 1, by omega⟩
      obtain ⟨s', h1, h2⟩ := hs n s hi
      show (f s).ob _ = _
      rw [h1]
      exact ih m s' (by omega) h2
  exact fun n s hn hi => main n fuel s hn hi
/-! Loops, step by step -/
theorem iter_inl {τ ο : Type} {f : τ → Option (τ ⊕ ο)} {s s' : τ} {n : Nat} (h : f s = some (.inl s')) : iter (n + 1) f s = iter n f s' := by
  show (f s).ob _ = _
  rw [h]
  rfl
theorem iter_inr {τ ο : Type} {f : τ → Option (τ ⊕ ο)} {s : τ} {o : ο} {n : Nat} (h : f s = some (.inr o)) : iter (n + 1) f s = some o := by
  show (f s).ob _ = _
  rw [h]
  rfl
theorem fuelS (n : Nat) (h : n < 4611686018427387904) : ∃ m, fuel = m + n + 1 := ⟨4611686018427387903 - n, by unfold fuel; omega⟩
/-- A loop, by a relation; what comes out is told by a property. -/
theorem iter_ex {τ ο : Type} {f : τ → Option (τ ⊕ ο)} (I : Nat → τ → Prop) (Q : ο → Prop) (hs : ∀ n s, I (n + 1) s → (∃ s', f s = some (.inl s') ∧ I n s') ∨ ∃ o, f s = some (.inr o) ∧ Q o) (he : ∀ s, I 0 s → ∃ o, f s = some (.inr o) ∧ Q o) : ∀ (n : Nat) (s : τ), n < 4611686018427387904 → I n s → ∃ o, iter fuel f s = some o ∧ Q o := by
  have main : ∀ (n m : Nat) (s : τ), n < m → I n s → ∃ o, iter m f s = some o ∧ Q o := fun n => by
    induction n with
    | zero =>
      intro m s hm hi
      obtain ⟨m, rfl⟩ : ∃ k, m = k + 1 := ⟨m - 1, by omega⟩
      obtain ⟨o, h1, h2⟩ := he s hi
      exact ⟨o, iter_inr h1, h2⟩
    | succ n ih =>
      intro m s hm hi
      obtain ⟨m, rfl⟩ : ∃ k, m = k + 1 := ⟨m - 1, by omega⟩
      rcases hs n s hi with ⟨s', h1, h2⟩ | ⟨o, h1, h2⟩
      · rw [iter_inl h1]
        exact ih m s' (by omega) h2
      · exact ⟨o, iter_inr h1, h2⟩
  exact fun n s hn hi => main n fuel s hn hi
theorem bind_ex {α β : Type} {x : Option α} {k : α → Option β} (R : Option β → Prop) (P : α → Prop) (h : ∃ v, x = some v ∧ P v) (hk : ∀ v, P v → R (k v)) : R (x.bind k) := by
  obtain ⟨v, rfl, hv⟩ := h
  exact hk v hv
theorem iter_fuel_inr {τ ο : Type} {f : τ → Option (τ ⊕ ο)} {s : τ} {o : ο} (h : f s = some (.inr o)) : iter fuel f s = some o := by
  obtain ⟨n, hn⟩ := fuelS 0 (by omega)
  rw [hn]
  exact iter_inr h
end Go.Ab

/- Layer 1: what the decompiled functions are. -/
namespace Go.Ab.D
open Go.P1

/-- A table as the program holds it. -/
def tabI (T : List Nat) : List Int := T.map fun (n : Nat) => (n : Int)
theorem tabI_len (T : List Nat) : (tabI T).length = T.length := by simp [tabI]
theorem tabI_get {T : List Nat} (h : Tab T) {i : Nat} (hi : i < 256) : (tabI T)[i]? = some ((T.getD i 0 : Nat) : Int) := by
  have : i < T.length := by rw [h.1]; exact hi
  simp [tabI, this]
theorem table_is : bytes_Table fuel = some (tabI crcT) := by kernel_rfl

theorem sum_step {T : List Nat} (h : Tab T) {b : List UInt8} (s k : Nat) (hk : k < b.length) (hb : b.length < 9223372036854775807) (hs : s < 4294967296) :
    bytes_Sum_l0 fuel b (tabI T) (s : Int) (k : Int) = some (.inl (((P1.step T s b[k] : Nat) : Int), ((k + 1 : Nat) : Int))) := by
  unfold bytes_Sum_l0
  have h1 : decide ((k : Int) < ((b.length : Nat) : Int)) = true := decide_eq_true (by omega)
  have hc := b[k].toNat_lt
  have hm : s % 256 < 256 := Nat.mod_lt _ (by omega)
  have hx : s % 256 ^^^ b[k].toNat < 256 := xor_lt8 hm hc
  have e1 : IntKind.wrap .u8 (s : Int) = ((s % 256 : Nat) : Int) := by rw [wu8_mod]; omega
  have e2 : Int.fdiv (s : Int) 256 = ((s / 256 : Nat) : Int) := fdiv_nat s 256
  have e3 : IntKind.wrap .i64 ((k : Int) + 1) = ((k + 1 : Nat) : Int) := by rw [w64 ⟨by omega, by omega⟩]; omega
  have ht := h.lt (s % 256 ^^^ b[k].toNat)
  simp only [h1, cond_true, idx_nat hk, Option.bind_some, List.getElem?_eq_getElem hk, e1, xor8 hm hc, idx_nat hx, tabI_get h hx, e2, xor32 ht (show s / 256 < 4294967296 by omega), e3]
  rw [P1.step, Nat.xor_comm]
theorem sum_is {T : List Nat} (h : Tab T) {b : List UInt8} (hb : b.length < 4611686018427387904) : bytes_Sum fuel (tabI T) b = some ((P1.sum T b : Nat) : Int) := by
  unfold bytes_Sum bytes_Sum_l0_it
  have e : iter fuel (fun tt => bytes_Sum_l0 fuel b (tabI T) tt.1 tt.2) (4294967295, 0) = some ((P1.run T 4294967295 b : Nat) : Int) := by
    have := iter_range (f := fun (tt : Int × Int) => bytes_Sum_l0 fuel b (tabI T) tt.1 tt.2) (o := ((P1.run T 4294967295 b : Nat) : Int)) (fun k => (((P1.run T 4294967295 (b.take k) : Nat) : Int), (k : Int))) b.length hb
      (fun k hk => by
        rw [sum_step h _ k hk (by omega) (P1.run_lt h _ (by omega))]
        rw [List.take_succ_eq_append_getElem hk, P1.run_snoc])
      (by
        simp only [List.take_length]
        unfold bytes_Sum_l0
        rw [decide_eq_false (by omega)]
        rfl)
    simpa [P1.run] using this
  rw [e]
  have hl := P1.run_lt h b (s := 4294967295) (by omega)
  simp only [Option.bind_some]
  rw [wu32 ⟨by omega, by omega⟩]
  congr 1
  unfold P1.sum
  omega
theorem copy_is {b : List UInt8} (h : b.length ≤ room) : low_CopyBytes fuel b = some b := by
  unfold low_CopyBytes
  rw [need_true (by rw [Nat.mul_one, ble_true h]; rfl)]
theorem clone_is {b : List UInt8} (h : b.length ≤ room) : slices_Clone__byte_byte fuel b = some b := by
  unfold slices_Clone__byte_byte
  have hn : need (Nat.ble ((0 + b.length) * 1) room && Nat.ble (0 + b.length) room) (some b) = some b := need_true (by rw [Nat.zero_add, Nat.mul_one, ble_true h]; rfl)
  rw [nilQ_same (fun h0 => by
    have : b = [] := List.eq_nil_of_length_eq_zero h0
    subst this
    rw [hn]
    rfl)]
  rw [hn]
  rfl
theorem seal_is {T : List Nat} (h : Tab T) {b : List UInt8} (hb : b.length + 4 ≤ 140737488355328) : bytes_Seal fuel (tabI T) b = some (sealed (P1.sum T) b) := by
  have hs := P1.sum_lt T b
  have e0 : IntKind.wrap .i64 (((b.length : Nat) : Int) + 4) = ((b.length + 4 : Nat) : Int) := by rw [w64 ⟨by omega, by omega⟩]; omega
  unfold bytes_Seal
  rw [e0, upto_nat (show b.length + 4 ≤ room from hb)]
  simp only [Option.bind_some]
  rw [upto_nat (Nat.le_refl _)]
  simp only [Option.bind_some]
  rw [need_true (by rw [Nat.mul_one, ble_true (show b.length + 4 ≤ room from hb)]), sum_is h (by omega)]
  simp only [Option.bind_some]
  have e : bytes_Seal_l0_it fuel b ((P1.sum T b : Nat) : Int) (0, List.replicate (b.length + 4) 0) = some (laid4 b.length (P1.sum T b) 4) := by
    unfold bytes_Seal_l0_it
    have := iter_range (f := fun (tt : Int × List UInt8) => bytes_Seal_l0 fuel b ((P1.sum T b : Nat) : Int) tt.1 tt.2) (o := laid4 b.length (P1.sum T b) 4) (fun k => ((k : Int), laid4 b.length (P1.sum T b) k)) 4 (by decide)
      (fun k hk => by
        have hlen := laid4_len b.length (P1.sum T b) k (by omega)
        have e1 : IntKind.wrap .i64 (8 * (k : Int)) = ((8 * k : Nat) : Int) := by rw [w64 ⟨by omega, by omega⟩]; omega
        have e2 : IntKind.wrap .i64 (IntKind.wrap .i64 (((b.length + 4 : Nat) : Int) - 1) - (k : Int)) = ((b.length + 3 - k : Nat) : Int) := by
          rw [w64 (x := ((b.length + 4 : Nat) : Int) - 1) ⟨by omega, by omega⟩, w64 ⟨by omega, by omega⟩]; omega
        have e3 : (2 : Int) ^ (min ((8 * k : Nat) : Int).toNat 32) = ((2 ^ (8 * k) : Nat) : Int) := by
          have : min ((8 * k : Nat) : Int).toNat 32 = 8 * k := by omega
          rw [this]; simp
        have e4 : IntKind.wrap .u8 (Int.fdiv ((P1.sum T b : Nat) : Int) ((2 ^ (8 * k) : Nat) : Int)) = ((P1.sum T b / 2 ^ (8 * k) % 256 : Nat) : Int) := by rw [fdiv_nat, wu8_mod]; omega
        have hq : b.length + 3 - k < (laid4 b.length (P1.sum T b) k).length := by omega
        show bytes_Seal_l0 fuel b _ (k : Int) (laid4 b.length (P1.sum T b) k) = _
        unfold bytes_Seal_l0
        rw [decide_eq_true (show (k : Int) < 4 by omega), e1, e0, e2, e3, e4, need_true (decide_eq_true (by omega)), idx_nat hq, byte_nat (Nat.mod_lt _ (by omega))]
        simp only [cond_true, Option.bind_some, List.getElem?_eq_getElem hq]
        rw [w64 ⟨by omega, by omega⟩, ← laid4_step b.length (P1.sum T b) k hk]
        have : UInt8.ofNat (P1.sum T b / 2 ^ (8 * k) % 256) = UInt8.ofNat (P1.sum T b / 2 ^ (8 * k)) := by
          apply UInt8.toNat_inj.1
          simp
        rw [this]
        rfl)
      (by
        show bytes_Seal_l0 fuel b _ ((4 : Nat) : Int) (laid4 b.length (P1.sum T b) 4) = _
        unfold bytes_Seal_l0
        rw [decide_eq_false (by omega)]
        rfl)
    have h0 : laid4 b.length (P1.sum T b) 0 = List.replicate (b.length + 4) 0 := by
      unfold laid4
      simp [be4]
    simp only [h0] at this
    exact this
  rw [e]
  simp only [Option.bind_some]
  congr 1
  rw [laid4_end]
  unfold splice sealed
  have : List.take (List.replicate b.length (0 : UInt8) ++ be4 (P1.sum T b)).length b = b := List.take_of_length_le (by simp)
  rw [this]
  simp
theorem unseal_is {T : List Nat} (h : Tab T) {b : List UInt8} (hb : b.length ≤ 140737488355328) : bytes_Unseal fuel (tabI T) b = some ((unsealed (P1.sum T) b).1, (((unsealed (P1.sum T) b).2 : Nat) : Int)) := by
  unfold bytes_Unseal
  by_cases h4 : b.length < 4
  · rw [decide_eq_true (by omega), unsealed_short _ h4]
    rfl
  · rw [decide_eq_false (by omega)]
    have e0 : IntKind.wrap .i64 (((b.length : Nat) : Int) - 4) = ((b.length - 4 : Nat) : Int) := by rw [w64 ⟨by omega, by omega⟩]; omega
    have hl : (b.take (b.length - 4)).length = b.length - 4 := by simp
    simp only [cond_false]
    rw [e0, upto_nat (by omega)]
    simp only [Option.bind_some]
    rw [clone_is (by rw [hl]; unfold room; omega)]
    simp only [Option.bind_some]
    rw [seal_is h (by rw [hl]; omega)]
    simp only [Option.bind_some]
    rw [unsealed_is _ (by omega)]
    by_cases he : sealed (P1.sum T) (b.take (b.length - 4)) = b
    · rw [if_pos he]
      simp [he]
    · rw [if_neg he]
      have : (sealed (P1.sum T) (b.take (b.length - 4)) == b) = false := by simpa using he
      rw [this]
      rfl
end Go.Ab.D

/- Layer 1: numbers and strings, sent and got. -/
namespace Go.Ab.D
open Go.P1

/-! Numbers -/
def uintF (tt : Int × List UInt8) : Option ((Int × List UInt8) ⊕ (Int × List UInt8)) := bytes_Uint_o0_l0 fuel tt.1 tt.2
theorem uint_end {n : Nat} (h : n < 128) (l : List UInt8) : uintF ((n : Int), l) = some (.inr ((n : Int), l)) := by
  show bytes_Uint_o0_l0 fuel (n : Int) l = _
  unfold bytes_Uint_o0_l0
  rw [decide_eq_false (by omega)]
  rfl
theorem uint_go {n : Nat} (h : 128 ≤ n) (hn : n < 18446744073709551616) (l : List UInt8) (hl : l.length + 1 ≤ 140737488355328) : uintF ((n : Int), l) = some (.inl (((n / 128 : Nat) : Int), l ++ [UInt8.ofNat (n % 128 + 128)])) := by
  show bytes_Uint_o0_l0 fuel (n : Int) l = _
  unfold bytes_Uint_o0_l0
  have e1 : Int.tmod (n : Int) 128 = ((n % 128 : Nat) : Int) := rfl
  have e2 : Int.tdiv (n : Int) 128 = ((n / 128 : Nat) : Int) := rfl
  have hm : n % 128 < 128 := Nat.mod_lt _ (by omega)
  have e3 : IntKind.wrap .u8 (IntKind.wrap .u64 (((n % 128 : Nat) : Int) + 128)) = ((n % 128 + 128 : Nat) : Int) := by
    rw [wu64 ⟨by omega, by omega⟩, wu8 ⟨by omega, by omega⟩]; omega
  have e4 : IntKind.wrap .u64 ((n / 128 : Nat) : Int) = ((n / 128 : Nat) : Int) := wu64 ⟨by omega, by omega⟩
  rw [decide_eq_true (by omega), e1, e2, e3, e4, byte_nat (by omega)]
  simp only [cond_true, Option.bind_some]
  rw [need_true (by rw [Nat.mul_one, ble_true (by unfold room; omega)]; rfl)]
theorem uint_loop : ∀ (n m : Nat) (l : List UInt8), n < 18446744073709551616 → (varint n).length ≤ m → l.length + (varint n).length ≤ 140737488355328 →
    ∃ (c : Nat) (r : List UInt8), iter m uintF ((n : Int), l) = some ((c : Int), r) ∧ c < 128 ∧ r ++ [UInt8.ofNat c] = l ++ varint n := fun n => by
  induction n using Nat.strongRecOn with
  | _ n ih =>
    intro m l hn hm hl
    by_cases h : n < 128
    · rw [varint_lt h] at hm hl ⊢
      obtain ⟨m, rfl⟩ : ∃ k, m = k + 1 := ⟨m - 1, by simp at hm; omega⟩
      refine ⟨n, l, ?_, h, rfl⟩
      show (uintF _).ob _ = _
      rw [uint_end h]
      rfl
    · have h' : 128 ≤ n := by omega
      rw [varint_ge h'] at hm hl ⊢
      simp only [List.length_cons] at hm hl
      obtain ⟨m, rfl⟩ : ∃ k, m = k + 1 := ⟨m - 1, by omega⟩
      have hp := varint_pos (n / 128)
      obtain ⟨c, r, q1, q2, q3⟩ := ih (n / 128) (by omega) m (l ++ [UInt8.ofNat (n % 128 + 128)]) (by omega) (by omega) (by simp; omega)
      refine ⟨c, r, ?_, q2, by rw [q3]; simp⟩
      show (uintF _).ob _ = _
      rw [uint_go h' hn l (by omega)]
      exact q1
theorem uint_v1_is {n : Nat} (hn : n < 18446744073709551616) {l : List UInt8} (hl : l.length + 10 ≤ 140737488355328) : bytes_Uint_o0 fuel (n : Int) l = some (l ++ varint n) := by
  unfold bytes_Uint_o0 bytes_Uint_o0_l0_it
  have h10 := varint_len10 hn
  obtain ⟨c, r, q1, q2, q3⟩ := uint_loop n fuel l hn (by unfold fuel; omega) (by omega)
  have q1' : iter fuel (fun tt => bytes_Uint_o0_l0 fuel tt.1 tt.2) ((n : Int), l) = some ((c : Int), r) := q1
  have hr : r.length + 1 = l.length + (varint n).length := by
    have := congrArg List.length q3
    simpa using this
  rw [q1']
  simp only [Option.bind_some]
  rw [wu8 ⟨by omega, by omega⟩, byte_nat (by omega)]
  simp only [Option.bind_some]
  rw [need_true (by rw [Nat.mul_one, ble_true (by unfold room; omega)]; rfl), q3]
theorem flat_take (ls : List (List UInt8)) (k : Nat) : (ls.take k).flatten.length ≤ ls.flatten.length := by
  have : ls.flatten = (ls.take k).flatten ++ (ls.drop k).flatten := by rw [← List.flatten_append, List.take_append_drop]
  rw [this, List.length_append]
  omega
theorem flat_succ {ls : List (List UInt8)} {k : Nat} (h : k < ls.length) : (ls.take (k + 1)).flatten = (ls.take k).flatten ++ ls[k] := by
  rw [List.take_succ_eq_append_getElem h, List.flatten_append]
  simp
theorem concat_is {ls : List (List UInt8)} (hn : ls.length < 1000000) (hl : ls.flatten.length ≤ 140737488355328) : slices_Concat__byte_byte fuel ls = some ls.flatten := by
  unfold slices_Concat__byte_byte slices_Concat__byte_byte_l0_it slices_Concat__byte_byte_l1_it
  have s1 := iter_range (f := fun (tt : Int × Int) => slices_Concat__byte_byte_l0 fuel ls tt.1 tt.2) (o := ((ls.flatten.length : Nat) : Int)) (fun k => ((((ls.take k).flatten.length : Nat) : Int), (k : Int))) ls.length (by omega)
    (fun k hk => by
      have h1 := flat_take ls (k + 1)
      rw [flat_succ hk, List.length_append] at h1
      show slices_Concat__byte_byte_l0 fuel ls ((((ls.take k).flatten.length : Nat) : Int)) (k : Int) = _
      unfold slices_Concat__byte_byte_l0
      rw [decide_eq_true (by omega), idx_nat hk]
      simp only [cond_true, Option.bind_some, List.getElem?_eq_getElem hk]
      rw [w64 ⟨by omega, by omega⟩, decide_eq_false (by omega), w64 ⟨by omega, by omega⟩, flat_succ hk, List.length_append]
      simp)
    (by
      show slices_Concat__byte_byte_l0 fuel ls _ ((ls.length : Nat) : Int) = _
      unfold slices_Concat__byte_byte_l0
      rw [decide_eq_false (by omega), List.take_length]
      rfl)
  have s1' : iter fuel (fun (tt : Int × Int) => slices_Concat__byte_byte_l0 fuel ls tt.1 tt.2) ((0 : Int), (0 : Int)) = some ((ls.flatten.length : Nat) : Int) := s1
  have sg : slices_Grow__byte_byte_n0 fuel ((ls.flatten.length : Nat) : Int) = some [] := by
    unfold slices_Grow__byte_byte_n0
    rw [decide_eq_false (by omega)]
    simp only [cond_false]
    by_cases h0 : ls.flatten.length = 0
    · rw [decide_eq_false (by rw [w64 ⟨by omega, by omega⟩]; omega)]
      rfl
    · have e : IntKind.wrap .i64 (((ls.flatten.length : Nat) : Int) - 0) = ((ls.flatten.length : Nat) : Int) := by rw [w64 ⟨by omega, by omega⟩]; omega
      rw [e, decide_eq_true (by omega), upto_nat (show ls.flatten.length ≤ room from hl)]
      simp only [cond_true, Option.bind_some]
      rw [need_true (by rw [Nat.mul_one, ble_true (show ls.flatten.length ≤ room from hl)]; rfl)]
      have e0 : ∀ m, upto? 0 m = some 0 := fun m => upto_nat (i := 0) (Nat.zero_le m)
      rw [e0]
      rfl
  have s2 := iter_range (f := fun (tt : Int × List UInt8) => slices_Concat__byte_byte_l1 fuel ls tt.1 tt.2) (o := ls.flatten) (fun k => ((k : Int), (ls.take k).flatten)) ls.length (by omega)
    (fun k hk => by
      have h1 := flat_take ls (k + 1)
      rw [flat_succ hk, List.length_append] at h1
      show slices_Concat__byte_byte_l1 fuel ls (k : Int) (ls.take k).flatten = _
      unfold slices_Concat__byte_byte_l1
      rw [decide_eq_true (by omega), idx_nat hk]
      simp only [cond_true, Option.bind_some, List.getElem?_eq_getElem hk]
      rw [need_true (by rw [Nat.mul_one, ble_true (by unfold room; omega)]; rfl), w64 ⟨by omega, by omega⟩, flat_succ hk]
      rfl)
    (by
      show slices_Concat__byte_byte_l1 fuel ls ((ls.length : Nat) : Int) _ = _
      unfold slices_Concat__byte_byte_l1
      rw [decide_eq_false (by omega), List.take_length]
      rfl)
  have s2' : iter fuel (fun (tt : Int × List UInt8) => slices_Concat__byte_byte_l1 fuel ls tt.1 tt.2) ((0 : Int), []) = some ls.flatten := s2
  rw [s1']
  simp only [Option.bind_some, sg, s2']
theorem blob_v1_is {b h : List UInt8} (hl : h.length + b.length + 10 ≤ 140737488355328) : bytes_Blob_o0 fuel b h = some (h ++ varint b.length ++ b) := by
  unfold bytes_Blob_o0
  have hb := varint_len10 (n := b.length) (by omega)
  rw [wu64 ⟨by omega, by omega⟩, uint_v1_is (by omega) (by omega)]
  simp only [Option.bind_some]
  rw [concat_is (by simp) (by simp; omega)]
  simp

/-! What comes -/
def getF (b : List UInt8) (at_ : Int) (tt : Int × Int) : Option ((Int × Int) ⊕ (Unit ⊕ (Int × (Int × Int)))) := bytes_GetUint_l0 fuel b at_ tt.1 tt.2
def getRes (at_ : Nat) (r : Nat × Nat × Nat) : Unit ⊕ (Int × (Int × Int)) := if r.2.2 = 11 then .inl () else if r.2.2 = 0 then .inr ((r.1 : Int), (((at_ + r.2.1 : Nat) : Int), 0)) else .inr (0, (0, ((r.2.2 : Nat) : Int)))
theorem get_step {b : List UInt8} {at_ k n : Nat} (hb : b.length < 4611686018427387904) (hk : k ≤ 9) (hn : n < 2 ^ (7 * k)) (hlt : at_ + k < b.length) (hc : b[at_ + k].toNat % 128 = b[at_ + k].toNat % 128) :
    getF b (at_ : Int) ((n : Int), ((at_ + k : Nat) : Int)) =
      if (0 < k ∧ b[at_ + k].toNat = 0) ∨ (8 < k ∧ 1 < b[at_ + k].toNat) then some (.inr (.inr (0, (0, 10))))
      else if b[at_ + k].toNat < 128 then some (.inr (.inr (((n + b[at_ + k].toNat % 128 * 2 ^ (7 * k) : Nat) : Int), (((at_ + k + 1 : Nat) : Int), 0))))
      else some (.inl (((n + b[at_ + k].toNat % 128 * 2 ^ (7 * k) : Nat) : Int), ((at_ + k + 1 : Nat) : Int))) := by
  show bytes_GetUint_l0 fuel b (at_ : Int) (n : Int) ((at_ + k : Nat) : Int) = _
  unfold bytes_GetUint_l0
  obtain ⟨c, hcc⟩ : ∃ c, b[at_ + k] = c := ⟨_, rfl⟩
  have hc8 := c.toNat_lt
  have e1 : IntKind.wrap .i64 (((at_ + k : Nat) : Int) - (at_ : Int)) = (k : Int) := by rw [w64 ⟨by omega, by omega⟩]; omega
  rw [decide_eq_true (by omega), idx_nat hlt]
  simp only [cond_true, Option.bind_some, List.getElem?_eq_getElem hlt, hcc, e1]
  have hz : (((c.toNat : Nat) : Int) == 0) = decide (c.toNat = 0) := by
    by_cases h : c.toNat = 0
    · simp [h]
    · rw [decide_eq_false h, beq_eq_false_iff_ne]; omega
  have e7 : IntKind.wrap .i64 (7 * (k : Int)) = ((7 * k : Nat) : Int) := by rw [w64 ⟨by omega, by omega⟩]; omega
  have em : min ((7 * k : Nat) : Int).toNat 64 = 7 * k := by omega
  have et : Int.tmod ((c.toNat : Nat) : Int) 128 = ((c.toNat % 128 : Nat) : Int) := rfl
  have hm : c.toNat % 128 < 128 := Nat.mod_lt _ (by omega)
  have ewu : IntKind.wrap .u64 ((c.toNat % 128 : Nat) : Int) = ((c.toNat % 128 : Nat) : Int) := wu64 ⟨by omega, by omega⟩
  by_cases hbad : (0 < k ∧ c.toNat = 0) ∨ (8 < k ∧ 1 < c.toNat)
  · rw [if_pos hbad]
    rcases hbad with ⟨h1, h2⟩ | ⟨h1, h2⟩
    · rw [decide_eq_true (show (k : Int) > 0 by omega), hz, decide_eq_true h2]
      rfl
    · rw [decide_eq_true (show (k : Int) > 0 by omega), hz, decide_eq_false (by omega), decide_eq_true (show (k : Int) > 8 by omega), decide_eq_true (show ((c.toNat : Nat) : Int) > 1 by omega)]
      rfl
  · rw [if_neg hbad]
    have hroom := P1.room n c.toNat k hk hn (fun h8 => by omega)
    have ep : ((c.toNat % 128 : Nat) : Int) * 2 ^ (7 * k) = ((c.toNat % 128 * 2 ^ (7 * k) : Nat) : Int) := by simp
    have ew : IntKind.wrap .u64 ((n : Int) + IntKind.wrap .u64 (IntKind.wrap .u64 ((c.toNat % 128 : Nat) : Int) * 2 ^ (min (IntKind.wrap .i64 (7 * (k : Int))).toNat 64))) = ((n + c.toNat % 128 * 2 ^ (7 * k) : Nat) : Int) := by
      rw [ewu, e7, em, ep, wu64 (x := ((c.toNat % 128 * 2 ^ (7 * k) : Nat) : Int)) ⟨by omega, by omega⟩, wu64 ⟨by omega, by omega⟩]
      omega
    have hguard : (bif decide ((k : Int) > 0) then bif decide (c.toNat = 0) then some true else bif decide ((k : Int) > 8) then some (decide (((c.toNat : Nat) : Int) > 1)) else some false
        else bif decide ((k : Int) > 8) then some (decide (((c.toNat : Nat) : Int) > 1)) else some false) = some false := by
      by_cases h0 : 0 < k
      · have : ¬ c.toNat = 0 := fun h => hbad (.inl ⟨h0, h⟩)
        rw [decide_eq_true (show (k : Int) > 0 by omega), decide_eq_false this]
        by_cases h8 : 8 < k
        · have : ¬ 1 < c.toNat := fun h => hbad (.inr ⟨h8, h⟩)
          rw [decide_eq_true (show (k : Int) > 8 by omega), decide_eq_false (show ¬ ((c.toNat : Nat) : Int) > 1 by omega)]
          rfl
        · rw [decide_eq_false (show ¬ (k : Int) > 8 by omega)]
          rfl
      · rw [decide_eq_false (show ¬ (k : Int) > 0 by omega), decide_eq_false (show ¬ (k : Int) > 8 by omega)]
        rfl
    rw [hz, hguard]
    simp only [Option.bind_some, cond_false, et, ew]
    have ex : IntKind.wrap .i64 (((at_ + k : Nat) : Int) + 1) = ((at_ + k + 1 : Nat) : Int) := by rw [w64 ⟨by omega, by omega⟩]; omega
    rw [e7, need_true (decide_eq_true (by omega)), ex]
    by_cases h128 : c.toNat < 128
    · rw [if_pos h128, decide_eq_true (show ((c.toNat : Nat) : Int) < 128 by omega)]
      rfl
    · rw [if_neg h128, decide_eq_false (show ¬ ((c.toNat : Nat) : Int) < 128 by omega)]
      rfl
theorem get_loop {b : List UInt8} {at_ : Nat} (hb : b.length < 4611686018427387904) : ∀ (rem k n m : Nat), at_ + k + rem = b.length → rem < m → k ≤ 9 → n < 2 ^ (7 * k) →
    iter m (getF b (at_ : Int)) ((n : Int), ((at_ + k : Nat) : Int)) = some (getRes at_ (num (b.drop (at_ + k)) k n))
  | 0, k, n, m, h, hm, hk, hn => by
    obtain ⟨m, rfl⟩ : ∃ j, m = j + 1 := ⟨m - 1, by omega⟩
    have : b.drop (at_ + k) = [] := List.drop_of_length_le (by omega)
    rw [this]
    show (getF b (at_ : Int) _).ob _ = _
    have e : getF b (at_ : Int) ((n : Int), ((at_ + k : Nat) : Int)) = some (.inr (.inl ())) := by
      show bytes_GetUint_l0 fuel b (at_ : Int) (n : Int) ((at_ + k : Nat) : Int) = _
      unfold bytes_GetUint_l0
      rw [decide_eq_false (by omega)]
      rfl
    rw [e]
    rfl
  | rem + 1, k, n, m, h, hm, hk, hn => by
    obtain ⟨m, rfl⟩ : ∃ j, m = j + 1 := ⟨m - 1, by omega⟩
    have hlt : at_ + k < b.length := by omega
    rw [drop_at hlt]
    show (getF b (at_ : Int) _).ob _ = _
    rw [get_step hb hk hn hlt rfl]
    by_cases hbad : (0 < k ∧ b[at_ + k].toNat = 0) ∨ (8 < k ∧ 1 < b[at_ + k].toNat)
    · rw [if_pos hbad, num_bad hbad]
      rfl
    · rw [if_neg hbad]
      by_cases h128 : b[at_ + k].toNat < 128
      · rw [if_pos h128, num_end hbad h128]
        show some _ = some _
        simp [getRes]
        omega
      · rw [if_neg h128, num_step hbad (by omega)]
        have hroom := P1.room n b[at_ + k].toNat k hk hn (fun h8 => by omega)
        have hk8 : k ≤ 8 := by
          by_cases h9 : k ≤ 8
          · exact h9
          · exfalso; exact hbad (.inr ⟨by omega, by omega⟩)
        have := get_loop (at_ := at_) hb rem (k + 1) (n + b[at_ + k].toNat % 128 * 2 ^ (7 * k)) m (by omega) (by omega) (by omega) (hroom.2 hk8)
        exact this
/-- What a place of bytes tells, as the program tells it. -/
theorem getUint_is {b : List UInt8} {at_ : Int} (hb : b.length < 4611686018427387904) : bytes_GetUint fuel b at_ = some ((((getUint b at_).1 : Nat) : Int), ((((getUint b at_).2.1 : Nat) : Int), (((getUint b at_).2.2 : Nat) : Int))) := by
  unfold bytes_GetUint
  by_cases hout : at_ < 0 ∨ (b.length : Int) < at_
  · rw [getUint_out hout]
    rcases hout with h | h
    · rw [decide_eq_true h]
      rfl
    · by_cases h0 : at_ < 0
      · rw [decide_eq_true h0]; rfl
      · rw [decide_eq_false h0, decide_eq_true (show at_ > ((b.length : Nat) : Int) by omega)]
        rfl
  · obtain ⟨a, rfl⟩ : ∃ a : Nat, at_ = a := ⟨at_.toNat, by omega⟩
    rw [decide_eq_false (by omega), decide_eq_false (by omega)]
    simp only [cond_false, Option.bind_some]
    unfold bytes_GetUint_l0_it
    have hl : iter fuel (fun tt => bytes_GetUint_l0 fuel b (a : Int) tt.1 tt.2) ((0 : Int), (a : Int)) = some (getRes a (num (b.drop a) 0 0)) :=
      get_loop hb (b.length - a) 0 0 fuel (by omega) (by unfold fuel; omega) (by omega) (by decide)
    rw [hl]
    simp only [Option.bind_some]
    obtain ⟨n, j, e, hnum⟩ : ∃ n j e, num (b.drop a) 0 0 = (n, j, e) := ⟨_, _, _, rfl⟩
    have hg : getUint b (a : Int) = if e = 0 then (n, a + j, 0) else (0, 0, e) := by
      unfold getUint
      rw [if_neg (by omega)]
      simp only [Int.toNat_natCast, hnum]
    rw [hg, hnum]
    unfold getRes
    by_cases h11 : e = 11
    · subst h11; rfl
    · by_cases h0 : e = 0
      · subst h0; rfl
      · simp only [h11, h0, if_false]
        rfl
theorem getBlob_is {b : List UInt8} {at_ most : Int} (hb : b.length ≤ 140737488355328) (hm : most ≤ 9223372036854775807) : bytes_GetBlob fuel b at_ most = some ((((getBlob b at_ most).2.1 : Nat) : Int), ((((getBlob b at_ most).2.2 : Nat) : Int), (getBlob b at_ most).1)) := by
  unfold bytes_GetBlob
  rw [getUint_is (by omega)]
  simp only [Option.bind_some]
  obtain ⟨n, j, e, hu⟩ : ∃ n j e, getUint b at_ = (n, j, e) := ⟨_, _, _, rfl⟩
  have hfit := getUint_fits b at_
  rw [hu] at hfit ⊢
  simp only at hfit ⊢
  by_cases he : e = 0
  · subst he
    have e0 : (!(((0 : Nat) : Int) == 0)) = false := rfl
    rw [e0]
    simp only [cond_false]
    by_cases hmost : most < 0 ∨ most < n
    · rw [getBlob_long hu hmost]
      by_cases h0 : most < 0
      · rw [decide_eq_true h0]; rfl
      · rw [decide_eq_false h0, wu64 ⟨by omega, by omega⟩, decide_eq_true (show ((n : Nat) : Int) > most by omega)]
        rfl
    · rw [decide_eq_false (show ¬ most < 0 by omega), wu64 (x := most) ⟨by omega, by omega⟩, decide_eq_false (show ¬ ((n : Nat) : Int) > most by omega)]
      simp only [cond_false, Option.bind_some]
      have hj : j ≤ b.length := hfit.2.1
      rw [w64 (x := ((b.length : Nat) : Int) - (j : Int)) ⟨by omega, by omega⟩, wu64 ⟨by omega, by omega⟩]
      by_cases hs : b.length - j < n
      · rw [getBlob_short hu hmost hs, decide_eq_true (by omega)]
        rfl
      · rw [getBlob_ok hu hmost hs, decide_eq_false (by omega), upto_nat hj]
        simp only [cond_false, Option.bind_some]
        have hnl : n ≤ (List.drop j b).length := by rw [List.length_drop]; omega
        rw [upto_nat hnl]
        simp only [Option.bind_some]
        have hl : (List.take n (List.drop j b)).length = n := by rw [List.length_take]; omega
        rw [clone_is (by rw [hl]; unfold room; omega)]
        simp only [Option.bind_some, hl]
        rw [w64 ⟨by omega, by omega⟩]
        rfl
  · have e0 : (!(((e : Nat) : Int) == 0)) = true := by
      have : (((e : Nat) : Int) == 0) = false := by rw [beq_eq_false_iff_ne]; omega
      rw [this]; rfl
    rw [getBlob_err hu he, e0]
    rfl
end Go.Ab.D

/- Chapter 10: awake. -/
set_option maxRecDepth 100000
set_option maxHeartbeats 4000000
namespace Go.Ab.D
open Go Go.Ab
def T0 : List Int := (bytes_Table fuel).getD []
theorem T0_is : bytes_Table fuel = some T0 := by kernel_rfl
def askB : List UInt8 := [1,1,2,2,3,0,4,0,42,17,116,27]
def tellB : List UInt8 := [2,1,2,2,0,5,0,0,230,98,45,243]
theorem unseal_ask : bytes_Unseal fuel T0 askB = some (askB.take 8, 0) := by
  unfold bytes_Unseal
  have h : (upto? (IntKind.wrap .i64 (((askB.length : Nat) : Int) - 4)) askB.length) = some 8 := by kernel_rfl
  have hc : slices_Clone__byte_byte fuel (List.take 8 askB) = some (List.take 8 askB) := clone_is (by decide)
  rw [h, Option.bind_some, hc]
  show _ = _
  kernel_rfl
theorem unseal_tell : bytes_Unseal fuel T0 tellB = some (tellB.take 8, 0) := by
  unfold bytes_Unseal
  have h : (upto? (IntKind.wrap .i64 (((tellB.length : Nat) : Int) - 4)) tellB.length) = some 8 := by kernel_rfl
  have hc : slices_Clone__byte_byte fuel (List.take 8 tellB) = some (List.take 8 tellB) := clone_is (by decide)
  rw [h, Option.bind_some, hc]
  show _ = _
  kernel_rfl
theorem unseal_cut : bytes_Unseal fuel T0 (tellB.take 11) = some ([], 12) := by
  unfold bytes_Unseal
  have h : (upto? (IntKind.wrap .i64 ((((tellB.take 11).length : Nat) : Int) - 4)) (tellB.take 11).length) = some 7 := by kernel_rfl
  have hc : slices_Clone__byte_byte fuel (List.take 7 (tellB.take 11)) = some (List.take 7 (tellB.take 11)) := clone_is (by decide)
  rw [h, Option.bind_some, hc]
  show _ = _
  kernel_rfl
theorem reader_ask : wire_reader fuel T0 askB 1 = some (.inr (0, (false, (askB.take 8, 1)))) := by
  unfold wire_reader
  rw [unseal_ask]
  show _ = _
  kernel_rfl
theorem reader_tell : wire_reader fuel T0 tellB 2 = some (.inr (0, (false, (tellB.take 8, 1)))) := by
  unfold wire_reader
  rw [unseal_tell]
  show _ = _
  kernel_rfl
theorem reader_ask2 : wire_reader fuel T0 askB 2 = some (.inr (0, (true, (askB.take 8, 1)))) := by
  unfold wire_reader
  rw [unseal_ask]
  show _ = _
  kernel_rfl
theorem reader_cut : wire_reader fuel T0 (tellB.take 11) 2 = some (.inl 12) := by
  unfold wire_reader
  rw [unseal_cut]
  show _ = _
  kernel_rfl
theorem put_ask : wire_PutAsk fuel T0 (1, (2, ((UInt8.ofNat 2), (3, (0, (4, [])))))) = some (0, askB) := by kernel_rfl
theorem put_tell : wire_PutTell fuel T0 (1, (2, ((UInt8.ofNat 2), (0, ([], ([], 5)))))) = some (0, tellB) := by kernel_rfl
theorem get_cut : wire_GetTell fuel T0 (tellB.take 11) = some (0, (0, (0, (0, ([], ([], (0, 12))))))) := by
  unfold wire_GetTell
  rw [reader_cut]
  show _ = _
  kernel_rfl
end Go.Ab.D

/- Chapter 10: awake, on. -/
set_option maxRecDepth 100000
set_option maxHeartbeats 4000000
namespace Go.Ab.D
open Go Go.Ab
theorem clone_nil : slices_Clone__byte_byte fuel [] = some [] := clone_is (by decide)
theorem blob_ask : bytes_GetBlob fuel (askB.take 8) 7 65536 = some (8, (0, [])) := by
  refine Eq.trans (b := (slices_Clone__byte_byte fuel []).bind fun r1 => some (8, (0, r1))) (by kernel_rfl) ?_
  rw [clone_nil]; rfl
theorem blob_tell : bytes_GetBlob fuel (tellB.take 8) 7 65536 = some (8, (0, [])) := by
  refine Eq.trans (b := (slices_Clone__byte_byte fuel []).bind fun r1 => some (8, (0, r1))) (by kernel_rfl) ?_
  rw [clone_nil]; rfl
theorem end_ask : wire_reader_2 fuel false (askB.take 8) 7 = some (true, (false, (askB.take 8, (7, [])))) := by
  unfold wire_reader_2
  rw [blob_ask]
  show _ = _
  kernel_rfl
theorem end_tell : wire_reader_2 fuel false (tellB.take 8) 7 = some (true, (false, (tellB.take 8, (7, [])))) := by
  unfold wire_reader_2
  rw [blob_tell]
  show _ = _
  kernel_rfl
theorem ask_0 : wire_reader_1 fuel 1099511627776 false (askB.take 8) 1 = some (1, (false, (askB.take 8, 2))) := by kernel_rfl
theorem ask_1 : wire_reader_1 fuel 1099511627776 false (askB.take 8) 2 = some (2, (false, (askB.take 8, 3))) := by kernel_rfl
theorem ask_2 : wire_reader_1 fuel 9 false (askB.take 8) 3 = some (2, (false, (askB.take 8, 4))) := by kernel_rfl
theorem ask_3 : wire_reader_1 fuel 1099511627776 false (askB.take 8) 4 = some (3, (false, (askB.take 8, 5))) := by kernel_rfl
theorem ask_4 : wire_reader_1 fuel 255 false (askB.take 8) 5 = some (0, (false, (askB.take 8, 6))) := by kernel_rfl
theorem ask_5 : wire_reader_1 fuel 1099511627776 false (askB.take 8) 6 = some (4, (false, (askB.take 8, 7))) := by kernel_rfl
theorem get_ask : wire_GetAsk fuel T0 askB = some (1, (2, (2, (3, (0, (4, ([], 0))))))) := by
  unfold wire_GetAsk
  rw [reader_ask]
  simp only [Option.bind_some, beq_self_eq_true, Bool.not_true, cond_false, ask_0, ask_1, ask_2, ask_3, ask_4, ask_5, end_ask]
  show _ = _
  kernel_rfl
theorem tell_0 : wire_reader_1 fuel 1099511627776 false (tellB.take 8) 1 = some (1, (false, (tellB.take 8, 2))) := by kernel_rfl
theorem tell_1 : wire_reader_1 fuel 1099511627776 false (tellB.take 8) 2 = some (2, (false, (tellB.take 8, 3))) := by kernel_rfl
theorem tell_2 : wire_reader_1 fuel 9 false (tellB.take 8) 3 = some (2, (false, (tellB.take 8, 4))) := by kernel_rfl
theorem tell_3 : wire_reader_1 fuel 1000 false (tellB.take 8) 4 = some (0, (false, (tellB.take 8, 5))) := by kernel_rfl
theorem tell_4 : wire_reader_1 fuel 65536 false (tellB.take 8) 5 = some (5, (false, (tellB.take 8, 6))) := by kernel_rfl
theorem tell_5 : wire_reader_1 fuel 50 false (tellB.take 8) 6 = some (0, (false, (tellB.take 8, 7))) := by kernel_rfl
theorem get_tell : wire_GetTell fuel T0 tellB = some (1, (2, (2, (0, ([], ([], (5, 0))))))) := by
  unfold wire_GetTell
  rw [reader_tell]
  simp only [Option.bind_some, beq_self_eq_true, Bool.not_true, cond_false, tell_0, tell_1, tell_2, tell_3, tell_4, tell_5]
  have hl : wire_GetTell_l0_it fuel (0, (false, (tellB.take 8, 7))) (0, (0, (0, (0, (0, (0, (false, (tellB.take 8, (7, (1, (2, (IntKind.wrap .u8 2, (0, (5, [])))))))))))))) = some (0, (0, (0, (0, (0, (false, (tellB.take 8, (7, (1, (2, (2, (0, (5, []))))))))))))) := by kernel_rfl
  rw [hl]
  simp only [Option.bind_some, end_tell]
  show _ = _
  kernel_rfl
theorem get_ask2 : wire_GetTell fuel T0 askB = some (0, (0, (0, (0, ([], ([], (0, 110))))))) := by
  unfold wire_GetTell
  rw [reader_ask2]
  show _ = _
  kernel_rfl
theorem law10_awake_true : law10_awake fuel = some true := by
  refine Eq.trans (b := (wire_GetAsk fuel T0 askB).bind fun r5 => (wire_GetTell fuel T0 tellB).bind fun r6 => (wire_GetTell fuel T0 askB).bind fun r7 => (wire_GetTell fuel T0 (tellB.take 11)).bind fun r8 =>
    bif (r5.2.2.2.2.2.2.2 == 0) then
      bif (r6.2.2.2.2.2.2.2 == 0) then
        (byte? r5.2.2.1).bind fun c1 =>
        (byte? 2).bind fun c =>
        (low_SameAsk fuel (1, (2, (c, (3, (0, (4, [])))))) (r5.1, (r5.2.1, (c1, (r5.2.2.2.1, (r5.2.2.2.2.1, (r5.2.2.2.2.2.1, r5.2.2.2.2.2.2.1))))))).bind fun r9 =>
        bif r9 then
          (byte? r6.2.2.1).bind fun c3 =>
          (byte? 2).bind fun c2 =>
          (low_SameTell fuel (1, (2, (c2, (0, ([], ([], 5)))))) (r6.1, (r6.2.1, (c3, (r6.2.2.2.1, (r6.2.2.2.2.1, (r6.2.2.2.2.2.1, r6.2.2.2.2.2.2.1))))))).bind fun r10 =>
          bif r10 then
            bif (r7.2.2.2.2.2.2.2 == 110) then
              some (r8.2.2.2.2.2.2.2 == 12)
            else some false
          else some false
        else some false
      else some false
    else some false) (by kernel_rfl) ?_
  rw [get_ask, get_tell, get_ask2, get_cut]
  show _ = _
  kernel_rfl
end Go.Ab.D

/- Chapter 10: what the decompiled functions are. -/
set_option maxRecDepth 100000
namespace Go.Ab.D
open Go Go.Ab Go.P1 Go.P10
attribute [local irreducible] Go.P1.crcT tabI

theorem bif_some {α : Type} (a : Bool) (x y : α) : (bif a then some x else some y) = some (bif a then x else y) := by cases a <;> rfl
theorem bif_false (a b : Bool) : (bif a then b else false) = (a && b) := by cases a <;> rfl
theorem bif_true (a b : Bool) : (bif a then true else b) = (a || b) := by cases a <;> rfl
theorem bif_ff (a b : Bool) : (bif a then false else b) = (!a && b) := by cases a <;> rfl
theorem bif_fst {α β : Type} (a : Bool) (x y : α × β) : (bif a then x else y).1 = bif a then x.1 else y.1 := by cases a <;> rfl
theorem bif_snd {α β : Type} (a : Bool) (x y : α × β) : (bif a then x else y).2 = bif a then x.2 else y.2 := by cases a <;> rfl
theorem bif_same {α : Type} (a : Bool) (x : α) : (bif a then x else x) = x := by cases a <;> rfl
theorem byte_u8 (c : UInt8) : byte? ((c.toNat : Nat) : Int) = some c := by
  rw [byte_nat c.toNat_lt]; simp
theorem byte_wrap {n : Nat} : byte? (IntKind.wrap .u8 (n : Int)) = some (UInt8.ofNat n) := by
  rw [wu8_mod]
  have : ((n : Int) % 256) = ((n % 256 : Nat) : Int) := by omega
  rw [this, byte_nat (by omega)]
  congr 1
  apply UInt8.toNat_inj.1
  simp

theorem within_is (n lo hi : Int) : wire_within fuel n lo hi = some (decide (lo ≤ n ∧ n ≤ hi)) := by
  unfold wire_within
  simp only [bif_some, bif_false, ge_iff_le, Bool.decide_and]
theorem headed_is (a b c : Int) : wire_headed fuel a b c = some (headed a b c) := by
  unfold wire_headed headed
  simp only [within_is, Option.bind_some, bif_some, bif_false, ge_iff_le, Bool.decide_and, Bool.and_assoc]
theorem named_is (a b c d : Int) : wire_named fuel a b c d = some (named a b c d) := by
  unfold wire_named named
  simp only [within_is, Option.bind_some, bif_some, bif_false, ge_iff_le, Bool.decide_and, Bool.and_assoc]
theorem rightAsk_is (a : P10.Ask) : wire_RightAsk fuel a = some (rightAsk a) := by
  obtain ⟨a1, a2, a3, a4, a5, a6, a7⟩ := a
  unfold wire_RightAsk rightAsk
  simp only [headed_is, named_is, Option.bind_some, bif_some, bif_fst, bif_snd, bif_same, bif_false, bif_true, bif_ff]
  congr 1
  have e : (bif (!(((a3.toNat : Nat) : Int) == 4)) && !(((a3.toNat : Nat) : Int) == 5) then (1 : Int) else 0) = P10.least a3.toNat := by
    unfold P10.least
    by_cases h4 : a3.toNat = 4
    · simp [h4]
    · by_cases h5 : a3.toNat = 5
      · simp [h5]
      · have e4 : (((a3.toNat : Nat) : Int) == 4) = false := beq_eq_false_iff_ne.2 (by omega)
        have e5 : (((a3.toNat : Nat) : Int) == 5) = false := beq_eq_false_iff_ne.2 (by omega)
        rw [e4, e5, if_neg (by omega)]
        rfl
  rw [e]
  cases headed a1 a2 (a3.toNat : Int) with
  | false => simp
  | true =>
    cases named a4 a5 a6 (P10.least a3.toNat) with
    | false => simp
    | true =>
      simp only [Bool.not_true, bif_same, Bool.true_and, cond_false, Bool.not_false, cond_true]
      by_cases h1 : a3.toNat = 1
      · have e1 : (((a3.toNat : Nat) : Int) == 1) = true := beq_iff_eq.2 (by omega)
        rw [e1, if_pos h1]
        simp only [cond_true]
        by_cases hl : a7.length ≤ 65536
        · rw [decide_eq_true hl, decide_eq_true (by omega)]; rfl
        · rw [decide_eq_false hl, decide_eq_false (by omega)]; rfl
      · have e1 : (((a3.toNat : Nat) : Int) == 1) = false := beq_eq_false_iff_ne.2 (by omega)
        rw [e1, if_neg h1]
        simp only [cond_false]
        cases a7 with
        | nil => rfl
        | cons c r =>
          rw [decide_eq_false (by simp)]
          have : ((((c :: r).length : Nat) : Int) == 0) = false := beq_eq_false_iff_ne.2 (by simp only [List.length_cons]; omega)
          rw [this]; rfl
theorem wrong_is (i : P10.Info) : wire_wrong fuel i = some (!infoOk i) := by
  obtain ⟨i1, i2, i3, i4⟩ := i
  unfold wire_wrong infoOk
  simp only [named_is, Option.bind_some, bif_some, bif_true]
  congr 1
  cases named i1 i2 i3 1 with
  | false => rfl
  | true =>
    by_cases h1 : i4.toNat = 1
    · simp [h1]
    · by_cases h2 : i4.toNat = 2
      · simp [h2]
      · have : ¬ (i4.toNat : Int) = 1 := by omega
        have : ¬ (i4.toNat : Int) = 2 := by omega
        simp [*]
/-- A loop that looks for one. -/
theorem find_loop {α : Type} (p : α → Bool) (s : List α) (hs : s.length < 4611686018427387904) {f : Int → Option (Int ⊕ (Unit ⊕ Int))}
    (h1 : ∀ (k : Nat) (h : k < s.length), f (k : Int) = if p s[k] = true then some (.inr (.inr (k : Int))) else some (.inl ((k + 1 : Nat) : Int)))
    (h2 : f ((s.length : Nat) : Int) = some (.inr (.inl ()))) :
    ∃ o, iter fuel f 0 = some o ∧ ((o = .inl () ∧ ∀ x ∈ s, p x = false) ∨ ∃ k : Nat, o = .inr (k : Int) ∧ ∃ h : k < s.length, p s[k] = true ∧ ∀ j (hj : j < k), p s[j] = false) := by
  have main : ∀ (rem k m : Nat), k + rem = s.length → rem < m → (∀ j (hj : j < s.length), j < k → p s[j] = false) →
      ∃ o, iter m f (k : Int) = some o ∧ ((o = .inl () ∧ ∀ x ∈ s, p x = false) ∨ ∃ k : Nat, o = .inr (k : Int) ∧ ∃ h : k < s.length, p s[k] = true ∧ ∀ j (hj : j < k), p s[j] = false) := fun rem => by
    induction rem with
    | zero =>
      intro k m hk hm hp
      obtain ⟨m, rfl⟩ : ∃ j, m = j + 1 := ⟨m - 1, by omega⟩
      obtain rfl : k = s.length := by omega
      refine ⟨.inl (), ?_, .inl ⟨rfl, fun x hx => ?_⟩⟩
      · show (f ((s.length : Nat) : Int)).ob _ = _
        rw [h2]; rfl
      · obtain ⟨j, hj, rfl⟩ := List.mem_iff_getElem.1 hx
        exact hp j hj hj
    | succ rem ih =>
      intro k m hk hm hp
      obtain ⟨m, rfl⟩ : ∃ j, m = j + 1 := ⟨m - 1, by omega⟩
      have hlt : k < s.length := by omega
      by_cases hc : p s[k] = true
      · refine ⟨.inr (k : Int), ?_, .inr ⟨k, rfl, hlt, hc, fun j hj => hp j (by omega) hj⟩⟩
        show (f (k : Int)).ob _ = _
        rw [h1 k hlt, if_pos hc]; rfl
      · obtain ⟨o, e, ho⟩ := ih (k + 1) m (by omega) (by omega) fun j hj hjk => by
          rcases Nat.lt_or_ge j k with h | h
          · exact hp j hj h
          · obtain rfl : j = k := by omega
            simpa using hc
        refine ⟨o, ?_, ho⟩
        show (f (k : Int)).ob _ = _
        rw [h1 k hlt, if_neg hc]
        exact e
  exact main s.length 0 fuel (by omega) (by unfold fuel; omega) fun j _ hj => by omega
theorem wrongs_is {s : List P10.Info} (hs : s.length < 4611686018427387904) : slices_ContainsFunc__api_Info_api_Info_fwrong1 fuel s = some (!s.all infoOk) := by
  unfold slices_ContainsFunc__api_Info_api_Info_fwrong1 slices_IndexFunc__api_Info_api_Info_fwrong1 slices_IndexFunc__api_Info_api_Info_fwrong1_l0_it
  obtain ⟨o, e, ho⟩ := find_loop (fun i => !infoOk i) s hs (f := fun tt => slices_IndexFunc__api_Info_api_Info_fwrong1_l0 fuel s tt)
    (fun k h => by
      unfold slices_IndexFunc__api_Info_api_Info_fwrong1_l0
      rw [decide_eq_true (by omega), idx_nat h]
      simp only [cond_true, Option.bind_some, List.getElem?_eq_getElem h, wrong_is]
      rw [w64 ⟨by omega, by omega⟩]
      cases infoOk s[k] <;> rfl)
    (by
      unfold slices_IndexFunc__api_Info_api_Info_fwrong1_l0
      rw [decide_eq_false (by omega)]; rfl)
  rw [e]
  rcases ho with ⟨rfl, h⟩ | ⟨k, rfl, hk, h, _⟩
  · have : s.all infoOk = true := List.all_eq_true.2 fun x hx => by simpa using h x hx
    rw [this]; rfl
  · have : s.all infoOk = false := by
      rw [List.all_eq_false]
      exact ⟨s[k], List.getElem_mem hk, by simpa using h⟩
    rw [this]
    simp
theorem rightTell_is {x : P10.Tell} (hx : x.2.2.2.2.1.length < 4611686018427387904) : wire_RightTell fuel x = some (rightTell x) := by
  obtain ⟨a1, a2, a3, a4, is, b, a5⟩ := x
  simp only at hx
  unfold wire_RightTell rightTell
  simp only [headed_is, within_is, wrongs_is hx, Option.bind_some, bif_some, bif_fst, bif_snd, bif_same, bif_false, bif_true, bif_ff, Bool.not_not]
  congr 1
  cases headed a1 a2 (a3.toNat : Int) with
  | false => simp
  | true =>
    by_cases h2 : 0 ≤ a4 ∧ a4 ≤ 1000
    · by_cases h3 : is.length ≤ 50
      · have h3' : ((is.length : Nat) : Int) ≤ 50 := by omega
        cases is.all infoOk with
        | false => simp [h2]
        | true =>
          by_cases h4 : b.length ≤ 65536
          · have h4' : ((b.length : Nat) : Int) ≤ 65536 := by omega
            have e : IntKind.wrap .i64 (((is.length : Nat) : Int) + ((b.length : Nat) : Int)) = ((is.length + b.length : Nat) : Int) := by rw [w64 ⟨by omega, by omega⟩]; omega
            have e0 : ((((is.length + b.length : Nat) : Int)) == 0) = decide (is = [] ∧ b = []) := by
              simp only [← List.length_eq_zero_iff]
              by_cases h : is.length = 0 ∧ b.length = 0
              · simp [h.1, h.2]
              · rw [decide_eq_false h]
                simp only [beq_eq_false_iff_ne, ne_eq]
                omega
            rw [e, e0]
            simp only [h2, h3, h3', h4, h4', decide_true, Bool.true_and, Bool.and_true, cond_true, and_self]
            by_cases h5 : 0 ≤ a5 ∧ a5 ≤ 65536
            · by_cases h6 : a4 = 0
              · simp [h5, h6]
              · simp [h5, h6]
            · simp [h5]
          · have h4' : ¬ ((b.length : Nat) : Int) ≤ 65536 := by omega
            simp [h2, h3, h3', h4, h4']
      · have h3' : ¬ ((is.length : Nat) : Int) ≤ 50 := by omega
        simp [h2, h3, h3']
    · rw [decide_eq_false h2]
      simp
end Go.Ab.D

/- Chapter 10: readers; messages got. -/
set_option maxRecDepth 100000
namespace Go.Ab.D
open Go Go.Ab Go.P1 Go.P10
attribute [local irreducible] Go.P1.crcT tabI

theorem rd1_bad (most : Int) (l : List UInt8) (p : Int) : wire_reader_1 fuel most true l p = some (0, (true, (l, p))) := rfl
theorem rd1_some {M : Int} {most n p : Nat} {l r : List UInt8} (hM : M = (most : Int)) (hb : l.length < 4611686018427387904) (hm : most ≤ 4611686018427387904) (hp : p ≤ l.length) (h : pNum most (l.drop p) = some (n, r)) :
    wire_reader_1 fuel M false l (p : Int) = some ((n : Int), (false, (l, ((l.length - r.length : Nat) : Int)))) := by
  subst hM
  obtain ⟨h1, h2, h3, h4, h5⟩ := getUint_some hp h
  unfold wire_reader_1
  rw [getUint_is hb, h1]
  simp only [cond_false, Option.bind_some]
  rw [wu64 ⟨by omega, by omega⟩, w64 ⟨by omega, by omega⟩]
  have : decide ((n : Int) > (most : Int)) = false := decide_eq_false (by omega)
  rw [this]
  rfl
theorem rd1_none {M : Int} {most p : Nat} {l : List UInt8} (hM : M = (most : Int)) (hb : l.length < 4611686018427387904) (hm : most ≤ 4611686018427387904) (hp : p ≤ l.length) (h : pNum most (l.drop p) = none) :
    wire_reader_1 fuel M false l (p : Int) = some (0, (true, (l, (p : Int)))) := by
  subst hM
  have h1 := getUint_none hp h
  unfold wire_reader_1
  rw [getUint_is hb]
  simp only [cond_false, Option.bind_some]
  by_cases he : (getUint l p).2.2 = 0
  · rw [he, wu64 ⟨by omega, by omega⟩]
    have : decide (((getUint l p).1 : Int) > (most : Int)) = true := decide_eq_true (by rcases h1 with h1 | h1 <;> omega)
    rw [this]
    rfl
  · have : ((((getUint l p).2.2 : Nat) : Int) == 0) = false := beq_eq_false_iff_ne.2 (by omega)
    rw [this]
    rfl
theorem rd2_bad (l : List UInt8) (p : Int) : wire_reader_2 fuel true l p = some (false, (true, (l, (p, [])))) := rfl
theorem rd2_some {p : Nat} {l s r : List UInt8} (hb : l.length ≤ 140737488355328) (hp : p ≤ l.length) (h : pBlob 65536 (l.drop p) = some (s, r)) :
    wire_reader_2 fuel false l (p : Int) = some (decide (r = []), (false, (l, ((p : Int), s)))) := by
  obtain ⟨h1, h2, h3, h4⟩ := getBlob_some hp h
  unfold wire_reader_2
  rw [getBlob_is hb (by omega)]
  have h1' : getBlob l (p : Int) 65536 = (s, l.length - r.length, 0) := h1
  rw [h1']
  simp only [cond_false, Option.bind_some]
  have : ((((l.length - r.length : Nat) : Int)) == ((l.length : Nat) : Int)) = decide (r = []) := by
    simp only [← List.length_eq_zero_iff]
    by_cases h0 : r.length = 0
    · rw [h0]; simp
    · rw [decide_eq_false h0]
      exact beq_eq_false_iff_ne.2 (by omega)
  rw [this]
  rfl
theorem rd2_none {p : Nat} {l : List UInt8} (hb : l.length ≤ 140737488355328) (hp : p ≤ l.length) (h : pBlob 65536 (l.drop p) = none) :
    wire_reader_2 fuel false l (p : Int) = some (false, (false, (l, ((p : Int), [])))) := by
  obtain ⟨h1, h2, h3⟩ := getBlob_none hp h
  unfold wire_reader_2
  rw [getBlob_is hb (by omega)]
  have h1' : (getBlob l (p : Int) 65536).2.2 ≠ 0 := h1
  have h2' : (getBlob l (p : Int) 65536).1 = [] := h2
  rw [h2']
  simp only [cond_false, Option.bind_some]
  have : ((((getBlob l (p : Int) 65536).2.2 : Nat) : Int) == 0) = false := beq_eq_false_iff_ne.2 (by omega)
  rw [this]
  rfl
theorem reader_err {T : List Nat} (hT : Tab T) {b : List UInt8} (hb : b.length ≤ 140737488355328) (k : Int) (h : (unsealed (P1.sum T) b).2 ≠ 0) : wire_reader fuel (tabI T) b k = some (.inl ((unsealed (P1.sum T) b).2 : Int)) := by
  unfold wire_reader
  rw [unseal_is hT hb]
  simp only [Option.bind_some]
  have : ((((unsealed (P1.sum T) b).2 : Nat) : Int) == 0) = false := beq_eq_false_iff_ne.2 (by omega)
  rw [this]
  rfl
theorem reader_nil {T : List Nat} (hT : Tab T) {b : List UInt8} (hb : b.length ≤ 140737488355328) (k : Int) (h : (unsealed (P1.sum T) b).2 = 0) (h0 : (unsealed (P1.sum T) b).1 = []) : wire_reader fuel (tabI T) b k = some (.inr (0, (true, ([], 1)))) := by
  unfold wire_reader
  rw [unseal_is hT hb, h, h0]
  rfl
theorem reader_ok {T : List Nat} (hT : Tab T) {b : List UInt8} (hb : b.length ≤ 140737488355328) {K : Int} {k : Nat} (hK : K = (k : Int)) (h : (unsealed (P1.sum T) b).2 = 0) {c : UInt8} {r : List UInt8} (h0 : (unsealed (P1.sum T) b).1 = c :: r) :
    wire_reader fuel (tabI T) b K = some (.inr (0, (decide (c.toNat ≠ k), (c :: r, 1)))) := by
  subst hK
  unfold wire_reader
  rw [unseal_is hT hb, h, h0]
  have e1 : ((((c :: r).length : Nat) : Int) == 0) = false := beq_eq_false_iff_ne.2 (by simp only [List.length_cons]; omega)
  have e2 : idx? 0 (c :: r).length = some 0 := idx_nat (i := 0) (by simp)
  simp only [Option.bind_some, e1, cond_false, e2, List.getElem?_cons_zero]
  have e3 : (!(((c.toNat : Nat) : Int) == (k : Int))) = decide (c.toNat ≠ k) := by
    by_cases hc : c.toNat = k
    · simp [hc]
    · have : (((c.toNat : Nat) : Int) == (k : Int)) = false := beq_eq_false_iff_ne.2 (by omega)
      simp [hc, this]
  rw [e3]
  rfl
def outA (x : P10.Ask × Nat) : Int × (Int × (Int × (Int × (Int × (Int × (List UInt8 × Int)))))) := (x.1.1, (x.1.2.1, ((x.1.2.2.1.toNat : Int), (x.1.2.2.2.1, (x.1.2.2.2.2.1, (x.1.2.2.2.2.2.1, (x.1.2.2.2.2.2.2, (x.2 : Int))))))))
theorem unsealed_len (S : List UInt8 → Nat) (b : List UInt8) : (unsealed S b).1.length ≤ b.length := by
  by_cases hl : b.length < 4
  · rw [unsealed_short S hl]; simp
  · rw [unsealed_is S (by omega)]
    split <;> simp
/-- What is behind the first byte is no ask. -/
theorem askOf_none {c : UInt8} {r : List UInt8} (h : c ≠ 1) : askOf (c :: r) = none := by
  simp [askOf, pAskR, h, whole]
theorem wrap_u8 {n : Nat} : IntKind.wrap .u8 (n : Int) = (((UInt8.ofNat n).toNat : Nat) : Int) := by
  rw [wu8_mod, UInt8.toNat_ofNat']; omega
theorem getAsk_is {T : List Nat} (hT : Tab T) {b : List UInt8} (hb : b.length ≤ 140737488355328) : wire_GetAsk fuel (tabI T) b = some (outA (getAsk T b)) := by
  unfold wire_GetAsk getAsk
  by_cases h0 : (unsealed (P1.sum T) b).2 = 0
  · rw [if_pos h0]
    obtain ⟨l, hl⟩ : ∃ l, (unsealed (P1.sum T) b).1 = l := ⟨_, rfl⟩
    have hlen := unsealed_len (P1.sum T) b
    rw [hl] at hlen ⊢
    rcases l with _ | ⟨c, r⟩
    · rw [reader_nil hT hb 1 h0 hl]
      rfl
    · rw [reader_ok hT hb (K := 1) (k := 1) rfl h0 hl]
      simp only [Option.bind_some]
      by_cases hc : c = 1
      · subst hc
        have e1 : decide ((1 : UInt8).toNat ≠ 1) = false := rfl
        rw [e1]
        obtain ⟨L, hL⟩ : ∃ L, L = (1 :: r : List UInt8) := ⟨_, rfl⟩
        have d1 : L.drop 1 = r := by rw [hL]; rfl
        have hp0 : 1 ≤ L.length := by rw [hL]; simp
        rw [← hL] at hlen ⊢
        have hbig : L.length < 4611686018427387904 := by omega
        have hun : askOf L = whole (pAskB r) := by rw [hL]; exact askOf_one r
        unfold pAskB at hun
        simp only [beq_self_eq_true, Bool.not_true, cond_false]
        rcases h1 : pNum 1099511627776 r with _ | ⟨n1, r1⟩
        · have hN : askOf L = none := by rw [hun, h1]; rfl
          have q := rd1_none (M := 1099511627776) (most := 1099511627776) rfl hbig (by omega) hp0 (by rw [d1]; exact h1)
          have q' : wire_reader_1 fuel 1099511627776 false L 1 = _ := q
          rw [q', hN]
          rfl
        have q := rd1_some (M := 1099511627776) (most := 1099511627776) rfl hbig (by omega) hp0 (by rw [d1]; exact h1)
        have q' : wire_reader_1 fuel 1099511627776 false L 1 = _ := q
        obtain ⟨_, _, _, d2, g2⟩ := getUint_some hp0 (by rw [d1]; exact h1)
        rw [q']
        simp only [Option.bind_some]
        clear q q'
        rcases h2 : pNum 1099511627776 r1 with _ | ⟨n2, r2⟩
        · have hN : askOf L = none := by rw [hun, h1]; simp only [Option.bind_some, h2]; rfl
          rw [rd1_none (M := 1099511627776) (most := 1099511627776) rfl hbig (by omega) (Nat.sub_le _ _) (by rw [d2]; exact h2), hN]
          rfl
        rw [rd1_some (M := 1099511627776) (most := 1099511627776) rfl hbig (by omega) (Nat.sub_le _ _) (by rw [d2]; exact h2)]
        obtain ⟨_, _, _, d3, g3⟩ := getUint_some (Nat.sub_le L.length r1.length) (by rw [d2]; exact h2)
        simp only [Option.bind_some]
        rcases h3 : pNum 9 r2 with _ | ⟨n3, r3⟩
        · have hN : askOf L = none := by rw [hun, h1]; simp only [Option.bind_some, h2, h3]; rfl
          rw [rd1_none (M := 9) (most := 9) rfl hbig (by omega) (Nat.sub_le _ _) (by rw [d3]; exact h3), hN]
          rfl
        rw [rd1_some (M := 9) (most := 9) rfl hbig (by omega) (Nat.sub_le _ _) (by rw [d3]; exact h3)]
        obtain ⟨_, _, _, d4, g4⟩ := getUint_some (Nat.sub_le L.length r2.length) (by rw [d3]; exact h3)
        simp only [Option.bind_some]
        rcases h4 : pNum 1099511627776 r3 with _ | ⟨n4, r4⟩
        · have hN : askOf L = none := by rw [hun, h1]; simp only [Option.bind_some, h2, h3, h4]; rfl
          rw [rd1_none (M := 1099511627776) (most := 1099511627776) rfl hbig (by omega) (Nat.sub_le _ _) (by rw [d4]; exact h4), hN]
          rfl
        rw [rd1_some (M := 1099511627776) (most := 1099511627776) rfl hbig (by omega) (Nat.sub_le _ _) (by rw [d4]; exact h4)]
        obtain ⟨_, _, _, d5, g5⟩ := getUint_some (Nat.sub_le L.length r3.length) (by rw [d4]; exact h4)
        simp only [Option.bind_some]
        rcases h5 : pNum 255 r4 with _ | ⟨n5, r5⟩
        · have hN : askOf L = none := by rw [hun, h1]; simp only [Option.bind_some, h2, h3, h4, h5]; rfl
          rw [rd1_none (M := 255) (most := 255) rfl hbig (by omega) (Nat.sub_le _ _) (by rw [d5]; exact h5), hN]
          rfl
        rw [rd1_some (M := 255) (most := 255) rfl hbig (by omega) (Nat.sub_le _ _) (by rw [d5]; exact h5)]
        obtain ⟨_, _, _, d6, g6⟩ := getUint_some (Nat.sub_le L.length r4.length) (by rw [d5]; exact h5)
        simp only [Option.bind_some]
        rcases h6 : pNum 1099511627776 r5 with _ | ⟨n6, r6⟩
        · have hN : askOf L = none := by rw [hun, h1]; simp only [Option.bind_some, h2, h3, h4, h5, h6]; rfl
          rw [rd1_none (M := 1099511627776) (most := 1099511627776) rfl hbig (by omega) (Nat.sub_le _ _) (by rw [d6]; exact h6), hN]
          rfl
        rw [rd1_some (M := 1099511627776) (most := 1099511627776) rfl hbig (by omega) (Nat.sub_le _ _) (by rw [d6]; exact h6)]
        obtain ⟨_, _, _, d7, g7⟩ := getUint_some (Nat.sub_le L.length r5.length) (by rw [d6]; exact h6)
        simp only [Option.bind_some]
        rcases h7 : pBlob 65536 r6 with _ | ⟨s, r7⟩
        · have hN : askOf L = none := by rw [hun, h1]; simp only [Option.bind_some, h2, h3, h4, h5, h6, h7]; rfl
          rw [rd2_none (by omega) (Nat.sub_le _ _) (by rw [d7]; exact h7), hN]
          rfl
        rw [rd2_some (by omega) (Nat.sub_le _ _) (by rw [d7]; exact h7)]
        simp only [Option.bind_some]
        rw [byte_wrap]
        simp only [Option.bind_some]
        rw [rightAsk_is, wrap_u8]
        simp only [Option.bind_some]
        have hA : askOf L = if r7 = [] then (if rightAsk ((n1 : Int), ((n2 : Int), (UInt8.ofNat n3, ((n4 : Int), ((n5 : Int), ((n6 : Int), s)))))) = true then some ((n1 : Int), ((n2 : Int), (UInt8.ofNat n3, ((n4 : Int), ((n5 : Int), ((n6 : Int), s)))))) else none) else none := by
          rw [hun, h1]
          simp only [Option.bind_some, h2, h3, h4, h5, h6, h7]
          by_cases hr : rightAsk ((n1 : Int), ((n2 : Int), (UInt8.ofNat n3, ((n4 : Int), ((n5 : Int), ((n6 : Int), s)))))) = true
          · simp only [if_pos hr]
            rcases r7 with _ | _ <;> rfl
          · simp only [if_neg hr]
            split <;> rfl
        rw [hA]
        by_cases hr7 : r7 = []
        · rw [decide_eq_true hr7, if_pos hr7]
          by_cases hr : rightAsk ((n1 : Int), ((n2 : Int), (UInt8.ofNat n3, ((n4 : Int), ((n5 : Int), ((n6 : Int), s)))))) = true
          · rw [if_pos hr, hr]
            rfl
          · rw [if_neg hr]
            have : rightAsk ((n1 : Int), ((n2 : Int), (UInt8.ofNat n3, ((n4 : Int), ((n5 : Int), ((n6 : Int), s)))))) = false := by simpa using hr
            rw [this]
            rfl
        · rw [decide_eq_false hr7, if_neg hr7]
          rfl
      · have hne : c.toNat ≠ 1 := fun h => hc (UInt8.toNat_inj.1 h)
        rw [askOf_none hc, decide_eq_true hne]
        rfl
  · rw [reader_err hT hb 1 h0, if_neg h0]
    have : ((((unsealed (P1.sum T) b).2 : Nat) : Int) == 0) = false := beq_eq_false_iff_ne.2 (by omega)
    simp only [Option.bind_some, this]
    rfl
end Go.Ab.D

/- Chapter 10: tells got. -/
set_option maxRecDepth 100000
namespace Go.Ab.D
open Go Go.Ab Go.P1 Go.P10
attribute [local irreducible] Go.P1.crcT tabI

theorem tellOf_none {c : UInt8} {r : List UInt8} (h : c ≠ 2) : tellOf (c :: r) = none := by
  simp [tellOf, pTellR, h, whole]
def outT (x : P10.Tell × Nat) : Int × (Int × (Int × (Int × (List P10.Info × (List UInt8 × (Int × Int)))))) := (x.1.1, (x.1.2.1, ((x.1.2.2.1.toNat : Int), (x.1.2.2.2.1, (x.1.2.2.2.2.1, (x.1.2.2.2.2.2.1, (x.1.2.2.2.2.2.2, (x.2 : Int))))))))
/-- The loop over infos: its state. -/
abbrev TS := Int × (Int × (Int × (Int × (Int × (Int × (Bool × (List UInt8 × (Int × (Int × (Int × (Int × (Int × (Int × List P10.Info)))))))))))))
abbrev TO := Int × (Int × (Int × (Int × (Int × (Bool × (List UInt8 × (Int × (Int × (Int × (Int × (Int × (Int × List P10.Info))))))))))))
def tf (r8 : Int × (Bool × (List UInt8 × Int))) (tt : TS) : Option (TS ⊕ TO) :=
  wire_GetTell_l0 fuel r8 tt.1 tt.2.1 tt.2.2.1 tt.2.2.2.1 tt.2.2.2.2.1 tt.2.2.2.2.2.1 tt.2.2.2.2.2.2.1 tt.2.2.2.2.2.2.2.1 tt.2.2.2.2.2.2.2.2.1 tt.2.2.2.2.2.2.2.2.2.1 tt.2.2.2.2.2.2.2.2.2.2.1 tt.2.2.2.2.2.2.2.2.2.2.2.1 tt.2.2.2.2.2.2.2.2.2.2.2.2.1 tt.2.2.2.2.2.2.2.2.2.2.2.2.2.1 tt.2.2.2.2.2.2.2.2.2.2.2.2.2.2
def tS (x : Int) (z : Int × (Int × (Int × (Int × Int)))) (bad : Bool) (l : List UInt8) (p : Int) (y : Int × (Int × (Int × (Int × Int)))) (is : List P10.Info) : TS :=
  (x, (z.1, (z.2.1, (z.2.2.1, (z.2.2.2.1, (z.2.2.2.2, (bad, (l, (p, (y.1, (y.2.1, (y.2.2.1, (y.2.2.2.1, (y.2.2.2.2, is))))))))))))))
theorem room_is {n : Nat} (h : n ≤ 1000) : (Nat.ble ((n + 1) * 32) Go.Ab.room && Nat.ble (n + 1) Go.Ab.room) = true := by
  unfold Go.Ab.room
  simp only [Bool.and_eq_true, Nat.ble_eq]
  omega
theorem byte0 : byte? (IntKind.wrap .u8 0) = some 0 := byte_wrap (n := 0)
/-- Once bad, so it stays. -/
theorem tf_bad {N : Nat} (hN : N ≤ 50) (r8 : Int × (Bool × (List UInt8 × Int))) (h8 : r8.1 = (N : Int)) (z y : Int × (Int × (Int × (Int × Int)))) (l : List UInt8) (p : Int) : ∀ (d k m : Nat) (is : List P10.Info), k + d = N → is.length = k → d < m →
    ∃ is', iter m (tf r8) (tS (k : Int) z true l p y is) = some (tS 0 z true l p y is').2
  | 0, k, m, is, hk, hi, hm => by
    obtain ⟨m, rfl⟩ : ∃ j, m = j + 1 := ⟨m - 1, by omega⟩
    refine ⟨is, ?_⟩
    show (tf r8 (tS (k : Int) z true l p y is)).ob _ = _
    have : tf r8 (tS (k : Int) z true l p y is) = some (.inr (tS 0 z true l p y is).2) := by
      unfold tf tS wire_GetTell_l0
      simp only
      rw [decide_eq_false (by omega)]
      rfl
    rw [this]
    rfl
  | d + 1, k, m, is, hk, hi, hm => by
    obtain ⟨m, rfl⟩ : ∃ j, m = j + 1 := ⟨m - 1, by omega⟩
    obtain ⟨is', e⟩ := tf_bad hN r8 h8 z y l p d (k + 1) m (is ++ [(0, (0, (0, 0)))]) (by omega) (by simp [hi]) (by omega)
    refine ⟨is', ?_⟩
    show (tf r8 (tS (k : Int) z true l p y is)).ob _ = _
    have : tf r8 (tS (k : Int) z true l p y is) = some (.inl (tS ((k + 1 : Nat) : Int) z true l p y (is ++ [(0, (0, (0, 0)))]))) := by
      unfold tf tS wire_GetTell_l0
      simp only [rd1_bad, Option.bind_some]
      rw [decide_eq_true (by omega), byte0]
      simp only [Option.bind_some, cond_true]
      rw [need_true (by rw [hi]; exact room_is (by omega)), w64 ⟨by omega, by omega⟩]
      rfl
    rw [this]
    exact e
theorem tf_loop {N : Nat} (hN : N ≤ 50) (r8 : Int × (Bool × (List UInt8 × Int))) (h8 : r8.1 = (N : Int)) (z y : Int × (Int × (Int × (Int × Int)))) {L : List UInt8} (hL : L.length ≤ 140737488355328) :
    ∀ (d k m p : Nat) (is : List P10.Info), k + d = N → is.length = k → d < m → p ≤ L.length →
      (pInfos d (L.drop p) = none ∧ ∃ p' is', iter m (tf r8) (tS (k : Int) z false L (p : Int) y is) = some (tS 0 z true L p' y is').2) ∨
      (∃ js r, pInfos d (L.drop p) = some (js, r) ∧ r.length ≤ L.length ∧ L.drop (L.length - r.length) = r ∧ iter m (tf r8) (tS (k : Int) z false L (p : Int) y is) = some (tS 0 z false L ((L.length - r.length : Nat) : Int) y (is ++ js)).2)
  | 0, k, m, p, is, hk, hi, hm, hp => by
    obtain ⟨m, rfl⟩ : ∃ j, m = j + 1 := ⟨m - 1, by omega⟩
    refine .inr ⟨[], L.drop p, rfl, by simp, ?_, ?_⟩
    · rw [List.length_drop]; congr 1; omega
    show (tf r8 (tS (k : Int) z false L (p : Int) y is)).ob _ = _
    have : tf r8 (tS (k : Int) z false L (p : Int) y is) = some (.inr (tS 0 z false L (p : Int) y is).2) := by
      unfold tf tS wire_GetTell_l0
      simp only
      rw [decide_eq_false (by omega)]
      rfl
    rw [this, List.append_nil, List.length_drop]
    have : L.length - (L.length - p) = p := by omega
    rw [this]
    rfl
  | d + 1, k, m, p, is, hk, hi, hm, hp => by
    obtain ⟨m, rfl⟩ : ∃ j, m = j + 1 := ⟨m - 1, by omega⟩
    have hbig : L.length < 4611686018427387904 := by omega
    have e0 : decide ((k : Int) < r8.1) = true := decide_eq_true (by omega)
    have eN : need (Nat.ble ((is.length + 1) * 32) Go.Ab.room && Nat.ble (is.length + 1) Go.Ab.room) = fun (x : Option (TS ⊕ TO)) => x := funext fun x => need_true (by rw [hi]; exact room_is (by omega))
    have ek : IntKind.wrap .i64 ((k : Int) + 1) = ((k + 1 : Nat) : Int) := by rw [w64 ⟨by omega, by omega⟩]; omega
    -- what a bad round does
    have bad : ∀ {p' : Int} {i : P10.Info}, tf r8 (tS (k : Int) z false L (p : Int) y is) = some (.inl (tS ((k + 1 : Nat) : Int) z true L p' y (is ++ [i]))) →
        ∃ p' is', iter (m + 1) (tf r8) (tS (k : Int) z false L (p : Int) y is) = some (tS 0 z true L p' y is').2 := fun {p' i} h => by
      obtain ⟨is', e⟩ := tf_bad hN r8 h8 z y L p' d (k + 1) m (is ++ [i]) (by omega) (by simp [hi]) (by omega)
      refine ⟨p', is', ?_⟩
      show (tf r8 (tS (k : Int) z false L (p : Int) y is)).ob _ = _
      rw [h]
      exact e
    rcases h1 : pNum 1099511627776 (L.drop p) with _ | ⟨n1, r1⟩
    · refine .inl ⟨by unfold pInfos; rw [h1]; rfl, bad (p' := (p : Int)) (i := (0, (0, (0, 0)))) ?_⟩
      unfold tf tS wire_GetTell_l0
      simp only
      rw [e0, rd1_none (M := 1099511627776) (most := 1099511627776) rfl hbig (by decide) hp h1]
      simp only [rd1_bad, Option.bind_some, cond_true, eN, ek, byte0]
    have q1 := rd1_some (M := 1099511627776) (most := 1099511627776) rfl hbig (by decide) hp h1
    obtain ⟨_, _, _, d2, g2⟩ := getUint_some hp h1
    rcases h2 : pNum 255 r1 with _ | ⟨n2, r2⟩
    · refine .inl ⟨by unfold pInfos; rw [h1]; simp only [Option.bind_some, h2]; rfl, bad (p' := ((L.length - r1.length : Nat) : Int)) (i := ((n1 : Int), (0, (0, 0)))) ?_⟩
      unfold tf tS wire_GetTell_l0
      simp only
      rw [e0, q1]
      simp only [Option.bind_some, cond_true]
      rw [rd1_none (M := 255) (most := 255) rfl hbig (by decide) (Nat.sub_le _ _) (by rw [d2]; exact h2)]
      simp only [rd1_bad, Option.bind_some, eN, ek, byte0]
    have q2 := rd1_some (M := 255) (most := 255) rfl hbig (by decide) (Nat.sub_le L.length r1.length) (by rw [d2]; exact h2)
    obtain ⟨_, _, _, d3, g3⟩ := getUint_some (Nat.sub_le L.length r1.length) (by rw [d2]; exact h2)
    rcases h3 : pNum 1099511627776 r2 with _ | ⟨n3, r3⟩
    · refine .inl ⟨by unfold pInfos; rw [h1]; simp only [Option.bind_some, h2, h3]; rfl, bad (p' := ((L.length - r2.length : Nat) : Int)) (i := ((n1 : Int), ((n2 : Int), (0, 0)))) ?_⟩
      unfold tf tS wire_GetTell_l0
      simp only
      rw [e0, q1]
      simp only [Option.bind_some, cond_true]
      rw [q2]
      simp only [Option.bind_some]
      rw [rd1_none (M := 1099511627776) (most := 1099511627776) rfl hbig (by decide) (Nat.sub_le _ _) (by rw [d3]; exact h3)]
      simp only [rd1_bad, Option.bind_some, eN, ek, byte0]
    have q3 := rd1_some (M := 1099511627776) (most := 1099511627776) rfl hbig (by decide) (Nat.sub_le L.length r2.length) (by rw [d3]; exact h3)
    obtain ⟨_, _, _, d4, g4⟩ := getUint_some (Nat.sub_le L.length r2.length) (by rw [d3]; exact h3)
    rcases h4 : pNum 9 r3 with _ | ⟨n4, r4⟩
    · refine .inl ⟨by unfold pInfos; rw [h1]; simp only [Option.bind_some, h2, h3, h4]; rfl, bad (p' := ((L.length - r3.length : Nat) : Int)) (i := ((n1 : Int), ((n2 : Int), ((n3 : Int), 0)))) ?_⟩
      unfold tf tS wire_GetTell_l0
      simp only
      rw [e0, q1]
      simp only [Option.bind_some, cond_true]
      rw [q2]
      simp only [Option.bind_some]
      rw [q3]
      simp only [Option.bind_some]
      rw [rd1_none (M := 9) (most := 9) rfl hbig (by decide) (Nat.sub_le _ _) (by rw [d4]; exact h4)]
      simp only [rd1_bad, Option.bind_some, eN, ek, byte0]
    have q4 := rd1_some (M := 9) (most := 9) rfl hbig (by decide) (Nat.sub_le L.length r3.length) (by rw [d4]; exact h4)
    obtain ⟨_, _, _, d5, g5⟩ := getUint_some (Nat.sub_le L.length r3.length) (by rw [d4]; exact h4)
    have hstep : tf r8 (tS (k : Int) z false L (p : Int) y is) = some (.inl (tS ((k + 1 : Nat) : Int) z false L ((L.length - r4.length : Nat) : Int) y (is ++ [((n1 : Int), ((n2 : Int), ((n3 : Int), UInt8.ofNat n4)))]))) := by
      unfold tf tS wire_GetTell_l0
      simp only
      rw [e0, q1]
      simp only [Option.bind_some, cond_true]
      rw [q2]
      simp only [Option.bind_some]
      rw [q3]
      simp only [Option.bind_some]
      rw [q4]
      simp only [Option.bind_some, eN, ek, byte_wrap]
    have ih := tf_loop hN r8 h8 z y hL d (k + 1) m (L.length - r4.length) (is ++ [((n1 : Int), ((n2 : Int), ((n3 : Int), UInt8.ofNat n4)))]) (by omega) (by simp [hi]) (by omega) (Nat.sub_le _ _)
    rw [d5] at ih
    have hgo : iter (m + 1) (tf r8) (tS (k : Int) z false L (p : Int) y is) = iter m (tf r8) (tS ((k + 1 : Nat) : Int) z false L ((L.length - r4.length : Nat) : Int) y (is ++ [((n1 : Int), ((n2 : Int), ((n3 : Int), UInt8.ofNat n4)))])) := by
      show (tf r8 (tS (k : Int) z false L (p : Int) y is)).ob _ = _
      rw [hstep]
      rfl
    rcases ih with ⟨i1, p', is', i2⟩ | ⟨js, r, i1, i2, i3, i4⟩
    · exact .inl ⟨by unfold pInfos; rw [h1]; simp only [Option.bind_some, h2, h3, h4, i1]; rfl, p', is', hgo.trans i2⟩
    · refine .inr ⟨((n1 : Int), ((n2 : Int), ((n3 : Int), UInt8.ofNat n4))) :: js, r, by unfold pInfos; rw [h1]; simp only [Option.bind_some, h2, h3, h4, i1], i2, i3, hgo.trans ?_⟩
      rw [i4, List.append_assoc]
      rfl
theorem getTell_is {T : List Nat} (hT : Tab T) {b : List UInt8} (hb : b.length ≤ 140737488355328) : wire_GetTell fuel (tabI T) b = some (outT (getTell T b)) := by
  unfold wire_GetTell getTell
  by_cases h0 : (unsealed (P1.sum T) b).2 = 0
  · rw [if_pos h0]
    obtain ⟨l, hl⟩ : ∃ l, (unsealed (P1.sum T) b).1 = l := ⟨_, rfl⟩
    have hlen := unsealed_len (P1.sum T) b
    rw [hl] at hlen ⊢
    -- what is behind a bad number
    have loop_bad : ∀ (y z : Int × (Int × (Int × (Int × Int)))) (L : List UInt8) (p : Int), ∃ is', wire_GetTell_l0_it fuel (0, (true, (L, p))) (tS 0 z true L p y []) = some (tS 0 z true L p y is').2 := fun y z L p => by
      exact tf_bad (N := 0) (by omega) (0, (true, (L, p))) rfl z y L p 0 0 fuel [] rfl rfl (by unfold fuel; omega)
    rcases l with _ | ⟨c, r⟩
    · rw [reader_nil hT hb 2 h0 hl]
      simp only [Option.bind_some, rd1_bad, beq_self_eq_true, Bool.not_true, cond_false]
      obtain ⟨is', e⟩ := loop_bad (0, (0, (0, (0, 0)))) (0, (0, (0, (0, 0)))) [] 1
      have e' : wire_GetTell_l0_it fuel (0, (true, ([], 1))) (0, (0, (0, (0, (0, (0, (true, ([], (1, (0, (0, ((IntKind.wrap .u8 0), (0, (0, [])))))))))))))) = _ := e
      rw [e']
      rfl
    · rw [reader_ok hT hb (K := 2) (k := 2) rfl h0 hl]
      simp only [Option.bind_some]
      by_cases hc : c = 2
      · subst hc
        have e1 : decide ((2 : UInt8).toNat ≠ 2) = false := rfl
        rw [e1]
        obtain ⟨L, hL⟩ : ∃ L, L = (2 :: r : List UInt8) := ⟨_, rfl⟩
        have d1 : L.drop 1 = r := by rw [hL]; rfl
        have hp0 : 1 ≤ L.length := by rw [hL]; simp
        rw [← hL] at hlen ⊢
        have hbig : L.length < 4611686018427387904 := by omega
        have hun : tellOf L = whole (pTellB r) := by rw [hL]; exact tellOf_two r
        unfold pTellB at hun
        simp only [beq_self_eq_true, Bool.not_true, cond_false]
        rcases h1 : pNum 1099511627776 r with _ | ⟨n1, r1⟩
        · have hN : tellOf L = none := by rw [hun, h1]; rfl
          have q := rd1_none (M := 1099511627776) (most := 1099511627776) rfl hbig (by decide) hp0 (by rw [d1]; exact h1)
          have q' : wire_reader_1 fuel 1099511627776 false L 1 = _ := q
          rw [q', hN]
          simp only [Option.bind_some, rd1_bad]
          obtain ⟨is', e⟩ := loop_bad (0, (0, (IntKind.wrap .u8 0, (0, 0)))) (0, (0, (0, (0, 0)))) L ((1 : Nat) : Int)
          have e' : wire_GetTell_l0_it fuel (0, (true, (L, ((1 : Nat) : Int)))) (0, (0, (0, (0, (0, (0, (true, (L, (((1 : Nat) : Int), (0, (0, (IntKind.wrap .u8 0, (0, (0, [])))))))))))))) = _ := e
          rw [e']
          rfl
        have q := rd1_some (M := 1099511627776) (most := 1099511627776) rfl hbig (by decide) hp0 (by rw [d1]; exact h1)
        have q' : wire_reader_1 fuel 1099511627776 false L 1 = _ := q
        obtain ⟨_, _, _, d2, g2⟩ := getUint_some hp0 (by rw [d1]; exact h1)
        rw [q']
        simp only [Option.bind_some]
        clear q q'
        rcases h2 : pNum 1099511627776 r1 with _ | ⟨n2, r2⟩
        · have hN : tellOf L = none := by rw [hun, h1]; simp only [Option.bind_some, h2]; rfl
          rw [rd1_none (M := 1099511627776) (most := 1099511627776) rfl hbig (by decide) (Nat.sub_le _ _) (by rw [d2]; exact h2), hN]
          simp only [Option.bind_some, rd1_bad]
          obtain ⟨is', e⟩ := loop_bad ((n1 : Int), (0, (IntKind.wrap .u8 0, (0, 0)))) (0, (0, (0, (0, 0)))) L ((L.length - r1.length : Nat) : Int)
          have e' : wire_GetTell_l0_it fuel (0, (true, (L, ((L.length - r1.length : Nat) : Int)))) (0, (0, (0, (0, (0, (0, (true, (L, (((L.length - r1.length : Nat) : Int), ((n1 : Int), (0, (IntKind.wrap .u8 0, (0, (0, [])))))))))))))) = _ := e
          rw [e']
          rfl
        rw [rd1_some (M := 1099511627776) (most := 1099511627776) rfl hbig (by decide) (Nat.sub_le _ _) (by rw [d2]; exact h2)]
        obtain ⟨_, _, _, d3, g3⟩ := getUint_some (Nat.sub_le L.length r1.length) (by rw [d2]; exact h2)
        simp only [Option.bind_some]
        rcases h3 : pNum 9 r2 with _ | ⟨n3, r3⟩
        · have hN : tellOf L = none := by rw [hun, h1]; simp only [Option.bind_some, h2, h3]; rfl
          rw [rd1_none (M := 9) (most := 9) rfl hbig (by decide) (Nat.sub_le _ _) (by rw [d3]; exact h3), hN]
          simp only [Option.bind_some, rd1_bad]
          obtain ⟨is', e⟩ := loop_bad ((n1 : Int), ((n2 : Int), (IntKind.wrap .u8 0, (0, 0)))) (0, (0, (0, (0, 0)))) L ((L.length - r2.length : Nat) : Int)
          have e' : wire_GetTell_l0_it fuel (0, (true, (L, ((L.length - r2.length : Nat) : Int)))) (0, (0, (0, (0, (0, (0, (true, (L, (((L.length - r2.length : Nat) : Int), ((n1 : Int), ((n2 : Int), (IntKind.wrap .u8 0, (0, (0, [])))))))))))))) = _ := e
          rw [e']
          rfl
        rw [rd1_some (M := 9) (most := 9) rfl hbig (by decide) (Nat.sub_le _ _) (by rw [d3]; exact h3)]
        obtain ⟨_, _, _, d4, g4⟩ := getUint_some (Nat.sub_le L.length r2.length) (by rw [d3]; exact h3)
        simp only [Option.bind_some]
        rcases h4 : pNum 1000 r3 with _ | ⟨n4, r4⟩
        · have hN : tellOf L = none := by rw [hun, h1]; simp only [Option.bind_some, h2, h3, h4]; rfl
          rw [rd1_none (M := 1000) (most := 1000) rfl hbig (by decide) (Nat.sub_le _ _) (by rw [d4]; exact h4), hN]
          simp only [Option.bind_some, rd1_bad]
          obtain ⟨is', e⟩ := loop_bad ((n1 : Int), ((n2 : Int), (IntKind.wrap .u8 (n3 : Int), (0, 0)))) (0, (0, (0, (0, 0)))) L ((L.length - r3.length : Nat) : Int)
          have e' : wire_GetTell_l0_it fuel (0, (true, (L, ((L.length - r3.length : Nat) : Int)))) (0, (0, (0, (0, (0, (0, (true, (L, (((L.length - r3.length : Nat) : Int), ((n1 : Int), ((n2 : Int), (IntKind.wrap .u8 (n3 : Int), (0, (0, [])))))))))))))) = _ := e
          rw [e']
          rfl
        rw [rd1_some (M := 1000) (most := 1000) rfl hbig (by decide) (Nat.sub_le _ _) (by rw [d4]; exact h4)]
        obtain ⟨_, _, _, d5, g5⟩ := getUint_some (Nat.sub_le L.length r3.length) (by rw [d4]; exact h4)
        simp only [Option.bind_some]
        rcases h5 : pNum 65536 r4 with _ | ⟨n5, r5⟩
        · have hN : tellOf L = none := by rw [hun, h1]; simp only [Option.bind_some, h2, h3, h4, h5]; rfl
          rw [rd1_none (M := 65536) (most := 65536) rfl hbig (by decide) (Nat.sub_le _ _) (by rw [d5]; exact h5), hN]
          simp only [Option.bind_some, rd1_bad]
          obtain ⟨is', e⟩ := loop_bad ((n1 : Int), ((n2 : Int), (IntKind.wrap .u8 (n3 : Int), ((n4 : Int), 0)))) (0, (0, (0, (0, 0)))) L ((L.length - r4.length : Nat) : Int)
          have e' : wire_GetTell_l0_it fuel (0, (true, (L, ((L.length - r4.length : Nat) : Int)))) (0, (0, (0, (0, (0, (0, (true, (L, (((L.length - r4.length : Nat) : Int), ((n1 : Int), ((n2 : Int), (IntKind.wrap .u8 (n3 : Int), ((n4 : Int), (0, [])))))))))))))) = _ := e
          rw [e']
          rfl
        rw [rd1_some (M := 65536) (most := 65536) rfl hbig (by decide) (Nat.sub_le _ _) (by rw [d5]; exact h5)]
        obtain ⟨_, _, _, d6, g6⟩ := getUint_some (Nat.sub_le L.length r4.length) (by rw [d5]; exact h5)
        simp only [Option.bind_some]
        rcases h6 : pNum 50 r5 with _ | ⟨n6, r6⟩
        · have hN : tellOf L = none := by rw [hun, h1]; simp only [Option.bind_some, h2, h3, h4, h5, h6]; rfl
          rw [rd1_none (M := 50) (most := 50) rfl hbig (by decide) (Nat.sub_le _ _) (by rw [d6]; exact h6), hN]
          simp only [Option.bind_some]
          obtain ⟨is', e⟩ := loop_bad ((n1 : Int), ((n2 : Int), (IntKind.wrap .u8 (n3 : Int), ((n4 : Int), (n5 : Int))))) (0, (0, (0, (0, 0)))) L ((L.length - r5.length : Nat) : Int)
          have e' : wire_GetTell_l0_it fuel (0, (true, (L, ((L.length - r5.length : Nat) : Int)))) (0, (0, (0, (0, (0, (0, (true, (L, (((L.length - r5.length : Nat) : Int), ((n1 : Int), ((n2 : Int), (IntKind.wrap .u8 (n3 : Int), ((n4 : Int), ((n5 : Int), [])))))))))))))) = _ := e
          rw [e']
          rfl
        rw [rd1_some (M := 50) (most := 50) rfl hbig (by decide) (Nat.sub_le _ _) (by rw [d6]; exact h6)]
        obtain ⟨_, hn6, _, d7, g7⟩ := getUint_some (Nat.sub_le L.length r5.length) (by rw [d6]; exact h6)
        simp only [Option.bind_some]
        have hloop := tf_loop (N := n6) hn6 ((n6 : Int), (false, (L, ((L.length - r6.length : Nat) : Int)))) rfl (0, (0, (0, (0, 0)))) ((n1 : Int), ((n2 : Int), (IntKind.wrap .u8 (n3 : Int), ((n4 : Int), (n5 : Int))))) (L := L) (by omega) n6 0 fuel (L.length - r6.length) [] (by omega) rfl (by unfold fuel; omega) (Nat.sub_le _ _)
        rw [d7] at hloop
        rcases hloop with ⟨i1, p', is', i2⟩ | ⟨js, r7, i1, i2, d8, i4⟩
        · have hN : tellOf L = none := by rw [hun, h1]; simp only [Option.bind_some, h2, h3, h4, h5, h6, i1]; rfl
          have e' : wire_GetTell_l0_it fuel ((n6 : Int), (false, (L, ((L.length - r6.length : Nat) : Int)))) (0, (0, (0, (0, (0, (0, (false, (L, (((L.length - r6.length : Nat) : Int), ((n1 : Int), ((n2 : Int), (IntKind.wrap .u8 (n3 : Int), ((n4 : Int), ((n5 : Int), [])))))))))))))) = _ := i2
          rw [e', hN]
          rfl
        have e' : wire_GetTell_l0_it fuel ((n6 : Int), (false, (L, ((L.length - r6.length : Nat) : Int)))) (0, (0, (0, (0, (0, (0, (false, (L, (((L.length - r6.length : Nat) : Int), ((n1 : Int), ((n2 : Int), (IntKind.wrap .u8 (n3 : Int), ((n4 : Int), ((n5 : Int), [])))))))))))))) = _ := i4
        rw [e']
        simp only [Option.bind_some, tS, List.nil_append]
        rcases h8 : pBlob 65536 r7 with _ | ⟨s, r8⟩
        · have hN : tellOf L = none := by rw [hun, h1]; simp only [Option.bind_some, h2, h3, h4, h5, h6, i1, h8]; rfl
          rw [rd2_none (by omega) (Nat.sub_le _ _) (by rw [d8]; exact h8), hN]
          rfl
        rw [rd2_some (by omega) (Nat.sub_le _ _) (by rw [d8]; exact h8)]
        simp only [Option.bind_some]
        rw [byte_wrap, wrap_u8]
        simp only [Option.bind_some]
        have hjs : js.length ≤ 50 := by have := (pInfos_iff.1 i1).1; omega
        rw [rightTell_is (by simp only; omega)]
        simp only [Option.bind_some]
        obtain ⟨X, hX⟩ : ∃ X : P10.Tell, X = ((n1 : Int), ((n2 : Int), (UInt8.ofNat n3, ((n4 : Int), (js, (s, (n5 : Int))))))) := ⟨_, rfl⟩
        have hA : tellOf L = if r8 = [] then (if rightTell X = true then some X else none) else none := by
          rw [hun, h1]
          simp only [Option.bind_some, h2, h3, h4, h5, h6, i1, h8, ← hX]
          by_cases hr : rightTell X = true
          · simp only [if_pos hr]
            rcases r8 with _ | _ <;> rfl
          · simp only [if_neg hr]
            split <;> rfl
        rw [hA, ← hX]
        by_cases hr8 : r8 = []
        · rw [decide_eq_true hr8, if_pos hr8]
          by_cases hr : rightTell X = true
          · rw [if_pos hr, hr, hX]
            rfl
          · rw [if_neg hr]
            have : rightTell X = false := by simpa using hr
            rw [this]
            rfl
        · rw [decide_eq_false hr8, if_neg hr8]
          rfl
      · have hne : c.toNat ≠ 2 := fun h => hc (UInt8.toNat_inj.1 h)
        rw [tellOf_none hc, decide_eq_true hne]
        simp only [Option.bind_some, rd1_bad, beq_self_eq_true, Bool.not_true, cond_false]
        obtain ⟨is', e⟩ := loop_bad (0, (0, (IntKind.wrap .u8 0, (0, 0)))) (0, (0, (0, (0, 0)))) (c :: r) 1
        have e' : wire_GetTell_l0_it fuel (0, (true, (c :: r, 1))) (0, (0, (0, (0, (0, (0, (true, (c :: r, (1, (0, (0, (IntKind.wrap .u8 0, (0, (0, [])))))))))))))) = _ := e
        rw [e']
        rfl
  · rw [reader_err hT hb 2 h0, if_neg h0]
    have : ((((unsealed (P1.sum T) b).2 : Nat) : Int) == 0) = false := beq_eq_false_iff_ne.2 (by omega)
    simp only [Option.bind_some, this]
    rfl
end Go.Ab.D

/- Chapter 10: messages put, and held against each other. -/
set_option maxRecDepth 100000
namespace Go.Ab.D
open Go Go.Ab Go.P1 Go.P10
attribute [local irreducible] Go.P1.crcT tabI

/-- A loop over a list, with a list that grows. -/
theorem fold_loop {α : Type} (g : α → List UInt8) (s : List α) (h : List UInt8) (hs : s.length < 4611686018427387904) {f : Int × List UInt8 → Option ((Int × List UInt8) ⊕ List UInt8)}
    (h1 : ∀ (k : Nat) (hk : k < s.length) (l : List UInt8), l = h ++ (s.take k).flatMap g → f ((k : Int), l) = some (.inl (((k + 1 : Nat) : Int), l ++ g s[k])))
    (h2 : ∀ l, f (((s.length : Nat) : Int), l) = some (.inr l)) : iter fuel f (0, h) = some (h ++ s.flatMap g) := by
  have := iter_range (f := f) (o := h ++ s.flatMap g) (fun k => ((k : Int), h ++ (s.take k).flatMap g)) s.length hs
    (fun k hk => by
      show f ((k : Int), h ++ (s.take k).flatMap g) = _
      rw [h1 k hk _ rfl, List.take_succ_eq_append_getElem hk, List.flatMap_append, List.append_assoc]
      simp)
    (by rw [List.take_length]; exact h2 _)
  simpa using this
/-- Numbers as they are put. -/
def nums (l : List Int) : List UInt8 := l.flatMap vi
theorem put_is {l : List Int} (hl : l.length ≤ 100) (hn : ∀ n ∈ l, 0 ≤ n ∧ n ≤ 9223372036854775807) {h : List UInt8} (hh : h.length ≤ 100000000) : wire_put_o0 fuel l h = some (h ++ nums l) := by
  unfold wire_put_o0 wire_put_o0_l0_it
  have hlen : ∀ k, ((l.take k).flatMap vi).length ≤ 10 * l.length := fun k => by
    have : ∀ r : List Int, (∀ n ∈ r, 0 ≤ n ∧ n ≤ 9223372036854775807) → (r.flatMap vi).length ≤ 10 * r.length := fun r => by
      induction r with
      | nil => simp
      | cons n r ih =>
        intro hr
        have h0 := hr n (by simp)
        have := ih fun m hm => hr m (by simp [hm])
        have v := varint_len10 (n := n.toNat) (by omega)
        simp only [List.flatMap_cons, vi, List.length_append, List.length_cons] at this ⊢
        omega
    have h1 := this (l.take k) fun n hn' => hn n (List.mem_of_mem_take hn')
    have : (l.take k).length ≤ l.length := by simp; omega
    omega
  have e := fold_loop vi l h (by omega) (f := fun tt => wire_put_o0_l0 fuel l tt.1 tt.2)
    (fun k hk m hm => by
      have h0 := hn l[k] (List.getElem_mem hk)
      obtain ⟨n, hn'⟩ : ∃ n : Nat, l[k] = (n : Int) := ⟨l[k].toNat, by omega⟩
      have hg : l[k]? = some (n : Int) := by rw [List.getElem?_eq_getElem hk, hn']
      have hmlen : m.length + 10 ≤ 140737488355328 := by
        rw [hm, List.length_append]
        have := hlen k
        omega
      show wire_put_o0_l0 fuel l (k : Int) m = _
      unfold wire_put_o0_l0
      rw [decide_eq_true (by omega), idx_nat hk]
      simp only [cond_true, Option.bind_some, hg]
      rw [wu64 ⟨by omega, by omega⟩, uint_v1_is (by omega) hmlen]
      simp only [Option.bind_some]
      rw [w64 ⟨by omega, by omega⟩, hn']
      rfl)
    (fun m => by
      show wire_put_o0_l0 fuel l ((l.length : Nat) : Int) m = _
      unfold wire_put_o0_l0
      rw [decide_eq_false (by omega)]; rfl)
  rw [e]
  rfl
theorem putAsk_is {T : List Nat} (hT : Tab T) (a : P10.Ask) : wire_PutAsk fuel (tabI T) a = some (((putAsk T a).1 : Int), (putAsk T a).2) := by
  unfold wire_PutAsk putAsk
  simp only [byte_u8, Option.bind_some]
  have e : wire_RightAsk fuel (a.1, (a.2.1, (a.2.2.1, (a.2.2.2.1, (a.2.2.2.2.1, (a.2.2.2.2.2.1, a.2.2.2.2.2.2)))))) = some (rightAsk a) := rightAsk_is a
  rw [e]
  simp only [Option.bind_some]
  by_cases hr : rightAsk a = true
  · rw [if_pos hr, hr]
    have hf := rightAsk_fits hr
    have hlen := body_len hr
    obtain ⟨h1, h2, h3, h4, h5, h6, h7⟩ := hf
    have hc := a.2.2.1.toNat_lt
    rw [w64 ⟨by omega, by omega⟩]
    have hb : [UInt8.ofNat 1] ++ nums [a.1, a.2.1, ((a.2.2.1.toNat : Nat) : Int), a.2.2.2.1, a.2.2.2.2.1, a.2.2.2.2.2.1] ++ varint a.2.2.2.2.2.2.length ++ a.2.2.2.2.2.2 = askBody a := by
      simp only [nums, List.flatMap_cons, List.flatMap_nil, askBody, blobB, List.append_nil, List.append_assoc, List.singleton_append, List.cons_append, vi_nat]
      rfl
    have hl : ([UInt8.ofNat 1] ++ nums [a.1, a.2.1, ((a.2.2.1.toNat : Nat) : Int), a.2.2.2.1, a.2.2.2.2.1, a.2.2.2.2.2.1]).length ≤ 70000 := by
      rw [← hb] at hlen
      simp only [List.length_append] at hlen ⊢
      omega
    simp only [Bool.not_true, cond_false]
    rw [put_is (by simp) (by
      intro n hn
      simp only [List.mem_cons, List.mem_nil_iff, or_false] at hn
      rcases hn with rfl | rfl | rfl | rfl | rfl | rfl <;> omega) (by simp)]
    simp only [Option.bind_some]
    rw [blob_v1_is (by omega), hb]
    simp only [Option.bind_some]
    rw [seal_is hT (by omega)]
    rfl
  · rw [if_neg hr]
    have : rightAsk a = false := by simpa using hr
    rw [this]
    rfl
abbrev PT := Int × (Int × (Int × (Int × (Int × (List P10.Info × (List UInt8 × (Int × List UInt8)))))))
theorem putInfos_is {x : P10.Tell} (hx : ∀ i ∈ x.2.2.2.2.1, inR i) (hl : x.2.2.2.2.1.length ≤ 50) {h : List UInt8} (hh : h.length ≤ 1000000) (z1 z2 z3 z4 : Int) (z5 : List P10.Info) (z6 : List UInt8) (z7 : Int) :
    wire_PutTell_l0_it fuel x (0, (z1, (z2, (z3, (z4, (z5, (z6, (z7, h)))))))) = some (z1, (z2, (z3, (z4, (z5, (z6, (z7, h ++ x.2.2.2.2.1.flatMap infoB))))))) := by
  unfold wire_PutTell_l0_it
  obtain ⟨is, his⟩ : ∃ is, x.2.2.2.2.1 = is := ⟨_, rfl⟩
  have := iter_range (f := fun (tt : PT) => wire_PutTell_l0 fuel x tt.1 tt.2.1 tt.2.2.1 tt.2.2.2.1 tt.2.2.2.2.1 tt.2.2.2.2.2.1 tt.2.2.2.2.2.2.1 tt.2.2.2.2.2.2.2.1 tt.2.2.2.2.2.2.2.2) (o := (z1, (z2, (z3, (z4, (z5, (z6, (z7, h ++ is.flatMap infoB))))))))
    (fun k => ((k : Int), (z1, (z2, (z3, (z4, (z5, (z6, (z7, h ++ (is.take k).flatMap infoB))))))))) is.length (by rw [his] at hl; omega)
    (fun k hk => by
      show wire_PutTell_l0 fuel x (k : Int) z1 z2 z3 z4 z5 z6 z7 (h ++ (is.take k).flatMap infoB) = _
      rw [his] at hx hl
      have hi := hx is[k] (List.getElem_mem hk)
      have hlen := infos_len (is := is.take k) fun i hi => hx i (List.mem_of_mem_take hi)
      have htk : (is.take k).length ≤ is.length := by simp; omega
      unfold wire_PutTell_l0
      rw [his, decide_eq_true (by omega), idx_nat hk]
      simp only [cond_true, Option.bind_some, List.getElem?_eq_getElem hk]
      obtain ⟨i, hik⟩ : ∃ i, is[k] = i := ⟨_, rfl⟩
      rw [hik] at hi ⊢
      obtain ⟨g1, g2, g3, g4⟩ := hi
      rw [w64 (x := ((i.2.2.2.toNat : Nat) : Int)) ⟨by omega, by omega⟩]
      rw [put_is (by simp) (by
        intro n hn
        simp only [List.mem_cons, List.mem_nil_iff, or_false] at hn
        rcases hn with rfl | rfl | rfl | rfl <;> omega) (by simp only [List.length_append]; omega)]
      simp only [Option.bind_some]
      rw [w64 ⟨by omega, by omega⟩, List.take_succ_eq_append_getElem hk, hik, List.flatMap_append, List.append_assoc]
      simp only [nums, List.flatMap_cons, List.flatMap_nil, infoB, vi_nat, List.append_nil]
      rfl)
    (by
      show wire_PutTell_l0 fuel x ((is.length : Nat) : Int) z1 z2 z3 z4 z5 z6 z7 (h ++ (is.take is.length).flatMap infoB) = _
      rw [List.take_length]
      unfold wire_PutTell_l0
      rw [his, decide_eq_false (by omega)]
      rfl)
  rw [his]
  simpa using this
theorem putTell_is {T : List Nat} (hT : Tab T) {x : P10.Tell} (hx : x.2.2.2.2.1.length < 4611686018427387904) : wire_PutTell fuel (tabI T) x = some (((putTell T x).1 : Int), (putTell T x).2) := by
  unfold wire_PutTell putTell
  simp only [byte_u8, Option.bind_some]
  have e : wire_RightTell fuel (x.1, (x.2.1, (x.2.2.1, (x.2.2.2.1, (x.2.2.2.2.1, (x.2.2.2.2.2.1, x.2.2.2.2.2.2)))))) = some (rightTell x) := rightTell_is (x := x) hx
  rw [e]
  simp only [Option.bind_some]
  by_cases hr : rightTell x = true
  · rw [if_pos hr, hr]
    have hf := rightTell_fits hr
    have hlen := tell_len hr
    obtain ⟨h1, h2, h3, h4, h5, h6, h7⟩ := hf
    have hc := x.2.2.1.toNat_lt
    rw [w64 (x := ((x.2.2.1.toNat : Nat) : Int)) ⟨by omega, by omega⟩]
    have hb : [UInt8.ofNat 2] ++ nums [x.1, x.2.1, ((x.2.2.1.toNat : Nat) : Int), x.2.2.2.1, x.2.2.2.2.2.2, ((x.2.2.2.2.1.length : Nat) : Int)] ++ x.2.2.2.2.1.flatMap infoB ++ varint x.2.2.2.2.2.1.length ++ x.2.2.2.2.2.1 = tellBody x := by
      simp only [nums, List.flatMap_cons, List.flatMap_nil, tellBody, blobB, List.append_nil, List.append_assoc, List.singleton_append, List.cons_append, vi_nat]
      rfl
    have hl : ([UInt8.ofNat 2] ++ nums [x.1, x.2.1, ((x.2.2.1.toNat : Nat) : Int), x.2.2.2.1, x.2.2.2.2.2.2, ((x.2.2.2.2.1.length : Nat) : Int)] ++ x.2.2.2.2.1.flatMap infoB).length ≤ 70000 := by
      rw [← hb] at hlen
      simp only [List.length_append] at hlen ⊢
      omega
    simp only [Bool.not_true, cond_false]
    rw [put_is (by simp) (by
      intro n hn
      simp only [List.mem_cons, List.mem_nil_iff, or_false] at hn
      rcases hn with rfl | rfl | rfl | rfl | rfl | rfl <;> omega) (by simp)]
    simp only [Option.bind_some]
    rw [putInfos_is h5.2 h5.1 (by simp only [List.length_append] at hl ⊢; omega)]
    simp only [Option.bind_some]
    rw [blob_v1_is (by omega), hb]
    simp only [Option.bind_some]
    rw [seal_is hT (by omega)]
    rfl
  · rw [if_neg hr]
    have : rightTell x = false := by simpa using hr
    rw [this]
    rfl

/-! Held against each other -/
theorem beqI (a b : Int) : (a == b) = decide (a = b) := rfl
theorem u8_eq (a b : UInt8) : (((a.toNat : Nat) : Int) == ((b.toNat : Nat) : Int)) = decide (a = b) := by
  by_cases h : a = b
  · subst h; simp
  · rw [decide_eq_false h]
    refine beq_eq_false_iff_ne.2 fun e => h (UInt8.toNat_inj.1 (by omega))
theorem u8_eq' (a b : UInt8) : decide (((a.toNat : Nat) : Int) = ((b.toNat : Nat) : Int)) = decide (a = b) := u8_eq a b
theorem sameBytes_is (a b : List UInt8) : low_SameBytes fuel a b = some (decide (a = b)) := by
  unfold low_SameBytes
  by_cases h : a = b
  · subst h; simp
  · rw [decide_eq_false h, beq_eq_false_iff_ne.2 h]
theorem sameAsk_is (a b : P10.Ask) : low_SameAsk fuel a b = some (decide (a = b)) := by
  obtain ⟨a1, a2, a3, a4, a5, a6, a7⟩ := a
  obtain ⟨b1, b2, b3, b4, b5, b6, b7⟩ := b
  unfold low_SameAsk
  simp only [sameBytes_is, Option.bind_some, bif_some, bif_false, u8_eq', beqI]
  congr 1
  simp only [Prod.mk.injEq, Bool.decide_and]
theorem sameInfos_is {a b : List P10.Info} (ha : a.length < 4611686018427387904) : low_SameInfos fuel a b = some (decide (a = b)) := by
  unfold low_SameInfos
  by_cases hl : a.length = b.length
  · have e : ((((a.length : Nat) : Int)) == ((b.length : Nat) : Int)) = true := beq_iff_eq.2 (by omega)
    rw [e]
    simp only [Bool.not_true, cond_false]
    unfold low_SameInfos_l0_it
    have step : ∀ (k : Nat) (hk : k < a.length), low_SameInfos_l0 fuel a b (k : Int) = if a[k] = b[k]'(by omega) then some (.inl ((k + 1 : Nat) : Int)) else some (.inr (.inr false)) := fun k hk => by
      unfold low_SameInfos_l0
      rw [decide_eq_true (by omega), idx_nat hk, idx_nat (show k < b.length by omega)]
      simp only [cond_true, Option.bind_some, List.getElem?_eq_getElem hk, List.getElem?_eq_getElem (show k < b.length by omega)]
      rw [w64 ⟨by omega, by omega⟩]
      have e : ((a[k].1 == (b[k]'(by omega)).1) && ((a[k].2.1 == (b[k]'(by omega)).2.1) && ((a[k].2.2.1 == (b[k]'(by omega)).2.2.1) && (a[k].2.2.2 == (b[k]'(by omega)).2.2.2)))) = decide (a[k] = b[k]'(by omega)) := by
        obtain ⟨x1, x2, x3, x4⟩ := a[k]
        obtain ⟨y1, y2, y3, y4⟩ := b[k]'(by omega)
        simp only [Prod.mk.injEq, Bool.decide_and, beqI]
        congr 3
      rw [e]
      by_cases h : a[k] = b[k]'(by omega)
      · rw [if_pos h, decide_eq_true h]; rfl
      · rw [if_neg h, decide_eq_false h]; rfl
    have last : low_SameInfos_l0 fuel a b ((a.length : Nat) : Int) = some (.inr (.inl ())) := by
      unfold low_SameInfos_l0
      rw [decide_eq_false (by omega)]; rfl
    have main : ∀ (rem k m : Nat), k + rem = a.length → rem < m → a.take k = b.take k → ∃ o, iter m (fun tt => low_SameInfos_l0 fuel a b tt) (k : Int) = some o ∧ ((o = .inl () ∧ a = b) ∨ (o = .inr false ∧ a ≠ b)) := fun rem => by
      induction rem with
      | zero =>
        intro k m hk hm hp
        obtain ⟨m, rfl⟩ : ∃ j, m = j + 1 := ⟨m - 1, by omega⟩
        obtain rfl : k = a.length := by omega
        refine ⟨.inl (), ?_, .inl ⟨rfl, ?_⟩⟩
        · show (low_SameInfos_l0 fuel a b ((a.length : Nat) : Int)).ob _ = _
          rw [last]; rfl
        · rw [List.take_length] at hp
          rw [hp, hl, List.take_length]
      | succ rem ih =>
        intro k m hk hm hp
        obtain ⟨m, rfl⟩ : ∃ j, m = j + 1 := ⟨m - 1, by omega⟩
        have hlt : k < a.length := by omega
        by_cases h : a[k] = b[k]'(by omega)
        · obtain ⟨o, e, ho⟩ := ih (k + 1) m (by omega) (by omega) (by rw [List.take_succ_eq_append_getElem hlt, List.take_succ_eq_append_getElem (show k < b.length by omega), hp, h])
          refine ⟨o, ?_, ho⟩
          show (low_SameInfos_l0 fuel a b (k : Int)).ob _ = _
          rw [step k hlt, if_pos h]
          exact e
        · refine ⟨.inr false, ?_, .inr ⟨rfl, fun e => h (by subst e; rfl)⟩⟩
          show (low_SameInfos_l0 fuel a b (k : Int)).ob _ = _
          rw [step k hlt, if_neg h]; rfl
    obtain ⟨o, e, ho⟩ := main a.length 0 fuel (by omega) (by unfold fuel; omega) rfl
    have e' : iter fuel (fun tt => low_SameInfos_l0 fuel a b tt) 0 = some o := e
    rw [e']
    rcases ho with ⟨rfl, h⟩ | ⟨rfl, h⟩
    · rw [decide_eq_true h]; rfl
    · rw [decide_eq_false h]; rfl
  · have e : ((((a.length : Nat) : Int)) == ((b.length : Nat) : Int)) = false := beq_eq_false_iff_ne.2 (by omega)
    rw [e, decide_eq_false fun h => hl (by rw [h])]
    rfl
theorem sameTell_is {a b : P10.Tell} (ha : a.2.2.2.2.1.length < 4611686018427387904) : low_SameTell fuel a b = some (decide (a = b)) := by
  obtain ⟨a1, a2, a3, a4, a5, a6, a7⟩ := a
  obtain ⟨b1, b2, b3, b4, b5, b6, b7⟩ := b
  unfold low_SameTell
  simp only at ha
  simp only [sameBytes_is, sameInfos_is ha, Option.bind_some, bif_some, bif_false, u8_eq', beqI]
  congr 1
  simp only [Prod.mk.injEq, Bool.decide_and]
theorem small_is (a : P10.Ask) (x : P10.Tell) (b : List UInt8) : law10_small fuel a x b = some (decide (a.2.2.2.2.2.2.length ≤ 500 ∧ x.2.2.2.2.2.1.length ≤ 500 ∧ x.2.2.2.2.1.length ≤ 60 ∧ b.length ≤ 1000)) := by
  unfold law10_small
  simp only [bif_some, bif_false, Bool.decide_and]
  have e : ∀ (n : Nat) (k : Nat), decide (((n : Nat) : Int) ≤ (k : Int)) = decide (n ≤ k) := fun n k => by
    by_cases h : n ≤ k
    · rw [decide_eq_true h, decide_eq_true (by omega)]
    · rw [decide_eq_false h, decide_eq_false (by omega)]
  congr 1
  rw [show ((500 : Int)) = ((500 : Nat) : Int) from rfl, show ((60 : Int)) = ((60 : Nat) : Int) from rfl, show ((1000 : Int)) = ((1000 : Nat) : Int) from rfl, e, e, e, e]
theorem awake10 : law10_awake fuel = some true := law10_awake_true
theorem crc_len : (tabI crcT).length = 256 := by rw [tabI_len]; exact crcT_tab.1
end Go.Ab.D

/- WireAny: what shares no memory. -/
set_option maxRecDepth 100000
set_option maxHeartbeats 2000000
namespace Go.Ab.D
open Go Go.Ab Go.P1 Go.P10
attribute [local irreducible] Go.P1.crcT tabI
theorem iter_map {τ ο τ' ο' : Type} {f : τ → Option (τ ⊕ ο)} {f' : τ' → Option (τ' ⊕ ο')} (e : τ → τ') (g : ο → ο') (h : ∀ s, f' (e s) = (f s).map (Sum.map e g)) : ∀ (n : Nat) (s : τ), iter n f' (e s) = (iter n f s).map g
  | 0, s => rfl
  | n + 1, s => by
    show (f' (e s)).ob _ = ((f s).ob _).map g
    rw [h s]
    cases f s with
    | none => rfl
    | some r =>
      cases r with
      | inl s' => exact iter_map e g h n s'
      | inr o => rfl
theorem clone_s0 {q : Nat} {h : List UInt8} (hq : q ≤ h.length) (hh : h.length ≤ 140737488355328) : slices_Clone__byte_byte_s0 fuel 0 q h = some (h, h.take q) := by
  unfold slices_Clone__byte_byte_s0
  have hl : (List.take q (List.drop 0 h)).length = q := by simp; omega
  have hn : (need (Nat.ble (0 + q) h.length) <| need ((Nat.ble ((0 + (List.take q (List.drop 0 h)).length) * 1) room) && (Nat.ble (0 + (List.take q (List.drop 0 h)).length) room)) <| some (h, (List.take q (List.drop 0 h)))) = some (h, h.take q) := by
    rw [need_true (ble_true (by omega)), need_true (by rw [hl, Bool.and_eq_true]; exact ⟨ble_true (by unfold room; omega), ble_true (by unfold room; omega)⟩)]
    rfl
  rw [nilQ_same (fun h0 => by
    subst h0
    rw [hn]
    rfl)]
  exact hn
theorem unseal_o1 {T : List Nat} (hT : Tab T) {b : List UInt8} (hb : b.length ≤ 140737488355328) : bytes_Unseal_o1 fuel (tabI T) b = some ((unsealed (P1.sum T) b).1, ((((unsealed (P1.sum T) b).2 : Nat) : Int), b)) := by
  unfold bytes_Unseal_o1
  by_cases h4 : b.length < 4
  · rw [decide_eq_true (by omega), unsealed_short _ h4]
    rfl
  · rw [decide_eq_false (by omega)]
    have e0 : IntKind.wrap .i64 (((b.length : Nat) : Int) - 4) = ((b.length - 4 : Nat) : Int) := by rw [w64 ⟨by omega, by omega⟩]; omega
    have hl : (b.take (b.length - 4)).length = b.length - 4 := by simp
    simp only [cond_false]
    rw [e0, upto_nat (by omega)]
    simp only [Option.bind_some]
    rw [clone_s0 (by omega) hb]
    simp only [Option.bind_some]
    rw [seal_is hT (by rw [hl]; omega)]
    simp only [Option.bind_some]
    rw [unsealed_is _ (by omega)]
    by_cases he : sealed (P1.sum T) (b.take (b.length - 4)) = b
    · rw [if_pos he]
      simp [he]
    · rw [if_neg he]
      have : (sealed (P1.sum T) (b.take (b.length - 4)) == b) = false := by simpa using he
      rw [this]
      rfl
theorem reader_o1 {T : List Nat} (hT : Tab T) {b : List UInt8} (hb : b.length ≤ 140737488355328) (k : Int) : wire_reader_o1 fuel (tabI T) k b = (wire_reader fuel (tabI T) b k).map (fun r => match r with | .inl e => .inl (e, b) | .inr r => .inr (r.1, (b, (r.2.1, (r.2.2.1, r.2.2.2))))) := by
  unfold wire_reader_o1 wire_reader
  rw [unseal_o1 hT hb, unseal_is hT hb]
  simp only [Option.bind_some]
  generalize (unsealed (P1.sum T) b).1 = l
  generalize ((((unsealed (P1.sum T) b).2 : Nat) : Int) == 0) = z
  cases z with
  | false => rfl
  | true =>
    simp only [Bool.not_true, cond_false]
    generalize (((l.length : Nat) : Int) == 0) = y
    cases y with
    | true => rfl
    | false =>
      simp only [cond_false]
      cases idx? 0 l.length with
      | none => rfl
      | some q =>
        simp only [Option.bind_some]
        cases l[q]? with
        | none => rfl
        | some c => rfl
theorem getAsk_o1 {T : List Nat} (hT : Tab T) {b : List UInt8} (hb : b.length ≤ 140737488355328) : wire_GetAsk_o1 fuel (tabI T) b = (wire_GetAsk fuel (tabI T) b).map (fun x => (x.1, (x.2.1, (x.2.2.1, (x.2.2.2.1, (x.2.2.2.2.1, (x.2.2.2.2.2.1, (x.2.2.2.2.2.2.1, (x.2.2.2.2.2.2.2, b))))))))) := by
  unfold wire_GetAsk_o1 wire_GetAsk
  rw [reader_o1 hT hb]
  cases wire_reader fuel (tabI T) b 1 with
  | none => rfl
  | some r =>
    cases r with
    | inl e =>
      simp only [Option.map_some, Option.bind_some]
      generalize (e == 0) = z
      cases z <;> rfl
    | inr r2 =>
      obtain ⟨e, bad, l, p⟩ := r2
      simp only [Option.map_some, Option.bind_some]
      generalize (e == 0) = z
      cases z with
      | false => rfl
      | true =>
        simp only [Bool.not_true, cond_false]
        cases wire_reader_1 fuel 1099511627776 bad l p with
        | none => rfl
        | some s0 =>
          obtain ⟨n0, bad0, l0, p0⟩ := s0
          simp only [Option.bind_some]
          cases wire_reader_1 fuel 1099511627776 bad0 l0 p0 with
          | none => rfl
          | some s1 =>
            obtain ⟨n1, bad1, l1, p1⟩ := s1
            simp only [Option.bind_some]
            cases wire_reader_1 fuel 9 bad1 l1 p1 with
            | none => rfl
            | some s2 =>
              obtain ⟨n2, bad2, l2, p2⟩ := s2
              simp only [Option.bind_some]
              cases wire_reader_1 fuel 1099511627776 bad2 l2 p2 with
              | none => rfl
              | some s3 =>
                obtain ⟨n3, bad3, l3, p3⟩ := s3
                simp only [Option.bind_some]
                cases wire_reader_1 fuel 255 bad3 l3 p3 with
                | none => rfl
                | some s4 =>
                  obtain ⟨n4, bad4, l4, p4⟩ := s4
                  simp only [Option.bind_some]
                  cases wire_reader_1 fuel 1099511627776 bad4 l4 p4 with
                  | none => rfl
                  | some s5 =>
                    obtain ⟨n5, bad5, l5, p5⟩ := s5
                    simp only [Option.bind_some]
                    cases wire_reader_2 fuel bad5 l5 p5 with
                    | none => rfl
                    | some s =>
                      obtain ⟨ok, bad7, l7, p7, bs⟩ := s
                      simp only [Option.bind_some]
                      cases ok with
                      | false => rfl
                      | true =>
                        simp only [Bool.not_true, cond_false]
                        cases byte? (IntKind.wrap .u8 n2) with
                        | none => rfl
                        | some c =>
                          simp only [Option.bind_some]
                          cases wire_RightAsk fuel (n0, (n1, (c, (n3, (n4, (n5, bs)))))) with
                          | none => rfl
                          | some rr => cases rr <;> rfl
abbrev TS1 := Int × (List UInt8 × (Int × (Int × (Int × (Int × (Int × (Bool × (List UInt8 × (Int × (Int × (Int × (Int × (Int × (Int × List P10.Info))))))))))))))
abbrev TO1 := List UInt8 × (Int × (Int × (Int × (Int × (Int × (Bool × (List UInt8 × (Int × (Int × (Int × (Int × (Int × (Int × List P10.Info)))))))))))))
theorem tell_l0_map (b : List UInt8) (r8 : Int × (Bool × (List UInt8 × Int))) (s : TS) : wire_GetTell_o1_l0_it fuel r8 (s.1, (b, s.2)) = (wire_GetTell_l0_it fuel r8 s).map fun o => (b, o) := by
  unfold wire_GetTell_o1_l0_it wire_GetTell_l0_it
  refine iter_map (f := fun tt : TS => wire_GetTell_l0 fuel r8 tt.1 tt.2.1 tt.2.2.1 tt.2.2.2.1 tt.2.2.2.2.1 tt.2.2.2.2.2.1 tt.2.2.2.2.2.2.1 tt.2.2.2.2.2.2.2.1 tt.2.2.2.2.2.2.2.2.1 tt.2.2.2.2.2.2.2.2.2.1 tt.2.2.2.2.2.2.2.2.2.2.1 tt.2.2.2.2.2.2.2.2.2.2.2.1 tt.2.2.2.2.2.2.2.2.2.2.2.2.1 tt.2.2.2.2.2.2.2.2.2.2.2.2.2.1 tt.2.2.2.2.2.2.2.2.2.2.2.2.2.2)
    (f' := fun tt : TS1 => wire_GetTell_o1_l0 fuel r8 tt.1 tt.2.1 tt.2.2.1 tt.2.2.2.1 tt.2.2.2.2.1 tt.2.2.2.2.2.1 tt.2.2.2.2.2.2.1 tt.2.2.2.2.2.2.2.1 tt.2.2.2.2.2.2.2.2.1 tt.2.2.2.2.2.2.2.2.2.1 tt.2.2.2.2.2.2.2.2.2.2.1 tt.2.2.2.2.2.2.2.2.2.2.2.1 tt.2.2.2.2.2.2.2.2.2.2.2.2.1 tt.2.2.2.2.2.2.2.2.2.2.2.2.2.1 tt.2.2.2.2.2.2.2.2.2.2.2.2.2.2.1 tt.2.2.2.2.2.2.2.2.2.2.2.2.2.2.2)
    (fun s => (s.1, (b, s.2))) (fun o => (b, o)) (fun s => ?_) fuel s
  obtain ⟨x, z1, z2, z3, z4, z5, bad, l, p, y1, y2, y3, y4, y5, is⟩ := s
  simp only
  unfold wire_GetTell_o1_l0 wire_GetTell_l0
  cases decide (x < r8.1) with
  | false => rfl
  | true =>
    simp only [cond_true]
    cases wire_reader_1 fuel 1099511627776 bad l p with
    | none => rfl
    | some s0 =>
      obtain ⟨n0, bad0, l0, p0⟩ := s0
      simp only [Option.bind_some]
      cases wire_reader_1 fuel 255 bad0 l0 p0 with
      | none => rfl
      | some s1 =>
        obtain ⟨n1, bad1, l1, p1⟩ := s1
        simp only [Option.bind_some]
        cases wire_reader_1 fuel 1099511627776 bad1 l1 p1 with
        | none => rfl
        | some s2 =>
          obtain ⟨n2, bad2, l2, p2⟩ := s2
          simp only [Option.bind_some]
          cases wire_reader_1 fuel 9 bad2 l2 p2 with
          | none => rfl
          | some s3 =>
            obtain ⟨n3, bad3, l3, p3⟩ := s3
            simp only [Option.bind_some]
            cases byte? (IntKind.wrap .u8 n3) with
            | none => rfl
            | some c =>
              simp only [Option.bind_some]
              generalize (Nat.ble ((is.length + 1) * 32) room && Nat.ble (is.length + 1) room) = rm
              cases rm <;> rfl
theorem getTell_o1 {T : List Nat} (hT : Tab T) {b : List UInt8} (hb : b.length ≤ 140737488355328) : wire_GetTell_o1 fuel (tabI T) b = (wire_GetTell fuel (tabI T) b).map (fun x => (x.1, (x.2.1, (x.2.2.1, (x.2.2.2.1, (x.2.2.2.2.1, (x.2.2.2.2.2.1, (x.2.2.2.2.2.2.1, (x.2.2.2.2.2.2.2, b))))))))) := by
  unfold wire_GetTell_o1 wire_GetTell
  rw [reader_o1 hT hb]
  cases wire_reader fuel (tabI T) b 2 with
  | none => rfl
  | some r =>
    cases r with
    | inl e =>
      simp only [Option.map_some, Option.bind_some]
      generalize (e == 0) = z
      cases z <;> rfl
    | inr r2 =>
      obtain ⟨e, bad, l, p⟩ := r2
      simp only [Option.map_some, Option.bind_some]
      generalize (e == 0) = z
      cases z with
      | false => rfl
      | true =>
        simp only [Bool.not_true, cond_false]
        cases wire_reader_1 fuel 1099511627776 bad l p with
        | none => rfl
        | some s0 =>
          obtain ⟨n0, bad0, l0, p0⟩ := s0
          simp only [Option.bind_some]
          cases wire_reader_1 fuel 1099511627776 bad0 l0 p0 with
          | none => rfl
          | some s1 =>
            obtain ⟨n1, bad1, l1, p1⟩ := s1
            simp only [Option.bind_some]
            cases wire_reader_1 fuel 9 bad1 l1 p1 with
            | none => rfl
            | some s2 =>
              obtain ⟨n2, bad2, l2, p2⟩ := s2
              simp only [Option.bind_some]
              cases wire_reader_1 fuel 1000 bad2 l2 p2 with
              | none => rfl
              | some s3 =>
                obtain ⟨n3, bad3, l3, p3⟩ := s3
                simp only [Option.bind_some]
                cases wire_reader_1 fuel 65536 bad3 l3 p3 with
                | none => rfl
                | some s4 =>
                  obtain ⟨n4, bad4, l4, p4⟩ := s4
                  simp only [Option.bind_some]
                  cases wire_reader_1 fuel 50 bad4 l4 p4 with
                  | none => rfl
                  | some s5 =>
                    obtain ⟨n5, bad5, l5, p5⟩ := s5
                    simp only [Option.bind_some]
                    have e0 := tell_l0_map b (n5, (bad5, (l5, p5))) (0, (0, (0, (0, (0, (0, (bad5, (l5, (p5, (n0, (n1, (IntKind.wrap .u8 n2, (n3, (n4, []))))))))))))))
                    simp only at e0
                    rw [e0]
                    cases wire_GetTell_l0_it fuel (n5, (bad5, (l5, p5))) (0, (0, (0, (0, (0, (0, (bad5, (l5, (p5, (n0, (n1, (IntKind.wrap .u8 n2, (n3, (n4, [])))))))))))))) with
                    | none => rfl
                    | some o =>
                      obtain ⟨z1, z2, z3, z4, z5, bad6, l6, p6, y1, y2, y3, y4, y5, is⟩ := o
                      simp only [Option.map_some, Option.bind_some]
                      cases wire_reader_2 fuel bad6 l6 p6 with
                      | none => rfl
                      | some s =>
                        obtain ⟨ok, bad7, l7, p7, bs⟩ := s
                        simp only [Option.bind_some]
                        cases ok with
                        | false => rfl
                        | true =>
                          simp only [Bool.not_true, cond_false]
                          cases byte? y3 with
                          | none => rfl
                          | some c =>
                            simp only [Option.bind_some]
                            cases wire_RightTell fuel (y1, (y2, (c, (y4, (is, (bs, y5)))))) with
                            | none => rfl
                            | some rr => cases rr <;> rfl
end Go.Ab.D

/- WireAny: the plain law. -/
set_option maxRecDepth 100000
set_option maxHeartbeats 2000000
namespace Go.Ab.D
open Go Go.Ab Go.P1 Go.P10
attribute [local irreducible] Go.P1.crcT tabI
theorem tellOf_one (r : List UInt8) : tellOf (1 :: r) = none := tellOf_none (by decide)
theorem askOf_two (r : List UInt8) : askOf (2 :: r) = none := askOf_none (by decide)
abbrev AnyS := List UInt8 × (Int × (Int × (Int × (Int × (Int × (Int × (List UInt8 × (Int × (Int × (Int × (Int × (List P10.Info × (List UInt8 × Int)))))))))))))
theorem xor_byte (c : UInt8) : ∃ d, byte? (bitsI .xor .u8 ((c.toNat : Nat) : Int) 255) = some d := by
  have key : ∀ n : Nat, n < 256 → (byte? (bitsI .xor .u8 ((n : Nat) : Int) 255)).isSome = true := by decide +kernel
  exact Option.isSome_iff_exists.1 (key _ c.toNat_lt)
/-- The end: all is turned, nothing of it is seen. -/
theorem any_end {L : List UInt8} (hL : L.length ≤ 100000) (a1 a2 a3 a4 a5 a6 : Int) (a7 : List UInt8) (x1 x2 x3 x4 : Int) (xi : List P10.Info) (xb : List UInt8) (x5 : Int) (h7 : a7.length ≤ 100000) (hx : xb.length ≤ 100000) :
    ((low_CopyBytes fuel a7).bind fun r8 =>
      (low_CopyBytes fuel xb).bind fun r9 =>
      (law10_WireAny_l0_it fuel (false, (L, (a1, (a2, (a3, (a4, (a5, (a6, (a7, (x1, (x2, (x3, (x4, (xi, (xb, x5))))))))))))))) (0, (L, (a1, (a2, (a3, (a4, (a5, (a6, (a7, (x1, (x2, (x3, (x4, (xi, (xb, (x5, (r8, r9)))))))))))))))))).bind fun o2 =>
      (low_SameBytes fuel o2.2.2.2.2.2.2.1 o2.2.2.2.2.2.2.2.2.2.2.2.2.2.2.1).bind fun r12 =>
      bif r12 then
        (low_SameBytes fuel o2.2.2.2.2.2.2.2.2.2.2.2.2.1 o2.2.2.2.2.2.2.2.2.2.2.2.2.2.2.2).bind fun r13 =>
        bif r13 then
          (law10_awake fuel).bind fun r14 =>
          some r14
        else
          some false
      else
        some false) = some true := by
  rw [copy_is (by unfold room; omega), copy_is (by unfold room; omega)]
  simp only [Option.bind_some]
  have hit : law10_WireAny_l0_it fuel (false, (L, (a1, (a2, (a3, (a4, (a5, (a6, (a7, (x1, (x2, (x3, (x4, (xi, (xb, x5))))))))))))))) (0, (L, (a1, (a2, (a3, (a4, (a5, (a6, (a7, (x1, (x2, (x3, (x4, (xi, (xb, (x5, (a7, xb)))))))))))))))))
      = some (a1, (a2, (a3, (a4, (a5, (a6, (a7, (x1, (x2, (x3, (x4, (xi, (xb, (x5, (a7, xb))))))))))))))) := by
    unfold law10_WireAny_l0_it
    refine iter_rel (f := fun tt : Int × (List UInt8 × (Int × (Int × (Int × (Int × (Int × (Int × (List UInt8 × (Int × (Int × (Int × (Int × (List P10.Info × (List UInt8 × (Int × (List UInt8 × List UInt8)))))))))))))))) => law10_WireAny_l0 fuel (false, (L, (a1, (a2, (a3, (a4, (a5, (a6, (a7, (x1, (x2, (x3, (x4, (xi, (xb, x5))))))))))))))) tt.1 tt.2.1 tt.2.2.1 tt.2.2.2.1 tt.2.2.2.2.1 tt.2.2.2.2.2.1 tt.2.2.2.2.2.2.1 tt.2.2.2.2.2.2.2.1 tt.2.2.2.2.2.2.2.2.1 tt.2.2.2.2.2.2.2.2.2.1 tt.2.2.2.2.2.2.2.2.2.2.1 tt.2.2.2.2.2.2.2.2.2.2.2.1 tt.2.2.2.2.2.2.2.2.2.2.2.2.1 tt.2.2.2.2.2.2.2.2.2.2.2.2.2.1 tt.2.2.2.2.2.2.2.2.2.2.2.2.2.2.1 tt.2.2.2.2.2.2.2.2.2.2.2.2.2.2.2.1 tt.2.2.2.2.2.2.2.2.2.2.2.2.2.2.2.2.1 tt.2.2.2.2.2.2.2.2.2.2.2.2.2.2.2.2.2)
      (fun m s => ∃ (k : Nat) (h : List UInt8), s = ((k : Int), (h, (a1, (a2, (a3, (a4, (a5, (a6, (a7, (x1, (x2, (x3, (x4, (xi, (xb, (x5, (a7, xb))))))))))))))))) ∧ k + m = L.length ∧ h.length = L.length)
      (fun m s ⟨k, h, hs, hk, hh⟩ => ?_) (fun s ⟨k, h, hs, hk, hh⟩ => ?_) L.length _ (by omega) ⟨0, L, rfl, by omega, rfl⟩
    · subst hs
      show ∃ s', law10_WireAny_l0 fuel (false, (L, (a1, (a2, (a3, (a4, (a5, (a6, (a7, (x1, (x2, (x3, (x4, (xi, (xb, x5))))))))))))))) (k : Int) h a1 a2 a3 a4 a5 a6 a7 x1 x2 x3 x4 xi xb x5 a7 xb = _ ∧ _
      have hk' : k < h.length := by omega
      unfold law10_WireAny_l0
      simp only
      rw [decide_eq_true (show (k : Int) < ((L.length : Nat) : Int) by omega), idx_nat hk']
      obtain ⟨d, hd⟩ := xor_byte h[k]
      simp only [cond_true, Option.bind_some, List.getElem?_eq_getElem hk', hd]
      rw [w64 ⟨by omega, by omega⟩]
      exact ⟨_, rfl, k + 1, h.set k d, rfl, by omega, by rw [List.length_set]; exact hh⟩
    · subst hs
      show law10_WireAny_l0 fuel (false, (L, (a1, (a2, (a3, (a4, (a5, (a6, (a7, (x1, (x2, (x3, (x4, (xi, (xb, x5))))))))))))))) (k : Int) h a1 a2 a3 a4 a5 a6 a7 x1 x2 x3 x4 xi xb x5 a7 xb = _
      unfold law10_WireAny_l0
      simp only
      rw [decide_eq_false (show ¬ (k : Int) < ((L.length : Nat) : Int) by omega)]
      rfl
  rw [hit]
  simp only [Option.bind_some, sameBytes_is, decide_true, cond_true, awake10]
theorem law10_WireAny_true (b : List UInt8) (tell : Bool) (_k0 : OkV (.sl .byte) b) (_k1 : OkV .bool tell) : law10_WireAny fuel b tell = some true := by
  clear _k0 _k1
  unfold law10_WireAny
  by_cases hb : b.length > 1000
  · rw [decide_eq_true (show ((b.length : Nat) : Int) > 1000 by omega), awake10]
    rfl
  rw [decide_eq_false (show ¬ ((b.length : Nat) : Int) > 1000 by omega)]
  simp only [cond_false, table_is, Option.bind_some]
  rw [need_true (by decide), need_true (by rw [crc_len]; rfl)]
  have hL : ∀ c : UInt8, (sealed (P1.sum crcT) ([c] ++ b)).length = b.length + 5 := fun c => by simp [sealed, be4]
  cases tell with
  | true =>
    simp only [cond_true, Option.bind_some]
    rw [show byte? 2 = some 2 from rfl]
    simp only [Option.bind_some]
    rw [need_true (by rw [Bool.and_eq_true]; exact ⟨ble_true (by unfold room; omega), ble_true (by unfold room; omega)⟩)]
    rw [seal_is crcT_tab (by simp only [List.length_append, List.length_cons, List.length_nil]; omega)]
    simp only [Option.bind_some]
    have hl := hL 2
    rw [getAsk_o1 crcT_tab (by omega), getAsk_is crcT_tab (by omega)]
    simp only [Option.map_some, Option.bind_some]
    rw [getTell_o1 crcT_tab (by omega), getTell_is crcT_tab (by omega)]
    simp only [Option.map_some, Option.bind_some]
    rw [get_sealed_ask, get_sealed_tell]
    generalize hS : sealed (P1.sum crcT) ([2] ++ b) = S at hl
    rw [show ([2] ++ b : List UInt8) = 2 :: b from rfl, askOf_two]
    simp only [outA, show (!(((110 : Nat) : Int) == 0)) = true from rfl, show (((110 : Nat) : Int) == 0) = false from rfl, cond_true, cond_false, byte_u8, Option.bind_some]
    rw [show ((0 : UInt8)) = UInt8.ofNat 0 from rfl, sameAsk_is]
    simp only [decide_true, Bool.not_true, cond_false, Option.bind_some]
    cases hT : tellOf (2 :: b) with
    | none =>
      simp only [outT, show (!(((110 : Nat) : Int) == 0)) = true from rfl, show (((110 : Nat) : Int) == 0) = false from rfl, cond_true, cond_false, byte_u8, Option.bind_some]
      rw [show ((0 : UInt8)) = UInt8.ofNat 0 from rfl, sameTell_is (by simp)]
      simp only [decide_true, Bool.not_true, cond_false, Option.bind_some]
      simp only [Bool.not_false, Bool.not_true, cond_true, cond_false, Option.bind_some]
      refine any_end ?_ _ _ _ _ _ _ _ _ _ _ _ _ _ _ ?_ ?_ <;> first | omega | (simp only [List.length_nil]; omega)
    | some x =>
      have hr := (tellOf_iff.1 hT).1
      have h6 := (rightTell_fits hr).h6
      simp only [outT, show (!(((0 : Nat) : Int) == 0)) = false from rfl, show (((0 : Nat) : Int) == 0) = true from rfl, cond_true, cond_false, Bool.not_true, Option.bind_some]
      simp only [Bool.not_false, Bool.not_true, cond_true, cond_false, Option.bind_some]
      refine any_end ?_ _ _ _ _ _ _ _ _ _ _ _ _ _ _ ?_ ?_ <;> first | omega | (simp only [List.length_nil]; omega)
  | false =>
    simp only [cond_false, Option.bind_some]
    rw [show byte? 1 = some 1 from rfl]
    simp only [Option.bind_some]
    rw [need_true (by rw [Bool.and_eq_true]; exact ⟨ble_true (by unfold room; omega), ble_true (by unfold room; omega)⟩)]
    rw [seal_is crcT_tab (by simp only [List.length_append, List.length_cons, List.length_nil]; omega)]
    simp only [Option.bind_some]
    have hl := hL 1
    rw [getAsk_o1 crcT_tab (by omega), getAsk_is crcT_tab (by omega)]
    simp only [Option.map_some, Option.bind_some]
    rw [getTell_o1 crcT_tab (by omega), getTell_is crcT_tab (by omega)]
    simp only [Option.map_some, Option.bind_some]
    rw [get_sealed_ask, get_sealed_tell]
    generalize hS : sealed (P1.sum crcT) ([1] ++ b) = S at hl
    rw [show ([1] ++ b : List UInt8) = 1 :: b from rfl, tellOf_one]
    cases hT : askOf (1 :: b) with
    | none =>
      simp only [outA, show (!(((110 : Nat) : Int) == 0)) = true from rfl, show (((110 : Nat) : Int) == 0) = false from rfl, cond_true, cond_false, byte_u8, Option.bind_some]
      rw [show ((0 : UInt8)) = UInt8.ofNat 0 from rfl, sameAsk_is]
      simp only [decide_true, Bool.not_true, cond_false, Option.bind_some]
      simp only [outT, show (!(((110 : Nat) : Int) == 0)) = true from rfl, show (((110 : Nat) : Int) == 0) = false from rfl, cond_true, cond_false, byte_u8, Option.bind_some]
      rw [show ((0 : UInt8)) = UInt8.ofNat 0 from rfl, sameTell_is (by simp)]
      simp only [decide_true, Bool.not_true, cond_false, Option.bind_some]
      simp only [Bool.not_false, Bool.not_true, cond_true, cond_false, Option.bind_some]
      refine any_end ?_ _ _ _ _ _ _ _ _ _ _ _ _ _ _ ?_ ?_ <;> first | omega | (simp only [List.length_nil]; omega)
    | some a =>
      have hr := (askOf_iff.1 hT).1
      have h7 := (rightAsk_fits hr).h7
      simp only [outA, show (!(((0 : Nat) : Int) == 0)) = false from rfl, show (((0 : Nat) : Int) == 0) = true from rfl, cond_true, cond_false, byte_u8, Option.bind_some, Bool.not_false]
      simp only [outT, show (!(((110 : Nat) : Int) == 0)) = true from rfl, show (((110 : Nat) : Int) == 0) = false from rfl, cond_true, cond_false, byte_u8, Option.bind_some]
      rw [show ((0 : UInt8)) = UInt8.ofNat 0 from rfl, sameTell_is (by simp)]
      simp only [decide_true, Bool.not_true, cond_false, Option.bind_some]
      simp only [Bool.not_false, Bool.not_true, cond_true, cond_false, Option.bind_some]
      refine any_end ?_ _ _ _ _ _ _ _ _ _ _ _ _ _ _ ?_ ?_ <;> first | omega | (simp only [List.length_nil]; omega)
end Go.Ab.D
