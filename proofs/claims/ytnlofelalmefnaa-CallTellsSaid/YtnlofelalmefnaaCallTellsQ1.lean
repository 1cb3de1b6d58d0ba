/- What the functions compute; the plain law. -/
import Derived.Test.YtnlofelalmefnaaCallTellsD2
import Derived.Test.YtnlofelalmefnaaCallTellsP1
set_option linter.all false
/- Tools for plain proofs about decompiled functions: numbers in bounds, indexes, loops. -/
namespace Go.Ab

/-! Numbers in bounds -/
theorem w64 {x : Int} (h : -9223372036854775808 ≤ x ∧ x ≤ 9223372036854775807) : IntKind.wrap .i64 x = x := by
  simp only [IntKind.wrap, IntKind.bits, IntKind.signed]; simp; omega
theorem wu64 {x : Int} (h : 0 ≤ x ∧ x ≤ 18446744073709551615) : IntKind.wrap .u64 x = x := by
  simp only [IntKind.wrap, IntKind.bits, IntKind.signed]; simp; omega
theorem wu32 {x : Int} (h : 0 ≤ x ∧ x ≤ 4294967295) : IntKind.wrap .u32 x = x := by
  simp only [IntKind.wrap, IntKind.bits, IntKind.signed]; simp; omega
theorem wu16 {x : Int} (h : 0 ≤ x ∧ x ≤ 65535) : IntKind.wrap .u16 x = x := by
  simp only [IntKind.wrap, IntKind.bits, IntKind.signed]; simp; omega
theorem wu8 {x : Int} (h : 0 ≤ x ∧ x ≤ 255) : IntKind.wrap .u8 x = x := by
  simp only [IntKind.wrap, IntKind.bits, IntKind.signed]; simp; omega
theorem wu8_mod (x : Int) : IntKind.wrap .u8 x = x % 256 := by
  simp only [IntKind.wrap, IntKind.bits, IntKind.signed]; simp
theorem wu32_mod (x : Int) : IntKind.wrap .u32 x = x % 4294967296 := by
  simp only [IntKind.wrap, IntKind.bits, IntKind.signed]; simp
theorem wu64_mod (x : Int) : IntKind.wrap .u64 x = x % 18446744073709551616 := by
  simp only [IntKind.wrap, IntKind.bits, IntKind.signed]; simp
theorem bv_nat (n a : Nat) (h : a < 2 ^ n) : BitVec.ofInt n (a : Int) = BitVec.ofNat n a := by simp
theorem bits_xor (k : IntKind) {a b : Nat} (ha : a < 2 ^ k.bits) (hb : b < 2 ^ k.bits) (hw : ∀ x : Int, 0 ≤ x ∧ x < 2 ^ k.bits → k.wrap x = x) : bitsI .xor k a b = ((a ^^^ b : Nat) : Int) := by
  have h := Nat.xor_lt_two_pow ha hb
  simp only [bitsI, BitVec.ofInt_natCast, ← BitVec.ofNat_xor, BitVec.toNat_ofNat, Nat.mod_eq_of_lt h]
  exact hw _ ⟨by omega, by exact_mod_cast h⟩
theorem bits_or (k : IntKind) {a b : Nat} (ha : a < 2 ^ k.bits) (hb : b < 2 ^ k.bits) (hw : ∀ x : Int, 0 ≤ x ∧ x < 2 ^ k.bits → k.wrap x = x) : bitsI .or k a b = ((a ||| b : Nat) : Int) := by
  have h := Nat.or_lt_two_pow ha hb
  simp only [bitsI, BitVec.ofInt_natCast, ← BitVec.ofNat_or, BitVec.toNat_ofNat, Nat.mod_eq_of_lt h]
  exact hw _ ⟨by omega, by exact_mod_cast h⟩
theorem bits_and (k : IntKind) {a b : Nat} (ha : a < 2 ^ k.bits) (hb : b < 2 ^ k.bits) (hw : ∀ x : Int, 0 ≤ x ∧ x < 2 ^ k.bits → k.wrap x = x) : bitsI .and k a b = ((a &&& b : Nat) : Int) := by
  have h := Nat.and_lt_two_pow (y := b) a hb
  simp only [bitsI, BitVec.ofInt_natCast, ← BitVec.ofNat_and, BitVec.toNat_ofNat, Nat.mod_eq_of_lt h]
  exact hw _ ⟨by omega, by exact_mod_cast h⟩
theorem xor8 {a b : Nat} (ha : a < 256) (hb : b < 256) : bitsI .xor .u8 a b = ((a ^^^ b : Nat) : Int) := bits_xor .u8 ha hb fun x h => wu8 ⟨h.1, by have := h.2; simp [IntKind.bits] at this; omega⟩
theorem xor32 {a b : Nat} (ha : a < 4294967296) (hb : b < 4294967296) : bitsI .xor .u32 a b = ((a ^^^ b : Nat) : Int) := bits_xor .u32 ha hb fun x h => wu32 ⟨h.1, by have := h.2; simp [IntKind.bits] at this; omega⟩
theorem and32 {a b : Nat} (ha : a < 4294967296) (hb : b < 4294967296) : bitsI .and .u32 a b = ((a &&& b : Nat) : Int) := bits_and .u32 ha hb fun x h => wu32 ⟨h.1, by have := h.2; simp [IntKind.bits] at this; omega⟩
theorem fdiv_nat (a b : Nat) : Int.fdiv (a : Int) (b : Int) = ((a / b : Nat) : Int) := by
  rw [Int.fdiv_eq_ediv_of_nonneg _ (by omega)]; rfl

/-! Indexes -/
theorem idx_nat {i n : Nat} (h : i < n) : idx? (i : Int) n = some i := by simp [idx?, h]
theorem idx_int {x : Int} {n : Nat} (h0 : 0 ≤ x) (h : x < n) : idx? x n = some x.toNat := by simp [idx?, h0, h]
theorem upto_nat {i n : Nat} (h : i ≤ n) : upto? (i : Int) n = some i := by simp [upto?, h]
theorem upto_int {x : Int} {n : Nat} (h0 : 0 ≤ x) (h : x ≤ n) : upto? x n = some x.toNat := by simp [upto?, h0, h]
theorem byte_nat {n : Nat} (h : n < 256) : byte? (n : Int) = some (UInt8.ofNat n) := by
  have : (n : Int) < 256 := by omega
  simp [byte?, this]
theorem need_true {β : Type} {b : Bool} {K : Option β} (h : b = true) : need b K = K := by subst h; rfl
theorem ble_true {a b : Nat} (h : a ≤ b) : Nat.ble a b = true := Nat.ble_eq_true_of_le h
theorem nilQ_same {β : Type} {n : Nat} {K : Bool → Option β} (h : n = 0 → K true = K false) : nilQ n K = K false := by
  unfold nilQ
  rw [if_pos h]
theorem roomIs : room = 140737488355328 := rfl

/-! Loops -/
theorem fuel_big {n : Nat} (h : n < 4611686018427387904) : ∃ m, fuel = m + (n + 1) := ⟨4611686018427387903 - n, by unfold fuel; omega⟩
theorem iter_steps {τ ο : Type} {f : τ → Option (τ ⊕ ο)} (S : Nat → τ) : ∀ (n m : Nat), (∀ k, k < n → f (S k) = some (.inl (S (k + 1)))) → iter (m + n) f (S 0) = iter m f (S n)
  | 0, m, _ => rfl
  | n + 1, m, h => by
    have e : m + (n + 1) = (m + 1) + n := by omega
    rw [e, iter_steps S n (m + 1) fun k hk => h k (by omega)]
    show (f (S n)).ob _ = _
    rw [h n (by omega)]
    rfl
/-- A loop of n rounds. -/
theorem iter_range {τ ο : Type} {f : τ → Option (τ ⊕ ο)} {o : ο} (S : Nat → τ) (n : Nat) (hn : n < 4611686018427387904) (hs : ∀ k, k < n → f (S k) = some (.inl (S (k + 1)))) (he : f (S n) = some (.inr o)) : iter fuel f (S 0) = some o := by
  obtain ⟨m, hm⟩ := fuel_big hn
  have e : fuel = (m + 1) + n := by omega
  rw [e, iter_steps S n (m + 1) hs]
  show (f (S n)).ob _ = _
  rw [he]
  rfl
/-- A loop by a relation between its state and what is yet to do. -/
theorem iter_rel {τ ο : Type} {f : τ → Option (τ ⊕ ο)} {o : ο} (I : Nat → τ → Prop) (hs : ∀ n s, I (n + 1) s → ∃ s', f s = some (.inl s') ∧ I n s') (he : ∀ s, I 0 s → f s = some (.inr o)) : ∀ (n : Nat) (s : τ), n < 4611686018427387904 → I n s → iter fuel f s = some o := by
  have main : ∀ (n m : Nat) (s : τ), n < m → I n s → iter m f s = some o := fun n => by
    induction n with
    | zero =>
      intro m s hm hi
      obtain ⟨m, rfl⟩ : ∃ k, m = k + 1 := ⟨m - 1, by omega⟩
      show (f s).ob _ = _
      rw [he s hi]
      rfl
    | succ n ih =>
      intro m s hm hi
      obtain ⟨m, rfl⟩ : ∃ k, m = k + 1 := ⟨m - 1, by omega⟩
      obtain ⟨s', h1, h2⟩ := hs n s hi
      show (f s).ob _ = _
      rw [h1]
      exact ih m s' (by omega) h2
  exact fun n s hn hi => main n fuel s hn hi
/-! Loops, step by step -/
theorem iter_inl {τ ο : Type} {f : τ → Option (τ ⊕ ο)} {s s' : τ} {n : Nat} (h : f s = some (.inl s')) : iter (n + 1) f s = iter n f s' := by
  show (f s).ob _ = _
  rw [h]
  rfl
theorem iter_inr {τ ο : Type} {f : τ → Option (τ ⊕ ο)} {s : τ} {o : ο} {n : Nat} (h : f s = some (.inr o)) : iter (n + 1) f s = some o := by
  show (f s).ob _ = _
  rw [h]
  rfl
theorem fuelS (n : Nat) (h : n < 4611686018427387904) : ∃ m, fuel = m + n + 1 := ⟨4611686018427387903 - n, by unfold fuel; omega⟩
/-- A loop, by a relation; what comes out is told by a property. -/
theorem iter_ex {τ ο : Type} {f : τ → Option (τ ⊕ ο)} (I : Nat → τ → Prop) (Q : ο → Prop) (hs : ∀ n s, I (n + 1) s → (∃ s', f s = some (.inl s') ∧ I n s') ∨ ∃ o, f s = some (.inr o) ∧ Q o) (he : ∀ s, I 0 s → ∃ o, f s = some (.inr o) ∧ Q o) : ∀ (n : Nat) (s : τ), n < 4611686018427387904 → I n s → ∃ o, iter fuel f s = some o ∧ Q o := by
  have main : ∀ (n m : Nat) (s : τ), n < m → I n s → ∃ o, iter m f s = some o ∧ Q o := fun n => by
    induction n with
    | zero =>
      intro m s hm hi
      obtain ⟨m, rfl⟩ : ∃ k, m = k + 1 := ⟨m - 1, by omega⟩
      obtain ⟨o, h1, h2⟩ := he s hi
      exact ⟨o, iter_inr h1, h2⟩
    | succ n ih =>
      intro m s hm hi
      obtain ⟨m, rfl⟩ : ∃ k, m = k + 1 := ⟨m - 1, by omega⟩
      rcases hs n s hi with ⟨s', h1, h2⟩ | ⟨o, h1, h2⟩
      · rw [iter_inl h1]
        exact ih m s' (by omega) h2
      · exact ⟨o, iter_inr h1, h2⟩
  exact fun n s hn hi => main n fuel s hn hi
theorem bind_ex {α β : Type} {x : Option α} {k : α → Option β} (R : Option β → Prop) (P : α → Prop) (h : ∃ v, x = some v ∧ P v) (hk : ∀ v, P v → R (k v)) : R (x.bind k) := by
  obtain ⟨v, rfl, hv⟩ := h
  exact hk v hv
theorem iter_fuel_inr {τ ο : Type} {f : τ → Option (τ ⊕ ο)} {s : τ} {o : ο} (h : f s = some (.inr o)) : iter fuel f s = some o := by
  obtain ⟨n, hn⟩ := fuelS 0 (by omega)
  rw [hn]
  exact iter_inr h
end Go.Ab

/- Layer 1: what the decompiled functions are. -/
namespace Go.Ab.D
open Go.P1

/-- A table as the program holds it. -/
def tabI (T : List Nat) : List Int := T.map fun (n : Nat) => (n : Int)
theorem tabI_len (T : List Nat) : (tabI T).length = T.length := by simp [tabI]
theorem tabI_get {T : List Nat} (h : Tab T) {i : Nat} (hi : i < 256) : (tabI T)[i]? = some ((T.getD i 0 : Nat) : Int) := by
  have : i < T.length := by rw [h.1]; exact hi
  simp [tabI, this]
theorem table_is : bytes_Table fuel = some (tabI crcT) := by kernel_rfl

theorem sum_step {T : List Nat} (h : Tab T) {b : List UInt8} (s k : Nat) (hk : k < b.length) (hb : b.length < 9223372036854775807) (hs : s < 4294967296) :
    bytes_Sum_l0 fuel b (tabI T) (s : Int) (k : Int) = some (.inl (((P1.step T s b[k] : Nat) : Int), ((k + 1 : Nat) : Int))) := by
  unfold bytes_Sum_l0
  have h1 : decide ((k : Int) < ((b.length : Nat) : Int)) = true := decide_eq_true (by omega)
  have hc := b[k].toNat_lt
  have hm : s % 256 < 256 := Nat.mod_lt _ (by omega)
  have hx : s % 256 ^^^ b[k].toNat < 256 := xor_lt8 hm hc
  have e1 : IntKind.wrap .u8 (s : Int) = ((s % 256 : Nat) : Int) := by rw [wu8_mod]; omega
  have e2 : Int.fdiv (s : Int) 256 = ((s / 256 : Nat) : Int) := fdiv_nat s 256
  have e3 : IntKind.wrap .i64 ((k : Int) + 1) = ((k + 1 : Nat) : Int) := by rw [w64 ⟨by omega, by omega⟩]; omega
  have ht := h.lt (s % 256 ^^^ b[k].toNat)
  simp only [h1, cond_true, idx_nat hk, Option.bind_some, List.getElem?_eq_getElem hk, e1, xor8 hm hc, idx_nat hx, tabI_get h hx, e2, xor32 ht (show s / 256 < 4294967296 by omega), e3]
  rw [P1.step, Nat.xor_comm]
theorem sum_is {T : List Nat} (h : Tab T) {b : List UInt8} (hb : b.length < 4611686018427387904) : bytes_Sum fuel (tabI T) b = some ((P1.sum T b : Nat) : Int) := by
  unfold bytes_Sum bytes_Sum_l0_it
  have e : iter fuel (fun tt => bytes_Sum_l0 fuel b (tabI T) tt.1 tt.2) (4294967295, 0) = some ((P1.run T 4294967295 b : Nat) : Int) := by
    have := iter_range (f := fun (tt : Int × Int) => bytes_Sum_l0 fuel b (tabI T) tt.1 tt.2) (o := ((P1.run T 4294967295 b : Nat) : Int)) (fun k => (((P1.run T 4294967295 (b.take k) : Nat) : Int), (k : Int))) b.length hb
      (fun k hk => by
        rw [sum_step h _ k hk (by omega) (P1.run_lt h _ (by omega))]
        rw [List.take_succ_eq_append_getElem hk, P1.run_snoc])
      (by
        simp only [List.take_length]
        unfold bytes_Sum_l0
        rw [decide_eq_false (by omega)]
        rfl)
    simpa [P1.run] using this
  rw [e]
  have hl := P1.run_lt h b (s := 4294967295) (by omega)
  simp only [Option.bind_some]
  rw [wu32 ⟨by omega, by omega⟩]
  congr 1
  unfold P1.sum
  omega
theorem copy_is {b : List UInt8} (h : b.length ≤ room) : low_CopyBytes fuel b = some b := by
  unfold low_CopyBytes
  rw [need_true (by rw [Nat.mul_one, ble_true h]; rfl)]
theorem clone_is {b : List UInt8} (h : b.length ≤ room) : slices_Clone__byte_byte fuel b = some b := by
  unfold slices_Clone__byte_byte
  have hn : need (Nat.ble ((0 + b.length) * 1) room && Nat.ble (0 + b.length) room) (some b) = some b := need_true (by rw [Nat.zero_add, Nat.mul_one, ble_true h]; rfl)
  rw [nilQ_same (fun h0 => by
    have : b = [] := List.eq_nil_of_length_eq_zero h0
    subst this
    rw [hn]
    rfl)]
  rw [hn]
  rfl
theorem seal_is {T : List Nat} (h : Tab T) {b : List UInt8} (hb : b.length + 4 ≤ 140737488355328) : bytes_Seal fuel (tabI T) b = some (sealed (P1.sum T) b) := by
  have hs := P1.sum_lt T b
  have e0 : IntKind.wrap .i64 (((b.length : Nat) : Int) + 4) = ((b.length + 4 : Nat) : Int) := by rw [w64 ⟨by omega, by omega⟩]; omega
  unfold bytes_Seal
  rw [e0, upto_nat (show b.length + 4 ≤ room from hb)]
  simp only [Option.bind_some]
  rw [upto_nat (Nat.le_refl _)]
  simp only [Option.bind_some]
  rw [need_true (by rw [Nat.mul_one, ble_true (show b.length + 4 ≤ room from hb)]), sum_is h (by omega)]
  simp only [Option.bind_some]
  have e : bytes_Seal_l0_it fuel b ((P1.sum T b : Nat) : Int) (0, List.replicate (b.length + 4) 0) = some (laid4 b.length (P1.sum T b) 4) := by
    unfold bytes_Seal_l0_it
    have := iter_range (f := fun (tt : Int × List UInt8) => bytes_Seal_l0 fuel b ((P1.sum T b : Nat) : Int) tt.1 tt.2) (o := laid4 b.length (P1.sum T b) 4) (fun k => ((k : Int), laid4 b.length (P1.sum T b) k)) 4 (by decide)
      (fun k hk => by
        have hlen := laid4_len b.length (P1.sum T b) k (by omega)
        have e1 : IntKind.wrap .i64 (8 * (k : Int)) = ((8 * k : Nat) : Int) := by rw [w64 ⟨by omega, by omega⟩]; omega
        have e2 : IntKind.wrap .i64 (IntKind.wrap .i64 (((b.length + 4 : Nat) : Int) - 1) - (k : Int)) = ((b.length + 3 - k : Nat) : Int) := by
          rw [w64 (x := ((b.length + 4 : Nat) : Int) - 1) ⟨by omega, by omega⟩, w64 ⟨by omega, by omega⟩]; omega
        have e3 : (2 : Int) ^ (min ((8 * k : Nat) : Int).toNat 32) = ((2 ^ (8 * k) : Nat) : Int) := by
          have : min ((8 * k : Nat) : Int).toNat 32 = 8 * k := by omega
          rw [this]; simp
        have e4 : IntKind.wrap .u8 (Int.fdiv ((P1.sum T b : Nat) : Int) ((2 ^ (8 * k) : Nat) : Int)) = ((P1.sum T b / 2 ^ (8 * k) % 256 : Nat) : Int) := by rw [fdiv_nat, wu8_mod]; omega
        have hq : b.length + 3 - k < (laid4 b.length (P1.sum T b) k).length := by omega
        show bytes_Seal_l0 fuel b _ (k : Int) (laid4 b.length (P1.sum T b) k) = _
        unfold bytes_Seal_l0
        rw [decide_eq_true (show (k : Int) < 4 by omega), e1, e0, e2, e3, e4, need_true (decide_eq_true (by omega)), idx_nat hq, byte_nat (Nat.mod_lt _ (by omega))]
        simp only [cond_true, Option.bind_some, List.getElem?_eq_getElem hq]
        rw [w64 ⟨by omega, by omega⟩, ← laid4_step b.length (P1.sum T b) k hk]
        have : UInt8.ofNat (P1.sum T b / 2 ^ (8 * k) % 256) = UInt8.ofNat (P1.sum T b / 2 ^ (8 * k)) := by
          apply UInt8.toNat_inj.1
          simp
        rw [this]
        rfl)
      (by
        show bytes_Seal_l0 fuel b _ ((4 : Nat) : Int) (laid4 b.length (P1.sum T b) 4) = _
        unfold bytes_Seal_l0
        rw [decide_eq_false (by omega)]
        rfl)
    have h0 : laid4 b.length (P1.sum T b) 0 = List.replicate (b.length + 4) 0 := by
      unfold laid4
      simp [be4]
    simp only [h0] at this
    exact this
  rw [e]
  simp only [Option.bind_some]
  congr 1
  rw [laid4_end]
  unfold splice sealed
  have : List.take (List.replicate b.length (0 : UInt8) ++ be4 (P1.sum T b)).length b = b := List.take_of_length_le (by simp)
  rw [this]
  simp
theorem unseal_is {T : List Nat} (h : Tab T) {b : List UInt8} (hb : b.length ≤ 140737488355328) : bytes_Unseal fuel (tabI T) b = some ((unsealed (P1.sum T) b).1, (((unsealed (P1.sum T) b).2 : Nat) : Int)) := by
  unfold bytes_Unseal
  by_cases h4 : b.length < 4
  · rw [decide_eq_true (by omega), unsealed_short _ h4]
    rfl
  · rw [decide_eq_false (by omega)]
    have e0 : IntKind.wrap .i64 (((b.length : Nat) : Int) - 4) = ((b.length - 4 : Nat) : Int) := by rw [w64 ⟨by omega, by omega⟩]; omega
    have hl : (b.take (b.length - 4)).length = b.length - 4 := by simp
    simp only [cond_false]
    rw [e0, upto_nat (by omega)]
    simp only [Option.bind_some]
    rw [clone_is (by rw [hl]; unfold room; omega)]
    simp only [Option.bind_some]
    rw [seal_is h (by rw [hl]; omega)]
    simp only [Option.bind_some]
    rw [unsealed_is _ (by omega)]
    by_cases he : sealed (P1.sum T) (b.take (b.length - 4)) = b
    · rw [if_pos he]
      simp [he]
    · rw [if_neg he]
      have : (sealed (P1.sum T) (b.take (b.length - 4)) == b) = false := by simpa using he
      rw [this]
      rfl
end Go.Ab.D

/- Layer 1: numbers and strings, sent and got. -/
namespace Go.Ab.D
open Go.P1

/-! Numbers -/
def uintF (tt : Int × List UInt8) : Option ((Int × List UInt8) ⊕ (Int × List UInt8)) := bytes_Uint_o0_l0 fuel tt.1 tt.2
theorem uint_end {n : Nat} (h : n < 128) (l : List UInt8) : uintF ((n : Int), l) = some (.inr ((n : Int), l)) := by
  show bytes_Uint_o0_l0 fuel (n : Int) l = _
  unfold bytes_Uint_o0_l0
  rw [decide_eq_false (by omega)]
  rfl
theorem uint_go {n : Nat} (h : 128 ≤ n) (hn : n < 18446744073709551616) (l : List UInt8) (hl : l.length + 1 ≤ 140737488355328) : uintF ((n : Int), l) = some (.inl (((n / 128 : Nat) : Int), l ++ [UInt8.ofNat (n % 128 + 128)])) := by
  show bytes_Uint_o0_l0 fuel (n : Int) l = _
  unfold bytes_Uint_o0_l0
  have e1 : Int.tmod (n : Int) 128 = ((n % 128 : Nat) : Int) := rfl
  have e2 : Int.tdiv (n : Int) 128 = ((n / 128 : Nat) : Int) := rfl
  have hm : n % 128 < 128 := Nat.mod_lt _ (by omega)
  have e3 : IntKind.wrap .u8 (IntKind.wrap .u64 (((n % 128 : Nat) : Int) + 128)) = ((n % 128 + 128 : Nat) : Int) := by
    rw [wu64 ⟨by omega, by omega⟩, wu8 ⟨by omega, by omega⟩]; omega
  have e4 : IntKind.wrap .u64 ((n / 128 : Nat) : Int) = ((n / 128 : Nat) : Int) := wu64 ⟨by omega, by omega⟩
  rw [decide_eq_true (by omega), e1, e2, e3, e4, byte_nat (by omega)]
  simp only [cond_true, Option.bind_some]
  rw [need_true (by rw [Nat.mul_one, ble_true (by unfold room; omega)]; rfl)]
theorem uint_loop : ∀ (n m : Nat) (l : List UInt8), n < 18446744073709551616 → (varint n).length ≤ m → l.length + (varint n).length ≤ 140737488355328 →
    ∃ (c : Nat) (r : List UInt8), iter m uintF ((n : Int), l) = some ((c : Int), r) ∧ c < 128 ∧ r ++ [UInt8.ofNat c] = l ++ varint n := fun n => by
  induction n using Nat.strongRecOn with
  | _ n ih =>
    intro m l hn hm hl
    by_cases h : n < 128
    · rw [varint_lt h] at hm hl ⊢
      obtain ⟨m, rfl⟩ : ∃ k, m = k + 1 := ⟨m - 1, by simp at hm; omega⟩
      refine ⟨n, l, ?_, h, rfl⟩
      show (uintF _).ob _ = _
      rw [uint_end h]
      rfl
    · have h' : 128 ≤ n := by omega
      rw [varint_ge h'] at hm hl ⊢
      simp only [List.length_cons] at hm hl
      obtain ⟨m, rfl⟩ : ∃ k, m = k + 1 := ⟨m - 1, by omega⟩
      have hp := varint_pos (n / 128)
      obtain ⟨c, r, q1, q2, q3⟩ := ih (n / 128) (by omega) m (l ++ [UInt8.ofNat (n % 128 + 128)]) (by omega) (by omega) (by simp; omega)
      refine ⟨c, r, ?_, q2, by rw [q3]; simp⟩
      show (uintF _).ob _ = _
      rw [uint_go h' hn l (by omega)]
      exact q1
theorem uint_v1_is {n : Nat} (hn : n < 18446744073709551616) {l : List UInt8} (hl : l.length + 10 ≤ 140737488355328) : bytes_Uint_o0 fuel (n : Int) l = some (l ++ varint n) := by
  unfold bytes_Uint_o0 bytes_Uint_o0_l0_it
  have h10 := varint_len10 hn
  obtain ⟨c, r, q1, q2, q3⟩ := uint_loop n fuel l hn (by unfold fuel; omega) (by omega)
  have q1' : iter fuel (fun tt => bytes_Uint_o0_l0 fuel tt.1 tt.2) ((n : Int), l) = some ((c : Int), r) := q1
  have hr : r.length + 1 = l.length + (varint n).length := by
    have := congrArg List.length q3
    simpa using this
  rw [q1']
  simp only [Option.bind_some]
  rw [wu8 ⟨by omega, by omega⟩, byte_nat (by omega)]
  simp only [Option.bind_some]
  rw [need_true (by rw [Nat.mul_one, ble_true (by unfold room; omega)]; rfl), q3]
theorem flat_take (ls : List (List UInt8)) (k : Nat) : (ls.take k).flatten.length ≤ ls.flatten.length := by
  have : ls.flatten = (ls.take k).flatten ++ (ls.drop k).flatten := by rw [← List.flatten_append, List.take_append_drop]
  rw [this, List.length_append]
  omega
theorem flat_succ {ls : List (List UInt8)} {k : Nat} (h : k < ls.length) : (ls.take (k + 1)).flatten = (ls.take k).flatten ++ ls[k] := by
  rw [List.take_succ_eq_append_getElem h, List.flatten_append]
  simp
theorem concat_is {ls : List (List UInt8)} (hn : ls.length < 1000000) (hl : ls.flatten.length ≤ 140737488355328) : slices_Concat__byte_byte fuel ls = some ls.flatten := by
  unfold slices_Concat__byte_byte slices_Concat__byte_byte_l0_it slices_Concat__byte_byte_l1_it
  have s1 := iter_range (f := fun (tt : Int × Int) => slices_Concat__byte_byte_l0 fuel ls tt.1 tt.2) (o := ((ls.flatten.length : Nat) : Int)) (fun k => ((((ls.take k).flatten.length : Nat) : Int), (k : Int))) ls.length (by omega)
    (fun k hk => by
      have h1 := flat_take ls (k + 1)
      rw [flat_succ hk, List.length_append] at h1
      show slices_Concat__byte_byte_l0 fuel ls ((((ls.take k).flatten.length : Nat) : Int)) (k : Int) = _
      unfold slices_Concat__byte_byte_l0
      rw [decide_eq_true (by omega), idx_nat hk]
      simp only [cond_true, Option.bind_some, List.getElem?_eq_getElem hk]
      rw [w64 ⟨by omega, by omega⟩, decide_eq_false (by omega), w64 ⟨by omega, by omega⟩, flat_succ hk, List.length_append]
      simp)
    (by
      show slices_Concat__byte_byte_l0 fuel ls _ ((ls.length : Nat) : Int) = _
      unfold slices_Concat__byte_byte_l0
      rw [decide_eq_false (by omega), List.take_length]
      rfl)
  have s1' : iter fuel (fun (tt : Int × Int) => slices_Concat__byte_byte_l0 fuel ls tt.1 tt.2) ((0 : Int), (0 : Int)) = some ((ls.flatten.length : Nat) : Int) := s1
  have sg : slices_Grow__byte_byte_n0 fuel ((ls.flatten.length : Nat) : Int) = some [] := by
    unfold slices_Grow__byte_byte_n0
    rw [decide_eq_false (by omega)]
    simp only [cond_false]
    by_cases h0 : ls.flatten.length = 0
    · rw [decide_eq_false (by rw [w64 ⟨by omega, by omega⟩]; omega)]
      rfl
    · have e : IntKind.wrap .i64 (((ls.flatten.length : Nat) : Int) - 0) = ((ls.flatten.length : Nat) : Int) := by rw [w64 ⟨by omega, by omega⟩]; omega
      rw [e, decide_eq_true (by omega), upto_nat (show ls.flatten.length ≤ room from hl)]
      simp only [cond_true, Option.bind_some]
      rw [need_true (by rw [Nat.mul_one, ble_true (show ls.flatten.length ≤ room from hl)]; rfl)]
      have e0 : ∀ m, upto? 0 m = some 0 := fun m => upto_nat (i := 0) (Nat.zero_le m)
      rw [e0]
      rfl
  have s2 := iter_range (f := fun (tt : Int × List UInt8) => slices_Concat__byte_byte_l1 fuel ls tt.1 tt.2) (o := ls.flatten) (fun k => ((k : Int), (ls.take k).flatten)) ls.length (by omega)
    (fun k hk => by
      have h1 := flat_take ls (k + 1)
      rw [flat_succ hk, List.length_append] at h1
      show slices_Concat__byte_byte_l1 fuel ls (k : Int) (ls.take k).flatten = _
      unfold slices_Concat__byte_byte_l1
      rw [decide_eq_true (by omega), idx_nat hk]
      simp only [cond_true, Option.bind_some, List.getElem?_eq_getElem hk]
      rw [need_true (by rw [Nat.mul_one, ble_true (by unfold room; omega)]; rfl), w64 ⟨by omega, by omega⟩, flat_succ hk]
      rfl)
    (by
      show slices_Concat__byte_byte_l1 fuel ls ((ls.length : Nat) : Int) _ = _
      unfold slices_Concat__byte_byte_l1
      rw [decide_eq_false (by omega), List.take_length]
      rfl)
  have s2' : iter fuel (fun (tt : Int × List UInt8) => slices_Concat__byte_byte_l1 fuel ls tt.1 tt.2) ((0 : Int), []) = some ls.flatten := s2
  rw [s1']
  simp only [Option.bind_some, sg, s2']
theorem blob_v1_is {b h : List UInt8} (hl : h.length + b.length + 10 ≤ 140737488355328) : bytes_Blob_o0 fuel b h = some (h ++ varint b.length ++ b) := by
  unfold bytes_Blob_o0
  have hb := varint_len10 (n := b.length) (by omega)
  rw [wu64 ⟨by omega, by omega⟩, uint_v1_is (by omega) (by omega)]
  simp only [Option.bind_some]
  rw [concat_is (by simp) (by simp; omega)]
  simp

/-! What comes -/
def getF (b : List UInt8) (at_ : Int) (tt : Int × Int) : Option ((Int × Int) ⊕ (Unit ⊕ (Int × (Int × Int)))) := bytes_GetUint_l0 fuel b at_ tt.1 tt.2
def getRes (at_ : Nat) (r : Nat × Nat × Nat) : Unit ⊕ (Int × (Int × Int)) := if r.2.2 = 11 then .inl () else if r.2.2 = 0 then .inr ((r.1 : Int), (((at_ + r.2.1 : Nat) : Int), 0)) else .inr (0, (0, ((r.2.2 : Nat) : Int)))
theorem get_step {b : List UInt8} {at_ k n : Nat} (hb : b.length < 4611686018427387904) (hk : k ≤ 9) (hn : n < 2 ^ (7 * k)) (hlt : at_ + k < b.length) (hc : b[at_ + k].toNat % 128 = b[at_ + k].toNat % 128) :
    getF b (at_ : Int) ((n : Int), ((at_ + k : Nat) : Int)) =
      if (0 < k ∧ b[at_ + k].toNat = 0) ∨ (8 < k ∧ 1 < b[at_ + k].toNat) then some (.inr (.inr (0, (0, 10))))
      else if b[at_ + k].toNat < 128 then some (.inr (.inr (((n + b[at_ + k].toNat % 128 * 2 ^ (7 * k) : Nat) : Int), (((at_ + k + 1 : Nat) : Int), 0))))
      else some (.inl (((n + b[at_ + k].toNat % 128 * 2 ^ (7 * k) : Nat) : Int), ((at_ + k + 1 : Nat) : Int))) := by
  show bytes_GetUint_l0 fuel b (at_ : Int) (n : Int) ((at_ + k : Nat) : Int) = _
  unfold bytes_GetUint_l0
  obtain ⟨c, hcc⟩ : ∃ c, b[at_ + k] = c := ⟨_, rfl⟩
  have hc8 := c.toNat_lt
  have e1 : IntKind.wrap .i64 (((at_ + k : Nat) : Int) - (at_ : Int)) = (k : Int) := by rw [w64 ⟨by omega, by omega⟩]; omega
  rw [decide_eq_true (by omega), idx_nat hlt]
  simp only [cond_true, Option.bind_some, List.getElem?_eq_getElem hlt, hcc, e1]
  have hz : (((c.toNat : Nat) : Int) == 0) = decide (c.toNat = 0) := by
    by_cases h : c.toNat = 0
    · simp [h]
    · rw [decide_eq_false h, beq_eq_false_iff_ne]; omega
  have e7 : IntKind.wrap .i64 (7 * (k : Int)) = ((7 * k : Nat) : Int) := by rw [w64 ⟨by omega, by omega⟩]; omega
  have em : min ((7 * k : Nat) : Int).toNat 64 = 7 * k := by omega
  have et : Int.tmod ((c.toNat : Nat) : Int) 128 = ((c.toNat % 128 : Nat) : Int) := rfl
  have hm : c.toNat % 128 < 128 := Nat.mod_lt _ (by omega)
  have ewu : IntKind.wrap .u64 ((c.toNat % 128 : Nat) : Int) = ((c.toNat % 128 : Nat) : Int) := wu64 ⟨by omega, by omega⟩
  by_cases hbad : (0 < k ∧ c.toNat = 0) ∨ (8 < k ∧ 1 < c.toNat)
  · rw [if_pos hbad]
    rcases hbad with ⟨h1, h2⟩ | ⟨h1, h2⟩
    · rw [decide_eq_true (show (k : Int) > 0 by omega), hz, decide_eq_true h2]
      rfl
    · rw [decide_eq_true (show (k : Int) > 0 by omega), hz, decide_eq_false (by omega), decide_eq_true (show (k : Int) > 8 by omega), decide_eq_true (show ((c.toNat : Nat) : Int) > 1 by omega)]
      rfl
  · rw [if_neg hbad]
    have hroom := P1.room n c.toNat k hk hn (fun h8 => by omega)
    have ep : ((c.toNat % 128 : Nat) : Int) * 2 ^ (7 * k) = ((c.toNat % 128 * 2 ^ (7 * k) : Nat) : Int) := by simp
    have ew : IntKind.wrap .u64 ((n : Int) + IntKind.wrap .u64 (IntKind.wrap .u64 ((c.toNat % 128 : Nat) : Int) * 2 ^ (min (IntKind.wrap .i64 (7 * (k : Int))).toNat 64))) = ((n + c.toNat % 128 * 2 ^ (7 * k) : Nat) : Int) := by
      rw [ewu, e7, em, ep, wu64 (x := ((c.toNat % 128 * 2 ^ (7 * k) : Nat) : Int)) ⟨by omega, by omega⟩, wu64 ⟨by omega, by omega⟩]
      omega
    have hguard : (bif decide ((k : Int) > 0) then bif decide (c.toNat = 0) then some true else bif decide ((k : Int) > 8) then some (decide (((c.toNat : Nat) : Int) > 1)) else some false
        else bif decide ((k : Int) > 8) then some (decide (((c.toNat : Nat) : Int) > 1)) else some false) = some false := by
      by_cases h0 : 0 < k
      · have : ¬ c.toNat = 0 := fun h => hbad (.inl ⟨h0, h⟩)
        rw [decide_eq_true (show (k : Int) > 0 by omega), decide_eq_false this]
        by_cases h8 : 8 < k
        · have : ¬ 1 < c.toNat := fun h => hbad (.inr ⟨h8, h⟩)
          rw [decide_eq_true (show (k : Int) > 8 by omega), decide_eq_false (show ¬ ((c.toNat : Nat) : Int) > 1 by omega)]
          rfl
        · rw [decide_eq_false (show ¬ (k : Int) > 8 by omega)]
          rfl
      · rw [decide_eq_false (show ¬ (k : Int) > 0 by omega), decide_eq_false (show ¬ (k : Int) > 8 by omega)]
        rfl
    rw [hz, hguard]
    simp only [Option.bind_some, cond_false, et, ew]
    have ex : IntKind.wrap .i64 (((at_ + k : Nat) : Int) + 1) = ((at_ + k + 1 : Nat) : Int) := by rw [w64 ⟨by omega, by omega⟩]; omega
    rw [e7, need_true (decide_eq_true (by omega)), ex]
    by_cases h128 : c.toNat < 128
    · rw [if_pos h128, decide_eq_true (show ((c.toNat : Nat) : Int) < 128 by omega)]
      rfl
    · rw [if_neg h128, decide_eq_false (show ¬ ((c.toNat : Nat) : Int) < 128 by omega)]
      rfl
theorem get_loop {b : List UInt8} {at_ : Nat} (hb : b.length < 4611686018427387904) : ∀ (rem k n m : Nat), at_ + k + rem = b.length → rem < m → k ≤ 9 → n < 2 ^ (7 * k) →
    iter m (getF b (at_ : Int)) ((n : Int), ((at_ + k : Nat) : Int)) = some (getRes at_ (num (b.drop (at_ + k)) k n))
  | 0, k, n, m, h, hm, hk, hn => by
    obtain ⟨m, rfl⟩ : ∃ j, m = j + 1 := ⟨m - 1, by omega⟩
    have : b.drop (at_ + k) = [] := List.drop_of_length_le (by omega)
    rw [this]
    show (getF b (at_ : Int) _).ob _ = _
    have e : getF b (at_ : Int) ((n : Int), ((at_ + k : Nat) : Int)) = some (.inr (.inl ())) := by
      show bytes_GetUint_l0 fuel b (at_ : Int) (n : Int) ((at_ + k : Nat) : Int) = _
      unfold bytes_GetUint_l0
      rw [decide_eq_false (by omega)]
      rfl
    rw [e]
    rfl
  | rem + 1, k, n, m, h, hm, hk, hn => by
    obtain ⟨m, rfl⟩ : ∃ j, m = j + 1 := ⟨m - 1, by omega⟩
    have hlt : at_ + k < b.length := by omega
    rw [drop_at hlt]
    show (getF b (at_ : Int) _).ob _ = _
    rw [get_step hb hk hn hlt rfl]
    by_cases hbad : (0 < k ∧ b[at_ + k].toNat = 0) ∨ (8 < k ∧ 1 < b[at_ + k].toNat)
    · rw [if_pos hbad, num_bad hbad]
      rfl
    · rw [if_neg hbad]
      by_cases h128 : b[at_ + k].toNat < 128
      · rw [if_pos h128, num_end hbad h128]
        show some _ = some _
        simp [getRes]
        omega
      · rw [if_neg h128, num_step hbad (by omega)]
        have hroom := P1.room n b[at_ + k].toNat k hk hn (fun h8 => by omega)
        have hk8 : k ≤ 8 := by
          by_cases h9 : k ≤ 8
          · exact h9
          · exfalso; exact hbad (.inr ⟨by omega, by omega⟩)
        have := get_loop (at_ := at_) hb rem (k + 1) (n + b[at_ + k].toNat % 128 * 2 ^ (7 * k)) m (by omega) (by omega) (by omega) (hroom.2 hk8)
        exact this
/-- What a place of bytes tells, as the program tells it. -/
theorem getUint_is {b : List UInt8} {at_ : Int} (hb : b.length < 4611686018427387904) : bytes_GetUint fuel b at_ = some ((((getUint b at_).1 : Nat) : Int), ((((getUint b at_).2.1 : Nat) : Int), (((getUint b at_).2.2 : Nat) : Int))) := by
  unfold bytes_GetUint
  by_cases hout : at_ < 0 ∨ (b.length : Int) < at_
  · rw [getUint_out hout]
    rcases hout with h | h
    · rw [decide_eq_true h]
      rfl
    · by_cases h0 : at_ < 0
      · rw [decide_eq_true h0]; rfl
      · rw [decide_eq_false h0, decide_eq_true (show at_ > ((b.length : Nat) : Int) by omega)]
        rfl
  · obtain ⟨a, rfl⟩ : ∃ a : Nat, at_ = a := ⟨at_.toNat, by omega⟩
    rw [decide_eq_false (by omega), decide_eq_false (by omega)]
    simp only [cond_false, Option.bind_some]
    unfold bytes_GetUint_l0_it
    have hl : iter fuel (fun tt => bytes_GetUint_l0 fuel b (a : Int) tt.1 tt.2) ((0 : Int), (a : Int)) = some (getRes a (num (b.drop a) 0 0)) :=
      get_loop hb (b.length - a) 0 0 fuel (by omega) (by unfold fuel; omega) (by omega) (by decide)
    rw [hl]
    simp only [Option.bind_some]
    obtain ⟨n, j, e, hnum⟩ : ∃ n j e, num (b.drop a) 0 0 = (n, j, e) := ⟨_, _, _, rfl⟩
    have hg : getUint b (a : Int) = if e = 0 then (n, a + j, 0) else (0, 0, e) := by
      unfold getUint
      rw [if_neg (by omega)]
      simp only [Int.toNat_natCast, hnum]
    rw [hg, hnum]
    unfold getRes
    by_cases h11 : e = 11
    · subst h11; rfl
    · by_cases h0 : e = 0
      · subst h0; rfl
      · simp only [h11, h0, if_false]
        rfl
theorem getBlob_is {b : List UInt8} {at_ most : Int} (hb : b.length ≤ 140737488355328) (hm : most ≤ 9223372036854775807) : bytes_GetBlob fuel b at_ most = some ((((getBlob b at_ most).2.1 : Nat) : Int), ((((getBlob b at_ most).2.2 : Nat) : Int), (getBlob b at_ most).1)) := by
  unfold bytes_GetBlob
  rw [getUint_is (by omega)]
  simp only [Option.bind_some]
  obtain ⟨n, j, e, hu⟩ : ∃ n j e, getUint b at_ = (n, j, e) := ⟨_, _, _, rfl⟩
  have hfit := getUint_fits b at_
  rw [hu] at hfit ⊢
  simp only at hfit ⊢
  by_cases he : e = 0
  · subst he
    have e0 : (!(((0 : Nat) : Int) == 0)) = false := rfl
    rw [e0]
    simp only [cond_false]
    by_cases hmost : most < 0 ∨ most < n
    · rw [getBlob_long hu hmost]
      by_cases h0 : most < 0
      · rw [decide_eq_true h0]; rfl
      · rw [decide_eq_false h0, wu64 ⟨by omega, by omega⟩, decide_eq_true (show ((n : Nat) : Int) > most by omega)]
        rfl
    · rw [decide_eq_false (show ¬ most < 0 by omega), wu64 (x := most) ⟨by omega, by omega⟩, decide_eq_false (show ¬ ((n : Nat) : Int) > most by omega)]
      simp only [cond_false, Option.bind_some]
      have hj : j ≤ b.length := hfit.2.1
      rw [w64 (x := ((b.length : Nat) : Int) - (j : Int)) ⟨by omega, by omega⟩, wu64 ⟨by omega, by omega⟩]
      by_cases hs : b.length - j < n
      · rw [getBlob_short hu hmost hs, decide_eq_true (by omega)]
        rfl
      · rw [getBlob_ok hu hmost hs, decide_eq_false (by omega), upto_nat hj]
        simp only [cond_false, Option.bind_some]
        have hnl : n ≤ (List.drop j b).length := by rw [List.length_drop]; omega
        rw [upto_nat hnl]
        simp only [Option.bind_some]
        have hl : (List.take n (List.drop j b)).length = n := by rw [List.length_take]; omega
        rw [clone_is (by rw [hl]; unfold room; omega)]
        simp only [Option.bind_some, hl]
        rw [w64 ⟨by omega, by omega⟩]
        rfl
  · have e0 : (!(((e : Nat) : Int) == 0)) = true := by
      have : (((e : Nat) : Int) == 0) = false := by rw [beq_eq_false_iff_ne]; omega
      rw [this]; rfl
    rw [getBlob_err hu he, e0]
    rfl
end Go.Ab.D

/- Layer 21, call: which requests are right. -/
namespace Go.Ab.D
abbrev CallT : Type := Int × (Int × (UInt8 × ((Int × Int) × (List UInt8 × ((Int × Int) × (List UInt8 × (Int × (Int × List UInt8))))))))
abbrev Has : Type := Bool × (Bool × (Bool × (Bool × (Int × (Bool × Bool)))))
instance hasD1 : DecidableEq (Int × (Bool × Bool)) := instDecidableEqProd
instance hasD2 : DecidableEq (Bool × (Int × (Bool × Bool))) := instDecidableEqProd
instance hasD3 : DecidableEq (Bool × (Bool × (Int × (Bool × Bool)))) := instDecidableEqProd
instance hasD4 : DecidableEq (Bool × (Bool × (Bool × (Int × (Bool × Bool))))) := instDecidableEqProd
instance hasD5 : DecidableEq Has := instDecidableEqProd
def shapeN (o : Nat) : Has :=
  if o = 1 ∨ o = 2 ∨ o = 3 ∨ o = 7 ∨ o = 8 then (true, (true, (false, (false, (0, (false, true))))))
  else if o = 4 then (true, (false, (false, (true, (4096, (false, true))))))
  else if o = 5 then (true, (false, (false, (true, (0, (true, true))))))
  else if o = 6 then (true, (false, (false, (false, (2147483648, (false, true))))))
  else if o = 9 then (true, (true, (true, (false, (0, (false, true))))))
  else if o = 10 then (true, (true, (false, (false, (4096, (false, true))))))
  else if o = 11 then (true, (false, (false, (false, (0, (false, true))))))
  else if o = 12 then (false, (false, (false, (false, (0, (false, true))))))
  else (false, (false, (false, (false, (0, (false, false))))))
theorem shape_all : ∀ n : Nat, n < 256 → call_shape fuel ((n : Nat) : Int) = some (shapeN n) := by decide +kernel
theorem shape_is (o : UInt8) : call_shape fuel ((o.toNat : Nat) : Int) = some (shapeN o.toNat) := shape_all _ o.toNat_lt
def whoseB (a b : Int) : Bool := decide (0 ≤ a ∧ a < 16 ∧ 1 ≤ b ∧ b ≤ 1099511627776)
theorem whose_is (a b : Int) : call_whose fuel a b = some (whoseB a b) := by
  unfold call_whose whoseB
  by_cases h1 : a ≥ 0 <;> by_cases h2 : a < 16 <;> by_cases h3 : b ≥ 1 <;> by_cases h4 : b ≤ 1099511627776 <;>
    simp [h1, h2, h3, h4] <;> omega
def handleB (h : Int × Int) : Bool := decide (1 ≤ h.1 ∧ h.1 ≤ 500 ∧ 1 ≤ h.2 ∧ h.2 ≤ 1099511627776)
theorem handle_is (h : Int × Int) : handle_Right fuel h = some (handleB h) := by
  unfold handle_Right handleB
  by_cases h1 : h.1 ≥ 1 <;> by_cases h2 : h.1 ≤ 500 <;> by_cases h3 : h.2 ≥ 1 <;> by_cases h4 : h.2 ≤ 1099511627776 <;>
    simp [h1, h2, h3, h4] <;> omega
def ofB (is : Bool) (h : Int × Int) : Bool := bif is then handleB h else ((h.1 == 0) && (h.2 == 0))
theorem of_is (is : Bool) (h : Int × Int) : call_RightCall_1 fuel is h = some (ofB is h) := by
  unfold call_RightCall_1 ofB
  cases is with
  | true =>
    simp only [cond_true]
    rw [handle_is]
    have : handleB (h.1, h.2) = handleB h := rfl
    rw [this]
    simp only [Option.bind_some]
    cases handleB h <;> rfl
  | false => rfl
def saidB (is : Bool) (l : List UInt8) : Bool := (l == []) || (is && decide (l.length ≤ 100))
theorem said_is (is : Bool) (l : List UInt8) : call_RightCall_2 fuel is l = some (saidB is l) := by
  unfold call_RightCall_2 saidB
  have e : decide (((l.length : Nat) : Int) ≤ 100) = decide (l.length ≤ 100) := by
    by_cases h : l.length ≤ 100
    · rw [decide_eq_true h, decide_eq_true (by omega)]
    · rw [decide_eq_false h, decide_eq_false (by omega)]
  rw [e]
  cases (l == []) <;> cases is <;> rfl
def rightS (s : Has) (c : CallT) : Bool :=
  s.2.2.2.2.2.2 && (whoseB c.1 c.2.1 && (ofB s.1 c.2.2.2.1 && (ofB s.2.2.1 c.2.2.2.2.2.1 && (saidB s.2.1 c.2.2.2.2.1 && (saidB s.2.2.1 c.2.2.2.2.2.2.1 &&
    (decide (0 ≤ c.2.2.2.2.2.2.2.1 ∧ c.2.2.2.2.2.2.2.1 ≤ 2147483648) && ((s.2.2.2.1 || (c.2.2.2.2.2.2.2.1 == 0)) && (decide (0 ≤ c.2.2.2.2.2.2.2.2.1 ∧ c.2.2.2.2.2.2.2.2.1 ≤ s.2.2.2.2.1) &&
      (decide (c.2.2.2.2.2.2.2.2.2.length = 0) || (s.2.2.2.2.2.1 && decide (c.2.2.2.2.2.2.2.2.2.length ≤ 4096)))))))))))
def rightCall (c : CallT) : Bool := rightS (shapeN c.2.2.1.toNat) c
theorem rightCall_is (c : CallT) : call_RightCall fuel c = some (rightCall c) := by
  obtain ⟨c1, c2, c3, ⟨h1, h2⟩, nm, ⟨t1, t2⟩, nw, off, n, bs⟩ := c
  unfold call_RightCall rightCall
  simp only
  rw [shape_is]
  generalize shapeN c3.toNat = s
  obtain ⟨sh, sn, st, so, sN, sb, ok⟩ := s
  unfold rightS
  simp only [Option.bind_some]
  cases ok with
  | false => rfl
  | true =>
    simp only [Bool.not_true, cond_false]
    rw [whose_is]
    generalize whoseB c1 c2 = w
    cases w with
    | false => rfl
    | true =>
      simp only [Option.bind_some, Bool.not_true, cond_false]
      rw [of_is]
      generalize ofB sh (h1, h2) = a1
      cases a1 with
      | false => rfl
      | true =>
        simp only [Option.bind_some, Bool.not_true, cond_false]
        rw [of_is]
        generalize ofB st (t1, t2) = a2
        cases a2 with
        | false => rfl
        | true =>
          simp only [Option.bind_some, Bool.not_true, cond_false]
          rw [said_is]
          generalize saidB sn nm = a3
          cases a3 with
          | false => rfl
          | true =>
            simp only [Option.bind_some, Bool.not_true, cond_false]
            rw [said_is]
            generalize saidB st nw = a4
            cases a4 with
            | false => rfl
            | true =>
              simp only [Option.bind_some, Bool.not_true, cond_false, Bool.true_and]
              by_cases o1 : off < 0
              · rw [decide_eq_true o1, decide_eq_false (show ¬ (0 ≤ off ∧ off ≤ 2147483648) by omega)]; rfl
              by_cases o2 : off > 2147483648
              · rw [decide_eq_false o1, decide_eq_true o2, decide_eq_false (show ¬ (0 ≤ off ∧ off ≤ 2147483648) by omega)]; rfl
              rw [decide_eq_false o1, decide_eq_false o2, decide_eq_true (show 0 ≤ off ∧ off ≤ 2147483648 by omega)]
              have eb : decide (((bs.length : Nat) : Int) ≤ 4096) = decide (bs.length ≤ 4096) := by
                by_cases h : bs.length ≤ 4096
                · rw [decide_eq_true h, decide_eq_true (by omega)]
                · rw [decide_eq_false h, decide_eq_false (by omega)]
              have e0 : (((bs.length : Nat) : Int) == 0) = decide (bs.length = 0) := by
                by_cases h : bs.length = 0
                · rw [decide_eq_true h, h]; rfl
                · rw [decide_eq_false h, beq_eq_false_iff_ne.2 (by omega)]
              by_cases n1 : n < 0
              · rw [decide_eq_true n1, decide_eq_false (show ¬ (0 ≤ n ∧ n ≤ sN) by omega)]
                cases so <;> cases (off == 0) <;> rfl
              by_cases n2 : n > sN
              · rw [decide_eq_false n1, decide_eq_true n2, decide_eq_false (show ¬ (0 ≤ n ∧ n ≤ sN) by omega)]
                cases so <;> cases (off == 0) <;> rfl
              rw [decide_eq_false n1, decide_eq_false n2, decide_eq_true (show 0 ≤ n ∧ n ≤ sN by omega), ← e0, ← eb]
              cases so <;> cases (off == 0) <;> simp only [cond_true, cond_false, Bool.not_true, Bool.not_false, Option.bind_some, Bool.true_and, Bool.or_false, Bool.or_true, Bool.false_and, e0, eb] <;>
                (generalize decide (bs.length = 0) = x0) <;> (generalize decide (bs.length ≤ 4096) = x1) <;> cases x0 <;> cases sb <;> cases x1 <;> rfl
theorem awake21 : law21_awake fuel = some true := by kernel_rfl
end Go.Ab.D

/- Layer 21, CallOdd. -/
namespace Go.Ab.D
theorem byteU (c : UInt8) : byte? ((c.toNat : Nat) : Int) = some c := by
  have := c.toNat_lt
  rw [byte_nat (by omega)]
  simp
theorem huge_some (c : CallT) : law21_Huge fuel c (0, (0, (0, ((0, 0), (false, (0, ([], ([], (false, 0))))))))) = some true ∨ law21_Huge fuel c (0, (0, (0, ((0, 0), (false, (0, ([], ([], (false, 0))))))))) = some false := by
  unfold law21_Huge
  have it : ∀ o : Bool × (Int × (Int × (Int × (Int × (Int × (Bool × (Int × (List UInt8 × (List (List UInt8 × Int) × (Bool × Int)))))))))), o.2.2.2.2.2.2.2.2.2.1 = [] → ∀ s, law21_Huge_l0_it fuel o (0, s) = some (.inl ()) := by
    intro o ho s
    unfold law21_Huge_l0_it
    refine iter_fuel_inr ?_
    unfold law21_Huge_l0
    rw [ho]
    rfl
  simp only
  by_cases h1 : ((c.2.2.2.2.1.length : Nat) : Int) > 3000
  · rw [decide_eq_true h1]; exact .inl rfl
  · by_cases h2 : ((c.2.2.2.2.2.2.1.length : Nat) : Int) > 3000
    · rw [decide_eq_false h1, decide_eq_true h2]; exact .inl rfl
    · by_cases h3 : ((c.2.2.2.2.2.2.2.2.2.length : Nat) : Int) > 5000
      · rw [decide_eq_false h1, decide_eq_false h2, decide_eq_true h3]; exact .inl rfl
      · rw [decide_eq_false h1, decide_eq_false h2, decide_eq_false h3]
        right
        simp only [cond_false, Option.bind_some, show decide (((([] : List UInt8).length : Nat) : Int) > 5000) = false from rfl, show decide (((([] : List (List UInt8 × Int)).length : Nat) : Int) > 120) = false from rfl]
        rw [it _ rfl]
        rfl
theorem shape_big {n : Nat} (h : 12 < n) : (shapeN n).2.2.2.2.2.2 = false := by
  unfold shapeN
  rw [if_neg (by omega), if_neg (by omega), if_neg (by omega), if_neg (by omega), if_neg (by omega), if_neg (by omega), if_neg (by omega), if_neg (by omega)]
theorem shape_ok {n : Nat} (h : (shapeN n).2.2.2.2.2.2 = true) : 1 ≤ n ∧ n ≤ 12 := by
  have h12 : n ≤ 12 := by
    apply Classical.byContradiction
    intro hn
    rw [shape_big (by omega)] at h
    cases h
  refine ⟨?_, h12⟩
  apply Classical.byContradiction
  intro hn
  have : n = 0 := by omega
  subst this
  cases h
theorem ofB_id {is : Bool} {a b : Int} (h : a = 501) : ofB is (a, b) = false := by subst h; unfold ofB handleB; cases is <;> simp
theorem ofB_gen {is : Bool} {a b : Int} (h : b = -1) : ofB is (a, b) = false := by subst h; unfold ofB handleB; cases is <;> simp
theorem odd_end {c : CallT} (h : rightCall c = false) : ((bytes_Table fuel).bind fun r3 =>
    need (Nat.beq (List.replicate (α := Int) 256 0).length 256) <|
    need (Nat.beq r3.length 256) <|
    (call_PutCall fuel r3 c).bind fun r4 =>
    (call_RightCall fuel c).bind fun r5 =>
    bif (!r5) then
      bif (r4.1 == 179) then
        (law21_awake fuel).bind fun r6 =>
        some r6
      else
        some false
    else
      some false) = some true := by
  obtain ⟨c1, c2, c3, ⟨h1, h2⟩, nm, ⟨t1, t2⟩, nw, off, n, bs⟩ := c
  have ht : ∃ r, bytes_Table fuel = some r ∧ r.length = 256 := by
    have : (match bytes_Table fuel with | some r => r.length == 256 | none => false) = true := by kernel_rfl
    cases hb : bytes_Table fuel with
    | none => rw [hb] at this; cases this
    | some r => rw [hb] at this; exact ⟨r, rfl, by simpa using this⟩
  obtain ⟨r, hr, hl⟩ := ht
  rw [hr]
  simp only [Option.bind_some]
  rw [need_true (b := Nat.beq (List.replicate (α := Int) 256 0).length 256) (by rw [List.length_replicate]; rfl), need_true (by rw [hl]; rfl)]
  have hp : call_PutCall fuel r (c1, (c2, (c3, ((h1, h2), (nm, ((t1, t2), (nw, (off, (n, bs))))))))) = some (179, []) := by
    unfold call_PutCall
    rw [byteU]
    simp only [Option.bind_some]
    rw [rightCall_is, h]
    rfl
  rw [hp]
  simp only [Option.bind_some]
  rw [rightCall_is, h]
  simp only [Option.bind_some, Bool.not_false, cond_true]
  rw [awake21]
  rfl
theorem tmod8 {w : Nat} : Int.tmod (w : Int) 8 = ((w % 8 : Nat) : Int) := rfl
theorem law21_CallOdd_true (c : CallT) (which : Int) (_k0 : OkV (.pair (.int .i64) (.pair (.int .i64) (.pair .byte (.pair (.pair (.int .i64) (.int .i64)) (.pair .str (.pair (.pair (.int .i64) (.int .i64)) (.pair .str (.pair (.int .i64) (.pair (.int .i64) (.sl .byte)))))))))) c) (_k1 : OkV (.int .u8) which) : law21_CallOdd fuel c which = some true := by
  have hw : 0 ≤ which ∧ which ≤ 255 := _k1
  obtain ⟨w, rfl⟩ : ∃ w : Nat, which = w := ⟨which.toNat, by omega⟩
  clear _k0 _k1
  obtain ⟨c1, c2, c3, ⟨h1, h2⟩, nm, ⟨t1, t2⟩, nw, off, n, bs⟩ := c
  unfold law21_CallOdd
  simp only
  rw [byteU]
  simp only [Option.bind_some]
  rcases huge_some (c1, (c2, (c3, ((h1, h2), (nm, ((t1, t2), (nw, (off, (n, bs))))))))) with hh | hh
  · rw [hh]
    simp only [Option.bind_some, cond_true]
    rw [awake21]
    rfl
  rw [hh]
  simp only [Option.bind_some, cond_false]
  rw [rightCall_is]
  simp only [Option.bind_some]
  cases hr : rightCall (c1, (c2, (c3, ((h1, h2), (nm, ((t1, t2), (nw, (off, (n, bs))))))))) with
  | false =>
    simp only [Bool.not_false, cond_true]
    rw [awake21]
    rfl
  | true =>
    simp only [Bool.not_true, cond_false]
    have hr' := hr
    unfold rightCall rightS at hr'
    simp only [Bool.and_eq_true] at hr'
    have hop := shape_ok hr'.1
    rw [tmod8]
    have hm : w % 8 < 8 := Nat.mod_lt _ (by omega)
    generalize w % 8 = k at hm
    have hk : k = 0 ∨ k = 1 ∨ k = 2 ∨ k = 3 ∨ k = 4 ∨ k = 5 ∨ k = 6 ∨ k = 7 := by omega
    rcases hk with rfl | rfl | rfl | rfl | rfl | rfl | rfl | rfl
    · simp only [show (((0 : Nat) : Int) == 0) = true from rfl, cond_true, Option.bind_some, byteU]
      refine odd_end ?_
      unfold rightCall rightS whoseB
      simp
    · simp only [show (((1 : Nat) : Int) == 0) = false from rfl, show (((1 : Nat) : Int) == 1) = true from rfl, cond_true, cond_false, Option.bind_some, byteU]
      refine odd_end ?_
      unfold rightCall rightS whoseB
      simp
    · simp only [show (((2 : Nat) : Int) == 0) = false from rfl, show (((2 : Nat) : Int) == 1) = false from rfl, show (((2 : Nat) : Int) == 2) = true from rfl, cond_true, cond_false, Option.bind_some]
      have hb : byte? (IntKind.wrap .u8 (((c3.toNat : Nat) : Int) + 12)) = some (UInt8.ofNat (c3.toNat + 12)) := by
        rw [wu8 ⟨by omega, by omega⟩, show ((c3.toNat : Nat) : Int) + 12 = ((c3.toNat + 12 : Nat) : Int) by omega]
        exact byte_nat (by omega)
      simp only [hb, Option.bind_some]
      refine odd_end ?_
      unfold rightCall rightS
      have e : (UInt8.ofNat (c3.toNat + 12)).toNat = c3.toNat + 12 := by rw [UInt8.toNat_ofNat']; omega
      simp only [e]
      rw [shape_big (by omega)]
      rfl
    · simp only [show (((3 : Nat) : Int) == 0) = false from rfl, show (((3 : Nat) : Int) == 1) = false from rfl, show (((3 : Nat) : Int) == 2) = false from rfl, show (((3 : Nat) : Int) == 3) = true from rfl, cond_true, cond_false, Option.bind_some, byteU]
      refine odd_end ?_
      unfold rightCall rightS
      simp only [ofB_id rfl, Bool.false_and, Bool.and_false]
    · simp only [show (((4 : Nat) : Int) == 0) = false from rfl, show (((4 : Nat) : Int) == 1) = false from rfl, show (((4 : Nat) : Int) == 2) = false from rfl, show (((4 : Nat) : Int) == 3) = false from rfl, show (((4 : Nat) : Int) == 4) = true from rfl, cond_true, cond_false, Option.bind_some, byteU]
      refine odd_end ?_
      unfold rightCall rightS
      simp only [ofB_gen rfl, Bool.false_and, Bool.and_false]
    · simp only [show (((5 : Nat) : Int) == 0) = false from rfl, show (((5 : Nat) : Int) == 1) = false from rfl, show (((5 : Nat) : Int) == 2) = false from rfl, show (((5 : Nat) : Int) == 3) = false from rfl, show (((5 : Nat) : Int) == 4) = false from rfl, show (((5 : Nat) : Int) == 5) = true from rfl, cond_true, cond_false, Option.bind_some, byteU]
      refine odd_end ?_
      unfold rightCall rightS
      simp
    · simp only [show (((6 : Nat) : Int) == 0) = false from rfl, show (((6 : Nat) : Int) == 1) = false from rfl, show (((6 : Nat) : Int) == 2) = false from rfl, show (((6 : Nat) : Int) == 3) = false from rfl, show (((6 : Nat) : Int) == 4) = false from rfl, show (((6 : Nat) : Int) == 5) = false from rfl, show (((6 : Nat) : Int) == 6) = true from rfl, cond_true, cond_false, Option.bind_some, byteU]
      refine odd_end ?_
      unfold rightCall rightS
      simp
    · simp only [show (((7 : Nat) : Int) == 0) = false from rfl, show (((7 : Nat) : Int) == 1) = false from rfl, show (((7 : Nat) : Int) == 2) = false from rfl, show (((7 : Nat) : Int) == 3) = false from rfl, show (((7 : Nat) : Int) == 4) = false from rfl, show (((7 : Nat) : Int) == 5) = false from rfl, show (((7 : Nat) : Int) == 6) = false from rfl, cond_true, cond_false, Option.bind_some, byteU]
      refine odd_end ?_
      unfold rightCall rightS
      have : saidB (shapeN c3.toNat).2.1 (List.replicate 101 (0 : UInt8)) = false := by
        unfold saidB
        rw [show (List.replicate 101 (0 : UInt8) == []) = false from rfl, show decide ((List.replicate 101 (0 : UInt8)).length ≤ 100) = false from by rw [List.length_replicate]; rfl, Bool.and_false]
        rfl
      simp only [this, Bool.false_and, Bool.and_false]
end Go.Ab.D

/- Layer 21, call: requests put and got. -/
set_option maxRecDepth 100000
namespace Go.Ab.D
open Go Go.Ab Go.P1 Go.P21
attribute [local irreducible] Go.P1.crcT tabI
/-! Put -/
def nums (l : List Int) : List UInt8 := l.flatMap vi
theorem fold_loop {α : Type} (g : α → List UInt8) (s : List α) (h : List UInt8) (hs : s.length < 4611686018427387904) {f : Int × List UInt8 → Option ((Int × List UInt8) ⊕ List UInt8)}
    (h1 : ∀ (k : Nat) (hk : k < s.length) (l : List UInt8), l = h ++ (s.take k).flatMap g → f ((k : Int), l) = some (.inl (((k + 1 : Nat) : Int), l ++ g s[k])))
    (h2 : ∀ l, f (((s.length : Nat) : Int), l) = some (.inr l)) : iter fuel f (0, h) = some (h ++ s.flatMap g) := by
  have := iter_range (f := f) (o := h ++ s.flatMap g) (fun k => ((k : Int), h ++ (s.take k).flatMap g)) s.length hs
    (fun k hk => by
      show f ((k : Int), h ++ (s.take k).flatMap g) = _
      rw [h1 k hk _ rfl, List.take_succ_eq_append_getElem hk, List.flatMap_append, List.append_assoc]
      simp)
    (by rw [List.take_length]; exact h2 _)
  simpa using this
theorem nums_len : ∀ {r : List Int}, (∀ n ∈ r, 0 ≤ n ∧ n ≤ 9223372036854775807) → (r.flatMap vi).length ≤ 10 * r.length := fun {r} => by
  induction r with
  | nil => simp
  | cons n r ih =>
    intro hr
    have h0 := hr n (by simp)
    have := ih fun m hm => hr m (by simp [hm])
    have v := varint_len10 (n := n.toNat) (by omega)
    simp only [List.flatMap_cons, vi, List.length_append, List.length_cons] at this ⊢
    omega
theorem uints_is {l : List Int} (hl : l.length ≤ 100) (hn : ∀ n ∈ l, 0 ≤ n ∧ n ≤ 9223372036854775807) {h : List UInt8} (hh : h.length ≤ 100000000) : call_uints_o0 fuel l h = some (h ++ nums l) := by
  unfold call_uints_o0 call_uints_o0_l0_it
  have hlen : ∀ k, ((l.take k).flatMap vi).length ≤ 10 * l.length := fun k => by
    have h1 := nums_len (r := l.take k) fun n hn' => hn n (List.mem_of_mem_take hn')
    have : (l.take k).length ≤ l.length := by simp; omega
    omega
  have e := fold_loop vi l h (by omega) (f := fun tt => call_uints_o0_l0 fuel l tt.1 tt.2)
    (fun k hk m hm => by
      have h0 := hn l[k] (List.getElem_mem hk)
      obtain ⟨n, hn'⟩ : ∃ n : Nat, l[k] = (n : Int) := ⟨l[k].toNat, by omega⟩
      have hg : l[k]? = some (n : Int) := by rw [List.getElem?_eq_getElem hk, hn']
      have hmlen : m.length + 10 ≤ 140737488355328 := by
        rw [hm, List.length_append]
        have := hlen k
        omega
      show call_uints_o0_l0 fuel l (k : Int) m = _
      unfold call_uints_o0_l0
      rw [decide_eq_true (by omega), idx_nat hk]
      simp only [cond_true, Option.bind_some, hg]
      rw [wu64 ⟨by omega, by omega⟩, uint_v1_is (by omega) hmlen]
      simp only [Option.bind_some]
      rw [w64 ⟨by omega, by omega⟩, hn']
      rfl)
    (fun m => by
      show call_uints_o0_l0 fuel l ((l.length : Nat) : Int) m = _
      unfold call_uints_o0_l0
      rw [decide_eq_false (by omega)]; rfl)
  rw [e]
  rfl
theorem shapeN_n (o : Nat) : (shapeN o).2.2.2.2.1 ≤ 2147483648 := by
  unfold shapeN
  repeat (first | (split; · simp) | simp)
theorem handleB_of {is : Bool} {h : Int × Int} (k : ofB is h = true) : (0 ≤ h.1 ∧ h.1 ≤ 500) ∧ (0 ≤ h.2 ∧ h.2 ≤ 1099511627776) := by
  unfold ofB handleB at k
  cases is with
  | true => simp only [cond_true, decide_eq_true_eq] at k; omega
  | false => simp only [cond_false, Bool.and_eq_true, beq_iff_eq] at k; omega
theorem saidB_len {is : Bool} {l : List UInt8} (k : saidB is l = true) : l.length ≤ 100 := by
  unfold saidB at k
  simp only [Bool.or_eq_true, beq_iff_eq, Bool.and_eq_true, decide_eq_true_eq] at k
  rcases k with k | k
  · subst k; exact Nat.zero_le _
  · exact k.2
structure RightC (c : Go.P21.CallT) : Prop where
  cl : 0 ≤ c.1 ∧ c.1 < 16
  x : 1 ≤ c.2.1 ∧ c.2.1 ≤ 1099511627776
  op : 1 ≤ c.2.2.1.toNat ∧ c.2.2.1.toNat ≤ 12
  h : (0 ≤ c.2.2.2.1.1 ∧ c.2.2.2.1.1 ≤ 500) ∧ (0 ≤ c.2.2.2.1.2 ∧ c.2.2.2.1.2 ≤ 1099511627776)
  t : (0 ≤ c.2.2.2.2.2.1.1 ∧ c.2.2.2.2.2.1.1 ≤ 500) ∧ (0 ≤ c.2.2.2.2.2.1.2 ∧ c.2.2.2.2.2.1.2 ≤ 1099511627776)
  off : 0 ≤ c.2.2.2.2.2.2.2.1 ∧ c.2.2.2.2.2.2.2.1 ≤ 2147483648
  n : 0 ≤ c.2.2.2.2.2.2.2.2.1 ∧ c.2.2.2.2.2.2.2.2.1 ≤ 2147483648
  nm : c.2.2.2.2.1.length ≤ 100
  nw : c.2.2.2.2.2.2.1.length ≤ 100
  b : c.2.2.2.2.2.2.2.2.2.length ≤ 4096
theorem right_of {c : Go.P21.CallT} (hr : rightCall c = true) : RightC c := by
  unfold rightCall rightS at hr
  simp only [Bool.and_eq_true] at hr
  obtain ⟨r1, r2, r3, r4, r5, r6, r7, r8, r9, r10⟩ := hr
  unfold whoseB at r2
  simp only [decide_eq_true_eq] at r2 r7 r9
  have hs := shapeN_n c.2.2.1.toNat
  refine ⟨⟨r2.1, r2.2.1⟩, ⟨r2.2.2.1, r2.2.2.2⟩, shape_ok r1, handleB_of r3, handleB_of r4, r7, ⟨r9.1, by omega⟩, saidB_len r5, saidB_len r6, ?_⟩
  simp only [Bool.or_eq_true, Bool.and_eq_true, decide_eq_true_eq] at r10
  rcases r10 with r | r <;> omega
theorem RightC.fits {c : Go.P21.CallT} (h : RightC c) : fits c := by
  obtain ⟨h1, h2, h3, h4, h5, h6, h7, h8, h9, h10⟩ := h
  unfold Go.P21.fits
  omega
theorem vi_len {n : Int} (h0 : 0 ≤ n) (h : n ≤ 4611686018427387904) : (vi n).length ≤ 10 := varint_len10 (by omega)
theorem callB_len {c : Go.P21.CallT} (h : RightC c) : (callB c).length ≤ 5000 := by
  have hf := h.fits
  obtain ⟨k1, k2, k3, k4, k5, k6, k7, k8, k9, k10, k11⟩ := hf
  have v1 := vi_len k1.1 k1.2
  have v2 := vi_len k2.1 k2.2
  have v3 := vi_len k3.1 k3.2
  have v4 := vi_len k4.1 k4.2
  have v5 := vi_len k5.1 k5.2
  have v6 := vi_len k6.1 k6.2
  have v7 := vi_len k7.1 k7.2
  have v8 := vi_len k8.1 k8.2
  have v9 := varint_len10 (n := c.2.2.1.toNat) (by have := c.2.2.1.toNat_lt; omega)
  have w1 := varint_len10 (n := c.2.2.2.2.1.length) (by omega)
  have w2 := varint_len10 (n := c.2.2.2.2.2.2.1.length) (by omega)
  have w3 := varint_len10 (n := c.2.2.2.2.2.2.2.2.2.length) (by omega)
  unfold callB blobB
  simp only [List.length_append]
  omega
def putCall (T : List Nat) (c : Go.P21.CallT) : Nat × List UInt8 := if rightCall c = true then (0, sealed (P1.sum T) (3 :: callB c)) else (179, [])
theorem putCall_is {T : List Nat} (hT : Tab T) (c : Go.P21.CallT) : call_PutCall fuel (tabI T) c = some (((putCall T c).1 : Int), (putCall T c).2) := by
  unfold putCall
  cases hr : rightCall c with
  | false =>
    obtain ⟨c1, c2, c3, ⟨h1, h2⟩, nm, ⟨t1, t2⟩, nw, off, n, bs⟩ := c
    unfold call_PutCall
    rw [byteU]
    simp only [Option.bind_some]
    rw [rightCall_is, hr]
    rfl
  | true =>
    have hR := right_of hr
    have hlen := callB_len hR
    have hf := hR.fits
    obtain ⟨c1, c2, c3, ⟨h1, h2⟩, nm, ⟨t1, t2⟩, nw, off, n, bs⟩ := c
    obtain ⟨k1, k2, k3, k4, k5, k6, k7, k8, k9, k10, k11⟩ := hf
    simp only at k1 k2 k3 k4 k5 k6 k7 k8 k9 k10 k11
    have k0 := c3.toNat_lt
    rw [if_pos rfl]
    unfold call_PutCall
    rw [byteU]
    simp only [Option.bind_some]
    rw [rightCall_is, hr]
    simp only [Option.bind_some, Bool.not_true, cond_false]
    rw [w64 (x := ((c3.toNat : Nat) : Int)) ⟨by omega, by omega⟩]
    rw [uints_is (by simp) (by
      intro x hx
      simp only [List.mem_cons, List.mem_nil_iff, or_false] at hx
      rcases hx with rfl | rfl | rfl | rfl | rfl | rfl | rfl | rfl | rfl <;> omega) (by simp)]
    simp only [Option.bind_some]
    rw [need_true (ble_true (by rw [roomIs]; omega)), need_true (ble_true (by rw [roomIs]; omega))]
    generalize hN : [UInt8.ofNat 3] ++ nums [c1, c2, ((c3.toNat : Nat) : Int), h1, h2, t1, t2, off, n] = H
    have hH : H.length ≤ 100 := by
      rw [← hN]
      have := nums_len (r := [c1, c2, ((c3.toNat : Nat) : Int), h1, h2, t1, t2, off, n]) (by
        intro x hx
        simp only [List.mem_cons, List.mem_nil_iff, or_false] at hx
        rcases hx with rfl | rfl | rfl | rfl | rfl | rfl | rfl | rfl | rfl <;> omega)
      unfold nums
      simp only [List.length_append, List.length_cons, List.length_nil] at this ⊢
      omega
    have hl : call_PutCall_l0_it fuel (c1, (c2, (c3, ((h1, h2), (nm, ((t1, t2), (nw, (off, (n, bs))))))))) (0, H) = some (H ++ [nm, nw, bs].flatMap blobB) := by
      unfold call_PutCall_l0_it
      refine fold_loop blobB [nm, nw, bs] H (by simp) (f := fun tt => call_PutCall_l0 fuel (c1, (c2, (c3, ((h1, h2), (nm, ((t1, t2), (nw, (off, (n, bs))))))))) tt.1 tt.2) (fun k hk m hm => ?_) (fun m => rfl)
      show call_PutCall_l0 fuel _ (k : Int) m = _
      have hk3 : k < 3 := hk
      have hml : m.length ≤ 20000 := by
        rw [hm, List.length_append]
        have w1 := varint_len10 (n := nm.length) (by omega)
        have w2 := varint_len10 (n := nw.length) (by omega)
        have w3 := varint_len10 (n := bs.length) (by omega)
        have : (([nm, nw, bs].take k).flatMap blobB).length ≤ ([nm, nw, bs].flatMap blobB).length := by
          have h2 : [nm, nw, bs] = [nm, nw, bs].take k ++ [nm, nw, bs].drop k := (List.take_append_drop k _).symm
          have h3 : ([nm, nw, bs].flatMap blobB).length = (([nm, nw, bs].take k ++ [nm, nw, bs].drop k).flatMap blobB).length := by rw [← h2]
          rw [h3, List.flatMap_append, List.length_append]
          omega
        unfold blobB at this
        simp only [List.flatMap_cons, List.flatMap_nil, List.length_append, List.append_nil, List.length_nil] at this
        unfold blobB
        omega
      have hb : ([nm, nw, bs][k]).length ≤ 4096 := by
        have : k = 0 ∨ k = 1 ∨ k = 2 := by omega
        rcases this with rfl | rfl | rfl
        · show nm.length ≤ _; omega
        · show nw.length ≤ _; omega
        · show bs.length ≤ _; omega
      unfold call_PutCall_l0
      rw [decide_eq_true (by omega), idx_nat hk3]
      simp only [cond_true, Option.bind_some, List.getElem?_eq_getElem hk]
      rw [blob_v1_is (by omega)]
      simp only [Option.bind_some]
      rw [w64 ⟨by omega, by omega⟩, List.append_assoc]
      rfl
    rw [hl]
    simp only [Option.bind_some]
    have hbody : H ++ [nm, nw, bs].flatMap blobB = 3 :: callB (c1, (c2, (c3, ((h1, h2), (nm, ((t1, t2), (nw, (off, (n, bs))))))))) := by
      rw [← hN]
      unfold nums callB
      simp only [List.flatMap_cons, List.flatMap_nil, List.append_nil, List.append_assoc, List.cons_append, List.nil_append]
      rfl
    rw [hbody, seal_is hT (by simp only [List.length_cons]; omega)]
    rfl
end Go.Ab.D

/- Layer 21, call: requests got. -/
set_option maxRecDepth 100000
namespace Go.Ab.D
open Go Go.Ab Go.P1 Go.P21
attribute [local irreducible] Go.P1.crcT tabI
/-- A reader stands at p, with that left. -/
def At (l : List UInt8) (p : Int) (s : Option (List UInt8)) : Prop := (0 ≤ p ∧ p ≤ l.length) ∧ ∀ r, s = some r → l.drop p.toNat = r
theorem number_is {l : List UInt8} (hb : l.length < 4611686018427387904) {p : Int} {s : Option (List UInt8)} (h : At l p s) :
    ∃ p', call_reader_number fuel l p s.isNone = some (((pN s).1 : Int), (l, (p', (pN s).2.isNone))) ∧ At l p' (pN s).2 := by
  obtain ⟨h0, hr⟩ := h
  cases s with
  | none => exact ⟨p, rfl, h0, fun r hr => by cases hr⟩
  | some r =>
    obtain ⟨k, rfl⟩ : ∃ k : Nat, p = k := ⟨p.toNat, by omega⟩
    have hk : k ≤ l.length := by omega
    have hd : l.drop k = r := hr r rfl
    rw [pN_some]
    unfold call_reader_number
    rw [getUint_is hb]
    simp only [Option.isNone_some, cond_false, Option.bind_some]
    cases hp : pNum M62 r with
    | some x =>
      obtain ⟨n, r'⟩ := x
      rw [← hd] at hp
      obtain ⟨g1, g2, g3, g4, g5⟩ := getUint_some hk hp
      unfold M62 at g2
      refine ⟨((l.length - r'.length : Nat) : Int), ?_, ⟨by omega, by omega⟩, fun q hq => ?_⟩
      · rw [g1]
        have : decide ((n : Int) > 4611686018427387904) = false := decide_eq_false (by omega)
        simp only [this]
        rw [w64 ⟨by omega, by omega⟩]
        rfl
      · cases hq
        exact g4
    | none =>
      rw [← hd] at hp
      have g := getUint_none hk hp
      unfold M62 at g
      refine ⟨(k : Int), ?_, h0, fun q hq => by cases hq⟩
      by_cases he : (getUint l k).2.2 = 0
      · rw [he]
        have : decide (((getUint l k).1 : Int) > 4611686018427387904) = true := decide_eq_true (by rcases g with g | g <;> omega)
        simp only [this]
        rfl
      · rw [beq_eq_false_iff_ne.2 (show (((getUint l k).2.2 : Nat) : Int) ≠ 0 by omega)]
        rfl
theorem blob_is {l : List UInt8} (hb : l.length ≤ 140737488355328) {most : Nat} (hm : most ≤ 1000000) {p : Int} {s : Option (List UInt8)} (h : At l p s) :
    ∃ p', call_reader_blob fuel (most : Int) l p s.isNone = some (l, (p', ((pB most s).2.isNone, (pB most s).1))) ∧ At l p' (pB most s).2 := by
  obtain ⟨h0, hr⟩ := h
  cases s with
  | none => exact ⟨p, rfl, h0, fun r hr => by cases hr⟩
  | some r =>
    obtain ⟨k, rfl⟩ : ∃ k : Nat, p = k := ⟨p.toNat, by omega⟩
    have hk : k ≤ l.length := by omega
    have hd : l.drop k = r := hr r rfl
    rw [pB_some]
    unfold call_reader_blob
    rw [getBlob_is hb (by omega)]
    simp only [Option.isNone_some, cond_false, Option.bind_some]
    cases hp : pBlob most r with
    | some x =>
      obtain ⟨b, r'⟩ := x
      rw [← hd] at hp
      obtain ⟨g1, g2, g3, g4⟩ := getBlob_some hk hp
      refine ⟨((l.length - r'.length : Nat) : Int), ?_, ⟨by omega, by omega⟩, fun q hq => ?_⟩
      · rw [g1]; rfl
      · cases hq
        exact g2
    | none =>
      rw [← hd] at hp
      obtain ⟨g1, g2, g3⟩ := getBlob_none hk hp
      refine ⟨(k : Int), ?_, h0, fun q hq => by cases hq⟩
      rw [beq_eq_false_iff_ne.2 (show (((getBlob l k most).2.2 : Nat) : Int) ≠ 0 by omega)]
      rfl
/-- What a request's bytes, behind the first one, say. -/
def callOf (r : List UInt8) : Option Go.P21.CallT :=
  if (rdCall (some r)).2.2 = some [] ∧ (rdCall (some r)).1.2.2.1 ≤ 255 ∧ rightCall (ofRd (rdCall (some r))) = true then some (ofRd (rdCall (some r))) else none
theorem callOf_iff {r : List UInt8} {c : Go.P21.CallT} : callOf r = some c ↔ rightCall c = true ∧ r = callB c := by
  unfold callOf
  constructor
  · intro h
    split at h
    · rename_i hc
      obtain ⟨h1, h2, h3⟩ := hc
      cases h
      obtain ⟨g1, g2⟩ := rd_inv h1 h2
      rw [List.append_nil] at g1
      exact ⟨h3, Option.some.inj g1⟩
    · cases h
  · rintro ⟨h1, rfl⟩
    have hR := right_of h1
    obtain ⟨g1, g2, g3⟩ := rd_at hR.fits []
    rw [List.append_nil] at g1 g2 g3
    have := c.2.2.1.toNat_lt
    rw [if_pos ⟨g1, by omega, by rw [g3]; exact h1⟩, g3]
theorem callB_pre {c c' : Go.P21.CallT} {r r' : List UInt8} (h : rightCall c = true) (h' : rightCall c' = true) (e : callB c ++ r = callB c' ++ r') : c = c' ∧ r = r' := by
  obtain ⟨g1, g2, g3⟩ := rd_at (right_of h).fits r
  obtain ⟨k1, k2, k3⟩ := rd_at (right_of h').fits r'
  rw [e] at g1 g3
  rw [k1] at g1
  rw [k3] at g3
  exact ⟨g3.symm, (Option.some.inj g1).symm⟩
abbrev zC : Go.P21.CallT := (0, (0, (0, ((0, 0), ([], ((0, 0), ([], (0, (0, [])))))))))
def bodyC (l : List UInt8) : Option Go.P21.CallT := match l with | [] => none | k :: r => if k = 3 then callOf r else none
def getCall (T : List Nat) (b : List UInt8) : Go.P21.CallT × Nat :=
  if (unsealed (P1.sum T) b).2 = 0 then (match bodyC (unsealed (P1.sum T) b).1 with | some c => (c, 0) | none => (zC, 179)) else (zC, (unsealed (P1.sum T) b).2)
abbrev OutC : Type := Int × (Int × (Int × (Int × (Int × (List UInt8 × (Int × (Int × (List UInt8 × (Int × (Int × (List UInt8 × Int)))))))))))
def outC (x : Go.P21.CallT × Nat) : OutC :=
  (x.1.1, (x.1.2.1, (((x.1.2.2.1.toNat : Nat) : Int), (x.1.2.2.2.1.1, (x.1.2.2.2.1.2, (x.1.2.2.2.2.1, (x.1.2.2.2.2.2.1.1, (x.1.2.2.2.2.2.1.2, (x.1.2.2.2.2.2.2.1, (x.1.2.2.2.2.2.2.2.1, (x.1.2.2.2.2.2.2.2.2.1, (x.1.2.2.2.2.2.2.2.2.2, (x.2 : Int)))))))))))))
theorem unsealed_len (S : List UInt8 → Nat) (b : List UInt8) : (unsealed S b).1.length ≤ b.length := by
  unfold unsealed
  split
  · exact Nat.zero_le _
  · split <;> simp <;> omega
theorem begin_is {T : List Nat} (hT : Tab T) {b : List UInt8} (hb : b.length ≤ 140737488355328) (K : UInt8) {Ki : Int} (hK : Ki = ((K.toNat : Nat) : Int)) :
    call_begin fuel (tabI T) b Ki = some (if (unsealed (P1.sum T) b).2 = 0 then (match (unsealed (P1.sum T) b).1 with | [] => .inl 179 | k :: r => if k = K then .inr (0, (k :: r, (1, false))) else .inl 179) else .inl ((unsealed (P1.sum T) b).2 : Int)) := by
  subst hK
  unfold call_begin
  rw [unseal_is hT hb]
  simp only [Option.bind_some]
  by_cases h0 : (unsealed (P1.sum T) b).2 = 0
  · rw [if_pos h0, h0]
    cases hl : (unsealed (P1.sum T) b).1 with
    | nil => rfl
    | cons k r =>
      have : ((((k :: r).length : Nat) : Int) == 0) = false := beq_eq_false_iff_ne.2 (by simp only [List.length_cons]; omega)
      simp only [this, show (!(((0 : Nat) : Int) == 0)) = false from rfl, cond_false]
      rw [show idx? 0 (k :: r).length = some 0 from idx_nat (i := 0) (by simp)]
      simp only [Option.bind_some, List.getElem?_cons_zero]
      by_cases hk : k = K
      · subst hk
        rw [beq_iff_eq.2 rfl, if_pos rfl]
        rfl
      · have : (((k.toNat : Nat) : Int) == ((K.toNat : Nat) : Int)) = false := beq_eq_false_iff_ne.2 (fun h => hk (UInt8.toNat_inj.1 (by omega)))
        rw [this, if_neg hk]
        rfl
  · rw [if_neg h0]
    have : ((((unsealed (P1.sum T) b).2 : Nat) : Int) == 0) = false := beq_eq_false_iff_ne.2 (by omega)
    rw [this]
    rfl
theorem numbers_is {l r : List UInt8} (hb : l.length < 4611686018427387904) (h : At l 1 (some r)) : ∃ p', ∃ a9 : Option (List UInt8), a9 = (pN (pN (pN (pN (pN (pN (pN (pN (pN (some r)).2).2).2).2).2).2).2).2).2 ∧ At l p' a9 ∧
    call_reader_numbers_o1_cn fuel l 1 false 0 0 0 0 0 [] 0 0 [] 0 0 0 = some (l, (p', (a9.isNone, (((rdCall (some r)).1.1 : Int), (((rdCall (some r)).1.2.1 : Int), (0, (((rdCall (some r)).1.2.2.2.1 : Int), (((rdCall (some r)).1.2.2.2.2.1 : Int), ([], (((rdCall (some r)).1.2.2.2.2.2.1 : Int), (((rdCall (some r)).1.2.2.2.2.2.2.1 : Int), ([], (((rdCall (some r)).1.2.2.2.2.2.2.2.1 : Int), (((rdCall (some r)).1.2.2.2.2.2.2.2.2 : Int), ((rdCall (some r)).1.2.2.1 : Int))))))))))))))) := by
  unfold call_reader_numbers_o1_cn
  obtain ⟨p1, e1, s1⟩ := number_is hb h
  obtain ⟨p2, e2, s2⟩ := number_is hb s1
  obtain ⟨p3, e3, s3⟩ := number_is hb s2
  obtain ⟨p4, e4, s4⟩ := number_is hb s3
  obtain ⟨p5, e5, s5⟩ := number_is hb s4
  obtain ⟨p6, e6, s6⟩ := number_is hb s5
  obtain ⟨p7, e7, s7⟩ := number_is hb s6
  obtain ⟨p8, e8, s8⟩ := number_is hb s7
  obtain ⟨p9, e9, s9⟩ := number_is hb s8
  have e1' : call_reader_number fuel l 1 false = _ := e1
  refine ⟨p9, _, rfl, s9, ?_⟩
  rw [e1']
  simp only [Option.bind_some]
  rw [e2]
  simp only [Option.bind_some]
  rw [e3]
  simp only [Option.bind_some]
  rw [e4]
  simp only [Option.bind_some]
  rw [e5]
  simp only [Option.bind_some]
  rw [e6]
  simp only [Option.bind_some]
  rw [e7]
  simp only [Option.bind_some]
  rw [e8]
  simp only [Option.bind_some]
  rw [e9]
  rfl
theorem wrapU8 {n : Nat} : IntKind.wrap .u8 (n : Int) = (((UInt8.ofNat n).toNat : Nat) : Int) := by
  rw [wu8_mod, UInt8.toNat_ofNat']
  omega
theorem getCall_is {T : List Nat} (hT : Tab T) {b : List UInt8} (hb : b.length ≤ 140737488355328) : call_GetCall fuel (tabI T) b = some (outC (getCall T b)) := by
  have hul := unsealed_len (P1.sum T) b
  unfold call_GetCall getCall
  rw [begin_is hT hb 3 (Ki := 3) rfl]
  simp only [Option.bind_some]
  by_cases h0 : (unsealed (P1.sum T) b).2 = 0
  · rw [if_pos h0, if_pos h0]
    generalize (unsealed (P1.sum T) b).1 = l at hul ⊢
    cases l with
    | nil => rfl
    | cons k r =>
      show _ = some (outC (match (if k = 3 then callOf r else none) with | some c => (c, 0) | none => (zC, 179)))
      by_cases hk : k = 3
      · subst hk
        simp only [if_true, show (!((0 : Int) == 0)) = false from rfl, cond_false]
        have hAt : At (3 :: r) 1 (some r) := ⟨⟨by omega, by simp only [List.length_cons]; omega⟩, fun q hq => by cases hq; rfl⟩
        have hl1 : (3 :: r : List UInt8).length ≤ 140737488355328 := by omega
        obtain ⟨p9, a9, ha9, s9, e9⟩ := numbers_is (by omega) hAt
        rw [e9]
        simp only [Option.bind_some]
        obtain ⟨q1, f1, t1⟩ := blob_is hl1 (most := 100) (by omega) s9
        obtain ⟨q2, f2, t2⟩ := blob_is hl1 (most := 100) (by omega) t1
        obtain ⟨q3, f3, t3⟩ := blob_is hl1 (most := 4096) (by omega) t2
        have f1' : call_reader_blob fuel 100 (3 :: r) p9 a9.isNone = _ := f1
        have f2' : call_reader_blob fuel 100 (3 :: r) q1 (pB 100 a9).2.isNone = _ := f2
        have f3' : call_reader_blob fuel 4096 (3 :: r) q2 (pB 100 (pB 100 a9).2).2.isNone = _ := f3
        rw [f1']
        simp only [Option.bind_some]
        rw [f2']
        simp only [Option.bind_some]
        rw [f3']
        simp only [Option.bind_some]
        have hB1 : (pB 100 a9).1 = (rdCall (some r)).2.1.1 := by rw [ha9]; rfl
        have hB2 : (pB 100 (pB 100 a9).2).1 = (rdCall (some r)).2.1.2.1 := by rw [ha9]; rfl
        have hB3 : (pB 4096 (pB 100 (pB 100 a9).2).2).1 = (rdCall (some r)).2.1.2.2 := by rw [ha9]; rfl
        have hL : (pB 4096 (pB 100 (pB 100 a9).2).2).2 = (rdCall (some r)).2.2 := by rw [ha9]; rfl
        rw [hL] at t3
        rw [hB1, hB2, hB3, hL]
        unfold callOf
        generalize rdCall (some r) = R at *
        cases hR : R.2.2 with
        | none =>
          rw [if_neg (by simp)]
          rfl
        | some w =>
          rw [hR] at t3
          have hd := t3.2 w rfl
          by_cases hop : R.1.2.2.1 ≤ 255
          · have h5 : decide (((R.1.2.2.1 : Nat) : Int) > 255) = false := decide_eq_false (by omega)
            simp only [Option.isNone_some, cond_false, h5]
            have hq : (q3 == (((3 :: r : List UInt8).length : Nat) : Int)) = decide (w = []) := by
              have hlen : w.length = (3 :: r : List UInt8).length - q3.toNat := by rw [← hd, List.length_drop]
              have := t3.1
              by_cases hw : w = []
              · rw [decide_eq_true hw, beq_iff_eq]
                have : w.length = 0 := by rw [hw]; rfl
                omega
              · rw [decide_eq_false hw, beq_eq_false_iff_ne]
                intro hc
                apply hw
                apply List.eq_nil_of_length_eq_zero
                omega
            rw [hq]
            by_cases hw : w = []
            · subst hw
              have hby : byte? (IntKind.wrap .u8 ((R.1.2.2.1 : Nat) : Int)) = some (UInt8.ofNat R.1.2.2.1) := by rw [wrapU8]; exact byteU _
              rw [decide_eq_true rfl]
              simp only [Bool.not_true, cond_false, hby, Option.bind_some]
              rw [rightCall_is]
              have hc : ((R.1.1 : Int), ((R.1.2.1 : Int), (UInt8.ofNat R.1.2.2.1, (((R.1.2.2.2.1 : Int), (R.1.2.2.2.2.1 : Int)), (R.2.1.1, (((R.1.2.2.2.2.2.1 : Int), (R.1.2.2.2.2.2.2.1 : Int)), (R.2.1.2.1, ((R.1.2.2.2.2.2.2.2.1 : Int), ((R.1.2.2.2.2.2.2.2.2 : Int), R.2.1.2.2))))))))) = ofRd R := rfl
              rw [hc]
              cases hr : rightCall (ofRd R) with
              | false =>
                rw [if_neg (by simp)]
                rfl
              | true =>
                rw [if_pos ⟨by first | rfl | trivial, hop, rfl⟩, wrapU8]
                rfl
            · rw [decide_eq_false hw, if_neg (by simp [hw])]
              rfl
          · have h5 : decide (((R.1.2.2.1 : Nat) : Int) > 255) = true := decide_eq_true (by omega)
            simp only [Option.isNone_some, cond_false, h5]
            rw [if_neg (by omega)]
            rfl
      · simp only [if_neg hk]
        rfl
  · rw [if_neg h0, if_neg h0]
    have : ((((unsealed (P1.sum T) b).2 : Nat) : Int) == 0) = false := beq_eq_false_iff_ne.2 (by omega)
    simp only [this]
    rfl
end Go.Ab.D

/- Layer 21, CallCuts. -/
set_option maxRecDepth 100000
namespace Go.Ab.D
open Go Go.Ab Go.P1 Go.P21
attribute [local irreducible] Go.P1.crcT tabI
theorem crc_len : (tabI crcT).length = 256 := by rw [tabI_len]; exact crcT_tab.1
theorem beq256 {l : List Int} (h : l.length = 256) : Nat.beq l.length 256 = true := by rw [h]; rfl
theorem get_sealed (T : List Nat) (l : List UInt8) : getCall T (sealed (P1.sum T) l) = match bodyC l with | some c => (c, 0) | none => (zC, 179) := by
  unfold getCall
  rw [unsealed_sealed]
  rfl
theorem cut_none {c : Go.P21.CallT} (h : rightCall c = true) : bodyC ((3 :: callB c).take (callB c).length) = none := by
  cases hl : (callB c) with
  | nil => rfl
  | cons a L =>
    show (if (3 : UInt8) = 3 then callOf ((a :: L).take L.length) else none) = none
    rw [if_pos rfl]
    cases hc : callOf ((a :: L).take L.length) with
    | none => rfl
    | some c' =>
      exfalso
      obtain ⟨g1, g2⟩ := callOf_iff.1 hc
      have hne : (a :: L) ≠ [] := by simp
      have e : callB c ++ [] = callB c' ++ [(a :: L).getLast hne] := by
        rw [List.append_nil, ← g2, hl]
        have : (a :: L).take L.length = (a :: L).dropLast := by rw [List.dropLast_eq_take]; rfl
        rw [this, List.dropLast_concat_getLast]
      have := (callB_pre h g1 e).2
      simp at this
theorem more_none {c : Go.P21.CallT} (h : rightCall c = true) (x : UInt8) : bodyC (3 :: callB c ++ [x]) = none := by
  show (if (3 : UInt8) = 3 then callOf (callB c ++ [x]) else none) = none
  rw [if_pos rfl]
  cases hc : callOf (callB c ++ [x]) with
  | none => rfl
  | some c' =>
    exfalso
    obtain ⟨g1, g2⟩ := callOf_iff.1 hc
    have := (callB_pre (r := [x]) (r' := []) h g1 (by rw [List.append_nil]; exact g2)).2
    simp at this
theorem law21_CallCuts_true (c : Int × (Int × (UInt8 × ((Int × Int) × (List UInt8 × ((Int × Int) × (List UInt8 × (Int × (Int × List UInt8))))))))) (more : Int) (_k0 : OkV (.pair (.int .i64) (.pair (.int .i64) (.pair .byte (.pair (.pair (.int .i64) (.int .i64)) (.pair .str (.pair (.pair (.int .i64) (.int .i64)) (.pair .str (.pair (.int .i64) (.pair (.int .i64) (.sl .byte)))))))))) c) (_k1 : OkV (.int .u8) more) : law21_CallCuts fuel c more = some true := by
  have hw : 0 ≤ more ∧ more ≤ 255 := _k1
  obtain ⟨w, rfl⟩ : ∃ w : Nat, more = w := ⟨more.toNat, by omega⟩
  clear _k0 _k1
  obtain ⟨c1, c2, c3, ⟨h1, h2⟩, nm, ⟨t1, t2⟩, nw, off, n, bs⟩ := c
  unfold law21_CallCuts
  simp only
  rw [byteU]
  simp only [Option.bind_some]
  rcases huge_some (c1, (c2, (c3, ((h1, h2), (nm, ((t1, t2), (nw, (off, (n, bs))))))))) with hh | hh
  · rw [hh]
    simp only [Option.bind_some, cond_true]
    rw [awake21]
    rfl
  rw [hh]
  simp only [Option.bind_some, cond_false]
  rw [rightCall_is]
  simp only [Option.bind_some]
  cases hr : rightCall (c1, (c2, (c3, ((h1, h2), (nm, ((t1, t2), (nw, (off, (n, bs))))))))) with
  | false =>
    simp only [Bool.not_false, cond_true]
    rw [awake21]
    rfl
  | true =>
    simp only [Bool.not_true, cond_false]
    have hlen := callB_len (right_of hr)
    rw [table_is]
    simp only [Option.bind_some]
    rw [need_true (b := Nat.beq (List.replicate (α := Int) 256 0).length 256) (by rw [List.length_replicate]; rfl), need_true (beq256 crc_len)]
    rw [byteU]
    simp only [Option.bind_some]
    rw [putCall_is crcT_tab]
    unfold putCall
    rw [if_pos hr]
    simp only [Option.bind_some]
    have hcut := cut_none hr
    have hmore := more_none hr (UInt8.ofNat w)
    generalize callB (c1, (c2, (c3, ((h1, h2), (nm, ((t1, t2), (nw, (off, (n, bs))))))))) = L at hlen hcut hmore ⊢
    have hsl : (sealed (P1.sum crcT) (3 :: L)).length = L.length + 5 := by unfold sealed; simp [be4_len]
    rw [unseal_is crcT_tab (by omega), unsealed_sealed]
    simp only [Option.bind_some, show (!(((0 : Nat) : Int) == 0)) = false from rfl, cond_false]
    rw [show ((((3 :: L : List UInt8).length : Nat) : Int) == 0) = false from beq_eq_false_iff_ne.2 (by simp only [List.length_cons]; omega)]
    simp only [cond_false]
    have hll : (3 :: L : List UInt8).length = L.length + 1 := rfl
    rw [w64 (x := (((3 :: L : List UInt8).length : Nat) : Int) - 1) ⟨by omega, by omega⟩, upto_int (by omega) (by omega), show ((((3 :: L : List UInt8).length : Nat) : Int) - 1).toNat = L.length by omega]
    simp only [Option.bind_some]
    rw [seal_is crcT_tab (by rw [List.length_take]; omega)]
    simp only [Option.bind_some]
    have hs2 : (sealed (P1.sum crcT) ((3 :: L : List UInt8).take L.length)).length ≤ 140737488355328 := by unfold sealed; rw [List.length_append, List.length_take, be4_len]; omega
    rw [getCall_is crcT_tab hs2, get_sealed, hcut]
    simp only [Option.bind_some]
    rw [copy_is (by rw [roomIs]; omega)]
    simp only [Option.bind_some]
    rw [byte_nat (show w < 256 by omega)]
    simp only [Option.bind_some]
    rw [need_true (by rw [Bool.and_eq_true]; exact ⟨ble_true (by rw [roomIs]; omega), ble_true (by rw [roomIs]; omega)⟩)]
    have hml : (3 :: L ++ [UInt8.ofNat w] : List UInt8).length = L.length + 2 := by simp
    rw [seal_is crcT_tab (by omega)]
    simp only [Option.bind_some]
    have hs3 : (sealed (P1.sum crcT) (3 :: L ++ [UInt8.ofNat w])).length ≤ 140737488355328 := by unfold sealed; rw [List.length_append, be4_len]; omega
    rw [getCall_is crcT_tab hs3, get_sealed, hmore]
    show ((law21_awake fuel).bind fun r11 => some r11) = _
    rw [awake21]
    rfl
end Go.Ab.D

/- Layer 21, call: answers. -/
set_option maxRecDepth 100000
namespace Go.Ab.D
open Go Go.Ab Go.P1 Go.P21
attribute [local irreducible] Go.P1.crcT tabI
def entOk (e : EntT) : Bool := decide (1 ≤ e.1.length ∧ e.1.length ≤ 100 ∧ 1 ≤ e.2 ∧ e.2 ≤ 500)
def noneB (h : Int × Int) : Bool := (h.1 == 0) && (h.2 == 0)
def rightReply (r : ReplyT) : Bool :=
  whoseB r.1 r.2.1 && (decide (0 ≤ r.2.2.1 ∧ r.2.2.1 ≤ 1000) && (if r.2.2.1 ≠ 0 then
    noneB r.2.2.2.1 && (!r.2.2.2.2.1 && (!r.2.2.2.2.2.2.2.2.1 && ((r.2.2.2.2.2.1 == 0) && ((r.2.2.2.2.2.2.2.2.2 == 0) && decide (r.2.2.2.2.2.2.1 = [] ∧ r.2.2.2.2.2.2.2.1 = [])))))
  else (noneB r.2.2.2.1 || handleB r.2.2.2.1) && (decide (0 ≤ r.2.2.2.2.2.1 ∧ r.2.2.2.2.2.1 ≤ 65536) && (decide (0 ≤ r.2.2.2.2.2.2.2.2.2 ∧ r.2.2.2.2.2.2.2.2.2 ≤ 1099511627776) &&
    (r.2.2.2.2.2.2.2.1.all entOk && (decide (r.2.2.2.2.2.2.1.length ≤ 4096) && decide (r.2.2.2.2.2.2.2.1.length ≤ 100)))))))
theorem entl_is {b0 : Bool} {x1 x2 x3 h1 h2 : Int} {d : Bool} {sz : Int} {bs : List UInt8} {es : List EntT} {mo : Bool} {fr : Int} (hes : es.length < 4611686018427387904) :
    call_RightReply_l0_it fuel (b0, (x1, (x2, (x3, (h1, (h2, (d, (sz, (bs, (es, (mo, fr))))))))))) (0, (x1, (x2, (x3, (h1, (h2, (d, (sz, (bs, (es, (mo, fr))))))))))) = some (if es.all entOk = true then .inl (x1, (x2, (x3, (h1, (h2, (d, (sz, (bs, (es, (mo, fr)))))))))) else .inr false) := by
  unfold call_RightReply_l0_it
  have := iter_ex (f := fun tt : Int × (Int × (Int × (Int × (Int × (Int × (Bool × (Int × (List UInt8 × (List EntT × (Bool × Int)))))))))) => call_RightReply_l0 fuel (b0, (x1, (x2, (x3, (h1, (h2, (d, (sz, (bs, (es, (mo, fr))))))))))) tt.1 tt.2.1 tt.2.2.1 tt.2.2.2.1 tt.2.2.2.2.1 tt.2.2.2.2.2.1 tt.2.2.2.2.2.2.1 tt.2.2.2.2.2.2.2.1 tt.2.2.2.2.2.2.2.2.1 tt.2.2.2.2.2.2.2.2.2.1 tt.2.2.2.2.2.2.2.2.2.2.1 tt.2.2.2.2.2.2.2.2.2.2.2)
    (fun n s => ∃ k : Nat, s = ((k : Int), (x1, (x2, (x3, (h1, (h2, (d, (sz, (bs, (es, (mo, fr))))))))))) ∧ k + n = es.length ∧ (es.take k).all entOk = true)
    (fun o => o = if es.all entOk = true then .inl (x1, (x2, (x3, (h1, (h2, (d, (sz, (bs, (es, (mo, fr)))))))))) else .inr false)
    (fun n s ⟨k, hs, hk, ha⟩ => by
      subst hs
      have hk' : k < es.length := by omega
      show (∃ s', call_RightReply_l0 fuel _ (k : Int) x1 x2 x3 h1 h2 d sz bs es mo fr = _ ∧ _) ∨ ∃ o, call_RightReply_l0 fuel _ (k : Int) x1 x2 x3 h1 h2 d sz bs es mo fr = _ ∧ _
      unfold call_RightReply_l0
      simp only
      rw [decide_eq_true (show (k : Int) < ((es.length : Nat) : Int) by omega), idx_nat hk', w64 (x := (k : Int) + 1) ⟨by omega, by omega⟩]
      simp only [cond_true, Option.bind_some, List.getElem?_eq_getElem hk']
      have htk : (es.take (k + 1)).all entOk = ((es.take k).all entOk && entOk es[k]) := by rw [List.take_succ_eq_append_getElem hk', List.all_append]; simp
      have hbad : entOk es[k] = false → es.all entOk = false := fun h => by
        rw [List.all_eq_false]
        exact ⟨es[k], List.getElem_mem hk', by rw [h]; simp⟩
      generalize es[k] = en at htk hbad ⊢
      obtain ⟨nm, id⟩ := en
      by_cases g : entOk (nm, id) = true
      · left
        have g' := g
        unfold entOk at g'
        simp only [decide_eq_true_eq] at g'
        rw [decide_eq_false (show ¬ ((nm.length : Nat) : Int) < 1 by omega), decide_eq_false (show ¬ ((nm.length : Nat) : Int) > 100 by omega), decide_eq_false (show ¬ id < 1 by omega), decide_eq_false (show ¬ id > 500 by omega)]
        exact ⟨_, rfl, k + 1, rfl, by omega, by rw [htk, ha, g]; rfl⟩
      · right
        have g0 : entOk (nm, id) = false := by simpa using g
        rw [hbad g0]
        refine ⟨_, ?_, rfl⟩
        have g' := g0
        unfold entOk at g'
        simp only [decide_eq_false_iff_not] at g'
        by_cases q1 : ((nm.length : Nat) : Int) < 1
        · rw [decide_eq_true q1]; rfl
        · by_cases q2 : ((nm.length : Nat) : Int) > 100
          · rw [decide_eq_false q1, decide_eq_true q2]; rfl
          · by_cases q3 : id < 1
            · rw [decide_eq_false q1, decide_eq_false q2, decide_eq_true q3]; rfl
            · have q4 : id > 500 := by omega
              rw [decide_eq_false q1, decide_eq_false q2, decide_eq_false q3, decide_eq_true q4]; rfl)
    (fun s ⟨k, hs, hk, ha⟩ => by
      subst hs
      have : k = es.length := by omega
      subst this
      rw [List.take_length] at ha
      rw [ha]
      refine ⟨_, ?_, rfl⟩
      show call_RightReply_l0 fuel _ ((es.length : Nat) : Int) x1 x2 x3 h1 h2 d sz bs es mo fr = _
      unfold call_RightReply_l0
      simp only
      rw [decide_eq_false (by omega)]
      rfl)
    es.length (0, (x1, (x2, (x3, (h1, (h2, (d, (sz, (bs, (es, (mo, fr))))))))))) hes ⟨0, rfl, by omega, by simp⟩
  obtain ⟨o, e1, e2⟩ := this
  rw [e1, e2]
theorem rightReply_is {r : ReplyT} (hb : r.2.2.2.2.2.2.1.length < 1000000000000000000) (he : r.2.2.2.2.2.2.2.1.length < 1000000000000000000) : call_RightReply fuel r = some (rightReply r) := by
  obtain ⟨x1, x2, x3, ⟨h1, h2⟩, d, sz, bs, es, mo, fr⟩ := r
  simp only at hb he
  unfold call_RightReply rightReply
  simp only
  rw [whose_is]
  simp only [Option.bind_some]
  cases whoseB x1 x2 with
  | false => rfl
  | true =>
    simp only [Bool.not_true, cond_false, Bool.true_and]
    by_cases e1 : x3 < 0
    · rw [decide_eq_true e1, decide_eq_false (show ¬ (0 ≤ x3 ∧ x3 ≤ 1000) by omega)]; rfl
    by_cases e2 : x3 > 1000
    · rw [decide_eq_false e1, decide_eq_true e2, decide_eq_false (show ¬ (0 ≤ x3 ∧ x3 ≤ 1000) by omega)]; rfl
    rw [decide_eq_false e1, decide_eq_false e2, decide_eq_true (show 0 ≤ x3 ∧ x3 ≤ 1000 by omega)]
    simp only [cond_false, Option.bind_some, Bool.true_and]
    by_cases e3 : x3 = 0
    · rw [if_neg (by simpa using e3), beq_iff_eq.2 e3]
      simp only [Bool.not_true, cond_false]
      have hn : ((h1 == 0) && (h2 == 0)) = noneB (h1, h2) := rfl
      rw [hn]
      have tail : ∀ b0 : Bool, (bif b0 then some false else (call_RightReply_l0_it fuel (b0, (x1, (x2, (x3, (h1, (h2, (d, (sz, (bs, (es, (mo, fr))))))))))) (0, (x1, (x2, (x3, (h1, (h2, (d, (sz, (bs, (es, (mo, fr)))))))))))).bind fun o4 =>
          match o4 with
          | .inl s =>
            bif (decide (((s.2.2.2.2.2.2.2.1.length : Nat) : Int) ≤ 4096)) then
              some (decide (((s.2.2.2.2.2.2.2.2.1.length : Nat) : Int) ≤ 100))
            else
              some false
          | .inr o5 =>
            some o5) = some (!b0 && (es.all entOk && (decide (bs.length ≤ 4096) && decide (es.length ≤ 100)))) := by
        intro b0
        cases b0 with
        | true => rfl
        | false =>
          simp only [cond_false, Bool.not_false, Bool.true_and]
          rw [entl_is (by omega)]
          simp only [Option.bind_some]
          cases es.all entOk with
          | false => rfl
          | true =>
            simp only [if_true, Bool.true_and]
            by_cases q1 : bs.length ≤ 4096
            · rw [decide_eq_true q1, decide_eq_true (show ((bs.length : Nat) : Int) ≤ 4096 by omega)]
              by_cases q2 : es.length ≤ 100
              · rw [decide_eq_true q2, decide_eq_true (show ((es.length : Nat) : Int) ≤ 100 by omega)]; rfl
              · rw [decide_eq_false q2, decide_eq_false (show ¬ ((es.length : Nat) : Int) ≤ 100 by omega)]; rfl
            · rw [decide_eq_false q1, decide_eq_false (show ¬ ((bs.length : Nat) : Int) ≤ 4096 by omega)]; rfl
      have mid : ∀ z : Bool, (bif decide (sz < 0) then some (true, (x1, (x2, (x3, (h1, (h2, (d, (sz, (bs, (es, (mo, fr))))))))))) else bif decide (sz > 65536) then some (true, (x1, (x2, (x3, (h1, (h2, (d, (sz, (bs, (es, (mo, fr))))))))))) else bif decide (fr < 0) then some (true, (x1, (x2, (x3, (h1, (h2, (d, (sz, (bs, (es, (mo, fr))))))))))) else some (decide (fr > 1099511627776), (x1, (x2, (x3, (h1, (h2, (d, (sz, (bs, (es, (mo, fr)))))))))))) = some (!(decide (0 ≤ sz ∧ sz ≤ 65536) && decide (0 ≤ fr ∧ fr ≤ 1099511627776)), (x1, (x2, (x3, (h1, (h2, (d, (sz, (bs, (es, (mo, fr))))))))))) := by
        intro _
        by_cases q1 : sz < 0
        · rw [decide_eq_true q1, decide_eq_false (show ¬ (0 ≤ sz ∧ sz ≤ 65536) by omega)]; rfl
        by_cases q2 : sz > 65536
        · rw [decide_eq_false q1, decide_eq_true q2, decide_eq_false (show ¬ (0 ≤ sz ∧ sz ≤ 65536) by omega)]; rfl
        rw [decide_eq_false q1, decide_eq_false q2, decide_eq_true (show 0 ≤ sz ∧ sz ≤ 65536 by omega)]
        by_cases q3 : fr < 0
        · rw [decide_eq_true q3, decide_eq_false (show ¬ (0 ≤ fr ∧ fr ≤ 1099511627776) by omega)]; rfl
        by_cases q4 : fr > 1099511627776
        · rw [decide_eq_false q3, decide_eq_true q4, decide_eq_false (show ¬ (0 ≤ fr ∧ fr ≤ 1099511627776) by omega)]; rfl
        rw [decide_eq_false q3, decide_eq_false q4, decide_eq_true (show 0 ≤ fr ∧ fr ≤ 1099511627776 by omega)]; rfl
      cases hnone : noneB (h1, h2) with
      | true =>
        simp only [Bool.not_true, cond_false, Bool.true_or, Bool.true_and]
        rw [mid true]
        simp only [Option.bind_some]
        refine (tail _).trans ?_
        simp only [Bool.not_not, Bool.and_assoc]
      | false =>
        simp only [Bool.not_false, cond_true, Bool.false_or]
        rw [handle_is]
        simp only [Option.bind_some]
        cases handleB (h1, h2) with
        | false => rfl
        | true =>
          simp only [Bool.not_true, cond_false, Bool.true_and]
          rw [mid true]
          simp only [Option.bind_some]
          refine (tail _).trans ?_
          simp only [Bool.not_not, Bool.and_assoc]
    · rw [if_pos e3, beq_eq_false_iff_ne.2 e3]
      simp only [Bool.not_false, cond_true]
      have hn : ((h1 == 0) && (h2 == 0)) = noneB (h1, h2) := rfl
      rw [hn, w64 ⟨by omega, by omega⟩]
      have hl : ((((bs.length : Nat) : Int) + ((es.length : Nat) : Int)) == 0) = decide (bs = [] ∧ es = []) := by
        by_cases q : bs = [] ∧ es = []
        · obtain ⟨rfl, rfl⟩ := q
          rfl
        · rw [decide_eq_false q, beq_eq_false_iff_ne]
          intro hc
          apply q
          exact ⟨List.eq_nil_of_length_eq_zero (by omega), List.eq_nil_of_length_eq_zero (by omega)⟩
      rw [hl]
      cases noneB (h1, h2) <;> cases d <;> cases mo <;> cases (sz == 0) <;> cases (fr == 0) <;> rfl
end Go.Ab.D

/- Layer 21, call: answers put and got. -/
set_option maxRecDepth 100000
namespace Go.Ab.D
open Go Go.Ab Go.P1 Go.P21
attribute [local irreducible] Go.P1.crcT tabI
theorem flag_put (b : Bool) : call_flag fuel b = some ((flagN b : Nat) : Int) := by cases b <;> rfl
theorem entsB_len : ∀ {es : List EntT}, (∀ e ∈ es, EntFits e) → (es.flatMap entB).length ≤ 120 * es.length
  | [], _ => by simp
  | e :: es, h => by
    obtain ⟨h1, h2, h3⟩ := h e (by simp)
    have := entsB_len fun x hx => h x (List.mem_cons_of_mem _ hx)
    have v1 := varint_len10 (n := e.1.length) (by omega)
    have v2 := vi_len h2 h3
    simp only [List.flatMap_cons, List.length_append, List.length_cons]
    unfold entB blobB
    simp only [List.length_append]
    unfold entB blobB at this
    omega
structure RightR (r : ReplyT) : Prop where
  f : fitsR r
  e : ∀ e ∈ r.2.2.2.2.2.2.2.1, EntFits e
theorem noneB_of {h : Int × Int} (k : noneB h = true) : h.1 = 0 ∧ h.2 = 0 := by
  unfold noneB at k
  simpa using k
theorem rightR_of {r : ReplyT} (hr : rightReply r = true) : fitsR r := by
  unfold rightReply at hr
  simp only [Bool.and_eq_true, decide_eq_true_eq] at hr
  obtain ⟨r1, r2, r3⟩ := hr
  unfold whoseB at r1
  simp only [decide_eq_true_eq] at r1
  unfold fitsR
  split at r3
  · simp only [Bool.and_eq_true, decide_eq_true_eq, beq_iff_eq] at r3
    obtain ⟨k1, k2, k3, k4, k5, k6, k7⟩ := r3
    have := noneB_of k1
    rw [k6, k7]
    simp only [List.length_nil, List.not_mem_nil, false_implies, implies_true, and_true]
    omega
  · simp only [Bool.and_eq_true, decide_eq_true_eq, Bool.or_eq_true] at r3
    obtain ⟨k1, k2, k3, k4, k5, k6⟩ := r3
    have hh : (0 ≤ r.2.2.2.1.1 ∧ r.2.2.2.1.1 ≤ 500) ∧ (0 ≤ r.2.2.2.1.2 ∧ r.2.2.2.1.2 ≤ 1099511627776) := by
      rcases k1 with k | k
      · have := noneB_of k; omega
      · unfold handleB at k; simp only [decide_eq_true_eq] at k; omega
    refine ⟨by omega, by omega, by omega, by omega, by omega, by omega, by omega, k5, k6, fun e he => ?_⟩
    have := List.all_eq_true.1 k4 e he
    unfold entOk at this
    simp only [decide_eq_true_eq] at this
    exact ⟨this.2.1, by omega, by omega⟩
def putReply (T : List Nat) (r : ReplyT) : Nat × List UInt8 := if rightReply r = true then (0, sealed (P1.sum T) (4 :: replyB r)) else (179, [])
theorem nums9_len {l : List Int} (h9 : l.length = 9) (hn : ∀ n ∈ l, 0 ≤ n ∧ n ≤ 9223372036854775807) : (nums l).length ≤ 90 := by
  have := nums_len hn
  unfold nums
  omega
theorem replyB_len {r : ReplyT} (h : fitsR r) : (replyB r).length ≤ 17000 := by
  obtain ⟨k1, k2, k3, k4, k5, k6, k7, k8, k9, k10⟩ := h
  have v1 := vi_len k1.1 k1.2
  have v2 := vi_len k2.1 k2.2
  have v3 := vi_len k3.1 k3.2
  have v4 := vi_len k4.1 k4.2
  have v5 := vi_len k5.1 k5.2
  have v6 := vi_len k6.1 k6.2
  have v7 := vi_len k7.1 k7.2
  have w1 := varint_len10 (n := r.2.2.2.2.2.2.1.length) (by omega)
  have w2 := varint_len10 (n := r.2.2.2.2.2.2.2.1.length) (by omega)
  have w3 := varint_len10 (n := flagN r.2.2.2.2.1) (by cases r.2.2.2.2.1 <;> (unfold flagN; simp))
  have w4 := varint_len10 (n := flagN r.2.2.2.2.2.2.2.2.1) (by cases r.2.2.2.2.2.2.2.2.1 <;> (unfold flagN; simp))
  have e := entsB_len k10
  unfold replyB blobB
  simp only [List.length_append]
  omega
theorem putReply_is {T : List Nat} (hT : Tab T) {r : ReplyT} (hb : r.2.2.2.2.2.2.1.length < 1000000000000000000) (he : r.2.2.2.2.2.2.2.1.length < 1000000000000000000) : call_PutReply fuel (tabI T) r = some (((putReply T r).1 : Int), (putReply T r).2) := by
  unfold putReply
  cases hr : rightReply r with
  | false =>
    obtain ⟨x1, x2, x3, ⟨h1, h2⟩, d, sz, bs, es, mo, fr⟩ := r
    unfold call_PutReply
    simp only
    rw [rightReply_is hb he, hr]
    rfl
  | true =>
    have hf := rightR_of hr
    have hlen := replyB_len hf
    obtain ⟨x1, x2, x3, ⟨h1, h2⟩, d, sz, bs, es, mo, fr⟩ := r
    obtain ⟨k1, k2, k3, k4, k5, k6, k7, k8, k9, k10⟩ := hf
    simp only at k1 k2 k3 k4 k5 k6 k7 k8 k9 k10
    rw [if_pos rfl]
    unfold call_PutReply
    simp only
    rw [rightReply_is hb he, hr]
    simp only [Option.bind_some, Bool.not_true, cond_false]
    rw [flag_put, flag_put]
    simp only [Option.bind_some]
    have f1 : flagN d ≤ 1 := by cases d <;> (unfold flagN; simp)
    have f2 : flagN mo ≤ 1 := by cases mo <;> (unfold flagN; simp)
    have hn9 : ∀ n ∈ [x1, x2, x3, h1, h2, ((flagN d : Nat) : Int), sz, ((flagN mo : Nat) : Int), fr], 0 ≤ n ∧ n ≤ 9223372036854775807 := by
      intro x hx
      simp only [List.mem_cons, List.mem_nil_iff, or_false] at hx
      rcases hx with rfl | rfl | rfl | rfl | rfl | rfl | rfl | rfl | rfl <;> omega
    rw [uints_is (by simp) hn9 (by simp)]
    simp only [Option.bind_some]
    have hN := nums9_len rfl hn9
    generalize hG : nums [x1, x2, x3, h1, h2, ((flagN d : Nat) : Int), sz, ((flagN mo : Nat) : Int), fr] = G at hN
    have vb := varint_len10 (n := bs.length) (by omega)
    rw [blob_v1_is (by simp only [List.length_append, List.length_cons, List.length_nil]; omega)]
    simp only [Option.bind_some]
    rw [uints_is (l := [((es.length : Nat) : Int)]) (by simp) (by intro x hx; simp only [List.mem_cons, List.mem_nil_iff, or_false] at hx; subst hx; omega) (by simp only [List.length_append, List.length_cons, List.length_nil]; omega)]
    simp only [Option.bind_some]
    have hn1 : nums [((es.length : Nat) : Int)] = varint es.length := by unfold nums vi; simp
    rw [hn1]
    have ve := varint_len10 (n := es.length) (by omega)
    generalize hH : ([UInt8.ofNat 4] ++ G) ++ varint bs.length ++ bs ++ varint es.length = H
    have hHl : H.length ≤ 5000 := by
      rw [← hH]
      simp only [List.length_append, List.length_cons, List.length_nil]
      omega
    have hl : call_PutReply_l0_it fuel (x1, (x2, (x3, ((h1, h2), (d, (sz, (bs, (es, (mo, fr))))))))) (0, H) = some (H ++ es.flatMap entB) := by
      unfold call_PutReply_l0_it
      refine fold_loop entB es H (by omega) (f := fun tt => call_PutReply_l0 fuel (x1, (x2, (x3, ((h1, h2), (d, (sz, (bs, (es, (mo, fr))))))))) tt.1 tt.2) (fun k hk m hm => ?_) (fun m => ?_)
      · show call_PutReply_l0 fuel _ (k : Int) m = _
        have hml : m.length ≤ 20000 := by
          rw [hm, List.length_append]
          have := entsB_len (es := es.take k) fun e he => k10 e (List.mem_of_mem_take he)
          have : (es.take k).length ≤ es.length := by simp; omega
          omega
        obtain ⟨q1, q2, q3⟩ := k10 _ (List.getElem_mem hk)
        have vq := varint_len10 (n := es[k].1.length) (by omega)
        unfold call_PutReply_l0
        simp only
        rw [decide_eq_true (by omega), idx_nat hk]
        simp only [cond_true, Option.bind_some, List.getElem?_eq_getElem hk]
        rw [need_true (ble_true (by rw [roomIs]; omega)), blob_v1_is (by omega)]
        simp only [Option.bind_some]
        rw [uints_is (l := [es[k].2]) (by simp) (by intro x hx; simp only [List.mem_cons, List.mem_nil_iff, or_false] at hx; subst hx; omega) (by simp only [List.length_append]; omega)]
        simp only [Option.bind_some]
        rw [w64 ⟨by omega, by omega⟩]
        have : m ++ varint es[k].1.length ++ es[k].1 ++ nums [es[k].2] = m ++ entB es[k] := by
          unfold nums entB blobB
          simp
        rw [this]
        rfl
      · show call_PutReply_l0 fuel _ ((es.length : Nat) : Int) m = _
        unfold call_PutReply_l0
        simp only
        rw [decide_eq_false (by omega)]
        rfl
    rw [hl]
    simp only [Option.bind_some]
    have hbody : H ++ es.flatMap entB = 4 :: replyB (x1, (x2, (x3, ((h1, h2), (d, (sz, (bs, (es, (mo, fr))))))))) := by
      rw [← hH, ← hG]
      unfold nums replyB blobB
      simp only [List.flatMap_cons, List.flatMap_nil, List.append_nil, List.append_assoc, List.cons_append, List.nil_append]
      rfl
    rw [hbody, seal_is hT (by simp only [List.length_cons]; omega)]
    rfl
end Go.Ab.D

/- Layer 21, call: answers got. -/
set_option maxRecDepth 100000
namespace Go.Ab.D
open Go Go.Ab Go.P1 Go.P21
attribute [local irreducible] Go.P1.crcT tabI
theorem flagG_is {l : List UInt8} (hb : l.length < 4611686018427387904) {p : Int} {s : Option (List UInt8)} (h : At l p s) :
    ∃ p', call_reader_flag fuel l p s.isNone = some ((pF s).1, (l, (p', (pF s).2.isNone))) ∧ At l p' (pF s).2 := by
  obtain ⟨p1, e1, s1⟩ := number_is hb h
  unfold call_reader_flag
  rw [e1]
  simp only [Option.bind_some]
  unfold pF
  have hb1 : ((((pN s).1 : Nat) : Int) == 1) = ((pN s).1 == 1) := by
    by_cases q : (pN s).1 = 1
    · rw [q]; rfl
    · rw [beq_eq_false_iff_ne.2 q, beq_eq_false_iff_ne.2 (by omega)]
  rw [hb1]
  refine ⟨p1, ?_, s1.1, fun r hr => ?_⟩
  · cases hn : (pN s).2 with
    | none =>
      simp only [Option.isNone_none, cond_true, Option.bind_some]
      split <;> rfl
    | some w =>
      simp only [Option.isNone_some, cond_false, Option.bind_some]
      by_cases q : (pN s).1 ≤ 1
      · rw [if_pos q, decide_eq_false (by omega)]; rfl
      · rw [if_neg q, decide_eq_true (by omega)]; rfl
  · split at hr
    · exact s1.2 r hr
    · cases hr
abbrev ST : Type := Int × (Int × (Int × (Int × (Int × (Int × (Bool × (Int × (Bool × (Int × (List UInt8 × (Int × (Bool × (Int × (Int × (Int × (Int × (Int × (Bool × (Int × (Bool × (Int × (List UInt8 × List EntT))))))))))))))))))))))
section
variable {l : List UInt8} {n1 n2 n3 n4 n5 sz fr : Int} {d mo : Bool} {bs : List UInt8}
def stR (l : List UInt8) (n1 n2 n3 n4 n5 : Int) (d : Bool) (sz : Int) (mo : Bool) (fr : Int) (bs : List UInt8) (n : Nat) (p : Int) (s : Option (List UInt8)) (es : List EntT) : ST :=
  ((n : Int), (0, (0, (0, (0, (0, (false, (0, (false, (0, (l, (p, (s.isNone, (n1, (n2, (n3, (n4, (n5, (d, (sz, (mo, (fr, (bs, es)))))))))))))))))))))))
theorem loopR_none (n : Nat) (es : List EntT) : loopR n none es = (n, (none, es)) := by cases n <;> rfl
theorem getLoop_is (hb : l.length ≤ 140737488355328) {N : Nat} (hN : N ≤ 100) {p : Int} {s0 : Option (List UInt8)} (h0 : At l p s0) :
    ∃ p', call_GetReply_l0_it fuel (stR l n1 n2 n3 n4 n5 d sz mo fr bs N p s0 []) = some (stR l n1 n2 n3 n4 n5 d sz mo fr bs (loopR N s0 []).1 p' (loopR N s0 []).2.1 (loopR N s0 []).2.2) ∧ At l p' (loopR N s0 []).2.1 := by
  unfold call_GetReply_l0_it
  have := iter_ex (f := fun tt : ST => call_GetReply_l0 fuel tt.1 tt.2.1 tt.2.2.1 tt.2.2.2.1 tt.2.2.2.2.1 tt.2.2.2.2.2.1 tt.2.2.2.2.2.2.1 tt.2.2.2.2.2.2.2.1 tt.2.2.2.2.2.2.2.2.1 tt.2.2.2.2.2.2.2.2.2.1 tt.2.2.2.2.2.2.2.2.2.2.1 tt.2.2.2.2.2.2.2.2.2.2.2.1 tt.2.2.2.2.2.2.2.2.2.2.2.2.1 tt.2.2.2.2.2.2.2.2.2.2.2.2.2.1 tt.2.2.2.2.2.2.2.2.2.2.2.2.2.2.1 tt.2.2.2.2.2.2.2.2.2.2.2.2.2.2.2.1 tt.2.2.2.2.2.2.2.2.2.2.2.2.2.2.2.2.1 tt.2.2.2.2.2.2.2.2.2.2.2.2.2.2.2.2.2.1 tt.2.2.2.2.2.2.2.2.2.2.2.2.2.2.2.2.2.2.1 tt.2.2.2.2.2.2.2.2.2.2.2.2.2.2.2.2.2.2.2.1 tt.2.2.2.2.2.2.2.2.2.2.2.2.2.2.2.2.2.2.2.2.1 tt.2.2.2.2.2.2.2.2.2.2.2.2.2.2.2.2.2.2.2.2.2.1 tt.2.2.2.2.2.2.2.2.2.2.2.2.2.2.2.2.2.2.2.2.2.2.1 tt.2.2.2.2.2.2.2.2.2.2.2.2.2.2.2.2.2.2.2.2.2.2.2)
    (fun k st => ∃ (q : Int) (s : Option (List UInt8)) (es : List EntT), st = stR l n1 n2 n3 n4 n5 d sz mo fr bs k q s es ∧ At l q s ∧ loopR k s es = loopR N s0 [] ∧ es.length + k = N)
    (fun o => ∃ q, o = stR l n1 n2 n3 n4 n5 d sz mo fr bs (loopR N s0 []).1 q (loopR N s0 []).2.1 (loopR N s0 []).2.2 ∧ At l q (loopR N s0 []).2.1)
    (fun k st ⟨q, s, es, hst, hA, hL, hlen⟩ => by
      subst hst
      show (∃ s', call_GetReply_l0 fuel ((k + 1 : Nat) : Int) 0 0 0 0 0 false 0 false 0 l q s.isNone n1 n2 n3 n4 n5 d sz mo fr bs es = _ ∧ _) ∨ ∃ o, call_GetReply_l0 fuel ((k + 1 : Nat) : Int) 0 0 0 0 0 false 0 false 0 l q s.isNone n1 n2 n3 n4 n5 d sz mo fr bs es = _ ∧ _
      unfold call_GetReply_l0
      have g1 : decide (((k + 1 : Nat) : Int) > 0) = true := decide_eq_true (by omega)
      have g2 : decide (((k + 1 : Nat) : Int) ≤ 100) = true := decide_eq_true (by omega)
      rw [g1, g2]
      simp only [cond_true, Option.bind_some]
      cases s with
      | none =>
        right
        rw [loopR_none] at hL
        rw [← hL]
        exact ⟨_, rfl, q, rfl, hA⟩
      | some w =>
        left
        simp only [Option.isNone_some, Bool.not_false, cond_true]
        obtain ⟨q1, f1, t1⟩ := blob_is hb (most := 100) (by omega) hA
        obtain ⟨q2, f2, t2⟩ := number_is (by omega) t1
        have f1' : call_reader_blob fuel 100 l q false = _ := f1
        rw [f1']
        simp only [Option.bind_some]
        rw [f2]
        simp only [Option.bind_some]
        rw [need_true (by rw [Bool.and_eq_true]; exact ⟨ble_true (by rw [roomIs]; omega), ble_true (by rw [roomIs]; omega)⟩), w64 ⟨by omega, by omega⟩, show ((k + 1 : Nat) : Int) - 1 = (k : Int) by omega]
        exact ⟨_, rfl, q2, _, _, rfl, t2, hL, by simp; omega⟩)
    (fun st ⟨q, s, es, hst, hA, hL, hlen⟩ => by
      subst hst
      have hL' : loopR N s0 [] = (0, (s, es)) := by rw [← hL]; rfl
      rw [hL']
      refine ⟨_, ?_, q, rfl, hA⟩
      show call_GetReply_l0 fuel 0 0 0 0 0 0 false 0 false 0 l q s.isNone n1 n2 n3 n4 n5 d sz mo fr bs es = _
      rfl)
    N (stR l n1 n2 n3 n4 n5 d sz mo fr bs N p s0 []) (by omega) ⟨p, s0, [], rfl, h0, rfl, by simp⟩
  obtain ⟨o, e1, q, rfl, e3⟩ := this
  exact ⟨q, e1, e3⟩
theorem getLoop_big {N : Nat} (hN : 100 < N) (hN2 : N ≤ 4611686018427387904) {p : Int} {s0 : Option (List UInt8)} : call_GetReply_l0_it fuel (stR l n1 n2 n3 n4 n5 d sz mo fr bs N p s0 []) = some (stR l n1 n2 n3 n4 n5 d sz mo fr bs N p s0 []) := by
  unfold call_GetReply_l0_it
  refine iter_fuel_inr ?_
  show call_GetReply_l0 fuel ((N : Nat) : Int) 0 0 0 0 0 false 0 false 0 l p s0.isNone n1 n2 n3 n4 n5 d sz mo fr bs [] = _
  unfold call_GetReply_l0
  have g1 : decide (((N : Nat) : Int) > 0) = true := decide_eq_true (by omega)
  have g2 : decide (((N : Nat) : Int) ≤ 100) = false := decide_eq_false (by omega)
  rw [g1, g2]
  rfl
end
theorem loopR_len : ∀ (n : Nat) (s : Option (List UInt8)) (es : List EntT), (loopR n s es).2.2.length ≤ es.length + n
  | 0, s, es => by simp [loopR]
  | n + 1, none, es => by simp only [loopR]; omega
  | n + 1, some l, es => by
    simp only [loopR]
    have := loopR_len n (pN (pB 100 (some l)).2).2 (es ++ [((pB 100 (some l)).1, ((pN (pB 100 (some l)).2).1 : Int))])
    simp only [List.length_append, List.length_cons, List.length_nil] at this
    omega
abbrev zR : ReplyT := (0, (0, (0, ((0, 0), (false, (0, ([], ([], (false, 0)))))))))
def cntR (r : List UInt8) : Nat := (rdReply (some r)).1.2.2.2.2.2.2.2.2.2.2
def replyOf (r : List UInt8) : Option ReplyT :=
  if cntR r ≤ 100 ∧ (loopR (cntR r) (rdReply (some r)).2 []).1 = 0 ∧ (loopR (cntR r) (rdReply (some r)).2 []).2.1 = some [] ∧ rightReply (ofRdR (rdReply (some r)) (loopR (cntR r) (rdReply (some r)).2 []).2.2) = true
  then some (ofRdR (rdReply (some r)) (loopR (cntR r) (rdReply (some r)).2 []).2.2) else none
theorem replyOf_iff {r : List UInt8} {x : ReplyT} : replyOf r = some x ↔ rightReply x = true ∧ r = replyB x := by
  unfold replyOf
  constructor
  · intro h
    split at h
    · rename_i hc
      obtain ⟨h1, h2, h3, h4⟩ := hc
      cases h
      have hl : loopR (rdReply (some r)).1.2.2.2.2.2.2.2.2.2.2 (rdReply (some r)).2 [] = (0, (some [], (loopR (cntR r) (rdReply (some r)).2 []).2.2)) := by
        show loopR (cntR r) (rdReply (some r)).2 [] = _
        rw [← h2, ← h3]
      obtain ⟨g1, g2⟩ := rdR_inv hl h1
      exact ⟨h4, Option.some.inj g1⟩
    · cases h
  · rintro ⟨h1, rfl⟩
    have hf := rightR_of h1
    have e1 := rdR_at hf
    have ec : cntR (replyB x) = x.2.2.2.2.2.2.2.1.length := by unfold cntR; rw [e1]
    have hl : loopR (cntR (replyB x)) (rdReply (some (replyB x))).2 [] = (0, (some [], x.2.2.2.2.2.2.2.1)) := by
      rw [ec, e1]
      have := loopR_at x.2.2.2.2.2.2.2.1 [] [] hf.2.2.2.2.2.2.2.2.2
      rw [List.append_nil] at this
      simpa using this
    have eo := ofRdR_at hf
    rw [hl]
    simp only
    rw [eo, if_pos ⟨by rw [ec]; exact hf.2.2.2.2.2.2.2.2.1, by first | rfl | trivial, by first | rfl | trivial, h1⟩]
def bodyR (l : List UInt8) : Option ReplyT := match l with | [] => none | k :: r => if k = 4 then replyOf r else none
def getReply (T : List Nat) (b : List UInt8) : ReplyT × Nat :=
  if (unsealed (P1.sum T) b).2 = 0 then (match bodyR (unsealed (P1.sum T) b).1 with | some c => (c, 0) | none => (zR, 179)) else (zR, (unsealed (P1.sum T) b).2)
abbrev OutR : Type := Int × (Int × (Int × (Int × (Int × (Bool × (Int × (List UInt8 × (List EntT × (Bool × (Int × Int))))))))))
def outR (x : ReplyT × Nat) : OutR :=
  (x.1.1, (x.1.2.1, (x.1.2.2.1, (x.1.2.2.2.1.1, (x.1.2.2.2.1.2, (x.1.2.2.2.2.1, (x.1.2.2.2.2.2.1, (x.1.2.2.2.2.2.2.1, (x.1.2.2.2.2.2.2.2.1, (x.1.2.2.2.2.2.2.2.2.1, (x.1.2.2.2.2.2.2.2.2.2, (x.2 : Int))))))))))))
theorem getReply_is {T : List Nat} (hT : Tab T) {b : List UInt8} (hb : b.length ≤ 140737488355328) : call_GetReply fuel (tabI T) b = some (outR (getReply T b)) := by
  have hul := unsealed_len (P1.sum T) b
  unfold call_GetReply getReply
  rw [begin_is hT hb 4 (Ki := 4) rfl]
  simp only [Option.bind_some]
  by_cases h0 : (unsealed (P1.sum T) b).2 = 0
  · rw [if_pos h0, if_pos h0]
    generalize (unsealed (P1.sum T) b).1 = l at hul ⊢
    cases l with
    | nil => rfl
    | cons k r =>
      show _ = some (outR (match (if k = 4 then replyOf r else none) with | some c => (c, 0) | none => (zR, 179)))
      by_cases hk : k = 4
      · subst hk
        simp only [if_true, show (!((0 : Int) == 0)) = false from rfl, cond_false]
        have hAt : At (4 :: r) 1 (some r) := ⟨⟨by omega, by simp only [List.length_cons]; omega⟩, fun q hq => by cases hq; rfl⟩
        have hl1 : (4 :: r : List UInt8).length ≤ 140737488355328 := by omega
        have hl2 : (4 :: r : List UInt8).length < 4611686018427387904 := by omega
        obtain ⟨p1, e1, s1⟩ := number_is hl2 hAt
        obtain ⟨p2, e2, s2⟩ := number_is hl2 s1
        obtain ⟨p3, e3, s3⟩ := number_is hl2 s2
        obtain ⟨p4, e4, s4⟩ := number_is hl2 s3
        obtain ⟨p5, e5, s5⟩ := number_is hl2 s4
        obtain ⟨p6, e6, s6⟩ := flagG_is hl2 s5
        obtain ⟨p7, e7, s7⟩ := number_is hl2 s6
        obtain ⟨p8, e8, s8⟩ := flagG_is hl2 s7
        obtain ⟨p9, e9, s9⟩ := number_is hl2 s8
        obtain ⟨p10, e10, s10⟩ := blob_is hl1 (most := 4096) (by omega) s9
        obtain ⟨p11, e11, s11⟩ := number_is hl2 s10
        have e1' : call_reader_number fuel (4 :: r) 1 false = _ := e1
        have e10' : call_reader_blob fuel 4096 (4 :: r) p9 _ = _ := e10
        unfold call_reader_numbers_o1_cnn call_reader_numbers_o1_cnn_v1 call_reader_numbers_o1_cnn_v2
        rw [e1']
        simp only [Option.bind_some]
        rw [e2]
        simp only [Option.bind_some]
        rw [e3]
        simp only [Option.bind_some]
        rw [e4]
        simp only [Option.bind_some]
        rw [e5]
        simp only [Option.bind_some]
        rw [e6]
        simp only [Option.bind_some]
        rw [e7]
        simp only [Option.bind_some]
        rw [e8]
        simp only [Option.bind_some]
        rw [e9]
        simp only [Option.bind_some]
        rw [e10']
        simp only [Option.bind_some]
        rw [e11]
        simp only [Option.bind_some]
        have hm : (pN (pB 4096 (pN (pF (pN (pF (pN (pN (pN (pN (pN (some r)).2).2).2).2).2).2).2).2).2).2).1 ≤ 4611686018427387904 := by
          generalize (pB 4096 (pN (pF (pN (pF (pN (pN (pN (pN (pN (some r)).2).2).2).2).2).2).2).2).2).2 = sx
          cases hx : (pN sx).2 with
          | some w => have := (pN_inv hx).2; unfold M62 at this; exact this
          | none =>
            cases sx with
            | none => exact Nat.zero_le _
            | some w =>
              rw [pN_some] at hx ⊢
              cases hp : pNum M62 w with
              | none => exact Nat.zero_le _
              | some y => obtain ⟨a, b⟩ := y; rw [hp] at hx; cases hx
        have hbl : (pB 4096 (pN (pF (pN (pF (pN (pN (pN (pN (pN (some r)).2).2).2).2).2).2).2).2).2).1.length ≤ 4096 := pB_len (by omega) _
        -- what was read
        have hRd : rdReply (some r) = (((pN (some r)).1, ((pN (pN (some r)).2).1, ((pN (pN (pN (some r)).2).2).1, ((pN (pN (pN (pN (some r)).2).2).2).1, ((pN (pN (pN (pN (pN (some r)).2).2).2).2).1, ((pF (pN (pN (pN (pN (pN (some r)).2).2).2).2).2).1, ((pN (pF (pN (pN (pN (pN (pN (some r)).2).2).2).2).2).2).1, ((pF (pN (pF (pN (pN (pN (pN (pN (some r)).2).2).2).2).2).2).2).1, ((pN (pF (pN (pF (pN (pN (pN (pN (pN (some r)).2).2).2).2).2).2).2).2).1, ((pB 4096 (pN (pF (pN (pF (pN (pN (pN (pN (pN (some r)).2).2).2).2).2).2).2).2).2).1, (pN (pB 4096 (pN (pF (pN (pF (pN (pN (pN (pN (pN (some r)).2).2).2).2).2).2).2).2).2).2).1)))))))))), (pN (pB 4096 (pN (pF (pN (pF (pN (pN (pN (pN (pN (some r)).2).2).2).2).2).2).2).2).2).2).2) := rfl
        unfold replyOf cntR
        rw [hRd]
        simp only
        generalize (pN (pB 4096 (pN (pF (pN (pF (pN (pN (pN (pN (pN (some r)).2).2).2).2).2).2).2).2).2).2).1 = N at *
        generalize (pN (pB 4096 (pN (pF (pN (pF (pN (pN (pN (pN (pN (some r)).2).2).2).2).2).2).2).2).2).2).2 = s0 at *
        generalize (pB 4096 (pN (pF (pN (pF (pN (pN (pN (pN (pN (some r)).2).2).2).2).2).2).2).2).2).1 = BS at *
        generalize (pN (pF (pN (pF (pN (pN (pN (pN (pN (some r)).2).2).2).2).2).2).2).2).1 = m9 at *
        generalize (pF (pN (pF (pN (pN (pN (pN (pN (some r)).2).2).2).2).2).2).2).1 = m8 at *
        generalize (pN (pF (pN (pN (pN (pN (pN (some r)).2).2).2).2).2).2).1 = m7 at *
        generalize (pF (pN (pN (pN (pN (pN (some r)).2).2).2).2).2).1 = m6 at *
        generalize (pN (pN (pN (pN (pN (some r)).2).2).2).2).1 = m5 at *
        generalize (pN (pN (pN (pN (some r)).2).2).2).1 = m4 at *
        generalize (pN (pN (pN (some r)).2).2).1 = m3 at *
        generalize (pN (pN (some r)).2).1 = m2 at *
        generalize (pN (some r)).1 = m1 at *
        by_cases h100 : N ≤ 100
        · obtain ⟨q, f1, t1⟩ := getLoop_is (l := 4 :: r) (n1 := m1) (n2 := m2) (n3 := m3) (n4 := m4) (n5 := m5) (d := m6) (sz := m7) (mo := m8) (fr := m9) (bs := BS) hl1 h100 s11
          have f1' : call_GetReply_l0_it fuel ((N : Int), (0, (0, (0, (0, (0, (false, (0, (false, (0, (4 :: r, (p11, (s0.isNone, ((m1 : Int), ((m2 : Int), ((m3 : Int), ((m4 : Int), ((m5 : Int), (m6, ((m7 : Int), (m8, ((m9 : Int), (BS, []))))))))))))))))))))))) = _ := f1
          rw [f1']
          have hel := loopR_len N s0 []
          simp only [List.length_nil, Nat.zero_add] at hel
          generalize loopR N s0 [] = L at *
          obtain ⟨ln, ls, le⟩ := L
          unfold stR
          simp only [Option.bind_some] at hel t1 ⊢
          cases ls with
          | none =>
            rw [if_neg (by simp)]
            rfl
          | some w =>
            simp only [Option.isNone_some, cond_false]
            by_cases hn0 : ln = 0
            · subst hn0
              simp only [show decide (((0 : Nat) : Int) > 0) = false from rfl, cond_false]
              have hd := t1.2 w rfl
              have hq : (q == (((4 :: r : List UInt8).length : Nat) : Int)) = decide (w = []) := by
                have hlen : w.length = (4 :: r : List UInt8).length - q.toNat := by rw [← hd, List.length_drop]
                have := t1.1
                by_cases hw : w = []
                · rw [decide_eq_true hw, beq_iff_eq]
                  have : w.length = 0 := by rw [hw]; rfl
                  omega
                · rw [decide_eq_false hw, beq_eq_false_iff_ne]
                  intro hc
                  apply hw
                  apply List.eq_nil_of_length_eq_zero
                  omega
              rw [hq]
              by_cases hw : w = []
              · subst hw
                rw [decide_eq_true rfl]
                simp only [Bool.not_true, cond_false]
                rw [rightReply_is (by show BS.length < _; omega) (by show le.length < _; omega)]
                have hc : ((m1 : Int), ((m2 : Int), ((m3 : Int), (((m4 : Int), (m5 : Int)), (m6, ((m7 : Int), (BS, (le, (m8, (m9 : Int)))))))))) = ofRdR ((m1, (m2, (m3, (m4, (m5, (m6, (m7, (m8, (m9, (BS, N)))))))))), s0) le := rfl
                rw [hc]
                cases hr : rightReply (ofRdR ((m1, (m2, (m3, (m4, (m5, (m6, (m7, (m8, (m9, (BS, N)))))))))), s0) le) with
                | false =>
                  rw [if_neg (by simp)]
                  rfl
                | true =>
                  rw [if_pos ⟨h100, by first | rfl | trivial, by first | rfl | trivial, rfl⟩]
                  rfl
              · rw [decide_eq_false hw, if_neg (by simp [hw])]
                rfl
            · have : decide ((ln : Int) > 0) = true := decide_eq_true (by omega)
              simp only [this]
              rw [if_neg (by intro hc; exact hn0 hc.2.1)]
              rfl
        · have f1 := getLoop_big (l := 4 :: r) (n1 := m1) (n2 := m2) (n3 := m3) (n4 := m4) (n5 := m5) (d := m6) (sz := m7) (mo := m8) (fr := m9) (bs := BS) (p := p11) (s0 := s0) (show 100 < N by omega) hm
          have f1' : call_GetReply_l0_it fuel ((N : Int), (0, (0, (0, (0, (0, (false, (0, (false, (0, (4 :: r, (p11, (s0.isNone, ((m1 : Int), ((m2 : Int), ((m3 : Int), ((m4 : Int), ((m5 : Int), (m6, ((m7 : Int), (m8, ((m9 : Int), (BS, []))))))))))))))))))))))) = _ := f1
          rw [f1']
          unfold stR
          simp only [Option.bind_some]
          rw [if_neg (by intro hc; exact h100 hc.1)]
          have : decide ((N : Int) > 0) = true := decide_eq_true (by omega)
          cases s0 with
          | none => rfl
          | some w =>
            simp only [Option.isNone_some, cond_false, this]
            rfl
      · simp only [if_neg hk]
        rfl
  · rw [if_neg h0, if_neg h0]
    have : ((((unsealed (P1.sum T) b).2 : Nat) : Int) == 0) = false := beq_eq_false_iff_ne.2 (by omega)
    simp only [this]
    rfl
end Go.Ab.D

/- Layer 21, CallBack. -/
set_option maxRecDepth 100000
namespace Go.Ab.D
open Go Go.Ab Go.P1 Go.P21
attribute [local irreducible] Go.P1.crcT tabI
theorem huge_is (c : Go.P21.CallT) (r : ReplyT) : ∃ h, law21_Huge fuel c r = some h ∧ (h = false → r.2.2.2.2.2.2.1.length ≤ 5000 ∧ r.2.2.2.2.2.2.2.1.length ≤ 120) := by
  obtain ⟨x1, x2, x3, ⟨h1, h2⟩, d, sz, bs, es, mo, fr⟩ := r
  unfold law21_Huge
  simp only
  have it : ∀ b0 : Bool, es.length ≤ 120 → ∃ o, law21_Huge_l0_it fuel (b0, (x1, (x2, (x3, (h1, (h2, (d, (sz, (bs, (es, (mo, fr))))))))))) (0, (x1, (x2, (x3, (h1, (h2, (d, (sz, (bs, (es, (mo, fr))))))))))) = some o := by
    intro b0 he
    unfold law21_Huge_l0_it
    have := iter_ex (f := fun tt : Int × (Int × (Int × (Int × (Int × (Int × (Bool × (Int × (List UInt8 × (List EntT × (Bool × Int)))))))))) => law21_Huge_l0 fuel (b0, (x1, (x2, (x3, (h1, (h2, (d, (sz, (bs, (es, (mo, fr))))))))))) tt.1 tt.2.1 tt.2.2.1 tt.2.2.2.1 tt.2.2.2.2.1 tt.2.2.2.2.2.1 tt.2.2.2.2.2.2.1 tt.2.2.2.2.2.2.2.1 tt.2.2.2.2.2.2.2.2.1 tt.2.2.2.2.2.2.2.2.2.1 tt.2.2.2.2.2.2.2.2.2.2.1 tt.2.2.2.2.2.2.2.2.2.2.2)
      (fun n s => ∃ k : Nat, s = ((k : Int), (x1, (x2, (x3, (h1, (h2, (d, (sz, (bs, (es, (mo, fr))))))))))) ∧ k + n = es.length)
      (fun _ => True)
      (fun n s ⟨k, hs, hk⟩ => by
        subst hs
        have hk' : k < es.length := by omega
        show (∃ s', law21_Huge_l0 fuel _ (k : Int) x1 x2 x3 h1 h2 d sz bs es mo fr = _ ∧ _) ∨ ∃ o, law21_Huge_l0 fuel _ (k : Int) x1 x2 x3 h1 h2 d sz bs es mo fr = _ ∧ _
        unfold law21_Huge_l0
        simp only
        rw [decide_eq_true (show (k : Int) < ((es.length : Nat) : Int) by omega), idx_nat hk', w64 (x := (k : Int) + 1) ⟨by omega, by omega⟩]
        simp only [cond_true, Option.bind_some, List.getElem?_eq_getElem hk']
        by_cases q : ((es[k].1.length : Nat) : Int) > 3000
        · right
          rw [decide_eq_true q]
          exact ⟨_, rfl, trivial⟩
        · left
          rw [decide_eq_false q]
          exact ⟨_, rfl, k + 1, rfl, by omega⟩)
      (fun s ⟨k, hs, hk⟩ => by
        subst hs
        have : k = es.length := by omega
        subst this
        refine ⟨.inl (), ?_, trivial⟩
        show law21_Huge_l0 fuel _ ((es.length : Nat) : Int) x1 x2 x3 h1 h2 d sz bs es mo fr = _
        unfold law21_Huge_l0
        simp only
        rw [decide_eq_false (by omega)]
        rfl)
      es.length (0, (x1, (x2, (x3, (h1, (h2, (d, (sz, (bs, (es, (mo, fr))))))))))) (by omega) ⟨0, rfl, by omega⟩
    obtain ⟨o, e1, _⟩ := this
    exact ⟨o, e1⟩
  have rest : ∀ b0 : Bool, (b0 = false → bs.length ≤ 5000 ∧ es.length ≤ 120) → ∃ h, (bif b0 then some true else (law21_Huge_l0_it fuel (b0, (x1, (x2, (x3, (h1, (h2, (d, (sz, (bs, (es, (mo, fr))))))))))) (0, (x1, (x2, (x3, (h1, (h2, (d, (sz, (bs, (es, (mo, fr)))))))))))).bind fun o1 =>
      match o1 with
      | .inl s => some false
      | .inr o2 => some o2) = some h ∧ (h = false → bs.length ≤ 5000 ∧ es.length ≤ 120) := by
    intro b0 hb0
    cases b0 with
    | true => exact ⟨true, rfl, fun h => by cases h⟩
    | false =>
      obtain ⟨o, ho⟩ := it false (hb0 rfl).2
      rw [ho]
      cases o with
      | inl _ => exact ⟨false, rfl, fun _ => hb0 rfl⟩
      | inr b => exact ⟨b, rfl, fun _ => hb0 rfl⟩
  by_cases q1 : ((c.2.2.2.2.1.length : Nat) : Int) > 3000
  · rw [decide_eq_true q1]; exact rest true (fun h => by cases h)
  · by_cases q2 : ((c.2.2.2.2.2.2.1.length : Nat) : Int) > 3000
    · rw [decide_eq_false q1, decide_eq_true q2]; exact rest true (fun h => by cases h)
    · by_cases q3 : ((c.2.2.2.2.2.2.2.2.2.length : Nat) : Int) > 5000
      · rw [decide_eq_false q1, decide_eq_false q2, decide_eq_true q3]; exact rest true (fun h => by cases h)
      · by_cases q4 : ((bs.length : Nat) : Int) > 5000
        · rw [decide_eq_false q1, decide_eq_false q2, decide_eq_false q3, decide_eq_true q4]; exact rest true (fun h => by cases h)
        · rw [decide_eq_false q1, decide_eq_false q2, decide_eq_false q3, decide_eq_false q4]
          exact rest _ (fun h => by have := of_decide_eq_false h; exact ⟨by omega, by omega⟩)
theorem sameBytes_self (b : List UInt8) (hb : b.length ≤ 100000000) : low_SameBytes fuel b b = some true := by
  unfold low_SameBytes
  first
    | (rw [need_true (ble_true (by rw [roomIs]; omega)), need_true (ble_true (by rw [roomIs]; omega))]; simp)
    | simp
theorem sameCall_self (c : Go.P21.CallT) (hb : c.2.2.2.2.2.2.2.2.2.length ≤ 100000000) : law21_SameCall fuel c c = some true := by
  unfold law21_SameCall
  simp only [beq_self_eq_true, cond_true, Bool.and_self]
  rw [sameBytes_self _ hb]
  rfl
theorem sameEnts_self (es : List EntT) (he : es.length ≤ 100000000) : kit_SameEntries fuel es es = some true := by
  unfold kit_SameEntries kit_SameEntries_l0_it
  simp only [beq_self_eq_true, Bool.not_true, cond_false]
  have := iter_range (f := fun tt : Int => kit_SameEntries_l0 fuel es es tt) (o := .inl ()) (fun k => (k : Int)) es.length (by omega) (fun k hk => by
    show kit_SameEntries_l0 fuel es es (k : Int) = _
    unfold kit_SameEntries_l0
    rw [decide_eq_true (by omega), idx_nat hk]
    simp only [cond_true, Option.bind_some, List.getElem?_eq_getElem hk, beq_self_eq_true, Bool.and_self, Bool.not_true, cond_false]
    rw [w64 ⟨by omega, by omega⟩]
    rfl) (by
    show kit_SameEntries_l0 fuel es es ((es.length : Nat) : Int) = _
    unfold kit_SameEntries_l0
    rw [decide_eq_false (by omega)]
    rfl)
  have this2 : iter fuel (fun tt : Int => kit_SameEntries_l0 fuel es es tt) 0 = some (.inl ()) := this
  rw [this2]
  rfl
theorem sameReply_self (r : ReplyT) (hb : r.2.2.2.2.2.2.1.length ≤ 100000000) (he : r.2.2.2.2.2.2.2.1.length ≤ 100000000) : law21_SameReply fuel r r = some true := by
  unfold law21_SameReply
  simp only [beq_self_eq_true, cond_true, Bool.and_self]
  rw [sameBytes_self _ hb]
  simp only [Option.bind_some, cond_true]
  rw [sameEnts_self _ he]
  rfl
theorem get_sealedR (T : List Nat) (l : List UInt8) : getReply T (sealed (P1.sum T) l) = match bodyR l with | some c => (c, 0) | none => (zR, 179) := by
  unfold getReply
  rw [unsealed_sealed]
  rfl
theorem bodyC_put {c : Go.P21.CallT} (h : rightCall c = true) : bodyC (3 :: callB c) = some c := by
  show (if (3 : UInt8) = 3 then callOf (callB c) else none) = _
  rw [if_pos rfl]
  exact callOf_iff.2 ⟨h, rfl⟩
theorem bodyR_put {r : ReplyT} (h : rightReply r = true) : bodyR (4 :: replyB r) = some r := by
  show (if (4 : UInt8) = 4 then replyOf (replyB r) else none) = _
  rw [if_pos rfl]
  exact replyOf_iff.2 ⟨h, rfl⟩
theorem bodyR_call (l : List UInt8) : bodyR (3 :: l) = none := rfl
theorem bodyC_reply (l : List UInt8) : bodyC (4 :: l) = none := rfl
theorem bodyC_inv {l : List UInt8} {c : Go.P21.CallT} (h : bodyC l = some c) : rightCall c = true ∧ l = 3 :: callB c := by
  cases l with
  | nil => cases h
  | cons k r =>
    have h' : (if k = 3 then callOf r else none) = some c := h
    by_cases hk : k = 3
    · rw [if_pos hk] at h'
      obtain ⟨g1, g2⟩ := callOf_iff.1 h'
      exact ⟨g1, by rw [hk, g2]⟩
    · rw [if_neg hk] at h'; cases h'
theorem bodyR_inv {l : List UInt8} {c : ReplyT} (h : bodyR l = some c) : rightReply c = true ∧ l = 4 :: replyB c := by
  cases l with
  | nil => cases h
  | cons k r =>
    have h' : (if k = 4 then replyOf r else none) = some c := h
    by_cases hk : k = 4
    · rw [if_pos hk] at h'
      obtain ⟨g1, g2⟩ := replyOf_iff.1 h'
      exact ⟨g1, by rw [hk, g2]⟩
    · rw [if_neg hk] at h'; cases h'
theorem sealed_len (S : List UInt8 → Nat) (l : List UInt8) : (sealed S l).length = l.length + 4 := by unfold sealed; rw [List.length_append, be4_len]
end Go.Ab.D

/- Layer 21, CallBack: the law. -/
set_option maxRecDepth 100000
namespace Go.Ab.D
open Go Go.Ab Go.P1 Go.P21
attribute [local irreducible] Go.P1.crcT tabI
theorem outC_err (c : Go.P21.CallT) (e : Nat) : (outC (c, e)).2.2.2.2.2.2.2.2.2.2.2.2 = (e : Int) := rfl
theorem outR_err (c : ReplyT) (e : Nat) : (outR (c, e)).2.2.2.2.2.2.2.2.2.2.2 = (e : Int) := rfl
theorem law21_CallBack_true (c : Int × (Int × (UInt8 × ((Int × Int) × (List UInt8 × ((Int × Int) × (List UInt8 × (Int × (Int × List UInt8))))))))) (r : Int × (Int × (Int × ((Int × Int) × (Bool × (Int × (List UInt8 × (List (List UInt8 × Int) × (Bool × Int))))))))) (b : List UInt8)
    (_k0 : OkV (.pair (.int .i64) (.pair (.int .i64) (.pair .byte (.pair (.pair (.int .i64) (.int .i64)) (.pair .str (.pair (.pair (.int .i64) (.int .i64)) (.pair .str (.pair (.int .i64) (.pair (.int .i64) (.sl .byte)))))))))) c)
    (_k1 : OkV (.pair (.int .i64) (.pair (.int .i64) (.pair (.int .i64) (.pair (.pair (.int .i64) (.int .i64)) (.pair .bool (.pair (.int .i64) (.pair (.sl .byte) (.pair (.sl (.pair .str (.int .i64))) (.pair .bool (.int .i64)))))))))) r)
    (_k2 : OkV (.sl .byte) b) : law21_CallBack fuel c r b = some true := by
  clear _k0 _k1 _k2
  obtain ⟨c1, c2, c3, ⟨h1, h2⟩, nm, ⟨t1, t2⟩, nw, off, n, bs⟩ := c
  obtain ⟨x1, x2, x3, ⟨g1, g2⟩, d, sz, rb, es, mo, fr⟩ := r
  unfold law21_CallBack
  simp only
  rw [byteU]
  simp only [Option.bind_some]
  obtain ⟨hg, hh, hsmall⟩ := huge_is (c1, (c2, (c3, ((h1, h2), (nm, ((t1, t2), (nw, (off, (n, bs))))))))) (x1, (x2, (x3, ((g1, g2), (d, (sz, (rb, (es, (mo, fr)))))))))
  rw [hh]
  simp only [Option.bind_some]
  cases hg with
  | true =>
    simp only [cond_true]
    rw [awake21]
    rfl
  | false =>
    obtain ⟨hb5, he5⟩ := hsmall rfl
    have hbs : rb.length < 1000000000000000000 := by simp only at hb5; omega
    have hes : es.length < 1000000000000000000 := by simp only at he5; omega
    simp only [cond_false, Option.bind_some]
    by_cases hb : b.length > 20000
    · rw [decide_eq_true (show ((b.length : Nat) : Int) > 20000 by omega)]
      simp only [cond_true, Option.bind_some]
      rw [awake21]
      rfl
    rw [decide_eq_false (show ¬ ((b.length : Nat) : Int) > 20000 by omega)]
    simp only [cond_false, Option.bind_some]
    rw [table_is]
    simp only [Option.bind_some]
    rw [need_true (b := Nat.beq (List.replicate (α := Int) 256 0).length 256) (by rw [List.length_replicate]; rfl), need_true (beq256 crc_len)]
    rw [byteU]
    simp only [Option.bind_some]
    rw [putCall_is crcT_tab]
    simp only [Option.bind_some]
    generalize hC : ((c1, (c2, (c3, ((h1, h2), (nm, ((t1, t2), (nw, (off, (n, bs))))))))) : Go.P21.CallT) = C
    generalize hX : ((x1, (x2, (x3, ((g1, g2), (d, (sz, (rb, (es, (mo, fr))))))))) : ReplyT) = X
    -- a request
    refine bind_ex (fun o => o = some true) (fun v => v = .inl (x1, (x2, (x3, (g1, (g2, (d, (sz, (rb, (es, (mo, (fr, tabI crcT)))))))))))) ?_ ?_
    · cases hr : rightCall C with
      | true =>
        have hlen := callB_len (right_of hr)
        have hbl := (right_of hr).b
        have hp : putCall crcT C = (0, sealed (P1.sum crcT) (3 :: callB C)) := by unfold putCall; rw [if_pos hr]
        rw [hp]
        have hsl : (sealed (P1.sum crcT) (3 :: callB C)).length ≤ 140737488355328 := by rw [sealed_len]; simp only [List.length_cons]; omega
        simp only [show ((((0 : Nat) : Int)) == 0) = true from rfl, cond_true]
        rw [getCall_is crcT_tab hsl, get_sealed, bodyC_put hr]
        simp only [Option.bind_some]
        rw [getReply_is crcT_tab hsl, get_sealedR, bodyR_call]
        simp only [Option.bind_some]
        rw [outC_err, outR_err]
        have hby : byte? (outC (C, 0)).2.2.1 = some c3 := by subst hC; exact byteU c3
        simp only [show (!((((0 : Nat) : Int)) == 0)) = false from rfl, cond_false]
        rw [hby]
        simp only [Option.bind_some]
        have hsame : law21_SameCall fuel C ((outC (C, 0)).1, ((outC (C, 0)).2.1, (c3, (((outC (C, 0)).2.2.2.1, (outC (C, 0)).2.2.2.2.1), ((outC (C, 0)).2.2.2.2.2.1, (((outC (C, 0)).2.2.2.2.2.2.1, (outC (C, 0)).2.2.2.2.2.2.2.1), ((outC (C, 0)).2.2.2.2.2.2.2.2.1, ((outC (C, 0)).2.2.2.2.2.2.2.2.2.1, ((outC (C, 0)).2.2.2.2.2.2.2.2.2.2.1, (outC (C, 0)).2.2.2.2.2.2.2.2.2.2.2.1))))))))) = some true := by
          subst hC
          refine sameCall_self _ ?_
          show bs.length ≤ _
          have : bs.length ≤ 4096 := hbl
          omega
        rw [hsame]
        exact ⟨_, rfl, rfl⟩
      | false =>
        have hp : putCall crcT C = (179, []) := by unfold putCall; rw [if_neg (by rw [hr]; simp)]
        rw [hp]
        simp only [show ((((179 : Nat) : Int)) == 0) = false from rfl, cond_false]
        rw [rightCall_is, hr]
        exact ⟨_, rfl, rfl⟩
    · rintro _ rfl
      dsimp only
      rw [hX, putReply_is crcT_tab (by subst hX; exact hbs) (by subst hX; exact hes)]
      simp only [Option.bind_some]
      -- an answer
      refine bind_ex (fun o => o = some true) (fun v => v = .inl (tabI crcT)) ?_ ?_
      · cases hr : rightReply X with
        | true =>
          have hf := rightR_of hr
          have hlen := replyB_len hf
          have hp : putReply crcT X = (0, sealed (P1.sum crcT) (4 :: replyB X)) := by unfold putReply; rw [if_pos hr]
          rw [hp]
          have hsl : (sealed (P1.sum crcT) (4 :: replyB X)).length ≤ 140737488355328 := by rw [sealed_len]; simp only [List.length_cons]; omega
          simp only [show ((((0 : Nat) : Int)) == 0) = true from rfl, cond_true]
          rw [getReply_is crcT_tab hsl, get_sealedR, bodyR_put hr]
          simp only [Option.bind_some]
          rw [getCall_is crcT_tab hsl, get_sealed, bodyC_reply]
          simp only [Option.bind_some]
          rw [outC_err, outR_err]
          simp only [show (!((((0 : Nat) : Int)) == 0)) = false from rfl, cond_false]
          have hsame : law21_SameReply fuel X ((outR (X, 0)).1, ((outR (X, 0)).2.1, ((outR (X, 0)).2.2.1, (((outR (X, 0)).2.2.2.1, (outR (X, 0)).2.2.2.2.1), ((outR (X, 0)).2.2.2.2.2.1, ((outR (X, 0)).2.2.2.2.2.2.1, ((outR (X, 0)).2.2.2.2.2.2.2.1, ((outR (X, 0)).2.2.2.2.2.2.2.2.1, ((outR (X, 0)).2.2.2.2.2.2.2.2.2.1, (outR (X, 0)).2.2.2.2.2.2.2.2.2.2.1))))))))) = some true := by
            subst hX
            obtain ⟨k1, k2, k3, k4, k5, k6, k7, k8, k9, k10⟩ := hf
            exact sameReply_self _ (by simp only at k8 ⊢; omega) (by simp only at k9 ⊢; omega)
          rw [hsame]
          exact ⟨_, rfl, rfl⟩
        | false =>
          have hp : putReply crcT X = (179, []) := by unfold putReply; rw [if_neg (by rw [hr]; simp)]
          rw [hp]
          simp only [show ((((179 : Nat) : Int)) == 0) = false from rfl, cond_false]
          rw [rightReply_is (by subst hX; exact hbs) (by subst hX; exact hes), hr]
          exact ⟨_, rfl, rfl⟩
      · rintro _ rfl
        dsimp only
        rw [seal_is crcT_tab (by omega)]
        simp only [Option.bind_some]
        have hsl : (sealed (P1.sum crcT) b).length ≤ 140737488355328 := by rw [sealed_len]; omega
        have hss : (sealed (P1.sum crcT) b).length ≤ 100000000 := by rw [sealed_len]; omega
        rw [getCall_is crcT_tab hsl, get_sealed]
        simp only [Option.bind_some]
        refine bind_ex (fun o => o = some true) (fun v => v = .inl (tabI crcT, sealed (P1.sum crcT) b)) ?_ ?_
        · cases hq : bodyC b with
          | none => exact ⟨_, rfl, rfl⟩
          | some D =>
            obtain ⟨e1, e2⟩ := bodyC_inv hq
            simp only
            rw [outC_err]
            simp only [show ((((0 : Nat) : Int)) == 0) = true from rfl, cond_true]
            have hby : byte? (outC (D, 0)).2.2.1 = some D.2.2.1 := byteU D.2.2.1
            rw [hby]
            simp only [Option.bind_some]
            have hD : ((outC (D, 0)).1, ((outC (D, 0)).2.1, (D.2.2.1, (((outC (D, 0)).2.2.2.1, (outC (D, 0)).2.2.2.2.1), ((outC (D, 0)).2.2.2.2.2.1, (((outC (D, 0)).2.2.2.2.2.2.1, (outC (D, 0)).2.2.2.2.2.2.2.1), ((outC (D, 0)).2.2.2.2.2.2.2.2.1, ((outC (D, 0)).2.2.2.2.2.2.2.2.2.1, ((outC (D, 0)).2.2.2.2.2.2.2.2.2.2.1, (outC (D, 0)).2.2.2.2.2.2.2.2.2.2.2.1))))))))) = D := rfl
            rw [hD, putCall_is crcT_tab]
            have hp : putCall crcT D = (0, sealed (P1.sum crcT) (3 :: callB D)) := by unfold putCall; rw [if_pos e1]
            rw [hp, ← e2]
            simp only [Option.bind_some, show (!((((0 : Nat) : Int)) == 0)) = false from rfl, cond_false]
            rw [sameBytes_self _ hss]
            exact ⟨_, rfl, rfl⟩
        · rintro _ rfl
          dsimp only
          rw [getReply_is crcT_tab hsl, get_sealedR]
          simp only [Option.bind_some]
          cases hq : bodyR b with
          | none =>
            simp only
            rw [outR_err]
            simp only [show ((((179 : Nat) : Int)) == 0) = false from rfl, cond_false]
            rw [awake21]
            rfl
          | some D =>
            obtain ⟨e1, e2⟩ := bodyR_inv hq
            obtain ⟨k1, k2, k3, k4, k5, k6, k7, k8, k9, k10⟩ := rightR_of e1
            simp only
            rw [outR_err]
            simp only [show ((((0 : Nat) : Int)) == 0) = true from rfl, cond_true]
            have hD : ((outR (D, 0)).1, ((outR (D, 0)).2.1, ((outR (D, 0)).2.2.1, (((outR (D, 0)).2.2.2.1, (outR (D, 0)).2.2.2.2.1), ((outR (D, 0)).2.2.2.2.2.1, ((outR (D, 0)).2.2.2.2.2.2.1, ((outR (D, 0)).2.2.2.2.2.2.2.1, ((outR (D, 0)).2.2.2.2.2.2.2.2.1, ((outR (D, 0)).2.2.2.2.2.2.2.2.2.1, (outR (D, 0)).2.2.2.2.2.2.2.2.2.2.1))))))))) = D := rfl
            rw [hD, putReply_is crcT_tab (by omega) (by omega)]
            have hp : putReply crcT D = (0, sealed (P1.sum crcT) (4 :: replyB D)) := by unfold putReply; rw [if_pos e1]
            rw [hp, ← e2]
            simp only [Option.bind_some, show (!((((0 : Nat) : Int)) == 0)) = false from rfl, cond_false]
            rw [sameBytes_self _ hss]
            simp only [Option.bind_some, Bool.not_true, cond_false]
            rw [awake21]
            rfl
end Go.Ab.D

/- Layer 21, the reference: which requests are right. -/
set_option maxRecDepth 100000
namespace Go.Ab.D
theorem ref20_is (h : Int × Int) : ref20_Right fuel h = some (handleB h) := by
  unfold ref20_Right handleB
  by_cases h1 : h.1 ≥ 1 <;> by_cases h2 : h.1 ≤ 500 <;> by_cases h3 : h.2 ≥ 1 <;> by_cases h4 : h.2 ≤ 1099511627776 <;>
    simp [h1, h2, h3, h4] <;> omega
theorem orK {α : Type} (a b : Bool) (S : α) : (bif a then some (true, S) else some (b, S)) = some (a || b, S) := by cases a <;> rfl
theorem orK2 {α : Type} (a b : Bool) (S : α) : (bif a then some (b, S) else some (true, S)) = some (!a || b, S) := by cases a <;> rfl
theorem andK (a b : Bool) : (bif a then some false else some b) = some (!a && b) := by cases a <;> rfl
theorem andK2 (a b : Bool) : (bif a then some b else some false) = some (a && b) := by cases a <;> rfl
theorem selfK {α : Type} (a : Bool) (S : α) : (bif a then some (a, S) else some (false, S)) = some (a, S) := by cases a <;> rfl
theorem beqS (l : List UInt8) : (l == []) = decide (l.length = 0) := by cases l <;> rfl
theorem ref_right (c : CallT) : ref21_RightCall fuel c = some (rightCall c) := by
  obtain ⟨c1, c2, c3, ⟨h1, h2⟩, nm, ⟨t1, t2⟩, nw, off, n, bs⟩ := c
  have key : ∀ k : Nat, c3.toNat = k → ref21_RightCall fuel (c1, c2, c3, (h1, h2), nm, (t1, t2), nw, off, n, bs) = some (rightS (shapeN k) (c1, c2, c3, (h1, h2), nm, (t1, t2), nw, off, n, bs)) := by
    intro k hk
    unfold ref21_RightCall
    simp only
    rw [hk]
    by_cases h1 : k = 1
    · subst h1
      rw [show shapeN 1 = (true, (true, (false, (false, (0, (false, true)))))) from rfl]
      simp only [Int.cast_ofNat_Int, Int.reduceBEq, Option.bind_some, ref20_is, orK, orK2, andK, andK2, Bool.not_true, Bool.not_false, cond_true, cond_false]
      congr 1
      rw [Bool.eq_iff_iff]
      simp only [rightS, ofB, handleB, whoseB, saidB, beqS, Bool.and_eq_true, Bool.or_eq_true, Bool.not_eq_true', Bool.not_eq_false', decide_eq_true_eq, decide_eq_false_iff_not, Bool.or_eq_false_iff, beq_iff_eq, cond_true, cond_false, beq_eq_false_iff_ne, ne_eq, Bool.false_or, Bool.true_or, Bool.true_and, Bool.false_and, Bool.false_eq_true, Bool.or_false, and_true]
      omega
    by_cases h2 : k = 2
    · subst h2
      rw [show shapeN 2 = (true, (true, (false, (false, (0, (false, true)))))) from rfl]
      simp only [Int.cast_ofNat_Int, Int.reduceBEq, Option.bind_some, ref20_is, orK, orK2, andK, andK2, Bool.not_true, Bool.not_false, cond_true, cond_false]
      congr 1
      rw [Bool.eq_iff_iff]
      simp only [rightS, ofB, handleB, whoseB, saidB, beqS, Bool.and_eq_true, Bool.or_eq_true, Bool.not_eq_true', Bool.not_eq_false', decide_eq_true_eq, decide_eq_false_iff_not, Bool.or_eq_false_iff, beq_iff_eq, cond_true, cond_false, beq_eq_false_iff_ne, ne_eq, Bool.false_or, Bool.true_or, Bool.true_and, Bool.false_and, Bool.false_eq_true, Bool.or_false, and_true]
      omega
    by_cases h3 : k = 3
    · subst h3
      rw [show shapeN 3 = (true, (true, (false, (false, (0, (false, true)))))) from rfl]
      simp only [Int.cast_ofNat_Int, Int.reduceBEq, Option.bind_some, ref20_is, orK, orK2, andK, andK2, Bool.not_true, Bool.not_false, cond_true, cond_false]
      congr 1
      rw [Bool.eq_iff_iff]
      simp only [rightS, ofB, handleB, whoseB, saidB, beqS, Bool.and_eq_true, Bool.or_eq_true, Bool.not_eq_true', Bool.not_eq_false', decide_eq_true_eq, decide_eq_false_iff_not, Bool.or_eq_false_iff, beq_iff_eq, cond_true, cond_false, beq_eq_false_iff_ne, ne_eq, Bool.false_or, Bool.true_or, Bool.true_and, Bool.false_and, Bool.false_eq_true, Bool.or_false, and_true]
      omega
    by_cases h4 : k = 4
    · subst h4
      rw [show shapeN 4 = (true, (false, (false, (true, (4096, (false, true)))))) from rfl]
      simp only [Int.cast_ofNat_Int, Int.reduceBEq, Option.bind_some, ref20_is, orK, orK2, andK, andK2, Bool.not_true, Bool.not_false, cond_true, cond_false]
      congr 1
      rw [Bool.eq_iff_iff]
      simp only [rightS, ofB, handleB, whoseB, saidB, beqS, Bool.and_eq_true, Bool.or_eq_true, Bool.not_eq_true', Bool.not_eq_false', decide_eq_true_eq, decide_eq_false_iff_not, Bool.or_eq_false_iff, beq_iff_eq, cond_true, cond_false, beq_eq_false_iff_ne, ne_eq, Bool.false_or, Bool.true_or, Bool.true_and, Bool.false_and, Bool.false_eq_true, Bool.or_false, and_true]
      omega
    by_cases h5 : k = 5
    · subst h5
      rw [show shapeN 5 = (true, (false, (false, (true, (0, (true, true)))))) from rfl]
      simp only [Int.cast_ofNat_Int, Int.reduceBEq, Option.bind_some, ref20_is, orK, orK2, andK, andK2, Bool.not_true, Bool.not_false, cond_true, cond_false]
      congr 1
      rw [Bool.eq_iff_iff]
      simp only [rightS, ofB, handleB, whoseB, saidB, beqS, Bool.and_eq_true, Bool.or_eq_true, Bool.not_eq_true', Bool.not_eq_false', decide_eq_true_eq, decide_eq_false_iff_not, Bool.or_eq_false_iff, beq_iff_eq, cond_true, cond_false, beq_eq_false_iff_ne, ne_eq, Bool.false_or, Bool.true_or, Bool.true_and, Bool.false_and, Bool.false_eq_true, Bool.or_false, and_true]
      omega
    by_cases h6 : k = 6
    · subst h6
      rw [show shapeN 6 = (true, (false, (false, (false, (2147483648, (false, true)))))) from rfl]
      simp only [Int.cast_ofNat_Int, Int.reduceBEq, Option.bind_some, ref20_is, orK, orK2, andK, andK2, Bool.not_true, Bool.not_false, cond_true, cond_false]
      congr 1
      rw [Bool.eq_iff_iff]
      simp only [rightS, ofB, handleB, whoseB, saidB, beqS, Bool.and_eq_true, Bool.or_eq_true, Bool.not_eq_true', Bool.not_eq_false', decide_eq_true_eq, decide_eq_false_iff_not, Bool.or_eq_false_iff, beq_iff_eq, cond_true, cond_false, beq_eq_false_iff_ne, ne_eq, Bool.false_or, Bool.true_or, Bool.true_and, Bool.false_and, Bool.false_eq_true, Bool.or_false, and_true]
      omega
    by_cases h7 : k = 7
    · subst h7
      rw [show shapeN 7 = (true, (true, (false, (false, (0, (false, true)))))) from rfl]
      simp only [Int.cast_ofNat_Int, Int.reduceBEq, Option.bind_some, ref20_is, orK, orK2, andK, andK2, Bool.not_true, Bool.not_false, cond_true, cond_false]
      congr 1
      rw [Bool.eq_iff_iff]
      simp only [rightS, ofB, handleB, whoseB, saidB, beqS, Bool.and_eq_true, Bool.or_eq_true, Bool.not_eq_true', Bool.not_eq_false', decide_eq_true_eq, decide_eq_false_iff_not, Bool.or_eq_false_iff, beq_iff_eq, cond_true, cond_false, beq_eq_false_iff_ne, ne_eq, Bool.false_or, Bool.true_or, Bool.true_and, Bool.false_and, Bool.false_eq_true, Bool.or_false, and_true]
      omega
    by_cases h8 : k = 8
    · subst h8
      rw [show shapeN 8 = (true, (true, (false, (false, (0, (false, true)))))) from rfl]
      simp only [Int.cast_ofNat_Int, Int.reduceBEq, Option.bind_some, ref20_is, orK, orK2, andK, andK2, Bool.not_true, Bool.not_false, cond_true, cond_false]
      congr 1
      rw [Bool.eq_iff_iff]
      simp only [rightS, ofB, handleB, whoseB, saidB, beqS, Bool.and_eq_true, Bool.or_eq_true, Bool.not_eq_true', Bool.not_eq_false', decide_eq_true_eq, decide_eq_false_iff_not, Bool.or_eq_false_iff, beq_iff_eq, cond_true, cond_false, beq_eq_false_iff_ne, ne_eq, Bool.false_or, Bool.true_or, Bool.true_and, Bool.false_and, Bool.false_eq_true, Bool.or_false, and_true]
      omega
    by_cases h9 : k = 9
    · subst h9
      rw [show shapeN 9 = (true, (true, (true, (false, (0, (false, true)))))) from rfl]
      simp only [Int.cast_ofNat_Int, Int.reduceBEq, Option.bind_some, ref20_is, orK, orK2, andK, andK2, Bool.not_true, Bool.not_false, cond_true, cond_false]
      congr 1
      rw [Bool.eq_iff_iff]
      simp only [rightS, ofB, handleB, whoseB, saidB, beqS, Bool.and_eq_true, Bool.or_eq_true, Bool.not_eq_true', Bool.not_eq_false', decide_eq_true_eq, decide_eq_false_iff_not, Bool.or_eq_false_iff, beq_iff_eq, cond_true, cond_false, beq_eq_false_iff_ne, ne_eq, Bool.false_or, Bool.true_or, Bool.true_and, Bool.false_and, Bool.false_eq_true, Bool.or_false, and_true]
      omega
    by_cases h10 : k = 10
    · subst h10
      rw [show shapeN 10 = (true, (true, (false, (false, (4096, (false, true)))))) from rfl]
      simp only [Int.cast_ofNat_Int, Int.reduceBEq, Option.bind_some, ref20_is, orK, orK2, andK, andK2, Bool.not_true, Bool.not_false, cond_true, cond_false]
      congr 1
      rw [Bool.eq_iff_iff]
      simp only [rightS, ofB, handleB, whoseB, saidB, beqS, Bool.and_eq_true, Bool.or_eq_true, Bool.not_eq_true', Bool.not_eq_false', decide_eq_true_eq, decide_eq_false_iff_not, Bool.or_eq_false_iff, beq_iff_eq, cond_true, cond_false, beq_eq_false_iff_ne, ne_eq, Bool.false_or, Bool.true_or, Bool.true_and, Bool.false_and, Bool.false_eq_true, Bool.or_false, and_true]
      omega
    by_cases h11 : k = 11
    · subst h11
      rw [show shapeN 11 = (true, (false, (false, (false, (0, (false, true)))))) from rfl]
      simp only [Int.cast_ofNat_Int, Int.reduceBEq, Option.bind_some, ref20_is, orK, orK2, andK, andK2, Bool.not_true, Bool.not_false, cond_true, cond_false]
      congr 1
      rw [Bool.eq_iff_iff]
      simp only [rightS, ofB, handleB, whoseB, saidB, beqS, Bool.and_eq_true, Bool.or_eq_true, Bool.not_eq_true', Bool.not_eq_false', decide_eq_true_eq, decide_eq_false_iff_not, Bool.or_eq_false_iff, beq_iff_eq, cond_true, cond_false, beq_eq_false_iff_ne, ne_eq, Bool.false_or, Bool.true_or, Bool.true_and, Bool.false_and, Bool.false_eq_true, Bool.or_false, and_true]
      omega
    by_cases h12 : k = 12
    · subst h12
      rw [show shapeN 12 = (false, (false, (false, (false, (0, (false, true)))))) from rfl]
      simp only [Int.cast_ofNat_Int, Int.reduceBEq, Option.bind_some, ref20_is, orK, orK2, andK, andK2, Bool.not_true, Bool.not_false, cond_true, cond_false]
      congr 1
      rw [Bool.eq_iff_iff]
      simp only [rightS, ofB, handleB, whoseB, saidB, beqS, Bool.and_eq_true, Bool.or_eq_true, Bool.not_eq_true', Bool.not_eq_false', decide_eq_true_eq, decide_eq_false_iff_not, Bool.or_eq_false_iff, beq_iff_eq, cond_true, cond_false, beq_eq_false_iff_ne, ne_eq, Bool.false_or, Bool.true_or, Bool.true_and, Bool.false_and, Bool.false_eq_true, Bool.or_false, and_true]
      omega
    have es : shapeN k = (false, (false, (false, (false, (0, (false, false)))))) := by unfold shapeN; simp only [h1, h2, h3, h4, h5, h6, h7, h8, h9, h10, h11, h12, if_false, or_self]
    rw [es]
    simp only [beq_eq_false_iff_ne.2 (show ((k : Nat) : Int) ≠ 1 by omega), beq_eq_false_iff_ne.2 (show ((k : Nat) : Int) ≠ 2 by omega), beq_eq_false_iff_ne.2 (show ((k : Nat) : Int) ≠ 3 by omega), beq_eq_false_iff_ne.2 (show ((k : Nat) : Int) ≠ 4 by omega), beq_eq_false_iff_ne.2 (show ((k : Nat) : Int) ≠ 5 by omega), beq_eq_false_iff_ne.2 (show ((k : Nat) : Int) ≠ 6 by omega), beq_eq_false_iff_ne.2 (show ((k : Nat) : Int) ≠ 7 by omega), beq_eq_false_iff_ne.2 (show ((k : Nat) : Int) ≠ 8 by omega), beq_eq_false_iff_ne.2 (show ((k : Nat) : Int) ≠ 9 by omega), beq_eq_false_iff_ne.2 (show ((k : Nat) : Int) ≠ 10 by omega), beq_eq_false_iff_ne.2 (show ((k : Nat) : Int) ≠ 11 by omega), beq_eq_false_iff_ne.2 (show ((k : Nat) : Int) ≠ 12 by omega), Option.bind_some, ref20_is, orK, orK2, andK, andK2, Bool.not_true, Bool.not_false, cond_true, cond_false, rightS, Bool.false_and]
    (generalize (decide (c1 < 0) || (decide (c1 ≥ 16) || (decide (c2 < 1) || decide (c2 > 1099511627776)))) = x)
    cases x <;> rfl
  exact key _ rfl
end Go.Ab.D

/- The document's layer 1: what the decompiled functions are. -/
set_option maxRecDepth 100000
namespace Go.Ab.D
open Go.P1
attribute [local irreducible] Go.P1.crcT tabI

theorem joined_is {a b : List UInt8} (h : a.length + b.length ≤ 140737488355328) : ref01_joined fuel a b = some (a ++ b) := by
  unfold ref01_joined
  rw [need_true (ble_true (by unfold Go.Ab.room; omega)), need_true (ble_true (by rw [List.length_append]; unfold Go.Ab.room; omega))]
def rvarF (tt : Int × List UInt8) : Option ((Int × List UInt8) ⊕ List UInt8) := ref01_Varint_l0 fuel tt.1 tt.2
theorem rvar_room {l : List UInt8} (hl : l.length + 1 ≤ 140737488355328) : (Nat.ble ((l.length + 1) * 1) Go.Ab.room && Nat.ble (l.length + 1) Go.Ab.room) = true := by
  rw [Nat.mul_one, ble_true (by unfold Go.Ab.room; omega)]; rfl
theorem rvar_loop : ∀ (n m : Nat) (l : List UInt8), n < 18446744073709551616 → (varint n).length ≤ m → l.length + (varint n).length ≤ 140737488355328 → iter m rvarF ((n : Int), l) = some (l ++ varint n) := fun n => by
  induction n using Nat.strongRecOn with
  | _ n ih =>
    intro m l hn hm hl
    by_cases h : n < 128
    · rw [varint_lt h] at hm hl ⊢
      obtain ⟨m, rfl⟩ : ∃ k, m = k + 1 := ⟨m - 1, by simp at hm; omega⟩
      show (rvarF _).ob _ = _
      have : rvarF ((n : Int), l) = some (.inr (l ++ [UInt8.ofNat n])) := by
        show ref01_Varint_l0 fuel (n : Int) l = _
        unfold ref01_Varint_l0
        rw [decide_eq_true (by omega), wu8 ⟨by omega, by omega⟩, byte_nat (by omega)]
        simp only [cond_true, Option.bind_some]
        rw [need_true (rvar_room (by simp at hl; omega))]
      rw [this]
      rfl
    · have h' : 128 ≤ n := by omega
      rw [varint_ge h'] at hm hl ⊢
      simp only [List.length_cons] at hm hl
      obtain ⟨m, rfl⟩ : ∃ k, m = k + 1 := ⟨m - 1, by omega⟩
      have hp := varint_pos (n / 128)
      have q1 := ih (n / 128) (by omega) m (l ++ [UInt8.ofNat (n % 128 + 128)]) (by omega) (by omega) (by simp; omega)
      show (rvarF _).ob _ = _
      have : rvarF ((n : Int), l) = some (.inl (((n / 128 : Nat) : Int), l ++ [UInt8.ofNat (n % 128 + 128)])) := by
        show ref01_Varint_l0 fuel (n : Int) l = _
        unfold ref01_Varint_l0
        have e1 : Int.tmod (n : Int) 128 = ((n % 128 : Nat) : Int) := rfl
        have e2 : Int.tdiv (n : Int) 128 = ((n / 128 : Nat) : Int) := rfl
        have e3 : IntKind.wrap .u8 (IntKind.wrap .u8 ((n % 128 : Nat) : Int) + 128) = ((n % 128 + 128 : Nat) : Int) := by
          rw [wu8 (x := ((n % 128 : Nat) : Int)) ⟨by omega, by omega⟩, wu8 ⟨by omega, by omega⟩]; omega
        rw [decide_eq_false (by omega), e1, e2, e3, byte_nat (by omega)]
        simp only [cond_false, Option.bind_some]
        rw [need_true (rvar_room (by omega)), wu64 ⟨by omega, by omega⟩]
      rw [this]
      show iter m rvarF _ = _
      rw [q1, List.append_assoc]
      rfl
theorem rvarint_is {n : Nat} (hn : n < 18446744073709551616) : ref01_Varint fuel (n : Int) = some (varint n) := by
  unfold ref01_Varint ref01_Varint_l0_it
  have h10 := varint_len10 hn
  have q : iter fuel (fun tt => ref01_Varint_l0 fuel tt.1 tt.2) ((n : Int), []) = some (varint n) := rvar_loop n fuel [] hn (by unfold fuel; omega) (by simp; omega)
  rw [q]
  rfl
theorem ruint_is {n : Nat} (hn : n < 18446744073709551616) {l : List UInt8} (hl : l.length + 10 ≤ 140737488355328) : ref01_Uint fuel l (n : Int) = some (l ++ varint n) := by
  unfold ref01_Uint
  have h10 := varint_len10 hn
  rw [rvarint_is hn]
  simp only [Option.bind_some]
  rw [joined_is (by omega)]
  rfl
theorem rblob_is {l b : List UInt8} (hl : l.length + b.length + 10 ≤ 140737488355328) : ref01_Blob fuel l b = some (l ++ varint b.length ++ b) := by
  unfold ref01_Blob
  have h10 := varint_len10 (n := b.length) (by omega)
  rw [wu64 ⟨by omega, by omega⟩, ruint_is (by omega) (by omega)]
  simp only [Option.bind_some]
  rw [joined_is (by rw [List.length_append]; omega)]
  rfl
theorem rsum_step {T : List Nat} (h : Tab T) {b : List UInt8} (s k : Nat) (hk : k < b.length) (hb : b.length < 9223372036854775807) (hs : s < 4294967296) :
    ref01_Sum_l0 fuel b (tabI T) (s : Int) (k : Int) = some (.inl (((P1.step T s b[k] : Nat) : Int), ((k + 1 : Nat) : Int))) := by
  unfold ref01_Sum_l0
  have hc := b[k].toNat_lt
  have hm : s % 256 < 256 := Nat.mod_lt _ (by omega)
  have hx : s % 256 ^^^ b[k].toNat < 256 := xor_lt8 hm hc
  have e1 : Int.tmod (s : Int) 256 = ((s % 256 : Nat) : Int) := rfl
  have e2 : Int.tdiv (s : Int) 256 = ((s / 256 : Nat) : Int) := rfl
  have e4 : IntKind.wrap .u32 ((b[k].toNat : Nat) : Int) = ((b[k].toNat : Nat) : Int) := wu32 ⟨by omega, by omega⟩
  have e5 : IntKind.wrap .u32 ((s / 256 : Nat) : Int) = ((s / 256 : Nat) : Int) := wu32 ⟨by omega, by omega⟩
  have e3 : IntKind.wrap .i64 ((k : Int) + 1) = ((k + 1 : Nat) : Int) := by rw [w64 ⟨by omega, by omega⟩]; omega
  have ht := h.lt (s % 256 ^^^ b[k].toNat)
  rw [decide_eq_true (by omega), idx_nat hk]
  simp only [cond_true, Option.bind_some, List.getElem?_eq_getElem hk, e1, e2, e4, e5, xor32 (show s % 256 < 4294967296 by omega) (show b[k].toNat < 4294967296 by omega)]
  rw [idx_nat hx]
  simp only [Option.bind_some, tabI_get h hx, e3]
  rw [xor32 (by omega) ht]
  rfl
theorem rsum_is {T : List Nat} (h : Tab T) {b : List UInt8} (hb : b.length < 4611686018427387904) : ref01_Sum fuel (tabI T) b = some ((P1.sum T b : Nat) : Int) := by
  unfold ref01_Sum ref01_Sum_l0_it
  have e : iter fuel (fun tt => ref01_Sum_l0 fuel b (tabI T) tt.1 tt.2) (4294967295, 0) = some ((P1.run T 4294967295 b : Nat) : Int) := by
    have := iter_range (f := fun (tt : Int × Int) => ref01_Sum_l0 fuel b (tabI T) tt.1 tt.2) (o := ((P1.run T 4294967295 b : Nat) : Int)) (fun k => (((P1.run T 4294967295 (b.take k) : Nat) : Int), (k : Int))) b.length hb
      (fun k hk => by
        show ref01_Sum_l0 fuel b (tabI T) (((P1.run T 4294967295 (b.take k) : Nat) : Int)) (k : Int) = _
        rw [rsum_step h _ k hk (by omega) (P1.run_lt h _ (by omega))]
        rw [List.take_succ_eq_append_getElem hk, P1.run_snoc])
      (by
        simp only [List.take_length]
        unfold ref01_Sum_l0
        rw [decide_eq_false (by omega)]
        rfl)
    simpa [P1.run] using this
  rw [e]
  have hl := P1.run_lt h b (s := 4294967295) (by omega)
  simp only [Option.bind_some]
  rw [wu32 ⟨by omega, by omega⟩]
  congr 1
  unfold P1.sum
  omega
theorem rseal_is {T : List Nat} (h : Tab T) {b : List UInt8} (hb : b.length + 4 ≤ 140737488355328) : ref01_Seal fuel (tabI T) b = some (sealed (P1.sum T) b) := by
  unfold ref01_Seal
  rw [rsum_is h (by omega)]
  simp only [Option.bind_some]
  have hs := P1.sum_lt T b
  obtain ⟨s, hsv⟩ : ∃ s, P1.sum T b = s := ⟨_, rfl⟩
  rw [hsv] at hs ⊢
  have e : ∀ d : Nat, 0 < d → byte? (IntKind.wrap .u8 (IntKind.wrap .u32 (Int.tdiv (s : Int) (d : Int)))) = some (UInt8.ofNat (s / d)) := fun d hd => by
    have e1 : Int.tdiv (s : Int) (d : Int) = ((s / d : Nat) : Int) := rfl
    have hle : s / d ≤ s := Nat.div_le_self _ _
    rw [e1]
    generalize s / d = x at hle ⊢
    rw [wu32 ⟨by omega, by omega⟩, wu8_mod]
    have e2 : ((x : Int) % 256) = ((x % 256 : Nat) : Int) := by omega
    rw [e2, byte_nat (Nat.mod_lt _ (by omega))]
    congr 1
    apply UInt8.toNat_inj.1
    simp
  have e0 : byte? (IntKind.wrap .u8 (s : Int)) = some (UInt8.ofNat s) := by
    rw [wu8_mod]
    have e2 : ((s : Int) % 256) = ((s % 256 : Nat) : Int) := by omega
    rw [e2, byte_nat (Nat.mod_lt _ (by omega))]
    congr 1
    apply UInt8.toNat_inj.1
    simp
  have e1 := e 16777216 (by omega)
  have e2 := e 65536 (by omega)
  have e3 := e 256 (by omega)
  have e1' : byte? (IntKind.wrap .u8 (IntKind.wrap .u32 (Int.tdiv (s : Int) 16777216))) = some (UInt8.ofNat (s / 16777216)) := e1
  have e2' : byte? (IntKind.wrap .u8 (IntKind.wrap .u32 (Int.tdiv (s : Int) 65536))) = some (UInt8.ofNat (s / 65536)) := e2
  have e3' : byte? (IntKind.wrap .u8 (IntKind.wrap .u32 (Int.tdiv (s : Int) 256))) = some (UInt8.ofNat (s / 256)) := e3
  rw [e1', e2', e3', e0]
  simp only [Option.bind_some]
  rw [joined_is (by simp; omega)]
  simp only [Option.bind_some]
  unfold sealed be4
  rw [hsv]
theorem runseal_is {T : List Nat} (h : Tab T) {b : List UInt8} (hb : b.length ≤ 140737488355328) : ref01_Unseal fuel (tabI T) b = some ((unsealed (P1.sum T) b).1, (((unsealed (P1.sum T) b).2 : Nat) : Int)) := by
  unfold ref01_Unseal
  by_cases h4 : b.length < 4
  · rw [decide_eq_true (by omega), unsealed_short _ h4]
    rfl
  · rw [decide_eq_false (by omega)]
    have e0 : IntKind.wrap .i64 (((b.length : Nat) : Int) - 4) = ((b.length - 4 : Nat) : Int) := by rw [w64 ⟨by omega, by omega⟩]; omega
    have hl : (b.take (b.length - 4)).length = b.length - 4 := by simp
    simp only [cond_false]
    rw [e0, upto_nat (by omega)]
    simp only [Option.bind_some]
    rw [joined_is (by rw [hl]; simp; omega), List.nil_append]
    simp only [Option.bind_some]
    rw [rseal_is h (by rw [hl]; omega)]
    simp only [Option.bind_some]
    rw [unsealed_is _ (by omega)]
    by_cases he : sealed (P1.sum T) (b.take (b.length - 4)) = b
    · rw [if_pos he]
      simp [he]
    · rw [if_neg he]
      have : (sealed (P1.sum T) (b.take (b.length - 4)) == b) = false := by simpa using he
      rw [this]
      rfl
def rgetF (at_ : Int) (b : List UInt8) (tt : Int × (Int × Int)) : Option ((Int × (Int × Int)) ⊕ (Int × (Int × Int))) := ref01_GetUint_l0 fuel at_ b tt.1 tt.2.1 tt.2.2
def rgetRes (at_ : Nat) (r : Nat × Nat × Nat) : Int × (Int × Int) := if r.2.2 = 0 then ((r.1 : Int), (((at_ + r.2.1 : Nat) : Int), 0)) else (0, (0, ((r.2.2 : Nat) : Int)))
theorem pow_le63 {k : Nat} (hk : k ≤ 9) : 2 ^ (7 * k) ≤ 9223372036854775808 := P1.wlt hk
theorem rget_step {b : List UInt8} {at_ k n : Nat} (hb : b.length < 4611686018427387904) (hk : k ≤ 9) (hn : n < 2 ^ (7 * k)) (hlt : at_ + k < b.length) :
    rgetF (at_ : Int) b ((n : Int), (((2 ^ (7 * k) : Nat) : Int), (k : Int))) =
      if (0 < k ∧ b[at_ + k].toNat = 0) ∨ (8 < k ∧ 1 < b[at_ + k].toNat) then some (.inr (0, (0, 10)))
      else if b[at_ + k].toNat < 128 then some (.inr (((n + b[at_ + k].toNat % 128 * 2 ^ (7 * k) : Nat) : Int), (((at_ + k + 1 : Nat) : Int), 0)))
      else some (.inl (((n + b[at_ + k].toNat % 128 * 2 ^ (7 * k) : Nat) : Int), (IntKind.wrap .u64 (((2 ^ (7 * k) : Nat) : Int) * 128), ((k + 1 : Nat) : Int)))) := by
  show ref01_GetUint_l0 fuel (at_ : Int) b (n : Int) ((2 ^ (7 * k) : Nat) : Int) (k : Int) = _
  unfold ref01_GetUint_l0
  obtain ⟨c, hcc⟩ : ∃ c, b[at_ + k] = c := ⟨_, rfl⟩
  have hc8 := c.toNat_lt
  have e1 : IntKind.wrap .i64 ((at_ : Int) + (k : Int)) = ((at_ + k : Nat) : Int) := by rw [w64 ⟨by omega, by omega⟩]; omega
  have ek : IntKind.wrap .i64 ((k : Int) + 1) = ((k + 1 : Nat) : Int) := by rw [w64 ⟨by omega, by omega⟩]; omega
  have ne : ((((at_ + k : Nat) : Int)) == ((b.length : Nat) : Int)) = false := beq_eq_false_iff_ne.2 (by omega)
  rw [e1, ne, idx_nat hlt, ek]
  simp only [cond_false, Option.bind_some, List.getElem?_eq_getElem hlt, hcc]
  have hz : (((c.toNat : Nat) : Int) == 0) = decide (c.toNat = 0) := by
    by_cases h : c.toNat = 0
    · simp [h]
    · rw [decide_eq_false h, beq_eq_false_iff_ne]; omega
  have h10 : ((((k + 1 : Nat) : Int)) == 10) = decide (8 < k) := by
    by_cases h : k = 9
    · subst h; rfl
    · rw [decide_eq_false (by omega), beq_eq_false_iff_ne]; omega
  have hk1 : decide ((((k + 1 : Nat) : Int)) > 1) = decide (0 < k) := by
    by_cases h : 0 < k
    · rw [decide_eq_true h, decide_eq_true (by omega)]
    · rw [decide_eq_false h, decide_eq_false (by omega)]
  rw [hz, h10, hk1]
  have hguard : (bif decide (0 < k) then bif decide (c.toNat = 0) then some true else bif decide (8 < k) then some (decide (((c.toNat : Nat) : Int) > 1)) else some false
      else bif decide (8 < k) then some (decide (((c.toNat : Nat) : Int) > 1)) else some false) = some (decide ((0 < k ∧ c.toNat = 0) ∨ (8 < k ∧ 1 < c.toNat))) := by
    have e : decide (((c.toNat : Nat) : Int) > 1) = decide (1 < c.toNat) := by
      by_cases h : 1 < c.toNat
      · rw [decide_eq_true h, decide_eq_true (by omega)]
      · rw [decide_eq_false h, decide_eq_false (by omega)]
    rw [e]
    by_cases h1 : 0 < k <;> by_cases h2 : c.toNat = 0 <;> by_cases h3 : 8 < k <;> simp [h1, h2, h3]
  rw [hguard]
  simp only [Option.bind_some]
  have hp := pow_le63 hk
  by_cases hbad : (0 < k ∧ c.toNat = 0) ∨ (8 < k ∧ 1 < c.toNat)
  · rw [if_pos hbad, decide_eq_true hbad]
    rfl
  · rw [if_neg hbad, decide_eq_false hbad]
    have hroom := P1.room n c.toNat k hk hn (fun h8 => by omega)
    have ep : (((2 ^ (7 * k) : Nat) : Int)) * ((c.toNat % 128 : Nat) : Int) = ((c.toNat % 128 * 2 ^ (7 * k) : Nat) : Int) := by rw [Int.mul_comm, ← Int.natCast_mul]
    have e2 : IntKind.wrap .i64 ((at_ : Int) + ((k + 1 : Nat) : Int)) = ((at_ + k + 1 : Nat) : Int) := by rw [w64 ⟨by omega, by omega⟩]; omega
    simp only [cond_false]
    by_cases h128 : c.toNat < 128
    · have em : c.toNat % 128 = c.toNat := Nat.mod_eq_of_lt h128
      have ew : IntKind.wrap .u64 ((n : Int) + IntKind.wrap .u64 (((2 ^ (7 * k) : Nat) : Int) * IntKind.wrap .u64 ((c.toNat : Nat) : Int))) = ((n + c.toNat % 128 * 2 ^ (7 * k) : Nat) : Int) := by
        rw [wu64 (x := ((c.toNat : Nat) : Int)) ⟨by omega, by omega⟩]
        rw [em] at ep hroom ⊢
        rw [ep, wu64 (x := ((c.toNat * 2 ^ (7 * k) : Nat) : Int)) ⟨by omega, by omega⟩, wu64 ⟨by omega, by omega⟩]
        omega
      rw [if_pos h128, decide_eq_true (show ((c.toNat : Nat) : Int) < 128 by omega), ew, e2]
      rfl
    · have em : IntKind.wrap .u8 (((c.toNat : Nat) : Int) - 128) = ((c.toNat % 128 : Nat) : Int) := by rw [wu8 ⟨by omega, by omega⟩]; omega
      have hm : c.toNat % 128 < 128 := Nat.mod_lt _ (by omega)
      have ew : IntKind.wrap .u64 ((n : Int) + IntKind.wrap .u64 (((2 ^ (7 * k) : Nat) : Int) * IntKind.wrap .u64 (IntKind.wrap .u8 (((c.toNat : Nat) : Int) - 128)))) = ((n + c.toNat % 128 * 2 ^ (7 * k) : Nat) : Int) := by
        rw [em, wu64 (x := ((c.toNat % 128 : Nat) : Int)) ⟨by omega, by omega⟩, ep, wu64 (x := ((c.toNat % 128 * 2 ^ (7 * k) : Nat) : Int)) ⟨by omega, by omega⟩, wu64 ⟨by omega, by omega⟩]
        omega
      rw [if_neg h128, decide_eq_false (show ¬ ((c.toNat : Nat) : Int) < 128 by omega), ew]
      rfl
theorem rget_loop {b : List UInt8} {at_ : Nat} (hb : b.length < 4611686018427387904) : ∀ (rem k n m : Nat), at_ + k + rem = b.length → rem < m → k ≤ 9 → n < 2 ^ (7 * k) →
    iter m (rgetF (at_ : Int) b) ((n : Int), (((2 ^ (7 * k) : Nat) : Int), (k : Int))) = some (rgetRes at_ (num (b.drop (at_ + k)) k n))
  | 0, k, n, m, h, hm, hk, hn => by
    obtain ⟨m, rfl⟩ : ∃ j, m = j + 1 := ⟨m - 1, by omega⟩
    have : b.drop (at_ + k) = [] := List.drop_of_length_le (by omega)
    rw [this]
    show (rgetF (at_ : Int) b _).ob _ = _
    have e : rgetF (at_ : Int) b ((n : Int), (((2 ^ (7 * k) : Nat) : Int), (k : Int))) = some (.inr (0, (0, 11))) := by
      show ref01_GetUint_l0 fuel (at_ : Int) b (n : Int) ((2 ^ (7 * k) : Nat) : Int) (k : Int) = _
      unfold ref01_GetUint_l0
      have e1 : IntKind.wrap .i64 ((at_ : Int) + (k : Int)) = ((at_ + k : Nat) : Int) := by rw [w64 ⟨by omega, by omega⟩]; omega
      have ne : ((((at_ + k : Nat) : Int)) == ((b.length : Nat) : Int)) = true := beq_iff_eq.2 (by omega)
      rw [e1, ne]
      rfl
    rw [e]
    rfl
  | rem + 1, k, n, m, h, hm, hk, hn => by
    obtain ⟨m, rfl⟩ : ∃ j, m = j + 1 := ⟨m - 1, by omega⟩
    have hlt : at_ + k < b.length := by omega
    rw [drop_at hlt]
    show (rgetF (at_ : Int) b _).ob _ = _
    rw [rget_step hb hk hn hlt]
    by_cases hbad : (0 < k ∧ b[at_ + k].toNat = 0) ∨ (8 < k ∧ 1 < b[at_ + k].toNat)
    · rw [if_pos hbad, num_bad hbad]
      rfl
    · rw [if_neg hbad]
      by_cases h128 : b[at_ + k].toNat < 128
      · rw [if_pos h128, num_end hbad h128]
        show some _ = some _
        simp [rgetRes]
        omega
      · rw [if_neg h128, num_step hbad (by omega)]
        have hroom := P1.room n b[at_ + k].toNat k hk hn (fun h8 => by omega)
        have hk8 : k ≤ 8 := by
          by_cases h9 : k ≤ 8
          · exact h9
          · exfalso; exact hbad (.inr ⟨by omega, by omega⟩)
        have hp := pow_le63 (k := k + 1) (by omega)
        have e7 := pow7 k
        have ew : IntKind.wrap .u64 (((2 ^ (7 * k) : Nat) : Int) * 128) = ((2 ^ (7 * (k + 1)) : Nat) : Int) := by
          rw [e7] at hp ⊢
          rw [wu64 ⟨by omega, by omega⟩]
          omega
        rw [ew]
        exact rget_loop (at_ := at_) hb rem (k + 1) (n + b[at_ + k].toNat % 128 * 2 ^ (7 * k)) m (by omega) (by omega) (by omega) (hroom.2 hk8)
theorem rgetUint_is {b : List UInt8} {at_ : Int} (hb : b.length < 4611686018427387904) : ref01_GetUint fuel b at_ = some ((((getUint b at_).1 : Nat) : Int), ((((getUint b at_).2.1 : Nat) : Int), (((getUint b at_).2.2 : Nat) : Int))) := by
  unfold ref01_GetUint
  by_cases hout : at_ < 0 ∨ (b.length : Int) < at_
  · rw [getUint_out hout]
    rcases hout with h | h
    · rw [decide_eq_true h]
      rfl
    · by_cases h0 : at_ < 0
      · rw [decide_eq_true h0]; rfl
      · rw [decide_eq_false h0, decide_eq_true (show at_ > ((b.length : Nat) : Int) by omega)]
        rfl
  · obtain ⟨a, rfl⟩ : ∃ a : Nat, at_ = a := ⟨at_.toNat, by omega⟩
    rw [decide_eq_false (by omega), decide_eq_false (by omega)]
    simp only [cond_false, Option.bind_some]
    unfold ref01_GetUint_l0_it
    have hl : iter fuel (fun tt => ref01_GetUint_l0 fuel (a : Int) b tt.1 tt.2.1 tt.2.2) ((0 : Int), ((1 : Int), (0 : Int))) = some (rgetRes a (num (b.drop a) 0 0)) :=
      rget_loop hb (b.length - a) 0 0 fuel (by omega) (by unfold fuel; omega) (by omega) (by decide)
    rw [hl]
    simp only [Option.bind_some]
    rw [getUint_drop (by omega)]
    unfold rgetRes
    by_cases h0 : (num (b.drop a) 0 0).2.2 = 0
    · rw [if_pos h0, if_pos h0]; rfl
    · rw [if_neg h0, if_neg h0]; rfl
theorem rgetBlob_is {b : List UInt8} {at_ most : Int} (hb : b.length ≤ 140737488355328) (hm : most ≤ 9223372036854775807) : ref01_GetBlob fuel b at_ most = some ((((getBlob b at_ most).2.1 : Nat) : Int), ((((getBlob b at_ most).2.2 : Nat) : Int), (getBlob b at_ most).1)) := by
  unfold ref01_GetBlob
  rw [rgetUint_is (by omega)]
  simp only [Option.bind_some]
  obtain ⟨n, j, e, hu⟩ : ∃ n j e, getUint b at_ = (n, j, e) := ⟨_, _, _, rfl⟩
  have hfit := getUint_fits b at_
  rw [hu] at hfit ⊢
  simp only at hfit ⊢
  by_cases he : e = 0
  · subst he
    have e0 : (!(((0 : Nat) : Int) == 0)) = false := rfl
    rw [e0]
    simp only [cond_false]
    by_cases hmost : most < 0 ∨ most < n
    · rw [getBlob_long hu hmost]
      by_cases h0 : most < 0
      · rw [decide_eq_true h0]; rfl
      · rw [decide_eq_false h0, wu64 ⟨by omega, by omega⟩, decide_eq_true (show ((n : Nat) : Int) > most by omega)]
        rfl
    · rw [decide_eq_false (show ¬ most < 0 by omega), wu64 (x := most) ⟨by omega, by omega⟩, decide_eq_false (show ¬ ((n : Nat) : Int) > most by omega)]
      simp only [cond_false, Option.bind_some]
      have hj : j ≤ b.length := hfit.2.1
      rw [wu64 ⟨by omega, by omega⟩]
      by_cases hs : b.length - j < n
      · rw [getBlob_short hu hmost hs]
        by_cases hs2 : b.length < n
        · rw [decide_eq_true (by omega)]; rfl
        · rw [decide_eq_false (by omega), w64 (x := (n : Int)) ⟨by omega, by omega⟩, w64 ⟨by omega, by omega⟩, decide_eq_true (by omega)]
          rfl
      · have e1 : IntKind.wrap .i64 ((j : Int) + IntKind.wrap .i64 (n : Int)) = ((j + n : Nat) : Int) := by
          rw [w64 (x := (n : Int)) ⟨by omega, by omega⟩, w64 ⟨by omega, by omega⟩]; omega
        have hle : j + n ≤ b.length := by omega
        rw [getBlob_ok hu hmost hs, decide_eq_false (by omega), e1, decide_eq_false (by omega), upto_nat hle]
        simp only [cond_false, Option.bind_some]
        rw [upto_nat (show j ≤ j + n by omega)]
        simp only [Option.bind_some]
        have hc : List.drop j (List.take (j + n) b) = List.take n (List.drop j b) := by
          rw [List.drop_take]; congr 1; omega
        have hl : (List.take n (List.drop j b)).length = n := by rw [List.length_take, List.length_drop]; omega
        rw [hc, joined_is (by rw [hl, List.length_nil]; omega), List.nil_append]
        rfl
  · have e0 : (!(((e : Nat) : Int) == 0)) = true := by
      have : (((e : Nat) : Int) == 0) = false := by rw [beq_eq_false_iff_ne]; omega
      rw [this]; rfl
    rw [getBlob_err hu he, e0]
    rfl
end Go.Ab.D

/- Layer 21, the reference: requests and answers put. -/
set_option maxRecDepth 100000
namespace Go.Ab.D
open Go Go.Ab Go.P1 Go.P21
attribute [local irreducible] Go.P1.crcT tabI
theorem ruints_is {l : List Int} (hl : l.length ≤ 100) (hn : ∀ n ∈ l, 0 ≤ n ∧ n ≤ 9223372036854775807) {h : List UInt8} (hh : h.length ≤ 100000000) : ref21_uints_o0o1 fuel h l = some (l, h ++ nums l) := by
  unfold ref21_uints_o0o1 ref21_uints_o0o1_l0_it
  have hlen : ∀ k, ((l.take k).flatMap vi).length ≤ 10 * l.length := fun k => by
    have h1 := nums_len (r := l.take k) fun n hn' => hn n (List.mem_of_mem_take hn')
    have : (l.take k).length ≤ l.length := by simp; omega
    omega
  have := iter_range (f := fun tt : Int × (List UInt8 × List Int) => ref21_uints_o0o1_l0 fuel tt.1 tt.2.1 tt.2.2) (o := (h ++ nums l, l)) (fun k => ((k : Int), (h ++ (l.take k).flatMap vi, l))) l.length (by omega)
    (fun k hk => by
      have h0 := hn l[k] (List.getElem_mem hk)
      obtain ⟨n, hn'⟩ : ∃ n : Nat, l[k] = (n : Int) := ⟨l[k].toNat, by omega⟩
      have hg : l[k]? = some (n : Int) := by rw [List.getElem?_eq_getElem hk, hn']
      have htk : (l.take (k + 1)).flatMap vi = (l.take k).flatMap vi ++ varint n := by
        rw [List.take_succ_eq_append_getElem hk, List.flatMap_append, hn']; unfold vi; simp
      show ref21_uints_o0o1_l0 fuel (k : Int) (h ++ (l.take k).flatMap vi) l = some (.inl (((k + 1 : Nat) : Int), (h ++ (l.take (k + 1)).flatMap vi, l)))
      have hlk := hlen k
      unfold ref21_uints_o0o1_l0
      rw [decide_eq_true (by omega), idx_nat hk]
      simp only [cond_true, Option.bind_some, hg]
      rw [wu64 ⟨by omega, by omega⟩, ruint_is (by omega) (by rw [List.length_append]; omega)]
      simp only [Option.bind_some]
      rw [w64 ⟨by omega, by omega⟩, htk, List.append_assoc]
      rfl)
    (by
      show ref21_uints_o0o1_l0 fuel ((l.length : Nat) : Int) (h ++ (l.take l.length).flatMap vi) l = _
      unfold ref21_uints_o0o1_l0
      rw [decide_eq_false (by omega), List.take_length]; rfl)
  have e0 : ((0, (h, l)) : Int × (List UInt8 × List Int)) = (((0 : Nat) : Int), (h ++ (l.take 0).flatMap vi, l)) := by simp
  rw [e0, this]
  rfl
theorem rcall_is {c : Go.P21.CallT} (hR : RightC c) : ref21_call fuel c = some (3 :: callB c) := by
  have hf := hR.fits
  obtain ⟨c1, c2, c3, ⟨h1, h2⟩, nm, ⟨t1, t2⟩, nw, off, n, bs⟩ := c
  obtain ⟨k1, k2, k3, k4, k5, k6, k7, k8, k9, k10, k11⟩ := hf
  simp only at k1 k2 k3 k4 k5 k6 k7 k8 k9 k10 k11
  have k0 := c3.toNat_lt
  unfold ref21_call
  simp only
  have hn9 : ∀ y ∈ [c1, c2, ((c3.toNat : Nat) : Int), h1, h2, t1, t2, off, n], 0 ≤ y ∧ y ≤ 9223372036854775807 := by
    intro x hx
    simp only [List.mem_cons, List.mem_nil_iff, or_false] at hx
    rcases hx with rfl | rfl | rfl | rfl | rfl | rfl | rfl | rfl | rfl <;> omega
  have hN := nums9_len rfl hn9
  rw [w64 (x := ((c3.toNat : Nat) : Int)) ⟨by omega, by omega⟩, ruints_is (by simp) hn9 (by simp)]
  simp only [Option.bind_some]
  have w1 := varint_len10 (n := nm.length) (by omega)
  have w2 := varint_len10 (n := nw.length) (by omega)
  have w3 := varint_len10 (n := bs.length) (by omega)
  rw [need_true (ble_true (by rw [roomIs]; omega)), rblob_is (by simp only [List.length_append, List.length_cons, List.length_nil]; omega)]
  simp only [Option.bind_some]
  rw [need_true (ble_true (by rw [roomIs]; omega)), rblob_is (by simp only [List.length_append, List.length_cons, List.length_nil]; omega)]
  simp only [Option.bind_some]
  rw [rblob_is (by simp only [List.length_append, List.length_cons, List.length_nil]; omega)]
  simp only [Option.bind_some]
  unfold nums callB blobB
  simp only [List.flatMap_cons, List.flatMap_nil, List.append_nil, List.append_assoc, List.cons_append, List.nil_append]
  rfl
theorem rputCall_is {T : List Nat} (hT : Tab T) (c : Go.P21.CallT) : ref21_PutCall fuel (tabI T) c = some (((putCall T c).1 : Int), (putCall T c).2) := by
  unfold putCall
  cases hr : rightCall c with
  | false =>
    obtain ⟨c1, c2, c3, ⟨h1, h2⟩, nm, ⟨t1, t2⟩, nw, off, n, bs⟩ := c
    unfold ref21_PutCall
    rw [byteU]
    simp only [Option.bind_some]
    rw [ref_right, hr]
    rfl
  | true =>
    have hR := right_of hr
    have hlen := callB_len hR
    rw [if_pos rfl]
    obtain ⟨c1, c2, c3, ⟨h1, h2⟩, nm, ⟨t1, t2⟩, nw, off, n, bs⟩ := c
    unfold ref21_PutCall
    rw [byteU]
    simp only [Option.bind_some]
    rw [ref_right, hr]
    simp only [Option.bind_some, Bool.not_true, cond_false]
    rw [rcall_is hR]
    simp only [Option.bind_some]
    rw [rseal_is hT (by simp only [List.length_cons]; omega)]
    rfl
/-! Answers -/
theorem rentl_is {x1 x2 x3 h1 h2 : Int} {d : Bool} {sz : Int} {bs : List UInt8} {es : List EntT} {mo : Bool} {fr : Int} (hes : es.length < 4611686018427387904) :
    ref21_RightReply_l0_it fuel (0, (x1, (x2, (x3, (h1, (h2, (d, (sz, (bs, (es, (mo, fr))))))))))) = some (if es.all entOk = true then .inl () else .inr false) := by
  unfold ref21_RightReply_l0_it
  have := iter_ex (f := fun tt : Int × (Int × (Int × (Int × (Int × (Int × (Bool × (Int × (List UInt8 × (List EntT × (Bool × Int)))))))))) => ref21_RightReply_l0 fuel tt.1 tt.2.1 tt.2.2.1 tt.2.2.2.1 tt.2.2.2.2.1 tt.2.2.2.2.2.1 tt.2.2.2.2.2.2.1 tt.2.2.2.2.2.2.2.1 tt.2.2.2.2.2.2.2.2.1 tt.2.2.2.2.2.2.2.2.2.1 tt.2.2.2.2.2.2.2.2.2.2.1 tt.2.2.2.2.2.2.2.2.2.2.2)
    (fun n s => ∃ k : Nat, s = ((k : Int), (x1, (x2, (x3, (h1, (h2, (d, (sz, (bs, (es, (mo, fr))))))))))) ∧ k + n = es.length ∧ (es.take k).all entOk = true)
    (fun o => o = if es.all entOk = true then .inl () else .inr false)
    (fun n s ⟨k, hs, hk, ha⟩ => by
      subst hs
      have hk' : k < es.length := by omega
      show (∃ s', ref21_RightReply_l0 fuel (k : Int) x1 x2 x3 h1 h2 d sz bs es mo fr = _ ∧ _) ∨ ∃ o, ref21_RightReply_l0 fuel (k : Int) x1 x2 x3 h1 h2 d sz bs es mo fr = _ ∧ _
      unfold ref21_RightReply_l0
      try simp only
      rw [decide_eq_true (show (k : Int) < ((es.length : Nat) : Int) by omega), idx_nat hk', w64 (x := (k : Int) + 1) ⟨by omega, by omega⟩]
      simp only [cond_true, Option.bind_some, List.getElem?_eq_getElem hk']
      have htk : (es.take (k + 1)).all entOk = ((es.take k).all entOk && entOk es[k]) := by rw [List.take_succ_eq_append_getElem hk', List.all_append]; simp
      have hbad : entOk es[k] = false → es.all entOk = false := fun h => by
        rw [List.all_eq_false]
        exact ⟨es[k], List.getElem_mem hk', by rw [h]; simp⟩
      generalize es[k] = en at htk hbad ⊢
      obtain ⟨nm, id⟩ := en
      by_cases g : entOk (nm, id) = true
      · left
        have g' := g
        unfold entOk at g'
        simp only [decide_eq_true_eq] at g'
        rw [decide_eq_false (show ¬ ((nm.length : Nat) : Int) < 1 by omega), decide_eq_false (show ¬ ((nm.length : Nat) : Int) > 100 by omega), decide_eq_false (show ¬ id < 1 by omega), decide_eq_false (show ¬ id > 500 by omega)]
        exact ⟨_, rfl, k + 1, rfl, by omega, by rw [htk, ha, g]; rfl⟩
      · right
        have g0 : entOk (nm, id) = false := by simpa using g
        rw [hbad g0]
        refine ⟨_, ?_, rfl⟩
        have g' := g0
        unfold entOk at g'
        simp only [decide_eq_false_iff_not] at g'
        by_cases q1 : ((nm.length : Nat) : Int) < 1
        · rw [decide_eq_true q1]; rfl
        · by_cases q2 : ((nm.length : Nat) : Int) > 100
          · rw [decide_eq_false q1, decide_eq_true q2]; rfl
          · by_cases q3 : id < 1
            · rw [decide_eq_false q1, decide_eq_false q2, decide_eq_true q3]; rfl
            · have q4 : id > 500 := by omega
              rw [decide_eq_false q1, decide_eq_false q2, decide_eq_false q3, decide_eq_true q4]; rfl)
    (fun s ⟨k, hs, hk, ha⟩ => by
      subst hs
      have : k = es.length := by omega
      subst this
      rw [List.take_length] at ha
      rw [ha]
      refine ⟨_, ?_, rfl⟩
      show ref21_RightReply_l0 fuel ((es.length : Nat) : Int) x1 x2 x3 h1 h2 d sz bs es mo fr = _
      unfold ref21_RightReply_l0
      try simp only
      rw [decide_eq_false (by omega)]
      rfl)
    es.length (0, (x1, (x2, (x3, (h1, (h2, (d, (sz, (bs, (es, (mo, fr))))))))))) hes ⟨0, rfl, by omega, by simp⟩
  obtain ⟨o, e1, e2⟩ := this
  rw [e1, e2]
theorem condK {α : Type} (a : Bool) (x y : Bool) (S : α) : (bif a then some (x, S) else some (y, S)) = some (bif a then x else y, S) := by cases a <;> rfl
theorem beqL {α : Type} (l : List α) : (((l.length : Nat) : Int) == 0) = decide (l.length = 0) := by
  by_cases h : l.length = 0
  · rw [h]; rfl
  · rw [decide_eq_false h]; exact beq_eq_false_iff_ne.2 (by omega)
theorem condOr (a b : Bool) : (bif a then true else b) = (a || b) := by cases a <;> rfl
theorem rright_is {r : ReplyT} (he : r.2.2.2.2.2.2.2.1.length < 1000000000000000000) : ref21_RightReply fuel r = some (rightReply r) := by
  obtain ⟨x1, x2, x3, ⟨h1, h2⟩, d, sz, bs, es, mo, fr⟩ := r
  simp only at he
  unfold ref21_RightReply
  simp only [orK, ref20_is, Option.bind_some, condK, andK2]
  rw [rentl_is (by omega)]
  simp only [Option.bind_some]
  by_cases hx : x3 = 0
  · subst hx
    simp only [beq_self_eq_true, Bool.not_true, cond_false]
    by_cases ha : es.all entOk = true
    · rw [if_pos ha]
      simp only [andK]
      congr 1
      rw [Bool.eq_iff_iff]
      unfold rightReply
      simp only [ha, noneB, handleB, whoseB]
      generalize hz : (h1 == 0 && h2 == 0) = z
      cases z <;> simp only [Bool.not_true, Bool.not_false, Bool.and_eq_true, Bool.or_eq_true, Bool.not_eq_true', Bool.not_eq_false', decide_eq_true_eq, decide_eq_false_iff_not, Bool.or_eq_false_iff, beq_iff_eq, cond_true, cond_false, beq_eq_false_iff_ne, ne_eq, Bool.false_or, Bool.true_or, Bool.true_and, Bool.false_and, Bool.false_eq_true, Bool.or_false, and_true, not_true, not_false_iff, if_true, if_false, condOr, true_and, Bool.and_true, Bool.true_or] <;> omega
    · rw [if_neg ha]
      have hr : rightReply (x1, x2, 0, (h1, h2), d, sz, bs, es, mo, fr) = false := by
        unfold rightReply
        have ha' : es.all entOk = false := by simpa using ha
        simp only [ha', Bool.false_and, Bool.and_false, ne_eq, not_true, if_false]
      rw [hr]
      simp only [andK, Bool.and_false]
  · rw [beq_eq_false_iff_ne.2 hx]
    simp only [Bool.not_false, cond_true, andK, andK2, Option.bind_some]
    congr 1
    rw [Bool.eq_iff_iff]
    unfold rightReply
    simp only [noneB, handleB, whoseB, beqL, hx, Bool.and_eq_true, Bool.or_eq_true, Bool.not_eq_true', Bool.not_eq_false', decide_eq_true_eq, decide_eq_false_iff_not, Bool.or_eq_false_iff, beq_iff_eq, cond_true, cond_false, beq_eq_false_iff_ne, ne_eq, Bool.false_or, Bool.true_or, Bool.true_and, Bool.false_and, Bool.false_eq_true, Bool.or_false, and_true, not_true, not_false_iff, if_true, if_false, condOr, true_and, Bool.and_true, Bool.true_or, ← List.length_eq_zero_iff]
    cases d <;> cases mo <;> simp only [Bool.false_eq_true, Bool.true_eq_false, and_false, false_and, and_true, true_and, iff_false, not_false_iff] <;> omega
end Go.Ab.D

/- Layer 21, the reference: requests got. -/
set_option maxRecDepth 100000
namespace Go.Ab.D
open Go Go.Ab Go.P1 Go.P21
attribute [local irreducible] Go.P1.crcT tabI
theorem rnum_is {l : List UInt8} (hb : l.length < 4611686018427387904) {p : Int} {s : Option (List UInt8)} (h : At l p s) :
    ∃ p', ref21_eye_num fuel l p s.isNone = some (((pN s).1 : Int), (l, (p', (pN s).2.isNone))) ∧ At l p' (pN s).2 := by
  obtain ⟨h0, hr⟩ := h
  unfold ref21_eye_num
  rw [rgetUint_is hb]
  simp only [Option.bind_some]
  cases s with
  | none => exact ⟨p, rfl, h0, fun r hr => by cases hr⟩
  | some r =>
    obtain ⟨k, rfl⟩ : ∃ k : Nat, p = k := ⟨p.toNat, by omega⟩
    have hk : k ≤ l.length := by omega
    have hd : l.drop k = r := hr r rfl
    rw [pN_some]
    simp only [Option.isNone_some, cond_false]
    cases hp : pNum M62 r with
    | some x =>
      obtain ⟨n, r'⟩ := x
      rw [← hd] at hp
      obtain ⟨g1, g2, g3, g4, g5⟩ := getUint_some hk hp
      unfold M62 at g2
      refine ⟨((l.length - r'.length : Nat) : Int), ?_, ⟨by omega, by omega⟩, fun q hq => ?_⟩
      · rw [g1]
        have : decide ((n : Int) > 4611686018427387904) = false := decide_eq_false (by omega)
        simp only [this]
        rw [w64 ⟨by omega, by omega⟩]
        rfl
      · cases hq
        exact g4
    | none =>
      rw [← hd] at hp
      have g := getUint_none hk hp
      unfold M62 at g
      refine ⟨(k : Int), ?_, h0, fun q hq => by cases hq⟩
      by_cases he : (getUint l k).2.2 = 0
      · rw [he]
        have : decide (((getUint l k).1 : Int) > 4611686018427387904) = true := decide_eq_true (by rcases g with g | g <;> omega)
        simp only [this]
        rfl
      · rw [beq_eq_false_iff_ne.2 (show (((getUint l k).2.2 : Nat) : Int) ≠ 0 by omega)]
        rfl
theorem rblobE_is {l : List UInt8} (hb : l.length ≤ 140737488355328) {p : Int} {s : Option (List UInt8)} (h : At l p s) :
    ∃ p', ref21_eye_blob fuel l p s.isNone = some (l, (p', ((pB 5000 s).2.isNone, (pB 5000 s).1))) ∧ At l p' (pB 5000 s).2 := by
  obtain ⟨h0, hr⟩ := h
  unfold ref21_eye_blob
  rw [rgetBlob_is hb (by omega)]
  simp only [Option.bind_some]
  cases s with
  | none => exact ⟨p, rfl, h0, fun r hr => by cases hr⟩
  | some r =>
    obtain ⟨k, rfl⟩ : ∃ k : Nat, p = k := ⟨p.toNat, by omega⟩
    have hk : k ≤ l.length := by omega
    have hd : l.drop k = r := hr r rfl
    rw [pB_some]
    simp only [Option.isNone_some, cond_false]
    cases hp : pBlob 5000 r with
    | some x =>
      obtain ⟨b, r'⟩ := x
      rw [← hd] at hp
      obtain ⟨g1, g2, g3, g4⟩ := getBlob_some hk hp
      have g1' : getBlob l k 5000 = _ := g1
      refine ⟨((l.length - r'.length : Nat) : Int), ?_, ⟨by omega, by omega⟩, fun q hq => ?_⟩
      · rw [g1']; rfl
      · cases hq
        exact g2
    | none =>
      rw [← hd] at hp
      obtain ⟨g1, g2, g3⟩ := getBlob_none hk hp
      have g1' : (getBlob l k 5000).2.2 ≠ 0 := by first | exact g1 | exact g2 | exact g3
      refine ⟨(k : Int), ?_, h0, fun q hq => by cases hq⟩
      rw [beq_eq_false_iff_ne.2 (show (((getBlob l k 5000).2.2 : Nat) : Int) ≠ 0 by omega)]
      rfl
def rd5 (s : Option (List UInt8)) : (Nat × (Nat × (Nat × (Nat × (Nat × (Nat × (Nat × (Nat × Nat)))))))) × ((List UInt8 × (List UInt8 × List UInt8)) × Option (List UInt8)) :=
  let a1 := pN s; let a2 := pN a1.2; let a3 := pN a2.2; let a4 := pN a3.2; let a5 := pN a4.2; let a6 := pN a5.2; let a7 := pN a6.2; let a8 := pN a7.2; let a9 := pN a8.2
  let b1 := pB 5000 a9.2; let b2 := pB 5000 b1.2; let b3 := pB 5000 b2.2
  ((a1.1, (a2.1, (a3.1, (a4.1, (a5.1, (a6.1, (a7.1, (a8.1, a9.1)))))))), ((b1.1, (b2.1, b3.1)), b3.2))
theorem rd5_at {c : Go.P21.CallT} (h : fits c) : (rd5 (some (callB c))).2.2 = some [] ∧ (rd5 (some (callB c))).1.2.2.1 = c.2.2.1.toNat ∧ ofRd (rd5 (some (callB c))) = c := by
  obtain ⟨c1, c2, c3, ⟨h1, h2⟩, nm, ⟨t1, t2⟩, nw, off, n, bs⟩ := c
  obtain ⟨k1, k2, k3, k4, k5, k6, k7, k8, k9, k10, k11⟩ := h
  simp only at k1 k2 k3 k4 k5 k6 k7 k8 k9 k10 k11
  have h3 := c3.toNat_lt
  have e : rd5 (some (callB (c1, (c2, (c3, ((h1, h2), (nm, ((t1, t2), (nw, (off, (n, bs))))))))))) = ((c1.toNat, (c2.toNat, (c3.toNat, (h1.toNat, (h2.toNat, (t1.toNat, (t2.toNat, (off.toNat, n.toNat)))))))), ((nm, (nw, bs)), some [])) := by
    rw [← List.append_nil (callB _)]
    unfold rd5 callB
    simp only [List.append_assoc]
    simp only [pN_vi k1.1 k1.2, pN_vi k2.1 k2.2, pN_at (show c3.toNat ≤ M62 by unfold M62; omega), pN_vi k3.1 k3.2, pN_vi k4.1 k4.2, pN_vi k5.1 k5.2, pN_vi k6.1 k6.2, pN_vi k7.1 k7.2, pN_vi k8.1 k8.2,
      pB_at (show 5000 < 18446744073709551616 by omega) (show nm.length ≤ 5000 by omega), pB_at (show 5000 < 18446744073709551616 by omega) (show nw.length ≤ 5000 by omega), pB_at (show 5000 < 18446744073709551616 by omega) (show bs.length ≤ 5000 by omega)]
  rw [e]
  refine ⟨rfl, rfl, ?_⟩
  unfold ofRd
  simp only
  rw [Int.toNat_of_nonneg k1.1, Int.toNat_of_nonneg k2.1, Int.toNat_of_nonneg k3.1, Int.toNat_of_nonneg k4.1, Int.toNat_of_nonneg k5.1, Int.toNat_of_nonneg k6.1, Int.toNat_of_nonneg k7.1, Int.toNat_of_nonneg k8.1]
  simp
theorem callOf_rd5 {r : List UInt8} {c : Go.P21.CallT} (h : callOf r = some c) : rightCall c = true ∧ r = callB c ∧ (rd5 (some r)).2.2 = some [] ∧ (rd5 (some r)).1.2.2.1 ≤ 12 ∧ ofRd (rd5 (some r)) = c := by
  obtain ⟨h1, rfl⟩ := callOf_iff.1 h
  have hR := right_of h1
  obtain ⟨g1, g2, g3⟩ := rd5_at hR.fits
  exact ⟨h1, rfl, g1, by rw [g2]; exact hR.op.2, g3⟩
theorem rgetCall_is {T : List Nat} (hT : Tab T) {b : List UInt8} (hb : b.length ≤ 140737488355328) : ref21_GetCall fuel (tabI T) b = some (outC (getCall T b)) := by
  have hul := unsealed_len (P1.sum T) b
  unfold ref21_GetCall getCall
  rw [runseal_is hT hb]
  simp only [Option.bind_some]
  by_cases h0 : (unsealed (P1.sum T) b).2 = 0
  · rw [if_pos h0, h0]
    generalize (unsealed (P1.sum T) b).1 = l at hul ⊢
    cases l with
    | nil => rfl
    | cons k r =>
      show _ = some (outC (match (if k = 3 then callOf r else none) with | some c => (c, 0) | none => (zC, 179)))
      rw [show ((((k :: r).length : Nat) : Int) == 0) = false from beq_eq_false_iff_ne.2 (by simp only [List.length_cons]; omega), show (!(((0 : Nat) : Int) == 0)) = false from rfl]
      simp only [cond_false]
      rw [show idx? 0 (k :: r).length = some 0 from idx_nat (i := 0) (by simp)]
      simp only [Option.bind_some, List.getElem?_cons_zero]
      by_cases hk : k = 3
      · subst hk
        simp only [if_true, show (!((((3 : UInt8).toNat : Nat) : Int) == 3)) = false from rfl, cond_false]
        have hAt : At (3 :: r) 1 (some r) := ⟨⟨by omega, by simp only [List.length_cons]; omega⟩, fun q hq => by cases hq; rfl⟩
        have hl1 : (3 :: r : List UInt8).length ≤ 140737488355328 := by omega
        have hl2 : (3 :: r : List UInt8).length < 4611686018427387904 := by omega
        obtain ⟨p1, e1, s1⟩ := rnum_is hl2 hAt
        obtain ⟨p2, e2, s2⟩ := rnum_is hl2 s1
        obtain ⟨p3, e3, s3⟩ := rnum_is hl2 s2
        obtain ⟨p4, e4, s4⟩ := rnum_is hl2 s3
        obtain ⟨p5, e5, s5⟩ := rnum_is hl2 s4
        obtain ⟨p6, e6, s6⟩ := rnum_is hl2 s5
        obtain ⟨p7, e7, s7⟩ := rnum_is hl2 s6
        obtain ⟨p8, e8, s8⟩ := rnum_is hl2 s7
        obtain ⟨p9, e9, s9⟩ := rnum_is hl2 s8
        obtain ⟨q1, f1, t1⟩ := rblobE_is hl1 s9
        obtain ⟨q2, f2, t2⟩ := rblobE_is hl1 t1
        obtain ⟨q3, f3, t3⟩ := rblobE_is hl1 t2
        have e1' : ref21_eye_num fuel (3 :: r) 1 false = _ := e1
        rw [e1']
        simp only [Option.bind_some]
        rw [e2]
        simp only [Option.bind_some]
        rw [e3]
        simp only [Option.bind_some]
        rw [e4]
        simp only [Option.bind_some]
        rw [e5]
        simp only [Option.bind_some]
        rw [e6]
        simp only [Option.bind_some]
        rw [e7]
        simp only [Option.bind_some]
        rw [e8]
        simp only [Option.bind_some]
        rw [e9]
        simp only [Option.bind_some]
        rw [f1]
        simp only [Option.bind_some]
        rw [f2]
        simp only [Option.bind_some]
        rw [f3]
        simp only [Option.bind_some]
        have hc5 := fun c (hc : callOf r = some c) => callOf_rd5 hc
        have key : ∀ R, R = rd5 (some r) → (R.1.1 = (pN (some r)).1) := fun R h => by rw [h]; rfl
        generalize hR : rd5 (some r) = R at hc5
        have v1 : (pN (some r)).1 = R.1.1 := by rw [← hR]; rfl
        have v2 : (pN (pN (some r)).2).1 = R.1.2.1 := by rw [← hR]; rfl
        have v3 : (pN (pN (pN (some r)).2).2).1 = R.1.2.2.1 := by rw [← hR]; rfl
        have v4 : (pN (pN (pN (pN (some r)).2).2).2).1 = R.1.2.2.2.1 := by rw [← hR]; rfl
        have v5 : (pN (pN (pN (pN (pN (some r)).2).2).2).2).1 = R.1.2.2.2.2.1 := by rw [← hR]; rfl
        have v6 : (pN (pN (pN (pN (pN (pN (some r)).2).2).2).2).2).1 = R.1.2.2.2.2.2.1 := by rw [← hR]; rfl
        have v7 : (pN (pN (pN (pN (pN (pN (pN (some r)).2).2).2).2).2).2).1 = R.1.2.2.2.2.2.2.1 := by rw [← hR]; rfl
        have v8 : (pN (pN (pN (pN (pN (pN (pN (pN (some r)).2).2).2).2).2).2).2).1 = R.1.2.2.2.2.2.2.2.1 := by rw [← hR]; rfl
        have v9 : (pN (pN (pN (pN (pN (pN (pN (pN (pN (some r)).2).2).2).2).2).2).2).2).1 = R.1.2.2.2.2.2.2.2.2 := by rw [← hR]; rfl
        have w1 : (pB 5000 (pN (pN (pN (pN (pN (pN (pN (pN (pN (some r)).2).2).2).2).2).2).2).2).2).1 = R.2.1.1 := by rw [← hR]; rfl
        have w2 : (pB 5000 (pB 5000 (pN (pN (pN (pN (pN (pN (pN (pN (pN (some r)).2).2).2).2).2).2).2).2).2).2).1 = R.2.1.2.1 := by rw [← hR]; rfl
        have w3 : (pB 5000 (pB 5000 (pB 5000 (pN (pN (pN (pN (pN (pN (pN (pN (pN (some r)).2).2).2).2).2).2).2).2).2).2).2).1 = R.2.1.2.2 := by rw [← hR]; rfl
        have w4 : (pB 5000 (pB 5000 (pB 5000 (pN (pN (pN (pN (pN (pN (pN (pN (pN (some r)).2).2).2).2).2).2).2).2).2).2).2).2 = R.2.2 := by rw [← hR]; rfl
        rw [v1, v2, v3, v4, v5, v6, v7, v8, v9, w1, w2, w3, w4]
        have nn : ∀ P : Prop, (∀ c, callOf r = some c → P) → ¬ P → callOf r = none := fun P h1 h2 => by
          cases hc : callOf r with
          | none => rfl
          | some c => exact absurd (h1 c hc) h2
        by_cases h200 : R.1.2.2.1 > 200
        · rw [decide_eq_true (show ((R.1.2.2.1 : Nat) : Int) > 200 by omega), nn (R.1.2.2.1 ≤ 12) (fun c hc => (hc5 c hc).2.2.2.1) (by omega)]
          rfl
        · rw [decide_eq_false (show ¬ ((R.1.2.2.1 : Nat) : Int) > 200 by omega)]
          cases hbad : R.2.2 with
          | none =>
            rw [nn (R.2.2 = some []) (fun c hc => (hc5 c hc).2.2.1) (by rw [hbad]; simp)]
            rfl
          | some w =>
            have hby : byte? (IntKind.wrap .u8 ((R.1.2.2.1 : Nat) : Int)) = some (UInt8.ofNat R.1.2.2.1) := by rw [wrapU8]; exact byteU _
            have hc : ((R.1.1 : Int), ((R.1.2.1 : Int), (UInt8.ofNat R.1.2.2.1, (((R.1.2.2.2.1 : Int), (R.1.2.2.2.2.1 : Int)), (R.2.1.1, (((R.1.2.2.2.2.2.1 : Int), (R.1.2.2.2.2.2.2.1 : Int)), (R.2.1.2.1, ((R.1.2.2.2.2.2.2.2.1 : Int), ((R.1.2.2.2.2.2.2.2.2 : Int), R.2.1.2.2))))))))) = ofRd R := rfl
            simp only [Option.isNone_some, cond_false, hby, Option.bind_some]
            rw [hc, ref_right]
            cases hr : rightCall (ofRd R) with
            | false =>
              rw [nn (rightCall (ofRd R) = true) (fun c hc => by obtain ⟨g1, g2, g3, g4, g5⟩ := hc5 c hc; rw [g5]; exact g1) (by rw [hr]; simp)]
              rfl
            | true =>
              simp only [Option.bind_some, Bool.not_true, cond_false]
              rw [rcall_is (right_of hr)]
              simp only [Option.bind_some]
              by_cases hq : callB (ofRd R) = r
              · rw [show ((3 :: callB (ofRd R)) == (3 :: r)) = true by rw [hq]; exact beq_iff_eq.2 rfl, callOf_iff.2 ⟨hr, hq.symm⟩, wrapU8]
                rfl
              · rw [show ((3 :: callB (ofRd R)) == (3 :: r)) = false from beq_eq_false_iff_ne.2 (fun h => hq (List.cons.inj h).2), nn (callB (ofRd R) = r) (fun c hc => by obtain ⟨g1, g2, g3, g4, g5⟩ := hc5 c hc; rw [g5]; exact g2.symm) hq]
                rfl
      · rw [if_neg hk]
        have : (((k.toNat : Nat) : Int) == 3) = false := beq_eq_false_iff_ne.2 (fun h => hk (UInt8.toNat_inj.1 (by show k.toNat = 3; omega)))
        rw [this]
        rfl
  · rw [if_neg h0]
    have : ((((unsealed (P1.sum T) b).2 : Nat) : Int) == 0) = false := beq_eq_false_iff_ne.2 (by omega)
    rw [this]
    rfl
end Go.Ab.D

/- Layer 21, the reference: answers put and got. -/
set_option maxRecDepth 100000
namespace Go.Ab.D
open Go Go.Ab Go.P1 Go.P21
attribute [local irreducible] Go.P1.crcT tabI
theorem rflag_is (b : Bool) : ref21_flag fuel b = some ((flagN b : Nat) : Int) := by cases b <;> rfl
theorem rreply_is {r : ReplyT} (hf : fitsR r) : ref21_reply fuel r = some (4 :: replyB r) := by
  obtain ⟨x1, x2, x3, ⟨h1, h2⟩, d, sz, bs, es, mo, fr⟩ := r
  obtain ⟨k1, k2, k3, k4, k5, k6, k7, k8, k9, k10⟩ := hf
  simp only at k1 k2 k3 k4 k5 k6 k7 k8 k9 k10
  unfold ref21_reply
  simp only
  rw [rflag_is, rflag_is]
  simp only [Option.bind_some]
  have f1 : flagN d ≤ 1 := by cases d <;> (unfold flagN; simp)
  have f2 : flagN mo ≤ 1 := by cases mo <;> (unfold flagN; simp)
  have hn9 : ∀ n ∈ [x1, x2, x3, h1, h2, ((flagN d : Nat) : Int), sz, ((flagN mo : Nat) : Int), fr], 0 ≤ n ∧ n ≤ 9223372036854775807 := by
    intro x hx
    simp only [List.mem_cons, List.mem_nil_iff, or_false] at hx
    rcases hx with rfl | rfl | rfl | rfl | rfl | rfl | rfl | rfl | rfl <;> omega
  rw [ruints_is (by simp) hn9 (by simp)]
  simp only [Option.bind_some]
  have hN := nums9_len rfl hn9
  generalize hG : nums [x1, x2, x3, h1, h2, ((flagN d : Nat) : Int), sz, ((flagN mo : Nat) : Int), fr] = G at hN
  have vb := varint_len10 (n := bs.length) (by omega)
  rw [rblob_is (by simp only [List.length_append, List.length_cons, List.length_nil]; omega)]
  simp only [Option.bind_some]
  rw [ruints_is (l := [((es.length : Nat) : Int)]) (by simp) (by intro x hx; simp only [List.mem_cons, List.mem_nil_iff, or_false] at hx; subst hx; omega) (by simp only [List.length_append, List.length_cons, List.length_nil]; omega)]
  simp only [Option.bind_some]
  have hn1 : nums [((es.length : Nat) : Int)] = varint es.length := by unfold nums vi; simp
  rw [hn1]
  have ve := varint_len10 (n := es.length) (by omega)
  generalize hH : ([UInt8.ofNat 4] ++ G) ++ varint bs.length ++ bs ++ varint es.length = H
  have hHl : H.length ≤ 5000 := by
    rw [← hH]
    simp only [List.length_append, List.length_cons, List.length_nil]
    omega
  have hl : ref21_reply_l0_it fuel (0, (x1, (x2, (x3, (h1, (h2, (d, (sz, (bs, (es, (mo, (fr, H)))))))))))) = some (H ++ es.flatMap entB) := by
    unfold ref21_reply_l0_it
    have := iter_range (f := fun tt : Int × (Int × (Int × (Int × (Int × (Int × (Bool × (Int × (List UInt8 × (List EntT × (Bool × (Int × List UInt8))))))))))) => ref21_reply_l0 fuel tt.1 tt.2.1 tt.2.2.1 tt.2.2.2.1 tt.2.2.2.2.1 tt.2.2.2.2.2.1 tt.2.2.2.2.2.2.1 tt.2.2.2.2.2.2.2.1 tt.2.2.2.2.2.2.2.2.1 tt.2.2.2.2.2.2.2.2.2.1 tt.2.2.2.2.2.2.2.2.2.2.1 tt.2.2.2.2.2.2.2.2.2.2.2.1 tt.2.2.2.2.2.2.2.2.2.2.2.2) (o := H ++ es.flatMap entB)
      (fun k => ((k : Int), (x1, (x2, (x3, (h1, (h2, (d, (sz, (bs, (es, (mo, (fr, H ++ (es.take k).flatMap entB))))))))))))) es.length (by omega)
      (fun k hk => by
        show ref21_reply_l0 fuel (k : Int) x1 x2 x3 h1 h2 d sz bs es mo fr (H ++ (es.take k).flatMap entB) = some (.inl (((k + 1 : Nat) : Int), (x1, (x2, (x3, (h1, (h2, (d, (sz, (bs, (es, (mo, (fr, H ++ (es.take (k + 1)).flatMap entB)))))))))))))
        have hml : (H ++ (es.take k).flatMap entB).length ≤ 20000 := by
          rw [List.length_append]
          have := entsB_len (es := es.take k) fun e he => k10 e (List.mem_of_mem_take he)
          have : (es.take k).length ≤ es.length := by simp; omega
          omega
        have htk : H ++ (es.take (k + 1)).flatMap entB = (H ++ (es.take k).flatMap entB) ++ entB es[k] := by
          rw [List.take_succ_eq_append_getElem hk, List.flatMap_append, List.append_assoc]; simp
        rw [htk]
        generalize H ++ (es.take k).flatMap entB = m at hml ⊢
        obtain ⟨q1, q2, q3⟩ := k10 _ (List.getElem_mem hk)
        have vq := varint_len10 (n := es[k].1.length) (by omega)
        unfold ref21_reply_l0
        rw [decide_eq_true (by omega), idx_nat hk]
        simp only [cond_true, Option.bind_some, List.getElem?_eq_getElem hk]
        rw [need_true (ble_true (by rw [roomIs]; omega)), rblob_is (by omega)]
        simp only [Option.bind_some]
        rw [ruints_is (l := [es[k].2]) (by simp) (by intro x hx; simp only [List.mem_cons, List.mem_nil_iff, or_false] at hx; subst hx; omega) (by simp only [List.length_append]; omega)]
        simp only [Option.bind_some]
        rw [w64 ⟨by omega, by omega⟩]
        have : m ++ varint es[k].1.length ++ es[k].1 ++ nums [es[k].2] = m ++ entB es[k] := by
          unfold nums entB blobB
          simp
        rw [this]
        rfl)
      (by
        show ref21_reply_l0 fuel ((es.length : Nat) : Int) x1 x2 x3 h1 h2 d sz bs es mo fr (H ++ (es.take es.length).flatMap entB) = _
        unfold ref21_reply_l0
        rw [decide_eq_false (by omega), List.take_length]
        rfl)
    simpa using this
  rw [hl]
  simp only [Option.bind_some]
  have hbody : H ++ es.flatMap entB = 4 :: replyB (x1, (x2, (x3, ((h1, h2), (d, (sz, (bs, (es, (mo, fr))))))))) := by
    rw [← hH, ← hG]
    unfold nums replyB blobB
    simp only [List.flatMap_cons, List.flatMap_nil, List.append_nil, List.append_assoc, List.cons_append, List.nil_append]
    rfl
  rw [hbody]
theorem rputReply_is {T : List Nat} (hT : Tab T) {r : ReplyT} (he : r.2.2.2.2.2.2.2.1.length < 1000000000000000000) : ref21_PutReply fuel (tabI T) r = some (((putReply T r).1 : Int), (putReply T r).2) := by
  unfold putReply
  cases hr : rightReply r with
  | false =>
    obtain ⟨x1, x2, x3, ⟨h1, h2⟩, d, sz, bs, es, mo, fr⟩ := r
    unfold ref21_PutReply
    simp only
    rw [rright_is he, hr]
    rfl
  | true =>
    have hf := rightR_of hr
    have hlen := replyB_len hf
    rw [if_pos rfl]
    obtain ⟨x1, x2, x3, ⟨h1, h2⟩, d, sz, bs, es, mo, fr⟩ := r
    unfold ref21_PutReply
    simp only
    rw [rright_is he, hr]
    simp only [Option.bind_some, Bool.not_true, cond_false]
    rw [rreply_is hf]
    simp only [Option.bind_some]
    rw [rseal_is hT (by simp only [List.length_cons]; omega)]
    rfl
/-! Get -/
def loop5 : Nat → Option (List UInt8) → List EntT → Nat × (Option (List UInt8) × List EntT)
  | 0, s, es => (0, (s, es))
  | n + 1, none, es => (n + 1, (none, es))
  | n + 1, some l, es => loop5 n (pN (pB 5000 (some l)).2).2 (es ++ [((pB 5000 (some l)).1, ((pN (pB 5000 (some l)).2).1 : Int))])
theorem loop5_none (n : Nat) (es : List EntT) : loop5 n none es = (n, (none, es)) := by cases n <;> rfl
theorem loop5_ge : ∀ (n : Nat) (s : Option (List UInt8)) (es : List EntT), es.length ≤ (loop5 n s es).2.2.length
  | 0, s, es => by simp [loop5]
  | n + 1, none, es => by simp [loop5]
  | n + 1, some l, es => by
    simp only [loop5]
    have := loop5_ge n (pN (pB 5000 (some l)).2).2 (es ++ [((pB 5000 (some l)).1, ((pN (pB 5000 (some l)).2).1 : Int))])
    simp only [List.length_append, List.length_cons, List.length_nil] at this
    omega
theorem loop5_at : ∀ (es acc : List EntT) (r : List UInt8), (∀ e ∈ es, EntFits e) → loop5 es.length (some (es.flatMap entB ++ r)) acc = (0, (some r, acc ++ es))
  | [], acc, r, _ => by simp [loop5]
  | e :: es, acc, r, h => by
    obtain ⟨h1, h2, h3⟩ := h e (by simp)
    show loop5 (es.length + 1) (some ((entB e ++ es.flatMap entB) ++ r)) acc = _
    unfold entB
    simp only [List.append_assoc, loop5]
    rw [pB_at (by omega) (show e.1.length ≤ 5000 by omega)]
    simp only
    rw [pN_vi h2 h3]
    simp only
    have := loop5_at es (acc ++ [(e.1, ((e.2.toNat : Nat) : Int))]) r fun x hx => h x (by simp [hx])
    unfold entB at this
    rw [this, Int.toNat_of_nonneg h2]
    simp
section
variable {l : List UInt8} {n1 n2 n3 n4 n5 sz fr : Int} {d mo : Bool} {bs : List UInt8}
abbrev OT : Type := Int × (Int × (Int × (Int × (Int × (Bool × (Int × (Bool × (Int × (List UInt8 × (Int × (Bool × (Int × (Int × (Int × (Int × (Int × (Bool × (Int × (Bool × (Int × (List UInt8 × List EntT)))))))))))))))))))))
def outT (l : List UInt8) (n1 n2 n3 n4 n5 : Int) (d : Bool) (sz : Int) (mo : Bool) (fr : Int) (bs : List UInt8) (p : Int) (s : Option (List UInt8)) (es : List EntT) : OT :=
  (0, (0, (0, (0, (0, (false, (0, (false, (0, (l, (p, (s.isNone, (n1, (n2, (n3, (n4, (n5, (d, (sz, (mo, (fr, (bs, es))))))))))))))))))))))
theorem rgetLoop_is (hb : l.length ≤ 140737488355328) {N : Nat} (hN : N ≤ 4611686018427387904) {p : Int} {s0 : Option (List UInt8)} (h0 : At l p s0) :
    ∃ q k s es, ref21_GetReply_l0_it fuel (stR l n1 n2 n3 n4 n5 d sz mo fr bs N p s0 []) = some (outT l n1 n2 n3 n4 n5 d sz mo fr bs q s es) ∧ At l q s ∧ loop5 k s es = loop5 N s0 [] ∧ (k = 0 ∨ s = none ∨ 100 < es.length) ∧ es.length ≤ 101 := by
  unfold ref21_GetReply_l0_it
  have := iter_ex (f := fun tt : ST => ref21_GetReply_l0 fuel tt.1 tt.2.1 tt.2.2.1 tt.2.2.2.1 tt.2.2.2.2.1 tt.2.2.2.2.2.1 tt.2.2.2.2.2.2.1 tt.2.2.2.2.2.2.2.1 tt.2.2.2.2.2.2.2.2.1 tt.2.2.2.2.2.2.2.2.2.1 tt.2.2.2.2.2.2.2.2.2.2.1 tt.2.2.2.2.2.2.2.2.2.2.2.1 tt.2.2.2.2.2.2.2.2.2.2.2.2.1 tt.2.2.2.2.2.2.2.2.2.2.2.2.2.1 tt.2.2.2.2.2.2.2.2.2.2.2.2.2.2.1 tt.2.2.2.2.2.2.2.2.2.2.2.2.2.2.2.1 tt.2.2.2.2.2.2.2.2.2.2.2.2.2.2.2.2.1 tt.2.2.2.2.2.2.2.2.2.2.2.2.2.2.2.2.2.1 tt.2.2.2.2.2.2.2.2.2.2.2.2.2.2.2.2.2.2.1 tt.2.2.2.2.2.2.2.2.2.2.2.2.2.2.2.2.2.2.2.1 tt.2.2.2.2.2.2.2.2.2.2.2.2.2.2.2.2.2.2.2.2.1 tt.2.2.2.2.2.2.2.2.2.2.2.2.2.2.2.2.2.2.2.2.2.1 tt.2.2.2.2.2.2.2.2.2.2.2.2.2.2.2.2.2.2.2.2.2.2.1 tt.2.2.2.2.2.2.2.2.2.2.2.2.2.2.2.2.2.2.2.2.2.2.2)
    (fun m st => ∃ (q : Int) (k : Nat) (s : Option (List UInt8)) (es : List EntT), st = stR l n1 n2 n3 n4 n5 d sz mo fr bs k q s es ∧ At l q s ∧ loop5 k s es = loop5 N s0 [] ∧ es.length + m = 101 ∧ k ≤ N)
    (fun o => ∃ q k s es, o = outT l n1 n2 n3 n4 n5 d sz mo fr bs q s es ∧ At l q s ∧ loop5 k s es = loop5 N s0 [] ∧ (k = 0 ∨ s = none ∨ 100 < es.length) ∧ es.length ≤ 101)
    (fun m st ⟨q, k, s, es, hst, hA, hL, hlen, hk⟩ => by
      subst hst
      show (∃ s', ref21_GetReply_l0 fuel ((k : Nat) : Int) 0 0 0 0 0 false 0 false 0 l q s.isNone n1 n2 n3 n4 n5 d sz mo fr bs es = _ ∧ _) ∨ ∃ o, ref21_GetReply_l0 fuel ((k : Nat) : Int) 0 0 0 0 0 false 0 false 0 l q s.isNone n1 n2 n3 n4 n5 d sz mo fr bs es = _ ∧ _
      unfold ref21_GetReply_l0
      cases k with
      | zero =>
        right
        exact ⟨_, rfl, q, 0, s, es, rfl, hA, hL, .inl rfl, by omega⟩
      | succ k =>
        rw [show decide (((k + 1 : Nat) : Int) > 0) = true from decide_eq_true (by omega)]
        cases s with
        | none =>
          right
          exact ⟨_, rfl, q, k + 1, none, es, rfl, hA, hL, .inr (.inl rfl), by omega⟩
        | some w =>
          left
          rw [show decide (((es.length : Nat) : Int) ≤ 100) = true from decide_eq_true (by omega)]
          simp only [Option.isNone_some, Bool.not_false, cond_true, Option.bind_some]
          obtain ⟨q1, f1, t1⟩ := rblobE_is hb hA
          obtain ⟨q2, f2, t2⟩ := rnum_is (by omega) t1
          have f1' : ref21_eye_blob fuel l q false = _ := f1
          rw [f1']
          simp only [Option.bind_some]
          rw [f2]
          simp only [Option.bind_some]
          rw [need_true (by rw [Bool.and_eq_true]; exact ⟨ble_true (by rw [roomIs]; omega), ble_true (by rw [roomIs]; omega)⟩), w64 ⟨by omega, by omega⟩, show ((k + 1 : Nat) : Int) - 1 = (k : Int) by omega]
          exact ⟨_, rfl, q2, k, _, _, rfl, t2, hL, by simp; omega, by omega⟩)
    (fun st ⟨q, k, s, es, hst, hA, hL, hlen, hk⟩ => by
      subst hst
      refine ⟨outT l n1 n2 n3 n4 n5 d sz mo fr bs q s es, ?_, q, k, s, es, rfl, hA, hL, .inr (.inr (by omega)), by omega⟩
      show ref21_GetReply_l0 fuel ((k : Nat) : Int) 0 0 0 0 0 false 0 false 0 l q s.isNone n1 n2 n3 n4 n5 d sz mo fr bs es = _
      unfold ref21_GetReply_l0
      rw [show decide (((es.length : Nat) : Int) ≤ 100) = false from decide_eq_false (by omega)]
      cases decide (((k : Nat) : Int) > 0) <;> cases s <;> rfl)
    101 (stR l n1 n2 n3 n4 n5 d sz mo fr bs N p s0 []) (by omega) ⟨p, N, s0, [], rfl, h0, rfl, by simp, by omega⟩
  obtain ⟨o, e1, q, k, s, es, rfl, e3⟩ := this
  exact ⟨q, k, s, es, e1, e3⟩
end
end Go.Ab.D

/- Layer 21, the reference: answers got. -/
set_option maxRecDepth 100000
namespace Go.Ab.D
open Go Go.Ab Go.P1 Go.P21
attribute [local irreducible] Go.P1.crcT tabI
abbrev R5 : Type := (Nat × (Nat × (Nat × (Nat × (Nat × (Nat × (Nat × (Nat × (Nat × (List UInt8 × Nat)))))))))) × Option (List UInt8)
def rd5R (s : Option (List UInt8)) : R5 :=
  let a1 := pN s; let a2 := pN a1.2; let a3 := pN a2.2; let a4 := pN a3.2; let a5 := pN a4.2; let a6 := pN a5.2; let a7 := pN a6.2; let a8 := pN a7.2; let a9 := pN a8.2
  let b1 := pB 5000 a9.2; let c := pN b1.2
  ((a1.1, (a2.1, (a3.1, (a4.1, (a5.1, (a6.1, (a7.1, (a8.1, (a9.1, (b1.1, c.1)))))))))), c.2)
def of5R (r : R5) (es : List EntT) : ReplyT :=
  ((r.1.1 : Int), ((r.1.2.1 : Int), ((r.1.2.2.1 : Int), (((r.1.2.2.2.1 : Int), (r.1.2.2.2.2.1 : Int)), (((r.1.2.2.2.2.2.1 : Int) == 1), ((r.1.2.2.2.2.2.2.1 : Int), (r.1.2.2.2.2.2.2.2.2.2.1, (es, (((r.1.2.2.2.2.2.2.2.1 : Int) == 1), (r.1.2.2.2.2.2.2.2.2.1 : Int))))))))))
theorem rd5R_at {x : ReplyT} (h : fitsR x) : (rd5R (some (replyB x))).1.2.2.2.2.2.2.2.2.2.2 = x.2.2.2.2.2.2.2.1.length ∧ (rd5R (some (replyB x))).2 = some (x.2.2.2.2.2.2.2.1.flatMap entB) ∧ ∀ es, of5R (rd5R (some (replyB x))) es = (x.1, (x.2.1, (x.2.2.1, ((x.2.2.2.1.1, x.2.2.2.1.2), (x.2.2.2.2.1, (x.2.2.2.2.2.1, (x.2.2.2.2.2.2.1, (es, (x.2.2.2.2.2.2.2.2.1, x.2.2.2.2.2.2.2.2.2))))))))) := by
  obtain ⟨x1, x2, x3, ⟨h1, h2⟩, d, sz, bs, es, mo, fr⟩ := x
  obtain ⟨k1, k2, k3, k4, k5, k6, k7, k8, k9, k10⟩ := h
  simp only at k1 k2 k3 k4 k5 k6 k7 k8 k9 k10
  have f : ∀ b : Bool, flagN b ≤ M62 := fun b => by cases b <;> (unfold flagN M62; simp)
  have e : rd5R (some (replyB (x1, (x2, (x3, ((h1, h2), (d, (sz, (bs, (es, (mo, fr))))))))))) = ((x1.toNat, (x2.toNat, (x3.toNat, (h1.toNat, (h2.toNat, (flagN d, (sz.toNat, (flagN mo, (fr.toNat, (bs, es.length)))))))))), some (es.flatMap entB)) := by
    unfold rd5R replyB
    simp only [pN_vi k1.1 k1.2, pN_vi k2.1 k2.2, pN_vi k3.1 k3.2, pN_vi k4.1 k4.2, pN_vi k5.1 k5.2, pN_vi k6.1 k6.2, pN_vi k7.1 k7.2, pN_at (f d), pN_at (f mo), pB_at (show 5000 < 18446744073709551616 by omega) (show bs.length ≤ 5000 by omega), pN_at (show es.length ≤ M62 by unfold M62; omega)]
  rw [e]
  refine ⟨rfl, rfl, fun es => ?_⟩
  unfold of5R
  simp only
  rw [Int.toNat_of_nonneg k1.1, Int.toNat_of_nonneg k2.1, Int.toNat_of_nonneg k3.1, Int.toNat_of_nonneg k4.1, Int.toNat_of_nonneg k5.1, Int.toNat_of_nonneg k6.1, Int.toNat_of_nonneg k7.1]
  cases d <;> cases mo <;> rfl
theorem replyOf_rd5 {r : List UInt8} {x : ReplyT} (h : replyOf r = some x) {k : Nat} {s : Option (List UInt8)} {es : List EntT}
    (hL : loop5 k s es = loop5 (rd5R (some r)).1.2.2.2.2.2.2.2.2.2.2 (rd5R (some r)).2 []) (hk : k = 0 ∨ s = none ∨ 100 < es.length) :
    rightReply x = true ∧ r = replyB x ∧ s = some [] ∧ of5R (rd5R (some r)) es = x := by
  obtain ⟨h1, rfl⟩ := replyOf_iff.1 h
  have hf := rightR_of h1
  obtain ⟨g1, g2, g3⟩ := rd5R_at hf
  rw [g1, g2] at hL
  have hl := loop5_at x.2.2.2.2.2.2.2.1 [] [] hf.2.2.2.2.2.2.2.2.2
  rw [List.append_nil, List.nil_append] at hl
  rw [hl] at hL
  have h100 := hf.2.2.2.2.2.2.2.2.1
  have key : s = some [] ∧ es = x.2.2.2.2.2.2.2.1 := by
    rcases hk with rfl | rfl | hk
    · simp only [loop5, Prod.mk.injEq, true_and] at hL
      exact hL
    · rw [loop5_none] at hL
      cases hL
    · have := loop5_ge k s es
      rw [hL] at this
      simp only at this
      omega
  obtain ⟨rfl, rfl⟩ := key
  exact ⟨h1, rfl, rfl, g3 _⟩
theorem long_bad {x : ReplyT} (h : 100 < x.2.2.2.2.2.2.2.1.length) : rightReply x = false := by
  cases hr : rightReply x with
  | false => rfl
  | true => have := (rightR_of hr).2.2.2.2.2.2.2.2.1; omega
theorem rgetReply_is {T : List Nat} (hT : Tab T) {b : List UInt8} (hb : b.length ≤ 140737488355328) : ref21_GetReply fuel (tabI T) b = some (outR (getReply T b)) := by
  have hul := unsealed_len (P1.sum T) b
  unfold ref21_GetReply getReply
  rw [runseal_is hT hb]
  simp only [Option.bind_some]
  by_cases h0 : (unsealed (P1.sum T) b).2 = 0
  · rw [if_pos h0, h0]
    generalize (unsealed (P1.sum T) b).1 = l at hul ⊢
    cases l with
    | nil => rfl
    | cons k r =>
      show _ = some (outR (match (if k = 4 then replyOf r else none) with | some c => (c, 0) | none => (zR, 179)))
      rw [show ((((k :: r).length : Nat) : Int) == 0) = false from beq_eq_false_iff_ne.2 (by simp only [List.length_cons]; omega), show (!(((0 : Nat) : Int) == 0)) = false from rfl]
      simp only [cond_false]
      rw [show idx? 0 (k :: r).length = some 0 from idx_nat (i := 0) (by simp)]
      simp only [Option.bind_some, List.getElem?_cons_zero]
      by_cases hk : k = 4
      · subst hk
        simp only [if_true, show (!((((4 : UInt8).toNat : Nat) : Int) == 4)) = false from rfl, cond_false]
        have hAt : At (4 :: r) 1 (some r) := ⟨⟨by omega, by simp only [List.length_cons]; omega⟩, fun q hq => by cases hq; rfl⟩
        have hl1 : (4 :: r : List UInt8).length ≤ 140737488355328 := by omega
        have hl2 : (4 :: r : List UInt8).length < 4611686018427387904 := by omega
        obtain ⟨p1, e1, s1⟩ := rnum_is hl2 hAt
        obtain ⟨p2, e2, s2⟩ := rnum_is hl2 s1
        obtain ⟨p3, e3, s3⟩ := rnum_is hl2 s2
        obtain ⟨p4, e4, s4⟩ := rnum_is hl2 s3
        obtain ⟨p5, e5, s5⟩ := rnum_is hl2 s4
        obtain ⟨p6, e6, s6⟩ := rnum_is hl2 s5
        obtain ⟨p7, e7, s7⟩ := rnum_is hl2 s6
        obtain ⟨p8, e8, s8⟩ := rnum_is hl2 s7
        obtain ⟨p9, e9, s9⟩ := rnum_is hl2 s8
        obtain ⟨q1, f1, t1⟩ := rblobE_is hl1 s9
        obtain ⟨q2, f2, t2⟩ := rnum_is hl2 t1
        have e1' : ref21_eye_num fuel (4 :: r) 1 false = _ := e1
        rw [e1']
        simp only [Option.bind_some]
        rw [e2]
        simp only [Option.bind_some]
        rw [e3]
        simp only [Option.bind_some]
        rw [e4]
        simp only [Option.bind_some]
        rw [e5]
        simp only [Option.bind_some]
        rw [e6]
        simp only [Option.bind_some]
        rw [e7]
        simp only [Option.bind_some]
        rw [e8]
        simp only [Option.bind_some]
        rw [e9]
        simp only [Option.bind_some]
        rw [f1]
        simp only [Option.bind_some]
        rw [f2]
        simp only [Option.bind_some]
        have hc5 := fun c (hc : replyOf r = some c) => @replyOf_rd5 r c hc
        generalize hR : rd5R (some r) = R at hc5
        have v1 : (pN (some r)).1 = R.1.1 := by rw [← hR]; rfl
        have v2 : (pN (pN (some r)).2).1 = R.1.2.1 := by rw [← hR]; rfl
        have v3 : (pN (pN (pN (some r)).2).2).1 = R.1.2.2.1 := by rw [← hR]; rfl
        have v4 : (pN (pN (pN (pN (some r)).2).2).2).1 = R.1.2.2.2.1 := by rw [← hR]; rfl
        have v5 : (pN (pN (pN (pN (pN (some r)).2).2).2).2).1 = R.1.2.2.2.2.1 := by rw [← hR]; rfl
        have v6 : (pN (pN (pN (pN (pN (pN (some r)).2).2).2).2).2).1 = R.1.2.2.2.2.2.1 := by rw [← hR]; rfl
        have v7 : (pN (pN (pN (pN (pN (pN (pN (some r)).2).2).2).2).2).2).1 = R.1.2.2.2.2.2.2.1 := by rw [← hR]; rfl
        have v8 : (pN (pN (pN (pN (pN (pN (pN (pN (some r)).2).2).2).2).2).2).2).1 = R.1.2.2.2.2.2.2.2.1 := by rw [← hR]; rfl
        have v9 : (pN (pN (pN (pN (pN (pN (pN (pN (pN (some r)).2).2).2).2).2).2).2).2).1 = R.1.2.2.2.2.2.2.2.2.1 := by rw [← hR]; rfl
        have w1 : (pB 5000 (pN (pN (pN (pN (pN (pN (pN (pN (pN (some r)).2).2).2).2).2).2).2).2).2).1 = R.1.2.2.2.2.2.2.2.2.2.1 := by rw [← hR]; rfl
        have w2 : (pN (pB 5000 (pN (pN (pN (pN (pN (pN (pN (pN (pN (some r)).2).2).2).2).2).2).2).2).2).2).1 = R.1.2.2.2.2.2.2.2.2.2.2 := by rw [← hR]; rfl
        have w3 : (pN (pB 5000 (pN (pN (pN (pN (pN (pN (pN (pN (pN (some r)).2).2).2).2).2).2).2).2).2).2).2 = R.2 := by rw [← hR]; rfl
        rw [w3] at t2
        have hN : R.1.2.2.2.2.2.2.2.2.2.2 ≤ 4611686018427387904 := by
          rw [← w2]
          generalize (pB 5000 (pN (pN (pN (pN (pN (pN (pN (pN (pN (some r)).2).2).2).2).2).2).2).2).2).2 = sx
          cases hx : (pN sx).2 with
          | some w => have := (pN_inv hx).2; unfold M62 at this; exact this
          | none =>
            cases sx with
            | none => exact Nat.zero_le _
            | some w =>
              rw [pN_some] at hx ⊢
              cases hp : pNum M62 w with
              | none => exact Nat.zero_le _
              | some y => obtain ⟨n, r'⟩ := y; rw [hp] at hx; cases hx
        rw [v1, v2, v3, v4, v5, v6, v7, v8, v9, w1, w2, w3]
        obtain ⟨q, k, s, es, eL, hA, hL, hk, hes⟩ := rgetLoop_is hl1 hN t2 (n1 := (R.1.1 : Int)) (n2 := (R.1.2.1 : Int)) (n3 := (R.1.2.2.1 : Int)) (n4 := (R.1.2.2.2.1 : Int)) (n5 := (R.1.2.2.2.2.1 : Int)) (d := ((R.1.2.2.2.2.2.1 : Int) == 1)) (sz := (R.1.2.2.2.2.2.2.1 : Int)) (mo := ((R.1.2.2.2.2.2.2.2.1 : Int) == 1)) (fr := (R.1.2.2.2.2.2.2.2.2.1 : Int)) (bs := R.1.2.2.2.2.2.2.2.2.2.1)
        unfold stR at eL
        rw [eL]
        unfold outT
        simp only [Option.bind_some]
        have nn : ∀ P : Prop, (∀ c, replyOf r = some c → P) → ¬ P → replyOf r = none := fun P h1 h2 => by
          cases hc : replyOf r with
          | none => rfl
          | some c => exact absurd (h1 c hc) h2
        have hc6 := fun c hc => hc5 c hc hL hk
        cases s with
        | none =>
          rw [nn False (fun c hc => by have := (hc6 c hc).2.2.1; cases this) (fun h => h)]
          rfl
        | some w =>
          simp only [Option.isNone_some, cond_false]
          have hc : ((R.1.1 : Int), ((R.1.2.1 : Int), ((R.1.2.2.1 : Int), (((R.1.2.2.2.1 : Int), (R.1.2.2.2.2.1 : Int)), (((R.1.2.2.2.2.2.1 : Int) == 1), ((R.1.2.2.2.2.2.2.1 : Int), (R.1.2.2.2.2.2.2.2.2.2.1, (es, (((R.1.2.2.2.2.2.2.2.1 : Int) == 1), (R.1.2.2.2.2.2.2.2.2.1 : Int)))))))))) = of5R R es := rfl
          rw [hc, rright_is (show es.length < _ by omega)]
          cases hr : rightReply (of5R R es) with
          | false =>
            rw [nn (rightReply (of5R R es) = true) (fun c hc => by obtain ⟨g1, g2, g3, g4⟩ := hc6 c hc; rw [g4]; exact g1) (by rw [hr]; simp)]
            rfl
          | true =>
            simp only [Option.bind_some, Bool.not_true, cond_false]
            rw [rreply_is (rightR_of hr)]
            simp only [Option.bind_some]
            by_cases hq : replyB (of5R R es) = r
            · rw [show ((4 :: replyB (of5R R es)) == (4 :: r)) = true by rw [hq]; exact beq_iff_eq.2 rfl, replyOf_iff.2 ⟨hr, hq.symm⟩]
              rfl
            · rw [show ((4 :: replyB (of5R R es)) == (4 :: r)) = false from beq_eq_false_iff_ne.2 (fun h => hq (List.cons.inj h).2), nn (replyB (of5R R es) = r) (fun c hc => by obtain ⟨g1, g2, g3, g4⟩ := hc6 c hc; rw [g4]; exact g2.symm) hq]
              rfl
      · rw [if_neg hk]
        have : (((k.toNat : Nat) : Int) == 4) = false := beq_eq_false_iff_ne.2 (fun h => hk (UInt8.toNat_inj.1 (by show k.toNat = 4; omega)))
        rw [this]
        rfl
  · rw [if_neg h0]
    have : ((((unsealed (P1.sum T) b).2 : Nat) : Int) == 0) = false := beq_eq_false_iff_ne.2 (by omega)
    rw [this]
    rfl
end Go.Ab.D

/- Layer 21, CallTells: the law. -/
set_option maxRecDepth 100000
namespace Go.Ab.D
open Go Go.Ab Go.P1 Go.P21
attribute [local irreducible] Go.P1.crcT tabI
theorem getCall_len (T : List Nat) (b : List UInt8) : (getCall T b).1.2.2.2.2.2.2.2.2.2.length ≤ 4096 := by
  unfold getCall
  split
  · cases h : bodyC (unsealed (P1.sum T) b).1 with
    | none => exact Nat.zero_le _
    | some c => exact (right_of (bodyC_inv h).1).b
  · exact Nat.zero_le _
theorem getReply_len (T : List Nat) (b : List UInt8) : (getReply T b).1.2.2.2.2.2.2.1.length ≤ 4096 ∧ (getReply T b).1.2.2.2.2.2.2.2.1.length ≤ 100 := by
  unfold getReply
  split
  · cases h : bodyR (unsealed (P1.sum T) b).1 with
    | none => exact ⟨Nat.zero_le _, Nat.zero_le _⟩
    | some c => exact ⟨(rightR_of (bodyR_inv h).1).2.2.2.2.2.2.2.1, (rightR_of (bodyR_inv h).1).2.2.2.2.2.2.2.2.1⟩
  · exact ⟨Nat.zero_le _, Nat.zero_le _⟩
theorem putCall_len (T : List Nat) (c : Go.P21.CallT) : (putCall T c).2.length ≤ 6000 := by
  unfold putCall
  split
  · rename_i h
    have := callB_len (right_of h)
    simp only [sealed_len, List.length_cons]; omega
  · exact Nat.zero_le _
theorem putReply_len (T : List Nat) (c : ReplyT) : (putReply T c).2.length ≤ 18000 := by
  unfold putReply
  split
  · rename_i h
    have := replyB_len (rightR_of h)
    simp only [sealed_len, List.length_cons]; omega
  · exact Nat.zero_le _
theorem law21_CallTells_true (c : Int × (Int × (UInt8 × ((Int × Int) × (List UInt8 × ((Int × Int) × (List UInt8 × (Int × (Int × List UInt8))))))))) (r : Int × (Int × (Int × ((Int × Int) × (Bool × (Int × (List UInt8 × (List (List UInt8 × Int) × (Bool × Int))))))))) (b : List UInt8)
    (_k0 : OkV (.pair (.int .i64) (.pair (.int .i64) (.pair .byte (.pair (.pair (.int .i64) (.int .i64)) (.pair .str (.pair (.pair (.int .i64) (.int .i64)) (.pair .str (.pair (.int .i64) (.pair (.int .i64) (.sl .byte)))))))))) c)
    (_k1 : OkV (.pair (.int .i64) (.pair (.int .i64) (.pair (.int .i64) (.pair (.pair (.int .i64) (.int .i64)) (.pair .bool (.pair (.int .i64) (.pair (.sl .byte) (.pair (.sl (.pair .str (.int .i64))) (.pair .bool (.int .i64)))))))))) r)
    (_k2 : OkV (.sl .byte) b) : law21_CallTells fuel c r b = some true := by
  clear _k0 _k1 _k2
  obtain ⟨c1, c2, c3, ⟨h1, h2⟩, nm, ⟨t1, t2⟩, nw, off, n, bs⟩ := c
  obtain ⟨x1, x2, x3, ⟨g1, g2⟩, d, sz, rb, es, mo, fr⟩ := r
  unfold law21_CallTells
  simp only
  rw [byteU]
  simp only [Option.bind_some]
  obtain ⟨hg, hh, hsmall⟩ := huge_is (c1, (c2, (c3, ((h1, h2), (nm, ((t1, t2), (nw, (off, (n, bs))))))))) (x1, (x2, (x3, ((g1, g2), (d, (sz, (rb, (es, (mo, fr)))))))))
  rw [hh]
  simp only [Option.bind_some]
  cases hg with
  | true =>
    simp only [cond_true, Option.bind_some]
    rw [awake21]
    rfl
  | false =>
    obtain ⟨hb5, he5⟩ := hsmall rfl
    have hbs : rb.length < 1000000000000000000 := by simp only at hb5; omega
    have hes : es.length < 1000000000000000000 := by simp only at he5; omega
    simp only [cond_false, Option.bind_some]
    by_cases hb : b.length > 20000
    · rw [decide_eq_true (show ((b.length : Nat) : Int) > 20000 by omega)]
      simp only [cond_true, Option.bind_some]
      rw [awake21]
      rfl
    rw [decide_eq_false (show ¬ ((b.length : Nat) : Int) > 20000 by omega)]
    simp only [cond_false, Option.bind_some]
    rw [table_is]
    simp only [Option.bind_some]
    rw [need_true (b := Nat.beq (List.replicate (α := Int) 256 0).length 256) (by rw [List.length_replicate]; rfl), need_true (beq256 crc_len)]
    rw [byteU]
    simp only [Option.bind_some]
    rw [putCall_is crcT_tab, rputCall_is crcT_tab]
    simp only [Option.bind_some]
    rw [putReply_is crcT_tab hbs hes, rputReply_is crcT_tab hes]
    simp only [Option.bind_some]
    have l1 := putCall_len crcT (c1, (c2, (c3, ((h1, h2), (nm, ((t1, t2), (nw, (off, (n, bs)))))))))
    have l2 := putReply_len crcT (x1, (x2, (x3, ((g1, g2), (d, (sz, (rb, (es, (mo, fr)))))))))
    rw [sameBytes_self _ (by omega), sameBytes_self _ (by omega)]
    simp only [Option.bind_some, Bool.not_true, cond_false, beq_self_eq_true]
    rw [rightCall_is, ref_right]
    simp only [Option.bind_some, Bool.not_true, cond_false, beq_self_eq_true]
    rw [rightReply_is hbs hes, rright_is hes]
    simp only [Option.bind_some, Bool.not_true, cond_false, beq_self_eq_true]
    rw [getCall_is crcT_tab (by omega), rgetCall_is crcT_tab (by omega), getReply_is crcT_tab (by omega), rgetReply_is crcT_tab (by omega)]
    simp only [Option.bind_some]
    have l3 := getCall_len crcT b
    have l4 := getReply_len crcT b
    generalize getCall crcT b = C at l3 ⊢
    generalize getReply crcT b = X at l4 ⊢
    obtain ⟨⟨d1, d2, d3, ⟨k1, k2⟩, dn, ⟨u1, u2⟩, dw, df, dm, ds⟩, ce⟩ := C
    obtain ⟨⟨y1, y2, y3, ⟨m1, m2⟩, yd, yz, yb, ys, yo, yr⟩, xe⟩ := X
    unfold outC outR
    simp only at l3 l4 ⊢
    rw [byteU]
    simp only [Option.bind_some]
    rw [sameCall_self (d1, (d2, (d3, ((k1, k2), (dn, ((u1, u2), (dw, (df, (dm, ds))))))))) (by simp only; omega)]
    simp only [Option.bind_some, cond_true, beq_self_eq_true]
    rw [sameReply_self (y1, (y2, (y3, ((m1, m2), (yd, (yz, (yb, (ys, (yo, yr))))))))) (by simp only; omega) (by simp only; omega)]
    simp only [Option.bind_some, cond_true, beq_self_eq_true]
    rw [awake21]
    rfl
end Go.Ab.D
