/- Layer 1: what the decompiled functions are. -/
import Derived.Test.YtplahfhggnkahaaC0
import Derived.Test.YtplahfhggnkahaaB08
import Derived.Test.YtplahfhggnkahaaB02
import Derived.Test.YtplahfhggnkahaaD
set_option linter.all false
namespace Go.Ab.D
open Go.P1

/-- A table as the program holds it. -/
def tabI (T : List Nat) : List Int := T.map fun (n : Nat) => (n : Int)
theorem tabI_len (T : List Nat) : (tabI T).length = T.length := by simp [tabI]
theorem tabI_get {T : List Nat} (h : Tab T) {i : Nat} (hi : i < 256) : (tabI T)[i]? = some ((T.getD i 0 : Nat) : Int) := by
  have : i < T.length := by rw [h.1]; exact hi
  simp [tabI, this]
theorem table_is : bytes_Table = some (tabI crcT) := by kernel_rfl

theorem sum_step {T : List Nat} (h : Tab T) {b : List UInt8} (s k : Nat) (hk : k < b.length) (hb : b.length < 9223372036854775807) (hs : s < 4294967296) :
    bytes_Sum_l0 b (tabI T) (s : Int) (k : Int) = some (.inl (((P1.step T s b[k] : Nat) : Int), ((k + 1 : Nat) : Int))) := by
  unfold bytes_Sum_l0
  have h1 : decide ((k : Int) < ((b.length : Nat) : Int)) = true := decide_eq_true (by omega)
  have hc := b[k].toNat_lt
  have hm : s % 256 < 256 := Nat.mod_lt _ (by omega)
  have hx : s % 256 ^^^ b[k].toNat < 256 := xor_lt8 hm hc
  have e1 : IntKind.wrap .u8 (s : Int) = ((s % 256 : Nat) : Int) := by rw [wu8_mod]; omega
  have e2 : Int.fdiv (s : Int) 256 = ((s / 256 : Nat) : Int) := fdiv_nat s 256
  have e3 : IntKind.wrap .i64 ((k : Int) + 1) = ((k + 1 : Nat) : Int) := by rw [w64 ⟨by omega, by omega⟩]; omega
  have ht := h.lt (s % 256 ^^^ b[k].toNat)
  simp only [h1, cond_true, idx_nat hk, Option.bind_some, List.getElem?_eq_getElem hk, e1, xor8 hm hc, idx_nat hx, tabI_get h hx, e2, xor32 ht (show s / 256 < 4294967296 by omega), e3]
  rw [P1.step, Nat.xor_comm]
theorem sum_is {T : List Nat} (h : Tab T) {b : List UInt8} (hb : b.length < 4611686018427387904) : bytes_Sum (tabI T) b = some ((P1.sum T b : Nat) : Int) := by
  unfold bytes_Sum bytes_Sum_l0_it
  have e : iter fuel (fun tt => bytes_Sum_l0 b (tabI T) tt.1 tt.2) (4294967295, 0) = some ((P1.run T 4294967295 b : Nat) : Int) := by
    have := iter_range (f := fun (tt : Int × Int) => bytes_Sum_l0 b (tabI T) tt.1 tt.2) (o := ((P1.run T 4294967295 b : Nat) : Int)) (fun k => (((P1.run T 4294967295 (b.take k) : Nat) : Int), (k : Int))) b.length hb
      (fun k hk => by
        rw [sum_step h _ k hk (by omega) (P1.run_lt h _ (by omega))]
        rw [List.take_succ_eq_append_getElem hk, P1.run_snoc])
      (by
        simp only [List.take_length]
        unfold bytes_Sum_l0
        rw [decide_eq_false (by omega)]
        rfl)
    simpa [P1.run] using this
  rw [e]
  have hl := P1.run_lt h b (s := 4294967295) (by omega)
  simp only [Option.bind_some]
  rw [wu32 ⟨by omega, by omega⟩]
  congr 1
  unfold P1.sum
  omega
theorem copy_is {b : List UInt8} (h : b.length ≤ room) : low_CopyBytes b = some b := by
  unfold low_CopyBytes
  rw [need_true (by rw [Nat.mul_one, ble_true h]; rfl)]
theorem clone_is {b : List UInt8} (h : b.length ≤ room) : slices_Clone__byte_byte b = some b := by
  unfold slices_Clone__byte_byte
  have hn : need (Nat.ble ((0 + b.length) * 1) room && Nat.ble (0 + b.length) room) (some b) = some b := need_true (by rw [Nat.zero_add, Nat.mul_one, ble_true h]; rfl)
  rw [nilQ_same (fun h0 => by
    have : b = [] := List.eq_nil_of_length_eq_zero h0
    subst this
    rw [hn]
    rfl)]
  rw [hn]
  rfl
theorem seal_is {T : List Nat} (h : Tab T) {b : List UInt8} (hb : b.length + 4 ≤ 140737488355328) : bytes_Seal (tabI T) b = some (sealed (P1.sum T) b) := by
  have hs := P1.sum_lt T b
  have e0 : IntKind.wrap .i64 (((b.length : Nat) : Int) + 4) = ((b.length + 4 : Nat) : Int) := by rw [w64 ⟨by omega, by omega⟩]; omega
  unfold bytes_Seal
  rw [e0, upto_nat (show b.length + 4 ≤ room from hb)]
  simp only [Option.bind_some]
  rw [upto_nat (Nat.le_refl _)]
  simp only [Option.bind_some]
  rw [need_true (by rw [Nat.mul_one, ble_true (show b.length + 4 ≤ room from hb)]), sum_is h (by omega)]
  simp only [Option.bind_some]
  have e : bytes_Seal_l0_it b ((P1.sum T b : Nat) : Int) (0, List.replicate (b.length + 4) 0) = some (laid4 b.length (P1.sum T b) 4) := by
    unfold bytes_Seal_l0_it
    have := iter_range (f := fun (tt : Int × List UInt8) => bytes_Seal_l0 b ((P1.sum T b : Nat) : Int) tt.1 tt.2) (o := laid4 b.length (P1.sum T b) 4) (fun k => ((k : Int), laid4 b.length (P1.sum T b) k)) 4 (by decide)
      (fun k hk => by
        have hlen := laid4_len b.length (P1.sum T b) k (by omega)
        have e1 : IntKind.wrap .i64 (8 * (k : Int)) = ((8 * k : Nat) : Int) := by rw [w64 ⟨by omega, by omega⟩]; omega
        have e2 : IntKind.wrap .i64 (IntKind.wrap .i64 (((b.length + 4 : Nat) : Int) - 1) - (k : Int)) = ((b.length + 3 - k : Nat) : Int) := by
          rw [w64 (x := ((b.length + 4 : Nat) : Int) - 1) ⟨by omega, by omega⟩, w64 ⟨by omega, by omega⟩]; omega
        have e3 : (2 : Int) ^ (min ((8 * k : Nat) : Int).toNat 32) = ((2 ^ (8 * k) : Nat) : Int) := by
          have : min ((8 * k : Nat) : Int).toNat 32 = 8 * k := by omega
          rw [this]; simp
        have e4 : IntKind.wrap .u8 (Int.fdiv ((P1.sum T b : Nat) : Int) ((2 ^ (8 * k) : Nat) : Int)) = ((P1.sum T b / 2 ^ (8 * k) % 256 : Nat) : Int) := by rw [fdiv_nat, wu8_mod]; omega
        have hq : b.length + 3 - k < (laid4 b.length (P1.sum T b) k).length := by omega
        show bytes_Seal_l0 b _ (k : Int) (laid4 b.length (P1.sum T b) k) = _
        unfold bytes_Seal_l0
        rw [decide_eq_true (show (k : Int) < 4 by omega), e1, e0, e2, e3, e4, need_true (decide_eq_true (by omega)), idx_nat hq, byte_nat (Nat.mod_lt _ (by omega))]
        simp only [cond_true, Option.bind_some, List.getElem?_eq_getElem hq]
        rw [w64 ⟨by omega, by omega⟩, ← laid4_step b.length (P1.sum T b) k hk]
        have : UInt8.ofNat (P1.sum T b / 2 ^ (8 * k) % 256) = UInt8.ofNat (P1.sum T b / 2 ^ (8 * k)) := by
          apply UInt8.toNat_inj.1
          simp
        rw [this]
        rfl)
      (by
        show bytes_Seal_l0 b _ ((4 : Nat) : Int) (laid4 b.length (P1.sum T b) 4) = _
        unfold bytes_Seal_l0
        rw [decide_eq_false (by omega)]
        rfl)
    have h0 : laid4 b.length (P1.sum T b) 0 = List.replicate (b.length + 4) 0 := by
      unfold laid4
      simp [be4]
    simp only [h0] at this
    exact this
  rw [e]
  simp only [Option.bind_some]
  congr 1
  rw [laid4_end]
  unfold splice sealed
  have : List.take (List.replicate b.length (0 : UInt8) ++ be4 (P1.sum T b)).length b = b := List.take_of_length_le (by simp)
  rw [this]
  simp
theorem unseal_is {T : List Nat} (h : Tab T) {b : List UInt8} (hb : b.length ≤ 140737488355328) : bytes_Unseal (tabI T) b = some ((unsealed (P1.sum T) b).1, (((unsealed (P1.sum T) b).2 : Nat) : Int)) := by
  unfold bytes_Unseal
  by_cases h4 : b.length < 4
  · rw [decide_eq_true (by omega), unsealed_short _ h4]
    rfl
  · rw [decide_eq_false (by omega)]
    have e0 : IntKind.wrap .i64 (((b.length : Nat) : Int) - 4) = ((b.length - 4 : Nat) : Int) := by rw [w64 ⟨by omega, by omega⟩]; omega
    have hl : (b.take (b.length - 4)).length = b.length - 4 := by simp
    simp only [cond_false]
    rw [e0, upto_nat (by omega)]
    simp only [Option.bind_some]
    rw [clone_is (by rw [hl]; unfold room; omega)]
    simp only [Option.bind_some]
    rw [seal_is h (by rw [hl]; omega)]
    simp only [Option.bind_some]
    rw [unsealed_is _ (by omega)]
    by_cases he : sealed (P1.sum T) (b.take (b.length - 4)) = b
    · rw [if_pos he]
      simp [he]
    · rw [if_neg he]
      have : (sealed (P1.sum T) (b.take (b.length - 4)) == b) = false := by simpa using he
      rw [this]
      rfl
end Go.Ab.D
