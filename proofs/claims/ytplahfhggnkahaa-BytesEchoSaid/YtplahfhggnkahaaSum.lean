/- bytes.Sum and cooperageref01.Sum: the sum by any table. -/
import Derived.Test.YtplahfhggnkahaaWords
import Derived.Test.YtplahfhggnkahaaPlain01
import Derived.WalkSpells
import Derived.WalkLawsBesides
import Derived.Lib.Hide
import Derived.Deep.QuietTactic
import Derived.BigQuiet
namespace Go.Proofs.Ytplahfhggnkahaa
open Go.RowKit

/-- Block g holds the table T. -/
def IsTab (w : World) (g : Nat) (T : List Nat) : Prop := ∀ i, i < 256 → w.cell? ⟨g, i, none⟩ = some (.int .u32 (T.getD i 0 : Int))

theorem IsTab.lt {w : World} {g : Nat} {T : List Nat} (h : IsTab w g T) : g < w.heap.size := cell_lt (h 0 (by omega))
theorem IsTab.below {w w' : World} {g : Nat} {T : List Nat} (h : IsTab w g T) (hb : Below w.heap.size w w') : IsTab w' g T := fun i hi => (hb.cell (p := ⟨g, i, none⟩) h.lt).trans (h i hi)

theorem take_snoc (l : List UInt8) (k : Nat) (h : k < l.length) : l.take (k + 1) = l.take k ++ [l[k]] := List.take_succ_eq_append_getElem h

/-- One byte of a sum, in the walk's words. -/
theorem step_words {T : List Nat} (hT : P1.Tab T) {s : Nat} (hs : s < 4294967296) (b : UInt8) :
    ∃ x j v s2 : Nat, b.toNat = x ∧ x < 256 ∧ j < 256 ∧ T.getD j 0 = v ∧ v < 4294967296 ∧ P1.step T s b = s2 ∧ s2 < 4294967296 ∧
      bits .xor .u8 ((s : Int) % 256) (x : Int) = (j : Int) ∧ bits .xor .u32 (v : Int) ((s : Int) / 256) = (s2 : Int) ∧ bits .xor .u32 ((s : Int) % 256) (x : Int) = (j : Int) ∧ bits .xor .u32 ((s : Int) / 256) (v : Int) = (s2 : Int) := by
  have hx := UInt8.toNat_lt b
  have hj := P1.xor_lt8 (show s % 256 < 256 by omega) hx
  have hv := hT.lt (s % 256 ^^^ b.toNat)
  have c1 : ((s % 256 : Nat) : Int) = (s : Int) % 256 := by omega
  have c2 : ((s / 256 : Nat) : Int) = (s : Int) / 256 := by omega
  rw [← c1, ← c2]
  refine ⟨_, _, _, _, rfl, hx, hj, rfl, hv, rfl, P1.step_lt hT hs b, u8_xor_nat _ _ (by omega) hx, ?_, u32_xor_nat _ _ (by omega) (by omega), u32_xor_nat _ _ (by omega) hv⟩
  have := u32_xor_nat (T.getD (s % 256 ^^^ b.toNat) 0) (s / 256) hv (by omega)
  rw [Nat.xor_comm (T.getD (s % 256 ^^^ b.toNat) 0) (s / 256)] at this
  exact this

set_option maxHeartbeats 400000 in
theorem sum_nil (A : Option Addr) (n c : Nat) (w : World) :
    Calls Try.prog 12 #[.pointer none, .slice A n c] w fun e w' => e = .returned (.int .u32 0) ∧ w = w' := by
  go_enter Try.func12, Try.ntmps12
  go_wp2
  go_ret
  exact ⟨rfl, rfl⟩

set_option maxRecDepth 10000 in
set_option maxHeartbeats 400000 in
theorem sum_any (g : Nat) (T : List Nat) (A : Option Addr) (l : List UInt8) (c : Nat) (w : World) (hn : l.length ≤ maxLen) (hT : P1.Tab T) (ht : IsTab w g T) (hs : Sl w A (u8s l)) :
    Calls Try.prog 12 #[.pointer (some ⟨g, 0, none⟩), .slice A l.length c] w fun e w' => e = .returned (.int .u32 (P1.sum T l : Int)) ∧ ∃ n, w' = w.drewN n := by
  unfold maxLen at hn
  go_enter Try.func12, Try.ntmps12
  go_wp2
  go_loopw [5, 6, 11] (fun s _ i wr => ∃ k n : Nat, k ≤ l.length ∧ i = .int .i64 k ∧ s = .int .u32 (P1.run T 4294967295 (l.take k) : Int) ∧ wr = w.drewN n) (fun _ _ i _ => l.length - (intOf i).toNat)
  case atStart => exact ⟨0, 0, Nat.zero_le _, rfl, rfl, rfl⟩
  case round =>
    obtain ⟨k, n, hk, rfl, rfl, rfl⟩ := hrel
    have hlt32 := P1.run_lt hT (l.take k) (show 4294967295 < 4294967296 by omega)
    by_cases hlt : k < l.length
    · obtain ⟨b, off, rfl, hb, hc⟩ := hs.byte hlt
      have hsn := take_snoc l k hlt
      have hrs := P1.run_snoc T 4294967295 (l.take k) l[k]
      rw [← hsn] at hrs
      clear hsn
      generalize hq : P1.run T 4294967295 (l.take k) = s at *
      obtain ⟨x, j, v, s2, hx, hx256, hj, hv, hv32, hs2, hs32, e1, e2, _, _⟩ := step_words hT hlt32 l[k]
      have hcell := ht j hj
      rw [hx] at hc
      rw [hv] at hcell
      rw [hs2] at hrs
      have HR := Lib.hid hrs
      clear hrs hq hs ht hx hv hs2
      go_wp2
      go_quiet (fail)
      go_wp2
      go_roundw
      case rel => exact ⟨k + 1, _, by omega, by go_num, by rw [HR.out], rfl⟩
      case measure => simp [intOf]; omega
    · obtain rfl : k = l.length := by omega
      rw [List.take_length] at hlt32
      rw [List.take_length]
      have HS := Lib.hid (show ((4294967295 - P1.run T 4294967295 l : Nat) : Int) = 4294967295 - (P1.run T 4294967295 l : Int) by omega)
      go_wp2
      go_ret
      exact ⟨retI (by unfold P1.sum; exact HS.out.symm), _, rfl⟩

set_option maxHeartbeats 400000 in
theorem refSum_nil (A : Option Addr) (n c : Nat) (w : World) :
    Calls Try.prog 30 #[.pointer none, .slice A n c] w fun e w' => e = .returned (.int .u32 0) ∧ w = w' := by
  go_enter Try.func30, Try.ntmps30
  go_wp2
  go_ret
  exact ⟨rfl, rfl⟩

set_option maxRecDepth 10000 in
set_option maxHeartbeats 400000 in
theorem refSum_any (g : Nat) (T : List Nat) (A : Option Addr) (l : List UInt8) (c : Nat) (w : World) (hn : l.length ≤ maxLen) (hT : P1.Tab T) (ht : IsTab w g T) (hs : Sl w A (u8s l)) :
    Calls Try.prog 30 #[.pointer (some ⟨g, 0, none⟩), .slice A l.length c] w fun e w' => e = .returned (.int .u32 (P1.sum T l : Int)) ∧ w = w' := by
  unfold maxLen at hn
  go_enter Try.func30, Try.ntmps30
  go_wp2
  go_loop [5, 6, 7] (fun s i _ => ∃ k : Nat, k ≤ l.length ∧ i = .int .i64 k ∧ s = .int .u32 (P1.run T 4294967295 (l.take k) : Int)) (fun _ i _ => l.length - (intOf i).toNat)
  case atStart => exact ⟨0, Nat.zero_le _, rfl, rfl⟩
  case round =>
    obtain ⟨k, hk, rfl, rfl⟩ := hrel
    have hlt32 := P1.run_lt hT (l.take k) (show 4294967295 < 4294967296 by omega)
    by_cases hlt : k < l.length
    · obtain ⟨b, off, rfl, hb, hc⟩ := hs.byte hlt
      have hsn := take_snoc l k hlt
      have hrs := P1.run_snoc T 4294967295 (l.take k) l[k]
      rw [← hsn] at hrs
      clear hsn
      generalize hq : P1.run T 4294967295 (l.take k) = s at *
      obtain ⟨x, j, v, s2, hx, hx256, hj, hv, hv32, hs2, hs32, _, _, e1, e2⟩ := step_words hT hlt32 l[k]
      have hcell := ht j hj
      rw [hx] at hc
      rw [hv] at hcell
      rw [hs2] at hrs
      have HR := Lib.hid hrs
      clear hrs hq hs ht hx hv hs2
      go_wp2
      go_round
      case rel => exact ⟨k + 1, by omega, by go_num, by rw [HR.out]⟩
      case measure => simp [intOf]; omega
    · obtain rfl : k = l.length := by omega
      rw [List.take_length] at hlt32
      rw [List.take_length]
      have HS := Lib.hid (show ((4294967295 - P1.run T 4294967295 l : Nat) : Int) = 4294967295 - (P1.run T 4294967295 l : Int) by omega)
      go_wp2
      go_ret
      exact ⟨retI (by unfold P1.sum; exact HS.out.symm), rfl⟩

end Go.Proofs.Ytplahfhggnkahaa
