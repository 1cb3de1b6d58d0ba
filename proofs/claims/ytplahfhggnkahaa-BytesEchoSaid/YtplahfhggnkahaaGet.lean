/- bytes.GetUint: what it tells of any bytes, from any place on. -/
import Derived.Test.YtplahfhggnkahaaProg
import Derived.Test.YtplahfhggnkahaaBase
import Derived.Test.YtplahfhggnkahaaPlain01
import Derived.WalkKit
import Derived.WalkSpells
import Derived.WalkLawsBesides
import Derived.Lib.Hide
namespace Go.Proofs.Ytplahfhggnkahaa
open Go.RowKit

set_option maxHeartbeats 400000 in
theorem getUint_out (A : Option Addr) (n c : Nat) (p : Int) (w : World) (hn : n ≤ maxLen) (h : p < 0 ∨ (n : Int) < p) :
    Calls Try.prog 14 #[.slice A n c, .int .i64 p] w fun e w' => e = .returned (.tuple #[.int .u64 0, .int .i64 0, .int .i64 2]) ∧ w = w' := by
  unfold maxLen at hn
  rcases h with h | h
  · go_enter Try.func14, Try.ntmps14
    go_wp2
    go_ret3
    exact ⟨rfl, rfl⟩
  · have h' : ¬ p < 0 := by omega
    go_enter Try.func14, Try.ntmps14
    go_wp2
    go_ret3
    exact ⟨rfl, rfl⟩

set_option maxRecDepth 100000 in
set_option maxHeartbeats 400000 in
theorem getUint_in (A : Option Addr) (l : List UInt8) (c : Nat) (p : Nat) (w : World) (hn : l.length ≤ maxLen) (h : p ≤ l.length) (hs : Sl w A (u8s l)) :
    Calls Try.prog 14 #[.slice A l.length c, .int .i64 p] w fun e w' => e = .returned (.tuple #[.int .u64 ((P1.getUint l p).1 : Int), .int .i64 ((P1.getUint l p).2.1 : Int), .int .i64 ((P1.getUint l p).2.2 : Int)]) ∧ w = w' := by
  unfold maxLen at hn
  have h1 : ¬ ((p : Int) < 0) := by omega
  have h2 : ¬ ((l.length : Int) < (p : Int)) := by omega
  go_enter Try.func14, Try.ntmps14
  go_wp2
  go_loop [4, 5, 6, 7, 8] (fun a4 a5 a6 n i => ∃ k m : Nat, p + k ≤ l.length ∧ k ≤ 9 ∧ m < 2 ^ (7 * k) ∧ P1.num (l.drop p) 0 0 = P1.num (l.drop (p + k)) k m ∧ i = .int .i64 ((p + k : Nat) : Int) ∧ n = .int .u64 (m : Int) ∧ a4 = .int .u64 0 ∧ a5 = .int .i64 0 ∧ a6 = .int .i64 0) (fun _ _ _ _ i => l.length - (intOf i).toNat)
  case atStart => exact ⟨0, 0, by omega, by omega, by simp, by simp, by simp, rfl, rfl, rfl, rfl⟩
  case round =>
    obtain ⟨k, m, hk, hk9, hm, hnum, rfl, rfl, rfl, rfl, rfl⟩ := hrel
    have HN := Lib.hid hnum; clear hnum
    by_cases hlt : p + k < l.length
    · obtain ⟨b, off, rfl, hb, hc⟩ := hs.byte hlt
      have hx256 : l[p + k].toNat < 256 := UInt8.toNat_lt _
      obtain ⟨x, hx⟩ : ∃ x : Nat, l[p + k].toNat = x := ⟨_, rfl⟩
      rw [hx] at hc hx256
      have HX := Lib.hid hx; clear hx
      clear hs
      have e0 : 0 ≤ (p : Int) + (k : Int) := by omega
      have hd := P1.drop_at hlt
      have HM := Lib.hid hm; clear hm
      by_cases hbad : (0 < k ∧ x = 0) ∨ (8 < k ∧ 1 < x)
      · have HF := Lib.hid (P1.getUint_err (e := 10) h (by decide) (HN.out.trans (by rw [hd]; exact P1.num_bad (by rw [HX.out]; exact hbad))))
        clear hd
        rcases hbad with ⟨q1, q2⟩ | ⟨q1, q2⟩
        · have z : ((x : Int) == 0) = true := by simp [q2]
          clear q2
          go_wp2
          go_ret3
          exact ⟨by rw [HF.out]; exact ret3 rfl rfl rfl, rfl⟩
        · have z : ((x : Int) == 0) = false := by simp; omega
          have q3 : 0 < k := by omega
          go_wp2
          go_ret3
          exact ⟨by rw [HF.out]; exact ret3 rfl rfl rfl, rfl⟩
      have hr := P1.room m x k hk9 HM.out (by omega)
      by_cases h128 : x < 128
      · have HF := Lib.hid (P1.getUint_of h (HN.out.trans (by rw [hd]; exact P1.num_end (by rw [HX.out]; exact hbad) (by rw [HX.out]; exact h128))))
        rw [HX.out] at HF
        have HV := Lib.hid (vstep m x k hr.1)
        clear hd hr
        have q1 : k < 1 ∨ (0 < k ∧ k ≤ 8 ∧ 0 < x) ∨ (8 < k ∧ 0 < x ∧ x < 2) := by omega
        clear hbad
        rcases q1 with q1 | ⟨q1, q2, q3⟩ | ⟨q1, q2, q3⟩
        · go_wp2
          go_ret3
          exact ⟨by rw [HF.out]; exact ret3 HV.out (by simp only []; omega) rfl, rfl⟩
        · have z : ((x : Int) == 0) = false := by simp; omega
          go_wp2
          go_ret3
          exact ⟨by rw [HF.out]; exact ret3 HV.out (by simp only []; omega) rfl, rfl⟩
        · have z : ((x : Int) == 0) = false := by simp; omega
          have q4 : 0 < k := by omega
          go_wp2
          go_ret3
          exact ⟨by rw [HF.out]; exact ret3 HV.out (by simp only []; omega) rfl, rfl⟩
      · have HN2 : P1.num (l.drop p) 0 0 = P1.num (l.drop (p + k + 1)) (k + 1) (m + l[p + k].toNat % 128 * 2 ^ (7 * k)) := HN.out.trans (by rw [hd]; exact P1.num_step (by rw [HX.out]; exact hbad) (by rw [HX.out]; omega))
        rw [HX.out] at HN2
        replace HN2 := Lib.hid HN2
        have HV := Lib.hid (vstep m x k hr.1)
        have q1 : k < 1 ∨ (0 < k ∧ k ≤ 8 ∧ 0 < x) := by omega
        have HM2 := Lib.hid (hr.2 (by omega))
        clear hbad hd hr
        rcases q1 with q1 | ⟨q1, q2, q3⟩
        · go_wp2
          go_round
          case rel => exact ⟨k + 1, _, by omega, by omega, HM2.out, HN2.out, by go_num, by rw [HV.out], rfl, rfl, rfl⟩
          case measure => simp [intOf]; omega
        · have z : ((x : Int) == 0) = false := by simp; omega
          go_wp2
          go_round
          case rel => exact ⟨k + 1, _, by omega, by omega, HM2.out, HN2.out, by go_num, by rw [HV.out], rfl, rfl, rfl⟩
          case measure => simp [intOf]; omega
    · have HF := Lib.hid (P1.getUint_err (e := 11) h (by decide) (HN.out.trans (by rw [List.drop_of_length_le (by omega)]; rfl)))
      go_wp2
      go_ret3
      exact ⟨by rw [HF.out]; exact ret3 rfl rfl rfl, rfl⟩

end Go.Proofs.Ytplahfhggnkahaa
