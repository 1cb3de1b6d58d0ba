/- bytes.Uint and cooperageref01.Varint: a number as it is sent. -/
import Derived.Test.YtplahfhggnkahaaWords
import Derived.Test.YtplahfhggnkahaaPlain01
import Derived.WalkSpells
import Derived.WalkLawsBesides
import Derived.Lib.Hide
namespace Go.Proofs.Ytplahfhggnkahaa
open Go.RowKit

set_option maxHeartbeats 400000 in
theorem uint_any (base : Nat) (v : Value) (l : List UInt8) (n : Nat) (w : World) (hn : n < 18446744073709551616) (hl : l.length ≤ 70368744177664) (hb : base ≤ w.heap.size) (ho : OwnB w base v l) :
    Calls Try.prog 15 #[v, .int .u64 n] w fun e w' => ∃ v', e = .returned v' ∧ OwnB w' base v' (l ++ P1.varint n) ∧ Grew 1 w w' v v' := by
  go_enter Try.func15, Try.ntmps15
  go_wp2
  go_loopw [0, 1] (fun u i wr => ∃ (m : Nat) (r : List UInt8), m ≤ n ∧ r.length + (P1.varint m).length ≤ 10 ∧ Hid (r ++ P1.varint m = P1.varint n) ∧ OwnB wr base u (l ++ r) ∧ Grew 1 w wr v u ∧ i = .int .u64 m) (fun _ i _ => (intOf i).toNat)
  case atStart => exact ⟨n, [], by omega, by simpa using P1.varint_len10 hn, rfl, by simpa using ho, Grew.refl _ _ _, rfl⟩
  case round =>
    obtain ⟨m, r, hm, hlen, hr, ho1, hg1, rfl⟩ := hrel
    have hz := hg1.by_.size
    have hg := Lib.hid hg1
    clear hg1
    by_cases hlt : m < 128
    · have hv := P1.varint_lt hlt
      have H1 : 0 < (P1.varint m).length := by rw [hv]; simp
      have HV := Lib.hid hv
      clear hv
      go_wp2_with (at_builtin; refine app1_u8 _ rfl (.tmp 16) (.tmp 19) rfl base _ _ rfl ho1 _ (UInt8.ofNat m) (by simp; omega) rfl (by simp; omega) (by omega) ?_; intro v1 w1 ho2 hg2)
      go_ret
      refine ⟨v1, rfl, ?_, hg.out.trans hg2⟩
      rw [← hr.out, HV.out, ← List.append_assoc]
      exact ho2
    · have hv := P1.varint_ge (show 128 ≤ m by omega)
      have H1 : (P1.varint m).length = (P1.varint (m / 128)).length + 1 := by rw [hv]; simp
      have HV := Lib.hid hv
      have HL := Lib.hid H1
      clear hv H1
      go_wp2_with (at_builtin; refine app1_u8 _ rfl (.tmp 7) (.tmp 12) rfl base _ _ rfl ho1 _ (UInt8.ofNat (m % 128 + 128)) (by simp; omega) rfl (by have := HL.out; simp; omega) (by omega) ?_; intro v1 w1 ho2 hg2)
      go_roundw
      case rel =>
        refine ⟨m / 128, r ++ [UInt8.ofNat (m % 128 + 128)], by omega, by have := HL.out; simp; omega, ?_, by rw [← List.append_assoc]; exact ho2, hg.out.trans hg2, by go_num⟩
        have := hr.out
        rw [HV.out] at this
        show _ = _
        rw [List.append_assoc]
        exact this
      case measure => simp [intOf]; omega

set_option maxRecDepth 10000 in
set_option maxHeartbeats 400000 in
theorem varint_any (n : Nat) (w : World) (hn : n < 18446744073709551616) :
    Calls Try.prog 39 #[.int .u64 n] w (FreshB w (P1.varint n)) := by
  go_enter Try.func39, Try.ntmps39
  go_wp2
  go_loopw [0, 3] (fun i u wr => ∃ (m : Nat) (r : List UInt8), m ≤ n ∧ r.length + (P1.varint m).length ≤ 10 ∧ Hid (r ++ P1.varint m = P1.varint n) ∧ OwnB wr w.heap.size u r ∧ Below w.heap.size w wr ∧ i = .int .u64 m) (fun i _ _ => (intOf i).toNat)
  case atStart => exact ⟨n, [], by omega, by simpa using P1.varint_len10 hn, rfl, OwnB.nil _ _, Below.refl _ _, rfl⟩
  case round =>
    obtain ⟨m, r, hm, hlen, hr, ho1, hg1, rfl⟩ := hrel
    have hz := hg1.size
    have hlt1 := World.ownsRow.lt ho1
    have hg := Lib.hid hg1
    have hl1 := Lib.hid hlt1
    clear hg1 hlt1
    by_cases hlt : m < 128
    · have hv := P1.varint_lt hlt
      have H1 : 0 < (P1.varint m).length := by rw [hv]; simp
      have HV := Lib.hid hv
      clear hv
      go_wp2_with (at_builtin; refine app1_u8 _ rfl (.tmp 6) (.tmp 9) rfl w.heap.size _ _ rfl ho1 _ (UInt8.ofNat m) (by simp; omega) rfl (by simp; omega) (by omega) ?_; intro v1 w1 ho2 hg2)
      go_ret
      rw [HV.out] at hr
      obtain ⟨A1, c1, rfl, _, _⟩ := ho2.form
      have hb := hg2.below hg.out hz fun k hk => (hl1.out k hk).1
      rw [hr.out] at ho2
      exact ⟨A1, c1, ret1 (by rw [hr.out]; rfl), ho2, hb⟩
    · have hv := P1.varint_ge (show 128 ≤ m by omega)
      have H1 : (P1.varint m).length = (P1.varint (m / 128)).length + 1 := by rw [hv]; simp
      have HV := Lib.hid hv
      have HL := Lib.hid H1
      clear hv H1
      go_wp2_with (at_builtin; refine app1_u8 _ rfl (.tmp 11) (.tmp 16) rfl w.heap.size _ _ rfl ho1 _ (UInt8.ofNat (m % 128 + 128)) (by simp; omega) rfl (by have := HL.out; simp; omega) (by omega) ?_; intro v1 w1 ho2 hg2)
      go_roundw
      case rel =>
        refine ⟨m / 128, r ++ [UInt8.ofNat (m % 128 + 128)], by omega, by have := HL.out; simp; omega, ?_, ho2, hg2.below hg.out hz fun k hk => (hl1.out k hk).1, by go_num⟩
        have := hr.out
        rw [HV.out] at this
        show _ = _
        rw [List.append_assoc]
        exact this
      case measure => simp [intOf]; omega

end Go.Proofs.Ytplahfhggnkahaa
