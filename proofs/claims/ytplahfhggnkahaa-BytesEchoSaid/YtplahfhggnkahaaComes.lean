/- cooperagelaw01.comes: what comes from a place of bytes on, as text. -/
import Derived.Test.YtplahfhggnkahaaBlob
import Derived.Test.YtplahfhggnkahaaGetBlob
import Derived.Deep.RegionWith
namespace Go.Proofs.Ytplahfhggnkahaa
open Go.RowKit

theorem uint_nil (n : Nat) (w : World) (hn : n < 18446744073709551616) : Calls Try.prog 15 #[.slice none 0 0, .int .u64 n] w (FreshB w (P1.varint n)) := by
  refine (uint_any w.heap.size (.slice none 0 0) [] n w hn (by simp) (Nat.le_refl _) (OwnB.nil _ _)).mono ?_
  rintro e w' ⟨v', rfl, ho, hg⟩
  obtain ⟨A, c, rfl, _, _⟩ := ho.form
  exact ⟨A, c, rfl, ho, hg.below (Below.refl _ _) (Nat.le_refl _) (by simp [Value.ownBlock])⟩

theorem retStr {s : ByteArray} {l : List UInt8} (h : s.data.toList = l) : Ending.returned (.string s) = .returned (.string ⟨l.toArray⟩) := by
  subst h; rfl

set_option maxRecDepth 10000 in
set_option maxHeartbeats 1000000 in
theorem comes_any (l : List UInt8) (p : Int) (w : World) (hn : l.length ≤ 70368744177664) :
    Calls Try.prog 21 #[.string ⟨l.toArray⟩, .int .i64 p] w fun e w' => e = .returned (.string ⟨(P1.comesL l p).toArray⟩) ∧ Below w.heap.size w w' := by
  obtain ⟨A, c, w1, hcv, hsl, hA, hb1⟩ := ofStr w ⟨l.toArray⟩ l rfl
  have hf := P1.getUint_fits l p
  have hcall0 := getUint_any A l c p w1 (by unfold maxLen; omega) hsl
  rcases hg : P1.getUint l p with ⟨n, j, e⟩
  have hcall := getUint_num A l c p w1 hg hcall0
  clear hcall0
  rw [hg] at hf
  simp only at hf
  obtain ⟨hf1, hf2, hf3, hf4, hf5⟩ := hf
  have HC := Lib.hid hcall
  have HB1 := Lib.hid hb1
  have HSL := Lib.hid hsl
  have HA := Lib.hid hA
  clear hcall hb1 hsl hA
  by_cases he : e = 0
  · subst he
    have HR : Hid (P1.comesL l p = P1.varint n ++ [32] ++ P1.varint j) := Lib.hid (by unfold P1.comesL; rw [hg]; simp)
    have h10 := P1.varint_len10 hf1
    have h11 := P1.varint_len10 (n := j) (by omega)
    clear hg hf4 hf5
    go_enter Try.func21, Try.ntmps21
    go_wp2_with (go_at_call 14; refine HC.out.mono ?_; rintro e w2 ⟨rfl, rfl⟩)
    have hz1 := HB1.out.size
    have hwj := wrap_u64 (n := j) (by omega)
    go_region_with (first | (go_at_call_of 15 (Value.int .u64 (n : Int)); go_must ((refine (uint_nil n _ hf1).mono ?_); (rintro e w2 ⟨A2, c2, rfl, ho2, hb2⟩); have hc2 := toStr c2 ho2.sl ho2.none_)) | (go_at_call_of 15 (Value.int .u64 (j : Int)); go_must ((refine (uint_nil j _ (by omega)).mono ?_); (rintro e w3 ⟨A3, c3, rfl, ho3, hb3⟩); have hc3 := toStr c3 ho3.sl ho3.none_; have hc4 := toStr c2 (ho2.sl.below hb3) ho2.none_)))
    all_goals
      have HB := Lib.hid ((HB1.out.drew.trans (hb2.mono hz1)).trans (hb3.mono (Nat.le_trans hz1 hb2.size)))
      clear ho2 ho3 hb2 hb3 hc2 hc3 hc4
      go_wp2
      go_ret
      exact ⟨by rw [HR.out]; exact retStr (by simp), HB.out⟩
  · have HR : Hid (P1.comesL l p = [101, 114, 114, 111, 114, 32] ++ P1.varint e) := Lib.hid (by unfold P1.comesL; rw [hg]; simp [he])
    have z : ((e : Int) == 0) = false := by simp; omega
    have z' : ((e : Int) != 0) = true := by simp; omega
    obtain ⟨rfl, rfl⟩ := hf5 he
    have h10 := P1.varint_len10 (n := e) (by omega)
    have hz1 := HB1.out.size
    clear hg hf4 hf5
    go_enter Try.func21, Try.ntmps21
    go_wp2_with (first | (go_at_call 14; refine HC.out.mono ?_; rintro e w2 ⟨rfl, rfl⟩) | (go_at_call 15; refine (uint_nil e _ (by omega)).mono ?_; rintro e w2 ⟨A2, c2, rfl, ho2, hb2⟩; have hc2 := toStr c2 ho2.sl ho2.none_; have HB2 := Lib.hid hb2; clear ho2 hb2))
    go_ret
    exact ⟨by rw [HR.out]; exact retStr (by simp), HB1.out.trans (HB2.out.mono hz1)⟩

end Go.Proofs.Ytplahfhggnkahaa
