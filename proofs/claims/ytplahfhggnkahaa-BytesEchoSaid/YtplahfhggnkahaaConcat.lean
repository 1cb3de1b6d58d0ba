/- slices.Grow on nil, slices.Concat: at bytes. -/
import Derived.Test.YtplahfhggnkahaaWords
import Derived.Test.YtplahfhggnkahaaCopy
import Derived.WalkSpells
import Derived.WalkLawsBesides
import Derived.Lib.Hide
namespace Go.Proofs.Ytplahfhggnkahaa
open Go.RowKit

/-- 'append(nil, make([]T, n)...)'. -/
theorem run_app_zeros {P : Program} (w : World) (t ti ty e : TypeId) (i : TypeInfo) (z : Value) (ht : P.underlying t = some (.slice e)) (hti : P.underlying ti = some (.int .i64)) (hi : P.info? e = some i) (hz : i.zero = some z) (hs1 : 0 < i.size)
    (n : Nat) (h0 : 0 < n) (h63 : (n : Int) ≤ 9223372036854775807) (h48 : (n : Int) * (i.bytes : Int) ≤ 281474976710656) :
    (Builtin.append_ #[t, ti] ty #[.slice none 0 0, .int .i64 (n : Int)]).run P w =
      .ok (.slice (some ⟨w.heap.size, 0, none⟩) n (grownCap w n 0 e)) (w.drew.alloc (.cells (Builtin.zeroCells z.cells n ++ Builtin.zeroCells z.cells (grownCap w n 0 e - n)) e)) := by
  have hn : n ≠ 0 := by omega
  have h63' : ¬ (9223372036854775807 < (n : Int)) := by omega
  have h48n : n * i.bytes ≤ 281474976710656 := by
    have : ((n * i.bytes : Nat) : Int) ≤ 281474976710656 := by push_cast; exact h48
    omega
  have h48' : ¬ (281474976710656 < Builtin.nextslicecap n 0 * i.bytes) := by rw [nextslicecap_zero h0]; omega
  have hw : IntKind.i64.wrap (n : Int) = (n : Int) := IntWalk.i64_in _ (by omega)
  have h00 : ¬ ((n : Int) < 0) := by omega
  have h9 : ¬ (281474976710656 < (n : Int) * (i.bytes : Int)) := by omega
  have h10 : n * i.size ≠ 0 := by
    intro h
    rcases Nat.mul_eq_zero.1 h with h | h <;> omega
  simp [Builtin.append_, run_underlying ht, run_underlying hti, sizeOf, typeInfo, zeroValue, hi, hz, asInt, asIntOf, hw, h00, h9, hn, h63', h48', Question.forced, run_firstCells_none, newRow, grownCap]
  intro h
  exact absurd h h10

set_option maxRecDepth 10000 in
set_option maxHeartbeats 400000 in
theorem grow_nil (n : Nat) (w : World) (hn : n ≤ 140737488355328) :
    Calls Try.prog 41 #[.slice none 0 0, .int .i64 n] w (FreshB w []) := by
  by_cases h0 : 0 < n
  · obtain ⟨i, hi, hz, h1, h2⟩ := info_parts info_u8
    have hr := fun W : World => run_app_zeros (P := Try.prog) W 22 3 22 5 i _ Try.underlying22 Try.underlying3 hi hz (by omega) n h0 (by omega) (by rw [h2]; omega)
    have hc := grownCap_ge w n 0 5
    go_enter Try.func41, Try.ntmps41
    go_wp2_with (at_builtin; refine wpList_append_run _ rfl (.tmp 20) (.tmp 21) 22 3 rfl (.slice none 0 0) (.int .i64 n) _ _ rfl rfl (hr _) ?_)
    go_ret
    refine ⟨some ⟨w.heap.size, 0, none⟩, grownCap w n 0 5, rfl, ⟨rfl, .inr ⟨w.heap.size, _, _, rfl, Nat.le_refl _, heap_alloc_new w.drew _, by simp, grownCap_le_maxLen w n 0 _ (by unfold maxLen; omega), ?_, by simp [u8s]⟩⟩, ((Below.refl _ _).drew).alloc (Nat.le_refl _) _⟩
    simp only [Array.size_append, size_zeroCells]
    simp
    omega

  · obtain rfl : n = 0 := by omega
    go_enter Try.func41, Try.ntmps41
    go_wp2
    go_ret
    exact ⟨none, 0, rfl, OwnB.nil _ _, Below.refl _ _⟩

/-- A part of what is joined: its address, its capacity, its bytes. -/
abbrev Part := Option Addr × Nat × List UInt8
def pv (p : Part) : Value := .slice p.1 p.2.2.length p.2.1
def plen (ps : List Part) : Nat := (ps.map fun p => p.2.2.length).sum
def pall (ps : List Part) : List UInt8 := ps.flatMap fun p => p.2.2
theorem plen_take (ps : List Part) (k : Nat) (h : k < ps.length) : plen (ps.take (k + 1)) = plen (ps.take k) + ps[k].2.2.length := by
  unfold plen; rw [List.take_succ_eq_append_getElem h, List.map_append, List.sum_append]; simp
theorem pall_take (ps : List Part) (k : Nat) (h : k < ps.length) : pall (ps.take (k + 1)) = pall (ps.take k) ++ ps[k].2.2 := by
  unfold pall; rw [List.take_succ_eq_append_getElem h, List.flatMap_append]; simp
theorem plen_le (ps : List Part) (k : Nat) : plen (ps.take k) ≤ plen ps := by
  have : plen ps = plen (ps.take k) + plen (ps.drop k) := by
    unfold plen
    rw [← List.sum_append, ← List.map_append, List.take_append_drop]
  omega
theorem pall_len (ps : List Part) : (pall ps).length = plen ps := by simp [pall, plen, List.length_flatMap]

set_option maxRecDepth 10000 in
set_option maxHeartbeats 400000 in
theorem concat_any (A : Option Addr) (c : Nat) (ps : List Part) (w : World) (hs : Sl w A (ps.map pv)) (hp : ∀ p ∈ ps, Sl w p.1 (u8s p.2.2) ∧ (p.1 = none → p.2.2.length = 0)) (hn : plen ps ≤ 140737488355328) (hl : ps.length ≤ maxLen) :
    Calls Try.prog 40 #[.slice A ps.length c] w (FreshB w (pall ps)) := by
  unfold maxLen at hl
  go_enter Try.func40, Try.ntmps40
  go_wp2
  go_loop [3, 5, 11] (fun s _ i => ∃ k : Nat, k ≤ ps.length ∧ i = .int .i64 k ∧ s = .int .i64 (plen (ps.take k))) (fun _ _ i => ps.length - (intOf i).toNat)
  case atStart => exact ⟨0, Nat.zero_le _, rfl, rfl⟩
  case round =>
    obtain ⟨k, hk, rfl, rfl⟩ := hrel
    have hle := plen_le ps k
    by_cases hlt : k < ps.length
    · have hq : (ps.map pv)[k]? = some (pv ps[k]) := by simp [hlt]
      obtain ⟨b, off, rfl, hb, hc⟩ := hs.at_ hq
      have ht := plen_take ps k hlt
      have hle2 := plen_le ps (k + 1)
      rw [ht] at hle2
      have HT := Lib.hid ht
      clear ht hq
      generalize hq : ps[k] = q at *
      obtain ⟨A1, c1, l1⟩ := q
      simp only [pv] at hc hle2
      go_wp2
      go_round
      case rel => exact ⟨k + 1, by omega, by go_num, by rw [HT.out]; go_num⟩
      case measure => simp [intOf]; omega
    · obtain rfl : k = ps.length := by omega
      rw [List.take_length]
      go_wp2_with (go_at_call 41; refine (grow_nil _ _ hn).mono ?_; rintro e w1 ⟨A1, c1, rfl, ho1, hb1⟩)
      have HO := Lib.hid ho1
      have HB := Lib.hid hb1
      clear ho1 hb1
      go_loopw [6, 8, 27] (fun u _ i wr => ∃ k : Nat, k ≤ ps.length ∧ i = .int .i64 k ∧ OwnB wr w.heap.size u (pall (ps.take k)) ∧ Below w.heap.size w wr) (fun _ _ i _ => ps.length - (intOf i).toNat)
      case atStart => exact ⟨0, Nat.zero_le _, rfl, HO.out, HB.out⟩
      case round =>
        obtain ⟨k, hk, rfl, ho, hb⟩ := hrel
        have hle := plen_le ps k
        by_cases hlt : k < ps.length
        · have hq : (ps.map pv)[k]? = some (pv ps[k]) := by simp [hlt]
          obtain ⟨b, off, rfl, hbb, hc⟩ := (hs.below hb).at_ hq
          have hpk := hp _ (List.getElem_mem hlt)
          have ht := pall_take ps k hlt
          have ht2 := plen_take ps k hlt
          have hle2 := plen_le ps (k + 1)
          rw [ht2] at hle2
          have hpl := pall_len (ps.take k)
          have HT := Lib.hid ht
          clear ht hq ht2
          generalize hq : ps[k] = q at *
          obtain ⟨A2, c2, l2⟩ := q
          simp only [pv] at hc hle2
          have hsl := hpk.1.below hb
          have hnone := hpk.2
          have HPL := Lib.hid hpl
          have hz := hb.size
          have hown := World.ownsRow.lt ho
          have HW := Lib.hid hown
          have HB2 := Lib.hid hb
          clear hpl hpk hb hown
          go_wp2_with (at_builtin; refine app_u8 _ rfl (.tmp 31) (.tmp 32) rfl w.heap.size _ _ rfl ho A2 l2.length c2 l2 rfl rfl hnone hsl (by rw [HPL.out]; omega) hz ?_; intro v3 w3 ho3 hg3)
          go_roundw
          case rel => exact ⟨k + 1, by omega, by go_num, by rw [HT.out]; exact ho3, hg3.below HB2.out hz fun k hk => (HW.out k hk).1⟩
          case measure => simp [intOf]; omega
        · obtain rfl : k = ps.length := by omega
          rw [List.take_length] at ho
          go_wp2
          go_ret
          obtain ⟨A2, c2, rfl, _, _⟩ := ho.form
          exact ⟨A2, c2, rfl, ho, hb⟩
end Go.Proofs.Ytplahfhggnkahaa
