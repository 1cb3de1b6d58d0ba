/- bytes.Table and cooperageref01.Table: the table of sums. -/
import Derived.Test.YtplahfhggnkahaaSum
import Derived.RegionTactic
import Derived.ChangeAlike
namespace Go.Proofs.Ytplahfhggnkahaa
open Go.RowKit

set_option maxRecDepth 10000 in
set_option maxHeartbeats 400000 in
theorem halved_any (n : Nat) (w : World) (hn : n < 4294967296) :
    Calls Try.prog 35 #[.int .u32 n] w fun e w' => e = .returned (.int .u32 (P1.halved n : Int)) ∧ w = w' := by
  go_enter Try.func35, Try.ntmps35
  go_wp2
  go_ret
  refine ⟨retI ?_, rfl⟩
  unfold P1.halved
  have h1 := u32_and_nat n 1 hn (by omega)
  rw [Nat.and_one_is_mod] at h1
  have h1' : bits .and .u32 (n : Int) 1 = ((n % 2 : Nat) : Int) := h1
  have h2 : n % 2 < 2 := Nat.mod_lt _ (by omega)
  rw [h1', ← u32_xor_nat _ _ (by omega) (by omega)]
  congr 1
  omega

set_option maxRecDepth 10000 in
set_option maxHeartbeats 400000 in
theorem refHalved_any (n : Nat) (w : World) (hn : n < 4294967296) :
    Calls Try.prog 37 #[.int .u32 n] w fun e w' => e = .returned (.int .u32 (P1.halved n : Int)) ∧ w = w' := by
  by_cases h : n % 2 = 0
  · have z : ((n : Int) % 2 == 0) = true := by simp; omega
    go_enter Try.func37, Try.ntmps37
    go_wp2
    go_ret
    refine ⟨retI ?_, rfl⟩
    unfold P1.halved
    rw [h]
    simp
  · have z : ((n : Int) % 2 == 0) = false := by simp; omega
    have h1 : 1 ≤ n := by omega
    go_enter Try.func37, Try.ntmps37
    go_wp2
    go_ret
    refine ⟨retI ?_, rfl⟩
    unfold P1.halved
    rw [show n % 2 = 1 by omega, ← u32_xor_nat _ _ (by omega) (by omega)]
    congr 1
    omega

theorem ofInt_i64 (a : Nat) (ha : a < 9223372036854775808) : (BitVec.ofInt 64 (a : Int)).toNat = a := by
  rw [BitVec.ofInt_natCast, BitVec.toNat_ofNat]; exact Nat.mod_eq_of_lt (by omega)
theorem i64_or_nat (a b : Nat) (ha : a < 9223372036854775808) (hb : b < 9223372036854775808) : bits .or .i64 (a : Int) (b : Int) = ((a ||| b : Nat) : Int) := by
  have hx : a ||| b < 2 ^ 63 := Nat.or_lt_two_pow (by omega) (by omega)
  show IntKind.i64.wrap ((BitVec.ofInt 64 (a : Int) ||| BitVec.ofInt 64 (b : Int)).toNat : Int) = _
  rw [BitVec.toNat_or, ofInt_i64 a ha, ofInt_i64 b hb, IntKind.wrap_i64]
  omega

theorem tab_info : (Try.prog.info? 27).map (·.size) = some (ints .u32 P1.crcT).size := by rw [ints_size, P1.crcT_tab.1]; kernel_rfl
theorem zero_tab : ∀ w : World, (zeroValue 27).run Try.prog w = .ok (.agg (ints .u32 P1.zeros)) w := fun _ => by kernel_rfl

set_option maxRecDepth 10000 in
set_option maxHeartbeats 400000 in
theorem table_any (w : World) :
    Calls Try.prog 11 #[] w fun e w' => e = .returned (.agg (ints .u32 P1.crcT)) ∧ Below w.heap.size w w' := by
  have hz := zero_tab
  go_enter Try.func11, Try.ntmps11
  go_wp2
  go_loopw [2, 3, 6] (fun s _ i wr => ∃ k : Nat, k ≤ 8 ∧ i = .int .i64 k ∧ s = .int .u32 (P1.hv k : Int) ∧ Blk wr w.heap.size 27 (ints .u32 P1.zeros) ∧ Blk wr (w.heap.size + 1) 27 (ints .u32 (P1.tab1 k)) ∧ Below w.heap.size w wr) (fun _ _ i _ => 8 - (intOf i).toNat)
  case atStart =>
    refine ⟨0, by omega, rfl, rfl, (Blk.new w _ _).alloc _, ?_, ((Below.refl _ _).alloc (Nat.le_refl _) _).alloc (by simp) _⟩
    have := Blk.new (w.alloc (.cells (ints .u32 P1.zeros) 27)) 27 (ints .u32 P1.zeros)
    exact (by simpa using this : Blk _ (w.heap.size + 1) _ (ints .u32 P1.zeros))
  case round =>
    obtain ⟨k, hk, rfl, rfl, hb0, hb1, hb⟩ := hrel
    have H0 := Lib.hid hb0
    have HB := Lib.hid hb
    have H1 := Lib.hid hb1
    clear hb0 hb
    by_cases hlt : k < 8
    · obtain ⟨x, hx, hx256, hxe⟩ := P1.div_words k
      have hcell := hb1.cell x
      rw [ints_get _ _ _ (by rw [(P1.tab1_tab k).1]; omega)] at hcell
      have hfree := hb1.free x
      have HX := Lib.hid hx
      have HT := Lib.hid (show P1.tab1 (k + 1) = (P1.tab1 k).set (128 / 2 ^ k) (P1.hv k) from rfl)
      have hlt32 := P1.hv_lt k
      clear hx hb1
      go_wp2_with (go_at_call 35; refine (halved_any _ _ hlt32).mono ?_; rintro e w1 ⟨rfl, rfl⟩)
      go_roundw
      case rel =>
        refine ⟨k + 1, by omega, by go_num, rfl, H0.out.far (by simp) _, ?_, HB.out.setCell (by simp) _⟩
        rw [HT.out, HX.out, ← ints_set]
        exact H1.out.set_ _ _
      case measure => simp [intOf]; omega
    · obtain rfl : k = 8 := by omega
      clear hb1
      go_wp2
      go_loopw [4, 5, 16, 21] (fun _ _ i _ wr => ∃ k : Nat, k ≤ 8 ∧ i = .int .i64 k ∧ Blk wr w.heap.size 27 (ints .u32 P1.zeros) ∧ Blk wr (w.heap.size + 1) 27 (ints .u32 (P1.tab2 k)) ∧ Below w.heap.size w wr) (fun _ _ i _ _ => 8 - (intOf i).toNat)
      case atStart => exact ⟨0, by omega, rfl, H0.out, H1.out, HB.out⟩
      case round =>
        obtain ⟨k, hk, rfl, hb0, hb1, hb⟩ := hrel
        clear H0 H1 HB
        have H0 := Lib.hid hb0
        have HB := Lib.hid hb
        have H1 := Lib.hid hb1
        clear hb0 hb hb1
        by_cases hlt : k < 8
        · obtain ⟨p, hp, hp1, hp8, hpe⟩ := P1.pow_words k hlt
          have HP := Lib.hid hp
          clear hp
          go_wp2
          go_loopw [5, 21] (fun _ i wr => ∃ low : Nat, low ≤ p ∧ i = .int .i64 low ∧ Blk wr w.heap.size 27 (ints .u32 P1.zeros) ∧ Blk wr (w.heap.size + 1) 27 (ints .u32 (P1.fill (P1.tab2 k) k low)) ∧ Below w.heap.size w wr) (fun _ i _ => p - (intOf i).toNat)
          case atStart => exact ⟨0, by omega, rfl, H0.out, H1.out, HB.out⟩
          case round =>
            obtain ⟨low, hlow, rfl, hb0, hb1, hb⟩ := hrel
            clear H0 H1 HB
            have H0 := Lib.hid hb0
            have HB := Lib.hid hb
            have H1 := Lib.hid hb1
            clear hb0 hb
            by_cases hl : low < p
            · have HO := P1.or_words k p low HP.out hl
              have HT := Lib.hid (P1.fill_step (P1.tab2 k) k p low HP.out)
              have htab := P1.fill_tab (P1.tab2_tab k) k low
              have c1 := hb1.cell p
              have c2 := hb1.cell low
              have c3 := hb1.cell (p + low)
              rw [ints_get _ _ _ (by rw [htab.1]; omega)] at c1 c2 c3
              have v1 := htab.lt p
              have v2 := htab.lt low
              have f3 := hb1.free (p + low)
              have e1 := u32_xor_nat _ _ v1 v2
              have e2 := i64_or_nat p low (by omega) (by omega)
              rw [HO] at e2
              generalize (P1.fill (P1.tab2 k) k low).getD p 0 = a at *
              generalize (P1.fill (P1.tab2 k) k low).getD low 0 = b at *
              generalize a ^^^ b = c at *
              clear hb1 HO htab
              go_wp2
              go_region
              all_goals
                go_wp2
                go_roundw
                case rel =>
                  refine ⟨low + 1, by omega, by go_num, H0.out.far (p := ⟨w.heap.size + 1, p + low, none⟩) (by simp) _, ?_, ((HB.out.setCell (p := ⟨w.heap.size + 1, p + low, none⟩) (by simp) _).drew)⟩
                  rw [HT.out, ← ints_set]
                  exact H1.out.set_ _ _
                case measure => simp [intOf]; omega
            · obtain rfl : low = p := by omega
              clear hb1
              go_wp2
              go_roundw
              case rel => exact ⟨k + 1, by omega, by go_num, H0.out, by rw [P1.tab2_step k _ HP.out]; exact H1.out, HB.out⟩
              case measure => simp [intOf]; omega
        · obtain rfl : k = 8 := by omega
          have H2 : Hid (Blk wr (w.heap.size + 1) 27 (ints .u32 P1.crcT)) := H1.out
          clear H1
          go_wp2_with (first | (refine wpList_load_row rfl 27 (.tmp 1) rfl (w.heap.size + 1) rfl 27 (ints .u32 P1.crcT) (0, 0) _ H2.out Try.underlying27 rfl tab_info ?_) | (refine wpList_store_row rfl 27 (.tmp 0) (.tmp 39) rfl w.heap.size (ints .u32 P1.crcT) rfl rfl 27 (ints .u32 P1.zeros) H0.out tab_info (by rw [ints_size, ints_size]; rfl) (ints_one _ _) ?_))
          refine bodyPost_ret (results_cell_row rfl _ _ w.heap.size 27 (ints .u32 P1.crcT) (0, 0) _ rfl (setRow_heap _ _ _ _ _ _ H0.out) Try.underlying27 rfl tab_info) rfl ⟨rfl, ?_⟩
          refine HB.out.trans ⟨rfl, rfl, rfl, by simp [World.setRow], fun i hi => setRow_other _ _ _ _ (by omega)⟩

end Go.Proofs.Ytplahfhggnkahaa
