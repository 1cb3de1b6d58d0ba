/- cooperagelaw01.BytesEcho: for every input the call returns true and leaves what was there as it was. -/
import Derived.Test.YtplahfhggnkahaaAwake
import Derived.Test.YtplahfhggnkahaaTurned
import Derived.Test.YtplahfhggnkahaaWords3
import Derived.Test.YtplahfhggnkahaaPlain06
namespace Go.Proofs.Ytplahfhggnkahaa
open Go.RowKit

set_option maxRecDepth 100000 in
set_option maxHeartbeats 4000000 in
theorem echo_guard (A B C : Option Addr) (a b : List UInt8) (n c1 c2 c3 : Nat) (w : World) (hm : a.length ≤ maxLen ∧ b.length ≤ maxLen) (h : a.length = 0 ∨ b.length = 0 ∨ 300 < a.length ∨ 300 < b.length) :
    Calls Try.prog 3 #[.slice A a.length c1, .slice B b.length c2, .slice C n c3] w fun e w' => e = .returned (.bool true) ∧ Below w.heap.size w w' := by
  unfold maxLen at hm
  obtain ⟨hm1, hm2⟩ := hm
  by_cases h1 : a.length = 0
  · have d1 : ((a.length : Int) == 0) = true := beq_iff_eq.2 (by omega)
    clear h1 h
    go_enter Try.func3, Try.ntmps3
    go_wp2_with (go_at_call 10; refine (awake_any _).mono ?_; rintro e w1 ⟨rfl, hb1⟩)
    go_ret
    exact ⟨rfl, hb1⟩
  have d1 : ((a.length : Int) == 0) = false := beq_eq_false_iff_ne.2 (by omega)
  by_cases h2 : b.length = 0
  · have d2 : ((b.length : Int) == 0) = true := beq_iff_eq.2 (by omega)
    clear h1 h2 h
    go_enter Try.func3, Try.ntmps3
    go_wp2_with (go_at_call 10; refine (awake_any _).mono ?_; rintro e w1 ⟨rfl, hb1⟩)
    go_ret
    exact ⟨rfl, hb1⟩
  have d2 : ((b.length : Int) == 0) = false := beq_eq_false_iff_ne.2 (by omega)
  have h' : 300 < a.length ∨ (a.length ≤ 300 ∧ 300 < b.length) := by omega
  clear h h1 h2
  rcases h' with h3 | ⟨h3, h4⟩
  all_goals
    go_enter Try.func3, Try.ntmps3
    go_wp2_with (go_at_call 10; refine (awake_any _).mono ?_; rintro e w1 ⟨rfl, hb1⟩)
    go_ret
    exact ⟨rfl, hb1⟩

-- the walk where a.length is the lesser length
set_option maxRecDepth 100000 in
set_option maxHeartbeats 4000000 in
theorem echo_a (A B C : Option Addr) (a b : List UInt8) (ks : List Nat) (c1 c2 c3 : Nat) (w : World) (h1 : 0 < a.length) (h2 : 0 < b.length) (h3 : a.length ≤ 300) (h4 : b.length ≤ 300) (_hkl : ks.length ≤ maxLen) (hab : a.length ≤ b.length)
    (hA : A = none → a.length = 0) (hB : B = none → b.length = 0) (hs1 : Sl w A (u8s a)) (hs2 : Sl w B (u8s b)) (hs3 : Sl w C (u16s ks)) :
    Calls Try.prog 3 #[.slice A a.length c1, .slice B b.length c2, .slice C ks.length c3] w fun e w' => e = .returned (.bool true) ∧ Below w.heap.size w w' := by
  unfold maxLen at _hkl
  have d1 : ((a.length : Int) == 0) = false := beq_eq_false_iff_ne.2 (by omega)
  have d2 : ((b.length : Int) == 0) = false := beq_eq_false_iff_ne.2 (by omega)
  have d3 : decide ((300 : Int) < (a.length : Int)) = false := by simp; omega
  have d4 : decide ((300 : Int) < (b.length : Int)) = false := by simp; omega
  have hz := zero_tab
  go_enter Try.func3, Try.ntmps3
  go_wp2_with (first | (go_at_call 11; refine (table_any _).mono ?_; rintro e w1 ⟨rfl, hb1⟩; have hz1 := hb1.size; have HB1 := Lib.hid hb1; clear hb1) | (refine wpList_store_tab rfl (.tmp 7) (.tmp 32) rfl w1.heap.size P1.crcT P1.zeros rfl rfl P1.crcT_tab.1 P1.zeros_tab.1 (Blk.new _ _ _) w.heap.size w (HB1.out.alloc hz1 _) hz1 ?_; intro w2 hk2 hb2; have HT := Lib.hid (IsTab.of_blk hk2 P1.crcT_tab.1); have HB2 := Lib.hid hb2; clear hk2 hb2))
  clear HB1 hz
  have hz2 := HB2.out.size
  go_loopw [9, 10] (fun u i wr => ∃ k : Nat, k ≤ ks.length ∧ k ≤ 10 ∧ i = .int .i64 k ∧ OwnH wr w2.heap.size u ((ks.take k).map fun q => q % (8 * a.length)) ∧ Below w2.heap.size w2 wr) (fun _ i _ => ks.length - (intOf i).toNat)
  case atStart => exact ⟨0, Nat.zero_le _, by omega, rfl, OwnH.nil _ _, Below.refl _ _⟩
  case round =>
    obtain ⟨k, hk, hk10, rfl, ho, hb⟩ := hrel
    have HB := Lib.hid hb
    have hzr := hb.size
    by_cases hlt : k < ks.length ∧ k < 10
    · obtain ⟨hlt1, hlt2⟩ := hlt
      obtain ⟨bb, off, rfl, _, hcb⟩ := ((hs3.below HB2.out).below hb).at_ (u16s_get hlt1)
      have hsn : ks.take (k + 1) = ks.take k ++ [ks[k]] := List.take_succ_eq_append_getElem hlt1
      have hm2 : (ks.take (k + 1)).map (fun q => q % (8 * a.length)) = (ks.take k).map (fun q => q % (8 * a.length)) ++ [ks[k] % (8 * a.length)] := by rw [hsn, List.map_append]; rfl
      have hml : ((ks.take k).map fun q => q % (8 * a.length)).length ≤ 10 := by rw [List.length_map, List.length_take]; omega
      generalize ks[k] = q at *
      obtain ⟨M, hM⟩ : ∃ M, M = (ks.take k).map fun q => q % (8 * a.length) := ⟨_, rfl⟩
      rw [← hM] at ho hm2 hml
      have hqe : (q : Int) % (8 * (a.length : Int)) = ((q % (8 * a.length) : Nat) : Int) := by rw [Int.natCast_emod, Int.natCast_mul]; rfl
      have HQ := Lib.hid hqe
      have HM := Lib.hid hm2
      have HL := Lib.hid ho.lt
      have HMM := Lib.hid hM
      clear hsn hm2 hM hqe hb
      go_wp2_with (at_builtin; go_must (refine app1_u16 _ rfl (.tmp 50) (.tmp 57) rfl w2.heap.size _ _ rfl ho _ (q % (8 * a.length)) HQ.out rfl (by omega) hzr ?_); intro v5 w5 ho5 hg5)
      go_roundw
      case rel => exact ⟨k + 1, by omega, by omega, by go_num, by rw [HM.out]; exact ho5, hg5.below HB.out hzr fun k hk => (HL.out k hk).1⟩
      case measure => simp [intOf]; omega
    · have hksm : ∀ x ∈ (ks.take k).map (fun q => q % (8 * a.length)), x < 8 * a.length := by
        intro x hx
        simp only [List.mem_map] at hx
        obtain ⟨q, _, rfl⟩ := hx
        exact Nat.mod_lt _ (by omega)
      have hml : ((ks.take k).map fun q => q % (8 * a.length)).length ≤ 10 := by rw [List.length_map, List.length_take]; omega
      obtain ⟨M, hM⟩ : ∃ M, M = (ks.take k).map fun q => q % (8 * a.length) := ⟨_, rfl⟩
      rw [← hM] at ho hksm hml
      obtain ⟨A5, c5, rfl, _, _⟩ := ho.form
      have hbw : Below w.heap.size w wr := HB2.out.trans (hb.mono hz2)
      have hbwz := hbw.size
      have hT := HT.out.below hb
      have hech := P1.echo M a b (fun x hx => by have := hksm x hx; omega) (fun x hx => by have := hksm x hx; omega)
      have hla := P1.turned_len M a
      have hlb := P1.turned_len M b
      obtain ⟨TA, hTA⟩ : ∃ TA, P1.turned a M = TA := ⟨_, rfl⟩
      obtain ⟨TB, hTB⟩ : ∃ TB, P1.turned b M = TB := ⟨_, rfl⟩
      rw [hTA, hTB] at hech
      rw [hTA] at hla
      rw [hTB] at hlb
      have hku : ∀ k ∈ M, k < 65536 := fun x hx => by have := hksm x hx; omega
      have hA5 := ho.sl
      have tA := fun n => turned_any A A5 a M c1 c5 (wr.drewN n) h1 (by omega) (by unfold maxLen; omega) hku hA ((hs1.below hbw).drewN n) (hA5.drewN n)
      simp only [hTA] at tA
      have e1 := u32_xor_nat _ _ (P1.sum_lt P1.crcT a) (P1.sum_lt P1.crcT TA)
      have e2 := u32_xor_nat _ _ (P1.sum_lt P1.crcT b) (P1.sum_lt P1.crcT TB)
      rw [hech] at e1
      generalize P1.sum P1.crcT b ^^^ P1.sum P1.crcT TB = z at e1 e2
      have sa := sum_any w1.heap.size P1.crcT A a c1 wr (by unfold maxLen; omega) P1.crcT_tab hT (hs1.below hbw)
      have SA := Lib.hid sa
      have TAH := Lib.hid tA
      have HKU := Lib.hid hku
      have HSM := Lib.hid hA5
      have HBW := Lib.hid hbw
      have HTT := Lib.hid hT
      have HLA := Lib.hid hla
      have HLB := Lib.hid hlb
      have HTB := Lib.hid hTB
      clear hM hksm ho hech hb hT hbw sa tA hku hA5 hla hlb hTA hTB HT HB2 HB
      rcases (show ks.length ≤ k ∨ (k < ks.length ∧ 10 ≤ k) by omega) with hx1 | ⟨hx1, hx2⟩
      all_goals
        go_wp2_with fail
        refine SA.out.mono ?_
        rintro e w6 ⟨rfl, n6, rfl⟩
        go_wp2_with fail
        refine (TAH.out n6).mono ?_
        rintro e w7 ⟨A7, c7, rfl, ho7, hb7⟩
        have hb67 : Below wr.heap.size wr w7 := (drewN_below wr n6).trans hb7
        have s7 := sum_any w1.heap.size P1.crcT A7 TA c7 w7 (by unfold maxLen; rw [HLA.out]; omega) P1.crcT_tab (HTT.out.below hb67) ho7.sl
        have S7 := Lib.hid s7
        have HB67 := Lib.hid hb67
        clear SA TAH ho7 hb7 hb67 s7
        go_wp2_with fail
        refine S7.out.mono ?_
        rintro e w8 ⟨rfl, n8, rfl⟩
        have hb8 : Below wr.heap.size wr (w7.drewN n8) := HB67.out.trans ((drewN_below w7 n8).mono HB67.out.size)
        have s8 := sum_any w1.heap.size P1.crcT B b c2 (w7.drewN n8) (by unfold maxLen; omega) P1.crcT_tab (HTT.out.below hb8) ((hs2.below HBW.out).below hb8)
        have S8 := Lib.hid s8
        have tB := fun n => turned_any B A5 b M c2 c5 (w7.drewN n) h2 (by omega) (by unfold maxLen; omega) HKU.out hB ((((hs2.below HBW.out).below HB67.out)).drewN n) ((HSM.out.below HB67.out).drewN n)
        simp only [HTB.out] at tB
        have TBH := Lib.hid tB
        have HB8 := Lib.hid hb8
        clear S7 s8 tB hb8
        go_wp2_with fail
        refine S8.out.mono ?_
        rintro e w9 ⟨rfl, n9, rfl⟩
        go_wp2_with fail
        refine (TBH.out (n8 + n9)).mono ?_
        rintro e w10 ⟨A10, c10, rfl, ho10, hb10⟩
        have hb710 : Below wr.heap.size wr w10 := HB67.out.trans (((drewN_below w7 (n8 + n9)).trans hb10).mono HB67.out.size)
        have s10 := sum_any w1.heap.size P1.crcT A10 TB c10 w10 (by unfold maxLen; rw [HLB.out]; omega) P1.crcT_tab (HTT.out.below hb710) ho10.sl
        have S10 := Lib.hid s10
        have HBF := Lib.hid (HBW.out.trans (hb710.mono hbwz))
        clear S8 TBH ho10 hb10 hb710 s10 HB8 HB67
        go_wp2_with fail
        refine S10.out.mono ?_
        rintro e w11 ⟨rfl, n11, rfl⟩
        go_wp2_with (go_at_call 10; refine (awake_any _).mono ?_; rintro e w12 ⟨rfl, hb12⟩)
        go_ret
        exact ⟨rfl, (HBF.out.trans ((drewN_below w10 n11).mono HBF.out.size)).trans (hb12.mono HBF.out.size)⟩

-- the walk where b.length is the lesser length
set_option maxRecDepth 100000 in
set_option maxHeartbeats 4000000 in
theorem echo_b (A B C : Option Addr) (a b : List UInt8) (ks : List Nat) (c1 c2 c3 : Nat) (w : World) (h1 : 0 < a.length) (h2 : 0 < b.length) (h3 : a.length ≤ 300) (h4 : b.length ≤ 300) (_hkl : ks.length ≤ maxLen) (hab : b.length < a.length)
    (hA : A = none → a.length = 0) (hB : B = none → b.length = 0) (hs1 : Sl w A (u8s a)) (hs2 : Sl w B (u8s b)) (hs3 : Sl w C (u16s ks)) :
    Calls Try.prog 3 #[.slice A a.length c1, .slice B b.length c2, .slice C ks.length c3] w fun e w' => e = .returned (.bool true) ∧ Below w.heap.size w w' := by
  unfold maxLen at _hkl
  have d1 : ((a.length : Int) == 0) = false := beq_eq_false_iff_ne.2 (by omega)
  have d2 : ((b.length : Int) == 0) = false := beq_eq_false_iff_ne.2 (by omega)
  have d3 : decide ((300 : Int) < (a.length : Int)) = false := by simp; omega
  have d4 : decide ((300 : Int) < (b.length : Int)) = false := by simp; omega
  have hz := zero_tab
  go_enter Try.func3, Try.ntmps3
  go_wp2_with (first | (go_at_call 11; refine (table_any _).mono ?_; rintro e w1 ⟨rfl, hb1⟩; have hz1 := hb1.size; have HB1 := Lib.hid hb1; clear hb1) | (refine wpList_store_tab rfl (.tmp 7) (.tmp 32) rfl w1.heap.size P1.crcT P1.zeros rfl rfl P1.crcT_tab.1 P1.zeros_tab.1 (Blk.new _ _ _) w.heap.size w (HB1.out.alloc hz1 _) hz1 ?_; intro w2 hk2 hb2; have HT := Lib.hid (IsTab.of_blk hk2 P1.crcT_tab.1); have HB2 := Lib.hid hb2; clear hk2 hb2))
  clear HB1 hz
  have hz2 := HB2.out.size
  go_loopw [9, 10] (fun u i wr => ∃ k : Nat, k ≤ ks.length ∧ k ≤ 10 ∧ i = .int .i64 k ∧ OwnH wr w2.heap.size u ((ks.take k).map fun q => q % (8 * b.length)) ∧ Below w2.heap.size w2 wr) (fun _ i _ => ks.length - (intOf i).toNat)
  case atStart => exact ⟨0, Nat.zero_le _, by omega, rfl, OwnH.nil _ _, Below.refl _ _⟩
  case round =>
    obtain ⟨k, hk, hk10, rfl, ho, hb⟩ := hrel
    have HB := Lib.hid hb
    have hzr := hb.size
    by_cases hlt : k < ks.length ∧ k < 10
    · obtain ⟨hlt1, hlt2⟩ := hlt
      obtain ⟨bb, off, rfl, _, hcb⟩ := ((hs3.below HB2.out).below hb).at_ (u16s_get hlt1)
      have hsn : ks.take (k + 1) = ks.take k ++ [ks[k]] := List.take_succ_eq_append_getElem hlt1
      have hm2 : (ks.take (k + 1)).map (fun q => q % (8 * b.length)) = (ks.take k).map (fun q => q % (8 * b.length)) ++ [ks[k] % (8 * b.length)] := by rw [hsn, List.map_append]; rfl
      have hml : ((ks.take k).map fun q => q % (8 * b.length)).length ≤ 10 := by rw [List.length_map, List.length_take]; omega
      generalize ks[k] = q at *
      obtain ⟨M, hM⟩ : ∃ M, M = (ks.take k).map fun q => q % (8 * b.length) := ⟨_, rfl⟩
      rw [← hM] at ho hm2 hml
      have hqe : (q : Int) % (8 * (b.length : Int)) = ((q % (8 * b.length) : Nat) : Int) := by rw [Int.natCast_emod, Int.natCast_mul]; rfl
      have HQ := Lib.hid hqe
      have HM := Lib.hid hm2
      have HL := Lib.hid ho.lt
      have HMM := Lib.hid hM
      clear hsn hm2 hM hqe hb
      go_wp2_with (at_builtin; go_must (refine app1_u16 _ rfl (.tmp 50) (.tmp 57) rfl w2.heap.size _ _ rfl ho _ (q % (8 * b.length)) HQ.out rfl (by omega) hzr ?_); intro v5 w5 ho5 hg5)
      go_roundw
      case rel => exact ⟨k + 1, by omega, by omega, by go_num, by rw [HM.out]; exact ho5, hg5.below HB.out hzr fun k hk => (HL.out k hk).1⟩
      case measure => simp [intOf]; omega
    · have hksm : ∀ x ∈ (ks.take k).map (fun q => q % (8 * b.length)), x < 8 * b.length := by
        intro x hx
        simp only [List.mem_map] at hx
        obtain ⟨q, _, rfl⟩ := hx
        exact Nat.mod_lt _ (by omega)
      have hml : ((ks.take k).map fun q => q % (8 * b.length)).length ≤ 10 := by rw [List.length_map, List.length_take]; omega
      obtain ⟨M, hM⟩ : ∃ M, M = (ks.take k).map fun q => q % (8 * b.length) := ⟨_, rfl⟩
      rw [← hM] at ho hksm hml
      obtain ⟨A5, c5, rfl, _, _⟩ := ho.form
      have hbw : Below w.heap.size w wr := HB2.out.trans (hb.mono hz2)
      have hbwz := hbw.size
      have hT := HT.out.below hb
      have hech := P1.echo M a b (fun x hx => by have := hksm x hx; omega) (fun x hx => by have := hksm x hx; omega)
      have hla := P1.turned_len M a
      have hlb := P1.turned_len M b
      obtain ⟨TA, hTA⟩ : ∃ TA, P1.turned a M = TA := ⟨_, rfl⟩
      obtain ⟨TB, hTB⟩ : ∃ TB, P1.turned b M = TB := ⟨_, rfl⟩
      rw [hTA, hTB] at hech
      rw [hTA] at hla
      rw [hTB] at hlb
      have hku : ∀ k ∈ M, k < 65536 := fun x hx => by have := hksm x hx; omega
      have hA5 := ho.sl
      have tA := fun n => turned_any A A5 a M c1 c5 (wr.drewN n) h1 (by omega) (by unfold maxLen; omega) hku hA ((hs1.below hbw).drewN n) (hA5.drewN n)
      simp only [hTA] at tA
      have e1 := u32_xor_nat _ _ (P1.sum_lt P1.crcT a) (P1.sum_lt P1.crcT TA)
      have e2 := u32_xor_nat _ _ (P1.sum_lt P1.crcT b) (P1.sum_lt P1.crcT TB)
      rw [hech] at e1
      generalize P1.sum P1.crcT b ^^^ P1.sum P1.crcT TB = z at e1 e2
      have sa := sum_any w1.heap.size P1.crcT A a c1 wr (by unfold maxLen; omega) P1.crcT_tab hT (hs1.below hbw)
      have SA := Lib.hid sa
      have TAH := Lib.hid tA
      have HKU := Lib.hid hku
      have HSM := Lib.hid hA5
      have HBW := Lib.hid hbw
      have HTT := Lib.hid hT
      have HLA := Lib.hid hla
      have HLB := Lib.hid hlb
      have HTB := Lib.hid hTB
      clear hM hksm ho hech hb hT hbw sa tA hku hA5 hla hlb hTA hTB HT HB2 HB
      rcases (show ks.length ≤ k ∨ (k < ks.length ∧ 10 ≤ k) by omega) with hx1 | ⟨hx1, hx2⟩
      all_goals
        go_wp2_with fail
        refine SA.out.mono ?_
        rintro e w6 ⟨rfl, n6, rfl⟩
        go_wp2_with fail
        refine (TAH.out n6).mono ?_
        rintro e w7 ⟨A7, c7, rfl, ho7, hb7⟩
        have hb67 : Below wr.heap.size wr w7 := (drewN_below wr n6).trans hb7
        have s7 := sum_any w1.heap.size P1.crcT A7 TA c7 w7 (by unfold maxLen; rw [HLA.out]; omega) P1.crcT_tab (HTT.out.below hb67) ho7.sl
        have S7 := Lib.hid s7
        have HB67 := Lib.hid hb67
        clear SA TAH ho7 hb7 hb67 s7
        go_wp2_with fail
        refine S7.out.mono ?_
        rintro e w8 ⟨rfl, n8, rfl⟩
        have hb8 : Below wr.heap.size wr (w7.drewN n8) := HB67.out.trans ((drewN_below w7 n8).mono HB67.out.size)
        have s8 := sum_any w1.heap.size P1.crcT B b c2 (w7.drewN n8) (by unfold maxLen; omega) P1.crcT_tab (HTT.out.below hb8) ((hs2.below HBW.out).below hb8)
        have S8 := Lib.hid s8
        have tB := fun n => turned_any B A5 b M c2 c5 (w7.drewN n) h2 (by omega) (by unfold maxLen; omega) HKU.out hB ((((hs2.below HBW.out).below HB67.out)).drewN n) ((HSM.out.below HB67.out).drewN n)
        simp only [HTB.out] at tB
        have TBH := Lib.hid tB
        have HB8 := Lib.hid hb8
        clear S7 s8 tB hb8
        go_wp2_with fail
        refine S8.out.mono ?_
        rintro e w9 ⟨rfl, n9, rfl⟩
        go_wp2_with fail
        refine (TBH.out (n8 + n9)).mono ?_
        rintro e w10 ⟨A10, c10, rfl, ho10, hb10⟩
        have hb710 : Below wr.heap.size wr w10 := HB67.out.trans (((drewN_below w7 (n8 + n9)).trans hb10).mono HB67.out.size)
        have s10 := sum_any w1.heap.size P1.crcT A10 TB c10 w10 (by unfold maxLen; rw [HLB.out]; omega) P1.crcT_tab (HTT.out.below hb710) ho10.sl
        have S10 := Lib.hid s10
        have HBF := Lib.hid (HBW.out.trans (hb710.mono hbwz))
        clear S8 TBH ho10 hb10 hb710 s10 HB8 HB67
        go_wp2_with fail
        refine S10.out.mono ?_
        rintro e w11 ⟨rfl, n11, rfl⟩
        go_wp2_with (go_at_call 10; refine (awake_any _).mono ?_; rintro e w12 ⟨rfl, hb12⟩)
        go_ret
        exact ⟨rfl, (HBF.out.trans ((drewN_below w10 n11).mono HBF.out.size)).trans (hb12.mono HBF.out.size)⟩

theorem echo_any (A B C : Option Addr) (a b : List UInt8) (ks : List Nat) (c1 c2 c3 : Nat) (w : World) (hm : a.length ≤ maxLen ∧ b.length ≤ maxLen ∧ ks.length ≤ maxLen)
    (hA : A = none → a.length = 0) (hB : B = none → b.length = 0) (hs1 : Sl w A (u8s a)) (hs2 : Sl w B (u8s b)) (hs3 : Sl w C (u16s ks)) :
    Calls Try.prog 3 #[.slice A a.length c1, .slice B b.length c2, .slice C ks.length c3] w fun e w' => e = .returned (.bool true) ∧ Below w.heap.size w w' := by
  by_cases h : a.length = 0 ∨ b.length = 0 ∨ 300 < a.length ∨ 300 < b.length
  · exact echo_guard A B C a b ks.length c1 c2 c3 w ⟨hm.1, hm.2.1⟩ h
  · rcases Nat.lt_or_ge b.length a.length with hab | hab
    · exact echo_b A B C a b ks c1 c2 c3 w (by omega) (by omega) (by omega) (by omega) hm.2.2 hab hA hB hs1 hs2 hs3
    · exact echo_a A B C a b ks c1 c2 c3 w (by omega) (by omega) (by omega) (by omega) hm.2.2 hab hA hB hs1 hs2 hs3

end Go.Proofs.Ytplahfhggnkahaa
