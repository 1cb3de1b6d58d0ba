/- cooperagelaw01.BytesTails: for every input the call returns true and leaves what was there as it was. -/
import Derived.Test.YtplahfhggnkahaaAwake
import Derived.Test.YtplahfhggnkahaaUnseal
import Derived.Test.YtplahfhggnkahaaWords2
import Derived.Test.YtplahfhggnkahaaPlain04
import Derived.Deep.RegionHeld3
namespace Go.Proofs.Ytplahfhggnkahaa
open Go.RowKit

set_option maxRecDepth 100000 in
set_option maxHeartbeats 4000000 in
theorem tails_long (A B C : Option Addr) (l a b : List UInt8) (c1 c2 c3 : Nat) (w : World) (hm : l.length ≤ maxLen ∧ a.length ≤ maxLen ∧ b.length ≤ maxLen) (h : 300 < l.length ∨ 100 < a.length ∨ 100 < b.length) :
    Calls Try.prog 6 #[.slice A l.length c1, .slice B a.length c2, .slice C b.length c3] w fun e w' => e = .returned (.bool true) ∧ Below w.heap.size w w' := by
  unfold maxLen at hm
  obtain ⟨hm1, hm2, hm3⟩ := hm
  have h' : 300 < l.length ∨ (l.length ≤ 300 ∧ 100 < a.length) ∨ (l.length ≤ 300 ∧ a.length ≤ 100 ∧ 100 < b.length) := by omega
  clear h
  rcases h' with h1 | ⟨h1, h2⟩ | ⟨h1, h2, h3⟩
  all_goals
    go_enter Try.func6, Try.ntmps6
    go_wp2_with (go_at_call 10; refine (awake_any _).mono ?_; rintro e w1 ⟨rfl, hb1⟩)
    go_ret
    exact ⟨rfl, hb1⟩

-- The walk where a.length is the lesser length.
set_option maxRecDepth 100000 in
set_option maxHeartbeats 4000000 in
theorem tails_a (A B C : Option Addr) (l a b : List UInt8) (c1 c2 c3 : Nat) (w : World) (h1 : l.length ≤ 300) (h2 : a.length ≤ 100) (h3 : b.length ≤ 100) (hc2 : a.length ≤ c2 ∧ c2 ≤ maxLen) (hc3 : b.length ≤ c3 ∧ c3 ≤ maxLen) (hab : a.length ≤ b.length)
    (hA : A = none → l.length = 0) (hB : B = none → a.length = 0) (hC : C = none → b.length = 0) (hs1 : Sl w A (u8s l)) (hs2 : Sl w B (u8s a)) (hs3 : Sl w C (u8s b)) :
    Calls Try.prog 6 #[.slice A l.length c1, .slice B a.length c2, .slice C b.length c3] w fun e w' => e = .returned (.bool true) ∧ Below w.heap.size w w' := by
  unfold maxLen at hc2 hc3
  obtain ⟨hc21, hc22⟩ := hc2
  obtain ⟨hc31, hc32⟩ := hc3
  have i0 : (0 : Int) ≤ (a.length : Int) := by omega
  have i1 : (a.length : Int) ≤ (c2 : Int) := by omega
  have i2 : (a.length : Int) ≤ (c3 : Int) := by omega
  have d1 : decide ((300 : Int) < (l.length : Int)) = false := by simp; omega
  have d2 : decide ((100 : Int) < (a.length : Int)) = false := by simp; omega
  have d3 : decide ((100 : Int) < (b.length : Int)) = false := by simp; omega
  have hz := zero_tab
  -- the two ends
  have hLa : (a.take a.length).length = a.length := by rw [List.length_take]; omega
  have hLb : (b.take a.length).length = a.length := by rw [List.length_take]; omega
  have hsa : Sl w B (u8s (a.take a.length)) := by rw [u8s_take]; exact hs2.take_ _
  have hsb : Sl w C (u8s (b.take a.length)) := by rw [u8s_take]; exact hs3.take_ _
  have hB' : B = none → a.length = 0 := fun h => by have := hB h; omega
  have hC' : C = none → a.length = 0 := fun h => by have := hC h; omega
  obtain ⟨La, hLa0⟩ : ∃ La, La = a.take a.length := ⟨_, rfl⟩
  obtain ⟨Lb, hLb0⟩ : ∃ Lb, Lb = b.take a.length := ⟨_, rfl⟩
  rw [← hLa0] at hLa hsa
  rw [← hLb0] at hLb hsb
  have HLA := Lib.hid hLa
  have HLB := Lib.hid hLb
  have hp := P1.tails l La Lb (hLa.trans hLb.symm)
  have hxl : (l ++ La).length ≤ 400 := by rw [List.length_append, hLa]; omega
  have hyl : (l ++ Lb).length ≤ 400 := by rw [List.length_append, hLb]; omega
  obtain ⟨X, hX⟩ : ∃ X, X = l ++ La := ⟨_, rfl⟩
  obtain ⟨Y, hY⟩ : ∃ Y, Y = l ++ Lb := ⟨_, rfl⟩
  rw [← hX, ← hY] at hp
  rw [← hX] at hxl
  rw [← hY] at hyl
  have HX := Lib.hid hX
  have HY := Lib.hid hY
  have e1 := u32_xor_nat _ _ (P1.sum_lt P1.crcT X) (P1.sum_lt P1.crcT Y)
  have e2 := u32_xor_nat _ _ (P1.sum_lt P1.crcT La) (P1.sum_lt P1.crcT Lb)
  rw [hp] at e1
  generalize P1.sum P1.crcT La ^^^ P1.sum P1.crcT Lb = z at e1 e2
  have hlm : l.length ≤ 140737488355328 := by omega
  clear hLa hLb hLa0 hLb0 hp hX hY hs2 hs3 hB hC
  go_enter Try.func6, Try.ntmps6
  go_wp2_with (first | (go_at_call 11; refine (table_any _).mono ?_; rintro e w1 ⟨rfl, hb1⟩; have hz1 := hb1.size; have HB1 := Lib.hid hb1; clear hb1) | (refine wpList_store_tab rfl (.tmp 7) (.tmp 29) rfl w1.heap.size P1.crcT P1.zeros rfl rfl P1.crcT_tab.1 P1.zeros_tab.1 (Blk.new _ _ _) w.heap.size w (HB1.out.alloc hz1 _) hz1 ?_; intro w2 hk2 hb2; have HT := Lib.hid (IsTab.of_blk hk2 P1.crcT_tab.1); have HB2 := Lib.hid hb2; clear hk2 hb2))
  clear HB1 hz
  have hz2 := HB2.out.size
  have hq1 : Sl w2.drew A (u8s l) := (hs1.below HB2.out).drewN 1
  go_region_held3 (fun _ => True) (trivial) ((first | (go_at_call 18; refine (copyBytes_any A l c1 w2.drew hlm hA hq1).mono ?_; rintro e w3 ⟨A3, c3', rfl, ho3, hb3⟩) | (refine step_app_u8 _ rfl (.tmp 36) (.tmp 39) rfl w2.drew.heap.size _ _ rfl ho3 B a.length c2 La rfl HLA.out.symm hB' (((hsa.below HB2.out).drewN 1).below hb3) (by rw [HLA.out]; omega) hb3.size ?_; intro v4 w4 ho4 hg4)))
  have hb24 : Below w2.heap.size w2 w4 := hg4.below (((Below.refl _ _).drew).trans hb3) hb3.size (fun k hk => (ho3.lt k hk).1)
  rw [← HX.out] at ho4
  obtain ⟨A4, c4, rfl, _, _⟩ := ho4.form
  have HB4 := Lib.hid (HB2.out.trans (hb24.mono hz2))
  have HT4 := Lib.hid (HT.out.below hb24)
  have hx4 : Sl w4.drew A4 (u8s X) := ho4.sl
  have hxn := ho4.none_
  clear HT HB2 hq1 ho3 hb3 ho4 hg4 hb24
  have hz4 := HB4.out.size
  have hq4 : Sl w4.drew A (u8s l) := (hs1.below HB4.out).drewN 1
  go_wp2
  go_region_held3 (fun _ => True) (trivial) ((first | (go_at_call 18; refine (copyBytes_any A l c1 w4.drew hlm hA hq4).mono ?_; rintro e w5 ⟨A5, c5, rfl, ho5, hb5⟩) | (refine step_app_u8 _ rfl (.tmp 42) (.tmp 45) rfl w4.drew.heap.size _ _ rfl ho5 C a.length c3 Lb rfl HLB.out.symm hC' (((hsb.below HB4.out).drewN 1).below hb5) (by rw [HLB.out]; omega) hb5.size ?_; intro v6 w6 ho6 hg6)))
  have hb46 : Below w4.drew.heap.size w4.drew w6 := hg6.below hb5 hb5.size (fun k hk => (ho5.lt k hk).1)
  rw [← HY.out] at ho6
  obtain ⟨A6, c6, rfl, _, _⟩ := ho6.form
  have hbw6 : Below w.heap.size w w6 := HB4.out.drew.trans (hb46.mono hz4)
  have ht4 : IsTab w4.drew w1.heap.size P1.crcT := HT4.out
  have ht6 := ht4.below hb46
  have hx6 := hx4.below hb46
  have hy6 : Sl w6 A6 (u8s Y) := ho6.sl
  have sx := fun n => sum_any w1.heap.size P1.crcT A4 X c4 (w6.drewN n) (by unfold maxLen; omega) P1.crcT_tab (ht6.below (drewN_below _ n)) (hx6.drewN n)
  have sy := fun n => sum_any w1.heap.size P1.crcT A6 Y c6 (w6.drewN n) (by unfold maxLen; omega) P1.crcT_tab (ht6.below (drewN_below _ n)) (hy6.drewN n)
  have sa := fun n => sum_any w1.heap.size P1.crcT B La c2 (w6.drewN n) (by unfold maxLen; rw [HLA.out]; omega) P1.crcT_tab (ht6.below (drewN_below _ n)) ((hsa.below hbw6).drewN n)
  have sb := fun n => sum_any w1.heap.size P1.crcT C Lb c3 (w6.drewN n) (by unfold maxLen; rw [HLB.out]; omega) P1.crcT_tab (ht6.below (drewN_below _ n)) ((hsb.below hbw6).drewN n)
  rw [HLA.out] at sa
  rw [HLB.out] at sb
  have SX := Lib.hid sx
  have SY := Lib.hid sy
  have SA := Lib.hid sa
  have SB := Lib.hid sb
  have HB6 := Lib.hid hbw6
  have HT6 := Lib.hid ht6
  have HX6 := Lib.hid hx6
  have HXN := Lib.hid hxn
  clear sx sy sa sb hbw6 ht4 ht6 hx6 hy6 ho6 hg6 hb46 hb5 ho5 hx4 hxn HT4 HB4 hq4 hsa hsb
  go_wp2
  go_quiet ((go_at_call 12; first | with_reducible exact Calls.quiet_of (SX.out _) | with_reducible exact Calls.quiet_of (SY.out _) | with_reducible exact Calls.quiet_of (SA.out _) | with_reducible exact Calls.quiet_of (SB.out _)))
  have HTP : ∀ W, Below w6.heap.size w6 W → TP W (.pointer (some ⟨w1.heap.size, 0, none⟩)) (P1.sum P1.crcT) := fun W hb => .inr ⟨_, _, rfl, P1.crcT_tab, HT6.out.below hb, rfl⟩
  have HTPH := Lib.hid HTP
  clear HTP SX SY SA SB HT6 e1 e2
  have hz6 := HB6.out.size
  go_wp2_with fail
  refine (seal_any (.pointer (some ⟨w1.heap.size, 0, none⟩)) (P1.sum P1.crcT) A4 X c4 _ (by omega) HXN.out (HTPH.out _ (drewN_below _ _)) (HX6.out.drewN _)).mono ?_
  rintro e w7 ⟨A7, c7, rfl, ho7, hb7⟩
  have hb67 : Below w6.heap.size w6 w7 := (drewN_below w6 _).trans hb7
  have hsl1 : (P1.sealed (P1.sum P1.crcT) X).length ≤ 404 := by simp [P1.sealed, P1.be4]; omega
  have hU1 := P1.unsealed_sealed (P1.sum P1.crcT) X
  obtain ⟨s1, hs1e⟩ : ∃ s1, P1.sealed (P1.sum P1.crcT) X = s1 := ⟨_, rfl⟩
  rw [hs1e] at ho7 hsl1 hU1 ⊢
  have HU1 := Lib.hid hU1
  have HN7 := Lib.hid ho7.none_
  have HS7 := Lib.hid ho7.sl
  have HB67 := Lib.hid hb67
  clear hs1e hU1 ho7 hb7 hb67
  go_wp2_with fail
  refine (seal_any (.pointer (some ⟨w1.heap.size, 0, none⟩)) (P1.sum P1.crcT) A7 s1 c7 w7 (by omega) HN7.out (HTPH.out _ HB67.out) HS7.out).mono ?_
  rintro e w8 ⟨A8, c8, rfl, ho8, hb8⟩
  have hsl2 : (P1.sealed (P1.sum P1.crcT) s1).length ≤ 408 := by simp [P1.sealed, P1.be4]; omega
  have hU2 := P1.unsealed_sealed (P1.sum P1.crcT) s1
  obtain ⟨s2, hs2e⟩ : ∃ s2, P1.sealed (P1.sum P1.crcT) s1 = s2 := ⟨_, rfl⟩
  rw [hs2e] at ho8 hsl2 hU2 ⊢
  have hb68 : Below w6.heap.size w6 w8 := HB67.out.trans (hb8.mono HB67.out.size)
  have hu := unseal_own (.pointer (some ⟨w1.heap.size, 0, none⟩)) (P1.sum P1.crcT) A8 s2 c8 w8 (by omega) ho8.cap ho8.none_ (HTPH.out _ hb68) ho8.sl
  rw [hU2] at hu
  have HU2 := Lib.hid hu
  have HB68 := Lib.hid hb68
  clear hs2e hU2 ho8 hb8 hb68 hu HS7 HN7 HB67
  go_wp2_with fail
  refine HU2.out.mono ?_
  rintro e w9 ⟨A9, c9, rfl, hs9, hn9, hc9, hb9⟩
  have hb69 : Below w6.heap.size w6 w9 := HB68.out.trans (hb9.mono HB68.out.size)
  have hu := unseal_own (.pointer (some ⟨w1.heap.size, 0, none⟩)) (P1.sum P1.crcT) A9 s1 c9 w9 (by omega) hc9 hn9 (HTPH.out _ hb69) hs9
  rw [HU1.out] at hu
  have HU3 := Lib.hid hu
  have HB69 := Lib.hid hb69
  clear hs9 hn9 hc9 hb9 hb69 hu HU2 HB68 HU1
  go_wp2_with fail
  refine HU3.out.mono ?_
  rintro e w10 ⟨A10, c10, rfl, hs10, hn10, _, hb10⟩
  have hb610 : Below w6.heap.size w6 w10 := HB69.out.trans (hb10.mono HB69.out.size)
  have hcv1 := toStr c10 hs10 hn10
  have hcv2 := toStr c4 (HX6.out.below hb610) HXN.out
  have HBF := Lib.hid (HB6.out.trans (hb610.mono hz6))
  clear hs10 hn10 hb10 hb610 HU3 HB69 HX6 HXN HB6 HTPH
  go_wp2_with (go_at_call 10; refine (awake_any _).mono ?_; rintro e w11 ⟨rfl, hb11⟩)
  go_ret
  exact ⟨rfl, HBF.out.trans (hb11.mono HBF.out.size)⟩

-- The walk where b.length is the lesser length.
set_option maxRecDepth 100000 in
set_option maxHeartbeats 4000000 in
theorem tails_b (A B C : Option Addr) (l a b : List UInt8) (c1 c2 c3 : Nat) (w : World) (h1 : l.length ≤ 300) (h2 : a.length ≤ 100) (h3 : b.length ≤ 100) (hc2 : a.length ≤ c2 ∧ c2 ≤ maxLen) (hc3 : b.length ≤ c3 ∧ c3 ≤ maxLen) (hab : b.length < a.length)
    (hA : A = none → l.length = 0) (hB : B = none → a.length = 0) (hC : C = none → b.length = 0) (hs1 : Sl w A (u8s l)) (hs2 : Sl w B (u8s a)) (hs3 : Sl w C (u8s b)) :
    Calls Try.prog 6 #[.slice A l.length c1, .slice B a.length c2, .slice C b.length c3] w fun e w' => e = .returned (.bool true) ∧ Below w.heap.size w w' := by
  unfold maxLen at hc2 hc3
  obtain ⟨hc21, hc22⟩ := hc2
  obtain ⟨hc31, hc32⟩ := hc3
  have i0 : (0 : Int) ≤ (b.length : Int) := by omega
  have i1 : (b.length : Int) ≤ (c2 : Int) := by omega
  have i2 : (b.length : Int) ≤ (c3 : Int) := by omega
  have d1 : decide ((300 : Int) < (l.length : Int)) = false := by simp; omega
  have d2 : decide ((100 : Int) < (a.length : Int)) = false := by simp; omega
  have d3 : decide ((100 : Int) < (b.length : Int)) = false := by simp; omega
  have hz := zero_tab
  -- the two ends
  have hLa : (a.take b.length).length = b.length := by rw [List.length_take]; omega
  have hLb : (b.take b.length).length = b.length := by rw [List.length_take]; omega
  have hsa : Sl w B (u8s (a.take b.length)) := by rw [u8s_take]; exact hs2.take_ _
  have hsb : Sl w C (u8s (b.take b.length)) := by rw [u8s_take]; exact hs3.take_ _
  have hB' : B = none → b.length = 0 := fun h => by have := hB h; omega
  have hC' : C = none → b.length = 0 := fun h => by have := hC h; omega
  obtain ⟨La, hLa0⟩ : ∃ La, La = a.take b.length := ⟨_, rfl⟩
  obtain ⟨Lb, hLb0⟩ : ∃ Lb, Lb = b.take b.length := ⟨_, rfl⟩
  rw [← hLa0] at hLa hsa
  rw [← hLb0] at hLb hsb
  have HLA := Lib.hid hLa
  have HLB := Lib.hid hLb
  have hp := P1.tails l La Lb (hLa.trans hLb.symm)
  have hxl : (l ++ La).length ≤ 400 := by rw [List.length_append, hLa]; omega
  have hyl : (l ++ Lb).length ≤ 400 := by rw [List.length_append, hLb]; omega
  obtain ⟨X, hX⟩ : ∃ X, X = l ++ La := ⟨_, rfl⟩
  obtain ⟨Y, hY⟩ : ∃ Y, Y = l ++ Lb := ⟨_, rfl⟩
  rw [← hX, ← hY] at hp
  rw [← hX] at hxl
  rw [← hY] at hyl
  have HX := Lib.hid hX
  have HY := Lib.hid hY
  have e1 := u32_xor_nat _ _ (P1.sum_lt P1.crcT X) (P1.sum_lt P1.crcT Y)
  have e2 := u32_xor_nat _ _ (P1.sum_lt P1.crcT La) (P1.sum_lt P1.crcT Lb)
  rw [hp] at e1
  generalize P1.sum P1.crcT La ^^^ P1.sum P1.crcT Lb = z at e1 e2
  have hlm : l.length ≤ 140737488355328 := by omega
  clear hLa hLb hLa0 hLb0 hp hX hY hs2 hs3 hB hC
  go_enter Try.func6, Try.ntmps6
  go_wp2_with (first | (go_at_call 11; refine (table_any _).mono ?_; rintro e w1 ⟨rfl, hb1⟩; have hz1 := hb1.size; have HB1 := Lib.hid hb1; clear hb1) | (refine wpList_store_tab rfl (.tmp 7) (.tmp 29) rfl w1.heap.size P1.crcT P1.zeros rfl rfl P1.crcT_tab.1 P1.zeros_tab.1 (Blk.new _ _ _) w.heap.size w (HB1.out.alloc hz1 _) hz1 ?_; intro w2 hk2 hb2; have HT := Lib.hid (IsTab.of_blk hk2 P1.crcT_tab.1); have HB2 := Lib.hid hb2; clear hk2 hb2))
  clear HB1 hz
  have hz2 := HB2.out.size
  have hq1 : Sl w2.drew A (u8s l) := (hs1.below HB2.out).drewN 1
  go_region_held3 (fun _ => True) (trivial) ((first | (go_at_call 18; refine (copyBytes_any A l c1 w2.drew hlm hA hq1).mono ?_; rintro e w3 ⟨A3, c3', rfl, ho3, hb3⟩) | (refine step_app_u8 _ rfl (.tmp 36) (.tmp 39) rfl w2.drew.heap.size _ _ rfl ho3 B b.length c2 La rfl HLA.out.symm hB' (((hsa.below HB2.out).drewN 1).below hb3) (by rw [HLA.out]; omega) hb3.size ?_; intro v4 w4 ho4 hg4)))
  have hb24 : Below w2.heap.size w2 w4 := hg4.below (((Below.refl _ _).drew).trans hb3) hb3.size (fun k hk => (ho3.lt k hk).1)
  rw [← HX.out] at ho4
  obtain ⟨A4, c4, rfl, _, _⟩ := ho4.form
  have HB4 := Lib.hid (HB2.out.trans (hb24.mono hz2))
  have HT4 := Lib.hid (HT.out.below hb24)
  have hx4 : Sl w4.drew A4 (u8s X) := ho4.sl
  have hxn := ho4.none_
  clear HT HB2 hq1 ho3 hb3 ho4 hg4 hb24
  have hz4 := HB4.out.size
  have hq4 : Sl w4.drew A (u8s l) := (hs1.below HB4.out).drewN 1
  go_wp2
  go_region_held3 (fun _ => True) (trivial) ((first | (go_at_call 18; refine (copyBytes_any A l c1 w4.drew hlm hA hq4).mono ?_; rintro e w5 ⟨A5, c5, rfl, ho5, hb5⟩) | (refine step_app_u8 _ rfl (.tmp 42) (.tmp 45) rfl w4.drew.heap.size _ _ rfl ho5 C b.length c3 Lb rfl HLB.out.symm hC' (((hsb.below HB4.out).drewN 1).below hb5) (by rw [HLB.out]; omega) hb5.size ?_; intro v6 w6 ho6 hg6)))
  have hb46 : Below w4.drew.heap.size w4.drew w6 := hg6.below hb5 hb5.size (fun k hk => (ho5.lt k hk).1)
  rw [← HY.out] at ho6
  obtain ⟨A6, c6, rfl, _, _⟩ := ho6.form
  have hbw6 : Below w.heap.size w w6 := HB4.out.drew.trans (hb46.mono hz4)
  have ht4 : IsTab w4.drew w1.heap.size P1.crcT := HT4.out
  have ht6 := ht4.below hb46
  have hx6 := hx4.below hb46
  have hy6 : Sl w6 A6 (u8s Y) := ho6.sl
  have sx := fun n => sum_any w1.heap.size P1.crcT A4 X c4 (w6.drewN n) (by unfold maxLen; omega) P1.crcT_tab (ht6.below (drewN_below _ n)) (hx6.drewN n)
  have sy := fun n => sum_any w1.heap.size P1.crcT A6 Y c6 (w6.drewN n) (by unfold maxLen; omega) P1.crcT_tab (ht6.below (drewN_below _ n)) (hy6.drewN n)
  have sa := fun n => sum_any w1.heap.size P1.crcT B La c2 (w6.drewN n) (by unfold maxLen; rw [HLA.out]; omega) P1.crcT_tab (ht6.below (drewN_below _ n)) ((hsa.below hbw6).drewN n)
  have sb := fun n => sum_any w1.heap.size P1.crcT C Lb c3 (w6.drewN n) (by unfold maxLen; rw [HLB.out]; omega) P1.crcT_tab (ht6.below (drewN_below _ n)) ((hsb.below hbw6).drewN n)
  rw [HLA.out] at sa
  rw [HLB.out] at sb
  have SX := Lib.hid sx
  have SY := Lib.hid sy
  have SA := Lib.hid sa
  have SB := Lib.hid sb
  have HB6 := Lib.hid hbw6
  have HT6 := Lib.hid ht6
  have HX6 := Lib.hid hx6
  have HXN := Lib.hid hxn
  clear sx sy sa sb hbw6 ht4 ht6 hx6 hy6 ho6 hg6 hb46 hb5 ho5 hx4 hxn HT4 HB4 hq4 hsa hsb
  go_wp2
  go_quiet ((go_at_call 12; first | with_reducible exact Calls.quiet_of (SX.out _) | with_reducible exact Calls.quiet_of (SY.out _) | with_reducible exact Calls.quiet_of (SA.out _) | with_reducible exact Calls.quiet_of (SB.out _)))
  have HTP : ∀ W, Below w6.heap.size w6 W → TP W (.pointer (some ⟨w1.heap.size, 0, none⟩)) (P1.sum P1.crcT) := fun W hb => .inr ⟨_, _, rfl, P1.crcT_tab, HT6.out.below hb, rfl⟩
  have HTPH := Lib.hid HTP
  clear HTP SX SY SA SB HT6 e1 e2
  have hz6 := HB6.out.size
  go_wp2_with fail
  refine (seal_any (.pointer (some ⟨w1.heap.size, 0, none⟩)) (P1.sum P1.crcT) A4 X c4 _ (by omega) HXN.out (HTPH.out _ (drewN_below _ _)) (HX6.out.drewN _)).mono ?_
  rintro e w7 ⟨A7, c7, rfl, ho7, hb7⟩
  have hb67 : Below w6.heap.size w6 w7 := (drewN_below w6 _).trans hb7
  have hsl1 : (P1.sealed (P1.sum P1.crcT) X).length ≤ 404 := by simp [P1.sealed, P1.be4]; omega
  have hU1 := P1.unsealed_sealed (P1.sum P1.crcT) X
  obtain ⟨s1, hs1e⟩ : ∃ s1, P1.sealed (P1.sum P1.crcT) X = s1 := ⟨_, rfl⟩
  rw [hs1e] at ho7 hsl1 hU1 ⊢
  have HU1 := Lib.hid hU1
  have HN7 := Lib.hid ho7.none_
  have HS7 := Lib.hid ho7.sl
  have HB67 := Lib.hid hb67
  clear hs1e hU1 ho7 hb7 hb67
  go_wp2_with fail
  refine (seal_any (.pointer (some ⟨w1.heap.size, 0, none⟩)) (P1.sum P1.crcT) A7 s1 c7 w7 (by omega) HN7.out (HTPH.out _ HB67.out) HS7.out).mono ?_
  rintro e w8 ⟨A8, c8, rfl, ho8, hb8⟩
  have hsl2 : (P1.sealed (P1.sum P1.crcT) s1).length ≤ 408 := by simp [P1.sealed, P1.be4]; omega
  have hU2 := P1.unsealed_sealed (P1.sum P1.crcT) s1
  obtain ⟨s2, hs2e⟩ : ∃ s2, P1.sealed (P1.sum P1.crcT) s1 = s2 := ⟨_, rfl⟩
  rw [hs2e] at ho8 hsl2 hU2 ⊢
  have hb68 : Below w6.heap.size w6 w8 := HB67.out.trans (hb8.mono HB67.out.size)
  have hu := unseal_own (.pointer (some ⟨w1.heap.size, 0, none⟩)) (P1.sum P1.crcT) A8 s2 c8 w8 (by omega) ho8.cap ho8.none_ (HTPH.out _ hb68) ho8.sl
  rw [hU2] at hu
  have HU2 := Lib.hid hu
  have HB68 := Lib.hid hb68
  clear hs2e hU2 ho8 hb8 hb68 hu HS7 HN7 HB67
  go_wp2_with fail
  refine HU2.out.mono ?_
  rintro e w9 ⟨A9, c9, rfl, hs9, hn9, hc9, hb9⟩
  have hb69 : Below w6.heap.size w6 w9 := HB68.out.trans (hb9.mono HB68.out.size)
  have hu := unseal_own (.pointer (some ⟨w1.heap.size, 0, none⟩)) (P1.sum P1.crcT) A9 s1 c9 w9 (by omega) hc9 hn9 (HTPH.out _ hb69) hs9
  rw [HU1.out] at hu
  have HU3 := Lib.hid hu
  have HB69 := Lib.hid hb69
  clear hs9 hn9 hc9 hb9 hb69 hu HU2 HB68 HU1
  go_wp2_with fail
  refine HU3.out.mono ?_
  rintro e w10 ⟨A10, c10, rfl, hs10, hn10, _, hb10⟩
  have hb610 : Below w6.heap.size w6 w10 := HB69.out.trans (hb10.mono HB69.out.size)
  have hcv1 := toStr c10 hs10 hn10
  have hcv2 := toStr c4 (HX6.out.below hb610) HXN.out
  have HBF := Lib.hid (HB6.out.trans (hb610.mono hz6))
  clear hs10 hn10 hb10 hb610 HU3 HB69 HX6 HXN HB6 HTPH
  go_wp2_with (go_at_call 10; refine (awake_any _).mono ?_; rintro e w11 ⟨rfl, hb11⟩)
  go_ret
  exact ⟨rfl, HBF.out.trans (hb11.mono HBF.out.size)⟩

theorem tails_any (A B C : Option Addr) (l a b : List UInt8) (c1 c2 c3 : Nat) (w : World) (hc1 : l.length ≤ c1 ∧ c1 ≤ maxLen) (hc2 : a.length ≤ c2 ∧ c2 ≤ maxLen) (hc3 : b.length ≤ c3 ∧ c3 ≤ maxLen)
    (hA : A = none → l.length = 0) (hB : B = none → a.length = 0) (hC : C = none → b.length = 0) (hs1 : Sl w A (u8s l)) (hs2 : Sl w B (u8s a)) (hs3 : Sl w C (u8s b)) :
    Calls Try.prog 6 #[.slice A l.length c1, .slice B a.length c2, .slice C b.length c3] w fun e w' => e = .returned (.bool true) ∧ Below w.heap.size w w' := by
  by_cases h : 300 < l.length ∨ 100 < a.length ∨ 100 < b.length
  · exact tails_long A B C l a b c1 c2 c3 w ⟨by omega, by omega, by omega⟩ h
  · rcases Nat.lt_or_ge b.length a.length with hab | hab
    · exact tails_b A B C l a b c1 c2 c3 w (by omega) (by omega) (by omega) hc2 hc3 hab hA hB hC hs1 hs2 hs3
    · exact tails_a A B C l a b c1 c2 c3 w (by omega) (by omega) (by omega) hc2 hc3 hab hA hB hC hs1 hs2 hs3

end Go.Proofs.Ytplahfhggnkahaa
