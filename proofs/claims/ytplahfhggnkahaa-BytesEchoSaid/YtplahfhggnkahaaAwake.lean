/- cooperagelaw01.awake: the chapter's examples. -/
import Derived.Test.YtplahfhggnkahaaComes
import Derived.Test.YtplahfhggnkahaaSeal
import Derived.Test.YtplahfhggnkahaaTable
import Derived.Test.YtplahfhggnkahaaPlain02
import Derived.Lib.SlBytesConst
namespace Go.Proofs.Ytplahfhggnkahaa
open Go.RowKit

/-- A whole table stored into a block of the call's own. -/
theorem wpList_store_tab {ops : Array Oper} {rest : List Oper} {o : Oper} {a : Act} {w : World} {Q : Exit → Act → World → Prop} (hgd : o.guard = none) (x y : Operand) (ho : o.op = .store 27 x y)
    (g : Nat) (T Z : List Nat) (hx : a.eval x = .pointer (some ⟨g, 0, none⟩)) (hy : a.eval y = .agg (ints .u32 T)) (hT : T.length = 256) (hZ : Z.length = 256) (hz : Blk w g 27 (ints .u32 Z))
    (B : Nat) (w0 : World) (hb : Below B w0 w) (hBg : B ≤ g)
    (h : ∀ w', Blk w' g 27 (ints .u32 T) → Below B w0 w' → wpList Try.prog ops Q rest (a.put o.dst undef) w') : wpList Try.prog ops Q (o :: rest) a w := by
  refine wpList_store_row hgd 27 x y ho g (ints .u32 T) hx hy 27 (ints .u32 Z) hz (by rw [ints_size, hT]; have := tab_info; rw [ints_size, P1.crcT_tab.1] at this; exact this) (by rw [ints_size, ints_size, hT, hZ]) (ints_one _ _) (h _ (setRow_heap _ _ _ _ _ _ hz) ?_)
  exact hb.trans ⟨rfl, rfl, rfl, by simp [World.setRow], fun i hi => setRow_other _ _ _ _ (by omega)⟩

theorem IsTab.of_blk {w : World} {g : Nat} {T : List Nat} (h : Blk w g 27 (ints .u32 T)) (hT : T.length = 256) : IsTab w g T := fun i hi => by rw [h.cell, ints_get _ _ _ (by omega)]

/-- Bytes written out, in a new block. -/
theorem Sl.lit (w : World) (l : List UInt8) (t : TypeId) (fr : Nat × Nat) (cs : Array Value) (h : cs = (u8s l).toArray) : Sl (w.alloc (.cells cs t fr)) (some ⟨w.heap.size, 0, none⟩) (u8s l) := by
  subst h
  intro j u hj
  refine ⟨_, 0, rfl, ?_⟩
  rw [World.cell?_alloc_mark, List.getElem?_toArray, Nat.zero_add]
  exact hj

theorem below_new (w : World) (o : Obj) : Below w.heap.size w (w.alloc o) := (Below.refl _ _).alloc (Nat.le_refl _) o

theorem sum_nine (g : Nat) (w : World) (fr : Nat × Nat) (ht : IsTab w g P1.crcT) :
    Calls Try.prog 12 #[.pointer (some ⟨g, 0, none⟩), .slice (some ⟨w.heap.size, 0, none⟩) 9 9] (w.alloc (.cells #[.int .u8 49, .int .u8 50, .int .u8 51, .int .u8 52, .int .u8 53, .int .u8 54, .int .u8 55, .int .u8 56, .int .u8 57] 5 fr))
      fun e w' => e = .returned (.int .u32 3808858755) ∧ Below w.heap.size w w' := by
  have h := sum_any g P1.crcT (some ⟨w.heap.size, 0, none⟩) [49, 50, 51, 52, 53, 54, 55, 56, 57] 9 _ (by simp [maxLen]) P1.crcT_tab (ht.below (below_new w (.cells #[.int .u8 49, .int .u8 50, .int .u8 51, .int .u8 52, .int .u8 53, .int .u8 54, .int .u8 55, .int .u8 56, .int .u8 57] 5 fr))) (Sl.lit w _ _ _ _ rfl)
  rw [P1.nine] at h
  refine h.mono ?_
  rintro e w' ⟨rfl, n, rfl⟩
  exact ⟨rfl, (below_new w _).trans ((drewN_below _ n).mono (by simp))⟩

theorem uint_300 (w : World) : Calls Try.prog 15 #[.slice none 0 0, .int .u64 300] w (FreshB w [172, 2]) := by
  have h := uint_nil 300 w (by omega)
  rw [P1.v300] at h
  exact h
theorem comes_1 (w : World) : Calls Try.prog 21 #[.string ⟨#[172, 2]⟩, .int .i64 0] w fun e w' => e = .returned (.string ⟨#[172, 2, 32, 2]⟩) ∧ Below w.heap.size w w' := by
  have h := comes_any [172, 2] 0 w (by simp)
  rw [P1.c1] at h
  exact h
theorem comes_2 (w : World) : Calls Try.prog 21 #[.string ⟨#[128, 0]⟩, .int .i64 0] w fun e w' => e = .returned (.string ⟨#[101, 114, 114, 111, 114, 32, 10]⟩) ∧ Below w.heap.size w w' := by
  have h := comes_any [128, 0] 0 w (by simp)
  rw [P1.c2] at h
  exact h
theorem comes_3 (w : World) : Calls Try.prog 21 #[.string ⟨#[128]⟩, .int .i64 0] w fun e w' => e = .returned (.string ⟨#[101, 114, 114, 111, 114, 32, 11]⟩) ∧ Below w.heap.size w w' := by
  have h := comes_any [128] 0 w (by simp)
  rw [P1.c3] at h
  exact h
theorem blob_ab (w : World) (fr : Nat × Nat) :
    Calls Try.prog 26 #[.slice none 0 0, .slice (some ⟨w.heap.size, 0, none⟩) 2 2] (w.alloc (.cells #[.int .u8 97, .int .u8 98] 5 fr)) fun e w' => ∃ A c, e = .returned (.slice A 3 c) ∧ Sl w' A (u8s [2, 97, 98]) ∧ (A = none → 3 = 0) ∧ Below w.heap.size w w' := by
  have h := blob_any (w.alloc (.cells #[.int .u8 97, .int .u8 98] 5 fr)).heap.size (.slice none 0 0) [] [97, 98] (some ⟨w.heap.size, 0, none⟩) 2 _ (by simp) (by simp) (Nat.le_refl _) (OwnB.nil _ _) (by intro h; cases h) (Sl.lit w _ _ _ _ rfl) (by intro g hg; simp [Value.ownBlock] at hg)
  rw [show (([97, 98] : List UInt8).length) = 2 from rfl, P1.v2] at h
  refine h.mono ?_
  rintro e w' ⟨v', rfl, ho, hg⟩
  obtain ⟨A, c, rfl, _, _⟩ := ho.form
  exact ⟨A, c, rfl, ho.sl, ho.none_, hg.below (below_new w _) (by simp) (by simp [Value.ownBlock])⟩
theorem seal_none (g : Nat) (w : World) (ht : IsTab w g P1.crcT) :
    Calls Try.prog 16 #[.pointer (some ⟨g, 0, none⟩), .slice none 0 0] w (FreshB w [0, 0, 0, 0]) := by
  have h := seal_any (.pointer (some ⟨g, 0, none⟩)) (P1.sum P1.crcT) none [] 0 w (by simp) (fun _ => rfl) (.inr ⟨g, _, rfl, P1.crcT_tab, ht, rfl⟩) (Sl.nil _ _)
  rw [P1.none4] at h
  exact h

set_option maxRecDepth 10000 in
set_option maxHeartbeats 1000000 in
theorem awake_any (w : World) : Calls Try.prog 10 #[] w fun e w' => e = .returned (.bool true) ∧ Below w.heap.size w w' := by
  have hz := zero_tab
  have kc := fun (w : World) (C : Array Value) (n c : Nat) => Lib.run_convert_bytes_const (P := Try.prog) w 22 5 C n c Try.underlying22 Try.underlying5
  go_enter Try.func10, Try.ntmps10
  go_wp2_with (first | (go_at_call 11; refine (table_any _).mono ?_; rintro e w1 ⟨rfl, hb1⟩; have hz1 := hb1.size; have HB1 := Lib.hid hb1; clear hb1) | (refine wpList_store_tab rfl (.tmp 1) (.tmp 3) rfl w1.heap.size P1.crcT P1.zeros rfl rfl P1.crcT_tab.1 P1.zeros_tab.1 (Blk.new _ _ _) w.heap.size w (HB1.out.alloc hz1 _) hz1 ?_; intro w2 hk2 hb2; have HT := Lib.hid (IsTab.of_blk hk2 P1.crcT_tab.1); have HB2 := Lib.hid hb2; clear hk2 hb2))
  refine (sum_nine w1.heap.size w2 _ HT.out).mono ?_
  rintro e w3 ⟨rfl, hb3⟩
  have HT3 := Lib.hid (HT.out.below hb3)
  have HB3 := Lib.hid (HB2.out.trans (hb3.mono HB2.out.size))
  clear HT HB1 HB2 hz1 hb3
  go_wp2_with fail
  refine (uint_300 w3).mono ?_
  rintro e w4 ⟨A4, c4, rfl, ho4, hb4⟩
  have hc4 : (convert 22 9 (.slice A4 2 c4)).run Try.prog w4 = .ok (.string ⟨#[172, 2]⟩) w4 := toStr c4 ho4.sl ho4.none_
  have HT4 := Lib.hid (HT3.out.below hb4)
  have HB4 := Lib.hid (HB3.out.trans (hb4.mono HB3.out.size))
  clear HT3 HB3 ho4 hb4
  go_wp2_with fail
  refine (comes_1 w4).mono ?_
  rintro e w5 ⟨rfl, hb5⟩
  have HT5 := Lib.hid (HT4.out.below hb5)
  have HB5 := Lib.hid (HB4.out.trans (hb5.mono HB4.out.size))
  clear HT4 HB4 hb5 hc4
  go_wp2_with fail
  refine (comes_2 w5).mono ?_
  rintro e w6 ⟨rfl, hb6⟩
  have HT6 := Lib.hid (HT5.out.below hb6)
  have HB6 := Lib.hid (HB5.out.trans (hb6.mono HB5.out.size))
  clear HT5 HB5 hb6
  go_wp2_with fail
  refine (comes_3 w6).mono ?_
  rintro e w7 ⟨rfl, hb7⟩
  have HT7 := Lib.hid (HT6.out.below hb7)
  have HB7 := Lib.hid (HB6.out.trans (hb7.mono HB6.out.size))
  clear HT6 HB6 hb7
  go_wp2_with fail
  refine (blob_ab w7 _).mono ?_
  rintro e w8 ⟨A8, c8, rfl, hs8, hn8, hb8⟩
  have hc8 : (convert 22 9 (.slice A8 3 c8)).run Try.prog w8 = .ok (.string ⟨#[2, 97, 98]⟩) w8 := toStr c8 hs8 hn8
  have HT8 := Lib.hid (HT7.out.below hb8)
  have HB8 := Lib.hid (HB7.out.trans (hb8.mono HB7.out.size))
  clear HT7 HB7 hs8 hn8 hb8
  go_wp2_with fail
  refine (seal_none w1.heap.size w8 HT8.out).mono ?_
  rintro e w9 ⟨A9, c9, rfl, ho9, hb9⟩
  have hc9 : (convert 22 9 (.slice A9 4 c9)).run Try.prog w9 = .ok (.string ⟨#[0, 0, 0, 0]⟩) w9 := toStr c9 ho9.sl ho9.none_
  have HT9 := Lib.hid (HT8.out.below hb9)
  have HB9 := Lib.hid (HB8.out.trans (hb9.mono HB8.out.size))
  have h0 := HT9.out 0 (by omega)
  have h128 := HT9.out 128 (by omega)
  rw [P1.t0] at h0
  rw [P1.t128] at h128
  have h0' : w9.cell? ⟨w1.heap.size, 0, none⟩ = some (.int .u32 0) := h0
  have h128' : w9.cell? ⟨w1.heap.size, 128, none⟩ = some (.int .u32 2197175160) := h128
  clear HT8 HB8 ho9 hb9 hc8 h0 h128 HT9
  go_wp2
  go_ret
  exact ⟨rfl, HB9.out⟩

end Go.Proofs.Ytplahfhggnkahaa
