/- bytes.GetBlob and cooperageref01.GetBlob: a string that comes. -/
import Derived.Test.YtplahfhggnkahaaGet
import Derived.Test.YtplahfhggnkahaaGet2
import Derived.Test.YtplahfhggnkahaaCopy
namespace Go.Proofs.Ytplahfhggnkahaa
open Go.RowKit

/-- A list, a place, an error; nothing that was there has turned. -/
def TellsB (w : World) (r : List UInt8 × Nat × Nat) (e : Ending) (w' : World) : Prop :=
  ∃ A c, e = .returned (.tuple #[.slice A r.1.length c, .int .i64 (r.2.1 : Int), .int .i64 (r.2.2 : Int)]) ∧ Sl w' A (u8s r.1) ∧ (A = none → r.1.length = 0) ∧ Below w.heap.size w w'

theorem ret3s {A : Option Addr} {n n' c : Nat} {kb kc : IntKind} {b b' d d' : Int} (h1 : n = n') (h2 : b = b') (h3 : d = d') :
    Ending.returned (.tuple #[.slice A n c, .int kb b, .int kc d]) = .returned (.tuple #[.slice A n' c, .int kb b', .int kc d']) := by rw [h1, h2, h3]

theorem TellsB.none_ {w : World} {r : List UInt8 × Nat × Nat} {n e : Nat} {b d : Int} {v : Ending} (hr : r = ([], n, e)) (hb : b = (n : Int)) (hd : d = (e : Int)) (hv : v = .returned (.tuple #[.slice none 0 0, .int .i64 b, .int .i64 d])) : TellsB w r v w := by
  subst hr hb hd hv
  exact ⟨none, 0, rfl, Sl.nil _ _, fun _ => rfl, Below.refl _ _⟩

/-- What GetUint tells, at any place. -/
theorem getUint_any (A : Option Addr) (l : List UInt8) (c : Nat) (p : Int) (w : World) (hn : l.length ≤ maxLen) (hs : Sl w A (u8s l)) :
    Calls Try.prog 14 #[.slice A l.length c, .int .i64 p] w fun e w' => e = .returned (.tuple #[.int .u64 ((P1.getUint l p).1 : Int), .int .i64 ((P1.getUint l p).2.1 : Int), .int .i64 ((P1.getUint l p).2.2 : Int)]) ∧ w = w' := by
  by_cases h : p < 0 ∨ (l.length : Int) < p
  · rw [P1.getUint_out h]
    exact getUint_out A l.length c p w hn h
  · obtain ⟨q, rfl⟩ := Int.eq_ofNat_of_zero_le (show 0 ≤ p by omega)
    exact getUint_in A l c q w hn (by omega) hs

theorem refGetUint_any (A : Option Addr) (l : List UInt8) (c : Nat) (p : Int) (w : World) (hn : l.length ≤ maxLen) (hs : Sl w A (u8s l)) :
    Calls Try.prog 23 #[.slice A l.length c, .int .i64 p] w fun e w' => e = .returned (.tuple #[.int .u64 ((P1.getUint l p).1 : Int), .int .i64 ((P1.getUint l p).2.1 : Int), .int .i64 ((P1.getUint l p).2.2 : Int)]) ∧ w = w' := by
  by_cases h : p < 0 ∨ (l.length : Int) < p
  · rw [P1.getUint_out h]
    exact refGetUint_out A l.length c p w hn h
  · obtain ⟨q, rfl⟩ := Int.eq_ofNat_of_zero_le (show 0 ≤ p by omega)
    exact refGetUint_in A l c q w hn (by omega) hs

/-- What GetUint tells, as three numbers. -/
theorem getUint_num {f : FuncId} (A : Option Addr) (l : List UInt8) (c : Nat) (p : Int) (w : World) {n j e : Nat} (hg : P1.getUint l p = (n, j, e))
    (h : Calls Try.prog f #[.slice A l.length c, .int .i64 p] w fun e w' => e = .returned (.tuple #[.int .u64 ((P1.getUint l p).1 : Int), .int .i64 ((P1.getUint l p).2.1 : Int), .int .i64 ((P1.getUint l p).2.2 : Int)]) ∧ w = w') :
    Calls Try.prog f #[.slice A l.length c, .int .i64 p] w fun v w' => v = .returned (.tuple #[.int .u64 (n : Int), .int .i64 (j : Int), .int .i64 (e : Int)]) ∧ w = w' := by
  rw [hg] at h
  exact h

set_option maxRecDepth 10000 in
set_option maxHeartbeats 400000 in
theorem getBlob_any (A : Option Addr) (l : List UInt8) (c : Nat) (p most : Int) (w : World) (hn : l.length ≤ 140737488355328) (hc : l.length ≤ c) (hcm : c ≤ maxLen) (hA : A = none → l.length = 0) (hs : Sl w A (u8s l))
    (hm1 : -9223372036854775808 ≤ most) (hm2 : most ≤ 9223372036854775807) :
    Calls Try.prog 22 #[.slice A l.length c, .int .i64 p, .int .i64 most] w (TellsB w (P1.getBlob l p most)) := by
  have hf := P1.getUint_fits l p
  have hcall0 := getUint_any A l c p w (by unfold maxLen; omega) hs
  rcases hg : P1.getUint l p with ⟨n, j, e⟩
  have hcall := getUint_num A l c p w hg hcall0
  clear hcall0
  rw [hg] at hf
  simp only at hf
  obtain ⟨hf1, hf2, hf3, hf4, hf5⟩ := hf
  have HC := Lib.hid hcall
  clear hcall
  unfold maxLen at hcm
  by_cases he : e = 0
  · subst he
    have hj := hf4 rfl
    clear hf4 hf5
    by_cases hm : most < 0 ∨ most < n
    · have HR := Lib.hid (P1.getBlob_long (most := most) hg hm)
      clear hg
      rcases hm with hm | hm
      · go_enter Try.func22, Try.ntmps22
        go_wp2_with (go_at_call 14; refine HC.out.mono ?_; rintro e w1 ⟨rfl, rfl⟩)
        go_ret3
        exact TellsB.none_ HR.out rfl rfl rfl
      · by_cases hm0 : most < 0
        · go_enter Try.func22, Try.ntmps22
          go_wp2_with (go_at_call 14; refine HC.out.mono ?_; rintro e w1 ⟨rfl, rfl⟩)
          go_ret3
          exact TellsB.none_ HR.out rfl rfl rfl
        · go_enter Try.func22, Try.ntmps22
          go_wp2_with (go_at_call 14; refine HC.out.mono ?_; rintro e w1 ⟨rfl, rfl⟩)
          go_ret3
          exact TellsB.none_ HR.out rfl rfl rfl
    · by_cases hsh : l.length - j < n
      · have HR := Lib.hid (P1.getBlob_short (most := most) hg hm hsh)
        clear hg
        have hm3 : 0 ≤ most := by omega
        have hm4 : (n : Int) ≤ most := by omega
        clear hm
        go_enter Try.func22, Try.ntmps22
        go_wp2_with (go_at_call 14; refine HC.out.mono ?_; rintro e w1 ⟨rfl, rfl⟩)
        go_ret3
        exact TellsB.none_ HR.out rfl rfl rfl
      · have HR := Lib.hid (P1.getBlob_ok (most := most) hg hm hsh)
        clear hg
        have hm3 : 0 ≤ most := by omega
        have hm4 : (n : Int) ≤ most := by omega
        clear hm
        have hLn : ((l.drop j).take n).length = n := by simp; omega
        have hsl := (hs.drop_ j).take_ n
        rw [← u8s_drop, ← u8s_take] at hsl
        have hsl0 : j = c → Sl w A (u8s ((l.drop j).take n)) := fun h => by
          have : n = 0 := by omega
          subst this
          simp only [List.take_zero]
          exact Sl.nil _ _
        obtain ⟨L, hL⟩ : ∃ L, L = (l.drop j).take n := ⟨_, rfl⟩
        rw [← hL] at hLn hsl HR hsl0
        have hA' : A ≠ none := fun h => by have := hA h; omega
        have hcl1 := fun h : j = c => clone_any A L 0 w (by omega) (fun h => absurd h hA') (hsl0 h)
        have hcl2 := clone_any _ L (c - j) w (by omega) (fun h => by cases A with | none => exact absurd rfl hA' | some a => cases h) hsl
        rw [hLn] at hcl1 hcl2
        have H1 := Lib.hid hcl1
        have H2 := Lib.hid hcl2
        have HLn := Lib.hid hLn
        clear hL hcl1 hcl2 hsl hsl0 hLn
        by_cases hjc : c = j
        · subst hjc
          have h0 : n = 0 := by omega
          subst h0
          have H3 := Lib.hid (H1.out rfl)
          clear H1
          go_enter Try.func22, Try.ntmps22
          go_wp2_with (first | (go_at_call 14; refine HC.out.mono ?_; rintro e w1 ⟨rfl, rfl⟩) | (go_at_call 36; go_must (refine H3.out.mono ?_); rintro e w1 ⟨A1, c1, rfl, ho1, hb1⟩; have HO := Lib.hid ho1; have HB := Lib.hid hb1; clear ho1 hb1))
          go_ret3
          unfold TellsB
          rw [HR.out]
          exact ⟨A1, c1, ret3s rfl (by simp) rfl, HO.out.sl, HO.out.none_, HB.out⟩
        · have hjc' : ¬ j = c := fun h => hjc h.symm
          go_enter Try.func22, Try.ntmps22
          go_wp2_with (first | (go_at_call 14; refine HC.out.mono ?_; rintro e w1 ⟨rfl, rfl⟩) | (go_at_call 36; go_must (refine H2.out.mono ?_); rintro e w1 ⟨A1, c1, rfl, ho1, hb1⟩; have HO := Lib.hid ho1; have HB := Lib.hid hb1; clear ho1 hb1))
          go_ret3
          unfold TellsB
          rw [HR.out]
          exact ⟨A1, c1, ret3s rfl (by simp) rfl, HO.out.sl, HO.out.none_, HB.out⟩
  · have HR := Lib.hid (P1.getBlob_err (most := most) hg he)
    clear hg
    obtain ⟨rfl, rfl⟩ := hf5 he
    clear hf4 hf5
    have z : ((e : Int) == 0) = false := by simp; omega
    have z' : ((e : Int) != 0) = true := by simp; omega
    go_enter Try.func22, Try.ntmps22
    go_wp2_with (go_at_call 14; refine HC.out.mono ?_; rintro e w1 ⟨rfl, rfl⟩)
    go_ret3
    exact TellsB.none_ HR.out rfl rfl rfl

set_option maxRecDepth 10000 in
set_option maxHeartbeats 400000 in
theorem refGetBlob_any (A : Option Addr) (l : List UInt8) (c : Nat) (p most : Int) (w : World) (hn : l.length ≤ 140737488355328) (hc : l.length ≤ c) (hcm : c ≤ maxLen) (hA : A = none → l.length = 0) (hs : Sl w A (u8s l))
    (hm1 : -9223372036854775808 ≤ most) (hm2 : most ≤ 9223372036854775807) :
    Calls Try.prog 24 #[.slice A l.length c, .int .i64 p, .int .i64 most] w (TellsB w (P1.getBlob l p most)) := by
  have hf := P1.getUint_fits l p
  have hcall0 := refGetUint_any A l c p w (by unfold maxLen; omega) hs
  rcases hg : P1.getUint l p with ⟨n, j, e⟩
  have hcall := getUint_num A l c p w hg hcall0
  clear hcall0
  rw [hg] at hf
  simp only at hf
  obtain ⟨hf1, hf2, hf3, hf4, hf5⟩ := hf
  have HC := Lib.hid hcall
  clear hcall
  unfold maxLen at hcm
  by_cases he : e = 0
  · subst he
    have hj := hf4 rfl
    clear hf4 hf5
    by_cases hm : most < 0 ∨ most < n
    · have HR := Lib.hid (P1.getBlob_long (most := most) hg hm)
      clear hg
      rcases hm with hm | hm
      · go_enter Try.func24, Try.ntmps24
        go_wp2_with (go_at_call 23; refine HC.out.mono ?_; rintro e w1 ⟨rfl, rfl⟩)
        go_ret3
        exact TellsB.none_ HR.out rfl rfl rfl
      · by_cases hm0 : most < 0
        · go_enter Try.func24, Try.ntmps24
          go_wp2_with (go_at_call 23; refine HC.out.mono ?_; rintro e w1 ⟨rfl, rfl⟩)
          go_ret3
          exact TellsB.none_ HR.out rfl rfl rfl
        · go_enter Try.func24, Try.ntmps24
          go_wp2_with (go_at_call 23; refine HC.out.mono ?_; rintro e w1 ⟨rfl, rfl⟩)
          go_ret3
          exact TellsB.none_ HR.out rfl rfl rfl
    · by_cases hsh : l.length - j < n
      · have HR := Lib.hid (P1.getBlob_short (most := most) hg hm hsh)
        clear hg
        have hm3 : 0 ≤ most := by omega
        have hm4 : (n : Int) ≤ most := by omega
        clear hm
        by_cases hbig : l.length < n
        all_goals
          go_enter Try.func24, Try.ntmps24
          go_wp2_with (go_at_call 23; refine HC.out.mono ?_; rintro e w1 ⟨rfl, rfl⟩)
          go_ret3
          exact TellsB.none_ HR.out rfl rfl rfl
      · have HR := Lib.hid (P1.getBlob_ok (most := most) hg hm hsh)
        clear hg
        have hm3 : 0 ≤ most := by omega
        have hm4 : (n : Int) ≤ most := by omega
        clear hm
        have hLn : ((l.drop j).take n).length = n := by simp; omega
        have hsl := (hs.drop_ j).take_ n
        rw [← u8s_drop, ← u8s_take] at hsl
        have hsl0 : j = c → Sl w A (u8s ((l.drop j).take n)) := fun h => by
          have : n = 0 := by omega
          subst this
          simp only [List.take_zero]
          exact Sl.nil _ _
        obtain ⟨L, hL⟩ : ∃ L, L = (l.drop j).take n := ⟨_, rfl⟩
        rw [← hL] at hLn hsl HR hsl0
        have hA' : A ≠ none := fun h => by have := hA h; omega
        have hcl1 := fun h : j = c => joined_any none A [] L 0 0 w (fun _ => rfl) (Sl.nil _ _) (fun h => absurd h hA') (hsl0 h) (by simp; omega)
        have hcl2 := joined_any none _ [] L 0 (c - j) w (fun _ => rfl) (Sl.nil _ _) (fun h => by cases A with | none => exact absurd rfl hA' | some a => cases h) hsl (by simp; omega)
        rw [hLn] at hcl1 hcl2
        have H1 := Lib.hid hcl1
        have H2 := Lib.hid hcl2
        have HLn := Lib.hid hLn
        clear hL hcl1 hcl2 hsl hsl0 hLn
        by_cases hjc : c = j
        · subst hjc
          have h0 : n = 0 := by omega
          subst h0
          have H3 := Lib.hid (H1.out rfl)
          clear H1
          go_enter Try.func24, Try.ntmps24
          go_wp2_with (first | (go_at_call 23; refine HC.out.mono ?_; rintro e w1 ⟨rfl, rfl⟩) | (go_at_call 38; go_must (refine H3.out.mono ?_); rintro e w1 ⟨A1, c1, rfl, ho1, hn1, hb1⟩; have HO := Lib.hid ho1; have HN := Lib.hid hn1; have HB := Lib.hid hb1; clear ho1 hn1 hb1))
          go_ret3
          unfold TellsB
          rw [HR.out]
          exact ⟨A1, c1, ret3s rfl (by simp) rfl, HO.out, HN.out, HB.out⟩
        · have hjc' : ¬ j = c := fun h => hjc h.symm
          go_enter Try.func24, Try.ntmps24
          go_wp2_with (first | (go_at_call 23; refine HC.out.mono ?_; rintro e w1 ⟨rfl, rfl⟩) | (go_at_call 38; go_must (refine H2.out.mono ?_); rintro e w1 ⟨A1, c1, rfl, ho1, hn1, hb1⟩; have HO := Lib.hid ho1; have HN := Lib.hid hn1; have HB := Lib.hid hb1; clear ho1 hn1 hb1))
          go_ret3
          unfold TellsB
          rw [HR.out]
          exact ⟨A1, c1, ret3s rfl (by simp) rfl, HO.out, HN.out, HB.out⟩
  · have HR := Lib.hid (P1.getBlob_err (most := most) hg he)
    clear hg
    obtain ⟨rfl, rfl⟩ := hf5 he
    clear hf4 hf5
    have z : ((e : Int) == 0) = false := by simp; omega
    have z' : ((e : Int) != 0) = true := by simp; omega
    go_enter Try.func24, Try.ntmps24
    go_wp2_with (go_at_call 23; refine HC.out.mono ?_; rintro e w1 ⟨rfl, rfl⟩)
    go_ret3
    exact TellsB.none_ HR.out rfl rfl rfl

end Go.Proofs.Ytplahfhggnkahaa
