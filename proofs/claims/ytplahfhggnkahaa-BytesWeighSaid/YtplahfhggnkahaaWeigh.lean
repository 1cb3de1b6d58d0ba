/- cooperagelaw01.BytesWeigh: a number weighs its bytes: for every input the call returns true and leaves what was there as it was. -/
import Derived.Test.YtplahfhggnkahaaAwake
import Derived.Test.YtplahfhggnkahaaPlain03
import Derived.Deep.RegionHeld
namespace Go.Proofs.Ytplahfhggnkahaa
open Go.RowKit

/-- The bytes from k on are weighed. -/
def SumRel (l : List UInt8) (p j : Nat) (a2 s i : Value) : Prop :=
  ∃ k t : Nat, p ≤ k ∧ k ≤ j ∧ i = .int .i64 ((k : Int) - 1) ∧ s = .int .u64 (t : Int) ∧ Hid (P1.W l j k = t) ∧ a2 = .bool false

set_option maxRecDepth 100000 in
set_option maxHeartbeats 4000000 in
theorem weigh_any (A : Option Addr) (l : List UInt8) (c : Nat) (w : World) (hc : l.length ≤ c) (_hcm : c ≤ maxLen) (hA : A = none → l.length = 0) (hs : Sl w A (u8s l)) :
    Calls Try.prog 4 #[.slice A l.length c] w fun e w' => e = .returned (.bool true) ∧ Below w.heap.size w w' := by
  unfold maxLen at _hcm
  by_cases h60 : 60 < l.length
  · go_enter Try.func4, Try.ntmps4
    go_wp2_with (go_at_call 10; refine (awake_any _).mono ?_; rintro e w1 ⟨rfl, hb1⟩)
    go_ret
    exact ⟨rfl, hb1⟩
  · have h60' : l.length ≤ 60 := by omega
    have hd60 : decide ((60 : Int) < (l.length : Int)) = false := by simp; omega
    clear h60
    go_enter Try.func4, Try.ntmps4
    go_wp2
    go_loopw [2, 3, 4, 5, 6, 7, 8] (fun r i _ _ _ _ _ wr => ∃ p : Nat, p ≤ l.length ∧ i = .int .i64 p ∧ r = .bool false ∧ Below w.heap.size w wr) (fun _ i _ _ _ _ _ _ => l.length - (intOf i).toNat)
    case atStart => exact ⟨0, by omega, rfl, rfl, Below.refl _ _⟩
    case round =>
      obtain ⟨p, hp, rfl, rfl, hb⟩ := hrel
      have HB := Lib.hid hb
      have hz := hb.size
      have hsr := hs.below hb
      clear hb
      by_cases hlt : p < l.length
      · have hcall0 := getUint_any A l c p wr (by unfold maxLen; omega) hsr
        rcases hg : P1.getUint l p with ⟨n, j, e⟩
        have hcall := getUint_num A l c p wr hg hcall0
        have hfits := (P1.getUint_fits l p).1
        rw [hg] at hfits
        simp only at hfits
        have HC := Lib.hid hcall
        clear hcall hcall0
        by_cases he : e = 0
        · subst he
          obtain ⟨h1, h2, h3, h4, h5, h6, x, h7, h8, h9⟩ := P1.weighs hp hg
          have H4 := Lib.hid h4
          have H5 := Lib.hid h5
          have H6 := Lib.hid h6
          have hgap : ∃ b off, A = some ⟨b, off, none⟩ ∧ wr.cell? ⟨b, off + (j - 1), none⟩ = some (.int .u8 (x.toNat : Int)) := by
            obtain ⟨b, off, e1, _, e2⟩ := hsr.at_ (j := j - 1) (u := .int .u8 (x.toNat : Int)) (by simp only [u8s, List.getElem?_map, h7]; rfl)
            exact ⟨b, off, e1, e2⟩
          obtain ⟨b, off, rfl, hcell⟩ := hgap
          have hx0 : (p + 1 < j ∧ ((x.toNat : Int) == 0) = false) ∨ j ≤ p + 1 := by
            rcases Nat.lt_or_ge (p + 1) j with h | h
            · left
              have := h9 h
              refine ⟨h, ?_⟩
              simp
              exact fun hh => this (by simpa using hh)
            · exact .inr h
          generalize x.toNat = y at *
          clear h4 h5 h6 h7 h9 hg
          rcases hx0 with ⟨hx1, hx0⟩ | hx0
          all_goals
            go_wp2_with (first | (go_at_call 14; refine HC.out.mono ?_; rintro e w2 ⟨rfl, rfl⟩))
            clear hcell hx0 h8
            go_loop [2, 7, 8] (fun a2 s i => SumRel l p j a2 s i) (fun _ _ i => (intOf i + 1).toNat)
            case atStart => exact ⟨j, 0, by omega, by omega, rfl, rfl, P1.W_end l j, rfl⟩
            case round =>
              obtain ⟨k, t, hk1, hk2, rfl, rfl, ht, rfl⟩ := hrel
              by_cases hkp : p < k
              · have hst := P1.W_step l j (k - 1) (by omega) h2
                rw [show k - 1 + 1 = k by omega, ht.out] at hst
                have hle := P1.W_le l j p h2 (k - 1 - p) (by omega)
                rw [show p + (k - 1 - p) = k - 1 by omega, H5.out] at hle
                obtain ⟨b', off', e1, _, hcell⟩ := hsr.byte (show k - 1 < l.length by omega)
                injection e1 with e1
                injection e1 with e1 e2
                subst e1 e2
                have hbig := H6.out (k - 1) (by omega) (by omega)
                generalize (l[k - 1]'(by omega)).toNat = y2 at *
                obtain ⟨t2, ht2⟩ : ∃ t2, P1.W l j (k - 1) = t2 := ⟨_, rfl⟩
                rw [ht2] at hst hle
                have HT := Lib.hid ht2
                have hlt64 : t * 128 + y2 % 128 < 18446744073709551616 := by omega
                have HST := Lib.hid hst
                clear hst ht2 hle
                rcases Nat.lt_or_ge k j with hkj | hkj
                · have hb3 := hbig (by omega)
                  clear hbig
                  go_wp2
                  all_goals
                    go_round
                    case rel => first | exact ⟨k - 1, t2, by omega, by omega, by go_num, by rw [HST.out]; go_num, HT.out, rfl⟩ | exact ⟨_, _, _, ⟨k - 1, t2, by omega, by omega, by go_num, by rw [HST.out]; go_num, HT.out, rfl⟩, rfl, rfl, rfl⟩
                    case measure => simp [intOf]; omega
                · clear hbig
                  go_wp2
                  all_goals
                    go_round
                    case rel => first | exact ⟨k - 1, t2, by omega, by omega, by go_num, by rw [HST.out]; go_num, HT.out, rfl⟩ | exact ⟨_, _, _, ⟨k - 1, t2, by omega, by omega, by go_num, by rw [HST.out]; go_num, HT.out, rfl⟩, rfl, rfl, rfl⟩
                    case measure => simp [intOf]; omega
              · obtain rfl : k = p := by omega
                have hnt : n = t := H5.out.symm.trans ht.out
                subst hnt
                go_wp2
                have hsw : Sl wr.drew (some ⟨b, off, none⟩) (u8s l) := hsr
                have hpart := (hsw.drop_ k).take_ (j - k)
                rw [← u8s_drop, ← u8s_take, List.take_drop, show k + (j - k) = j by omega, ← H4.out] at hpart
                have hvl : (P1.varint n).length = j - k := by rw [H4.out, List.length_drop, List.length_take]; omega
                have hpart' : Sl wr.drew (some ⟨b, off + k, none⟩) (u8s (P1.varint n)) := by simpa [add_lit] using hpart
                have hcv := toStr (c - k) hpart' (by intro h; cases h)
                rw [hvl] at hcv
                have HVL := Lib.hid hvl
                clear hpart hvl
                have i0 : (0 : Int) ≤ (k : Int) := by omega
                have i1 : (k : Int) ≤ (j : Int) := by omega
                have i2 : (j : Int) ≤ (c : Int) := by omega
                have i3 : ¬ c = k := by omega
                have i4 : ¬ k = c := by omega
                have i5 : (0 : Int) ≤ (j : Int) := by omega
                go_region_held (fun w' => (convert 22 9 (.slice (some ⟨b, off + k, none⟩) (j - k) (c - k))).run Try.prog w' = .ok (.string ⟨(P1.varint n).toArray⟩) w') (first | assumption | go_keep) ((go_at_call 15; refine (uint_nil n _ hfits).mono ?_; rintro e w2 ⟨A2, c2, rfl, ho2, hb2⟩; have hc2 := toStr c2 ho2.sl ho2.none_; have hcv2 := toStr (c - k) (hpart'.below hb2) (by intro h; cases h); rw [HVL.out] at hcv2))
                all_goals
                  have HB2 := Lib.hid (HB.out.drew.trans (hb2.mono hz))
                  clear hc2 hcv2 ho2 hb2 hcv hpart' hsw i0 i1 i2 i3 i4 i5
                  go_wp2
                  go_roundw
                  case rel => first | exact ⟨j, h2, rfl, rfl, HB2.out⟩ | ((repeat apply Exists.intro); exact ⟨⟨j, h2, rfl, rfl, HB2.out⟩, rfl⟩)
                  case measure => simp [intOf]; omega
        · have he2 := P1.getUint_errs hp hg
          have z : ((e : Int) == 0) = false := by simp; omega
          have z' : ((e : Int) != 0) = true := by simp; omega
          clear hg
          rcases he2 with he2 | he2 | he2
          · exact absurd he2 he
          · have z1 : ((e : Int) == 11) = false := by simp; omega
            have z2 : ((e : Int) == 10) = true := by simp; omega
            clear he2 he
            go_wp2_with (first | (go_at_call 14; refine HC.out.mono ?_; rintro e w2 ⟨rfl, rfl⟩) | (go_at_call 10; refine (awake_any _).mono ?_; rintro e w2 ⟨rfl, hb2⟩))
            go_ret
            exact ⟨rfl, HB.out.trans (hb2.mono hz)⟩
          · have z1 : ((e : Int) == 11) = true := by simp; omega
            clear he2 he
            go_wp2_with (first | (go_at_call 14; refine HC.out.mono ?_; rintro e w2 ⟨rfl, rfl⟩) | (go_at_call 10; refine (awake_any _).mono ?_; rintro e w2 ⟨rfl, hb2⟩))
            go_ret
            exact ⟨rfl, HB.out.trans (hb2.mono hz)⟩
      · go_wp2_with (go_at_call 10; refine (awake_any _).mono ?_; rintro e w1 ⟨rfl, hb1⟩)
        go_ret
        exact ⟨rfl, HB.out.trans (hb1.mono hz)⟩

end Go.Proofs.Ytplahfhggnkahaa
