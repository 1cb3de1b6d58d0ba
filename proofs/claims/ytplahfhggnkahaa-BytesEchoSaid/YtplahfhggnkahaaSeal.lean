/- bytes.Seal, bytes.Unseal, cooperageref01.Seal, cooperageref01.Unseal: by a table, or none. -/
import Derived.Test.YtplahfhggnkahaaSum
import Derived.Test.YtplahfhggnkahaaCopy
import Derived.Laws.CopyOwn
namespace Go.Proofs.Ytplahfhggnkahaa
open Go.RowKit

/-- The pointer p leads to a table, or nowhere; S is the sum that is made by it. -/
def TP (w : World) (p : Value) (S : List UInt8 → Nat) : Prop :=
  (p = .pointer none ∧ S = fun _ => 0) ∨ ∃ g T, p = .pointer (some ⟨g, 0, none⟩) ∧ P1.Tab T ∧ IsTab w g T ∧ S = P1.sum T
theorem TP.below {w w' : World} {p : Value} {S : List UInt8 → Nat} (h : TP w p S) (hb : Below w.heap.size w w') : TP w' p S := by
  rcases h with h | ⟨g, T, h1, h2, h3, h4⟩
  · exact .inl h
  · exact .inr ⟨g, T, h1, h2, h3.below hb, h4⟩
theorem TP.lt {w : World} {p : Value} {S : List UInt8 → Nat} (h : TP w p S) (l : List UInt8) : S l < 4294967296 := by
  rcases h with ⟨_, rfl⟩ | ⟨g, T, _, _, _, rfl⟩
  · show 0 < 4294967296; omega
  · exact P1.sum_lt T l
theorem TP.form {w : World} {p : Value} {S : List UInt8 → Nat} (h : TP w p S) : ∃ a, p = .pointer a := by
  rcases h with ⟨h, _⟩ | ⟨g, T, h, _⟩ <;> exact ⟨_, h⟩

theorem sum_tp (p : Value) (S : List UInt8 → Nat) (A : Option Addr) (l : List UInt8) (c : Nat) (w : World) (hn : l.length ≤ maxLen) (hp : TP w p S) (hs : Sl w A (u8s l)) :
    Calls Try.prog 12 #[p, .slice A l.length c] w fun e w' => e = .returned (.int .u32 (S l : Int)) ∧ ∃ n, w' = w.drewN n := by
  rcases hp with ⟨rfl, rfl⟩ | ⟨g, T, rfl, h1, h2, rfl⟩
  · exact (sum_nil A l.length c w).mono fun e w' ⟨h, h'⟩ => ⟨h, 0, h'.symm⟩
  · exact sum_any g T A l c w hn h1 h2 hs

theorem refSum_tp (p : Value) (S : List UInt8 → Nat) (A : Option Addr) (l : List UInt8) (c : Nat) (w : World) (hn : l.length ≤ maxLen) (hp : TP w p S) (hs : Sl w A (u8s l)) :
    Calls Try.prog 30 #[p, .slice A l.length c] w fun e w' => e = .returned (.int .u32 (S l : Int)) ∧ w = w' := by
  rcases hp with ⟨rfl, rfl⟩ | ⟨g, T, rfl, h1, h2, rfl⟩
  · exact refSum_nil A l.length c w
  · exact refSum_any g T A l c w hn h1 h2 hs

theorem drewN_below (w : World) (n : Nat) : Below w.heap.size w (w.drewN n) := ⟨rfl, rfl, rfl, Nat.le_refl _, fun _ _ => rfl⟩

set_option maxRecDepth 10000 in
set_option maxHeartbeats 400000 in
theorem seal_any (p : Value) (S : List UInt8 → Nat) (A : Option Addr) (l : List UInt8) (c : Nat) (w : World) (hn : l.length ≤ 70368744177664) (hA : A = none → l.length = 0) (hp : TP w p S) (hs : Sl w A (u8s l)) :
    Calls Try.prog 16 #[p, .slice A l.length c] w (FreshB w (P1.sealed S l)) := by
  have hmk := make_u8 (l.length + 4) (by omega)
  rw [show ((l.length + 4 : Nat) : Int) = (l.length : Int) + 4 from by omega] at hmk
  have hb1 : Below w.heap.size w (w.alloc (.cells (u8s (List.replicate (l.length + 4) 0)).toArray 5)) := (Below.refl _ _).alloc (Nat.le_refl _) _
  have hsum := sum_tp p S A l c _ (by unfold maxLen; omega) (hp.below hb1) (hs.below hb1)
  have hlt := hp.lt l
  generalize hS : S l = s at *
  obtain ⟨a, rfl⟩ := hp.form
  have HS := Lib.hid hS
  have HSUM := Lib.hid hsum
  clear hS hsum hb1
  go_enter Try.func16, Try.ntmps16
  go_wp2_with (go_at_call 12; refine HSUM.out.mono ?_; rintro e w1 ⟨rfl, n, rfl⟩)
  clear hmk
  go_loopw [7, 15] (fun _ i wr => ∃ k : Nat, k ≤ 4 ∧ i = .int .i64 k ∧ Blk wr w.heap.size 5 (u8s (P1.laid4 l.length s k)).toArray ∧ Below w.heap.size w wr) (fun _ i _ => 4 - (intOf i).toNat)
  case atStart => 
    refine ⟨0, by omega, rfl, ?_, (((Below.refl _ _).alloc (Nat.le_refl _) _).trans ((drewN_below _ _).mono (by simp)))⟩
    have := Blk.new w 5 (u8s (P1.laid4 l.length s 0)).toArray
    rw [show P1.laid4 l.length s 0 = List.replicate (l.length + 4) 0 by simp [P1.laid4, P1.be4]] at this ⊢
    exact this.drewN n
  case round =>
    obtain ⟨k, hk, rfl, hbk, hb⟩ := hrel
    have HBK := Lib.hid hbk
    have HB := Lib.hid hb
    clear hb
    by_cases hlt4 : k < 4
    · have hlen := P1.laid4_len l.length s k hk
      have hcell := hbk.cell (l.length + 3 - k)
      have hl8 : (u8s (P1.laid4 l.length s k)).toArray[l.length + 3 - k]? = some (.int .u8 (((P1.laid4 l.length s k)[l.length + 3 - k]'(by omega)).toNat : Int)) := by rw [List.getElem?_toArray]; exact u8s_get (by omega)
      rw [hl8] at hcell
      generalize ((P1.laid4 l.length s k)[l.length + 3 - k]'(by omega)).toNat = old at hcell
      have hfree := hbk.free (l.length + 3 - k)
      have HT := Lib.hid (P1.laid4_step l.length s k hlt4)
      have HV := Lib.hid (P1.byte_word s k)
      clear hbk hl8 hlen
      go_wp2
      go_roundw
      case rel =>
        refine ⟨k + 1, by omega, by go_num, ?_, HB.out.setCell (by simp) _⟩
        rw [← HV.out, ← HT.out, ← u8s_set]
        exact HBK.out.set_ _ _
      case measure => simp [intOf]; omega
    · obtain rfl : k = 4 := by omega
      clear hbk
      have hsz := HB.out.size
      have hsl := hs.below HB.out
      have hcur := HBK.out
      rw [P1.laid4_end] at hcur
      have HC := Lib.hid hcur
      clear hcur HBK
      have hsrc : 0 < (u8s l).length → (some ⟨w.heap.size, 0, none⟩ : Option Addr) = some ⟨w.heap.size, 0, none⟩ ∧ ∃ ad, A = some ad ∧ ∀ j v, (u8s l)[j]? = some v → wr.cell? (ad.add j) = some v := by
        intro hpos
        cases A with
        | none => rw [u8s_length, hA rfl] at hpos; omega
        | some ad => exact ⟨rfl, ad, rfl, hsl.cells⟩
      have HSRC := Lib.hid hsrc
      clear hsrc
      go_wp2_with ((refine wpList_copy_splice rfl (.tmp 32) (.tmp 33) 22 22 rfl 5 Try.underlying22 info1_u8 (some ⟨w.heap.size, 0, none⟩) A (l.length + 4) (l.length + 4) l.length c rfl rfl w.heap.size 0 _ 5 HC.out (u8s l) (by rw [u8s_length]; exact (Nat.min_eq_left (by omega)).symm) HSRC.out (by simp [u8s, P1.be4]) (u8s_one l) w.heap.size w HB.out (Nat.le_refl _) ?_); intro w3 h3 hb3)
      have hfin : OwnB w3 w.heap.size (.slice (some ⟨w.heap.size, 0, none⟩) (P1.sealed S l).length (P1.sealed S l).length) (P1.sealed S l) := by
        refine OwnB.of_blk ?_ (Nat.le_refl _) (by simp [P1.sealed, P1.be4, maxLen]; omega)
        have := h3.out
        unfold Blk
        rw [this]
        congr 2
        rw [P1.sealed, HS.out]
        simp [splice, u8s]
      have hfl : (P1.sealed S l).length = l.length + 4 := by simp [P1.sealed, P1.be4]
      rw [hfl] at hfin
      have HF := Lib.hid hfin
      have HL := Lib.hid hfl
      clear hfin hfl h3
      go_wp2
      go_ret
      exact ⟨_, _, retS HL.out.symm, by rw [HL.out]; exact HF.out, hb3⟩

end Go.Proofs.Ytplahfhggnkahaa
