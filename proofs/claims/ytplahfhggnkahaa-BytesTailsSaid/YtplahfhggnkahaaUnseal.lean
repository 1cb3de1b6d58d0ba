/- bytes.Unseal, cooperageref01.Seal, cooperageref01.Unseal. -/
import Derived.Test.YtplahfhggnkahaaSeal
import Derived.Deep.RegionWith
namespace Go.Proofs.Ytplahfhggnkahaa
open Go.RowKit

/-- A list and an error. -/
def TellsU (w : World) (r : List UInt8 × Nat) (e : Ending) (w' : World) : Prop :=
  ∃ A c, e = .returned (.tuple #[.slice A r.1.length c, .int .i64 (r.2 : Int)]) ∧ Sl w' A (u8s r.1) ∧ (A = none → r.1.length = 0) ∧ Below w.heap.size w w'

/-- The same, with the length within the capacity. -/
def TellsUc (w : World) (r : List UInt8 × Nat) (e : Ending) (w' : World) : Prop :=
  ∃ A c, e = .returned (.tuple #[.slice A r.1.length c, .int .i64 (r.2 : Int)]) ∧ Sl w' A (u8s r.1) ∧ (A = none → r.1.length = 0) ∧ r.1.length ≤ c ∧ Below w.heap.size w w'

theorem TellsUc.u {w w' : World} {r : List UInt8 × Nat} {e : Ending} (h : TellsUc w r e w') : TellsU w r e w' := by
  obtain ⟨A, c, h1, h2, h3, _, h5⟩ := h
  exact ⟨A, c, h1, h2, h3, h5⟩

theorem TellsUc.none_ {w w' : World} {r : List UInt8 × Nat} {e : Nat} {b : Int} {v : Ending} (hr : r = ([], e)) (hb : b = (e : Int)) (hv : v = .returned (.tuple #[.slice none 0 0, .int .i64 b])) (hw : Below w.heap.size w w') : TellsUc w r v w' := by
  subst hr hb hv
  exact ⟨none, 0, rfl, Sl.nil _ _, fun _ => rfl, Nat.le_refl _, hw⟩

theorem OwnB.cap {w : World} {base c : Nat} {A : Option Addr} {l : List UInt8} (h : OwnB w base (.slice A l.length c) l) : l.length ≤ c := by
  obtain ⟨A', c', e, h1, _⟩ := h.form
  injection e with _ _ e
  omega

theorem ret2s {A : Option Addr} {n n' c : Nat} {kb : IntKind} {b b' : Int} (h1 : n = n') (h2 : b = b') :
    Ending.returned (.tuple #[.slice A n c, .int kb b]) = .returned (.tuple #[.slice A n' c, .int kb b']) := by rw [h1, h2]

theorem TellsU.none_ {w w' : World} {r : List UInt8 × Nat} {e : Nat} {b : Int} {v : Ending} (hr : r = ([], e)) (hb : b = (e : Int)) (hv : v = .returned (.tuple #[.slice none 0 0, .int .i64 b])) (hw : Below w.heap.size w w') : TellsU w r v w' := by
  subst hr hb hv
  exact ⟨none, 0, rfl, Sl.nil _ _, fun _ => rfl, hw⟩

set_option maxRecDepth 10000 in
set_option maxHeartbeats 1000000 in
theorem unseal_own (p : Value) (S : List UInt8 → Nat) (A : Option Addr) (l : List UInt8) (c : Nat) (w : World) (hn : l.length ≤ 70368744177664) (hc : l.length ≤ c) (hA : A = none → l.length = 0) (hp : TP w p S) (hs : Sl w A (u8s l)) :
    Calls Try.prog 19 #[p, .slice A l.length c] w (TellsUc w (P1.unsealed S l)) := by
  obtain ⟨a, rfl⟩ := hp.form
  by_cases h4 : l.length < 4
  · have HR := Lib.hid (P1.unsealed_short S h4)
    go_enter Try.func19, Try.ntmps19
    go_wp2
    go_ret2
    exact TellsUc.none_ HR.out rfl rfl (Below.refl _ _)
  · have hln : (l.take (l.length - 4)).length = l.length - 4 := by rw [List.length_take]; omega
    have hsl := hs.take_ (l.length - 4)
    rw [← u8s_take] at hsl
    have hU := P1.unsealed_is S (l := l) (by omega)
    obtain ⟨L, hL⟩ : ∃ L, L = l.take (l.length - 4) := ⟨_, rfl⟩
    rw [← hL] at hln hsl hU
    have hA' : A ≠ none := fun h => by have := hA h; omega
    have hcl := clone_any A L c w (by omega) (fun h => absurd h hA') hsl
    rw [hln] at hcl
    have HCL := Lib.hid hcl
    have HLN := Lib.hid hln
    have HU := Lib.hid hU
    clear hL hcl hln hsl hU
    have h5 : (4 : Int) ≤ (l.length : Int) := by omega
    by_cases heq : P1.sealed S L = l
    · have z : (P1.sealed S L == l) = true := by simp [heq]
      have HR := Lib.hid (HU.out.trans (if_pos heq))
      clear heq
      go_enter Try.func19, Try.ntmps19
      go_wp2_with (go_at_call 36; refine HCL.out.mono ?_; rintro e w1 ⟨A1, c1, rfl, ho1, hb1⟩; have hseal := seal_any (.pointer a) S A1 L c1 w1.drew (by rw [HLN.out]; omega) ho1.none_ ((hp.below hb1).below (drewN_below _ 1)) ho1.sl; have hs1 : Sl w1.drew A (u8s l) := (hs.below hb1).drewN 1; have hcb := toStr c hs1 hA; have HSE := Lib.hid hseal; have HB := Lib.hid (hb1.drew); have hn1 := ho1.none_; have HCAP := Lib.hid ho1.cap; have HN1 := Lib.hid hn1; have hz1 : w.heap.size ≤ w1.drew.heap.size := hb1.size; have hin : Sl w1.drew A1 (u8s L) := ho1.sl; clear hseal ho1 hb1 hn1)
      go_region_with (go_at_call 16; ((refine HSE.out.mono ?_); (rintro e w2 ⟨A2, c2, rfl, ho2, hb2⟩); have hcs := toStr c2 ho2.sl ho2.none_; have hcb2 := toStr c (hs1.below hb2) hA; have HS2 := Lib.hid (hin.below hb2); have HB2 := Lib.hid (HB.out.trans (hb2.mono hz1)); clear ho2 hb2))
      all_goals
        go_wp2
        go_ret2
        unfold TellsUc
        rw [HR.out]
        exact ⟨A1, c1, ret2s rfl rfl, HS2.out, HN1.out, HCAP.out, HB2.out⟩
    · have z : (P1.sealed S L == l) = false := by simp [heq]
      have HR := Lib.hid (HU.out.trans (if_neg heq))
      clear heq
      go_enter Try.func19, Try.ntmps19
      go_wp2_with (go_at_call 36; refine HCL.out.mono ?_; rintro e w1 ⟨A1, c1, rfl, ho1, hb1⟩; have hseal := seal_any (.pointer a) S A1 L c1 w1.drew (by rw [HLN.out]; omega) ho1.none_ ((hp.below hb1).below (drewN_below _ 1)) ho1.sl; have hs1 : Sl w1.drew A (u8s l) := (hs.below hb1).drewN 1; have hcb := toStr c hs1 hA; have HSE := Lib.hid hseal; have HB := Lib.hid (hb1.drew); have hn1 := ho1.none_; have HCAP := Lib.hid ho1.cap; have HN1 := Lib.hid hn1; have hz1 : w.heap.size ≤ w1.drew.heap.size := hb1.size; have hin : Sl w1.drew A1 (u8s L) := ho1.sl; clear hseal ho1 hb1 hn1)
      go_region_with (go_at_call 16; ((refine HSE.out.mono ?_); (rintro e w2 ⟨A2, c2, rfl, ho2, hb2⟩); have hcs := toStr c2 ho2.sl ho2.none_; have hcb2 := toStr c (hs1.below hb2) hA; have HS2 := Lib.hid (hin.below hb2); have HB2 := Lib.hid (HB.out.trans (hb2.mono hz1)); clear ho2 hb2))
      all_goals
        go_wp2
        go_ret2
        exact TellsUc.none_ HR.out rfl rfl HB2.out

theorem unseal_any (p : Value) (S : List UInt8 → Nat) (A : Option Addr) (l : List UInt8) (c : Nat) (w : World) (hn : l.length ≤ 70368744177664) (hc : l.length ≤ c) (hA : A = none → l.length = 0) (hp : TP w p S) (hs : Sl w A (u8s l)) :
    Calls Try.prog 19 #[p, .slice A l.length c] w (TellsU w (P1.unsealed S l)) :=
  (unseal_own p S A l c w hn hc hA hp hs).mono fun _ _ h => h.u

end Go.Proofs.Ytplahfhggnkahaa
