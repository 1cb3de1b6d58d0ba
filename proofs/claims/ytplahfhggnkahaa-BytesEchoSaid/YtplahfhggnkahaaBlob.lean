/- bytes.Blob, cooperageref01.Uint, cooperageref01.Blob: what is sent. -/
import Derived.Test.YtplahfhggnkahaaUint
import Derived.Test.YtplahfhggnkahaaConcat
namespace Go.Proofs.Ytplahfhggnkahaa
open Go.RowKit

set_option maxRecDepth 10000 in
set_option maxHeartbeats 400000 in
theorem blob_any (base : Nat) (v : Value) (l r : List UInt8) (B : Option Addr) (c : Nat) (w : World) (hl : l.length ≤ 35184372088832) (hr : r.length ≤ 35184372088832) (hb : base ≤ w.heap.size) (ho : OwnB w base v l)
    (hB : B = none → r.length = 0) (hs : Sl w B (u8s r)) (hap : Apart v B) :
    Calls Try.prog 26 #[v, .slice B r.length c] w fun e w' => ∃ v', e = .returned v' ∧ OwnB w' base v' (l ++ P1.varint r.length ++ r) ∧ Grew 1 w w' v v' := by
  have h10 := P1.varint_len10 (n := r.length) (by omega)
  go_enter Try.func26, Try.ntmps26
  go_wp2_with (go_at_call 15; refine (uint_any base v l r.length _ (by omega) (by omega) hb ho).mono ?_; rintro e w1 ⟨v1, rfl, ho1, hg1⟩; obtain ⟨A1, c1, rfl, _, _⟩ := ho1.form; have HG := Lib.hid hg1; have HO := Lib.hid ho1; clear hg1 ho1)
  have hz := HG.out.by_.size
  have hB1 : Below w1.heap.size w1 (w1.alloc (.cells #[.slice A1 (l ++ P1.varint r.length).length c1, .slice B r.length c] 22)) := (Below.refl _ _).alloc (Nat.le_refl _) _
  rw [List.length_append] at hB1
  refine (concat_any (some ⟨w1.heap.size, 0, none⟩) 2 [(A1, c1, l ++ P1.varint r.length), (B, c, r)] _ ?_ ?_ (by simp [plen]; omega) (by simp [maxLen])).mono ?_
  · intro j u hj
    refine ⟨_, 0, rfl, ?_⟩
    match j, hj with
    | 0, hj =>
      simp [pv] at hj
      subst hj
      simp
    | 1, hj =>
      simp [pv] at hj
      subst hj
      simp
  · intro p hp
    rcases List.mem_cons.1 hp with rfl | hp
    · exact ⟨HO.out.sl.below hB1, HO.out.none_⟩
    · rcases List.mem_cons.1 hp with rfl | hp
      · exact ⟨(hs.grew hap HG.out).below hB1, hB⟩
      · cases hp
  · rintro e w2 ⟨A2, c2, rfl, ho2, hb2⟩
    have hpos : A2 ≠ none := by
      intro h
      have := OwnB.none_ (by rw [h] at ho2; exact ho2) rfl
      simp [pall] at this
      have h1 := P1.varint_pos r.length
      rw [this.2.1] at h1
      simp at h1
    have hb3 : Below w1.heap.size w1 w2 := hB1.trans (hb2.mono (by simp))
    have ho3 : OwnB w2 (w1.heap.size + 1) (.slice A2 (pall [(A1, c1, l ++ P1.varint r.length), (B, c, r)]).length c2) (l ++ P1.varint r.length ++ r) := by
      have := ho2
      simp only [pall, List.flatMap_cons, List.flatMap_nil, List.append_nil, World.size_alloc] at this ⊢
      exact this
    have HG3 := Lib.hid (HG.out.then_below hb3 (own_goes (h := w.heap.size) ho3 (by omega) (by intro h; injection h with h; exact hpos h)))
    have HO3 := Lib.hid (ho3.mono (base' := base) (by omega))
    clear ho2 hb2 hb3 ho3 hB1
    go_wp2
    go_ret
    exact ⟨_, rfl, HO3.out, HG3.out⟩


set_option maxRecDepth 10000 in
set_option maxHeartbeats 400000 in
theorem refUint_any (A : Option Addr) (l : List UInt8) (c : Nat) (n : Nat) (w : World) (hn : n < 18446744073709551616) (hl : l.length ≤ 70368744177664) (hA : A = none → l.length = 0) (hs : Sl w A (u8s l)) :
    Calls Try.prog 25 #[.slice A l.length c, .int .u64 n] w (FreshS w (l ++ P1.varint n)) := by
  have h10 := P1.varint_len10 hn
  go_enter Try.func25, Try.ntmps25
  go_wp2_with (go_at_call 39; refine (varint_any n _ hn).mono ?_; rintro e w1 ⟨A1, c1, rfl, ho1, hb1⟩; have HB := Lib.hid hb1; have HO := Lib.hid ho1; clear hb1 ho1)
  refine (joined_any A A1 l _ c c1 w1 hA (hs.below HB.out) HO.out.none_ HO.out.sl (by omega)).mono ?_
  rintro e w2 ⟨A2, c2, rfl, hs2, hn2, hb2⟩
  go_wp2
  go_ret
  exact ⟨A2, c2, retS (by simp), hs2, hn2, HB.out.trans (hb2.mono HB.out.size)⟩

set_option maxRecDepth 10000 in
set_option maxHeartbeats 400000 in
theorem refBlob_any (A B : Option Addr) (l r : List UInt8) (c d : Nat) (w : World) (hl : l.length ≤ 35184372088832) (hr : r.length ≤ 35184372088832) (hA : A = none → l.length = 0) (hs : Sl w A (u8s l))
    (hB : B = none → r.length = 0) (hsr : Sl w B (u8s r)) :
    Calls Try.prog 27 #[.slice A l.length c, .slice B r.length d] w (FreshS w (l ++ P1.varint r.length ++ r)) := by
  have h10 := P1.varint_len10 (n := r.length) (by omega)
  go_enter Try.func27, Try.ntmps27
  go_wp2_with (go_at_call 25; refine (refUint_any A l c r.length _ (by omega) (by omega) hA hs).mono ?_; rintro e w1 ⟨A1, c1, rfl, hs1, hn1, hb1⟩; have hL2 : (l ++ P1.varint r.length).length ≤ l.length + 10 := (by simp; omega); generalize hL : l ++ P1.varint r.length = L at *; have HL := Lib.hid hL; clear hL; have HB := Lib.hid hb1; have HS := Lib.hid hs1; have HN := Lib.hid hn1; clear hb1 hs1 hn1)
  refine (joined_any A1 B L r c1 d w1 HN.out HS.out hB (hsr.below HB.out) (by omega)).mono ?_
  rintro e w2 ⟨A2, c2, rfl, hs2, hn2, hb2⟩
  go_wp2
  go_ret
  exact ⟨A2, c2, retS (by simp), hs2, hn2, HB.out.trans (hb2.mono HB.out.size)⟩

end Go.Proofs.Ytplahfhggnkahaa
