/- Copies of bytes: cooperagelow.CopyBytes, slices.Clone, cooperageref01.joined. -/
import Derived.Test.YtplahfhggnkahaaWords
import Derived.WalkSpells
import Derived.WalkLawsBesides
import Derived.Lib.Hide
namespace Go.Proofs.Ytplahfhggnkahaa
open Go.RowKit

set_option maxHeartbeats 400000 in
theorem copyBytes_any (A : Option Addr) (l : List UInt8) (c : Nat) (w : World) (hn : l.length ≤ 140737488355328) (hA : A = none → l.length = 0) (hs : Sl w A (u8s l)) :
    Calls Try.prog 18 #[.slice A l.length c] w (FreshB w l) := by
  go_enter Try.func18, Try.ntmps18
  go_wp2_with (at_builtin; refine app_u8 _ rfl (.tmp 4) (.tmp 5) rfl w.heap.size (.slice none 0 0) [] rfl (OwnB.nil _ _) A l.length c l rfl rfl hA hs (by simpa using hn) (Nat.le_refl _) ?_; intro v1 w1 ho1 hg1)
  go_ret
  obtain ⟨A1, c1, rfl, _, _⟩ := ho1.form
  exact ⟨A1, c1, rfl, ho1, hg1.below (Below.refl _ _) (Nat.le_refl _) (by simp [Value.ownBlock])⟩

set_option maxHeartbeats 400000 in
theorem clone_any (A : Option Addr) (l : List UInt8) (c : Nat) (w : World) (hn : l.length ≤ 140737488355328) (hA : A = none → l.length = 0) (hs : Sl w A (u8s l)) :
    Calls Try.prog 36 #[.slice A l.length c] w (FreshB w l) := by
  have h0 := fun (W : World) (n c : Nat) => Lib.run_eql_slice_nil (P := Try.prog) W 22 5 A n c 0 0 Try.underlying22
  rcases A with _ | a
  · have hl : l = [] := List.eq_nil_of_length_eq_zero (hA rfl)
    subst hl
    go_enter Try.func36, Try.ntmps36
    go_wp2
    go_ret
    exact ⟨none, 0, rfl, OwnB.nil _ _, Below.refl _ _⟩
  · go_enter Try.func36, Try.ntmps36
    go_wp2_with (at_builtin; refine app_u8 _ rfl (.tmp 5) (.tmp 6) rfl w.heap.size (.slice (some ⟨w.heap.size, 0, none⟩) 0 0) [] rfl (OwnB.new w) (some a) l.length c l rfl rfl hA (hs.below ((Below.refl _ _).alloc (Nat.le_refl _) _)) (by simpa using hn) (by simp) ?_; intro v1 w1 ho1 hg1)
    go_ret
    obtain ⟨A1, c1, rfl, _, _⟩ := ho1.form
    exact ⟨A1, c1, rfl, ho1, hg1.below ((Below.refl _ _).alloc (Nat.le_refl _) _) (by simp) (by simp [Value.ownBlock])⟩

set_option maxHeartbeats 400000 in
theorem joined_any (A B : Option Addr) (l r : List UInt8) (c d : Nat) (w : World) (hA : A = none → l.length = 0) (hs : Sl w A (u8s l)) (hB : B = none → r.length = 0) (hr : Sl w B (u8s r)) (hn : l.length + r.length ≤ 140737488355328) :
    Calls Try.prog 38 #[.slice A l.length c, .slice B r.length d] w (FreshS w (l ++ r)) := by
  have h1 := toStr c hs hA
  have h2 := toStr d hr hB
  obtain ⟨A', c', w', h3, h4, h5, h6⟩ := ofStr w (⟨l.toArray⟩ ++ ⟨r.toArray⟩) (l ++ r) (by simp)
  have H4 := Lib.hid h4
  have H5 := Lib.hid h5
  have H6 := Lib.hid h6
  clear h4 h5 h6
  go_enter Try.func38, Try.ntmps38
  go_wp2
  go_ret
  exact ⟨A', c', ret1 (by rw [List.length_append]; rfl), H4.out, H5.out, H6.out⟩

end Go.Proofs.Ytplahfhggnkahaa
