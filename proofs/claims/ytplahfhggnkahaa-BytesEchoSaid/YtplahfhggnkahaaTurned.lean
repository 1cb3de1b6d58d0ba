/- cooperagelaw01.turned: bytes, some bits of them turned. -/
import Derived.Test.YtplahfhggnkahaaCopy
import Derived.Test.YtplahfhggnkahaaWords2
import Derived.Test.YtplahfhggnkahaaPlain05
import Derived.RegionTactic
import Derived.ChangeAlike
import Derived.WalkSpells
import Derived.WalkLawsBesides
import Derived.Lib.Hide
namespace Go.Proofs.Ytplahfhggnkahaa
open Go.RowKit

def u16s (l : List Nat) : List Value := l.map fun k : Nat => Value.int .u16 (k : Int)
theorem u16s_get {l : List Nat} {j : Nat} (hj : j < l.length) : (u16s l)[j]? = some (.int .u16 (l[j] : Int)) := by simp [u16s, hj]

theorem OwnB.at_ {w : World} {base c : Nat} {A : Option Addr} {l : List UInt8} (h : OwnB w base (.slice A l.length c) l) (hl : 0 < l.length) :
    ∃ g, A = some ⟨g, 0, none⟩ ∧ base ≤ g ∧ (∀ j (hj : j < l.length), w.cell? ⟨g, j, none⟩ = some (.int .u8 (l[j].toNat : Int))) ∧ (∀ j, w.frozen? ⟨g, j, none⟩ = false) ∧
      ∀ j (b : UInt8), OwnB (w.setCell ⟨g, j, none⟩ (.int .u8 (b.toNat : Int))) base (.slice A l.length c) (l.set j b) := by
  have hA := h.none_
  rcases h.2 with ⟨_, h0⟩ | ⟨g, cap, cur, hv, hb, _⟩
  · omega
  · injection hv with a1 a2 a3
    subst a1
    refine ⟨g, rfl, hb, fun j hj => ?_, fun j => World.ownsRow.frozenAt h j, fun j b => ?_⟩
    · rw [World.ownsRow.cellAt h j (by omega)]
      exact u8s_get hj
    · have := (World.ownsRow.stored h j (.int .u8 (b.toNat : Int))).1
      unfold OwnB
      rw [List.length_set, show u8s (l.set j b) = (u8s l).set j (.int .u8 (b.toNat : Int)) by simp [u8s, u8, List.map_set]]
      exact this

theorem flip_word (old : UInt8) (e : Nat) : bits .xor .u8 (old.toNat : Int) ((2 : Int) ^ e % 256) = ((old ^^^ UInt8.ofNat (2 ^ e)).toNat : Int) := by
  have h := u8_xor_nat old.toNat (2 ^ e % 256) (UInt8.toNat_lt old) (Nat.mod_lt _ (by omega))
  rw [UInt8.toNat_xor, UInt8.toNat_ofNat', ← h, Int.natCast_emod, Int.natCast_pow]
  rfl

set_option maxRecDepth 100000 in
set_option maxHeartbeats 1000000 in
theorem turned_any (A B : Option Addr) (l : List UInt8) (ks : List Nat) (c d : Nat) (w : World) (hl : 0 < l.length) (hn : l.length ≤ 1048576) (hk : ks.length ≤ maxLen) (hku : ∀ k ∈ ks, k < 65536)
    (hA : A = none → l.length = 0) (hs : Sl w A (u8s l)) (hks : Sl w B (u16s ks)) :
    Calls Try.prog 13 #[.slice A l.length c, .slice B ks.length d] w (FreshB w (P1.turned l ks)) := by
  unfold maxLen at hk
  have hl140 : l.length ≤ 140737488355328 := by omega
  go_enter Try.func13, Try.ntmps13
  go_wp2_with (go_at_call 18; refine (copyBytes_any A l c w hl140 hA hs).mono ?_; rintro e w1 ⟨A1, c1, rfl, ho1, hb1⟩)
  obtain ⟨g, rfl, hbg, _⟩ := ho1.at_ hl
  have HO := Lib.hid ho1
  have HB := Lib.hid hb1
  clear ho1 hb1
  go_loopw [7, 8, 13] (fun _ _ i wr => ∃ k : Nat, k ≤ ks.length ∧ i = .int .i64 k ∧ OwnB wr w.heap.size (.slice (some ⟨g, 0, none⟩) l.length c1) (P1.turned l (ks.take k)) ∧ Below w.heap.size w wr) (fun _ _ i _ => ks.length - (intOf i).toNat)
  case atStart => exact ⟨0, Nat.zero_le _, rfl, HO.out, HB.out⟩
  case round =>
    obtain ⟨k, hkl, rfl, ho, hb⟩ := hrel
    clear HO HB
    have HB := Lib.hid hb
    have hlen := P1.turned_len (ks.take k) l
    by_cases hlt : k < ks.length
    · obtain ⟨b, off, rfl, _, hcb⟩ := (hks.below hb).at_ (u16s_get hlt)
      have hsn : ks.take (k + 1) = ks.take k ++ [ks[k]] := List.take_succ_eq_append_getElem hlt
      have hts := P1.turned_snoc l (ks.take k) ks[k]
      rw [← hsn] at hts
      have hk16 := hku _ (List.getElem_mem hlt)
      generalize ks[k] = q at *
      obtain ⟨L, hL⟩ : ∃ L, L = P1.turned l (ks.take k) := ⟨_, rfl⟩
      rw [← hL] at ho hlen hts
      have ho' : OwnB wr w.heap.size (.slice (some ⟨g, 0, none⟩) L.length c1) L := by rw [hlen]; exact ho
      obtain ⟨g', e1, _, hcell, hfree, hset⟩ := ho'.at_ (by omega)
      injection e1 with e1
      injection e1 with e1
      subst e1
      obtain ⟨i, hi⟩ : ∃ i, i = q % (8 * l.length) := ⟨_, rfl⟩
      have hil : i < 8 * l.length := by rw [hi]; exact Nat.mod_lt _ (by omega)
      have hie : (q : Int) % (8 * (l.length : Int)) = (i : Int) := by rw [hi, Int.natCast_emod, Int.natCast_mul]; rfl
      have hj : l.length - 1 - i / 8 < L.length := by omega
      have hc := hcell _ hj
      have hf := hfree (l.length - 1 - i / 8)
      have HTS := Lib.hid hts
      have HL := Lib.hid hL
      have HLEN := Lib.hid hlen
      have HI := Lib.hid hi
      have HSET := Lib.hid hset
      clear hts hL hlen hi hset hcell hfree ho ho' hb hsn hks hs
      generalize hold : (L[l.length - 1 - i / 8]'hj) = old at hc
      go_wp2
      go_region
      all_goals
        go_wp2
        go_roundw
        case rel =>
          refine ⟨k + 1, by omega, by go_num, ?_, (HB.out.setCell (p := ⟨g, l.length - 1 - i / 8, none⟩) (by assumption) _).drew⟩
          have hfl : P1.turned l (ks.take (k + 1)) = L.set (l.length - 1 - i / 8) (old ^^^ UInt8.ofNat (2 ^ (i % 8))) := by
            rw [HTS.out, ← HI.out]
            unfold P1.flip
            rw [HLEN.out, ← hold]
            congr 2
            rw [List.getD_eq_getElem?_getD, List.getElem?_eq_getElem hj]
            rfl
          have := HSET.out (l.length - 1 - i / 8) (old ^^^ UInt8.ofNat (2 ^ (i % 8)))
          rw [← flip_word, ← hfl, HLEN.out] at this
          exact this
        case measure => simp [intOf]; omega
    · obtain rfl : k = ks.length := by omega
      rw [List.take_length] at ho
      have HO := Lib.hid ho
      have HLEN := Lib.hid (P1.turned_len ks l)
      clear ho hb hlen
      go_wp2
      go_ret
      exact ⟨_, _, retS HLEN.out.symm, by rw [HLEN.out]; exact HO.out, HB.out⟩

end Go.Proofs.Ytplahfhggnkahaa
