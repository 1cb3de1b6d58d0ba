/- An argument []uint16 opened to a list of numbers. -/
import Derived.Test.YtplahfhggnkahaaLaw
import Derived.Test.YtplahfhggnkahaaWords3
namespace Go.Proofs.Ytplahfhggnkahaa
open Go.ChangeShapes Go.WideShapes Go.ChangeAt Go.RowKit

theorem open_u16s {H : Type} {enc : TypeId × Value → H} {W : World} {v : Value} {d : DataW H} {p : List MemPlace} (hv : Value.okWide Try.prog W .any 0 23 v ∨ ∃ base, Value.okWide Try.prog W .any base 23 v)
    (h : DataW.Trod enc Try.prog W 0 (fun _ => true) true 23 v d p) :
    ∃ (A : Option Addr) (l : List Nat) (c : Nat), v = .slice A l.length c ∧ l.length ≤ c ∧ c ≤ maxLen ∧ (A = none → l.length = 0) ∧ Sl W A (u16s l) := by
  have hv' : ∃ base, Value.okWide Try.prog W .any base 23 v := hv.elim (fun h => ⟨0, h⟩) id
  obtain ⟨base, hv'⟩ := hv'
  obtain ⟨A, len, cap, rfl⟩ := okWide_slice Try.underlying23 hv'
  obtain ⟨fuel, hf⟩ := h
  have hf' : DataW.trod enc Try.prog W 0 (fun _ => true) true fuel 23 [.slice A len cap] = some (d, p) := by simpa [Value.cells] using hf
  rcases open_ints Try.underlying23 Try.underlying29 (by kernel_rfl) hf' with ⟨hcs, _⟩ | ⟨a, len', cap', zs, hcs, _, hl, hm, hz, _, hc, hwf⟩
  · simp only [List.cons.injEq, Value.slice.injEq, and_true] at hcs
    obtain ⟨rfl, rfl, rfl⟩ := hcs
    exact ⟨none, [], 0, rfl, by simp, by unfold maxLen; omega, fun _ => rfl, Sl.nil _ _⟩
  · simp only [List.cons.injEq, Value.slice.injEq, and_true] at hcs
    obtain ⟨rfl, rfl, rfl⟩ := hcs
    simp only [if_true] at hz
    have hlen : ((zs.take len).map fun n => n.toNat).length = len := by simp; omega
    refine ⟨some a, (zs.take len).map (fun n => n.toNat), cap, by rw [hlen], by rw [hlen]; exact hl, hm, (fun h => by cases h), ?_⟩
    rcases Nat.eq_zero_or_pos zs.length with h0 | h0
    · have : zs = [] := List.eq_nil_of_length_eq_zero h0
      subst this
      simp only [List.take_nil, List.map_nil]
      exact Sl.nil _ _
    · obtain ⟨b, off, rfl, hcell⟩ := ints_at hc h0
      intro j u hj
      refine ⟨b, off, rfl, ?_⟩
      have hjl : j < len := by
        have := (List.getElem?_eq_some_iff.1 hj).1
        rw [u16s_length, hlen] at this
        exact this
      rw [hcell j (by omega), ← hj]
      have hzj : zs[j]? = some (zs[j]'(by omega)) := List.getElem?_eq_getElem (by omega)
      have hw := hwf _ (List.getElem_mem (show j < zs.length by omega))
      have hbd : 0 ≤ zs[j]'(by omega) ∧ zs[j]'(by omega) ≤ 65535 := by simpa [Lit.wf, IntKind.min, IntKind.max, IntKind.signed, IntKind.bits] using hw
      simp only [u16s, List.map_map, List.getElem?_map, List.getElem?_take_of_lt hjl, hzj, Option.map_some, Function.comp, List.getD_eq_getElem?_getD, Option.getD_some]
      congr 2
      omega

end Go.Proofs.Ytplahfhggnkahaa
