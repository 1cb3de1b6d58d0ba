/- Slices of bytes over this seat's translation: rows of the call's own, append, fresh answers. -/
import Derived.Test.YtplahfhggnkahaaProg
import Derived.Test.YtplahfhggnkahaaBase
import Derived.WalkKit
import Derived.WalkSpells
import Derived.WalkLawsBesides
import Derived.Laws.IdiomStrings
import Derived.Laws.BytesArg
namespace Go.Proofs.Ytplahfhggnkahaa
open Go.RowKit

theorem info_u8 : (Try.prog.info? 5).map (fun i => (i.zero, i.size, i.bytes)) = some (some (.int .u8 0), 1, 1) := by kernel_rfl

theorem info1_u8 : (Try.prog.info? 5).map (·.size) = some 1 := by kernel_rfl

/-- A row of the call's own that holds the bytes l. -/
def OwnB (w : World) (base : Nat) (v : Value) (l : List UInt8) : Prop := w.ownsRow base 5 1 v l.length (u8s l)

theorem OwnB.nil (w : World) (base : Nat) : OwnB w base (.slice none 0 0) [] := World.ownsRow_nil w base _ 1
theorem OwnB.sl {w : World} {base c : Nat} {A : Option Addr} {l : List UInt8} (h : OwnB w base (.slice A l.length c) l) : Sl w A (u8s l) := Sl.of_own h
theorem OwnB.none_ {w : World} {base c : Nat} {A : Option Addr} {l : List UInt8} (h : OwnB w base (.slice A l.length c) l) : A = none → l.length = 0 := own_none h
theorem OwnB.form {w : World} {base : Nat} {v : Value} {l : List UInt8} (h : OwnB w base v l) : ∃ A c, v = .slice A l.length c ∧ l.length ≤ c ∧ c ≤ maxLen := own_form h
theorem OwnB.mono {w : World} {base base' : Nat} {v : Value} {l : List UInt8} (h : OwnB w base v l) (hb : base' ≤ base) : OwnB w base' v l := own_mono h hb
theorem OwnB.below {w w' : World} {base : Nat} {v : Value} {l : List UInt8} (h : OwnB w base v l) (hb : Below w.heap.size w w') : OwnB w' base v l := own_below h hb
theorem OwnB.grew {w w' : World} {base : Nat} {v v' : Value} {l : List UInt8} (h : OwnB w base v l) (hg : Grew 1 w w' v v') : OwnB w' base v l := hg.own h
theorem OwnB.alloc {w : World} {base : Nat} {v : Value} {l : List UInt8} (h : OwnB w base v l) (o : Obj) : OwnB (w.alloc o) base v l := World.ownsRow.alloc h o
theorem OwnB.drewN {w : World} {base : Nat} {v : Value} {l : List UInt8} (h : OwnB w base v l) (n : Nat) : OwnB (w.drewN n) base v l := h

/-- The answer is a list of bytes in memory of its own; nothing that was there has turned. -/
def FreshB (w : World) (l : List UInt8) (e : Ending) (w' : World) : Prop :=
  ∃ A c, e = .returned (.slice A l.length c) ∧ OwnB w' w.heap.size (.slice A l.length c) l ∧ Below w.heap.size w w'

/-- The answer is a list of bytes that may be read; nothing that was there has turned. -/
def FreshS (w : World) (l : List UInt8) (e : Ending) (w' : World) : Prop :=
  ∃ A c, e = .returned (.slice A l.length c) ∧ Sl w' A (u8s l) ∧ (A = none → l.length = 0) ∧ Below w.heap.size w w'

theorem FreshB.s {w w' : World} {l : List UInt8} {e : Ending} (h : FreshB w l e w') : FreshS w l e w' := by
  obtain ⟨A, c, he, ho, hb⟩ := h
  exact ⟨A, c, he, ho.sl, ho.none_, hb⟩

/-- 'string(b)'. -/
theorem toStr {w : World} {A : Option Addr} {l : List UInt8} (c : Nat) (h : Sl w A (u8s l)) (hA : A = none → l.length = 0) :
    (convert 22 9 (.slice A l.length c)).run Try.prog w = .ok (.string ⟨l.toArray⟩) w := by
  rcases A with _ | a
  · have hl : l = [] := List.eq_nil_of_length_eq_zero (hA rfl)
    subst hl
    exact run_convert_bytes_nil w _ _ Try.underlying22 Try.underlying5 _ _ _ Try.underlying9
  · exact run_convert_bytes_back w _ _ _ a c l Try.underlying22 Try.underlying5 Try.underlying9 fun j hj => h.cells j _ (u8s_get hj)

/-- '[]byte(s)'. -/
theorem ofStr (w : World) (s : ByteArray) (l : List UInt8) (hs : s.data.toList = l) : ∃ A c w', (convert 9 22 (.string s)).run Try.prog w = .ok (.slice A l.length c) w' ∧ Sl w' A (u8s l) ∧ (A = none → l.length = 0) ∧ Below w.heap.size w w' := by
  obtain rfl : s = ⟨l.toArray⟩ := by subst hs; rfl
  have hr := run_bytes_of_string (P := Try.prog) w 9 22 5 ⟨l.toArray⟩ Try.underlying9 Try.underlying22 Try.underlying5
  refine ⟨some ⟨w.heap.size, 0, none⟩, _, _, hr, ?_, (by intro h; cases h), ((Below.refl _ _).drew).alloc (Nat.le_refl _) _⟩
  intro j u hj
  refine ⟨_, 0, rfl, ?_⟩
  have hjl : j < l.length := by
    have := (List.getElem?_eq_some_iff.1 hj).1
    simpa [u8s] using this
  rw [u8s_get hjl] at hj
  injection hj with hj
  subst hj
  have := World.cell?_alloc_mark w.drew (bytesRow ⟨l.toArray⟩ (grownCap w l.length 0 5)) 5 ((bytesRow ⟨l.toArray⟩ (grownCap w l.length 0 5)).size, (bytesRow ⟨l.toArray⟩ (grownCap w l.length 0 5)).size + 1) (0 + j)
  refine this.trans ?_
  simp [bytesRow, Array.getElem?_append, hjl]

/-- An empty row, new. -/
theorem OwnB.new (w : World) : OwnB (w.alloc (.cells #[] 5)) w.heap.size (.slice (some ⟨w.heap.size, 0, none⟩) 0 0) [] :=
  ⟨rfl, .inr ⟨w.heap.size, 0, #[], rfl, Nat.le_refl _, heap_alloc_new w _, Nat.le_refl _, by unfold maxLen; omega, rfl, rfl⟩⟩

theorem OwnB.of_blk {w : World} {base g : Nat} {l : List UInt8} (h : Blk w g 5 (u8s l).toArray) (hb : base ≤ g) (hl : l.length ≤ maxLen) : OwnB w base (.slice (some ⟨g, 0, none⟩) l.length l.length) l :=
  ⟨by simp [u8s], .inr ⟨g, l.length, _, rfl, hb, h, Nat.le_refl _, hl, by simp [u8s], by rw [List.toList_toArray, List.take_of_length_le (by simp [u8s])]⟩⟩

theorem u8s_set (l : List UInt8) (i : Nat) (b : UInt8) : (u8s l).toArray.setIfInBounds i (.int .u8 (b.toNat : Int)) = (u8s (l.set i b)).toArray := by
  simp [u8s, u8, List.map_set]

/-- 'make([]byte, n)'. -/
theorem make_u8 (n : Nat) (hn : n ≤ 140737488355328) (w : World) :
    (Instr.makeSlice 22 (.int .i64 (n : Int)) (.int .i64 (n : Int))).run Try.prog w = .ok (.slice (some ⟨w.heap.size, 0, none⟩) n n) (w.alloc (.cells (u8s (List.replicate n 0)).toArray 5)) := by
  obtain ⟨i, hi, hz, h1, h2⟩ := info_parts info_u8
  have hr := run_make (P := Try.prog) w 22 5 i _ Try.underlying22 hi hz .i64 .i64 n n (by omega) (by omega) (by rw [h2]; omega) (by omega)
  simp only [Int.toNat_natCast, h1, Nat.mul_one] at hr
  rw [hr]
  congr 3
  apply Array.ext'
  rw [show (Value.int .u8 0).cells = #[.int .u8 0] from rfl, toList_madeCells_one]
  simp [u8s, u8]

section
variable (w : World)
theorem app_u8 {ops : Array Oper} {rest : List Oper} {o : Oper} {a : Act} {Q : Exit → Act → World → Prop} (hgd : o.guard = none) (s x : Operand)
    (ho : o.op = .call { callee := .builtin .append, args := #[s, x], argTypes := #[22, 22] })
    (base : Nat) (v : Value) (l : List UInt8) (hs : a.eval s = v) (hown : OwnB w base v l)
    (A : Option Addr) (m c : Nat) (l2 : List UInt8) (hx : a.eval x = .slice A m c) (hm : m = l2.length) (hA : A = none → m = 0) (hr : Sl w A (u8s l2))
    (hb : l.length + l2.length ≤ 140737488355328) (hbase : base ≤ w.heap.size)
    (h : ∀ v' w', OwnB w' base v' (l ++ l2) → Grew 1 w w' v v' → wpList Try.prog ops Q rest (a.put o.dst v') w') : wpList Try.prog ops Q (o :: rest) a w := by
  obtain ⟨i, hi, hz, h1, h2⟩ := info_parts info_u8
  subst hm
  refine wpList_app w hgd s x 22 ho base 5 i _ 1 1 Try.underlying22 hi hz h1 h2 rfl v l.length (u8s l) hs hown A l2.length c (u8s l2) hx (by simp [u8s_length]) hA hr (u8s_one l2)
    (by unfold maxLen; omega) (by omega) hbase fun v' w' h3 h4 => h v' w' ?_ h4
  unfold OwnB
  rw [u8s_append, List.length_append]
  exact h3
/-- 'append(s, b)': one byte. -/
theorem app1_u8 {ops : Array Oper} {rest : List Oper} {o : Oper} {a : Act} {Q : Exit → Act → World → Prop} (hgd : o.guard = none) (s x : Operand)
    (ho : o.op = .call { callee := .builtin .append, args := #[s, x], argTypes := #[22, 22] })
    (base : Nat) (v : Value) (l : List UInt8) (hs : a.eval s = v) (hown : OwnB w base v l) (n : Int) (b : UInt8) (hn : n = (b.toNat : Int))
    (hx : a.eval x = .slice (some ⟨w.heap.size, 0, none⟩) 1 1)
    (hb : l.length + 1 ≤ 140737488355328) (hbase : base ≤ w.heap.size)
    (h : ∀ v' w', OwnB w' base v' (l ++ [b]) → Grew 1 w w' v v' → wpList Try.prog ops Q rest (a.put o.dst v') w') : wpList Try.prog ops Q (o :: rest) a (w.alloc (.cells #[.int .u8 n] 5)) := by
  subst hn
  refine app_u8 _ hgd s x ho base v l hs (hown.alloc _) _ 1 1 [b] hx rfl (by intro h; cases h) ?_ hb (by simp; omega) fun v' w' h1 h2 => h v' w' h1 (h2.unalloc ?_)
  · intro j u hj
    match j, hj with
    | 0, hj =>
      simp [u8s] at hj
      subst hj
      refine ⟨_, 0, rfl, ?_⟩
      simp [u8]
  · intro k hk
    exact (World.ownsRow.lt hown k hk).2
end

end Go.Proofs.Ytplahfhggnkahaa
