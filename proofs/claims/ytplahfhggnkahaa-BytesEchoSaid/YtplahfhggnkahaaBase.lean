/- Words for memory that the walks of this seat share: a slice that reads as a list of cells. -/
import Derived.Below
import Derived.Laws.OwnMore
import Derived.Deep.AppendLies
import Derived.Deep.Draws
import Derived.Laws.Rows
import Derived.Maps.AppendAt
import Derived.RegionTactic
import Derived.OwnWalk
namespace Go.Proofs.Ytplahfhggnkahaa
open Go.RowKit

/-- A byte as a cell. -/
def u8 (b : UInt8) : Value := .int .u8 (b.toNat : Int)
def u8s (l : List UInt8) : List Value := l.map u8

/-- The address A starts a row of cells that reads as xs. -/
def Sl (w : World) (A : Option Addr) (xs : List Value) : Prop :=
  ∀ j u, xs[j]? = some u → ∃ b off, A = some ⟨b, off, none⟩ ∧ w.cell? ⟨b, off + j, none⟩ = some u

theorem cell_lt {w : World} {a : Addr} {v : Value} (h : w.cell? a = some v) : a.block < w.heap.size := by
  rcases Nat.lt_or_ge a.block w.heap.size with hlt | hge
  · exact hlt
  · unfold World.cell? at h; rw [Array.getElem?_eq_none hge] at h; cases h

theorem Sl.at_ {w : World} {A : Option Addr} {xs : List Value} (h : Sl w A xs) {j : Nat} {u : Value} (hj : xs[j]? = some u) :
    ∃ b off, A = some ⟨b, off, none⟩ ∧ b < w.heap.size ∧ w.cell? ⟨b, off + j, none⟩ = some u := by
  obtain ⟨b, off, e, hc⟩ := h j u hj
  exact ⟨b, off, e, cell_lt hc, hc⟩

theorem Sl.nil (w : World) (A : Option Addr) : Sl w A [] := fun j u h => by simp at h

theorem Sl.below {w w' : World} {A : Option Addr} {xs : List Value} (h : Sl w A xs) (hb : Below w.heap.size w w') : Sl w' A xs := fun j u hj => by
  obtain ⟨b, off, e, hlt, hc⟩ := h.at_ hj
  exact ⟨b, off, e, (hb.cell (p := ⟨b, off + j, none⟩) hlt).trans hc⟩

theorem Sl.drewN {w : World} {A : Option Addr} {xs : List Value} (h : Sl w A xs) (n : Nat) : Sl (w.drewN n) A xs := h

theorem u8s_get {l : List UInt8} {j : Nat} (hj : j < l.length) : (u8s l)[j]? = some (.int .u8 (l[j].toNat : Int)) := by
  simp [u8s, u8, hj]

theorem Sl.byte {w : World} {A : Option Addr} {l : List UInt8} (h : Sl w A (u8s l)) {j : Nat} (hj : j < l.length) :
    ∃ b off, A = some ⟨b, off, none⟩ ∧ b < w.heap.size ∧ w.cell? ⟨b, off + j, none⟩ = some (.int .u8 (l[j].toNat : Int)) := h.at_ (u8s_get hj)

theorem ret1 {v v' : Value} (h : v = v') : Ending.returned v = .returned v' := by rw [h]

theorem retI {k : IntKind} {a b : Int} (h : a = b) : Ending.returned (.int k a) = .returned (.int k b) := by rw [h]

theorem retS {A : Option Addr} {n m c : Nat} (h : n = m) : Ending.returned (.slice A n c) = .returned (.slice A m c) := by rw [h]

theorem ret3 {ka kb kc : IntKind} {a a' b b' c c' : Int} (h1 : a = a') (h2 : b = b') (h3 : c = c') :
    Ending.returned (.tuple #[.int ka a, .int kb b, .int kc c]) = .returned (.tuple #[.int ka a', .int kb b', .int kc c']) := by rw [h1, h2, h3]

theorem wrap_u64 {n : Nat} (h : n < 18446744073709551616) : IntKind.u64.wrap (n : Int) = (n : Int) := by
  rw [show IntKind.u64.wrap (n : Int) = (n : Int) % 18446744073709551616 from by simp [IntKind.wrap, IntKind.bits, IntKind.signed]]
  omega

/-- The same with the weight as a number of its own. -/
theorem vstep2 (m W x : Nat) (h : m + x * W < 18446744073709551616) : IntKind.u64.wrap ((m : Int) + IntKind.u64.wrap ((W : Int) * (x : Int))) = ((m + x * W : Nat) : Int) := by
  have e : ((W : Int) * (x : Int)) = ((x * W : Nat) : Int) := by push_cast; exact Int.mul_comm _ _
  rw [e, wrap_u64 (by omega), ← Int.natCast_add, wrap_u64 h]

/-- The sum that a number's next byte gives, as the walk spells it. -/
theorem vstep (m x k : Nat) (h : m + x % 128 * 2 ^ (7 * k) < 18446744073709551616) : IntKind.u64.wrap ((m : Int) + IntKind.u64.wrap ((x : Int) % 128 * 2 ^ (7 * k))) = ((m + x % 128 * 2 ^ (7 * k) : Nat) : Int) := by
  have e : ((x : Int) % 128 * 2 ^ (7 * k)) = ((x % 128 * 2 ^ (7 * k) : Nat) : Int) := by push_cast; rfl
  rw [e, wrap_u64 (by omega), ← Int.natCast_add, wrap_u64 h]

theorem add_lit (b off j : Nat) : (⟨b, off, none⟩ : Addr).add j = ⟨b, off + j, none⟩ := by
  unfold Addr.add
  split <;> simp_all

theorem Sl.cells {w : World} {a : Addr} {xs : List Value} (h : Sl w (some a) xs) : ∀ j u, xs[j]? = some u → w.cell? (a.add j) = some u := fun j u hj => by
  obtain ⟨b, off, e, hc⟩ := h j u hj
  injection e with e
  subst e
  rw [add_lit]
  exact hc

theorem Sl.of_own {w : World} {base : Nat} {e : TypeId} {size n c : Nat} {A : Option Addr} {xs : List Value} (h : w.ownsRow base e size (.slice A n c) n xs) : Sl w A xs := by
  rcases h.2 with ⟨_, h0⟩ | ⟨g, cap, cur, hv, _, _, _, _, _, _⟩
  · have := h.1
    have hx : xs = [] := List.eq_nil_of_length_eq_zero (by rw [this, h0]; simp)
    subst hx
    exact Sl.nil w A
  · injection hv with hA
    subst hA
    intro j u hj
    exact ⟨g, 0, rfl, by rw [← add_lit]; exact h.cells (g := g) rfl j u hj⟩

theorem Sl.front {w : World} {A : Option Addr} {xs ys : List Value} (h : Sl w A (xs ++ ys)) : Sl w A xs := fun j u hj =>
  h j u (by rw [List.getElem?_append_left (by exact (List.getElem?_eq_some_iff.1 hj).1)]; exact hj)

theorem own_mono {w : World} {base base' : Nat} {e : TypeId} {size n : Nat} {v : Value} {xs : List Value} (h : w.ownsRow base e size v n xs) (hb : base' ≤ base) : w.ownsRow base' e size v n xs := by
  refine ⟨h.1, h.2.imp id ?_⟩
  rintro ⟨g, cap, cur, a, b, r⟩
  exact ⟨g, cap, cur, a, by omega, r⟩

theorem own_below {w w' : World} {base : Nat} {e : TypeId} {size n : Nat} {v : Value} {xs : List Value} (h : w.ownsRow base e size v n xs) (hb : Below w.heap.size w w') : w'.ownsRow base e size v n xs := by
  refine ⟨h.1, h.2.imp id ?_⟩
  rintro ⟨g, cap, cur, a, b, hg, r⟩
  refine ⟨g, cap, cur, a, b, ?_, r⟩
  rw [hb.block g (Array.getElem?_eq_some_iff.1 hg).1, hg]

theorem own_drewN {w : World} {base : Nat} {e : TypeId} {size n : Nat} {v : Value} {xs : List Value} (h : w.ownsRow base e size v n xs) (k : Nat) : (w.drewN k).ownsRow base e size v n xs := h

theorem own_form {w : World} {base : Nat} {e : TypeId} {size n : Nat} {v : Value} {xs : List Value} (h : w.ownsRow base e size v n xs) : ∃ A c, v = .slice A n c ∧ n ≤ c ∧ c ≤ maxLen := by
  rcases h.2 with ⟨rfl, rfl⟩ | ⟨g, cap, cur, rfl, _, _, hn, hm, _, _⟩
  · exact ⟨none, 0, rfl, by omega, by unfold maxLen; omega⟩
  · exact ⟨_, cap, rfl, hn, hm⟩

theorem own_none {w : World} {base : Nat} {e : TypeId} {size n c : Nat} {A : Option Addr} {xs : List Value} (h : w.ownsRow base e size (.slice A n c) n xs) : A = none → n = 0 := by
  rintro rfl
  rcases h.2 with ⟨_, h0⟩ | ⟨g, cap, cur, hv, _⟩
  · exact h0
  · injection hv with a
    cases a

theorem u8s_one (l : List UInt8) : ∀ u ∈ u8s l, u.oneCell' = true := by
  intro u hu
  simp only [u8s, List.mem_map] at hu
  obtain ⟨b, _, rfl⟩ := hu
  rfl

theorem u8s_length (l : List UInt8) : (u8s l).length = l.length := by simp [u8s]
theorem u8s_append (l r : List UInt8) : u8s (l ++ r) = u8s l ++ u8s r := by simp [u8s]
theorem u8s_take (l : List UInt8) (n : Nat) : u8s (l.take n) = (u8s l).take n := by simp [u8s]
theorem u8s_drop (l : List UInt8) (n : Nat) : u8s (l.drop n) = (u8s l).drop n := by simp [u8s]

theorem Sl.take_ {w : World} {A : Option Addr} {xs : List Value} (h : Sl w A xs) (n : Nat) : Sl w A (xs.take n) := fun j u hj => by
  have hl := (List.getElem?_eq_some_iff.1 hj).1
  rw [List.length_take] at hl
  rw [List.getElem?_take_of_lt (by omega)] at hj
  exact h j u hj

theorem Sl.drop_ {w : World} {A : Option Addr} {xs : List Value} (h : Sl w A xs) (k : Nat) : Sl w (A.map fun x => x.add k) (xs.drop k) := fun j u hj => by
  rw [List.getElem?_drop] at hj
  obtain ⟨b, off, rfl, hc⟩ := h _ u hj
  exact ⟨b, off + k, by simp [add_lit], by rw [Nat.add_assoc]; exact hc⟩

/-- v' is v, or goes on in v's own row, or stands in a block from h on. -/
def Goes (h : Nat) (v v' : Value) : Prop :=
  v' = v ∨ (∃ g n n' cap, v = .slice (some ⟨g, 0, none⟩) n cap ∧ v' = .slice (some ⟨g, 0, none⟩) n' cap ∧ n ≤ n') ∨ ∃ g n' cap', v' = .slice (some ⟨g, 0, none⟩) n' cap' ∧ h ≤ g

/-- What an append onto v leaves: v' goes on in v's row or stands in a new block; of what there was only the spare part of v's row may have turned. -/
structure Grew (size : Nat) (w w' : World) (v v' : Value) : Prop where
  by_ : w.grownBy w' v.ownBlock
  goes : Goes w.heap.size v v'
  old : ∀ g n cap cur e, v = .slice (some ⟨g, 0, none⟩) n cap → w.heap[g]? = some (.cells cur e (0, 0)) →
    ∃ cur', w'.heap[g]? = some (.cells cur' e (0, 0)) ∧ cur'.size = cur.size ∧ cur'.toList.take (n * size) = cur.toList.take (n * size)

theorem Grew.refl (size : Nat) (w : World) (v : Value) : Grew size w w v v := ⟨World.grownBy.refl w _, .inl rfl, fun _ _ _ cur _ _ h => ⟨cur, h, rfl, rfl⟩⟩

theorem Grew.own {size : Nat} {w w' : World} {v v' : Value} {base : Nat} {e : TypeId} {n : Nat} {xs : List Value} (h : Grew size w w' v v') (ho : w.ownsRow base e size v n xs) : w'.ownsRow base e size v n xs := by
  refine ⟨ho.1, ho.2.imp id ?_⟩
  rintro ⟨g, cap, cur, hv, hb, hg, hn, hm, hs, ht⟩
  obtain ⟨cur', h1, h2, h3⟩ := h.old g n cap cur e hv hg
  exact ⟨g, cap, cur', hv, hb, h1, hn, hm, h2.trans hs, h3.trans ht⟩

theorem Grew.trans {size : Nat} {w w1 w2 : World} {v v1 v2 : Value} (h : Grew size w w1 v v1) (k : Grew size w1 w2 v1 v2) : Grew size w w2 v v2 := by
  have hsz := h.by_.size
  refine ⟨⟨k.by_.os.trans h.by_.os, k.by_.tape.trans h.by_.tape, k.by_.output.trans h.by_.output, Nat.le_trans hsz k.by_.size, fun i hi hne => ?_⟩, ?_, ?_⟩
  · refine (k.by_.block i (by omega) ?_).trans (h.by_.block i hi hne)
    rcases h.goes with e | ⟨g, n, n', cap, e, e', _⟩ | ⟨g, n', cap', e', hg⟩
    · rw [e]; exact hne
    · rw [e'] ; rw [e] at hne; exact hne
    · rw [e']; simp only [Value.ownBlock]; intro hh; injection hh with hh; omega
  · rcases k.goes with e | ⟨g, n, n', cap, e, e', hn⟩ | ⟨g, n', cap', e', hg⟩
    · rw [e]; exact h.goes
    · rcases h.goes with f | ⟨g1, n1, n1', cap1, f, f', hn1⟩ | ⟨g1, n1', cap1', f', hg1⟩
      · exact .inr (.inl ⟨g, n, n', cap, f ▸ e, e', hn⟩)
      · rw [e] at f'
        injection f' with a b c
        injection a with a
        injection a with a
        subst a; subst b; subst c
        exact .inr (.inl ⟨g, n1, n', cap, f, e', by omega⟩)
      · rw [e] at f'
        injection f' with a b c
        injection a with a
        injection a with a
        subst a
        exact .inr (.inr ⟨g, n', cap, e', hg1⟩)
    · exact .inr (.inr ⟨g, n', cap', e', by omega⟩)
  · intro g n cap cur e hv hg
    obtain ⟨cur1, g1, s1, t1⟩ := h.old g n cap cur e hv hg
    rcases h.goes with f | ⟨g2, n2, n2', cap2, f, f', hn2⟩ | ⟨g2, n2', cap2', f', hg2⟩
    · obtain ⟨cur2, g2, s2, t2⟩ := k.old g n cap cur1 e (f.trans hv) g1
      exact ⟨cur2, g2, s2.trans s1, t2.trans t1⟩
    · rw [hv] at f
      injection f with a b c
      injection a with a
      injection a with a
      subst a; subst b; subst c
      obtain ⟨cur2, g2, s2, t2⟩ := k.old g n2' cap cur1 e f' g1
      refine ⟨cur2, g2, s2.trans s1, ?_⟩
      have ht : (cur2.toList.take (n2' * size)).take (n * size) = (cur1.toList.take (n2' * size)).take (n * size) := by rw [t2]
      rw [List.take_take, List.take_take, Nat.min_eq_left (Nat.mul_le_mul_right _ hn2)] at ht
      exact ht.trans t1
    · have hlt : g < w.heap.size := (Array.getElem?_eq_some_iff.1 hg).1
      refine ⟨cur1, ?_, s1, t1⟩
      rw [k.by_.block g (by omega) ?_, g1]
      rw [f']
      simp only [Value.ownBlock]
      intro hh
      injection hh with hh
      omega

/-- A block that was laid ahead of it does not count. -/
theorem Grew.unalloc {size : Nat} {w w' : World} {v v' : Value} {o : Obj} (h : Grew size (w.alloc o) w' v v') (hv : ∀ k, v.ownBlock = some k → k < w.heap.size) : Grew size w w' v v' := by
  have hz : (w.alloc o).heap.size = w.heap.size + 1 := by simp
  refine ⟨⟨h.by_.os, h.by_.tape, h.by_.output, by have := h.by_.size; omega, fun i hi hne => ?_⟩, ?_, ?_⟩
  · rw [h.by_.block i (by omega) hne, Below.heap_alloc w o i hi]
  · rcases h.goes with e | e | ⟨g, n', cap', e', hg⟩
    · exact .inl e
    · exact .inr (.inl e)
    · exact .inr (.inr ⟨g, n', cap', e', by omega⟩)
  · intro g n cap cur e hv' hg
    exact h.old g n cap cur e hv' (by rw [Below.heap_alloc w o g (hv g (by rw [hv']; rfl))]; exact hg)

theorem Grew.below {size B : Nat} {a w w' : World} {v v' : Value} (hb : Below B a w) (h : Grew size w w' v v') (hB : B ≤ w.heap.size) (hv : ∀ k, v.ownBlock = some k → B ≤ k) : Below B a w' := hb.grown h.by_ hB hv

/-- A row of the call's own in another block stays. -/
theorem Grew.other {size : Nat} {w w' : World} {v v' u : Value} {base size' : Nat} {e : TypeId} {n : Nat} {xs : List Value} (h : Grew size w w' v v') (ho : w.ownsRow base e size' u n xs) (hne : u.ownBlock = none ∨ u.ownBlock ≠ v.ownBlock) : w'.ownsRow base e size' u n xs :=
  ho.kept h.by_ hne

/-- The row of v and the list at B lie apart. -/
def Apart (v : Value) (B : Option Addr) : Prop := ∀ g, v.ownBlock = some g → ∀ a, B = some a → a.block ≠ g

theorem Sl.grew {size : Nat} {w w' : World} {v v' : Value} {B : Option Addr} {xs : List Value} (h : Sl w B xs) (ha : Apart v B) (hg : Grew size w w' v v') : Sl w' B xs := fun j u hj => by
  obtain ⟨b, off, e, hlt, hc⟩ := h.at_ hj
  refine ⟨b, off, e, (World.cell?_of_block (a := ⟨b, off + j, none⟩) (hg.by_.block b hlt ?_)).trans hc⟩
  intro hh
  exact ha b hh.symm _ e rfl

/-- A call that lays only new memory, behind an append. -/
theorem Grew.then_below {size : Nat} {w w1 w2 : World} {v v1 v2 : Value} (h : Grew size w w1 v v1) (hb : Below w1.heap.size w1 w2) (hv : Goes w.heap.size v v2) : Grew size w w2 v v2 := by
  refine ⟨⟨hb.os.trans h.by_.os, hb.tape.trans h.by_.tape, hb.output.trans h.by_.output, Nat.le_trans h.by_.size hb.size, fun i hi hne => (hb.block i (by have := h.by_.size; omega)).trans (h.by_.block i hi hne)⟩, hv, ?_⟩
  intro g n cap cur e hv' hg
  obtain ⟨cur1, g1, s1, t1⟩ := h.old g n cap cur e hv' hg
  exact ⟨cur1, (hb.block g (Array.getElem?_eq_some_iff.1 g1).1).trans g1, s1, t1⟩

theorem own_goes {w : World} {base h : Nat} {e : TypeId} {size n : Nat} {v v' : Value} {xs : List Value} (ho : w.ownsRow base e size v' n xs) (hb : h ≤ base) (hne : v' ≠ .slice none 0 0) : Goes h v v' := by
  rcases ho.2 with ⟨rfl, _⟩ | ⟨g, cap, cur, rfl, hg, _⟩
  · exact absurd rfl hne
  · exact .inr (.inr ⟨g, n, cap, rfl, by omega⟩)

/-- Block g is just the cells cs, of type t, none of them frozen. -/
def Blk (w : World) (g : Nat) (t : TypeId) (cs : Array Value) : Prop := w.heap[g]? = some (.cells cs t (0, 0))
theorem Blk.lt {w : World} {g : Nat} {t : TypeId} {cs : Array Value} (h : Blk w g t cs) : g < w.heap.size := (Array.getElem?_eq_some_iff.1 h).1
theorem Blk.cell {w : World} {g : Nat} {t : TypeId} {cs : Array Value} (h : Blk w g t cs) (i : Nat) : w.cell? ⟨g, i, none⟩ = cs[i]? := cell_of_row w g i cs t (0, 0) h
theorem Blk.free {w : World} {g : Nat} {t : TypeId} {cs : Array Value} (h : Blk w g t cs) (i : Nat) : w.frozen? ⟨g, i, none⟩ = false := by
  unfold Blk at h
  simp [World.frozen?, h]
theorem Blk.new (w : World) (t : TypeId) (cs : Array Value) : Blk (w.alloc (.cells cs t)) w.heap.size t cs := heap_alloc_new w _
theorem Blk.drewN {w : World} {g : Nat} {t : TypeId} {cs : Array Value} (h : Blk w g t cs) (n : Nat) : Blk (w.drewN n) g t cs := h
theorem Blk.alloc {w : World} {g : Nat} {t : TypeId} {cs : Array Value} (h : Blk w g t cs) (o : Obj) : Blk (w.alloc o) g t cs := (Below.heap_alloc w o g h.lt).trans h
theorem Blk.set_ {w : World} {g : Nat} {t : TypeId} {cs : Array Value} (h : Blk w g t cs) (i : Nat) (u : Value) : Blk (w.setCell ⟨g, i, none⟩ u) g t (cs.setIfInBounds i u) := by
  unfold Blk at h ⊢
  simp [World.setCell, Array.getElem?_modify, h]
theorem Blk.far {w : World} {g : Nat} {t : TypeId} {cs : Array Value} (h : Blk w g t cs) {p : Addr} (hp : g ≠ p.block) (u : Value) : Blk (w.setCell p u) g t cs := (Below.heap_setCell w p u g hp).trans h
theorem Blk.below {w w' : World} {B g : Nat} {t : TypeId} {cs : Array Value} (h : Blk w g t cs) (hb : Below B w w') (hg : g < B) : Blk w' g t cs := (hb.block g hg).trans h

/-- Numbers of one kind as cells. -/
def ints (k : IntKind) (T : List Nat) : Array Value := (T.map fun n : Nat => Value.int k (n : Int)).toArray
theorem ints_get (k : IntKind) (T : List Nat) (i : Nat) (h : i < T.length) : (ints k T)[i]? = some (.int k (T.getD i 0 : Int)) := by simp [ints, h]
theorem ints_set (k : IntKind) (T : List Nat) (i v : Nat) : (ints k T).setIfInBounds i (.int k (v : Int)) = ints k (T.set i v) := by
  simp [ints, List.map_set]
theorem ints_size (k : IntKind) (T : List Nat) : (ints k T).size = T.length := by simp [ints]

theorem ints_one (k : IntKind) (T : List Nat) : (ints k T).all (·.oneCell') = true := by simp [ints, Value.oneCell']

section
variable {P : Program} (w : World)

theorem run_app (base : Nat) (t ty e : TypeId) (i : TypeInfo) (z : Value) (size bytes : Nat) (ht : P.underlying t = some (.slice e)) (hi : P.info? e = some i) (hz : i.zero = some z)
    (hsize : i.size = size) (hby : i.bytes = bytes) (hzs : z.cells.size = size)
    (v : Value) (n : Nat) (xs : List Value) (hown : w.ownsRow base e size v n xs)
    (A : Option Addr) (m c : Nat) (news : List Value) (hl : news.length = m * size) (hA : A = none → m = 0) (hs : Sl w A news) (h1 : ∀ u ∈ news, u.oneCell' = true)
    (h63 : n + m ≤ maxLen) (hbytes : (n + m) * bytes ≤ 140737488355328) (hbase : base ≤ w.heap.size) :
    ∃ v' w', (Builtin.append_ #[t, t] ty #[v, .slice A m c]).run P w = .ok v' w' ∧ w'.ownsRow base e size v' (n + m) (xs ++ news) ∧ Grew size w w' v v' := by
  subst hsize
  subst hby
  have hsmall : n + m ≤ 9223372036854775807 := by simp only [maxLen] at h63; omega
  have hlen : (xs ++ news).length = (n + m) * i.size := by rw [List.length_append, hown.1, hl, Nat.add_mul]
  rcases A with _ | a
  · have hm : m = 0 := hA rfl
    subst hm
    have hn : news = [] := List.eq_nil_of_length_eq_zero (by simpa using hl)
    subst hn
    refine ⟨v, w, ?_, by simpa using hown, Grew.refl _ w v⟩
    rcases hown.2 with ⟨rfl, rfl⟩ | ⟨g, cap, cur, rfl, _, _, hnc, _⟩
    · simp [Builtin.append_, run_underlying ht, sizeOf, typeInfo, hi, Builtin.lenOf, Builtin.firstCells]
    · simp [Builtin.append_, run_underlying ht, sizeOf, typeInfo, hi, Builtin.lenOf, Builtin.firstCells, hnc, storeCells]
  have hnews := hs.cells
  have grown : ∀ (old : Nat), old < n + m → ∀ (v : Value), (∀ g n cap cur e', v = .slice (some ⟨g, 0, none⟩) n cap → w.heap[g]? = some (.cells cur e' (0, 0)) → g < w.heap.size) →
      (w.drew.alloc (.cells (xs.toArray ++ news.toArray ++ Builtin.zeroCells z.cells (grownCap w (n + m) old e - (n + m))) e)).ownsRow base e i.size
        (.slice (some ⟨w.heap.size, 0, none⟩) (n + m) (grownCap w (n + m) old e)) (n + m) (xs ++ news) ∧
      Grew i.size w (w.drew.alloc (.cells (xs.toArray ++ news.toArray ++ Builtin.zeroCells z.cells (grownCap w (n + m) old e - (n + m))) e)) v (.slice (some ⟨w.heap.size, 0, none⟩) (n + m) (grownCap w (n + m) old e)) := by
    intro old ho v hv
    have hge := grownCap_ge w (n + m) old e
    have hcm : grownCap w (n + m) old e ≤ maxLen := grownCap_le_maxLen w (n + m) old e h63
    refine ⟨⟨hlen, .inr ⟨w.heap.size, _, _, rfl, hbase, heap_alloc_new w.drew _, hge, hcm, ?_, ?_⟩⟩, ⟨⟨rfl, rfl, rfl, by simp, fun k hk _ => heap_alloc_old w.drew _ k hk⟩, .inr (.inr ⟨_, _, _, rfl, Nat.le_refl _⟩), ?_⟩⟩
    · simp only [Array.size_append, List.size_toArray, size_zeroCells, hzs, hown.1, hl, ← Nat.add_mul]
      congr 1
      omega
    · simp only [Array.toList_append, List.append_assoc]
      rw [← List.append_assoc, ← hlen]
      exact List.take_left
    · intro g n' cap cur e' hv' hg
      exact ⟨cur, (heap_alloc_old w.drew _ g (hv g n' cap cur e' hv' hg)).trans hg, rfl, rfl⟩
  have hlt : ∀ (v : Value) (g n cap : Nat) (cur : Array Value) (e' : TypeId), v = .slice (some ⟨g, 0, none⟩) n cap → w.heap[g]? = some (.cells cur e' (0, 0)) → g < w.heap.size :=
    fun _ g _ _ _ _ _ hg => (Array.getElem?_eq_some_iff.1 hg).1
  rcases hown.2 with ⟨rfl, rfl⟩ | ⟨g, cap, cur, rfl, hbg, hg, hnc, hcm, hcs, htake⟩
  · have hx : xs = [] := List.eq_nil_of_length_eq_zero (by simpa using hown.1)
    subst hx
    by_cases hm : m = 0
    · subst hm
      have hn : news = [] := List.eq_nil_of_length_eq_zero (by simpa using hl)
      subst hn
      refine ⟨.slice none 0 0, w, ?_, World.ownsRow_nil w base e i.size, Grew.refl _ w _⟩
      simp [Builtin.append_, run_underlying ht, sizeOf, typeInfo, hi, Builtin.lenOf, Builtin.firstCells, loadCells, loadCellsFrom]
    · have hr := run_append_nil (P := P) w t ty e i z ht hi hz a m c news hl hnews (by omega) (by omega) (by have hb := hbytes; simp only [Nat.zero_add] at hb; omega)
      have hgr := grown 0 (by omega) (.slice none 0 0) (hlt _)
      simp only [Nat.zero_add, List.nil_append, Array.empty_append] at hgr ⊢
      exact ⟨_, _, hr, hgr.1, hgr.2⟩
  · by_cases hroom : n + m ≤ cap
    · have hfit : n * i.size + news.length ≤ cur.size := by rw [hl, hcs, ← Nat.add_mul]; exact Nat.mul_le_mul_right _ hroom
      have hr := run_append_room (P := P) w t ty e i ht hi g n cap cur hg a m c news hl hnews h1 hroom hfit
      refine ⟨_, _, hr, ⟨hlen, .inr ⟨g, cap, _, rfl, hbg, setRow_heap w g cur _ e _ hg, hroom, hcm, ?_, ?_⟩⟩,
        ⟨⟨rfl, rfl, rfl, by simp, fun k _ hk => setRow_other w g k _ (fun e => hk (by simp [Value.ownBlock, e]))⟩, .inr (.inl ⟨g, n, n + m, cap, rfl, rfl, by omega⟩), ?_⟩⟩
      · simp only [List.size_toArray, List.length_append, List.length_take, List.length_drop, Array.length_toList]
        omega
      · rw [htake, ← hlen]
        exact List.take_left
      · intro g' n' cap' cur' e' hv' hg'
        injection hv' with a1 a2 a3
        injection a1 with a1
        injection a1 with a1
        subst a1; subst a2; subst a3
        rw [hg] at hg'
        injection hg' with hg'
        injection hg' with b1 b2 b3
        subst b1; subst b2
        refine ⟨_, setRow_heap w g cur _ e _ hg, ?_, ?_⟩
        · simp only [List.size_toArray, List.length_append, List.length_take, List.length_drop, Array.length_toList]
          omega
        · have hl2 : (cur.toList.take (n * i.size)).length = n * i.size := by simp; omega
          rw [List.append_assoc]
          exact (List.take_append_of_le_length (by omega)).trans (List.take_of_length_le (by omega))
    · have holds : ∀ j u, xs[j]? = some u → w.cell? ((⟨g, 0, none⟩ : Addr).add j) = some u := hown.cells (g := g) rfl
      have hr := run_append_grow (P := P) w t ty e i z ht hi hz ⟨g, 0, none⟩ n cap xs hown.1 holds a m c news hl hnews (by omega) (by omega) (growslice_fits (by omega) hbytes)
      have hgr := grown cap (by omega) (.slice (some ⟨g, 0, none⟩) n cap) (hlt _)
      exact ⟨_, _, hr, hgr.1, hgr.2⟩

theorem wp_app {o : Oper} {a : Act} {K : Act → World → Prop} {Q : Exit → Act → World → Prop} (s x : Operand) (t : TypeId)
    (ho : o.op = .call { callee := .builtin .append, args := #[s, x], argTypes := #[t, t] })
    (base : Nat) (e : TypeId) (i : TypeInfo) (z : Value) (size bytes : Nat) (ht : P.underlying t = some (.slice e)) (hi : P.info? e = some i) (hz : i.zero = some z)
    (hsize : i.size = size) (hby : i.bytes = bytes) (hzs : z.cells.size = size)
    (v : Value) (n : Nat) (xs : List Value) (hs : a.eval s = v) (hown : w.ownsRow base e size v n xs)
    (A : Option Addr) (m c : Nat) (news : List Value) (hx : a.eval x = .slice A m c) (hl : news.length = m * size) (hA : A = none → m = 0) (hr : Sl w A news) (h1 : ∀ u ∈ news, u.oneCell' = true)
    (h63 : n + m ≤ maxLen) (hbytes : (n + m) * bytes ≤ 140737488355328) (hbase : base ≤ w.heap.size)
    (h : ∀ v' w', w'.ownsRow base e size v' (n + m) (xs ++ news) → Grew size w w' v v' → K (a.put o.dst v') w') : o.wp P a w K Q := by
  obtain ⟨v', w', hrun, h2, h3⟩ := run_app (P := P) w base t o.type e i z size bytes ht hi hz hsize hby hzs v n xs hown A m c news hl hA hr h1 h63 hbytes hbase
  unfold Oper.wp execOp
  simp only [ho, resolve, invoke, builtin, Sem.run_bind, Sem.run_pure, Result.andThen_ok, List.map_toArray, List.map_cons, List.map_nil, hs, hx, hrun]
  exact h v' w' h2 h3

theorem wpList_app {ops : Array Oper} {rest : List Oper} {o : Oper} {a : Act} {Q : Exit → Act → World → Prop} (hgd : o.guard = none) (s x : Operand) (t : TypeId)
    (ho : o.op = .call { callee := .builtin .append, args := #[s, x], argTypes := #[t, t] })
    (base : Nat) (e : TypeId) (i : TypeInfo) (z : Value) (size bytes : Nat) (ht : P.underlying t = some (.slice e)) (hi : P.info? e = some i) (hz : i.zero = some z)
    (hsize : i.size = size) (hby : i.bytes = bytes) (hzs : z.cells.size = size)
    (v : Value) (n : Nat) (xs : List Value) (hs : a.eval s = v) (hown : w.ownsRow base e size v n xs)
    (A : Option Addr) (m c : Nat) (news : List Value) (hx : a.eval x = .slice A m c) (hl : news.length = m * size) (hA : A = none → m = 0) (hr : Sl w A news) (h1 : ∀ u ∈ news, u.oneCell' = true)
    (h63 : n + m ≤ maxLen) (hbytes : (n + m) * bytes ≤ 140737488355328) (hbase : base ≤ w.heap.size)
    (h : ∀ v' w', w'.ownsRow base e size v' (n + m) (xs ++ news) → Grew size w w' v v' → wpList P ops Q rest (a.put o.dst v') w') : wpList P ops Q (o :: rest) a w :=
  wpList_plain hgd fun _ hK => wp_app w s x t ho base e i z size bytes ht hi hz hsize hby hzs v n xs hs hown A m c news hx hl hA hr h1 h63 hbytes hbase fun v' w' h2 h3 => hK _ _ (h v' w' h2 h3)

theorem step_app {ops : Array Oper} {o : Oper} {a : Act} {K : Act → World → Prop} {Q : Exit → Act → World → Prop} {E : Prop} (hgd : o.guard = none) (s x : Operand) (t : TypeId)
    (ho : o.op = .call { callee := .builtin .append, args := #[s, x], argTypes := #[t, t] })
    (base : Nat) (e : TypeId) (i : TypeInfo) (z : Value) (size bytes : Nat) (ht : P.underlying t = some (.slice e)) (hi : P.info? e = some i) (hz : i.zero = some z)
    (hsize : i.size = size) (hby : i.bytes = bytes) (hzs : z.cells.size = size)
    (v : Value) (n : Nat) (xs : List Value) (hs : a.eval s = v) (hown : w.ownsRow base e size v n xs)
    (A : Option Addr) (m c : Nat) (news : List Value) (hx : a.eval x = .slice A m c) (hl : news.length = m * size) (hA : A = none → m = 0) (hr : Sl w A news) (h1 : ∀ u ∈ news, u.oneCell' = true)
    (h63 : n + m ≤ maxLen) (hbytes : (n + m) * bytes ≤ 140737488355328) (hbase : base ≤ w.heap.size)
    (h : ∀ v' w', w'.ownsRow base e size v' (n + m) (xs ++ news) → Grew size w w' v v' → K (a.put o.dst v') w') :
    if Region.wanted o (yielded ops a.tmps) = true then Oper.wp P o a w K Q else E := by
  have hw : Region.wanted o (yielded ops a.tmps) = true := by simp [Region.wanted, hgd]
  rw [if_pos hw]
  exact wp_app w s x t ho base e i z size bytes ht hi hz hsize hby hzs v n xs hs hown A m c news hx hl hA hr h1 h63 hbytes hbase h
/-- An append whose run is known. -/
theorem wpList_append_run {ops : Array Oper} {rest : List Oper} {o : Oper} {a : Act} {Q : Exit → Act → World → Prop} (hgd : o.guard = none) (s x : Operand) (t t2 : TypeId)
    (ho : o.op = .call { callee := .builtin .append, args := #[s, x], argTypes := #[t, t2] }) (v1 v2 v' : Value) (w' : World) (hs : a.eval s = v1) (hx : a.eval x = v2)
    (hrun : (Builtin.append_ #[t, t2] o.type #[v1, v2]).run P w = .ok v' w') (h : wpList P ops Q rest (a.put o.dst v') w') : wpList P ops Q (o :: rest) a w :=
  wpList_plain hgd fun _ hK => by
    unfold Oper.wp execOp
    simp only [ho, resolve, invoke, builtin, Sem.run_bind, Sem.run_pure, Result.andThen_ok, List.map_toArray, List.map_cons, List.map_nil, hs, hx, hrun]
    exact hK _ _ h
end

end Go.Proofs.Ytplahfhggnkahaa
