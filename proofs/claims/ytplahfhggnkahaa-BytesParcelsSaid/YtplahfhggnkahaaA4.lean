/- What the abstract values stand for: in a world, over numbers for its blocks. -/
import Derived.Test.YtplahfhggnkahaaA3
import Derived.Deep.MidRow
import Derived.Below
set_option linter.all false
namespace Go.Ab

inductive RB where
  | no
  | virt
  | real (g sz n : Nat)
abbrev Rho := Nat → RB
/-- A world; the blocks that somebody may write; those that this call may write; where its numbers are. -/
structure Z where
  w : World
  M : Nat → Prop
  C : Nat → Prop
  ρ : Rho
  /-- numbers that are others' -/
  D : Nat → Prop

def Cl (w : World) (M : Nat → Prop) : (t : Ty) → t.den → List Value → Prop
  | .int k, n, vs => vs = [.int k n]
  | .byte, c, vs => vs = [.int .u8 (c.toNat : Int)]
  | .bool, b, vs => vs = [.bool b]
  | .str, l, vs => vs = [.string ⟨⟨l⟩⟩]
  | .opq, v, vs => vs = [v] ∧ v.oneCell' = true
  | .nat, _, _ => False
  | .one t, x, vs => Cl w M t x vs
  | .pair a b, x, vs => ∃ u v, vs = u ++ v ∧ Cl w M a x.1 u ∧ Cl w M b x.2 v
  | .arr n t, l, vs => List.length (α := t.den) l = n ∧ ∃ css : List (List Value), css.length = n ∧ vs = css.flatten ∧ ∀ (i : Nat) (e : t.den) u, (show List t.den from l)[i]? = some e → css[i]? = some u → Cl w M t e u
  | .sl t, l, vs => ∃ A c, vs = [.slice A (List.length (α := t.den) l) c] ∧ List.length (α := t.den) l ≤ c ∧ c ≤ maxLen ∧ (A = none → c = 0) ∧
      (List.length (α := t.den) l ≠ 0 → ∃ b off, A = some ⟨b, off, none⟩ ∧ ¬ M b ∧ b < w.heap.size ∧
        ∀ (i : Nat) (e : t.den), (show List t.den from l)[i]? = some e → ∃ u, Cl w M t e u ∧ w.rangeAt b (off + i * t.cells) u)

/-- A value in its form. -/
def VRep (w : World) (M : Nat → Prop) (t : Ty) (x : t.den) (v : Value) : Prop :=
  ∃ vs, Cl w M t x vs ∧ v = (bif t.isAgg then .agg vs.toArray else vs.headD undef)
/-- Pure memory: a row's elements. -/
def RowAt (w : World) (M : Nat → Prop) (b off : Nat) (t : Ty) (l : List t.den) : Prop :=
  ∀ (i : Nat) e, l[i]? = some e → ∃ u, Cl w M t e u ∧ w.rangeAt b (off + i * t.cells) u

inductive ARep (z : Z) : AV → Value → Prop
  | p (t : Ty) (x : t.den) (v : Value) (h : VRep z.w z.M t x v) : ARep z (.p t x) v
  | pt (t : Ty) (l : List t.den) (i j b off : Nat) (hM : ¬ z.M b) (hlt : b < z.w.heap.size) (h : RowAt z.w z.M b off t l) : ARep z (.pt t l i j) (.pointer (some ⟨b, off + i * t.cells + j, none⟩))
  | own (es id i j g sz n : Nat) (h : z.ρ id = .real g sz n) : ARep z (.own es id i j) (.pointer (some ⟨g, i * es + j, none⟩))
  | slV (es id off : Nat) (A : Option Addr) (h : z.ρ id = .virt) : ARep z (.sl es id off 0) (.slice A 0 0)
  | slE (es id off g sz m o : Nat) (h : z.ρ id = .real g sz m) : ARep z (.sl es id off 0) (.slice (some ⟨g, o, none⟩) 0 0)
  | sl (es id off n g sz m c : Nat) (h : z.ρ id = .real g sz m) (hn : n ≤ c) (hs : (off + c) * es ≤ sz) (hm : c ≤ maxLen) : ARep z (.sl es id off n) (.slice (some ⟨g, off * es, none⟩) n c)
  | slfV (es id : Nat) (A : Option Addr) (h : z.ρ id = .virt) : ARep z (.slf es id) (.slice A 0 0)
  | slf (es id g sz n c : Nat) (h : z.ρ id = .real g sz n) (hn : n ≤ c) (hs : c * es ≤ sz) (hm : c ≤ maxLen) : ARep z (.slf es id) (.slice (some ⟨g, 0, none⟩) n c)
  | mp (id g sz n : Nat) (h : z.ρ id = .real g sz n) : ARep z (.mp id) (.map (some g))
  | fn (f : FuncId) (a c : List AV) (va vc : Array Value) (ha : va.size = a.length) (hc : vc.size = c.length)
      (h1 : ∀ (i : Nat) (x : AV) (v : Value), a[i]? = some x → va[i]? = some v → ARep z x v)
      (h2 : ∀ (i : Nat) (x : AV) (v : Value), c[i]? = some x → vc[i]? = some v → ARep z x v) : ARep z (.fn f a c) (.func (.func f) va vc)
  | agg (l : List AV) (cs : Array Value) (hs : cs.size = l.length) (h1 : ∀ v ∈ cs, v.oneCell' = true)
      (h : ∀ (i : Nat) (x : AV) (v : Value), l[i]? = some x → cs[i]? = some v → ARep z x v) : ARep z (.agg l) (.agg cs)
  | tup (l : List AV) (vs : Array Value) (hs : vs.size = l.length)
      (h : ∀ (i : Nat) (x : AV) (v : Value), l[i]? = some x → vs[i]? = some v → ARep z x v) : ARep z (.tup l) (.tuple vs)
  | junk (v : Value) : ARep z .junk v

/-- No cell of the block is frozen. -/
def okF (cs : Array Value) (fr : Nat × Nat) : Prop := fr.1 = fr.2 ∨ cs.size ≤ fr.1
/-- A block's content. -/
def BRep (z : Z) (g sz n : Nat) : Blk → Prop
  | .vars c => ∃ cs e fr, z.w.heap[g]? = some (.cells cs e fr) ∧ okF cs fr ∧ cs.size = sz ∧ c.length = sz ∧ (∀ (i : Nat) a v, c[i]? = some a → cs[i]? = some v → ARep z a v) ∧ ∀ v ∈ cs, v.oneCell' = true
  | .rows e t l => ∃ cs fr, z.w.heap[g]? = some (.cells cs e fr) ∧ okF cs fr ∧ cs.size = sz ∧ l.length = n ∧ l.length * t.cells ≤ sz ∧ 0 < t.cells ∧
      (∀ (i : Nat) x, l[i]? = some x → ∃ u, Cl z.w z.M t x u ∧ ∀ (j : Nat) v, u[j]? = some v → cs[i * t.cells + j]? = some v)
  | .map k v m => ∃ es, z.w.heap[g]? = some (.map es m.2) ∧ es.size = m.1.length ∧ (∀ (i : Nat) x e, m.1[i]? = some x → es[i]? = some e → VRep z.w z.M k x.1.1 e.key ∧ VRep z.w z.M v x.1.2 e.val ∧ e.born = x.2) ∧
      (∀ (i j : Nat) x y, m.1[i]? = some x → m.1[j]? = some y → x.2 = y.2 → i = j) ∧ (∀ (i : Nat) x, m.1[i]? = some x → x.2 < m.2)
  | .fmap k l => ∃ es clock, z.w.heap[g]? = some (.map es clock) ∧ es.size = l.length ∧ (∀ (i : Nat) x e, l[i]? = some x → es[i]? = some e → VRep z.w z.M k x.1 e.key ∧ ARep z x.2 e.val)
def BEmpty : Blk → Prop
  | .rows _ t l => l = [] ∧ 0 < t.cells
  | _ => False
def ERep (z : Z) (id : Nat) (e : Ent) : Prop :=
  match z.ρ id with
  | .no => False
  | .virt => BEmpty e.b
  | .real g sz n => g < z.w.heap.size ∧ (e.fz = false → z.C g) ∧ (e.fz = true → ¬ z.M g) ∧ BRep z g sz n e.b

structure HRep (z : Z) (H : Hp) : Prop where
  ent : ∀ id e, hget H id = some e → ERep z id e
  inj : ∀ id id' e e' g sz n g' sz' n', id ≠ id' → hget H id = some e → hget H id' = some e' → e.fz = false → e'.fz = false → z.ρ id = .real g sz n → z.ρ id' = .real g' sz' n' → g ≠ g'
  fresh : ∀ id, hkey H id = false → z.ρ id = .no ∨ z.D id
  sub : ∀ g, z.C g → z.M g

/-- What a step may change. -/
structure Nx (z z' : Z) : Prop where
  os : z'.w.os = z.w.os
  tape : z'.w.tape = z.w.tape
  output : z'.w.output = z.w.output
  size : z.w.heap.size ≤ z'.w.heap.size
  block : ∀ b, b < z.w.heap.size → ¬ z.C b → z'.w.heap[b]? = z.w.heap[b]?
  subM : ∀ g, z'.M g → z.M g ∨ z.w.heap.size ≤ g
  subC : ∀ g, z'.C g → z.C g ∨ z.w.heap.size ≤ g
  keepM : ∀ g, g < z.w.heap.size → z.M g → ¬ z.C g → z'.M g
  ext : ∀ id, z.ρ id ≠ .no → z'.ρ id = z.ρ id
  dom : z'.D = z.D

theorem Nx.refl (z : Z) : Nx z z := ⟨rfl, rfl, rfl, Nat.le_refl _, fun _ _ _ => rfl, fun _ h => .inl h, fun _ h => .inl h, fun _ _ h _ => h, fun _ _ => rfl, rfl⟩
theorem Nx.trans {z z' z'' : Z} (h : Nx z z') (k : Nx z' z'') : Nx z z'' := by
  have h1 := h.size
  refine ⟨k.os.trans h.os, k.tape.trans h.tape, k.output.trans h.output, Nat.le_trans h.size k.size, fun b hb hC => ?_, fun g hg => ?_, fun g hg => ?_, fun g hg hM hC => ?_, fun id hid => ?_, k.dom.trans h.dom⟩
  · have hC' : ¬ z'.C b := fun hm => by
      rcases h.subC b hm with h2 | h2
      · exact hC h2
      · omega
    rw [k.block b (by omega) hC', h.block b hb hC]
  · rcases k.subM g hg with h2 | h2
    · exact h.subM g h2
    · exact .inr (Nat.le_trans h.size h2)
  · rcases k.subC g hg with h2 | h2
    · exact h.subC g h2
    · exact .inr (Nat.le_trans h.size h2)
  · refine k.keepM g (by omega) (h.keepM g hg hM hC) fun hm => ?_
    rcases h.subC g hm with h2 | h2
    · exact hC h2
    · omega
  · have h1 := h.ext id hid
    rw [← h1]
    exact k.ext id (by rw [h1]; exact hid)

/-! Lengths and forms -/
theorem flatten_len {css : List (List Value)} {n : Nat} (h : ∀ u ∈ css, u.length = n) : css.flatten.length = css.length * n := by
  induction css with
  | nil => simp
  | cons u css ih =>
    simp only [List.flatten_cons, List.length_append, List.length_cons, Nat.succ_mul]
    rw [ih fun u hu => h u (by simp [hu]), h u (by simp)]
    omega
theorem get_of_len {α β : Type} {l : List α} {c : List β} (h : c.length = l.length) {i : Nat} {u : β} (hu : c[i]? = some u) : ∃ e, l[i]? = some e :=
  ⟨_, List.getElem?_eq_getElem (by have := (List.getElem?_eq_some_iff.1 hu).1; omega)⟩
theorem Cl.len {w : World} {M : Nat → Prop} : {t : Ty} → {x : t.den} → {vs : List Value} → Cl w M t x vs → vs.length = t.cells
  | .int _, _, _, h | .byte, _, _, h | .bool, _, _, h | .str, _, _, h => by simp only [Cl] at h; subst h; rfl
  | .opq, _, _, h => by obtain ⟨rfl, _⟩ := h; rfl
  | .nat, _, _, h => h.elim
  | .one t, _, _, h => Cl.len (t := t) h
  | .pair a b, _, _, h => by
    obtain ⟨u, v, rfl, h1, h2⟩ := h
    rw [List.length_append, Cl.len h1, Cl.len h2]; rfl
  | .arr n t, l, _, h => by
    obtain ⟨hn, css, h1, rfl, h2⟩ := h
    rw [flatten_len (n := t.cells), h1]
    · rfl
    · intro u hu
      obtain ⟨i, hi⟩ := List.getElem?_of_mem hu
      obtain ⟨e, he⟩ := get_of_len (l := (show List t.den from l)) (by rw [h1, ← hn]) hi
      exact Cl.len (h2 i e u he hi)
  | .sl t, _, _, h => by obtain ⟨A, c, rfl, _⟩ := h; rfl
theorem Cl.one {w : World} {M : Nat → Prop} : {t : Ty} → {x : t.den} → {vs : List Value} → Cl w M t x vs → ∀ v ∈ vs, v.oneCell' = true
  | .int _, _, _, h | .byte, _, _, h | .bool, _, _, h | .str, _, _, h => by simp only [Cl] at h; subst h; simp [Value.oneCell']
  | .opq, _, _, h => by obtain ⟨rfl, h⟩ := h; simpa using h
  | .nat, _, _, h => h.elim
  | .one t, _, _, h => Cl.one (t := t) h
  | .pair a b, _, _, h => by
    obtain ⟨u, v, rfl, h1, h2⟩ := h
    intro x hx
    rcases List.mem_append.1 hx with hx | hx
    · exact Cl.one h1 x hx
    · exact Cl.one h2 x hx
  | .arr n t, l, _, h => by
    obtain ⟨hn, css, h1, rfl, h2⟩ := h
    intro x hx
    obtain ⟨u, hu, hx⟩ := List.mem_flatten.1 hx
    obtain ⟨i, hi⟩ := List.getElem?_of_mem hu
    obtain ⟨e, he⟩ := get_of_len (l := (show List t.den from l)) (by rw [h1, ← hn]) hi
    exact Cl.one (h2 i e u he hi) x hx
  | .sl t, _, _, h => by obtain ⟨A, c, rfl, _⟩ := h; simp [Value.oneCell']

theorem World.rangeAt.same {w w' : World} {b o : Nat} {vs : List Value} (h : w.rangeAt b o vs) (he : w'.heap[b]? = w.heap[b]?) : w'.rangeAt b o vs := fun j v hj => by
  rw [World.cell?_of_block (w := w) he]; exact h j v hj
/-- Pure memory stays. -/
theorem Cl.keep {w w' : World} {M M' : Nat → Prop} (hs : w.heap.size ≤ w'.heap.size) (hb : ∀ b, b < w.heap.size → ¬ M b → w'.heap[b]? = w.heap[b]?) (hM : ∀ g, M' g → M g ∨ w.heap.size ≤ g) :
    {t : Ty} → {x : t.den} → {vs : List Value} → Cl w M t x vs → Cl w' M' t x vs
  | .int _, _, _, h | .byte, _, _, h | .bool, _, _, h | .str, _, _, h | .opq, _, _, h => h
  | .nat, _, _, h => h.elim
  | .one t, _, _, h => Cl.keep hs hb hM (t := t) h
  | .pair a b, _, _, h => by
    obtain ⟨u, v, rfl, h1, h2⟩ := h
    exact ⟨u, v, rfl, Cl.keep hs hb hM h1, Cl.keep hs hb hM h2⟩
  | .arr n t, l, _, h => by
    obtain ⟨hn, css, h1, rfl, h2⟩ := h
    exact ⟨hn, css, h1, rfl, fun i e u he hu => Cl.keep hs hb hM (h2 i e u he hu)⟩
  | .sl t, l, _, h => by
    obtain ⟨A, c, rfl, h1, h2, h3, h4⟩ := h
    refine ⟨A, c, rfl, h1, h2, h3, fun h0 => ?_⟩
    obtain ⟨b, off, h5, h6, h7, h8⟩ := h4 h0
    refine ⟨b, off, h5, fun hm => ?_, by omega, fun i e he => ?_⟩
    · rcases hM b hm with h | h
      · exact h6 h
      · omega
    · obtain ⟨u, h9, h10⟩ := h8 i e he
      exact ⟨u, Cl.keep hs hb hM h9, World.rangeAt.same h10 (hb b h7 h6)⟩
theorem RowAt.keep {w w' : World} {M M' : Nat → Prop} (hs : w.heap.size ≤ w'.heap.size) (hb : ∀ b, b < w.heap.size → ¬ M b → w'.heap[b]? = w.heap[b]?) (hM : ∀ g, M' g → M g ∨ w.heap.size ≤ g)
    {b off : Nat} {t : Ty} {l : List t.den} (h : RowAt w M b off t l) (hlt : b < w.heap.size) (hn : ¬ M b) : RowAt w' M' b off t l := fun i e he => by
  obtain ⟨u, h9, h10⟩ := h i e he
  exact ⟨u, Cl.keep hs hb hM h9, World.rangeAt.same h10 (hb b hlt hn)⟩
theorem VRep.keep {w w' : World} {M M' : Nat → Prop} (hs : w.heap.size ≤ w'.heap.size) (hb : ∀ b, b < w.heap.size → ¬ M b → w'.heap[b]? = w.heap[b]?) (hM : ∀ g, M' g → M g ∨ w.heap.size ≤ g)
    {t : Ty} {x : t.den} {v : Value} (h : VRep w M t x v) : VRep w' M' t x v := by
  obtain ⟨vs, h1, h2⟩ := h
  exact ⟨vs, Cl.keep hs hb hM h1, h2⟩

/-- Between two states: pure memory stays, numbers keep their places. -/
structure Kp (z z' : Z) : Prop where
  size : z.w.heap.size ≤ z'.w.heap.size
  block : ∀ b, b < z.w.heap.size → ¬ z.M b → z'.w.heap[b]? = z.w.heap[b]?
  subM : ∀ g, z'.M g → z.M g ∨ z.w.heap.size ≤ g
  ext : ∀ id, z.ρ id ≠ .no → z'.ρ id = z.ρ id
theorem Nx.kp {z z' : Z} (h : Nx z z') (hs : ∀ g, z.C g → z.M g) : Kp z z' := ⟨h.size, fun b hb hM => h.block b hb fun hC => hM (hs b hC), h.subM, h.ext⟩
theorem Kp.refl (z : Z) : Kp z z := ⟨Nat.le_refl _, fun _ _ _ => rfl, fun _ h => .inl h, fun _ _ => rfl⟩
theorem Kp.real {z z' : Z} (k : Kp z z') {id g sz n : Nat} (h : z.ρ id = .real g sz n) : z'.ρ id = .real g sz n := by rw [k.ext id (by rw [h]; intro h; cases h), h]
theorem Kp.virt {z z' : Z} (k : Kp z z') {id : Nat} (h : z.ρ id = .virt) : z'.ρ id = .virt := by rw [k.ext id (by rw [h]; intro h; cases h), h]
theorem Cl.kp {z z' : Z} (k : Kp z z') {t : Ty} {x : t.den} {vs : List Value} (h : Cl z.w z.M t x vs) : Cl z'.w z'.M t x vs := h.keep k.size k.block k.subM
theorem VRep.kp {z z' : Z} (k : Kp z z') {t : Ty} {x : t.den} {v : Value} (h : VRep z.w z.M t x v) : VRep z'.w z'.M t x v := h.keep k.size k.block k.subM
theorem ARep.kp {z z' : Z} {a : AV} {v : Value} (k : Kp z z') (h : ARep z a v) : ARep z' a v := by
  induction h with
  | p t x v h => exact .p t x v (h.kp k)
  | pt t l i j b off hM hlt h =>
    refine .pt t l i j b off (fun hm => ?_) (Nat.lt_of_lt_of_le hlt k.size) (h.keep k.size k.block k.subM hlt hM)
    rcases k.subM b hm with h | h
    · exact hM h
    · omega
  | own es id i j g sz n h => exact .own es id i j g sz n (k.real h)
  | slV es id off A h => exact .slV es id off A (k.virt h)
  | slE es id off g sz m o h => exact .slE es id off g sz m o (k.real h)
  | sl es id off n g sz m c h hn hs hm => exact .sl es id off n g sz m c (k.real h) hn hs hm
  | slfV es id A h => exact .slfV es id A (k.virt h)
  | slf es id g sz n c h hn hs hm => exact .slf es id g sz n c (k.real h) hn hs hm
  | mp id g sz n h => exact .mp id g sz n (k.real h)
  | fn f a c va vc ha hc h1 h2 ih1 ih2 => exact .fn f a c va vc ha hc ih1 ih2
  | agg l cs hs h1 h ih => exact .agg l cs hs h1 ih
  | tup l vs hs h ih => exact .tup l vs hs ih
  | junk v => exact .junk v
theorem BRep.kp {z z' : Z} (k : Kp z z') {g sz n : Nat} {b : Blk} (h : BRep z g sz n b) (hg : z'.w.heap[g]? = z.w.heap[g]?) : BRep z' g sz n b := by
  cases b with
  | vars c =>
    obtain ⟨cs, e, fr, a1, a2, a3, a4, a5, a6⟩ := h
    exact ⟨cs, e, fr, hg.trans a1, a2, a3, a4, fun i a v x y => (a5 i a v x y).kp k, a6⟩
  | rows e t l =>
    obtain ⟨cs, fr, a1, a2, a3, a4, a5, a6, a7⟩ := h
    refine ⟨cs, fr, hg.trans a1, a2, a3, a4, a5, a6, fun i x hx => ?_⟩
    obtain ⟨u, b1, b2⟩ := a7 i x hx
    exact ⟨u, b1.kp k, b2⟩
  | map kt vt m =>
    obtain ⟨es, a1, a2, a3, a4⟩ := h
    exact ⟨es, hg.trans a1, a2, fun i x e q1 q2 => ⟨(a3 i x e q1 q2).1.kp k, (a3 i x e q1 q2).2.1.kp k, (a3 i x e q1 q2).2.2⟩, a4⟩
  | fmap kt l =>
    obtain ⟨es, clock, a1, a2, a3⟩ := h
    exact ⟨es, clock, hg.trans a1, a2, fun i x e q1 q2 => ⟨(a3 i x e q1 q2).1.kp k, (a3 i x e q1 q2).2.kp k⟩⟩
theorem ERep.kp {z z' : Z} (k : Kp z z') {id : Nat} {e : Ent} (h : ERep z id e)
    (hb : ∀ g sz n, z.ρ id = .real g sz n → z'.w.heap[g]? = z.w.heap[g]? ∧ (z.C g → z'.C g)) : ERep z' id e := by
  unfold ERep at *
  cases hρ : z.ρ id with
  | no => rw [hρ] at h; exact h.elim
  | virt => rw [k.virt hρ]; rw [hρ] at h; exact h
  | real g sz n =>
    rw [k.real hρ]
    rw [hρ] at h
    obtain ⟨h1, h2, h3, h4⟩ := h
    obtain ⟨hg, hC⟩ := hb g sz n hρ
    refine ⟨Nat.lt_of_lt_of_le h1 k.size, fun hf => hC (h2 hf), fun hf hm => ?_, h4.kp k hg⟩
    rcases k.subM g hm with h | h
    · exact h3 hf h
    · omega

/-! Finding in heaps -/
theorem beq_nat (a b : Nat) : (Nat.beq a b = true) ↔ a = b := ⟨Nat.eq_of_beq_eq_true, fun h => by subst h; exact Nat.beq_refl a⟩
theorem beq_nat_ff {a b : Nat} (h : a ≠ b) : Nat.beq a b = false := by
  cases hb : Nat.beq a b
  · rfl
  · exact absurd ((beq_nat a b).1 hb) h
theorem hget_hset (H : Hp) (id : Nat) (e : Option Ent) (k : Nat) : hget (hset H id e) k = if k = id then e else hget H k := by
  induction H with
  | nil => by_cases h : k = id
           · subst h; simp [hset, hget, (beq_nat k k).2 rfl]
           · simp [hset, hget, beq_nat_ff (Ne.symm h), h]
  | cons x H ih =>
    obtain ⟨i, y⟩ := x
    by_cases hi : i = id
    · subst hi
      simp only [hset, (beq_nat i i).2 rfl, cond_true, hget]
      by_cases h : k = i
      · subst h; simp [(beq_nat k k).2 rfl]
      · simp [beq_nat_ff (Ne.symm h), h]
    · simp only [hset, beq_nat_ff hi, cond_false, hget, ih]
      by_cases h : i = k
      · subst h; simp [(beq_nat i i).2 rfl, hi]
      · simp [beq_nat_ff h]
theorem hkey_hset (H : Hp) (id : Nat) (e : Option Ent) (k : Nat) : hkey (hset H id e) k = (decide (k = id) || hkey H k) := by
  induction H with
  | nil => by_cases h : k = id
           · subst h; simp [hset, hkey, (beq_nat k k).2 rfl]
           · simp [hset, hkey, beq_nat_ff (Ne.symm h), h]
  | cons x H ih =>
    obtain ⟨i, y⟩ := x
    by_cases hi : i = id
    · subst hi
      simp only [hset, (beq_nat i i).2 rfl, cond_true, hkey]
      by_cases h : k = i
      · subst h; simp [(beq_nat k k).2 rfl]
      · simp [beq_nat_ff (Ne.symm h), h]
    · simp only [hset, beq_nat_ff hi, cond_false, hkey, ih]
      by_cases h : i = k
      · subst h; simp [(beq_nat i i).2 rfl]
      · simp [beq_nat_ff h]
theorem hkey_of_hget {H : Hp} {id : Nat} {e : Ent} (h : hget H id = some e) : hkey H id = true := by
  induction H with
  | nil => cases h
  | cons x H ih =>
    obtain ⟨i, y⟩ := x
    simp only [hget, hkey] at *
    cases hb : Nat.beq i id
    · rw [hb] at h; simp only [cond_false] at *; exact ih h
    · simp
@[simp] theorem bq_true {α : Type} (x y : α) : bq true x y = x := rfl
@[simp] theorem bq_false {α : Type} (x y : α) : bq false x y = y := rfl
theorem dq_iff {β : Type} {t u : Ty} {K : t = u → Option β} {E : Option β} {r : β} (h : dq t u K E = some r) : (∃ e, K e = some r) ∨ E = some r := by
  unfold dq at h
  simp only at h
  split at h
  · exact .inl ⟨_, h⟩
  · exact .inr h
theorem need_iff {β : Type} {b : Bool} {K : Option β} {r : β} : need b K = some r ↔ b = true ∧ K = some r := by cases b <;> simp [need]
theorem ob_iff {α β : Type} {x : Option α} {f : α → Option β} {r : β} : x.ob f = some r ↔ ∃ a, x = some a ∧ f a = some r := by cases x <;> simp [Option.ob]

/-! Changes of the heap -/
section
variable {z : Z} {H : Hp}
theorem HRep.real (hH : HRep z H) {id : Nat} {e : Ent} (h : hget H id = some e) {g sz n : Nat} (hρ : z.ρ id = .real g sz n) :
    g < z.w.heap.size ∧ (e.fz = false → z.C g) ∧ (e.fz = true → ¬ z.M g) ∧ BRep z g sz n e.b := by
  have := hH.ent _ _ h
  unfold ERep at this
  rw [hρ] at this
  exact this
theorem HRep.virt (hH : HRep z H) {id : Nat} {e : Ent} (h : hget H id = some e) (hρ : z.ρ id = .virt) : BEmpty e.b := by
  have := hH.ent _ _ h
  unfold ERep at this
  rw [hρ] at this
  exact this

theorem HRep.ne (hH : HRep z H) {id id' : Nat} {e e' : Ent} {g sz n g' sz' n' : Nat} (hi : id ≠ id') (h : hget H id = some e) (h' : hget H id' = some e') (hf : e'.fz = false) (hρ : z.ρ id = .real g sz n) (hρ' : z.ρ id' = .real g' sz' n') : g ≠ g' := by
  cases he : e.fz
  · exact hH.inj id id' e e' g sz n g' sz' n' hi h h' he hf hρ hρ'
  · rintro rfl
    exact (hH.real h hρ).2.2.1 he (hH.sub _ ((hH.real h' hρ').2.1 hf))
/-- A block's content is another one. -/
theorem HRep.write {id g sz n : Nat} {b0 b : Blk} {w' : World} (hH : HRep z H) (hg : hget H id = some ⟨false, b0⟩) (hρ : z.ρ id = .real g sz n)
    (hos : w'.os = z.w.os) (htape : w'.tape = z.w.tape) (hout : w'.output = z.w.output) (hsz : w'.heap.size = z.w.heap.size) (hne : ∀ b, b ≠ g → w'.heap[b]? = z.w.heap[b]?)
    (hb : Kp z { z with w := w' } → BRep { z with w := w' } g sz n b) : HRep { z with w := w' } (hset H id (some ⟨false, b⟩)) ∧ Nx z { z with w := w' } := by
  have hC := (hH.real hg hρ).2.1 rfl
  have hn : Nx z { z with w := w' } := ⟨hos, htape, hout, Nat.le_of_eq hsz.symm, fun b _ hb => hne b (fun h => hb (h ▸ hC)), fun _ h => .inl h, fun _ h => .inl h, fun _ _ h _ => h, fun _ _ => rfl, rfl⟩
  have hk := hn.kp hH.sub
  refine ⟨⟨fun i e hi => ?_, fun i i' e e' a sa na a' sa' na' hii h1 h2 m1 m2 h3 h4 => ?_, fun i hi => ?_, hH.sub⟩, hn⟩
  · rw [hget_hset] at hi
    by_cases h : i = id
    · subst h
      rw [if_pos rfl] at hi
      injection hi with hi
      subst hi
      unfold ERep
      show match z.ρ i with | .no => False | .virt => BEmpty b | .real g sz n => _
      rw [hρ]
      exact ⟨by show g < w'.heap.size; rw [hsz]; exact (hH.real hg hρ).1, fun _ => hC, (fun h => by cases h), hb hk⟩
    · rw [if_neg h] at hi
      refine (hH.ent _ _ hi).kp hk fun a sa na ha => ⟨hne a (fun hag => ?_), fun h => h⟩
      subst hag
      exact hH.ne h hi hg rfl ha hρ rfl
  · rw [hget_hset] at h1 h2
    have q : ∀ j ee, (if j = id then some (⟨false, b⟩ : Ent) else hget H j) = some ee → ee.fz = false → ∃ ee', hget H j = some ee' ∧ ee'.fz = false := fun j ee hj hf => by
      by_cases h : j = id
      · subst h; exact ⟨_, hg, rfl⟩
      · rw [if_neg h] at hj; exact ⟨_, hj, hf⟩
    obtain ⟨e1, q1, f1⟩ := q _ _ h1 m1
    obtain ⟨e2, q2, f2⟩ := q _ _ h2 m2
    exact hH.inj i i' _ _ _ _ _ _ _ _ hii q1 q2 f1 f2 h3 h4
  · rw [hkey_hset] at hi
    simp at hi
    exact hH.fresh i hi.2

/-- A new block. -/
theorem HRep.new {id g sz n : Nat} {b : Blk} {w' : World} (hH : HRep z H) (hk : hkey H id = false) (hd : ¬ z.D id) (hg : z.w.heap.size ≤ g) (hg' : g < w'.heap.size)
    (hos : w'.os = z.w.os) (htape : w'.tape = z.w.tape) (hout : w'.output = z.w.output) (hsz : z.w.heap.size ≤ w'.heap.size) (hold : ∀ k, k < z.w.heap.size → w'.heap[k]? = z.w.heap[k]?)
    (hb : ∀ z', z'.w = w' → Kp z z' → BRep z' g sz n b) :
    ∃ z', z'.w = w' ∧ HRep z' (hset H id (some ⟨false, b⟩)) ∧ Nx z z' ∧ z'.ρ id = .real g sz n := by
  have hno := (hH.fresh id hk).resolve_right hd
  let z' : Z := ⟨w', fun x => z.M x ∨ x = g, fun x => z.C x ∨ x = g, fun i => if i = id then .real g sz n else z.ρ i, z.D⟩
  have e1 : ∀ i, i ≠ id → z'.ρ i = z.ρ i := fun i hi => if_neg hi
  have e2 : z'.ρ id = .real g sz n := if_pos rfl
  have hn : Nx z z' := ⟨hos, htape, hout, hsz, fun b hb _ => hold b hb, fun x hx => hx.elim .inl fun h => .inr (by rw [h]; exact hg), fun x hx => hx.elim .inl fun h => .inr (by rw [h]; exact hg),
    fun _ _ h _ => .inl h, fun i hi => e1 i (by rintro rfl; exact hi hno), rfl⟩
  have hkp := hn.kp hH.sub
  have hreal : ∀ i e a sa na, hget H i = some e → z.ρ i = .real a sa na → a < z.w.heap.size := fun i e a sa na h1 h2 => (hH.real h1 h2).1
  refine ⟨z', rfl, ⟨fun i e hi => ?_, fun i i' e e' a sa na a' sa' na' hii h1 h2 m1 m2 h3 h4 => ?_, fun i hi => ?_, fun x hx => hx.elim (fun h => .inl (hH.sub x h)) .inr⟩, hn, e2⟩
  · rw [hget_hset] at hi
    by_cases h : i = id
    · subst h
      rw [if_pos rfl] at hi
      injection hi with hi
      subst hi
      unfold ERep
      rw [e2]
      exact ⟨hg', fun _ => .inr rfl, (fun h => by cases h), hb z' rfl hkp⟩
    · rw [if_neg h] at hi
      refine (hH.ent _ _ hi).kp hkp fun a sa na ha => ⟨hold a (hreal _ _ _ _ _ hi ha), .inl⟩
  · rw [hget_hset] at h1 h2
    by_cases hi : i = id
    · have hi' : i' ≠ id := fun h => hii (hi.trans h.symm)
      rw [if_neg hi'] at h2
      rw [hi, e2] at h3
      rw [e1 _ hi'] at h4
      injection h3 with h3
      have := hreal _ _ _ _ _ h2 h4
      omega
    · rw [if_neg hi] at h1
      rw [e1 _ hi] at h3
      by_cases hi' : i' = id
      · rw [hi', e2] at h4
        injection h4 with h4
        have := hreal _ _ _ _ _ h1 h3
        omega
      · rw [if_neg hi'] at h2
        rw [e1 _ hi'] at h4
        exact hH.inj i i' _ _ _ _ _ _ _ _ hii h1 h2 m1 m2 h3 h4
  · rw [hkey_hset] at hi
    simp at hi
    rw [e1 _ hi.1]
    exact hH.fresh i hi.2

/-- A number that nothing stands for: an empty slice. -/
theorem HRep.newV {id : Nat} {b : Blk} (hH : HRep z H) (hk : hkey H id = false) (hd : ¬ z.D id) (hb : BEmpty b) :
    ∃ z', z'.w = z.w ∧ HRep z' (hset H id (some ⟨false, b⟩)) ∧ Nx z z' ∧ z'.ρ id = .virt := by
  have hno := (hH.fresh id hk).resolve_right hd
  let z' : Z := { z with ρ := fun i => if i = id then .virt else z.ρ i }
  have e1 : ∀ i, i ≠ id → z'.ρ i = z.ρ i := fun i hi => if_neg hi
  have e2 : z'.ρ id = .virt := if_pos rfl
  have hn : Nx z z' := ⟨rfl, rfl, rfl, Nat.le_refl _, fun _ _ _ => rfl, fun _ h => .inl h, fun _ h => .inl h, fun _ _ h _ => h, fun i hi => e1 i (by rintro rfl; exact hi hno), rfl⟩
  have hkp := hn.kp hH.sub
  refine ⟨z', rfl, ⟨fun i e hi => ?_, fun i i' e e' a sa na a' sa' na' hii h1 h2 m1 m2 h3 h4 => ?_, fun i hi => ?_, hH.sub⟩, hn, e2⟩
  · rw [hget_hset] at hi
    by_cases h : i = id
    · subst h
      rw [if_pos rfl] at hi
      injection hi with hi
      subst hi
      unfold ERep
      rw [e2]
      exact hb
    · rw [if_neg h] at hi
      exact (hH.ent _ _ hi).kp hkp fun a sa na ha => ⟨rfl, fun h => h⟩
  · rw [hget_hset] at h1 h2
    by_cases hi : i = id
    · rw [hi, e2] at h3; cases h3
    · by_cases hi' : i' = id
      · rw [hi', e2] at h4; cases h4
      · rw [if_neg hi] at h1
        rw [if_neg hi'] at h2
        rw [e1 _ hi] at h3
        rw [e1 _ hi'] at h4
        exact hH.inj i i' _ _ _ _ _ _ _ _ hii h1 h2 m1 m2 h3 h4
  · rw [hkey_hset] at hi
    simp at hi
    rw [e1 _ hi.1]
    exact hH.fresh i hi.2

/-- A block is forgotten. -/
theorem HRep.kill (id : Nat) (hH : HRep z H) : HRep z (hset H id none) := by
  have q : ∀ j ee, hget (hset H id none) j = some ee → hget H j = some ee := fun j ee hj => by
    rw [hget_hset] at hj
    by_cases h : j = id
    · rw [if_pos h] at hj; cases hj
    · rwa [if_neg h] at hj
  refine ⟨fun i e hi => hH.ent _ _ (q _ _ hi), fun i i' e e' a sa na a' sa' na' hii h1 h2 m1 m2 h3 h4 => hH.inj i i' _ _ _ _ _ _ _ _ hii (q _ _ h1) (q _ _ h2) m1 m2 h3 h4, fun i hi => ?_, hH.sub⟩
  rw [hkey_hset] at hi
  simp at hi
  exact hH.fresh i hi.2

/-- A block that nobody writes any more. -/
theorem frz_ok (id : Nat) (hH : HRep z H) : ∃ z', z'.w = z.w ∧ HRep z' (frz H id) ∧ Nx z z' ∧ z'.ρ = z.ρ := by
  unfold frz
  split
  · rename_i e he
    have qm : ∀ j ee, (if j = id then some (⟨true, e.b⟩ : Ent) else hget H j) = some ee → ee.fz = false → hget H j = some ee ∧ j ≠ id := fun j ee hj hf => by
      by_cases h : j = id
      · rw [if_pos h] at hj
        injection hj with hj
        rw [← hj] at hf
        cases hf
      · rw [if_neg h] at hj; exact ⟨hj, h⟩
    have hinj : ∀ i i' (ee ee' : Ent) g sz n g' sz' n', i ≠ i' → hget (hset H id (some ⟨true, e.b⟩)) i = some ee → hget (hset H id (some ⟨true, e.b⟩)) i' = some ee' → ee.fz = false → ee'.fz = false → z.ρ i = .real g sz n → z.ρ i' = .real g' sz' n' → g ≠ g' := fun i i' ee ee' a sa na a' sa' na' hii h1 h2 m1 m2 h3 h4 => by
      rw [hget_hset] at h1 h2
      exact hH.inj i i' _ _ _ _ _ _ _ _ hii (qm _ _ h1 m1).1 (qm _ _ h2 m2).1 m1 m2 h3 h4
    have hfresh : ∀ i, hkey (hset H id (some ⟨true, e.b⟩)) i = false → z.ρ i = .no ∨ z.D i := fun i hi => by
      rw [hkey_hset] at hi
      simp at hi
      exact hH.fresh i hi.2
    by_cases hz : ∃ g sz n, z.ρ id = .real g sz n
    · obtain ⟨g, sz, n, hρ⟩ := hz
      by_cases hfz : e.fz = true
      · refine ⟨z, rfl, ⟨fun i ee hi => ?_, hinj, hfresh, hH.sub⟩, Nx.refl z, rfl⟩
        rw [hget_hset] at hi
        by_cases h : i = id
        · subst h
          rw [if_pos rfl] at hi
          injection hi with hi
          subst hi
          have := hH.ent _ _ he
          unfold ERep at *
          rw [hfz] at this
          exact this
        · rw [if_neg h] at hi; exact hH.ent _ _ hi
      · have hff : e.fz = false := by simpa using hfz
        have hC : z.C g := (hH.real he hρ).2.1 hff
        let z' : Z := { z with M := fun x => z.M x ∧ x ≠ g, C := fun x => z.C x ∧ x ≠ g }
        have hn : Nx z z' := ⟨rfl, rfl, rfl, Nat.le_refl _, fun _ _ _ => rfl, fun x hx => .inl hx.1, fun x hx => .inl hx.1, fun x _ hM hx => ⟨hM, fun h => hx (h ▸ hC)⟩, fun _ _ => rfl, rfl⟩
        have hkp := hn.kp hH.sub
        refine ⟨z', rfl, ⟨fun i ee hi => ?_, hinj, hfresh, fun x hx => ⟨hH.sub x hx.1, hx.2⟩⟩, hn, rfl⟩
        rw [hget_hset] at hi
        by_cases h : i = id
        · subst h
          rw [if_pos rfl] at hi
          injection hi with hi
          subst hi
          obtain ⟨h1, h2, h3, h4⟩ := hH.real he hρ
          unfold ERep
          rw [show z'.ρ i = .real g sz n from hρ]
          exact ⟨h1, (fun h => by cases h), fun _ h => h.2 rfl, h4.kp hkp rfl⟩
        · rw [if_neg h] at hi
          have h0 := hH.ent _ _ hi
          unfold ERep at h0 ⊢
          cases hρi : z.ρ i with
          | no => rw [hρi] at h0; exact h0.elim
          | virt => rw [hρi] at h0; exact h0
          | real a sa na =>
            rw [hρi] at h0
            obtain ⟨b1, b2, b3, b4⟩ := h0
            exact ⟨b1, fun hf => ⟨b2 hf, hH.ne h hi he hff hρi hρ⟩, fun hf hm => b3 hf hm.1, b4.kp hkp rfl⟩
    · refine ⟨z, rfl, ⟨fun i ee hi => ?_, hinj, hfresh, hH.sub⟩, Nx.refl z, rfl⟩
      rw [hget_hset] at hi
      by_cases h : i = id
      · subst h
        rw [if_pos rfl] at hi
        injection hi with hi
        subst hi
        have h0 := hH.ent _ _ he
        unfold ERep at *
        cases hρ : z.ρ i with
        | no => rw [hρ] at h0; exact h0
        | virt => rw [hρ] at h0; exact h0
        | real g sz n => exact absurd ⟨g, sz, n, hρ⟩ hz
      · rw [if_neg h] at hi
        exact hH.ent _ _ hi
  · exact ⟨z, rfl, hH, Nx.refl z, rfl⟩
theorem frzA_ok (a : AV) (hH : HRep z H) : ∃ z', z'.w = z.w ∧ HRep z' (frzA H a) ∧ Nx z z' ∧ z'.ρ = z.ρ := by
  unfold frzA
  split
  · exact frz_ok _ hH
  · exact frz_ok _ hH
  · exact frz_ok _ hH
  · exact ⟨z, rfl, hH, Nx.refl z, rfl⟩
end
end Go.Ab
