/- Operations that make memory. -/
import Derived.Test.YtplahfhggnkahaaA13
import Derived.Deep.AppendSrc
import Derived.Laws.MakeOwn
import Derived.Great.BuildSlice
set_option linter.all false
namespace Go.Ab

section
variable {P : Program} {β : Type} {z : Z} {H : Hp}
/-- A list's elements lie in cells, from the first on. -/
def RowsIn (w : World) (M : Nat → Prop) (u : Ty) (l : List u.den) (cs : List Value) : Prop :=
  ∀ (i : Nat) x, l[i]? = some x → ∃ us, Cl w M u x us ∧ ∀ (j : Nat) v, us[j]? = some v → cs[i * u.cells + j]? = some v
theorem RowsIn.kp {z' : Z} (k : Kp z z') {u : Ty} {l : List u.den} {cs : List Value} (h : RowsIn z.w z.M u l cs) : RowsIn z'.w z'.M u l cs := fun i x hx => by
  obtain ⟨us, h1, h2⟩ := h i x hx
  exact ⟨us, h1.kp k, h2⟩
theorem flat_get {c : Nat} : ∀ {css : List (List Value)}, (∀ u ∈ css, u.length = c) → ∀ {k : Nat} {us : List Value}, css[k]? = some us → ∀ {q : Nat} {w : Value}, us[q]? = some w → css.flatten[k * c + q]? = some w
  | [], _, k, us, h, _, _, _ => by simp at h
  | u :: css, hl, 0, us, h, q, w, hq => by
    simp at h
    subst h
    rw [List.flatten_cons, Nat.zero_mul, Nat.zero_add, List.getElem?_append_left (List.getElem?_eq_some_iff.1 hq).1]
    exact hq
  | u :: css, hl, k + 1, us, h, q, w, hq => by
    have hc := hl u (by simp)
    rw [List.flatten_cons, List.getElem?_append_right (by rw [Nat.succ_mul]; omega)]
    have := flat_get (fun u hu => hl u (List.mem_cons_of_mem _ hu)) (by simpa using h) hq
    rw [← this]
    congr 1
    rw [Nat.succ_mul]; omega
theorem rows_len {w : World} {M : Nat → Prop} {u : Ty} {l : List u.den} {css : List (List Value)} (hl : css.length = l.length) (h : ∀ (i : Nat) e us, l[i]? = some e → css[i]? = some us → Cl w M u e us) : ∀ us ∈ css, us.length = u.cells := fun us hu => by
  obtain ⟨k, hk⟩ := List.getElem?_of_mem hu
  obtain ⟨e, he⟩ := get_of_len (l := l) hl hk
  exact (h k e us he hk).len
theorem RowsIn.css {w : World} {M : Nat → Prop} {u : Ty} {l : List u.den} {css : List (List Value)} (hl : css.length = l.length) (h : ∀ (i : Nat) e us, l[i]? = some e → css[i]? = some us → Cl w M u e us)
    (rest : List Value) : RowsIn w M u l (css.flatten ++ rest) := fun i x hx => by
  have hi : i < css.length := by rw [hl]; exact (List.getElem?_eq_some_iff.1 hx).1
  refine ⟨css[i], h i x _ hx (List.getElem?_eq_getElem hi), fun j v hj => ?_⟩
  have := flat_get (rows_len hl h) (List.getElem?_eq_getElem hi) hj
  rw [List.getElem?_append_left (List.getElem?_eq_some_iff.1 this).1]
  exact this
theorem RowsIn.arr {w : World} {M : Nat → Prop} {u : Ty} {n : Nat} {l : List u.den} {cs : List Value} (h : Cl w M (.arr n u) l cs) : RowsIn w M u l cs := by
  obtain ⟨hn, css, h1, rfl, h2⟩ := h
  have := RowsIn.css (l := l) (by rw [h1]; exact hn.symm) h2 []
  rwa [List.append_nil] at this
theorem Cl.arr {w : World} {M : Nat → Prop} {u : Ty} {l : List u.den} {css : List (List Value)} (hl : css.length = l.length) (h : ∀ (i : Nat) e us, l[i]? = some e → css[i]? = some us → Cl w M u e us) :
    Cl w M (.arr l.length u) l css.flatten := ⟨rfl, css, hl, rfl, h⟩

theorem newAt_iff {id : Nat} {b : Blk} {K : Hp → Option β} {r : β} : newAt H id b K = some r ↔ hkey H id = false ∧ K (hset H id (some ⟨false, b⟩)) = some r := by
  unfold newAt
  cases hkey H id <;> simp
/-- A new row. -/
theorem new_rows {id : Nat} {cs : Array Value} {e : TypeId} {fr : Nat × Nat} {w' : World} {u : Ty} {l : List u.den} (hH : HRep z H) (hk : hkey H id = false) (hd : ¬ z.D id) (hw : w'.heap[z.w.heap.size]? = some (.cells cs e fr)) (hf : okF cs fr)
    (hos : w'.os = z.w.os) (htape : w'.tape = z.w.tape) (hout : w'.output = z.w.output) (hold : ∀ k, k < z.w.heap.size → w'.heap[k]? = z.w.heap[k]?) (hl : l.length * u.cells ≤ cs.size) (h0 : 0 < u.cells) (hr : RowsIn z.w z.M u l cs.toList) :
    ∃ z', z'.w = w' ∧ HRep z' (hset H id (some ⟨false, .rows e u l⟩)) ∧ Nx z z' ∧ z'.ρ id = .real z.w.heap.size cs.size l.length := by
  have hlt : z.w.heap.size < w'.heap.size := (Array.getElem?_eq_some_iff.1 hw).1
  refine hH.new hk hd (Nat.le_refl _) hlt hos htape hout (Nat.le_of_lt hlt) hold fun z' hz k => ?_
  subst hz
  refine ⟨cs, fr, hw, hf, rfl, rfl, hl, h0, fun i x hx => ?_⟩
  obtain ⟨us, h1, h2⟩ := hr.kp k i x hx
  exact ⟨us, h1, fun j v hj => by simpa using h2 j v hj⟩
/-- A new variable. -/
theorem new_vars {id : Nat} {cs : Array Value} {e : TypeId} {fr : Nat × Nat} {w' : World} {c : List AV} (hH : HRep z H) (hk : hkey H id = false) (hd : ¬ z.D id) (hw : w'.heap[z.w.heap.size]? = some (.cells cs e fr)) (hf : okF cs fr)
    (hos : w'.os = z.w.os) (htape : w'.tape = z.w.tape) (hout : w'.output = z.w.output) (hold : ∀ k, k < z.w.heap.size → w'.heap[k]? = z.w.heap[k]?) (hr : AReps z c cs.toList) (h1 : ∀ u ∈ cs, u.oneCell' = true) :
    ∃ z', z'.w = w' ∧ HRep z' (hset H id (some ⟨false, .vars c⟩)) ∧ Nx z z' ∧ z'.ρ id = .real z.w.heap.size cs.size cs.size := by
  have hlt : z.w.heap.size < w'.heap.size := (Array.getElem?_eq_some_iff.1 hw).1
  refine hH.new hk hd (Nat.le_refl _) hlt hos htape hout (Nat.le_of_lt hlt) hold fun z' hz k => ?_
  subst hz
  refine ⟨cs, e, fr, hw, hf, rfl, by have := hr.1; simpa using this, fun i a v p q => (hr.2 i a v p (by simpa using q)).kp k, h1⟩
theorem okF0 (cs : Array Value) : okF cs (0, 0) := .inl rfl

theorem Ok.mk' {s : Sem Value} {K : AV → Hp → Option β} {r : β} {x : AV} {v : Value} {H' : Hp} {z' : Z} (h : s.run P z.w = .ok v z'.w) (hH : HRep z' H') (ha : ARep z' x v) (hn : Nx z z') (hK : K x H' = some r) : Ok P s z K r := ⟨x, v, H', z', h, hH, ha, hn, hK⟩

theorem run_box (w : World) (t : TypeId) (v : Value) : (Instr.box t v).run P w = .ok (.pointer (some ⟨w.heap.size, 0, none⟩)) (w.alloc (.cells v.cells t)) := rfl
theorem run_alloc_any {t : TypeId} {i : TypeInfo} {v : Value} (h1 : P.info? t = some i) (h3 : i.zero = some v) (w : World) : (Instr.alloc t true (.tuple #[])).run P w = .ok (.pointer (some ⟨w.heap.size, 0, none⟩)) (w.alloc (.cells v.cells t)) := by
  unfold Instr.alloc
  rw [Sem.run_bind, run_zero h1 h3]
  rfl
theorem evAlloc_ok {t : TypeId} {id : Nat} {K : AV → Hp → Option β} {r : β} (h : evAlloc P t id H K = some r) (hH : HRep z H) (hd : ¬ z.D id) : Ok P (Instr.alloc t true (.tuple #[])) z K r := by
  unfold evAlloc at h
  split at h
  · rename_i n e hu
    obtain ⟨u, h1, h2⟩ := ob_iff.1 h
    obtain ⟨h3, h4⟩ := need_iff.1 h2
    obtain ⟨h5, h6⟩ := newAt_iff.1 h4
    obtain ⟨t1, t2, _⟩ := ty_ok h1
    obtain ⟨i, v, q1, q2, q3⟩ := zeroOk_ok h3
    obtain ⟨c1, c2⟩ := (q3 z.w z.M).cells
    have hl : v.cells.size = n * u.cells := by simpa [Ty.cells] using c1.len
    obtain ⟨z', p1, p2, p3, p4⟩ := new_rows (z := z) (w' := z.w.alloc (.cells v.cells t)) (e := t) (l := List.replicate n u.zero) hH h5 hd (heap_alloc_new _ _) (okF0 _) rfl rfl rfl (fun k hk => heap_alloc_old _ _ _ hk)
      (by rw [List.length_replicate, hl]; exact Nat.le_refl _) t2 (.arr c1)
    refine .mk' (by rw [p1]; exact run_alloc_any q1 q2 z.w) p2 (x := .own u.cells id 0 0) ?_ p3 h6
    have := ARep.own (z := z') u.cells id 0 0 _ _ _ p4
    simpa using this
  · obtain ⟨l, h1, h2⟩ := ob_iff.1 h
    obtain ⟨h5, h6⟩ := newAt_iff.1 h2
    obtain ⟨i, v, q1, q2, q3, q4⟩ := zeroOf_ok (z := z) h1
    obtain ⟨z', p1, p2, p3, p4⟩ := new_vars (z := z) (w' := z.w.alloc (.cells v.cells t)) hH h5 hd (heap_alloc_new _ _) (okF0 _) rfl rfl rfl (fun k hk => heap_alloc_old _ _ _ hk) q3 q4
    refine .mk' (by rw [p1]; exact run_alloc_any q1 q2 z.w) p2 (x := .own 0 id 0 0) ?_ p3 h6
    have := ARep.own (z := z') 0 id 0 0 _ _ _ p4
    simpa using this
theorem evBox_ok {t : TypeId} {a : AV} {v : Value} {id : Nat} {K : AV → Hp → Option β} {r : β} (h : evBox P t a id H K = some r) (hH : HRep z H) (hd : ¬ z.D id) (ha : ARep z a v) : Ok P (Instr.box t v) z K r := by
  unfold evBox at h
  split at h
  · rename_i n e hu
    obtain ⟨u, h1, h2⟩ := ob_iff.1 h
    obtain ⟨⟨a', H1⟩, h3, h4⟩ := ob_iff.1 h2
    obtain ⟨z1, s1, s2, s3, s4, s5⟩ := pureA_ok hH h3 ha
    obtain ⟨l, h5, h6⟩ := asA_ok h4 s5
    obtain ⟨h7, h8⟩ := need_iff.1 h6
    obtain ⟨h9, h10⟩ := newAt_iff.1 h8
    rw [beq_nat] at h7
    obtain ⟨t1, t2, _⟩ := ty_ok h1
    obtain ⟨c1, c2⟩ := h5.cells
    have hl : v.cells.size = n * u.cells := by simpa [Ty.cells] using c1.len
    obtain ⟨z', p1, p2, p3, p4⟩ := new_rows (z := z1) (w' := z1.w.alloc (.cells v.cells t)) (e := t) (l := l) s2 h9 (by rw [s3.dom]; exact hd) (heap_alloc_new _ _) (okF0 _) rfl rfl rfl (fun k hk => heap_alloc_old _ _ _ hk)
      (by rw [h7, hl]; exact Nat.le_refl _) t2 (.arr c1)
    refine .mk' (by rw [p1, s1]; exact run_box z.w t v) p2 (x := .own u.cells id 0 0) ?_ (s3.trans p3) h10
    have := ARep.own (z := z') u.cells id 0 0 _ _ _ p4
    simpa [s1] using this
  · obtain ⟨l, h1, h2⟩ := ob_iff.1 h
    obtain ⟨h5, h6⟩ := newAt_iff.1 h2
    obtain ⟨q1, q2, _⟩ := cellsA_ok h1 ha
    obtain ⟨z', p1, p2, p3, p4⟩ := new_vars (z := z) (w' := z.w.alloc (.cells v.cells t)) hH h5 hd (heap_alloc_new _ _) (okF0 _) rfl rfl rfl (fun k hk => heap_alloc_old _ _ _ hk) q1 q2
    refine .mk' (by rw [p1]; exact run_box z.w t v) p2 (x := .own 0 id 0 0) ?_ p3 h6
    have := ARep.own (z := z') 0 id 0 0 _ _ _ p4
    simpa using this

/-! make -/
theorem made_get (zs : Array Value) (n k : Nat) (hk : k < n) (h : 0 < zs.size) : (madeCells zs n)[k]? = zs[k % zs.size]? := by
  have hm := Nat.mod_lt k h
  simp [madeCells, hk, hm]
theorem RowsIn.made {w : World} {M : Nat → Prop} {u : Ty} {zs : Array Value} (hc : Cl w M u u.zero zs.toList) (n m : Nat) (hnm : n ≤ m) (h0 : 0 < u.cells) : RowsIn w M u (List.replicate n u.zero) (madeCells zs (m * u.cells)).toList := fun i x hx => by
  have hi : i < n := by
    have := (List.getElem?_eq_some_iff.1 hx).1
    simpa using this
  obtain rfl : u.zero = x := by
    rw [List.getElem?_replicate] at hx
    simpa [hi] using hx
  refine ⟨_, hc, fun j v hj => ?_⟩
  have hl : zs.size = u.cells := by simpa using hc.len
  have hjl : j < u.cells := by
    have := (List.getElem?_eq_some_iff.1 hj).1
    simpa [hl] using this
  have hlt := mul_lt (es := u.cells) (show i < m by omega) hjl
  rw [Array.getElem?_toList, made_get _ _ _ hlt (by omega), hl, Nat.mul_comm i, Nat.mul_add_mod, Nat.mod_eq_of_lt hjl]
  simpa using hj
theorem evMake_ok {t : TypeId} {al ac : AV} {vl vc : Value} {id : Nat} {K : AV → Hp → Option β} {r : β} (h : evMake P t al ac id H K = some r) (hH : HRep z H) (hd : ¬ z.D id) (hl : ARep z al vl) (hc : ARep z ac vc) :
    Ok P (Instr.makeSlice t vl vc) z K r := by
  unfold evMake at h
  split at h
  · rename_i e hu
    obtain ⟨n, h1, h2⟩ := ob_iff.1 h
    obtain ⟨m, h3, h4⟩ := ob_iff.1 h2
    obtain ⟨m', h5, h6⟩ := Option.bind_eq_some_iff.1 h4
    obtain ⟨n', h7, h8⟩ := Option.bind_eq_some_iff.1 h6
    obtain ⟨u, h9, h10⟩ := ob_iff.1 h8
    obtain ⟨h11, h12⟩ := need_iff.1 h10
    obtain ⟨h13, h14⟩ := newAt_iff.1 h12
    simp only [Bool.and_eq_true, Nat.ble_eq] at h11
    obtain ⟨h15, h16⟩ := h11
    obtain ⟨kl, rfl⟩ := any?_ok h1 hl
    obtain ⟨kc, rfl⟩ := any?_ok h3 hc
    unfold upto? at h5 h7
    split at h5
    · rename_i hm
      split at h7
      · rename_i hn
        simp only [Option.some.injEq] at h5 h7
        obtain ⟨t1, t2, _⟩ := ty_ok h9
        obtain ⟨i, v, q1, q2, q3⟩ := zeroOk_ok h15
        obtain ⟨c1, c2⟩ := (q3 z.w z.M).cells
        have hb : P.bytesOf e = i.bytes := by simp [Program.bytesOf, q1]
        have hsz : i.size = u.cells := by
          rw [t1]; simp [Program.cellsOf, q1]
        have hroom : room = 140737488355328 := rfl
        have hbytes : (i.bytes : Int) * m ≤ 281474976710656 := by
          rw [hb, hroom] at h16
          have e1 : m = (m' : Int) := by omega
          have e2 : ((m' * i.bytes : Nat) : Int) ≤ 140737488355328 := by omega
          rw [e1, Int.mul_comm]
          rw [Int.natCast_mul] at e2
          omega
        have hrun := run_make (P := P) z.w t e i v hu q1 q2 kl kc n m hn.1 (by omega) hbytes (by rw [hroom] at hm; omega)
        rw [hsz] at hrun
        have hnm : n' ≤ m' := by omega
        obtain ⟨z', p1, p2, p3, p4⟩ := new_rows (z := z) (w' := z.w.alloc (.cells (madeCells v.cells (m.toNat * u.cells)) e)) (e := e) (l := List.replicate n' u.zero) hH h13 hd (heap_alloc_new _ _) (okF0 _) rfl rfl rfl (fun k hk => heap_alloc_old _ _ _ hk)
          (by rw [List.length_replicate, size_madeCells]; exact Nat.mul_le_mul_right _ (by omega)) t2 (RowsIn.made c1 n' m.toNat (by omega) t2)
        refine .mk' (by rw [p1]; exact hrun) p2 (x := .slf u.cells id) ?_ p3 h14
        rw [h7]
        refine .slf _ _ _ _ _ _ (by rw [p4, List.length_replicate]) (by omega) (by rw [size_madeCells]; exact Nat.le_refl _) ?_
        rw [hroom] at hm
        unfold maxLen
        omega
      · cases h7
    · cases h5
  · cases h
end
end Go.Ab
