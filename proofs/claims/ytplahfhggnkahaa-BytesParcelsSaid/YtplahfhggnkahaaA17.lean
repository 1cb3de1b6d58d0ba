/- append of zeros, copy. -/
import Derived.Test.YtplahfhggnkahaaA16
set_option linter.all false
namespace Go.Ab

section
variable {P : Program} {β : Type} {z : Z} {H : Hp}
theorem run_appendZ (w : World) (t tx ty e : TypeId) (i : TypeInfo) (zv : Value) (k kx : IntKind) (ht : P.underlying t = some (.slice e)) (hk : P.underlying tx = some (.int k)) (hi : P.info? e = some i) (hz : i.zero = some zv)
    (x : Int) (n : Nat) (hx : x = (n : Int)) (h0 : n ≠ 0) (hn : n ≤ 140737488355328) (hb : n * i.bytes ≤ 140737488355328) (hs : n * i.size ≠ 0) :
    (Builtin.append_ #[t, tx] ty #[.slice none 0 0, .int kx x]).run P w =
      .ok (.slice (some ⟨w.heap.size, 0, none⟩) n (grownCap w n 0 e)) (w.drew.alloc (.cells (Builtin.zeroCells zv.cells n ++ Builtin.zeroCells zv.cells (grownCap w n 0 e - n)) e)) := by
  subst hx
  have hw : IntKind.i64.wrap (n : Int) = (n : Int) := by rw [IntKind.wrap_i64]; omega
  have n1 : ¬ ((n : Int) < 0) := by omega
  have n2 : ¬ (281474976710656 < (n : Int) * (i.bytes : Int)) := by
    have : ((n * i.bytes : Nat) : Int) ≤ 140737488355328 := by omega
    rw [Int.natCast_mul] at this
    omega
  have n3 : ¬ (9223372036854775807 < (n : Int)) := by omega
  have n4 : ¬ (281474976710656 < Builtin.nextslicecap n 0 * i.bytes) := by rw [nextslicecap_zero (by omega)]; omega
  simp [Builtin.append_, run_underlying ht, run_underlying hk, sizeOf, typeInfo, zeroValue, hi, hz, asInt, asIntOf, hw, n1, n2, n3, n4, h0, Question.forced, run_firstCells_none, newRow, grownCap]
  exact fun h => absurd h hs
theorem run_appendZ0 (w : World) (t tx ty e : TypeId) (i : TypeInfo) (k kx : IntKind) (ht : P.underlying t = some (.slice e)) (hk : P.underlying tx = some (.int k)) (hi : P.info? e = some i) :
    (Builtin.append_ #[t, tx] ty #[.slice none 0 0, .int kx 0]).run P w = .ok (.slice none 0 0) w := by
  have hw : IntKind.i64.wrap 0 = 0 := by rw [IntKind.wrap_i64]; omega
  simp [Builtin.append_, run_underlying ht, run_underlying hk, sizeOf, typeInfo, hi, asInt, asIntOf, hw]
theorem zero_made (z : Array Value) (n : Nat) : Builtin.zeroCells z n = madeCells z (n * z.size) := rfl
theorem evAppendZ_ok {t tx : TypeId} (ty : TypeId) {a ax : AV} {v vx : Value} {id : Nat} {k : IntKind} {K : AV → Hp → Option β} {r : β} (h : evAppendZ P t a ax id H K = some r) (hH : HRep z H) (hd : ¬ z.D id) (ha : ARep z a v) (hx : ARep z ax vx)
    (hk : P.underlying tx = some (.int k)) : Ok P (Builtin.append_ #[t, tx] ty #[v, vx]) z K r := by
  unfold evAppendZ at h
  split at h
  · rename_i e hu
    obtain ⟨u, h1, h2⟩ := ob_iff.1 h
    obtain ⟨h3, h4⟩ := need_iff.1 h2
    obtain ⟨n, h5, h6⟩ := ob_iff.1 h4
    obtain ⟨m, h7, h8⟩ := Option.bind_eq_some_iff.1 h6
    obtain ⟨t1, t2, _⟩ := ty_ok h1
    split at h8
    · obtain ⟨h9, h10⟩ := need_iff.1 h8
      obtain ⟨h11, h12⟩ := newAt_iff.1 h10
      obtain rfl := ha.v.opq.1
      obtain ⟨i, zv, q1, q2, q3⟩ := zeroOk_ok h3
      obtain ⟨r1, r2⟩ := roomOk_ok h9 q1
      obtain ⟨c1, c2⟩ := (q3 z.w z.M).cells
      have hsz : i.size = u.cells := by rw [t1]; simp [Program.cellsOf, q1]
      have hzs : zv.cells.size = u.cells := by simpa using c1.len
      obtain ⟨kx, rfl⟩ := any?_ok h5 hx
      unfold upto? at h7
      split at h7
      · rename_i hm
        simp only [Option.some.injEq] at h7
        rcases Nat.eq_zero_or_pos m with h0 | h0
        · subst h0
          obtain rfl : n = 0 := by omega
          obtain ⟨z', p1, p2, p3, p4⟩ := hH.newV (b := .rows e u []) h11 hd ⟨rfl, t2⟩
          exact .mk' (by rw [p1]; exact run_appendZ0 z.w t tx ty e i k kx hu hk q1) p2 (.slfV _ _ none p4) p3 h12
        · have hge := grownCap_ge z.w m 0 e
          have hrun := run_appendZ (P := P) z.w t tx ty e i zv k kx hu hk q1 q2 n m (by omega) (by omega) r2 r1 (by rw [hsz]; exact Nat.mul_ne_zero (by omega) (by omega))
          obtain ⟨z', p1, p2, p3, p4⟩ := new_rows (z := z) (w' := z.w.drew.alloc (.cells (Builtin.zeroCells zv.cells m ++ Builtin.zeroCells zv.cells (grownCap z.w m 0 e - m)) e)) (e := e) (l := List.replicate m u.zero) hH h11 hd
            (heap_alloc_new z.w.drew _) (okF0 _) rfl rfl rfl (fun k hk => heap_alloc_old z.w.drew _ _ hk) (by
              rw [List.length_replicate, Array.size_append, size_zeroCells, hzs]
              exact Nat.le_add_right _ _) t2 (fun i x hx => by
              obtain ⟨us, b1, b2⟩ := RowsIn.made c1 m m (Nat.le_refl _) t2 i x hx
              refine ⟨us, b1, fun j v hj => ?_⟩
              have := b2 j v hj
              rw [Array.toList_append, List.getElem?_append_left (by
                have := (List.getElem?_eq_some_iff.1 this).1
                simp only [Array.length_toList, size_madeCells] at this
                rw [Array.length_toList, size_zeroCells, hzs]
                exact this), zero_made, hzs]
              exact this)
          refine .mk' (by rw [p1]; exact hrun) p2 (.slf _ _ _ _ _ _ (by rw [p4, List.length_replicate]) hge ?_ (grownCap_le_maxLen _ _ _ _ (by unfold maxLen; omega))) p3 h12
          rw [Array.size_append, size_zeroCells, size_zeroCells, hzs, ← Nat.add_mul]
          exact Nat.mul_le_mul_right _ (by omega)
      · cases h7
    · cases h8
  · cases h

/-! copy -/
theorem RowsRep.first {u : Ty} {m : List u.den} {v : Value} (h : RowsRep z u m v) (k : Nat) (hk : k ≤ m.length) :
    ∃ css : List (List Value), (Builtin.firstCells u.cells k v).run P z.w = .ok css.flatten.toArray z.w ∧ css.length = k ∧ ∀ (i : Nat) e us, (m.take k)[i]? = some e → css[i]? = some us → Cl z.w z.M u e us := by
  rcases h with ⟨hu, rfl⟩ | ⟨A, c, rfl, hc, hm, hA⟩
  · subst hu
    have hml : (m.take k).length = k := by rw [List.length_take]; omega
    refine ⟨(m.take k).map fun b => [Value.int .u8 (b.toNat : Int)], ?_, by rw [List.length_map, hml], fun i e us h1 h2 => ?_⟩
    · have e1 : (List.map (fun b : UInt8 => [Value.int .u8 (b.toNat : Int)]) (m.take k)).flatten = byteCells ⟨⟨m.take k⟩⟩ := by
        show _ = List.map _ (m.take k)
        generalize (m.take k : List UInt8) = q
        induction q with
        | nil => rfl
        | cons b q ih => simp [ih]
      rw [e1]
      simp only [Builtin.firstCells, Sem.run_pure]
      congr 1
      apply Array.ext'
      simp only [byteCells, Array.toList_map]
      congr 1
      simp [Ty.toL, ByteArray.extract, ByteArray.copySlice]
    · rw [List.getElem?_map] at h2
      obtain ⟨b, h3, rfl⟩ := Option.map_eq_some_iff.1 h2
      have : some e = some b := h1.symm.trans h3
      injection this with this
      subst this
      rfl
  · by_cases h0 : k = 0
    · subst h0
      refine ⟨[], ?_, rfl, fun i e us h => by simp at h⟩
      cases A with
      | none => exact run_firstCells_none z.w u.cells 0 _ c
      | some a => exact run_firstCells_some z.w u.cells 0 a _ c [] (by simp) (fun j v h => by simp at h)
    · obtain ⟨b, off, rfl, _, hr⟩ := hA (by omega)
      have hr' := hr.sub 0 k
      rw [Nat.zero_mul, Nat.add_zero, List.drop_zero] at hr'
      obtain ⟨css, q1, q2, q3⟩ := hr'.cells
      have hml : (m.take k).length = k := by rw [List.length_take]; omega
      have hl : css.flatten.length = k * u.cells := by rw [flatten_len (n := u.cells) (rows_len q1 q2), q1, hml]
      exact ⟨css, run_firstCells_some z.w u.cells _ _ _ _ _ hl (fun j v hj => by rw [addr0]; exact q3 j v hj), by rw [q1, hml], q2⟩
theorem splice_len {α : Type} {l m : List α} {at_ : Nat} (h : at_ + m.length ≤ l.length) : (splice l at_ m).length = l.length := by
  unfold splice
  simp
  omega
theorem splice_get {α : Type} {l m : List α} {at_ : Nat} (h : at_ + m.length ≤ l.length) (i : Nat) : (splice l at_ m)[i]? = if at_ ≤ i ∧ i < at_ + m.length then m[i - at_]? else l[i]? := by
  unfold splice
  have h1 : (l.take at_).length = at_ := by rw [List.length_take]; omega
  by_cases hi : i < at_
  · rw [List.append_assoc, List.getElem?_append_left (by omega), List.getElem?_take_of_lt hi, if_neg (by omega)]
  · rw [List.append_assoc, List.getElem?_append_right (by omega), h1]
    by_cases h2 : i < at_ + m.length
    · rw [List.getElem?_append_left (by omega), if_pos (by omega)]
    · rw [List.getElem?_append_right (by omega), List.getElem?_drop, if_neg (by omega)]
      congr 1
      omega
theorem HRep.reset {id : Nat} {e : Ent} (hg : hget H id = some e) (hH : HRep z H) : HRep z (hset H id (some e)) := by
  refine hH.same (fun k => ?_) fun k => ?_
  · rw [hget_hset]
    by_cases h : k = id
    · subst h; rw [if_pos rfl, hg]
    · rw [if_neg h]
  · rw [hkey_hset]
    by_cases h : k = id
    · subst h; simp [hkey_of_hget hg]
    · simp [h]
theorem lenOf_rows {u : Ty} {m : List u.den} {v : Value} (h : RowsRep z u m v) (w : World) : (Builtin.lenOf v).run P w = .ok m.length w := by
  rcases h with ⟨hu, rfl⟩ | ⟨A, c, rfl, _⟩
  · subst hu; rfl
  · rfl
/-- A slice's elements, some of them written. -/
theorem copy_own {t e ty sT : TypeId} {u : Ty} {l m : List u.den} {e' : TypeId} {x : Value} {id g sz n off dl c : Nat} {K : AV → Hp → Option β} {r : β} (hH : HRep z H) (hg : hget H id = some ⟨false, .rows e' u l⟩) (hρ : z.ρ id = .real g sz n)
    (hu : P.underlying t = some (.slice e)) (hc : u.cells = P.cellsOf e) (hx : RowsRep z u m x) (hdl : off + dl ≤ l.length)
    (h : K (.i .i64 ((min m.length dl : Nat) : Int)) (hset H id (some ⟨false, .rows e' u (splice l off (m.take dl))⟩)) = some r) :
    Ok P (Builtin.copy_ #[t, sT] ty #[.slice (some ⟨g, off * u.cells, none⟩) dl c, x]) z K r := by
  obtain ⟨_, _, _, cs, fr, a1, a2, a3, a4, a5, a6, a7⟩ := hH.real hg hρ
  have hi : ∃ i, P.info? e = some i ∧ i.size = u.cells := by
    have := cells_info hc.symm (by omega)
    obtain ⟨i, h1, h2⟩ := Option.map_eq_some_iff.1 this
    exact ⟨i, h1, h2⟩
  obtain ⟨i, i1, i2⟩ := hi
  obtain ⟨css, f1, f2, f3⟩ := hx.first (P := P) (min m.length dl) (Nat.min_le_left _ _)
  have hmt : m.take (min m.length dl) = m.take dl := by rw [List.take_eq_take_iff]; omega
  have hmtl : (m.take dl).length = min m.length dl := by rw [List.length_take]; omega
  rw [hmt] at f3
  have hfl : css.flatten.length = min m.length dl * u.cells := by rw [flatten_len (n := u.cells) (rows_len (by rw [f2, hmtl]) f3), f2]
  have hfit : off * u.cells + css.flatten.length ≤ cs.size := by
    have : (off + min m.length dl) * u.cells ≤ l.length * u.cells := Nat.mul_le_mul_right _ (by omega)
    rw [Nat.add_mul] at this
    omega
  have hth := there_of (o := off * u.cells) (n := css.flatten.length) a1 a2 hfit
  have h1 : ∀ v ∈ css.flatten, v.oneCell' = true := fun v hv => by
    obtain ⟨us, h1, h2⟩ := List.mem_flatten.1 hv
    obtain ⟨k, hk⟩ := List.getElem?_of_mem h1
    obtain ⟨e, he⟩ := get_of_len (l := m.take dl) (by rw [f2, hmtl]) hk
    exact (f3 k e us he hk).one v h2
  have hst := run_storeCells_cells (P := P) g (off * u.cells) css.flatten 0 z.w (fun j hj => by simpa using (hth j hj).1) (fun j hj => by simpa using (hth j hj).2) h1
  simp only [Nat.add_zero] at hst
  have hrun : (Builtin.copy_ #[t, sT] ty #[.slice (some ⟨g, off * u.cells, none⟩) dl c, x]).run P z.w = .ok (.int .i64 ((min m.length dl : Nat) : Int)) (z.w.setCells g (off * u.cells) css.flatten) := by
    have hmin : Nat.min m.length dl = min m.length dl := rfl
    simp [Builtin.copy_, run_underlying hu, lenOf_rows hx, hmin, sizeOf, typeInfo, i1, i2, f1, hst, goInt]
  obtain ⟨w1, w2, w3, w4⟩ := setCells_same css.flatten z.w g (off * u.cells)
  have hsl : (splice l off (m.take dl)).length = l.length := splice_len (by rw [hmtl]; omega)
  obtain ⟨p1, p2⟩ := hH.write (w' := z.w.setCells g (off * u.cells) css.flatten) (b := .rows e' u (splice l off (m.take dl))) hg hρ w2 w3 w4 w1 (fun b hb => heap_setCells_ne _ _ _ _ _ hb) (fun kk => by
    refine ⟨_, fr, heap_setCells_at _ _ _ _ _ _ _ a1, okF_set a2 (setArr_size _ _ _), by rw [setArr_size]; exact a3, by rw [hsl]; exact a4, by rw [hsl]; exact a5, a6, fun i x hx => ?_⟩
    rw [splice_get (by rw [hmtl]; omega), hmtl] at hx
    by_cases hin : off ≤ i ∧ i < off + min m.length dl
    · rw [if_pos hin] at hx
      obtain ⟨us, b1, b2⟩ := RowsIn.css (by rw [f2, hmtl]) f3 [] _ _ hx
      refine ⟨us, b1.kp kk, fun j v hj => ?_⟩
      have hb := b2 j v hj
      rw [List.append_nil] at hb
      have hbl := (List.getElem?_eq_some_iff.1 hb).1
      obtain ⟨d, hd⟩ : ∃ d, i = off + d := ⟨i - off, by omega⟩
      subst hd
      rw [Nat.add_sub_cancel_left] at hb hbl
      rw [Nat.add_mul, setArr_get _ _ _ _ hfit, if_pos (by omega), ← hb]
      congr 1
      omega
    · rw [if_neg hin] at hx
      obtain ⟨us, b1, b2⟩ := a7 i x hx
      refine ⟨us, b1.kp kk, fun j v hj => ?_⟩
      have hjl : j < u.cells := by
        have := (List.getElem?_eq_some_iff.1 hj).1
        rw [b1.len] at this; exact this
      rw [setArr_get _ _ _ _ hfit, if_neg, b2 j v hj]
      rw [hfl]
      rcases Nat.lt_or_ge i off with hlt | hge
      · have := mul_lt (es := u.cells) hlt hjl
        omega
      · have : (off + min m.length dl) * u.cells ≤ i * u.cells := Nat.mul_le_mul_right _ (by omega)
        rw [Nat.add_mul] at this
        omega)
  exact .mk' (z' := { z with w := z.w.setCells g (off * u.cells) css.flatten }) hrun p1 (.mkI _ _) p2 h
theorem copy_none {t e ty sT : TypeId} {u : Ty} {m : List u.den} {e' : TypeId} {x : Value} {id off : Nat} {A : Option Addr} {K : AV → Hp → Option β} {r : β} {l : List u.den} (hH : HRep z H) (hg : hget H id = some ⟨false, .rows e' u l⟩)
    (hu : P.underlying t = some (.slice e)) (hc : u.cells = P.cellsOf e) (hc0 : 0 < u.cells) (hx : RowsRep z u m x)
    (h : K (.i .i64 ((min m.length 0 : Nat) : Int)) (hset H id (some ⟨false, .rows e' u (splice l off (m.take 0))⟩)) = some r) :
    Ok P (Builtin.copy_ #[t, sT] ty #[.slice A 0 0, x]) z K r := by
  have hi : ∃ i, P.info? e = some i ∧ i.size = u.cells := by
    have := cells_info hc.symm (by omega)
    obtain ⟨i, h1, h2⟩ := Option.map_eq_some_iff.1 this
    exact ⟨i, h1, h2⟩
  obtain ⟨i, i1, i2⟩ := hi
  obtain ⟨css, f1, f2, f3⟩ := hx.first (P := P) 0 (Nat.zero_le _)
  obtain rfl : css = [] := List.eq_nil_of_length_eq_zero f2
  have hs : splice l off (m.take 0) = l := by simp [splice]
  rw [hs] at h
  refine .mk' (z' := z) ?_ (hH.reset hg) (.mkI _ _) (Nx.refl z) h
  have hmin : Nat.min m.length 0 = 0 := Nat.min_eq_right (Nat.zero_le _)
  cases A <;> simp [Builtin.copy_, run_underlying hu, lenOf_rows hx, hmin, sizeOf, typeInfo, i1, i2, f1, goInt, storeCells]
theorem evCopy_ok {t sT : TypeId} (ty : TypeId) {a ax : AV} {v vx : Value} {K : AV → Hp → Option β} {r : β} (h : evCopy P t a ax H K = some r) (hH : HRep z H) (ha : ARep z a v) (hx : ARep z ax vx) :
    Ok P (Builtin.copy_ #[t, sT] ty #[v, vx]) z K r := by
  unfold evCopy at h
  split at h
  · rename_i e hu
    obtain ⟨u, h1, h2⟩ := ob_iff.1 h
    obtain ⟨t1, t2, _⟩ := ty_ok h1
    obtain ⟨m, hm, h3⟩ := rowsOf_ok h2 hH hx
    split at h3
    · rename_i es id
      split at h3
      · rename_i e' t' l hg
        rcases dq_iff h3 with ⟨rfl, h4⟩ | h4
        · obtain ⟨h5, h6⟩ := need_iff.1 h4
          rw [beq_nat] at h5
          subst h5
          cases ha with
          | slfV _ _ A hρ =>
            obtain ⟨rfl, _⟩ := hH.virt hg hρ
            exact copy_none hH hg hu t1 t2 hm h6
          | slf _ _ g sz n c hρ hn hs hm' =>
            have hl : l.length = n := by obtain ⟨_, _, _, cs, fr, a1, a2, a3, a4, _⟩ := hH.real hg hρ; exact a4
            subst hl
            have := copy_own (sT := sT) (ty := ty) (off := 0) (dl := l.length) (c := c) hH hg hρ hu t1 hm (by omega) h6
            rwa [Nat.zero_mul] at this
        · cases h4
      · cases h3
    · rename_i es id off n
      split at h3
      · rename_i e' t' l hg
        rcases dq_iff h3 with ⟨rfl, h4⟩ | h4
        · obtain ⟨h5, h6⟩ := need_iff.1 h4
          simp only [Bool.and_eq_true, beq_nat, Nat.ble_eq] at h5
          obtain ⟨rfl, h7⟩ := h5
          cases ha with
          | slV _ _ _ A hρ => exact copy_none hH hg hu t1 t2 hm h6
          | slE _ _ _ g sz m' o hρ => exact copy_none hH hg hu t1 t2 hm h6
          | sl _ _ _ _ g sz m' c hρ hn hs hm' => exact copy_own hH hg hρ hu t1 hm h7 h6
        · cases h4
      · cases h3
    · cases h3
  · cases h
end
end Go.Ab
