/- append. -/
import Derived.Test.YtplahfhggnkahaaA15
import Derived.Deep.Upon
set_option linter.all false
namespace Go.Ab

section
variable {P : Program} {β : Type} {z : Z} {H : Hp}
/-- A block goes on under another number, with another content. -/
theorem HRep.move {old id g sz n n' : Nat} {b0 b : Blk} {w' : World} (hH : HRep z H) (hg : hget H old = some ⟨false, b0⟩) (hρ : z.ρ old = .real g sz n) (hk : hkey (hset H old none) id = false) (hd : ¬ z.D id)
    (hos : w'.os = z.w.os) (htape : w'.tape = z.w.tape) (hout : w'.output = z.w.output) (hsz : w'.heap.size = z.w.heap.size) (hne : ∀ b, b ≠ g → w'.heap[b]? = z.w.heap[b]?)
    (hb : ∀ z', z'.w = w' → Kp z z' → BRep z' g sz n' b) :
    ∃ z', z'.w = w' ∧ HRep z' (hset (hset H old none) id (some ⟨false, b⟩)) ∧ Nx z z' ∧ z'.ρ id = .real g sz n' := by
  have hC := (hH.real hg hρ).2.1 rfl
  rw [hkey_hset] at hk
  simp only [Bool.or_eq_false_iff, decide_eq_false_iff_not] at hk
  have hno := (hH.fresh id hk.2).resolve_right hd
  let z' : Z := { z with w := w', ρ := fun i => if i = id then .real g sz n' else z.ρ i }
  have e1 : ∀ i, i ≠ id → z'.ρ i = z.ρ i := fun i hi => if_neg hi
  have e2 : z'.ρ id = .real g sz n' := if_pos rfl
  have hn : Nx z z' := ⟨hos, htape, hout, Nat.le_of_eq hsz.symm, fun b _ hb => hne b (fun h => hb (h ▸ hC)), fun _ h => .inl h, fun _ h => .inl h, fun _ _ h _ => h, fun i hi => e1 i (by rintro rfl; exact hi hno), rfl⟩
  have hkp := hn.kp hH.sub
  have hold : ∀ i e, i ≠ id → hget (hset (hset H old none) id (some ⟨false, b⟩)) i = some e → hget H i = some e ∧ i ≠ old := fun i e hi h => by
    rw [hget_hset, if_neg hi, hget_hset] at h
    by_cases ho : i = old
    · rw [if_pos ho] at h; cases h
    · rw [if_neg ho] at h; exact ⟨h, ho⟩
  refine ⟨z', rfl, ⟨fun i e hi => ?_, fun i i' e e' a sa na a' sa' na' hii h1 h2 m1 m2 h3 h4 => ?_, fun i hi => ?_, hH.sub⟩, hn, e2⟩
  · by_cases h : i = id
    · subst h
      rw [hget_hset, if_pos rfl] at hi
      injection hi with hi
      subst hi
      unfold ERep
      rw [e2]
      exact ⟨by show g < w'.heap.size; rw [hsz]; exact (hH.real hg hρ).1, fun _ => hC, (fun h => by cases h), hb z' rfl hkp⟩
    · obtain ⟨hi, ho⟩ := hold i e h hi
      refine (hH.ent _ _ hi).kp hkp fun a sa na ha => ⟨hne a (fun hag => ?_), fun h => h⟩
      subst hag
      exact hH.ne ho hi hg rfl ha hρ rfl
  · by_cases hi : i = id
    · have hi' : i' ≠ id := fun h => hii (hi.trans h.symm)
      obtain ⟨h2, ho⟩ := hold i' e' hi' h2
      rw [hi, e2] at h3
      rw [e1 _ hi'] at h4
      injection h3 with h3
      subst h3
      exact hH.inj old i' _ _ _ _ _ _ _ _ (Ne.symm ho) hg h2 rfl m2 hρ h4
    · obtain ⟨h1, ho⟩ := hold i e hi h1
      rw [e1 _ hi] at h3
      by_cases hi' : i' = id
      · rw [hi', e2] at h4
        injection h4 with h4
        subst h4
        exact hH.inj i old _ _ _ _ _ _ _ _ ho h1 hg m1 rfl h3 hρ
      · obtain ⟨h2, ho'⟩ := hold i' e' hi' h2
        rw [e1 _ hi'] at h4
        exact hH.inj i i' _ _ _ _ _ _ _ _ hii h1 h2 m1 m2 h3 h4
  · rw [hkey_hset, hkey_hset] at hi
    simp at hi
    rw [e1 _ hi.1]
    exact hH.fresh i hi.2.2

theorem RowsIn.append {w : World} {M : Nat → Prop} {u : Ty} {l m : List u.den} {cs cs' : List Value} {css : List (List Value)} (h : RowsIn w M u l cs) (hl : css.length = m.length)
    (hm : ∀ (i : Nat) e us, m[i]? = some e → css[i]? = some us → Cl w M u e us) (h1 : ∀ q, q < l.length * u.cells → cs'[q]? = cs[q]?) (h2 : ∀ q v, css.flatten[q]? = some v → cs'[l.length * u.cells + q]? = some v) :
    RowsIn w M u (l ++ m) cs' := fun i x hx => by
  by_cases hi : i < l.length
  · rw [List.getElem?_append_left hi] at hx
    obtain ⟨us, a1, a2⟩ := h i x hx
    refine ⟨us, a1, fun j v hj => ?_⟩
    have hjl : j < u.cells := by
      have := (List.getElem?_eq_some_iff.1 hj).1
      rw [a1.len] at this; exact this
    rw [h1 _ (mul_lt hi hjl)]
    exact a2 j v hj
  · rw [List.getElem?_append_right (by omega)] at hx
    obtain ⟨us, a1, a2⟩ := RowsIn.css hl hm [] _ x hx
    refine ⟨us, a1, fun j v hj => ?_⟩
    have := a2 j v hj
    rw [List.append_nil] at this
    have := h2 _ _ this
    rw [← this]
    congr 1
    obtain ⟨d, hd⟩ : ∃ d, i = l.length + d := ⟨i - l.length, by omega⟩
    subst hd
    rw [Nat.add_sub_cancel_left, Nat.add_mul]
    omega
theorem RowsIn.take {w : World} {M : Nat → Prop} {u : Ty} {l : List u.den} {cs : List Value} (h : RowsIn w M u l cs) (n : Nat) : RowsIn w M u (l.take n) cs := fun i x hx => by
  rw [List.getElem?_take] at hx
  split at hx
  · exact h i x hx
  · cases hx

theorem addr0 (b o j : Nat) : (⟨b, o, none⟩ : Addr).add j = ⟨b, o + j, none⟩ := by unfold Addr.add; split <;> simp_all
/-- What is appended. -/
theorem RowsRep.src {u : Ty} {m : List u.den} {v : Value} {tx : TypeId} (hk : (∃ e', P.underlying tx = some (.slice e')) ∨ P.underlying tx = some .string) (h : RowsRep z u m v) :
    ∃ css : List (List Value), Src P u.cells tx v m.length css.flatten z.w ∧ css.length = m.length ∧ ∀ (i : Nat) e us, m[i]? = some e → css[i]? = some us → Cl z.w z.M u e us := by
  rcases h with ⟨hu, rfl⟩ | ⟨A, c, rfl, hc, hm, hA⟩
  · subst hu
    refine ⟨m.map fun b => [Value.int .u8 (b.toNat : Int)], ?_, by simp, fun i e us h1 h2 => ?_⟩
    · have e1 : (List.map (fun b : UInt8 => [Value.int .u8 (b.toNat : Int)]) m).flatten = byteCells ⟨⟨m⟩⟩ := by
        show _ = List.map _ m
        generalize (m : List UInt8) = q
        induction q with
        | nil => rfl
        | cons b q ih => simp [ih]
      rw [e1]
      exact ⟨hk, fun _ => rfl, firstCells_string ⟨⟨m⟩⟩ z.w, firstCells_string ⟨⟨m⟩⟩ z.w.drew, by rw [byteCells_length]; simp [Ty.cells]; rfl, fun u hu => by
        obtain ⟨_, _, rfl⟩ := List.mem_map.1 hu
        rfl⟩
    · rw [List.getElem?_map] at h2
      obtain ⟨b, h3, rfl⟩ := Option.map_eq_some_iff.1 h2
      have : some e = some b := h1.symm.trans h3
      injection this with this
      subst this
      rfl
  · by_cases h0 : m.length = 0
    · obtain rfl : m = [] := List.eq_nil_of_length_eq_zero h0
      refine ⟨[], ⟨hk, fun _ => rfl, ?_, ?_, by simp, fun _ h => by cases h⟩, rfl, fun i e us h => by simp at h⟩
      · cases A with
        | none => exact run_firstCells_none z.w u.cells 0 0 c
        | some a => exact run_firstCells_some z.w u.cells 0 a 0 c [] (by simp) (fun j v h => by simp at h)
      · cases A with
        | none => exact run_firstCells_none z.w.drew u.cells 0 0 c
        | some a => exact run_firstCells_some z.w.drew u.cells 0 a 0 c [] (by simp) (fun j v h => by simp at h)
    · obtain ⟨b, off, rfl, _, hr⟩ := hA h0
      obtain ⟨css, q1, q2, q3⟩ := hr.cells
      have hl : css.flatten.length = m.length * u.cells := by rw [flatten_len (n := u.cells) (rows_len q1 q2), q1]
      have hcell : ∀ j v, css.flatten[j]? = some v → z.w.cell? ((⟨b, off, none⟩ : Addr).add j) = some v := fun j v hj => by rw [addr0]; exact q3 j v hj
      refine ⟨css, ⟨hk, fun _ => rfl, run_firstCells_some z.w u.cells _ _ _ _ _ hl hcell, run_firstCells_some z.w.drew u.cells _ _ _ _ _ hl hcell, hl, fun v hv => ?_⟩, q1, q2⟩
      obtain ⟨us, h1, h2⟩ := List.mem_flatten.1 hv
      obtain ⟨k, hk⟩ := List.getElem?_of_mem h1
      obtain ⟨e, he⟩ := get_of_len (l := m) q1 hk
      exact (q2 k e us he hk).one v h2
theorem zlen_ok {e : TypeId} {n : Nat} (h : zlen P e n = true) : ∃ i v, P.info? e = some i ∧ i.zero = some v ∧ v.cells.size = n := by
  unfold zlen at h
  split at h
  · rename_i i hi
    split at h
    · rename_i v hv
      rw [beq_nat] at h
      exact ⟨i, v, hi, hv, h⟩
    · cases h
  · cases h
theorem roomOk_ok {e : TypeId} {n : Nat} {i : TypeInfo} (h : roomOk P e n = true) (hi : P.info? e = some i) : n * i.bytes ≤ 140737488355328 ∧ n ≤ 140737488355328 := by
  unfold roomOk at h
  simp only [Bool.and_eq_true, Nat.ble_eq] at h
  have hb : P.bytesOf e = i.bytes := by simp [Program.bytesOf, hi]
  rw [hb] at h
  exact h

/-- Onto nothing. -/
theorem append_none {t tx ty e : TypeId} {A : Option Addr} {u : Ty} {m : List u.den} {x : Value} {id : Nat} {K : AV → Hp → Option β} {r : β} (hH : HRep z H) (hk : hkey H id = false) (hd : ¬ z.D id) (hu : P.underlying t = some (.slice e))
    (hc : u.cells = P.cellsOf e) (hc0 : 0 < u.cells) (hz : zlen P e u.cells = true) (hroom : roomOk P e m.length = true)
    (hkd : (∃ e', P.underlying tx = some (.slice e')) ∨ P.underlying tx = some .string) (hx : RowsRep z u m x) (h : K (.slf u.cells id) (hset H id (some ⟨false, .rows e u m⟩)) = some r) :
    Ok P (Builtin.append_ #[t, tx] ty #[.slice A 0 0, x]) z K r := by
  obtain ⟨i, v, q1, q2, q3⟩ := zlen_ok hz
  obtain ⟨r1, r2⟩ := roomOk_ok hroom q1
  have hsz : i.size = u.cells := by rw [hc]; simp [Program.cellsOf, q1]
  obtain ⟨css, s1, s2, s3⟩ := hx.src hkd
  rcases Nat.eq_zero_or_pos m.length with h0 | h0
  · obtain rfl : m = [] := List.eq_nil_of_length_eq_zero h0
    obtain rfl : css = [] := List.eq_nil_of_length_eq_zero s2
    obtain ⟨z', p1, p2, p3, p4⟩ := hH.newV (b := .rows e u []) hk hd ⟨rfl, hc0⟩
    exact .mk' (by rw [p1]; exact run_append_nothing z.w t tx ty e i hu q1 A 0 0 (Nat.le_refl _) x (by rw [hsz]; exact s1)) p2 (.slfV _ _ A p4) p3 h
  · have hge := grownCap_ge z.w m.length 0 e
    have hrun := run_append_grow_src (P := P) z.w t tx ty e i v hu q1 q2 A 0 0 [] (by cases A with
      | none => exact run_firstCells_none z.w.drew i.size 0 0 0
      | some a => exact run_firstCells_some z.w.drew i.size 0 a 0 0 [] (by simp) (fun j v h => by simp at h)) x m.length css.flatten (by rw [hsz]; exact s1) (by omega) (by omega) (growslice_fits (by omega) (by rw [Nat.zero_add]; exact r1))
    rw [Nat.zero_add, List.nil_append] at hrun
    have hcs : (css.flatten.toArray ++ Builtin.zeroCells v.cells (grownCap z.w m.length 0 e - m.length)).size = grownCap z.w m.length 0 e * u.cells := by
      rw [Array.size_append, size_zeroCells, q3, List.size_toArray, flatten_len (n := u.cells) (rows_len s2 s3), s2, ← Nat.add_mul]
      congr 1
      omega
    obtain ⟨z', p1, p2, p3, p4⟩ := new_rows (z := z) (w' := z.w.drew.alloc (.cells (css.flatten.toArray ++ Builtin.zeroCells v.cells (grownCap z.w m.length 0 e - m.length)) e)) (e := e) (l := m) hH hk hd
      (heap_alloc_new z.w.drew _) (okF0 _) rfl rfl rfl (fun k hk => heap_alloc_old z.w.drew _ _ hk) (by rw [hcs]; exact Nat.mul_le_mul_right _ hge) hc0 (by
        rw [Array.toList_append]
        exact RowsIn.css s2 s3 _)
    exact .mk' (by rw [p1]; exact hrun) p2 (.slf _ _ _ _ _ _ p4 hge (by rw [hcs]; exact Nat.le_refl _) (grownCap_le_maxLen _ _ _ _ (by unfold maxLen; omega))) p3 h
/-- Onto a row of the call's own. -/
theorem append_own {t tx ty e : TypeId} {u : Ty} {l m : List u.den} {L : List u.den} {x : Value} {id old g sz n c : Nat} {K : AV → Hp → Option β} {r : β} (hH : HRep z H) (hg : hget H old = some ⟨false, .rows e u L⟩) (hρ : z.ρ old = .real g sz n)
    (hk : hkey (hset H old none) id = false) (hd : ¬ z.D id) (hu : P.underlying t = some (.slice e)) (hl : ∃ k, l = L.take k) (hlc : l.length ≤ c) (hcs : c * u.cells ≤ sz) (hcm : c ≤ maxLen)
    (hc : u.cells = P.cellsOf e) (hc0 : 0 < u.cells) (hz : zlen P e u.cells = true) (hroom : roomOk P e (l.length + m.length) = true)
    (hkd : (∃ e', P.underlying tx = some (.slice e')) ∨ P.underlying tx = some .string) (hx : RowsRep z u m x) (h : K (.slf u.cells id) (hset (hset H old none) id (some ⟨false, .rows e u (l ++ m)⟩)) = some r) :
    Ok P (Builtin.append_ #[t, tx] ty #[.slice (some ⟨g, 0, none⟩) l.length c, x]) z K r := by
  obtain ⟨i, v, q1, q2, q3⟩ := zlen_ok hz
  obtain ⟨r1, r2⟩ := roomOk_ok hroom q1
  have hsz : i.size = u.cells := by rw [hc]; simp [Program.cellsOf, q1]
  obtain ⟨css, s1, s2, s3⟩ := hx.src hkd
  have hfl : css.flatten.length = m.length * u.cells := by rw [flatten_len (n := u.cells) (rows_len s2 s3), s2]
  obtain ⟨_, _, _, cs, fr, a1, a2, a3, a4, a5, a6, a7⟩ := hH.real hg hρ
  obtain ⟨k, hk'⟩ := hl
  have hin : RowsIn z.w z.M u l cs.toList := by
    rw [hk']
    refine RowsIn.take (fun i x hx => ?_) k
    obtain ⟨us, b1, b2⟩ := a7 i x hx
    exact ⟨us, b1, fun j v hj => by simpa using b2 j v hj⟩
  have hlsz : l.length * u.cells ≤ c * u.cells := Nat.mul_le_mul_right _ hlc
  rcases Nat.lt_or_ge c (l.length + m.length) with hlt | hge
  · have hgc := grownCap_ge z.w (l.length + m.length) c e
    have holds : ∀ j v, (cs.toList.take (l.length * u.cells))[j]? = some v → z.w.cell? ((⟨g, 0, none⟩ : Addr).add j) = some v := fun j v hj => by
      rw [addr0, cell_heap a1, Nat.zero_add]
      rw [List.getElem?_take] at hj
      split at hj
      · simpa using hj
      · cases hj
    have hol : (cs.toList.take (l.length * u.cells)).length = l.length * u.cells := by rw [List.length_take, Array.length_toList (xs := cs)]; omega
    have hrun := run_append_grow_src (P := P) z.w t tx ty e i v hu q1 q2 (some ⟨g, 0, none⟩) l.length c (cs.toList.take (l.length * u.cells)) (by
      rw [hsz]
      exact run_firstCells_some z.w.drew _ _ _ _ _ _ hol holds) x m.length css.flatten (by rw [hsz]; exact s1) hlt (by omega) (growslice_fits hlt r1)
    have hcs' : ((cs.toList.take (l.length * u.cells) ++ css.flatten).toArray ++ Builtin.zeroCells v.cells (grownCap z.w (l.length + m.length) c e - (l.length + m.length))).size = grownCap z.w (l.length + m.length) c e * u.cells := by
      rw [Array.size_append, size_zeroCells, q3, List.size_toArray, List.length_append, hol, hfl, ← Nat.add_mul, ← Nat.add_mul]
      congr 1
      omega
    obtain ⟨z', p1, p2, p3, p4⟩ := new_rows (z := z) (w' := z.w.drew.alloc (.cells ((cs.toList.take (l.length * u.cells) ++ css.flatten).toArray ++ Builtin.zeroCells v.cells (grownCap z.w (l.length + m.length) c e - (l.length + m.length))) e)) (e := e) (l := l ++ m) (hH.kill old) hk hd
      (heap_alloc_new z.w.drew _) (okF0 _) rfl rfl rfl (fun k hk => heap_alloc_old z.w.drew _ _ hk) (by rw [hcs', List.length_append]; exact Nat.mul_le_mul_right _ hgc) hc0 (by
        refine hin.append s2 s3 (fun q hq => ?_) fun q v hq => ?_
        · rw [Array.toList_append, List.getElem?_append_left (by show _ < (cs.toList.take (l.length * u.cells) ++ css.flatten).length; rw [List.length_append, hol, hfl]; omega)]
          rw [List.getElem?_append_left (by rw [hol]; exact hq), List.getElem?_take_of_lt hq]
        · have hq' := (List.getElem?_eq_some_iff.1 hq).1
          rw [Array.toList_append, List.getElem?_append_left (by show _ < (cs.toList.take (l.length * u.cells) ++ css.flatten).length; rw [List.length_append, hol, hfl]; omega)]
          rw [List.getElem?_append_right (by rw [hol]; omega), hol, Nat.add_sub_cancel_left]
          exact hq)
    refine .mk' (by rw [p1]; exact hrun) p2 (.slf _ _ _ _ _ _ (by rw [p4, List.length_append]) hgc (by rw [hcs']; exact Nat.le_refl _) (grownCap_le_maxLen _ _ _ _ (by unfold maxLen; omega))) p3 h
  · have hfit : l.length * u.cells + m.length * u.cells ≤ cs.size := by
      have : (l.length + m.length) * u.cells ≤ c * u.cells := Nat.mul_le_mul_right _ hge
      rw [Nat.add_mul] at this
      omega
    have hth := there_of (o := 0 + l.length * i.size) (n := css.flatten.length) a1 a2 (by rw [hsz, hfl]; omega)
    have hrun := run_append_room_src (P := P) z.w t tx ty e i hu q1 g 0 l.length c x m.length css.flatten (by rw [hsz]; exact s1) hge (fun j hj => (hth j hj).1) (fun j hj => (hth j hj).2)
    obtain ⟨w1, w2, w3, w4⟩ := setCells_same css.flatten z.w g (0 + l.length * i.size)
    obtain ⟨z', p1, p2, p3, p4⟩ := hH.move (n' := (l ++ m).length) (b := .rows e u (l ++ m)) hg hρ hk hd w2 w3 w4 w1 (fun b hb => heap_setCells_ne _ _ _ _ _ hb) (fun z' hz kk => by
      refine ⟨_, fr, (by rw [hz]; exact heap_setCells_at _ _ _ _ _ _ _ a1), okF_set a2 (setArr_size _ _ _), by rw [setArr_size]; exact a3, rfl, ?_, a6, ?_⟩
      · rw [List.length_append, Nat.add_mul]; omega
      · have := (hin.append (cs' := (setArr cs (0 + l.length * i.size) css.flatten).toList) s2 s3 (fun q hq => ?_) fun q v hq => ?_).kp kk
        · intro i x hx
          obtain ⟨us, b1, b2⟩ := this i x hx
          exact ⟨us, b1, fun j v hj => by simpa using b2 j v hj⟩
        · rw [hsz, Array.getElem?_toList, setArr_get _ _ _ _ (by omega), if_neg (by omega)]
          simp
        · have hq' := (List.getElem?_eq_some_iff.1 hq).1
          rw [hsz, Array.getElem?_toList, setArr_get _ _ _ _ (by omega), if_pos (by omega), ← hq]
          congr 1
          omega)
    have hv : ARep z' (.slf u.cells id) (.slice (some ⟨g, 0, none⟩) (l.length + m.length) c) := by
      have := ARep.slf (z := z') u.cells id g sz (l ++ m).length c p4 (by rw [List.length_append]; exact hge) hcs hcm
      rwa [List.length_append] at this
    exact .mk' (by rw [p1]; exact hrun) p2 hv p3 h
theorem evAppend_ok {t tx : TypeId} (ty : TypeId) {a ax : AV} {v vx : Value} {id : Nat} {K : AV → Hp → Option β} {r : β} (h : evAppend P t a ax id H K = some r) (hH : HRep z H) (hd : ¬ z.D id) (ha : ARep z a v) (hx : ARep z ax vx)
    (hkd : (∃ e', P.underlying tx = some (.slice e')) ∨ P.underlying tx = some .string) : Ok P (Builtin.append_ #[t, tx] ty #[v, vx]) z K r := by
  unfold evAppend at h
  split at h
  · rename_i e hu
    obtain ⟨u, h1, h2⟩ := ob_iff.1 h
    obtain ⟨t1, t2, _⟩ := ty_ok h1
    obtain ⟨m, hm, h3⟩ := rowsOf_ok h2 hH hx
    split at h3
    · obtain rfl := ha.v.opq.1
      obtain ⟨h4, h5⟩ := need_iff.1 h3
      obtain ⟨h6, h7⟩ := newAt_iff.1 h5
      rw [Bool.and_eq_true] at h4
      exact append_none hH h6 hd hu t1 t2 h4.1 h4.2 hkd hm h7
    · rename_i es old
      split at h3
      · rename_i e' t' l hg
        rcases dq_iff h3 with ⟨rfl, h4⟩ | h4
        · obtain ⟨h5, h6⟩ := need_iff.1 h4
          obtain ⟨h7, h8⟩ := newAt_iff.1 h6
          simp only [Bool.and_eq_true, beq_nat] at h5
          obtain ⟨⟨⟨h9, rfl⟩, rfl⟩, h10⟩ := h5
          cases ha with
          | slfV _ _ A hρ =>
            obtain ⟨rfl, _⟩ := hH.virt hg hρ
            exact append_none (hH.kill old) h7 hd hu t1 t2 h9 (by simpa using h10) hkd hm h8
          | slf _ _ g sz n c hρ hn hs hm' =>
            have hl : l.length = n := by obtain ⟨_, _, _, cs, fr, a1, a2, a3, a4, _⟩ := hH.real hg hρ; exact a4
            subst hl
            exact append_own hH hg hρ h7 hd hu ⟨l.length, (List.take_length).symm⟩ hn hs hm' t1 t2 h9 h10 hkd hm h8
        · cases h4
      · cases h3
    · rename_i es old n
      split at h3
      · rename_i e' t' l hg
        rcases dq_iff h3 with ⟨rfl, h4⟩ | h4
        · obtain ⟨h5, h6⟩ := need_iff.1 h4
          obtain ⟨h7, h8⟩ := newAt_iff.1 h6
          simp only [Bool.and_eq_true, beq_nat, Nat.ble_eq] at h5
          obtain ⟨⟨⟨⟨h9, rfl⟩, rfl⟩, h11⟩, h10⟩ := h5
          have hz : ∀ {q : List t'.den}, q = [] → (l.take 0 ++ q) = q := fun _ => by simp
          cases ha with
          | slV _ _ _ A hρ =>
            exact append_none (hH.kill old) h7 hd hu t1 t2 h9 (by simpa using h10) hkd hm (by simpa using h8)
          | slE _ _ _ g sz m' o hρ =>
            exact append_none (hH.kill old) h7 hd hu t1 t2 h9 (by simpa using h10) hkd hm (by simpa using h8)
          | sl _ _ _ _ g sz m' c hρ hn hs hm' =>
            have hl : (l.take n).length = n := by rw [List.length_take]; omega
            rw [Nat.zero_add] at hs
            rw [Nat.zero_mul]
            have := append_own (l := l.take n) (x := vx) (tx := tx) (ty := ty) (c := c) hH hg hρ h7 hd hu ⟨n, rfl⟩ (by rw [hl]; exact hn) hs hm' t1 t2 h9 (by rw [hl]; exact h10) hkd hm h8
            rwa [hl] at this
        · cases h4
      · cases h3
    · cases h3
  · cases h
end
end Go.Ab
