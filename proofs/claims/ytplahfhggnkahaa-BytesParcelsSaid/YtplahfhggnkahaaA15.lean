/- Operations that make memory: bytes of a string, slices written down, append. -/
import Derived.Test.YtplahfhggnkahaaA14
set_option linter.all false
namespace Go.Ab

section
variable {P : Program} {β : Type} {z : Z} {H : Hp}
theorem fillA_len {pl : Nat → Option (Nat × Nat)} : ∀ {parts : List (Nat × AV)} {c c' : List AV}, fillA pl c parts = some c' → c'.length = c.length
  | [], c, c', h => by simp [fillA] at h; rw [h]
  | (i, a) :: parts, c, c', h => by
    simp only [fillA] at h
    obtain ⟨⟨off, size⟩, h2, h3⟩ := ob_iff.1 h
    obtain ⟨l, h4, h5⟩ := ob_iff.1 h3
    cases hb : (Nat.beq l.length size && Nat.ble (off + l.length) c.length) <;> rw [hb] at h5 <;> simp only [bq_true, bq_false] at h5
    · cases h5
    · rw [fillA_len h5, setFrom_len]
theorem AReps.rep {l : List AV} {vs : List Value} (h : AReps z l vs) : ∀ n, AReps z (List.replicate n l).flatten (List.replicate n vs).flatten
  | 0 => .nil
  | n + 1 => by
    rw [List.replicate_succ, List.replicate_succ, List.flatten_cons, List.flatten_cons]
    exact h.append (AReps.rep h n)
theorem rep_len {α : Type} (l : List α) (n : Nat) : (List.replicate n l).flatten.length = n * l.length := by simp
theorem made_flat (zs : Array Value) (n : Nat) : (madeCells zs (n * zs.size)).toList = (List.replicate n zs.toList).flatten := by
  rcases Nat.eq_zero_or_pos zs.size with h0 | h0
  · have hz : zs.toList = [] := List.eq_nil_of_length_eq_zero (by simpa using h0)
    rw [h0, Nat.mul_zero, hz]
    simp [madeCells]
  · apply List.ext_getElem?
    intro k
    by_cases hk : k < n * zs.size
    · have hq : k / zs.size < n := Nat.div_lt_of_lt_mul (by rw [Nat.mul_comm]; exact hk)
      have hm : k % zs.size < zs.size := Nat.mod_lt _ h0
      rw [Array.getElem?_toList, made_get _ _ _ hk h0]
      have := flat_get (css := List.replicate n zs.toList) (c := zs.size) (fun u hu => by rw [List.eq_of_mem_replicate hu]; simp) (k := k / zs.size) (us := zs.toList) (by rw [List.getElem?_replicate]; simp [hq]) (q := k % zs.size) (w := zs[k % zs.size]) (by simp [hm])
      rw [Nat.mul_comm, Nat.div_add_mod] at this
      rw [this]
      simp [hm]
    · rw [List.getElem?_eq_none, List.getElem?_eq_none]
      · rw [rep_len]; simp; omega
      · rw [Array.length_toList, size_madeCells]; omega
theorem run_buildSlice_any (w : World) (t e : TypeId) (len : Nat) (parts : Array (Nat × Value)) (cells : Array Value) (ie : TypeInfo) (z : Value)
    (hu : P.underlying t = some (.slice e)) (hie : P.info? e = some ie) (hz : ie.zero = some z) (hsmall : ¬ len * ie.size > 2 ^ 24)
    (h : Instr.fill (fun i => some (i * ie.size, ie.size)) (madeCells z.cells (len * ie.size)) parts.toList = some cells) :
    (Instr.buildSlice t len parts).run P w = .ok (.slice (some ⟨w.heap.size, 0, none⟩) len len) (w.alloc (.cells cells e)) := by
  by_cases hpos : len * ie.size = 0
  · have hm : madeCells z.cells (len * ie.size) = #[] := by rw [hpos]; simp [madeCells, Array.range_zero']
    rw [hm] at h
    simp [Instr.buildSlice, run_underlying hu, sizeOf, typeInfo, hie, hpos, Array.range_zero', h, newRow]
  · exact run_buildSlice w t e len parts cells ie z hu hie hz hsmall hpos h

theorem evBuildSlice_ok {t : TypeId} {len : Nat} {parts : List (Nat × AV)} {vparts : Array (Nat × Value)} {id : Nat} {K : AV → Hp → Option β} {r : β} (h : evBuildSlice P t len parts id H K = some r) (hH : HRep z H) (hd : ¬ z.D id)
    (hp : PReps z parts vparts.toList) : Ok P (Instr.buildSlice t len vparts) z K r := by
  unfold evBuildSlice at h
  split at h
  · rename_i e hu
    obtain ⟨zl, h1, h2⟩ := ob_iff.1 h
    obtain ⟨u, h3, h4⟩ := ob_iff.1 h2
    obtain ⟨h5, h6⟩ := need_iff.1 h4
    obtain ⟨c, h7, h8⟩ := ob_iff.1 h6
    obtain ⟨⟨c', H1⟩, h9, h10⟩ := ob_iff.1 h8
    simp only [Bool.and_eq_true, beq_nat, Nat.ble_eq] at h5
    obtain ⟨h11, h12⟩ := h5
    have h12' : len * u.cells ≤ 16777216 := by rw [← h11]; exact h12
    obtain ⟨t1, t2, _⟩ := ty_ok h3
    obtain ⟨i, v0, q1, q2, q3, q4⟩ := zeroOf_ok (z := z) h1
    have hsz : i.size = u.cells := by rw [t1]; simp [Program.cellsOf, q1]
    have hv0 : v0.cells.size = u.cells := by have := q3.1; simp at this; omega
    have hcell : P.cellsOf e = i.size := by simp [Program.cellsOf, q1]
    have hzero : (madeCells v0.cells (len * i.size)).toList = (List.replicate len v0.cells.toList).flatten := by
      rw [hsz, ← hv0]; exact made_flat _ _
    rw [hcell] at h7
    obtain ⟨cs', p1, p2, p3⟩ := fillA_ok (cs := madeCells v0.cells (len * i.size)) h7 (by rw [hzero]; exact q3.rep len) (fun x hx => by
      have : x ∈ (List.replicate len v0.cells.toList).flatten := by rw [← hzero]; simpa using hx
      obtain ⟨y, hy, hxy⟩ := List.mem_flatten.1 this
      rw [List.eq_of_mem_replicate hy] at hxy
      exact q4 x (by simpa using hxy)) hp.1 hp.2
    obtain ⟨z1, s1, s2, s3, s4, s5⟩ := pureL_ok hH h9 p2
    have hcl : c.length = len * u.cells := by rw [fillA_len h7, rep_len, h11]
    have hc'l : c'.length = len * u.cells := by
      have e1 := s5.1
      have e2 := p2.1
      omega
    obtain ⟨l, css, a1, a2, a3, a4, a5⟩ := asmN_ok (z := z1) (t := u) (c := u.cells) (asm u) (fun h hr hl h1 => asm_ok h hr hl h1) len h10 s5 hc'l (fun v hv => p3 v (by simpa using hv))
    obtain ⟨b1, b2⟩ := newAt_iff.1 a5
    have hcs : cs'.size = len * u.cells := by have := p2.1; simp at this; omega
    obtain ⟨z', d1, d2, d3, d4⟩ := new_rows (z := z1) (w' := z1.w.alloc (.cells cs' e)) (e := e) (l := l) s2 b1 (by rw [s3.dom]; exact hd) (heap_alloc_new _ _) (okF0 _) rfl rfl rfl (fun k hk => heap_alloc_old _ _ _ hk)
      (by rw [a1, hcs]; exact Nat.le_refl _) t2 (by have := RowsIn.css (by rw [a1, a2]) a4 []; rw [List.append_nil, ← a3] at this; exact this)
    refine .mk' (by rw [d1, s1]; exact run_buildSlice_any z.w t e len vparts cs' i v0 hu q1 q2 (by rw [hsz]; omega) p1) d2 (x := .slf u.cells id) ?_ (s3.trans d3) b2
    rw [← s1]
    refine .slf _ _ _ _ _ _ (by rw [d4, a1]) (Nat.le_refl _) (by rw [hcs]; exact Nat.le_refl _) ?_
    have : len ≤ len * u.cells := Nat.le_mul_of_pos_right _ t2
    unfold maxLen
    omega
  · cases h

/-! Bytes of a string -/
theorem freeze_last (w : World) (C : Array Value) (e : TypeId) (k : Nat) : (w.alloc (.cells C e)).freeze ⟨w.heap.size, k, none⟩ 1 = w.alloc (.cells C e (k, k + 1)) := by
  have hm : ∀ (a : Array Obj) (x : Obj) (f : Obj → Obj), (a.push x).modify a.size f = a.push (f x) := by
    intro a x f
    apply Array.ext
    · simp
    · intro i h1 h2
      simp only [Array.getElem_modify, Array.getElem_push]
      by_cases h : a.size = i
      · subst h; simp
      · have hi : i < a.size := by simp at h1; omega
        simp [h, hi]
  unfold World.freeze
  rw [if_neg (by decide)]
  show ({ w.alloc (.cells C e) with heap := (w.heap.push (.cells C e)).modify w.heap.size _ } : World) = _
  rw [hm]
  rfl
theorem shape_last (w : World) (C : Array Value) (e : TypeId) : (w.alloc (.cells C e)).shape? w.heap.size = some (e, C.size) := by
  unfold World.shape?
  rw [heap_alloc_new]
def byteRow (l : List UInt8) (c : Nat) : Array Value := (l.map fun b => Value.int .u8 (b.toNat : Int)).toArray ++ Array.replicate (c - l.length) (.int .u8 0)
theorem run_stringToBytes (w : World) (l : List UInt8) (e : TypeId) : (Conv.stringToBytes e ⟨⟨l⟩⟩).run P w =
    .ok (.slice (some ⟨w.heap.size, 0, none⟩) l.length (grownCap w l.length 0 e)) (w.drew.alloc (.cells (byteRow l (grownCap w l.length 0 e)) e ((byteRow l (grownCap w l.length 0 e)).size, (byteRow l (grownCap w l.length 0 e)).size + 1))) := by
  have hs : (w.drew.alloc (.cells (byteRow l (grownCap w l.length 0 e)) e)).shape? w.heap.size = _ := shape_last w.drew (byteRow l (grownCap w l.length 0 e)) e
  have hf : (w.drew.alloc (.cells (byteRow l (grownCap w l.length 0 e)) e)).freeze ⟨w.heap.size, _, none⟩ 1 = _ := freeze_last w.drew (byteRow l (grownCap w l.length 0 e)) e (byteRow l (grownCap w l.length 0 e)).size
  have hq : (Question.appendCap (⟨⟨l⟩⟩ : ByteArray).size 0 e).cut (w.tape w.drawn (.appendCap (⟨⟨l⟩⟩ : ByteArray).size 0 e)) = grownCap w l.length 0 e := rfl
  have e1 : (List.map (fun b => Value.int IntKind.u8 (b.toNat : Int)) l).toArray ++ Array.replicate (grownCap w l.length 0 e - (⟨⟨l⟩⟩ : ByteArray).size) (Value.int IntKind.u8 0) = byteRow l (grownCap w l.length 0 e) := rfl
  simp [Conv.stringToBytes, newRow, markStringish, Question.forced, hq]
  rw [e1, hs]
  simp [hf]
  rfl
theorem byteRow_in {w : World} {M : Nat → Prop} (l : List UInt8) (c : Nat) : RowsIn w M .byte l (byteRow l c).toList := fun i x hx => by
  refine ⟨[.int .u8 (x.toNat : Int)], rfl, fun j v hj => ?_⟩
  match j with
  | 0 =>
    simp at hj
    have hi : i < l.length := (List.getElem?_eq_some_iff.1 hx).1
    simp only [byteRow, Array.toList_append]
    rw [List.getElem?_append_left (by simp [Ty.cells]; omega)]
    simp [Ty.cells, hx, hj]
  | j + 1 => simp at hj
theorem HRep.same {H' : Hp} (hH : HRep z H) (h1 : ∀ id, hget H' id = hget H id) (h2 : ∀ id, hkey H' id = hkey H id) : HRep z H' :=
  ⟨fun i e hi => hH.ent i e (by rw [← h1]; exact hi), fun i i' e e' a sa na a' sa' na' hii q1 q2 => hH.inj i i' e e' a sa na a' sa' na' hii (by rw [← h1]; exact q1) (by rw [← h1]; exact q2), fun i hi => hH.fresh i (by rw [← h2]; exact hi), hH.sub⟩
theorem HRep.unset {id : Nat} {e : Ent} (hg : hget H id = some e) (hH : HRep z (hset H id (some e))) : HRep z H := by
  refine hH.same (fun k => ?_) fun k => ?_
  · rw [hget_hset]
    by_cases h : k = id
    · subst h; rw [if_pos rfl, hg]
    · rw [if_neg h]
  · rw [hkey_hset]
    by_cases h : k = id
    · subst h; simp [hkey_of_hget hg]
    · simp [h]
/-- The world in which a row of bytes bears its mark. -/
theorem mark_ok {w : World} {g : Nat} {cs : Array Value} {e : TypeId} {fr : Nat × Nat} (h : w.heap[g]? = some (.cells cs e fr)) (hf : okF cs fr) :
    ∃ w' fr', (markStringish ⟨g, 0, none⟩).run P w = .ok () w' ∧ w'.heap[g]? = some (.cells cs e fr') ∧ okF cs fr' ∧ w'.os = w.os ∧ w'.tape = w.tape ∧ w'.output = w.output ∧ w'.heap.size = w.heap.size ∧ ∀ b, b ≠ g → w'.heap[b]? = w.heap[b]? := by
  have hs : w.shape? g = some (e, cs.size) := by unfold World.shape?; rw [h]
  refine ⟨w.freeze ⟨g, cs.size, none⟩ 1, (if fr.1 == fr.2 then (cs.size, cs.size + 1) else (min fr.1 cs.size, max fr.2 (cs.size + 1))), by simp [markStringish, hs], ?_, ?_, rfl, rfl, rfl, ?_, fun b hb => ?_⟩
  · simp [World.freeze, Array.getElem?_modify, h]
  · unfold okF
    rcases hf with hf | hf
    · simp [hf]
    · split
      · simp
      · right; simp only; omega
  · simp [World.freeze]
  · simp [World.freeze, Array.getElem?_modify, Ne.symm hb]
theorem evConvertW_ok {src dst : TypeId} {a : AV} {v : Value} {id : Nat} {K : AV → Hp → Option β} {r : β} (h : evConvertW P src dst a id H K = some r) (hH : HRep z H) (hD : P.underlying src = some .string → ¬ z.D id) (ha : ARep z a v) : Ok P (convert src dst v) z K r := by
  unfold evConvertW at h
  split at h
  · rename_i e hs hd
    cases hb : isB P e <;> rw [hb] at h <;> simp only [bq_true, bq_false] at h
    · cases h
    obtain ⟨l, h1, h2⟩ := ob_iff.1 h
    obtain ⟨h3, h4⟩ := need_iff.1 h2
    obtain ⟨h5, h6⟩ := newAt_iff.1 h4
    rw [Nat.ble_eq] at h3
    obtain rfl := str?_ok h1 ha
    have he := isB_u hb
    have hroom : room = 140737488355328 := rfl
    have hrun : (convert src dst (.string ⟨⟨l⟩⟩)).run P z.w = (Conv.stringToBytes e ⟨⟨l⟩⟩).run P z.w := by
      simp only [convert, Sem.run_bind, run_underlying hs, run_underlying hd, Result.andThen_ok, run_underlying he]
    have hge := grownCap_ge z.w l.length 0 e
    have hbs : (byteRow l (grownCap z.w l.length 0 e)).size = grownCap z.w l.length 0 e := by simp [byteRow]; omega
    obtain ⟨z', p1, p2, p3, p4⟩ := new_rows (z := z) (u := .byte) (w' := z.w.drew.alloc (.cells (byteRow l (grownCap z.w l.length 0 e)) e ((byteRow l (grownCap z.w l.length 0 e)).size, (byteRow l (grownCap z.w l.length 0 e)).size + 1))) (e := e) (l := l) hH h5 (hD hs)
      (heap_alloc_new z.w.drew _) (.inr (Nat.le_refl _)) rfl rfl rfl (fun k hk => heap_alloc_old z.w.drew _ _ hk)
      (by rw [hbs]; simp [Ty.cells]; exact hge) (by decide) (byteRow_in _ _)
    refine .mk' (by rw [p1]; exact hrun.trans (run_stringToBytes z.w l e)) p2 (x := .slf 1 id) ?_ p3 h6
    exact .slf _ _ _ _ _ _ p4 hge (by rw [hbs, Nat.mul_one]; exact Nat.le_refl _) (grownCap_le_maxLen _ _ _ _ (by unfold maxLen; omega))
  · rename_i e0 e hs hd
    split at h
    · rename_i es old
      split at h
      · rename_i e' l hg
        cases hb : (Nat.beq src dst && isB P e && Nat.beq es 1) <;> rw [hb] at h <;> simp only [bq_true, bq_false] at h
        · cases h
        simp only [Bool.and_eq_true, beq_nat] at hb
        obtain ⟨⟨rfl, hB⟩, rfl⟩ := hb
        obtain rfl : e0 = e := by rw [hs] at hd; simpa using hd
        obtain ⟨h1, h2⟩ := need_iff.1 h
        have h1' : 0 < List.length (α := UInt8) l := by simpa [Nat.blt_eq] using h1
        have he := isB_u hB
        cases ha with
        | slfV _ _ A hρ =>
          obtain ⟨rfl, _⟩ := hH.virt hg hρ
          exact absurd h1' (Nat.lt_irrefl _)
        | slf _ _ g sz n c hρ hn hs' hm =>
          obtain ⟨b1, b2, b3, b4⟩ := hH.real hg hρ
          obtain ⟨cs, fr, a1, a2, a3, a4, a5, a6, a7⟩ := b4
          obtain ⟨w', fr', m1, m2, m3, m4, m5, m6, m7, m8⟩ := mark_ok (P := P) a1 a2
          obtain ⟨p1, p2⟩ := hH.write (w' := w') (b := .rows e' .byte l) hg hρ m4 m5 m6 m7 m8 (fun k => by
            refine ⟨cs, fr', m2, m3, a3, a4, a5, a6, fun i x hx => ?_⟩
            obtain ⟨u, c1, c2⟩ := a7 i x hx
            exact ⟨u, c1.kp k, c2⟩)
          refine .mk' (z' := { z with w := w' }) ?_ (p1.unset hg) (x := .slf 1 old) (.slf _ _ _ _ _ _ hρ hn hs' hm) p2 h2
          simp only [convert, Sem.run_bind, run_underlying hs, run_underlying hd, Result.andThen_ok, run_underlying he, beq_self_eq_true, m1]
          rfl
      · cases h
    · cases h
  · cases h
end
end Go.Ab
