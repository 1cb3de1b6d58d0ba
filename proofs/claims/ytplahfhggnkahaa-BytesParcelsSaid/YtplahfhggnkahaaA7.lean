/- The evaluator's operations are the model's: those that only read. -/
import Derived.Test.YtplahfhggnkahaaA6
import Derived.Laws.StructEq
import Derived.Laws.Cover3
import Derived.ChangeKeysEq
import Derived.Laws.BytesString
set_option linter.all false
namespace Go.Ab

section
variable {P : Program} {β : Type} {z : Z} {H : Hp}
theorem OkP.mk' {s : Sem Value} {K : AV → Option β} {r : β} {x : AV} {v : Value} (h1 : s.run P z.w = .ok v z.w) (h2 : ARep z x v) (h3 : K x = some r) : OkP P s z K r := ⟨x, v, h1, h2, h3⟩

theorem run_sizeOf_cells {t n : Nat} (w : World) (h : P.cellsOf t = n) (h0 : n ≠ 0) : (sizeOf t).run P w = .ok n w := by
  have hi := cells_info h h0
  cases hq : P.info? t with
  | none => simp [hq] at hi
  | some i => simp [hq] at hi; simp [sizeOf, typeInfo, Sem.run_bind, hq, hi]
theorem fieldOff_ok {s : TypeId} {f o : Nat} {t : TypeId} (h : fieldOff P s f = some (o, t)) : ∃ fs x, P.underlying s = some (.struct fs) ∧ fs[f]? = some x ∧ P.cellsOf x.type ≠ 0 ∧ x.offset = o ∧ x.type = t := by
  unfold fieldOff at h
  split at h
  · rename_i fs hu
    obtain ⟨x, h1, h2⟩ := ob_iff.1 h
    cases hb : Nat.beq (P.cellsOf x.type) 0 <;> rw [hb] at h2 <;> simp only [bq_true, bq_false] at h2
    · simp only [Option.some.injEq, Prod.mk.injEq] at h2
      exact ⟨fs, x, hu, h1, fun h => (by rw [h] at hb; cases hb), h2.1, h2.2⟩
    · cases h2
  · cases h
theorem run_fieldAt {s : TypeId} {f o b p : Nat} {t : TypeId} (h : fieldOff P s f = some (o, t)) (w : World) : (Instr.fieldAt s (.pointer (some ⟨b, p, none⟩)) f).run P w = .ok (.pointer (some ⟨b, p + o, none⟩)) w := by
  obtain ⟨fs, x, h1, h2, h3, h4, h5⟩ := fieldOff_ok h
  have hs := run_sizeOf_cells (P := P) (t := x.type) w rfl h3
  simp [Instr.fieldAt, Sem.run_bind, run_underlying h1, h2, Instr.sureAddr, fieldPlace, hs, h3, h4, Addr.add_mid]
theorem evFieldAddr_ok {s : TypeId} {a : AV} {f : Nat} {K : AV → Option β} {r : β} {v : Value} (h : evFieldAddr P s a f K = some r) (ha : ARep z a v) : OkP P (Instr.fieldAt s v f) z K r := by
  unfold evFieldAddr at h
  split at h
  · rename_i o t es id i j ho
    cases ha with
    | own _ _ _ _ g sz n hρ => exact .mk' (by rw [run_fieldAt ho]; rw [Nat.add_assoc]) (.own _ _ _ _ _ _ _ hρ) h
  · rename_i o t u l i j ho
    cases ha with
    | pt _ _ _ _ b off hM hlt hr => exact .mk' (by rw [run_fieldAt ho, Nat.add_assoc (off + i * u.cells)]) (.pt _ _ _ _ _ _ hM hlt hr) h
  · cases h
theorem run_part_agg {t : TypeId} {cs : Array Value} {o n : Nat} (w : World) (h : isAggT P t = true) (hn : P.cellsOf t = n) (h0 : n ≠ 0) : (part t cs o).run P w = .ok (.agg (cs.extract o (o + n))) w := by
  obtain ⟨d, hd, hr⟩ := isAggT_row h
  have hs := run_sizeOf_cells (P := P) w hn h0
  have ha : (isAgg t).run P w = .ok true w := by
    unfold isAgg
    rw [Sem.run_bind, run_underlying hd w]
    cases d <;> simp_all
  simp [part, Sem.run_bind, ha, hs]
theorem run_part_scal {t : TypeId} {cs : Array Value} {o : Nat} {v : Value} (w : World) (h : isScal P t = true) (hv : cs[o]? = some v) : (part t cs o).run P w = .ok v w := by
  simp [part, Sem.run_bind, isAgg_run w h, hv]
/-- A part of a value of several cells. -/
theorem part_ok {u : Ty} {t : TypeId} {x : u.den} {cs : Array Value} {o : Nat} {K : AV → Option β} {r : β} (h : rdRow P u t x o K = some r) (hc : Cl z.w z.M u x cs.toList) : OkP P (part t cs o) z K r := by
  unfold rdRow at h
  obtain ⟨want, h1, h2⟩ := ob_iff.1 h
  obtain ⟨t1, t2, t3, t4⟩ := ty_ok h1
  obtain ⟨y, q1, q2, q3⟩ := sub_ok h2 hc
  have hl := q1.len
  cases hagg : want.isAgg
  · have hcells : want.cells = 1 := by cases want <;> first | rfl | (simp [Ty.isAgg] at hagg; done)
    match hvs : (cs.toList.drop o).take want.cells, hl with
    | [], hl => rw [hcells] at hl; simp at hl
    | _ :: _ :: _, hl => rw [hcells] at hl; simp at hl
    | [v], _ =>
      rw [hvs] at q1
      have hv : cs[o]? = some v := by
        have : ((cs.toList.drop o).take want.cells)[0]? = some v := by rw [hvs]; rfl
        rw [hcells] at this
        simpa using this
      exact .mk' (run_part_scal z.w (t4 hagg) hv) (ofTy_ok (.mkSc q1 hagg)) q3
  · refine .mk' (run_part_agg z.w (t3 hagg) t1.symm (by omega)) (ofTy_ok ⟨_, q1, ?_⟩) q3
    rw [hagg]
    simp only [cond_true]
    congr 1
    apply Array.ext'
    rw [Array.toList_extract]
    simp [List.extract]
theorem evField_ok {s : TypeId} {a : AV} {f : Nat} {K : AV → Option β} {r : β} {v : Value} (h : evField P s a f K = some r) (ha : ARep z a v) : OkP P (Instr.field s v f) z K r := by
  have run : ∀ {o t} {cs : Array Value}, fieldOff P s f = some (o, t) → (Instr.field s (.agg cs) f).run P z.w = (part t cs o).run P z.w := fun {o t cs} ho => by
    obtain ⟨fs, x, h1, h2, h3, h4, h5⟩ := fieldOff_ok ho
    simp [Instr.field, Sem.run_bind, run_underlying h1, h2, asAgg, h4, h5]
  unfold evField at h
  split at h
  · rename_i o t c ho
    obtain ⟨fs, x, h1, h2, h3, h4, h5⟩ := fieldOff_ok ho
    cases ha with | agg _ cs hs q1 q2 =>
    have hc : AReps z c cs.toList := ⟨by simp [hs], fun i a v p1 p2 => q2 i a v p1 (by simpa using p2)⟩
    cases hagg : isAggT P t <;> rw [hagg] at h <;> simp only [bq_true, bq_false] at h
    · cases hsc : isScal P t <;> rw [hsc] at h <;> simp only [bq_true, bq_false] at h
      · cases h
      · obtain ⟨a', p1, p2⟩ := ob_iff.1 h
        obtain ⟨v, p3, p4⟩ := hc.get p1
        exact .mk' (by rw [run ho]; exact run_part_scal z.w hsc (by simpa using p3)) p4 p2
    · obtain ⟨p1, p2⟩ := need_iff.1 h
      rw [Nat.ble_eq] at p1
      have h0 : P.cellsOf t ≠ 0 := by rw [← h5]; exact h3
      have hd := (hc.drop o).take (P.cellsOf t)
      refine .mk' (by rw [run ho]; exact run_part_agg z.w hagg rfl h0) (.agg _ _ ?_ (fun v hv => ?_) (fun i x v e1 e2 => hd.2 i x v e1 ?_)) p2
      · have := hd.1
        rw [this]
        rw [← Array.length_toList, Array.toList_extract]
        simp [List.extract]
      · have hv' := Array.mem_toList_iff.2 hv
        rw [Array.toList_extract] at hv'
        exact q1 v (Array.mem_toList_iff.1 (List.mem_of_mem_drop (List.mem_of_mem_take (by simpa [List.extract] using hv'))))
      · have : (cs.extract o (o + P.cellsOf t)).toList[i]? = some v := by rw [Array.getElem?_toList]; exact e2
        rw [Array.toList_extract, List.extract_eq_take_drop, Nat.add_sub_cancel_left] at this
        exact this
  · rename_i o t u x ho
    cases hagg : u.isAgg <;> rw [hagg] at h <;> simp only [bq_true, bq_false] at h
    · cases h
    · obtain ⟨vs, p1, p2⟩ := ha.v
      rw [hagg] at p2
      simp only [cond_true] at p2
      subst p2
      obtain ⟨y, v, e1, e2, e3⟩ := part_ok (cs := vs.toArray) h (by simpa using p1)
      exact .mk' (by rw [run ho]; exact e1) e2 e3
  · cases h

theorem idx?_ok {i : Int} {n q : Nat} (h : idx? i n = some q) : 0 ≤ i ∧ i < n ∧ i.toNat = q := by
  unfold idx? at h
  split at h
  · rename_i hc
    simp at h
    exact ⟨hc.1, hc.2, h⟩
  · cases h
theorem upto?_ok {i : Int} {n q : Nat} (h : upto? i n = some q) : 0 ≤ i ∧ i ≤ n ∧ i.toNat = q := by
  unfold upto? at h
  split at h
  · rename_i hc
    simp at h
    exact ⟨hc.1, hc.2, h⟩
  · cases h
theorem ownRows_ok {es id : Nat} {K : (u : Ty) → List u.den → Option β} {r : β} (h : ownRows H es id K = some r) : ∃ fz e u l, hget H id = some ⟨fz, .rows e u l⟩ ∧ es = u.cells ∧ K u l = some r := by
  unfold ownRows at h
  split at h
  · rename_i fz e u l hg
    cases hb : Nat.beq es u.cells <;> rw [hb] at h <;> simp only [bq_true, bq_false] at h
    · cases h
    · exact ⟨fz, e, u, l, hg, (beq_nat _ _).1 hb, h⟩
  · cases h
/-- How long the whole slice of a block is. -/
theorem slf_len {es id : Nat} {v : Value} {fz : Bool} {e : TypeId} {u : Ty} {l : List u.den} (hH : HRep z H) (hg : hget H id = some ⟨fz, .rows e u l⟩) (ha : ARep z (.slf es id) v) :
    ∃ A c, v = .slice A l.length c ∧ l.length ≤ c ∧ (l.length ≠ 0 → ∃ g sz n, z.ρ id = .real g sz n ∧ A = some ⟨g, 0, none⟩ ∧ c * es ≤ sz ∧ c ≤ maxLen) ∧
      (z.ρ id = .virt ∨ ∃ g sz n, z.ρ id = .real g sz n ∧ A = some ⟨g, 0, none⟩ ∧ c * es ≤ sz ∧ c ≤ maxLen) ∧ c ≤ maxLen := by
  cases ha with
  | slfV _ _ A hρ =>
    obtain ⟨rfl, _⟩ := hH.virt hg hρ
    exact ⟨A, 0, rfl, Nat.le_refl _, fun h => absurd rfl h, .inl hρ, by unfold maxLen; omega⟩
  | slf _ _ g sz n c hρ hn hs hm =>
    obtain ⟨_, _, _, cs, fr, a1, a2, a3, a4, a5, a6, a7⟩ := hH.real hg hρ
    rw [← a4] at hn ⊢
    exact ⟨_, c, rfl, hn, fun _ => ⟨g, sz, _, hρ, rfl, hs, hm⟩, .inr ⟨g, sz, _, hρ, rfl, hs, hm⟩, hm⟩

theorem run_indexAt_slice {t e : TypeId} {b o n c q m : Nat} {k : IntKind} {x : Int} (w : World) (h : P.underlying t = some (.slice e)) (h0 : 0 ≤ x) (h1 : x < n) (h2 : x.toNat = q) (hm : P.cellsOf e = m) (hm0 : m ≠ 0) :
    (Instr.indexAt t (.slice (some ⟨b, o, none⟩) n c) (.int k x)).run P w = .ok (.pointer (some ⟨b, o + q * m, none⟩)) w := by
  have hs := run_sizeOf_cells (P := P) w hm hm0
  simp [Instr.indexAt, Sem.run_bind, asIntOf, run_underlying h, h0, h1, hs, h2, Addr.add_mid]
theorem run_indexAt_arr {t e : TypeId} {b o n q m : Nat} {k : IntKind} {x : Int} (w : World) (h : P.underlying t = some (.array n e)) (h0 : 0 ≤ x) (h1 : x < n) (h2 : x.toNat = q) (hm : P.cellsOf e = m) (hm0 : m ≠ 0) :
    (Instr.indexAt t (.pointer (some ⟨b, o, none⟩)) (.int k x)).run P w = .ok (.pointer (some ⟨b, o + q * m, none⟩)) w := by
  have hs := run_sizeOf_cells (P := P) w hm hm0
  simp [Instr.indexAt, Sem.run_bind, asIntOf, run_underlying h, h0, h1, hs, h2, Addr.add_mid, Instr.sureAddr]
end
end Go.Ab
