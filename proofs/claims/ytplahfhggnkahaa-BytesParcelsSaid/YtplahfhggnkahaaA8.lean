/- The evaluator's operations are the model's: indices, slices, conversions. -/
import Derived.Test.YtplahfhggnkahaaA7
set_option linter.all false
namespace Go.Ab

section
variable {P : Program} {β : Type} {z : Z} {H : Hp}
theorem evIndexAddr_ok {t : TypeId} {a ix : AV} {K : AV → Option β} {r : β} {v vi : Value} (h : evIndexAddr P t a ix H K = some r) (hH : HRep z H) (ha : ARep z a v) (hi : ARep z ix vi) :
    OkP P (Instr.indexAt t v vi) z K r := by
  unfold evIndexAddr at h
  obtain ⟨x, h1, h2⟩ := ob_iff.1 h
  obtain ⟨k, rfl⟩ := any?_ok h1 hi
  split at h2
  · rename_i n e hu
    have hh := need_iff.1 h2
    clear h2 h
    obtain ⟨h0, h2⟩ := hh
    simp only [Bool.not_eq_true'] at h0
    have hm0 : P.cellsOf e ≠ 0 := fun h => by rw [h] at h0; cases h0
    split at h2
    · rename_i es id i j
      cases ha with | own _ _ _ _ g sz m hρ =>
      cases hb : (Nat.beq es (P.cellsOf e) && Nat.beq i 0 && Nat.beq j 0) <;> rw [hb] at h2 <;> simp only [bq_true, bq_false] at h2
      · obtain ⟨q, h3, h4⟩ := Option.bind_eq_some_iff.1 h2
        obtain ⟨q1, q2, q3⟩ := idx?_ok h3
        exact .mk' (by rw [run_indexAt_arr z.w hu q1 q2 q3 rfl hm0, Nat.add_assoc]) (.own _ _ _ _ _ _ _ hρ) h4
      · obtain ⟨q, h3, h4⟩ := Option.bind_eq_some_iff.1 h2
        obtain ⟨q1, q2, q3⟩ := idx?_ok h3
        simp only [Bool.and_eq_true, beq_nat] at hb
        obtain ⟨⟨rfl, rfl⟩, rfl⟩ := hb
        exact .mk' (by rw [run_indexAt_arr z.w hu q1 q2 q3 rfl hm0]; simp) (.own _ _ _ _ _ _ _ hρ) h4
    · rename_i u l i j
      cases ha with | pt _ _ _ _ b off hM hlt hr =>
      cases hb : (Nat.beq u.cells (P.cellsOf e) && Nat.beq i 0 && Nat.beq j 0) <;> rw [hb] at h2 <;> simp only [bq_true, bq_false] at h2
      · obtain ⟨q, h3, h4⟩ := Option.bind_eq_some_iff.1 h2
        obtain ⟨q1, q2, q3⟩ := idx?_ok h3
        exact .mk' (by rw [run_indexAt_arr z.w hu q1 q2 q3 rfl hm0, Nat.add_assoc (off + i * u.cells)]) (.pt _ _ _ _ _ _ hM hlt hr) h4
      · obtain ⟨q, h3, h4⟩ := Option.bind_eq_some_iff.1 h2
        obtain ⟨q1, q2, q3⟩ := idx?_ok h3
        simp only [Bool.and_eq_true, beq_nat] at hb
        obtain ⟨⟨hb1, rfl⟩, rfl⟩ := hb
        exact .mk' (by rw [run_indexAt_arr z.w hu q1 q2 q3 rfl hm0, ← hb1]; simp) (.pt _ _ q 0 _ _ hM hlt hr) h4
    · cases h2
  · rename_i e hu
    have hh := need_iff.1 h2
    clear h2 h
    obtain ⟨h0, h2⟩ := hh
    simp only [Bool.not_eq_true'] at h0
    have hm0 : P.cellsOf e ≠ 0 := fun h => by rw [h] at h0; cases h0
    split at h2
    · rename_i es id
      cases hb : Nat.beq es (P.cellsOf e) <;> rw [hb] at h2 <;> simp only [bq_true, bq_false] at h2
      · cases h2
      · rw [beq_nat] at hb
        obtain ⟨fz, e', u, l, hg, he, h3⟩ := ownRows_ok h2
        obtain ⟨q, h4, h5⟩ := Option.bind_eq_some_iff.1 h3
        obtain ⟨q1, q2, q3⟩ := idx?_ok h4
        obtain ⟨A, c, rfl, hc, hA, _⟩ := slf_len hH hg ha
        obtain ⟨g, sz, m, hρ, rfl, _⟩ := hA (by omega)
        refine .mk' (run_indexAt_slice z.w hu q1 q2 q3 hb.symm (by rw [hb]; exact hm0)) ?_ h5
        rw [Nat.zero_add]
        exact .own _ _ q 0 _ _ _ hρ
    · rename_i es id off n
      cases hb : Nat.beq es (P.cellsOf e) <;> rw [hb] at h2 <;> simp only [bq_true, bq_false] at h2
      · cases h2
      · rw [beq_nat] at hb
        obtain ⟨q, h4, h5⟩ := Option.bind_eq_some_iff.1 h2
        obtain ⟨q1, q2, q3⟩ := idx?_ok h4
        cases ha with
        | slV => omega
        | slE => omega
        | sl _ _ _ _ g sz m c hρ hn hs hm =>
          refine .mk' (run_indexAt_slice z.w hu q1 q2 q3 hb.symm (by rw [hb]; exact hm0)) ?_ h5
          have := ARep.own (z := z) es id (off + q) 0 g sz m hρ
          rw [Nat.add_mul, Nat.add_zero] at this
          exact this
    · rename_i u l
      cases hb : Nat.beq u.cells (P.cellsOf e) <;> rw [hb] at h2 <;> simp only [bq_true, bq_false] at h2
      · cases h2
      · rw [beq_nat] at hb
        obtain ⟨q, h4, h5⟩ := Option.bind_eq_some_iff.1 h2
        obtain ⟨q1, q2, q3⟩ := idx?_ok h4
        obtain ⟨A, c, rfl, hc, hm, _, hA⟩ := VRep.sl (t := u) ha.v
        obtain ⟨b, off, rfl, hM, hlt, hr⟩ := hA (by omega)
        refine .mk' (run_indexAt_slice z.w hu q1 q2 q3 hb.symm (by rw [hb]; exact hm0)) ?_ h5
        exact .pt (z := z) u l q 0 b off hM hlt hr
    · cases h2
  · cases h2

theorem flatten_drop_take {css : List (List Value)} {c : Nat} (hl : ∀ u ∈ css, u.length = c) : ∀ (q : Nat) u, css[q]? = some u → (css.flatten.drop (q * c)).take c = u := by
  induction css with
  | nil => intro q u h; simp at h
  | cons w css ih =>
    intro q u h
    have hw := hl w (by simp)
    match q with
    | 0 =>
      simp at h
      subst h
      rw [Nat.zero_mul, List.drop_zero, List.flatten_cons, List.take_append_of_le_length (by omega), List.take_of_length_le (by omega)]
    | q + 1 =>
      rw [List.flatten_cons, Nat.succ_mul, Nat.add_comm, List.drop_append, hw, List.drop_of_length_le (by omega), List.nil_append, Nat.add_sub_cancel_left]
      exact ih (fun u hu => hl u (by simp [hu])) q u (by simpa using h)
theorem Cl.nth {w : World} {M : Nat → Prop} {n : Nat} {u : Ty} {l : List u.den} {cs : List Value} (h : Cl w M (.arr n u) l cs) {q : Nat} {y : u.den} (hy : l[q]? = some y) : Cl w M u y ((cs.drop (q * u.cells)).take u.cells) := by
  obtain ⟨hn, css, h1, rfl, h2⟩ := h
  have hq : q < css.length := by
    have := (List.getElem?_eq_some_iff.1 hy).1
    have hn' : l.length = n := hn
    omega
  have hl : ∀ u' ∈ css, u'.length = u.cells := fun u' hu => by
    obtain ⟨k, hk⟩ := List.getElem?_of_mem hu
    obtain ⟨e, he⟩ := get_of_len (l := l) (h1.trans hn.symm) hk
    exact (h2 k e u' he hk).len
  rw [flatten_drop_take hl q _ (List.getElem?_eq_getElem hq)]
  exact h2 q y _ hy (List.getElem?_eq_getElem hq)
theorem evIndex_ok {t : TypeId} {a ix : AV} {K : AV → Option β} {r : β} {v vi : Value} (h : evIndex P t a ix K = some r) (ha : ARep z a v) (hi : ARep z ix vi) :
    OkP P (Instr.index t v vi) z K r := by
  unfold evIndex at h
  obtain ⟨x, h1, h2⟩ := ob_iff.1 h
  obtain ⟨k, rfl⟩ := any?_ok h1 hi
  split at h2
  · rename_i hu
    obtain ⟨l, h3, h4⟩ := ob_iff.1 h2
    obtain ⟨q, h5, h6⟩ := Option.bind_eq_some_iff.1 h4
    obtain ⟨c, h7, h8⟩ := Option.bind_eq_some_iff.1 h6
    obtain rfl := str?_ok h3 ha
    obtain ⟨q1, q2, q3⟩ := idx?_ok h5
    have hget : (⟨⟨l⟩⟩ : ByteArray)[x.toNat]? = some c := by
      rw [q3]
      have : q < (⟨⟨l⟩⟩ : ByteArray).size := (List.getElem?_eq_some_iff.1 h7).1
      rw [getElem?_pos (⟨⟨l⟩⟩ : ByteArray) q this]
      congr 1
      exact Option.some.inj ((List.getElem?_eq_getElem (l := l) (i := q) this).symm.trans h7)
    exact .mk' (by simp [Instr.index, Sem.run_bind, asIntOf, run_underlying hu, q1, hget]) (.mkI _ _) h8
  · rename_i n e hu
    obtain ⟨u, h3, h4⟩ := ob_iff.1 h2
    obtain ⟨t1, t2, t3, t4⟩ := ty_ok h3
    obtain ⟨l, h5, h6⟩ := asA_ok h4 ha
    obtain ⟨q, h7, h8⟩ := Option.bind_eq_some_iff.1 h6
    obtain ⟨y, h9, h10⟩ := Option.bind_eq_some_iff.1 h8
    obtain ⟨q1, q2, q3⟩ := idx?_ok h7
    obtain ⟨cs, c1, c2⟩ := h5
    simp only [Ty.isAgg, cond_true] at c2
    subst c2
    have hc := Cl.nth (l := l) c1 h9
    have hs := run_sizeOf_cells (P := P) (t := e) z.w t1.symm (by omega)
    have hrun : (Instr.index t (.agg cs.toArray) (.int k x)).run P z.w = (part e cs.toArray (q * u.cells)).run P z.w := by
      simp [Instr.index, Sem.run_bind, asIntOf, run_underlying hu, q1, q2, hs, q3]
    have hl := hc.len
    cases hagg : u.isAgg
    · have hcells : u.cells = 1 := by cases u <;> first | rfl | (simp [Ty.isAgg] at hagg; done)
      match hvs : (cs.drop (q * u.cells)).take u.cells, hl with
      | [], hl => rw [hcells] at hl; simp at hl
      | _ :: _ :: _, hl => rw [hcells] at hl; simp at hl
      | [v], _ =>
        rw [hvs] at hc
        have hv : cs.toArray[q * u.cells]? = some v := by
          have : ((cs.drop (q * u.cells)).take u.cells)[0]? = some v := by rw [hvs]; rfl
          rw [List.getElem?_take_of_lt (by omega), List.getElem?_drop] at this
          simpa using this
        exact .mk' (by rw [hrun]; exact run_part_scal z.w (t4 hagg) hv) (ofTy_ok (.mkSc hc hagg)) h10
    · refine .mk' (by rw [hrun]; exact run_part_agg z.w (t3 hagg) t1.symm (by omega)) (ofTy_ok ⟨_, hc, ?_⟩) h10
      rw [hagg]
      simp only [cond_true]
      congr 1
      apply Array.ext'
      rw [Array.toList_extract, List.extract_eq_take_drop, Nat.add_sub_cancel_left]
  · cases h2

/-! Slices -/
/-- A bound, if there is one. -/
def Bnd (a : Option AV) (v : Option Value) (d m k : Nat) : Prop := (a = none ∧ v = none ∧ k = d) ∨ ∃ kk n, v = some (.int kk n) ∧ 0 ≤ n ∧ n ≤ m ∧ n.toNat = k
def ORep (z : Z) (a : Option AV) (v : Option Value) : Prop := (a = none ∧ v = none) ∨ ∃ x u, a = some x ∧ v = some u ∧ ARep z x u
theorem optI_ok {a : Option AV} {v : Option Value} {d m : Nat} {K : Nat → Option β} {r : β} (h : optI a d m K = some r) (ha : ORep z a v) : ∃ k, Bnd a v d m k ∧ K k = some r := by
  unfold optI at h
  rcases ha with ⟨rfl, rfl⟩ | ⟨x, u, rfl, rfl, hx⟩
  · exact ⟨d, .inl ⟨rfl, rfl, rfl⟩, h⟩
  · obtain ⟨n, h1, h2⟩ := ob_iff.1 h
    obtain ⟨k, h3, h4⟩ := Option.bind_eq_some_iff.1 h2
    obtain ⟨kk, rfl⟩ := any?_ok h1 hx
    obtain ⟨q1, q2, q3⟩ := upto?_ok h3
    exact ⟨k, .inr ⟨kk, n, rfl, q1, q2, q3⟩, h4⟩
theorem Bnd.le {a : Option AV} {v : Option Value} {d m k : Nat} (h : Bnd a v d m k) (hd : d ≤ m) : k ≤ m := by
  rcases h with ⟨_, _, rfl⟩ | ⟨kk, n, _, h1, h2, h3⟩
  · exact hd
  · omega
theorem run_sliceBounds_any {isSlice : Bool} {len cap h b : Nat} {lo hi : Option AV} {vlo vhi : Option Value} (w : World) (hc : len ≤ cap) (hh : Bnd hi vhi len len h) (hb : Bnd lo vlo 0 h b) :
    (Instr.sliceBounds isSlice len cap vlo vhi none).run P w = .ok (b, h, cap) w := by
  have sb : ∀ (kk : IntKind) (n : Int) (y : Nat) (code : BoundsCode), 0 ≤ n → n ≤ y → (Instr.sliceBound (.int kk n) y code).run P w = .ok n.toNat w := fun kk n y code h0 h1 => by
    simp [Instr.sliceBound, Sem.run_bind, asIntOf, h0, h1]
  rcases hh with ⟨_, rfl, rfl⟩ | ⟨kk, n, rfl, h1, h2, h3⟩
  · rcases hb with ⟨_, rfl, rfl⟩ | ⟨kk', n', rfl, p1, p2, p3⟩
    · simp [Instr.sliceBounds, Sem.run_bind]
    · simp [Instr.sliceBounds, Sem.run_bind, sb kk' n' _ _ p1 p2, p3]
  · rcases hb with ⟨_, rfl, rfl⟩ | ⟨kk', n', rfl, p1, p2, p3⟩
    · simp [Instr.sliceBounds, Sem.run_bind, sb kk n cap _ h1 (by omega), h3]
    · simp [Instr.sliceBounds, Sem.run_bind, sb kk n cap _ h1 (by omega), h3, sb kk' n' _ _ p1 p2, p3]
/-- What a slice of a slice is. -/
theorem run_sliceAt_any {t e : TypeId} {A : Option Addr} {len cap h b m : Nat} {lo hi : Option AV} {vlo vhi : Option Value} (w : World) (hu : P.underlying t = some (.slice e)) (hm : P.cellsOf e = m) (hm0 : m ≠ 0)
    (hc : len ≤ cap) (hh : Bnd hi vhi len len h) (hb : Bnd lo vlo 0 h b) :
    (Instr.sliceAt t (.slice A len cap) vlo vhi none).run P w = .ok (.slice (if cap = b then A else A.map (·.add (b * m))) (h - b) (cap - b)) w := by
  have hs := run_sizeOf_cells (P := P) w hm hm0
  simp [Instr.sliceAt, Instr.slice, Sem.run_bind, run_underlying hu, run_sliceBounds_any w hc hh hb, hs]
theorem run_sliceAt_arr {t e : TypeId} {g o n h b m : Nat} {lo hi : Option AV} {vlo vhi : Option Value} (w : World) (hu : P.underlying t = some (.array n e)) (hm : P.cellsOf e = m) (hm0 : m ≠ 0)
    (hh : Bnd hi vhi n n h) (hb : Bnd lo vlo 0 h b) :
    (Instr.sliceAt t (.pointer (some ⟨g, o, none⟩)) vlo vhi none).run P w = .ok (.slice (some (if n = b then ⟨g, o, none⟩ else ⟨g, o + b * m, none⟩)) (h - b) (n - b)) w := by
  have hs := run_sizeOf_cells (P := P) w hm hm0
  simp [Instr.sliceAt, Sem.run_bind, run_underlying hu, run_sliceBounds_any w (Nat.le_refl n) hh hb, hs, Instr.sureAddr, Addr.add_mid]
/-- Slices of the call's own. -/
theorem slF_cut {es id off c g sz m h b : Nat} (hρ : z.ρ id = .real g sz m) (hbh : b ≤ h) (hc : h ≤ c) (hs : (off + c) * es ≤ sz) (hm : c ≤ maxLen) :
    ARep z (.sl es id (off + b) (h - b)) (.slice (if c = b then some ⟨g, off * es, none⟩ else (some ⟨g, off * es, none⟩ : Option Addr).map (·.add (b * es))) (h - b) (c - b)) := by
  by_cases hcb : c = b
  · rw [if_pos hcb]
    rw [show h - b = 0 from by omega, show c - b = 0 from by omega]
    exact .slE _ _ _ _ _ _ _ hρ
  · rw [if_neg hcb]
    simp only [Option.map_some, Addr.add_mid]
    rw [← Nat.add_mul]
    exact .sl _ _ _ _ _ _ _ _ hρ (by omega) (by rw [show off + b + (c - b) = off + c from by omega]; exact hs) (by omega)
theorem cutL_ok {α : Type} {l : List α} {lo hi : Option AV} {vlo vhi : Option Value} {K : List α → Option β} {r : β} (h : cutL l lo hi K = some r) (hlo : ORep z lo vlo) (hhi : ORep z hi vhi) :
    ∃ b h' l', Bnd hi vhi l.length l.length h' ∧ Bnd lo vlo 0 h' b ∧ l' = (l.take h').drop b ∧ h' ≤ l.length ∧ b ≤ h' ∧ K l' = some r := by
  unfold cutL at h
  rcases hlo with ⟨rfl, rfl⟩ | ⟨x, u, rfl, rfl, hx⟩
  · rcases hhi with ⟨rfl, rfl⟩ | ⟨y, w, rfl, rfl, hy⟩
    · exact ⟨0, l.length, l, .inl ⟨rfl, rfl, rfl⟩, .inl ⟨rfl, rfl, rfl⟩, by simp, Nat.le_refl _, Nat.zero_le _, h⟩
    · obtain ⟨n, h1, h2⟩ := ob_iff.1 h
      obtain ⟨k, h3, h4⟩ := Option.bind_eq_some_iff.1 h2
      obtain ⟨kk, rfl⟩ := any?_ok h1 hy
      obtain ⟨q1, q2, q3⟩ := upto?_ok h3
      exact ⟨0, k, _, .inr ⟨kk, n, rfl, q1, q2, q3⟩, .inl ⟨rfl, rfl, rfl⟩, by simp, by omega, Nat.zero_le _, h4⟩
  · rcases hhi with ⟨rfl, rfl⟩ | ⟨y, w, rfl, rfl, hy⟩
    · obtain ⟨n, h1, h2⟩ := ob_iff.1 h
      obtain ⟨k, h3, h4⟩ := Option.bind_eq_some_iff.1 h2
      obtain ⟨kk, rfl⟩ := any?_ok h1 hx
      obtain ⟨q1, q2, q3⟩ := upto?_ok h3
      exact ⟨k, l.length, _, .inl ⟨rfl, rfl, rfl⟩, .inr ⟨kk, n, rfl, q1, q2, q3⟩, by simp, Nat.le_refl _, by omega, h4⟩
    · obtain ⟨n, h1, h2⟩ := ob_iff.1 h
      obtain ⟨k, h3, h4⟩ := Option.bind_eq_some_iff.1 h2
      obtain ⟨n', h5, h6⟩ := ob_iff.1 h4
      obtain ⟨k', h7, h8⟩ := Option.bind_eq_some_iff.1 h6
      obtain ⟨kk, rfl⟩ := any?_ok h1 hy
      obtain ⟨q1, q2, q3⟩ := upto?_ok h3
      obtain ⟨kk', rfl⟩ := any?_ok h5 hx
      obtain ⟨p1, p2, p3⟩ := upto?_ok h7
      exact ⟨k', k, _, .inr ⟨kk, n, rfl, q1, q2, q3⟩, .inr ⟨kk', n', rfl, p1, p2, p3⟩, rfl, by omega, by omega, h8⟩
/-- A part of pure memory. -/
theorem sl_cut {u : Ty} {l : List u.den} {A : Option Addr} {c b h : Nat} (hc : l.length ≤ c) (hm : c ≤ maxLen) (hn : A = none → c = 0)
    (hA : l.length ≠ 0 → ∃ b off, A = some ⟨b, off, none⟩ ∧ ¬ z.M b ∧ b < z.w.heap.size ∧ RowAt z.w z.M b off u l) (hh : h ≤ l.length) (hb : b ≤ h) :
    ARep z (.p (.sl u) ((l.take h).drop b)) (.slice (if c = b then A else A.map (·.add (b * u.cells))) (h - b) (c - b)) := by
  have hlen : ((l.take h).drop b).length = h - b := by rw [List.length_drop, List.length_take]; omega
  have : VRep z.w z.M (.sl u) ((l.take h).drop b) (.slice (if c = b then A else A.map (·.add (b * u.cells))) ((l.take h).drop b).length (c - b)) := by
    refine .mkSc ⟨_, _, rfl, by rw [hlen]; omega, by omega, fun h0 => ?_, fun h0 => ?_⟩ rfl
    · split at h0
      · omega
      · cases A with
        | none => rw [hn rfl]; simp
        | some a => simp at h0
    · have h0' : h - b ≠ 0 := by rwa [hlen] at h0
      obtain ⟨b0, off, rfl, h1, h2, h3⟩ := hA (by omega)
      refine ⟨b0, off + b * u.cells, ?_, h1, h2, ?_⟩
      · rw [if_neg (by omega)]
        simp [Addr.add_mid]
      · have := h3.sub b (h - b)
        rwa [← List.drop_take] at this
  rw [hlen] at this
  exact .p _ _ _ this
theorem evSlice_ok {t : TypeId} {a : AV} {lo hi : Option AV} {K : AV → Option β} {r : β} {v : Value} {vlo vhi : Option Value} (h : evSlice P t a lo hi H K = some r) (hH : HRep z H) (ha : ARep z a v)
    (hlo : ORep z lo vlo) (hhi : ORep z hi vhi) : OkP P (Instr.sliceAt t v vlo vhi none) z K r := by
  unfold evSlice at h
  split at h
  · rename_i hu
    obtain ⟨l, h1, h2⟩ := ob_iff.1 h
    obtain rfl := str?_ok h1 ha
    obtain ⟨b, h', l', q1, q2, rfl, q3, q4, q5⟩ := cutL_ok h2 hlo hhi
    refine .mk' ?_ (.mkS _) q5
    have hsz : (⟨⟨l⟩⟩ : ByteArray).size = l.length := rfl
    simp only [Instr.sliceAt, Instr.slice, Sem.run_bind, run_underlying hu, Result.andThen_ok]
    simp only [Option.isSome_none, Bool.false_eq_true, if_false, hsz]
    have := run_sliceBounds_any (P := P) (isSlice := false) z.w (Nat.le_refl l.length) q1 q2
    simp only [Sem.run_bind, Sem.run_pure, Result.andThen_ok, this]
    congr 2
    apply ByteArray.ext
    rw [ByteArray.data_extract]
    apply Array.ext'
    rw [Array.toList_extract, List.extract_eq_take_drop, List.drop_take]
  · rename_i e hu
    split at h
    · rename_i es id
      cases hb : (Nat.beq es (P.cellsOf e) && !Nat.beq es 0) <;> rw [hb] at h <;> simp only [bq_true, bq_false] at h
      · cases h
      simp only [Bool.and_eq_true, Bool.not_eq_true', beq_nat] at hb
      obtain ⟨he, he0⟩ := hb
      have hm0 : es ≠ 0 := fun h => by rw [h] at he0; cases he0
      split at h
      · obtain ⟨_, rfl⟩ : (none : Option AV) = none ∧ vlo = none := by rcases hlo with h | ⟨_, _, h, _⟩ <;> first | exact h | cases h
        obtain ⟨_, rfl⟩ : (none : Option AV) = none ∧ vhi = none := by rcases hhi with h | ⟨_, _, h, _⟩ <;> first | exact h | cases h
        have form : ∃ A n c, v = .slice A n c ∧ n ≤ c := by
          cases ha with
          | slfV _ _ A hρ => exact ⟨A, 0, 0, rfl, Nat.le_refl _⟩
          | slf _ _ g sz n c hρ hn hs hm => exact ⟨_, n, c, rfl, hn⟩
        obtain ⟨A, n, c, rfl, hnc⟩ := form
        have hrun := run_sliceAt_any (P := P) (A := A) (lo := none) (hi := none) z.w hu he.symm hm0 hnc (.inl ⟨rfl, rfl, rfl⟩) (.inl ⟨rfl, rfl, rfl⟩)
        have e1 : (if c = 0 then A else A.map (·.add (0 * es))) = A := by
          split
          · rfl
          · cases A <;> simp [Addr.add]
        rw [e1] at hrun
        exact .mk' hrun (by simpa using ha) h
      · rename_i lo hi _
        obtain ⟨fz, e', u, l, hg, heu, h3⟩ := ownRows_ok h
        obtain ⟨h', q1, h4⟩ := optI_ok h3 hhi
        obtain ⟨b, q2, h5⟩ := optI_ok h4 hlo
        have l1 := q1.le (Nat.le_refl _)
        have l2 := q2.le (Nat.zero_le _)
        obtain ⟨A, c, rfl, hc, _, hA, _⟩ := slf_len hH hg ha
        refine .mk' (run_sliceAt_any z.w hu he.symm hm0 hc q1 q2) ?_ h5
        rcases hA with hρ | ⟨g, sz, n, hρ, rfl, hs, hm⟩
        · obtain ⟨rfl, _⟩ := hH.virt hg hρ
          have e0 : h' = 0 := Nat.le_zero.1 l1
          have e1 : b = 0 := by omega
          subst e0; subst e1
          cases ha with
          | slfV _ _ _ _ => exact .slV _ _ _ _ hρ
          | slf _ _ _ _ _ _ h' => rw [hρ] at h'; cases h'
        · have := slF_cut (z := z) (off := 0) hρ l2 (by omega : h' ≤ c) (by rw [Nat.zero_add]; exact hs) hm
          simpa using this
    · rename_i es id off n
      cases hb : (Nat.beq es (P.cellsOf e) && !Nat.beq es 0) <;> rw [hb] at h <;> simp only [bq_true, bq_false] at h
      · cases h
      simp only [Bool.and_eq_true, Bool.not_eq_true', beq_nat] at hb
      obtain ⟨he, he0⟩ := hb
      have hm0 : es ≠ 0 := fun h => by rw [h] at he0; cases he0
      obtain ⟨h', q1, h4⟩ := optI_ok h hhi
      obtain ⟨b, q2, h5⟩ := optI_ok h4 hlo
      have l1 := q1.le (Nat.le_refl _)
      have l2 := q2.le (Nat.zero_le _)
      cases ha with
      | slV _ _ _ A hρ =>
        refine .mk' (run_sliceAt_any z.w hu he.symm hm0 (Nat.le_refl 0) q1 q2) ?_ h5
        have e0 : h' = 0 := by omega
        have e1 : b = 0 := by omega
        subst e0; subst e1
        exact .slV _ _ _ _ hρ
      | slE _ _ _ g sz m o hρ =>
        refine .mk' (run_sliceAt_any z.w hu he.symm hm0 (Nat.le_refl 0) q1 q2) ?_ h5
        have e0 : h' = 0 := by omega
        have e1 : b = 0 := by omega
        subst e0; subst e1
        exact .slE _ _ _ _ _ _ _ hρ
      | sl _ _ _ _ g sz m c hρ hn hs hm =>
        exact .mk' (run_sliceAt_any z.w hu he.symm hm0 hn q1 q2) (slF_cut hρ l2 (by omega) hs hm) h5
    · rename_i u l
      cases hb : (Nat.beq u.cells (P.cellsOf e) && !Nat.beq u.cells 0) <;> rw [hb] at h <;> simp only [bq_true, bq_false] at h
      · cases h
      simp only [Bool.and_eq_true, Bool.not_eq_true', beq_nat] at hb
      obtain ⟨he, he0⟩ := hb
      have hm0 : u.cells ≠ 0 := fun h => by rw [h] at he0; cases he0
      obtain ⟨b, h', l', q1, q2, rfl, q3, q4, q5⟩ := cutL_ok h hlo hhi
      obtain ⟨A, c, rfl, hc, hm, hn, hA⟩ := VRep.sl (t := u) ha.v
      exact .mk' (run_sliceAt_any z.w hu he.symm hm0 hc q1 q2) (sl_cut hc hm hn hA q3 q4) q5
    · obtain ⟨hm, h3⟩ := need_iff.1 h
      simp only [Bool.not_eq_true'] at hm
      have hm0 : P.cellsOf e ≠ 0 := fun h => by rw [h] at hm; cases hm
      obtain ⟨h', q1, h4⟩ := optI_ok h3 hhi
      obtain ⟨b, q2, h5⟩ := optI_ok h4 hlo
      have l1 := q1.le (Nat.le_refl _)
      have l2 := q2.le (Nat.zero_le _)
      have e0 : h' = 0 := by omega
      have e1 : b = 0 := by omega
      subst e0; subst e1
      obtain ⟨rfl, _⟩ := ha.v.opq
      have hrun := run_sliceAt_any (P := P) (A := none) z.w hu rfl hm0 (Nat.le_refl 0) q1 q2
      exact .mk' (x := .p .opq (.slice none 0 0)) (v := .slice none 0 0) (by simpa using hrun) ha h5
    · cases h
  · rename_i n e hu
    split at h
    · rename_i es id
      cases hb : (Nat.beq es (P.cellsOf e) && !Nat.beq es 0) <;> rw [hb] at h <;> simp only [bq_true, bq_false] at h
      · cases h
      simp only [Bool.and_eq_true, Bool.not_eq_true', beq_nat] at hb
      obtain ⟨he, he0⟩ := hb
      have hm0 : es ≠ 0 := fun h => by rw [h] at he0; cases he0
      obtain ⟨fz, e', u, l, hg, heu, h3⟩ := ownRows_ok h
      obtain ⟨h4, h5⟩ := need_iff.1 h3
      simp only [Bool.and_eq_true, beq_nat, Nat.ble_eq] at h4
      obtain ⟨hroom, h4⟩ := h4
      cases ha with | own _ _ _ _ g sz m hρ =>
      obtain ⟨_, _, _, cs, fr, a1, a2, a3, a4, a5, a6, a7⟩ := hH.real hg hρ
      have hml : n ≤ maxLen := by unfold room at hroom; unfold maxLen; omega
      split at h5
      · obtain ⟨_, rfl⟩ : (none : Option AV) = none ∧ vlo = none := by rcases hlo with h | ⟨_, _, h, _⟩ <;> first | exact h | cases h
        obtain ⟨_, rfl⟩ : (none : Option AV) = none ∧ vhi = none := by rcases hhi with h | ⟨_, _, h, _⟩ <;> first | exact h | cases h
        have hrun := run_sliceAt_arr (P := P) (g := g) (o := 0 * es + 0) (lo := none) (hi := none) z.w hu he.symm hm0 (.inl ⟨rfl, rfl, rfl⟩) (.inl ⟨rfl, rfl, rfl⟩)
        refine .mk' hrun ?_ h5
        have : (if n = 0 then (⟨g, 0 * es + 0, none⟩ : Addr) else ⟨g, 0 * es + 0 + 0 * es, none⟩) = ⟨g, 0, none⟩ := by split <;> simp
        rw [this]
        have a4' : n = m := h4.trans a4
        subst a4'
        exact .slf _ _ _ _ _ _ hρ (by omega) (by rw [heu, Nat.sub_zero, h4]; exact a5) (by omega)
      · obtain ⟨h', q1, h6⟩ := optI_ok h5 hhi
        obtain ⟨b, q2, h7⟩ := optI_ok h6 hlo
        have l1 := q1.le (Nat.le_refl _)
        have l2 := q2.le (Nat.zero_le _)
        refine .mk' (run_sliceAt_arr z.w hu he.symm hm0 q1 q2) ?_ h7
        have := slF_cut (z := z) (es := es) (off := 0) (c := n) hρ l2 l1 (by rw [Nat.zero_add, heu, h4]; exact a5) hml
        simp only [Nat.zero_mul, Nat.zero_add, Nat.add_zero] at this ⊢
        split at this
        · rename_i hnb; rw [if_pos hnb]; exact this
        · rename_i hnb; rw [if_neg hnb]; simpa [Addr.add_mid] using this
    · rename_i u l
      cases hb : (Nat.beq u.cells (P.cellsOf e) && !Nat.beq u.cells 0 && Nat.ble n room && Nat.beq n l.length) <;> rw [hb] at h <;> simp only [bq_true, bq_false] at h
      · cases h
      simp only [Bool.and_eq_true, Bool.not_eq_true', beq_nat, Nat.ble_eq] at hb
      obtain ⟨⟨⟨he, he0⟩, hroom⟩, hn⟩ := hb
      have hm0 : u.cells ≠ 0 := fun h => by rw [h] at he0; cases he0
      cases ha with | pt _ _ _ _ b0 off hM hlt hr =>
      obtain ⟨b, h', l', q1, q2, rfl, q3, q4, q5⟩ := cutL_ok h hlo hhi
      rw [← hn] at q1
      refine .mk' (run_sliceAt_arr z.w hu he.symm hm0 q1 q2) ?_ q5
      have := sl_cut (z := z) (u := u) (l := l) (A := some ⟨b0, off, none⟩) (c := n) (by omega) (by unfold room at hroom; unfold maxLen; omega) (fun h => by cases h) (fun _ => ⟨b0, off, rfl, hM, hlt, hr⟩) q3 q4
      simp only [Nat.zero_mul, Nat.add_zero] at this ⊢
      split at this
      · rename_i hnb; rw [if_pos hnb]; exact this
      · rename_i hnb; rw [if_neg hnb]; simpa [Addr.add_mid] using this
    · cases h
  · cases h
end
end Go.Ab
