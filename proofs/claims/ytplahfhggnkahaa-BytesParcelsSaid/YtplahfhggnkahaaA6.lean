/- The evaluator's operations are the model's: views, loads, stores. -/
import Derived.Test.YtplahfhggnkahaaA5
set_option linter.all false
namespace Go.Ab

section
variable {P : Program}
theorem cells_info {t n : Nat} (h : P.cellsOf t = n) (h0 : n ≠ 0) : (P.info? t).map (·.size) = some n := by
  unfold Program.cellsOf at h
  cases hi : (P.info? t).map (·.size) with
  | none => rw [hi] at h; simp at h; omega
  | some x => rw [hi] at h; simp at h; rw [h]
theorem ty_ok {t : TypeId} {u : Ty} (h : ty P t = some u) : u.cells = P.cellsOf t ∧ 0 < u.cells ∧ (u.isAgg = true → isAggT P t = true) ∧ (u.isAgg = false → isScal P t = true) := by
  unfold ty at h
  obtain ⟨v, h1, h2⟩ := ob_iff.1 h
  cases hb : (Nat.beq v.cells (P.cellsOf t) && !Nat.beq v.cells 0 && bq v.isAgg (isAggT P t) (isScal P t)) <;> rw [hb] at h2
  · cases h2
  · simp only [bq_true, Option.some.injEq] at h2
    subst h2
    simp only [Bool.and_eq_true, Bool.not_eq_true', beq_nat] at hb
    obtain ⟨⟨q1, q2⟩, q3⟩ := hb
    refine ⟨q1, ?_, fun h => by rw [h] at q3; exact q3, fun h => by rw [h] at q3; exact q3⟩
    rcases Nat.eq_zero_or_pos v.cells with h | h
    · rw [h] at q2; simp at q2
    · exact h
theorem isAggT_row {t : TypeId} (h : isAggT P t = true) : ∃ d, P.underlying t = some d ∧ d.isRow = true := by
  unfold isAggT at h
  split at h <;> first | (cases h; done) | exact ⟨_, by assumption, rfl⟩
theorem isScal_row {t : TypeId} (h : isScal P t = true) : ∃ d, P.underlying t = some d ∧ d.isRow = false := by
  unfold isScal at h
  split at h <;> first | (cases h; done) | skip
  rename_i d h1 h2 h3
  refine ⟨d, h3, ?_⟩
  cases d <;> first | rfl | exact absurd rfl (h1 _) | exact absurd rfl (h2 _ _)
theorem isAgg_run {t : TypeId} (w : World) (h : isScal P t = true) : (isAgg t).run P w = .ok false w := by
  obtain ⟨d, hd, hr⟩ := isScal_row h
  unfold isAgg
  rw [Sem.run_bind, run_underlying hd w]
  cases d <;> simp_all
theorem run_load_one {w : World} {b o : Nat} {t : TypeId} {v : Value} (hs : isScal P t = true) (hc : w.cell? ⟨b, o, none⟩ = some v) :
    (Instr.loadAt t (.pointer (some ⟨b, o, none⟩))).run P w = .ok v w := by
  simp [Instr.loadAt, Instr.sureAddr, loadVar, Sem.run_bind, isAgg_run w hs, load, Sem.run, hc]
theorem run_load_agg {w : World} {b o n : Nat} {t : TypeId} (cs : List Value) (hs : isAggT P t = true) (hn : P.cellsOf t = n) (h0 : n ≠ 0) (hl : cs.length = n)
    (hc : w.rangeAt b o cs) : (Instr.loadAt t (.pointer (some ⟨b, o, none⟩))).run P w = .ok (.agg cs.toArray) w := by
  obtain ⟨d, hd, hr⟩ := isAggT_row hs
  exact run_loadAt_mid w b o t cs d hc hd hr (by rw [hl]; exact cells_info hn h0)

theorem rangeAt_sub {w : World} {b o : Nat} {vs : List Value} (h : w.rangeAt b o vs) (k n : Nat) : w.rangeAt b (o + k) ((vs.drop k).take n) := fun j v hj => by
  have hjn : j < n := by
    have := (List.getElem?_eq_some_iff.1 hj).1
    simp at this; omega
  rw [List.getElem?_take_of_lt hjn, List.getElem?_drop] at hj
  rw [Nat.add_assoc]
  exact h _ _ hj
theorem rangeAt_append {w : World} {b o : Nat} {u v : List Value} (h1 : w.rangeAt b o u) (h2 : w.rangeAt b (o + u.length) v) : w.rangeAt b o (u ++ v) := fun j x hj => by
  by_cases h : j < u.length
  · rw [List.getElem?_append_left h] at hj; exact h1 j x hj
  · rw [List.getElem?_append_right (by omega)] at hj
    have := h2 _ _ hj
    rwa [show o + u.length + (j - u.length) = o + j from by omega] at this
theorem RowAt.nil {w : World} {M : Nat → Prop} {b off : Nat} {t : Ty} : RowAt w M b off t [] := fun i e h => by simp at h
theorem RowAt.tail {w : World} {M : Nat → Prop} {b off : Nat} {t : Ty} {x : t.den} {l : List t.den} (h : RowAt w M b off t (x :: l)) : RowAt w M b (off + t.cells) t l := fun i e he => by
  obtain ⟨u, h1, h2⟩ := h (i + 1) e (by simpa using he)
  refine ⟨u, h1, ?_⟩
  rw [Nat.succ_mul] at h2
  rwa [show off + t.cells + i * t.cells = off + (i * t.cells + t.cells) from by omega]
/-- A row's cells. -/
theorem RowAt.cells {w : World} {M : Nat → Prop} {t : Ty} : ∀ {l : List t.den} {b off : Nat}, RowAt w M b off t l →
    ∃ css : List (List Value), css.length = l.length ∧ (∀ (i : Nat) e u, l[i]? = some e → css[i]? = some u → Cl w M t e u) ∧ w.rangeAt b off css.flatten
  | [], b, off, _ => ⟨[], rfl, fun i e u h => by simp at h, fun j v h => by simp at h⟩
  | x :: l, b, off, h => by
    obtain ⟨u, h1, h2⟩ := h 0 x rfl
    obtain ⟨css, q1, q2, q3⟩ := RowAt.cells h.tail
    refine ⟨u :: css, by simp [q1], fun i e v p1 p2 => ?_, ?_⟩
    · match i with
      | 0 => simp at p1 p2; subst p1; subst p2; exact h1
      | i + 1 => exact q2 i e v (by simpa using p1) (by simpa using p2)
    · rw [List.flatten_cons]
      exact rangeAt_append (by simpa using h2) (by rw [h1.len]; exact q3)
theorem RowAt.sub {w : World} {M : Nat → Prop} {b off : Nat} {t : Ty} {l : List t.den} (h : RowAt w M b off t l) (k n : Nat) : RowAt w M b (off + k * t.cells) t ((l.drop k).take n) := fun i e he => by
  have hi : i < n := by
    have := (List.getElem?_eq_some_iff.1 he).1
    simp at this; omega
  rw [List.getElem?_take_of_lt hi, List.getElem?_drop] at he
  obtain ⟨u, h1, h2⟩ := h _ _ he
  refine ⟨u, h1, ?_⟩
  rw [Nat.add_mul] at h2
  rwa [Nat.add_assoc]

section
variable {β : Type} {z : Z} {H : Hp}

theorem cell_heap {w : World} {g o : Nat} {cs : Array Value} {e : TypeId} {fr : Nat × Nat} (h : w.heap[g]? = some (.cells cs e fr)) : w.cell? ⟨g, o, none⟩ = cs[o]? := by
  unfold World.cell?; rw [h]; rfl
/-- An own block's rows. -/
theorem BRep.rowAt {g sz n : Nat} {e : TypeId} {t : Ty} {l : List t.den} (h : BRep z g sz n (.rows e t l)) : RowAt z.w z.M g 0 t l := fun i x hx => by
  obtain ⟨cs, fr, a1, a2, a3, a4, a5, a6, a7⟩ := h
  obtain ⟨u, h1, h2⟩ := a7 i x hx
  refine ⟨u, h1, fun j v hj => ?_⟩
  rw [cell_heap a1, Nat.zero_add]
  exact h2 j v hj

/-! Views -/
theorem view_ok {a a' : AV} {v : Value} (hH : HRep z H) (h : view H a = some a') (ha : ARep z a v) : ARep z a' v := by
  unfold view at h
  split at h
  · simp at h; subst h; exact ha
  · simp at h; subst h; exact ha
  · simp at h; subst h; exact ha
  · rename_i es id
    split at h
    · rename_i e t l hg
      cases hb : Nat.beq es t.cells <;> rw [hb] at h
      · cases h
      · simp only [bq_true, Option.some.injEq] at h
        subst h
        rw [beq_nat] at hb
        subst hb
        cases ha with
        | slfV _ _ A hρ =>
          obtain ⟨rfl, _⟩ := hH.virt hg hρ
          refine .p _ _ _ (.mkSc ⟨A, 0, rfl, Nat.le_refl _, by unfold maxLen; omega, fun _ => rfl, fun h => absurd rfl h⟩ rfl)
        | slf _ _ g sz n c hρ hn hs hm =>
          obtain ⟨h1, _, h3, h4⟩ := hH.real hg hρ
          have hrow := h4.rowAt
          obtain ⟨cs, fr, a1, a2, a3, a4, a5, a6, a7⟩ := h4
          have a4' : l.length = n := a4
          rw [← a4'] at hn ⊢
          exact .p _ _ _ (.mkSc ⟨_, c, rfl, hn, hm, (fun h => by cases h), fun _ => ⟨g, 0, rfl, h3 rfl, h1, hrow⟩⟩ rfl)
    · cases h
  · rename_i es id off n
    split at h
    · rename_i e t l hg
      cases hb : (Nat.beq es t.cells && Nat.ble (off + n) l.length) <;> rw [hb] at h
      · cases h
      · simp only [bq_true, Option.some.injEq] at h
        subst h
        simp only [Bool.and_eq_true, beq_nat, Nat.ble_eq] at hb
        obtain ⟨rfl, hb⟩ := hb
        have hlen : ((l.drop off).take n).length = n := by rw [List.length_take, List.length_drop]; omega
        have mk : ∀ A c, n ≤ c → c ≤ maxLen → (A = none → c = 0) → (n ≠ 0 → ∃ b o, A = some ⟨b, o, none⟩ ∧ ¬ z.M b ∧ b < z.w.heap.size ∧ RowAt z.w z.M b o t ((l.drop off).take n)) →
            ARep z (.p (.sl t) ((l.drop off).take n)) (.slice A n c) := fun A c q1 q2 q3 q4 => by
          have : VRep z.w z.M (.sl t) ((l.drop off).take n) (.slice A ((l.drop off).take n).length c) :=
            .mkSc ⟨A, c, rfl, by rw [hlen]; exact q1, q2, q3, fun h0 => q4 (by rwa [hlen] at h0)⟩ rfl
          rw [hlen] at this
          exact .p _ _ _ this
        cases ha with
        | slV _ _ _ A hρ => exact mk A 0 (Nat.le_refl _) (by unfold maxLen; omega) (fun _ => rfl) (fun h => absurd rfl h)
        | slE _ _ _ g sz m o hρ => exact mk _ 0 (Nat.le_refl _) (by unfold maxLen; omega) (fun _ => rfl) (fun h => absurd rfl h)
        | sl _ _ _ _ g sz m c hρ hn hs hm =>
          obtain ⟨h1, _, h3, h4⟩ := hH.real hg hρ
          refine mk _ c hn hm (fun h => by cases h) fun _ => ⟨g, off * t.cells, rfl, h3 rfl, h1, ?_⟩
          have := h4.rowAt.sub off n
          rwa [Nat.zero_add] at this
    · cases h
  · rename_i es id i j
    split at h
    · rename_i e t l hg
      cases hb : Nat.beq es t.cells <;> rw [hb] at h
      · cases h
      · simp only [bq_true, Option.some.injEq] at h
        subst h
        rw [beq_nat] at hb
        subst hb
        cases ha with
        | own _ _ _ _ g sz n hρ =>
          obtain ⟨h1, _, h3, h4⟩ := hH.real hg hρ
          have := ARep.pt (z := z) t l i j g 0 (h3 rfl) h1 h4.rowAt
          rwa [Nat.zero_add] at this
    · cases h
  · cases h
theorem pure1_ok {a a' : AV} {H' : Hp} {v : Value} (hH : HRep z H) (h : pure1 H a = some (a', H')) (ha : ARep z a v) :
    ∃ z', z'.w = z.w ∧ HRep z' H' ∧ Nx z z' ∧ z'.ρ = z.ρ ∧ ARep z' a' v := by
  unfold pure1 at h
  obtain ⟨x, h1, h2⟩ := Option.map_eq_some_iff.1 h
  simp only [Prod.mk.injEq] at h2
  obtain ⟨rfl, rfl⟩ := h2
  obtain ⟨z', q1, q2, q3, q4⟩ := frzA_ok a hH
  exact ⟨z', q1, q2, q3, q4, view_ok q2 h1 (ha.kp (q3.kp hH.sub))⟩
theorem pureL_ok : ∀ {l l' : List AV} {z : Z} {H H' : Hp} {vs : List Value}, HRep z H → pureL H l = some (l', H') → AReps z l vs →
    ∃ z', z'.w = z.w ∧ HRep z' H' ∧ Nx z z' ∧ z'.ρ = z.ρ ∧ AReps z' l' vs
  | [], l', z, H, H', vs, hH, h, hr => by
    simp [pureL] at h
    obtain ⟨rfl, rfl⟩ := h
    exact ⟨z, rfl, hH, Nx.refl z, rfl, hr⟩
  | a :: l, l', z, H, H', vs, hH, h, hr => by
    simp only [pureL] at h
    obtain ⟨⟨x, H1⟩, h1, h2⟩ := ob_iff.1 h
    obtain ⟨⟨y, H2⟩, h3, h4⟩ := Option.map_eq_some_iff.1 h2
    simp only [Prod.mk.injEq] at h4
    obtain ⟨rfl, rfl⟩ := h4
    match vs, hr with
    | [], hr => have := hr.1; simp at this
    | v :: vs, hr =>
      obtain ⟨z1, q1, q2, q3, q4, q5⟩ := pure1_ok hH h1 hr.head
      obtain ⟨z2, p1, p2, p3, p4, p5⟩ := pureL_ok q2 h3 (hr.tail.kp (q3.kp hH.sub))
      exact ⟨z2, p1.trans q1, p2, q3.trans p3, p4.trans q4, .cons (q5.kp (p3.kp q2.sub)) p5⟩
theorem pureA_ok {a a' : AV} {H' : Hp} {v : Value} (hH : HRep z H) (h : pureA H a = some (a', H')) (ha : ARep z a v) :
    ∃ z', z'.w = z.w ∧ HRep z' H' ∧ Nx z z' ∧ z'.ρ = z.ρ ∧ ARep z' a' v := by
  unfold pureA at h
  split at h
  · rename_i l
    obtain ⟨⟨l', H1⟩, h1, h2⟩ := Option.map_eq_some_iff.1 h
    simp only [Prod.mk.injEq] at h2
    obtain ⟨rfl, rfl⟩ := h2
    cases ha with | agg _ cs hs h3 h4 =>
    obtain ⟨z', q1, q2, q3, q4, q5⟩ := pureL_ok (vs := cs.toList) hH h1 ⟨by simp [hs], fun i a v p1 p2 => h4 i a v p1 (by simpa using p2)⟩
    refine ⟨z', q1, q2, q3, q4, .agg _ _ ?_ h3 fun i x v p1 p2 => q5.2 i x v p1 (by simpa using p2)⟩
    have := q5.1
    simpa using this.symm
  · exact pure1_ok hH h ha

/-! Loads -/
theorem rdRow_ok {u : Ty} {t : TypeId} {x : u.den} {j : Nat} {K : AV → Option β} {r : β} {b o : Nat} {us : List Value} (h : rdRow P u t x j K = some r) (hc : Cl z.w z.M u x us) (ho : z.w.rangeAt b o us) :
    ∃ a v, (Instr.loadAt t (.pointer (some ⟨b, o + j, none⟩))).run P z.w = .ok v z.w ∧ ARep z a v ∧ K a = some r := by
  unfold rdRow at h
  obtain ⟨want, h1, h2⟩ := ob_iff.1 h
  obtain ⟨t1, t2, t3, t4⟩ := ty_ok h1
  obtain ⟨y, q1, q2, q3⟩ := sub_ok h2 hc
  have hr := rangeAt_sub ho j want.cells
  have hl := q1.len
  cases hagg : want.isAgg
  · have hcells : want.cells = 1 := by cases want <;> first | rfl | (simp [Ty.isAgg] at hagg; done)
    match hvs : (us.drop j).take want.cells, hl with
    | [], hl => rw [hcells] at hl; simp at hl
    | _ :: _ :: _, hl => rw [hcells] at hl; simp at hl
    | [v], _ =>
      rw [hvs] at hr q1
      refine ⟨_, v, run_load_one (t4 hagg) (by have := hr 0 v rfl; simpa using this), ofTy_ok (.mkSc q1 hagg), q3⟩
  · refine ⟨_, _, run_load_agg _ (t3 hagg) t1.symm (by omega) hl hr, ofTy_ok ⟨_, q1, by rw [hagg]; rfl⟩, q3⟩
theorem rdRows_ok {t : TypeId} {u : Ty} {l : List u.den} {i j : Nat} {K : AV → Option β} {r : β} {b off : Nat} (h : rdRows P t u l i j K = some r) (hr : RowAt z.w z.M b off u l) :
    ∃ a v, (Instr.loadAt t (.pointer (some ⟨b, off + i * u.cells + j, none⟩))).run P z.w = .ok v z.w ∧ ARep z a v ∧ K a = some r := by
  have key : (l[i]?.bind fun x => rdRow P u t x j K) = some r → ∃ a v, (Instr.loadAt t (.pointer (some ⟨b, off + i * u.cells + j, none⟩))).run P z.w = .ok v z.w ∧ ARep z a v ∧ K a = some r := by
    intro h
    obtain ⟨x, h1, h2⟩ := Option.bind_eq_some_iff.1 h
    obtain ⟨us, h3, h4⟩ := hr i x h1
    exact rdRow_ok h2 h3 h4
  unfold rdRows at h
  split at h
  · rename_i n u' hty
    obtain ⟨t1, t2, t3, t4⟩ := ty_ok hty
    cases hb : (decide (u' = u) && Nat.beq i 0 && Nat.beq j 0) <;> rw [hb] at h
    · exact key h
    · simp only [bq_true] at h
      obtain ⟨h1, h2⟩ := need_iff.1 h
      simp only [Bool.and_eq_true, decide_eq_true_eq, beq_nat] at hb h1
      obtain ⟨⟨rfl, rfl⟩, rfl⟩ := hb
      obtain ⟨css, q1, q2, q3⟩ := hr.cells
      have hl : css.flatten.length = n * u'.cells := by
        rw [flatten_len (n := u'.cells), q1, h1]
        intro w hw
        obtain ⟨k, hk⟩ := List.getElem?_of_mem hw
        obtain ⟨e, he⟩ := get_of_len (l := l) q1 hk
        exact (q2 k e w he hk).len
      refine ⟨.p (.arr n u') l, .agg css.flatten.toArray, ?_, .p _ _ _ ⟨css.flatten, ⟨h1, css, by rw [q1, h1], rfl, q2⟩, rfl⟩, h2⟩
      have := run_load_agg (P := P) (w := z.w) (b := b) (o := off) css.flatten (t3 rfl) t1.symm (by omega) hl q3
      simpa using this
  · exact key h
theorem rdVars_ok {t : TypeId} {c : List AV} {j : Nat} {K : AV → Option β} {r : β} {g : Nat} {vs : List Value} (h : rdVars P t c j K = some r) (hc : AReps z c vs) (h1 : ∀ v ∈ vs, v.oneCell' = true)
    (ho : z.w.rangeAt g 0 vs) : ∃ a v, (Instr.loadAt t (.pointer (some ⟨g, j, none⟩))).run P z.w = .ok v z.w ∧ ARep z a v ∧ K a = some r := by
  unfold rdVars at h
  cases ha : isAggT P t <;> rw [ha] at h <;> simp only [bq_true, bq_false] at h
  · cases hs : isScal P t <;> rw [hs] at h <;> simp only [bq_true, bq_false] at h
    · cases h
    · obtain ⟨x, h2, h3⟩ := ob_iff.1 h
      obtain ⟨v, h4, h5⟩ := hc.get h2
      exact ⟨x, v, run_load_one hs (by have := ho j v h4; simpa using this), h5, h3⟩
  · obtain ⟨h2, h3⟩ := need_iff.1 h
    simp only [Bool.and_eq_true, Bool.not_eq_true', Nat.ble_eq] at h2
    obtain ⟨h2, h4⟩ := h2
    have h0 : P.cellsOf t ≠ 0 := fun h0 => by rw [h0] at h4; simp at h4
    have hl := hc.1
    have hlen : ((vs.drop j).take (P.cellsOf t)).length = P.cellsOf t := by rw [List.length_take, List.length_drop]; omega
    refine ⟨_, _, run_load_agg _ ha rfl h0 hlen (by have := rangeAt_sub ho j (P.cellsOf t); simpa using this), .agg _ _ ?_ (fun v hv => ?_) (fun i x v p1 p2 => ?_), h3⟩
    · have := ((hc.drop j).take (P.cellsOf t)).1
      simpa using this.symm
    · exact h1 v (List.mem_of_mem_drop (List.mem_of_mem_take (by simpa using hv)))
    · exact ((hc.drop j).take (P.cellsOf t)).2 i x v p1 (by simpa using p2)
theorem BRep.vars_at {g sz n : Nat} {c : List AV} (h : BRep z g sz n (.vars c)) : ∃ vs : List Value, AReps z c vs ∧ (∀ v ∈ vs, v.oneCell' = true) ∧ z.w.rangeAt g 0 vs := by
  obtain ⟨cs, e, fr, a1, a2, a3, a4, a5, a6⟩ := h
  refine ⟨cs.toList, ⟨by simp; omega, fun i a v p1 p2 => a5 i a v p1 (by simpa using p2)⟩, fun v hv => a6 v (by simpa using hv), fun j v hj => ?_⟩
  rw [cell_heap a1, Nat.zero_add]
  simpa using hj
theorem evLoad_ok {t : TypeId} {a : AV} {K : AV → Option β} {r : β} {pv : Value} (h : evLoad P t a H K = some r) (hH : HRep z H) (ha : ARep z a pv) :
    ∃ x v, (Instr.loadAt t pv).run P z.w = .ok v z.w ∧ ARep z x v ∧ K x = some r := by
  unfold evLoad at h
  split at h
  · rename_i es id i j
    split at h
    · rename_i c hg
      cases hi : Nat.beq i 0 <;> rw [hi] at h <;> simp only [bq_true, bq_false] at h
      · cases h
      · rw [beq_nat] at hi
        subst hi
        cases ha with
        | own _ _ _ _ g sz n hρ =>
          obtain ⟨vs, q1, q2, q3⟩ := (hH.real hg hρ).2.2.2.vars_at
          obtain ⟨x, v, p1, p2, p3⟩ := rdVars_ok h q1 q2 q3
          exact ⟨x, v, by simpa using p1, p2, p3⟩
    · rename_i e u l hg
      cases hi : Nat.beq es u.cells <;> rw [hi] at h <;> simp only [bq_true, bq_false] at h
      · cases h
      · rw [beq_nat] at hi
        subst hi
        cases ha with
        | own _ _ _ _ g sz n hρ =>
          have := rdRows_ok h (hH.real hg hρ).2.2.2.rowAt
          simpa using this
    · cases h
  · rename_i u l i j
    cases ha with | pt _ _ _ _ b off hM hlt hr => exact rdRows_ok h hr
  · cases h

/-! Stores -/
def setArr : Array Value → Nat → List Value → Array Value
  | c, _, [] => c
  | c, o, v :: r => setArr (c.setIfInBounds o v) (o + 1) r
theorem setArr_size (vs : List Value) : ∀ (c : Array Value) (o : Nat), (setArr c o vs).size = c.size := by
  induction vs with
  | nil => intro c o; rfl
  | cons v vs ih => intro c o; simp [setArr, ih]
theorem setArr_get (vs : List Value) : ∀ (c : Array Value) (o k : Nat), o + vs.length ≤ c.size → (setArr c o vs)[k]? = if o ≤ k ∧ k < o + vs.length then vs[k - o]? else c[k]? := by
  induction vs with
  | nil => intro c o k _; simp only [setArr, List.length_nil]; rw [if_neg (by omega)]
  | cons v vs ih =>
    intro c o k hk
    simp only [List.length_cons] at hk ⊢
    rw [setArr, ih _ _ _ (by simp; omega)]
    by_cases h1 : o + 1 ≤ k ∧ k < o + 1 + vs.length
    · rw [if_pos h1, if_pos (by omega), show k - o = (k - (o + 1)) + 1 from by omega, List.getElem?_cons_succ]
    · rw [if_neg h1]
      by_cases h2 : k = o
      · subst h2
        rw [if_pos (by omega)]
        simp [show k < c.size from by omega]
      · rw [if_neg (by omega), Array.getElem?_setIfInBounds_ne (by omega)]
theorem heap_setCell_at (w : World) (g o : Nat) (v : Value) (cs : Array Value) (e : TypeId) (fr : Nat × Nat) (h : w.heap[g]? = some (.cells cs e fr)) : (w.setCell ⟨g, o, none⟩ v).heap[g]? = some (.cells (cs.setIfInBounds o v) e fr) := by
  unfold World.setCell
  simp [Array.getElem?_modify, h]
theorem heap_setCells_at (vs : List Value) : ∀ (w : World) (g o : Nat) (cs : Array Value) (e : TypeId) (fr : Nat × Nat), w.heap[g]? = some (.cells cs e fr) → (w.setCells g o vs).heap[g]? = some (.cells (setArr cs o vs) e fr) := by
  induction vs with
  | nil => intro w g o cs e fr h; exact h
  | cons v vs ih => intro w g o cs e fr h; exact ih _ _ _ _ _ _ (heap_setCell_at w g o v cs e fr h)
theorem heap_setCells_ne (vs : List Value) : ∀ (w : World) (g o b : Nat), b ≠ g → (w.setCells g o vs).heap[b]? = w.heap[b]? := by
  induction vs with
  | nil => intro w g o b _; rfl
  | cons v vs ih => intro w g o b h; exact (ih _ g (o + 1) b h).trans (RowKit.Below.heap_setCell w ⟨g, o, none⟩ v b h)
theorem setCells_same (vs : List Value) : ∀ (w : World) (g o : Nat), (w.setCells g o vs).heap.size = w.heap.size ∧ (w.setCells g o vs).os = w.os ∧ (w.setCells g o vs).tape = w.tape ∧ (w.setCells g o vs).output = w.output := by
  induction vs with
  | nil => intro w g o; exact ⟨rfl, rfl, rfl, rfl⟩
  | cons v vs ih =>
    intro w g o
    obtain ⟨h1, h2, h3, h4⟩ := ih (w.setCell ⟨g, o, none⟩ v) g (o + 1)
    exact ⟨h1.trans (by simp [World.setCell]), h2, h3, h4⟩
theorem setFrom_len {α : Type} (vs : List α) : ∀ (c : List α) (j : Nat), (setFrom c j vs).length = c.length := by
  induction vs with
  | nil => intro c j; rfl
  | cons v vs ih => intro c j; simp [setFrom, ih]
theorem setFrom_get {α : Type} (vs : List α) : ∀ (c : List α) (j k : Nat), j + vs.length ≤ c.length → (setFrom c j vs)[k]? = if j ≤ k ∧ k < j + vs.length then vs[k - j]? else c[k]? := by
  induction vs with
  | nil => intro c j k _; simp only [setFrom, List.length_nil]; rw [if_neg (by omega)]
  | cons v vs ih =>
    intro c j k hk
    simp only [List.length_cons] at hk ⊢
    rw [setFrom, ih _ _ _ (by simp; omega)]
    by_cases h1 : j + 1 ≤ k ∧ k < j + 1 + vs.length
    · rw [if_pos h1, if_pos (by omega), show k - j = (k - (j + 1)) + 1 from by omega, List.getElem?_cons_succ]
    · rw [if_neg h1]
      by_cases h2 : k = j
      · subst h2
        rw [if_pos (by omega), List.getElem?_set_self (by omega)]
        simp
      · rw [if_neg (by omega), List.getElem?_set_ne (by omega)]

theorem run_store_any {w : World} {g o : Nat} {t : TypeId} {v : Value} {n : Nat} (ht : w.there g o v.cells.size) (hn : P.cellsOf t = n) (h0 : n ≠ 0) (hs : v.cells.size = n) (h1 : ∀ u ∈ v.cells, u.oneCell' = true) :
    (Instr.storeAt t (.pointer (some ⟨g, o, none⟩)) v).run P w = .ok () (w.setCells g o v.cells.toList) := by
  have hi := cells_info hn h0
  have := run_storeCells_cells (P := P) g o v.cells.toList 0 w (fun j hj => by simpa using (ht j (by simpa using hj)).1) (fun j hj => by simpa using (ht j (by simpa using hj)).2)
    (fun u hu => h1 u (by simpa using hu))
  cases hq : P.info? t with
  | none => simp [hq] at hi
  | some i =>
    have hs' : v.cells.size = i.size := by simp [hq] at hi; omega
    simp only [Nat.add_zero] at this
    simp [Instr.storeAt, Instr.sureAddr, storeVar, Sem.run_bind, sizeOf, typeInfo, hq, hs', this]
theorem there_of {w : World} {g o n : Nat} {cs : Array Value} {e : TypeId} {fr : Nat × Nat} (h : w.heap[g]? = some (.cells cs e fr)) (hf : okF cs fr) (hn : o + n ≤ cs.size) : w.there g o n := fun j hj => by
  constructor
  · rw [cell_heap h]; simp [show o + j < cs.size from by omega]
  · unfold World.frozen?; rw [h]
    simp only [Bool.and_eq_false_iff, decide_eq_false_iff_not]
    rcases hf with hf | hf
    · omega
    · omega
theorem mul_lt {i j n es : Nat} (hi : i < n) (hj : j < es) : i * es + j < n * es := by
  have : (i + 1) * es ≤ n * es := Nat.mul_le_mul_right _ hi
  rw [Nat.succ_mul] at this
  omega

/-- What a step yields. -/
def Ok (P : Program) (s : Sem Value) (z : Z) (K : AV → Hp → Option β) (r : β) : Prop :=
  ∃ x v H' z', s.run P z.w = .ok v z'.w ∧ HRep z' H' ∧ ARep z' x v ∧ Nx z z' ∧ K x H' = some r
/-- A step that leaves the world alone. -/
def OkP (P : Program) (s : Sem Value) (z : Z) (K : AV → Option β) (r : β) : Prop :=
  ∃ x v, s.run P z.w = .ok v z.w ∧ ARep z x v ∧ K x = some r

/-- A store into an own block. -/
theorem store_ok {id g sz n o : Nat} {t : TypeId} {v : Value} {b0 b : Blk} {cs : Array Value} {e : TypeId} {fr : Nat × Nat} (hH : HRep z H) (hg : hget H id = some ⟨false, b0⟩) (hρ : z.ρ id = .real g sz n)
    (hcs : z.w.heap[g]? = some (.cells cs e fr)) (hf : okF cs fr) (hc0 : P.cellsOf t ≠ 0) (hsz : v.cells.size = P.cellsOf t) (hfit : o + v.cells.size ≤ cs.size) (h1 : ∀ u ∈ v.cells, u.oneCell' = true)
    (hb : ∀ z', Kp z z' → z'.w.heap[g]? = some (.cells (setArr cs o v.cells.toList) e fr) → BRep z' g sz n b) :
    ∃ z', (Instr.storeAt t (.pointer (some ⟨g, o, none⟩)) v).run P z.w = .ok () z'.w ∧ HRep z' (hset H id (some ⟨false, b⟩)) ∧ Nx z z' := by
  obtain ⟨q1, q2, q3, q4⟩ := setCells_same v.cells.toList z.w g o
  obtain ⟨p1, p2⟩ := hH.write (w' := z.w.setCells g o v.cells.toList) (b := b) hg hρ q2 q3 q4 q1 (fun b hb => heap_setCells_ne _ _ _ _ _ hb) (fun k => hb _ k (heap_setCells_at _ _ _ _ _ _ _ hcs))
  exact ⟨_, run_store_any (there_of hcs hf hfit) rfl hc0 hsz h1, p1, p2⟩
theorem okF_set {cs cs' : Array Value} {fr : Nat × Nat} (h : okF cs fr) (hs : cs'.size = cs.size) : okF cs' fr := by unfold okF at *; rw [hs]; exact h
theorem VRep.cells {w : World} {M : Nat → Prop} {t : Ty} {x : t.den} {v : Value} (h : VRep w M t x v) : Cl w M t x v.cells.toList ∧ ∀ u ∈ v.cells, u.oneCell' = true := by
  obtain ⟨vs, h1, h2⟩ := h
  cases hagg : t.isAgg <;> rw [hagg] at h2 <;> simp only [cond_true, cond_false] at h2
  · have hl := h1.len
    have hc : t.cells = 1 := by cases t <;> first | rfl | (simp [Ty.isAgg] at hagg; done)
    match vs, hl with
    | [u], _ =>
      simp at h2
      subst h2
      have h3 := h1.one v (by simp)
      have e : v.cells = #[v] := by cases v <;> first | rfl | (simp [Value.oneCell'] at h3; done)
      rw [e]
      exact ⟨h1, fun u hu => by simp at hu; subst hu; exact h3⟩
    | [], hl => simp at hl; omega
    | _ :: _ :: _, hl => simp at hl; omega
  · subst h2
    exact ⟨h1, fun u hu => h1.one u (by simpa [Value.cells] using hu)⟩

theorem rows_set_ok {id g sz n i j : Nat} {t : TypeId} {e : TypeId} {u want : Ty} {l : List u.den} {x : u.den} {y : want.den} {v : Value} {b0 : Blk} {K : AV → Hp → Option β} {r : β}
    (hH : HRep z H) (hg : hget H id = some ⟨false, b0⟩) (hρ : z.ρ id = .real g sz n) (hb : BRep z g sz n (.rows e u l)) (hty : ty P t = some want) (hx : l[i]? = some x) (hy : VRep z.w z.M want y v)
    (h : upd u x j want y (fun x' => K .junk (hset H id (some ⟨false, .rows e u (l.set i x')⟩))) = some r) :
    ∃ H' z', (Instr.storeAt t (.pointer (some ⟨g, i * u.cells + j, none⟩)) v).run P z.w = .ok () z'.w ∧ HRep z' H' ∧ Nx z z' ∧ K .junk H' = some r := by
  obtain ⟨t1, t2, t3, t4⟩ := ty_ok hty
  obtain ⟨cs, fr, a1, a2, a3, a4, a5, a6, a7⟩ := hb
  obtain ⟨us, c1, c2⟩ := a7 i x hx
  obtain ⟨c3, c4⟩ := hy.cells
  obtain ⟨x', q1, q2, q3⟩ := upd_ok h c1 c3
  have hi : i < l.length := (List.getElem?_eq_some_iff.1 hx).1
  have hup : (i + 1) * u.cells ≤ l.length * u.cells := Nat.mul_le_mul_right _ hi
  rw [Nat.succ_mul] at hup
  have hvl := c3.len
  have hvs : v.cells.size = want.cells := by simpa using hvl
  have hul := c1.len
  obtain ⟨z', s1, s2, s3⟩ := store_ok (P := P) (t := t) (o := i * u.cells + j) (v := v) (b := .rows e u (l.set i x')) hH hg hρ a1 a2 (by omega) (by omega) (by omega) c4 (fun z' k hw => by
    refine ⟨_, fr, hw, okF_set a2 (setArr_size _ _ _), by rw [setArr_size]; exact a3, by rw [List.length_set]; exact a4, by rw [List.length_set]; exact a5, a6, fun i' y' hi' => ?_⟩
    by_cases hii : i = i'
    · subst hii
      rw [List.getElem?_set_self hi] at hi'
      obtain rfl : x' = y' := Option.some.inj hi'
      refine ⟨_, q1.kp k, fun m w hm => ?_⟩
      rw [setArr_get _ _ _ _ (by simp; omega)]
      have hlen : (us.take j ++ v.cells.toList ++ us.drop (j + want.cells)).length = u.cells := by
        simp [List.length_take, List.length_drop]; omega
      have hmlt : m < u.cells := by
        have := (List.getElem?_eq_some_iff.1 hm).1
        omega
      simp only [Array.length_toList]
      by_cases h1 : j ≤ m ∧ m < j + v.cells.size
      · rw [if_pos (by omega), show i * u.cells + m - (i * u.cells + j) = m - j from by omega]
        rw [List.append_assoc, List.getElem?_append_right (by simp; omega), List.getElem?_append_left (by simp; omega)] at hm
        rw [← hm]
        congr 1
        simp; omega
      · rw [if_neg (by omega)]
        by_cases h2 : m < j
        · rw [List.append_assoc, List.getElem?_append_left (by simp; omega), List.getElem?_take_of_lt h2] at hm
          exact c2 m w hm
        · rw [List.getElem?_append_right (by simp; omega), List.getElem?_drop] at hm
          refine c2 m w ?_
          rw [← hm]
          congr 1
          simp; omega
    · rw [List.getElem?_set_ne hii] at hi'
      obtain ⟨us', d1, d2⟩ := a7 i' y' hi'
      refine ⟨us', d1.kp k, fun m w hm => ?_⟩
      have hmlt : m < u.cells := by
        have := (List.getElem?_eq_some_iff.1 hm).1
        rw [d1.len] at this; exact this
      rw [setArr_get _ _ _ _ (by simp; omega), if_neg, d2 m w hm]
      simp only [Array.length_toList]
      rcases Nat.lt_or_ge i i' with hlt | hge
      · have : (i + 1) * u.cells ≤ i' * u.cells := Nat.mul_le_mul_right _ hlt
        rw [Nat.succ_mul] at this
        omega
      · have : (i' + 1) * u.cells ≤ i * u.cells := Nat.mul_le_mul_right _ (by omega)
        rw [Nat.succ_mul] at this
        omega)
  exact ⟨_, z', s1, s2, s3, q3⟩

theorem wrRows_ok {id g sz n i j : Nat} {t : TypeId} {e : TypeId} {u : Ty} {l : List u.den} {a : AV} {v : Value} {b0 : Blk} {K : AV → Hp → Option β} {r : β}
    (h : wrRows P t e u l i j id a H K = some r) (hH : HRep z H) (hg : hget H id = some ⟨false, b0⟩) (hρ : z.ρ id = .real g sz n) (hb : BRep z g sz n (.rows e u l)) (ha : ARep z a v) :
    ∃ H' z', (Instr.storeAt t (.pointer (some ⟨g, i * u.cells + j, none⟩)) v).run P z.w = .ok () z'.w ∧ HRep z' H' ∧ Nx z z' ∧ K .junk H' = some r := by
  have key : ∀ want, ty P t = some want → (asA want a fun y => l[i]?.bind fun x => upd u x j want y fun x' => K .junk (hset H id (some ⟨false, .rows e u (l.set i x')⟩))) = some r →
      ∃ H' z', (Instr.storeAt t (.pointer (some ⟨g, i * u.cells + j, none⟩)) v).run P z.w = .ok () z'.w ∧ HRep z' H' ∧ Nx z z' ∧ K .junk H' = some r := by
    intro want hty h
    obtain ⟨y, h1, h2⟩ := asA_ok h ha
    obtain ⟨x, h3, h4⟩ := Option.bind_eq_some_iff.1 h2
    exact rows_set_ok hH hg hρ hb hty h3 h1 h4
  unfold wrRows at h
  split at h
  · rename_i m u' hty
    cases hc : (decide (u' = u) && Nat.beq i 0 && Nat.beq j 0) <;> rw [hc] at h <;> simp only [bq_true, bq_false] at h
    · exact key _ hty h
    · simp only [Bool.and_eq_true, decide_eq_true_eq, beq_nat] at hc
      obtain ⟨⟨rfl, rfl⟩, rfl⟩ := hc
      obtain ⟨h1, h2⟩ := need_iff.1 h
      obtain ⟨l', h3, h4⟩ := asA_ok h2 ha
      obtain ⟨h5, h6⟩ := need_iff.1 h4
      rw [beq_nat] at h1 h5
      obtain ⟨t1, t2, t3, t4⟩ := ty_ok hty
      obtain ⟨cs, fr, a1, a2, a3, a4, a5, a6, a7⟩ := hb
      obtain ⟨c3, c4⟩ := h3.cells
      have hvl := c3.len
      have hvs : v.cells.size = m * u'.cells := by simpa [Ty.cells] using hvl
      obtain ⟨_, css, d1, d2, d3⟩ := c3
      obtain ⟨z', s1, s2, s3⟩ := store_ok (P := P) (t := t) (o := 0 * u'.cells + 0) (v := v) (b := .rows e u' l') hH hg hρ a1 a2 (by omega) (by rw [hvs]; exact t1) (by rw [hvs, ← h1]; omega) c4 (fun z' k hw => by
        refine ⟨_, fr, hw, okF_set a2 (setArr_size _ _ _), by rw [setArr_size]; exact a3, by rw [h5, ← h1]; exact a4, by rw [h5, ← h1]; exact a5, a6, fun i' y' hi' => ?_⟩
        have hil : i' < css.length := by
          have := (List.getElem?_eq_some_iff.1 hi').1
          omega
        refine ⟨css[i'], (d3 i' y' _ hi' (List.getElem?_eq_getElem hil)).kp k, fun q w hq => ?_⟩
        have hlens : ∀ u ∈ css, u.length = u'.cells := fun u hu => by
          obtain ⟨k, hk⟩ := List.getElem?_of_mem hu
          obtain ⟨e, he⟩ := get_of_len (l := l') (by rw [d1, h5]) hk
          exact (d3 k e u he hk).len
        have hqlt : q < u'.cells := by
          have := (List.getElem?_eq_some_iff.1 hq).1
          rwa [hlens _ (List.getElem_mem hil)] at this
        have hlt := mul_lt (es := u'.cells) hil hqlt
        have hfl : ∀ (css : List (List Value)) (k : Nat) (hk : k < css.length), (∀ u ∈ css, u.length = u'.cells) → ∀ q w, css[k][q]? = some w → css.flatten[k * u'.cells + q]? = some w := by
          intro css
          induction css with
          | nil => intro k hk; simp at hk
          | cons c css ih =>
            intro k hk hl q w hq
            match k with
            | 0 =>
              simp at hq
              rw [List.flatten_cons, Nat.zero_mul, Nat.zero_add, List.getElem?_append_left (List.getElem?_eq_some_iff.1 hq).1]
              exact hq
            | k + 1 =>
              have hc := hl c (by simp)
              rw [List.flatten_cons, List.getElem?_append_right (by rw [Nat.succ_mul]; omega)]
              have := ih k (by simpa using hk) (fun u hu => hl u (by simp [hu])) q w (by simpa using hq)
              rw [← this]
              congr 1
              rw [Nat.succ_mul]; omega
        have h7 := hfl css i' hil hlens q w hq
        rw [setArr_get _ _ _ _ (by simp; rw [hvs, ← h1]; omega), if_pos (by simp; rw [hvs]; rw [d1] at hlt; omega)]
        rw [← h7, ← d2]
        congr 1
        omega)
      exact ⟨_, z', s1, s2, s3, h6⟩
  · rename_i want hne hty
    exact key _ hty h
  · cases h
theorem evStore_ok {t : TypeId} {a x : AV} {K : AV → Hp → Option β} {r : β} {pv v : Value} (h : evStore P t a x H K = some r) (hH : HRep z H) (ha : ARep z a pv) (hx : ARep z x v) :
    ∃ H' z', (Instr.storeAt t pv v).run P z.w = .ok () z'.w ∧ HRep z' H' ∧ Nx z z' ∧ K .junk H' = some r := by
  unfold evStore at h
  split at h
  · rename_i es id i j
    cases ha with
    | own _ _ _ _ g sz n hρ =>
      split at h
      · rename_i c hg
        obtain ⟨vs, h1, h2⟩ := ob_iff.1 h
        obtain ⟨h3, h4⟩ := need_iff.1 h2
        simp only [Bool.and_eq_true, Bool.not_eq_true', Nat.ble_eq, beq_nat] at h3
        obtain ⟨⟨⟨rfl, h5⟩, h6⟩, h7⟩ := h3
        obtain ⟨p1, p2, _⟩ := cellsA_ok h1 hx
        obtain ⟨_, _, _, cs, e, fr, q1, q2, q3, q4, q5, q6⟩ := hH.real hg hρ
        have hc0 : P.cellsOf t ≠ 0 := fun h0 => by rw [h0] at h6; simp at h6
        have hvs : v.cells.size = vs.length := by have := p1.1; simpa using this.symm
        obtain ⟨z', s1, s2, s3⟩ := store_ok (P := P) (t := t) (o := 0 * es + j) (v := v) (b := .vars (setFrom c j vs)) hH hg hρ q1 q2 hc0 (by omega) (by omega) p2 (fun z' k hw => by
          refine ⟨_, e, fr, hw, okF_set q2 (setArr_size _ _ _), by rw [setArr_size]; exact q3, by rw [setFrom_len]; exact q4, fun m a u hk hu => ?_, fun u hu => ?_⟩
          · rw [setFrom_get _ _ _ _ h7] at hk
            rw [setArr_get _ _ _ _ (by simp; omega)] at hu
            simp only [Array.length_toList, Nat.zero_mul, Nat.zero_add, hvs] at hu
            by_cases hin : j ≤ m ∧ m < j + vs.length
            · rw [if_pos hin] at hk hu
              exact (p1.2 _ _ _ hk hu).kp k
            · rw [if_neg hin] at hk hu
              exact (q5 _ _ _ hk hu).kp k
          · obtain ⟨m, hm, rfl⟩ := Array.mem_iff_getElem.1 hu
            have hk' : (setArr cs (0 * es + j) v.cells.toList)[m]? = some ((setArr cs (0 * es + j) v.cells.toList)[m]) := Array.getElem?_eq_getElem hm
            generalize (setArr cs (0 * es + j) v.cells.toList)[m] = u at hk'
            rw [setArr_get _ _ _ _ (by simp; omega)] at hk'
            split at hk'
            · exact p2 u (by have := List.mem_of_getElem? hk'; simpa using this)
            · exact q6 u (Array.mem_of_getElem? hk'))
        exact ⟨_, z', s1, s2, s3, h4⟩
      · rename_i e u l hg
        cases hes : Nat.beq es u.cells <;> rw [hes] at h <;> simp only [bq_true, bq_false] at h
        · cases h
        rw [beq_nat] at hes
        subst hes
        obtain ⟨⟨a', H1⟩, h1, h2⟩ := ob_iff.1 h
        obtain ⟨h3, h4⟩ := need_iff.1 h2
        obtain ⟨z1, p1, p2, p3, p4, p5⟩ := pureA_ok hH h1 hx
        have hg1 : ∃ b1, hget H1 id = some ⟨false, b1⟩ := by
          simp only [isMut] at h3
          split at h3
          · rename_i e' he'
            obtain ⟨fz, b1⟩ := e'
            simp only [Bool.not_eq_true'] at h3
            subst h3
            exact ⟨b1, he'⟩
          · cases h3
        obtain ⟨b1, hg1⟩ := hg1
        have hb := (hH.real hg hρ).2.2.2.kp (p3.kp hH.sub) (by rw [p1])
        obtain ⟨H', z', s1, s2, s3, s4⟩ := wrRows_ok h4 p2 hg1 (by rw [p4]; exact hρ) hb p5
        exact ⟨H', z', by rw [← p1]; exact s1, s2, p3.trans s3, s4⟩
      · cases h
  · cases h
end
end
end Go.Ab
