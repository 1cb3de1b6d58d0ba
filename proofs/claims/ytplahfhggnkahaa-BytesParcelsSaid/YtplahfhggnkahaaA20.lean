/- Shapes: what has the form of a shape is what the shape's typed parts say. -/
import Derived.Test.YtplahfhggnkahaaA19
set_option linter.all false
namespace Go.Ab

theorem untidy_tidy : (ts : List Ty) → (x : HL ts) → untidy ts (tidy ts x) = x
  | [], _ => rfl
  | [_], x => rfl
  | _ :: u :: r, x => by
    show (x.1, untidy (u :: r) (tidy (u :: r) x.2)) = x
    rw [untidy_tidy (u :: r) x.2]
    rfl

section
variable {β : Type} {z : Z}
theorem own?_eq {es id i j : Nat} {a : AV} (h : a.own? es id i j = true) : a = .own es id i j := by
  unfold AV.own? at h
  split at h
  · simp only [Bool.and_eq_true, beq_nat] at h
    obtain ⟨⟨⟨rfl, rfl⟩, rfl⟩, rfl⟩ := h
    rfl
  · cases h
theorem ownx?_eq {es id i j : Nat} {a : AV} (h : a.ownx? es id j = some i) : a = .own es id i j := by
  unfold AV.ownx? at h
  split at h
  · rename_i es' id' i' j'
    cases hb : (Nat.beq es es' && Nat.beq id id' && Nat.beq j j') <;> rw [hb] at h <;> simp at h
    simp only [Bool.and_eq_true, beq_nat] at hb
    obtain ⟨⟨rfl, rfl⟩, rfl⟩ := hb
    rw [h]
  · cases h
theorem sl?_eq {es id : Nat} {y : Nat × Nat} {a : AV} (h : a.sl? es id = some y) : a = .sl es id y.1 y.2 := by
  unfold AV.sl? at h
  split at h
  · rename_i es' id' i n
    cases hb : (Nat.beq es es' && Nat.beq id id') <;> rw [hb] at h <;> simp at h
    simp only [Bool.and_eq_true, beq_nat] at hb
    obtain ⟨rfl, rfl⟩ := hb
    rw [← h]
  · cases h
theorem slf?_eq {es id : Nat} {a : AV} (h : a.slf? es id = true) : a = .slf es id := by
  unfold AV.slf? at h
  split at h
  · simp only [Bool.and_eq_true, beq_nat] at h
    obtain ⟨rfl, rfl⟩ := h
    rfl
  · cases h
theorem mp?_eq {id : Nat} {a : AV} (h : a.mp? id = true) : a = .mp id := by
  unfold AV.mp? at h
  split at h
  · rw [beq_nat] at h; rw [h]
  · cases h
theorem pt?_eq {u : Ty} {l : List u.den} {a : AV} (h : a.pt? u = some l) : a = .pt u l 0 0 := by
  unfold AV.pt? at h
  split at h
  · split at h
    · rename_i t l' ht
      subst ht
      simp at h
      rw [h]
    · cases h
  · cases h
theorem fn?_ok {f : FuncId} {y : List AV × List AV} {a : AV} {v : Value} (h : a.fn? f = some y) (ha : ARep z a v) : ARep z (.fn f y.1 y.2) v := by
  unfold AV.fn? at h
  split at h
  · rename_i g a c
    cases hb : Nat.beq f g <;> rw [hb] at h <;> simp at h
    rw [beq_nat] at hb
    subst hb
    subst h
    exact ha
  · rename_i g a c
    cases hb : (Nat.beq f g && (Nat.beq a.size 0 && Nat.beq c.size 0)) <;> rw [hb] at h <;> simp at h
    simp only [Bool.and_eq_true, beq_nat] at hb
    obtain ⟨rfl, h1, h2⟩ := hb
    subst h
    obtain rfl := ha.v.opq.1
    exact .fn _ _ _ _ _ h1 h2 (fun i x v h => by simp at h) (fun i x v h => by simp at h)
  · cases h
theorem nilV?_eq {v x : Value} (h : nilV? v x = true) : x = v := by
  unfold nilV? at h
  split at h <;> first | rfl | cases h
theorem nil?_eq {v : Value} {a : AV} (h : a.nil? v = true) : a = .p .opq v := by
  unfold AV.nil? at h
  split at h
  · rw [nilV?_eq h]
  · cases h
theorem aggA_ok {a : AV} {l : List AV} {v : Value} (h : cellsA a = some l) (hg : aggA a = true) (ha : ARep z a v) : ∃ cs, v = .agg cs := by
  obtain ⟨_, _, q3⟩ := cellsA_ok h ha
  rw [hg] at q3
  exact ⟨_, q3⟩

mutual
theorem co_ok : (k : Kd) → {r : List Ty} → {a : AV} → {x : HL r} → {K : HL (k.lv r) → Option β} → {res : β} → {v : Value} → co k r a x K = some res → ARep z a v →
    ∃ y, K y = some res ∧ ARep z (emb k r y).1 v ∧ (emb k r y).2 = x
  | .p t, r, a, x, K, res, v, h, ha => by
    have h : asA t a (fun y => K (y, x)) = some res := h
    obtain ⟨y, h1, h2⟩ := asA_ok h ha
    exact ⟨(y, x), h2, .p _ _ _ h1, rfl⟩
  | .pt t, r, a, x, K, res, v, h, ha => by
    obtain ⟨l, h1, h2⟩ := ob_iff.1 h
    rw [pt?_eq h1] at ha
    exact ⟨(l, x), h2, ha, rfl⟩
  | .own es id i j, r, a, x, K, res, v, h, ha => by
    obtain ⟨h1, h2⟩ := need_iff.1 h
    rw [own?_eq h1] at ha
    exact ⟨x, h2, ha, rfl⟩
  | .ownx es id j, r, a, x, K, res, v, h, ha => by
    obtain ⟨i, h1, h2⟩ := ob_iff.1 h
    rw [ownx?_eq h1] at ha
    exact ⟨(i, x), h2, ha, rfl⟩
  | .sl es id, r, a, x, K, res, v, h, ha => by
    obtain ⟨y, h1, h2⟩ := ob_iff.1 h
    rw [sl?_eq h1] at ha
    exact ⟨(y.1, y.2, x), h2, ha, rfl⟩
  | .slf es id, r, a, x, K, res, v, h, ha => by
    obtain ⟨h1, h2⟩ := need_iff.1 h
    rw [slf?_eq h1] at ha
    exact ⟨x, h2, ha, rfl⟩
  | .mp id, r, a, x, K, res, v, h, ha => by
    obtain ⟨h1, h2⟩ := need_iff.1 h
    rw [mp?_eq h1] at ha
    exact ⟨x, h2, ha, rfl⟩
  | .any, r, a, x, K, res, v, h, ha => ⟨x, h, .junk v, rfl⟩
  | .fn f ka kc, r, a, x, K, res, v, h, ha => by
    obtain ⟨y, h1, h2⟩ := ob_iff.1 h
    obtain ⟨h3, h4⟩ := need_iff.1 h2
    simp only [Bool.and_eq_true, beq_nat] at h3
    have hf := fn?_ok h1 ha
    cases hf with | fn _ _ _ va vc e1 e2 e3 e4 =>
    obtain ⟨y1, q1, q2, q3⟩ := coL_ok kc (vs := vc.toList) h4 ⟨by simp [e2], fun i a v p1 p2 => e4 i a v p1 (by simpa using p2)⟩ h3.2
    obtain ⟨y2, q4, q5, q6⟩ := coL_ok ka (vs := va.toList) q1 ⟨by simp [e1], fun i a v p1 p2 => e3 i a v p1 (by simpa using p2)⟩ h3.1
    refine ⟨y2, q4, ?_, by simp only [emb, q6, q3]⟩
    simp only [emb, q6]
    refine .fn _ _ _ _ _ (by have := q5.1; simpa using this.symm) (by have := q2.1; simpa using this.symm) (fun i x v p1 p2 => q5.2 i x v p1 (by simpa using p2)) (fun i x v p1 p2 => q2.2 i x v p1 (by simpa using p2))
  | .agg l, r, a, x, K, res, v, h, ha => by
    obtain ⟨c, h1, h2⟩ := ob_iff.1 h
    obtain ⟨h3, h4⟩ := need_iff.1 h2
    simp only [Bool.and_eq_true, beq_nat] at h3
    obtain ⟨cs, rfl⟩ := aggA_ok h1 h3.1 ha
    obtain ⟨p1, p2, _⟩ := cellsA_ok h1 ha
    obtain ⟨y, q1, q2, q3⟩ := coL_ok l (vs := cs.toList) h4 p1 h3.2
    refine ⟨y, q1, ?_, by simp only [emb, q3]⟩
    simp only [emb]
    exact .agg _ _ (by have := q2.1; simpa using this.symm) (fun v hv => p2 v hv) fun i x v e1 e2 => q2.2 i x v e1 (by simpa using e2)
  | .tup l, r, a, x, K, res, v, h, ha => by
    obtain ⟨c, h1, h2⟩ := ob_iff.1 h
    obtain ⟨h3, h4⟩ := need_iff.1 h2
    rw [beq_nat] at h3
    obtain ⟨vs, rfl, p1, p2⟩ := tup?_ok h1 ha
    obtain ⟨y, q1, q2, q3⟩ := coL_ok l (vs := vs.toList) h4 ⟨by simp [p1], fun i a v e1 e2 => p2 i a v e1 (by simpa using e2)⟩ h3
    refine ⟨y, q1, ?_, by simp only [emb, q3]⟩
    simp only [emb]
    exact .tup _ _ (by have := q2.1; simpa using this.symm) fun i x v e1 e2 => q2.2 i x v e1 (by simpa using e2)
  | .nilp u, r, a, x, K, res, v, h, ha => by
    obtain ⟨h1, h2⟩ := need_iff.1 h
    rw [nil?_eq h1] at ha
    exact ⟨x, h2, ha, rfl⟩
theorem coL_ok : (k : KdL) → {r : List Ty} → {c : List AV} → {x : HL r} → {K : HL (k.lv r) → Option β} → {res : β} → {vs : List Value} → coL k r c x K = some res → AReps z c vs → c.length = k.length →
    ∃ y, K y = some res ∧ AReps z (embL k r y).1 vs ∧ (embL k r y).2 = x
  | .nil, r, c, x, K, res, vs, h, hc, hl => by
    obtain rfl : c = [] := List.eq_nil_of_length_eq_zero hl
    exact ⟨x, h, hc, rfl⟩
  | .cons k l, r, [], x, K, res, vs, h, hc, hl => by simp [KdL.length] at hl
  | .cons k l, r, a :: c, x, K, res, [], h, hc, hl => by have := hc.1; simp at this
  | .cons k l, r, a :: c, x, K, res, v :: vs, h, hc, hl => by
    simp only [coL, List.tail_cons, List.headD_cons] at h
    obtain ⟨y1, q1, q2, q3⟩ := coL_ok l h hc.tail (by simpa [KdL.length] using hl)
    obtain ⟨y2, q4, q5, q6⟩ := co_ok k q1 hc.head
    refine ⟨y2, q4, ?_, by simp only [embL, q6, q3]⟩
    simp only [embL, q6]
    exact .cons q5 q2
end

theorem coB_ok {k : BKd} {r : List Ty} {b : Blk} {x : HL r} {K : HL (k.lv r) → Option β} {res : β} (h : coB k r b x K = some res) :
    (∀ {g sz n : Nat}, BRep z g sz n b → ∃ y, K y = some res ∧ BRep z g sz n (embB k r y).1 ∧ (embB k r y).2 = x) ∧ (BEmpty b → ∃ y, K y = some res ∧ BEmpty (embB k r y).1 ∧ (embB k r y).2 = x) := by
  cases k with
  | vars l =>
    obtain ⟨c, h1, h2⟩ := ob_iff.1 h
    unfold Blk.vars? at h1
    split at h1
    · rename_i c'
      cases hb : Nat.beq c'.length l.length <;> rw [hb] at h1 <;> simp at h1
      subst h1
      rw [beq_nat] at hb
      refine ⟨fun {g sz n} hB => ?_, fun hB => hB.elim⟩
      obtain ⟨cs, e, fr, a1, a2, a3, a4, a5, a6⟩ := hB
      obtain ⟨y, q1, q2, q3⟩ := coL_ok l (vs := cs.toList) h2 ⟨by simp [a4, a3], fun i a v p1 p2 => a5 i a v p1 (by simpa using p2)⟩ hb
      refine ⟨y, q1, ?_, by simp only [embB, q3]⟩
      simp only [embB]
      exact ⟨cs, e, fr, a1, a2, a3, by have := q2.1; simp [a3] at this; exact this, fun i a v p1 p2 => q2.2 i a v p1 (by simpa using p2), a6⟩
    · cases h1
  | rows e t =>
    obtain ⟨l, h1, h2⟩ := ob_iff.1 h
    unfold Blk.rows? at h1
    split at h1
    · rename_i e' t' l'
      cases hb : Nat.beq e e' <;> rw [hb] at h1 <;> simp at h1
      rw [beq_nat] at hb
      subst hb
      obtain ⟨ht, h1⟩ := h1
      subst ht
      subst h1
      exact ⟨fun hB => ⟨(l', x), h2, hB, rfl⟩, fun hB => ⟨(l', x), h2, hB, rfl⟩⟩
    · cases h1
  | map kt vt =>
    obtain ⟨m, h1, h2⟩ := ob_iff.1 h
    unfold Blk.map? at h1
    split at h1
    · rename_i k' v' m'
      split at h1
      · rename_i hm
        have e1 : k' = kt ∧ v' = vt := by
          unfold mapTy at hm
          injection hm with e1 e2
          injection e1 with e1
          injection e1 with e1 e3
          injection e1 with e1 e4
          exact ⟨e1, e4⟩
        obtain ⟨rfl, rfl⟩ := e1
        simp only [Option.some.injEq] at h1
        subst h1
        exact ⟨fun hB => ⟨(m', x), h2, hB, rfl⟩, fun hB => hB.elim⟩
      · cases h1
    · cases h1
theorem coE_ok {k : BKd} {r : List Ty} {id : Nat} {e : Ent} {x : HL r} {K : HL (k.lv r) → Option β} {res : β} (h : coB k r e.b x K = some res) (he : ERep z id e) :
    ∃ y, K y = some res ∧ ERep z id ⟨e.fz, (embB k r y).1⟩ ∧ (embB k r y).2 = x := by
  unfold ERep at *
  cases hρ : z.ρ id with
  | no => rw [hρ] at he; exact he.elim
  | virt =>
    rw [hρ] at he
    exact (coB_ok (z := z) h).2 he
  | real g sz n =>
    rw [hρ] at he
    obtain ⟨h1, h2, h3, h4⟩ := he
    obtain ⟨y, q1, q2, q3⟩ := (coB_ok h).1 h4
    exact ⟨y, q1, ⟨h1, h2, h3, q2⟩, q3⟩
theorem hblk?_ok {fz : Bool} {H : Hp} {id : Nat} {b : Blk} (h : hblk? fz H id = some b) : hget H id = some ⟨fz, b⟩ := by
  unfold hblk? at h
  split at h
  · rename_i e he
    cases hb : (e.fz == fz) <;> rw [hb] at h <;> simp at h
    obtain ⟨f, b'⟩ := e
    simp at hb h
    rw [he, hb, h]
  · cases h
theorem coH_ok {H : Hp} (hH : ∀ id e, hget H id = some e → ERep z id e) : (hs : HK) → {r : List Ty} → {x : HL r} → {K : HL (hkLv hs r) → Option β} → {res : β} → coH hs r H x K = some res →
    ∃ y, K y = some res ∧ (embH hs r y).2 = x ∧ ∀ id e, hget (embH hs r y).1 id = some e → ERep z id e ∧ ∃ e0, hget H id = some e0 ∧ e0.fz = e.fz
  | [], r, x, K, res, h => ⟨x, h, rfl, fun id e h => by simp [embH, hget] at h⟩
  | (id, fz, k) :: hs, r, x, K, res, h => by
    obtain ⟨b, h1, h2⟩ := ob_iff.1 h
    have hb := hblk?_ok h1
    obtain ⟨y1, q1, q2, q3⟩ := coH_ok hH hs h2
    obtain ⟨y2, q4, q5, q6⟩ := coE_ok (e := ⟨fz, b⟩) q1 (hH _ _ hb)
    refine ⟨y2, q4, by simp only [embH, q6, q2], fun i e he => ?_⟩
    simp only [embH, q6, hget] at he
    cases hi : Nat.beq id i <;> rw [hi] at he <;> simp only [cond_true, cond_false] at he
    · exact q3 i e he
    · rw [beq_nat] at hi
      subst hi
      injection he with he
      subst he
      exact ⟨q5, _, hb, rfl⟩
/-- What has the shape. -/
theorem Shp.co_ok {s : Shp} {vs : List AV} {H : Hp} {K : s.D → Option β} {res : β} {vals : List Value} (h : s.co vs H K = some res) (hH : ∀ id e, hget H id = some e → ERep z id e) (hv : AReps z vs vals) :
    s.ok = true ∧ ∃ t, K t = some res ∧ AReps z (s.emb t).1 vals ∧ ∀ id e, hget (s.emb t).2 id = some e → ERep z id e ∧ ∃ e0, hget H id = some e0 ∧ e0.fz = e.fz := by
  unfold Shp.co at h
  obtain ⟨h1, h2⟩ := need_iff.1 h
  simp only [Bool.and_eq_true, beq_nat] at h1
  obtain ⟨y, q1, q2, q3⟩ := coH_ok hH s.hs h2
  obtain ⟨y2, q4, q5, q6⟩ := coL_ok s.ks q1 hv h1.2
  refine ⟨h1.1, _, q4, ?_⟩
  have key : s.emb (tidy s.tys y2) = ((embL s.ks (hkLv s.hs []) y2).1, (embH s.hs [] y).1) := by
    show ((embL s.ks (hkLv s.hs []) (untidy s.tys (tidy s.tys y2))).1, (embH s.hs [] (embL s.ks (hkLv s.hs []) (untidy s.tys (tidy s.tys y2))).2).1) = _
    rw [show untidy s.tys (tidy s.tys y2) = y2 from untidy_tidy _ _, q6]
  rw [key]
  exact ⟨q5, q3⟩
end
end Go.Ab
