/- Calls: a function that is told, called. -/
import Derived.Test.YtplahfhggnkahaaA26
set_option linter.all false
namespace Go.Ab

section
variable {P : Program} {z : Z} {H : Hp} {β : Type}
/-! Results that are nothing of memory -/
theorem Cl.scal {w w' : World} {M M' : Nat → Prop} : {t : Ty} → {x : t.den} → {vs : List Value} → t.scal = true → Cl w M t x vs → Cl w' M' t x vs
  | .int _, _, _, _, h | .byte, _, _, _, h | .bool, _, _, _, h | .str, _, _, _, h => h
  | .nat, _, _, _, h => h.elim
  | .opq, _, _, hs, _ => by cases hs
  | .sl _, _, _, hs, _ => by cases hs
  | .one t, _, _, hs, h => Cl.scal (t := t) hs h
  | .pair a b, _, _, hs, h => by
    obtain ⟨u, v, rfl, h1, h2⟩ := h
    simp only [Ty.scal, Bool.and_eq_true] at hs
    exact ⟨u, v, rfl, Cl.scal hs.1 h1, Cl.scal hs.2 h2⟩
  | .arr n t, l, _, hs, h => by
    obtain ⟨hn, css, h1, rfl, h2⟩ := h
    exact ⟨hn, css, h1, rfl, fun i e u he hu => Cl.scal (t := t) hs (h2 i e u he hu)⟩
mutual
theorem lv_scal : (k : Kd) → {r : List Ty} → allScal (k.lv r) = true → allScal r = true
  | .p _, r, h | .pt _, r, h | .ownx _ _ _, r, h => by simp only [Kd.lv, allScal, Bool.and_eq_true] at h; exact h.2
  | .sl _ _, r, h => by simp only [Kd.lv, allScal, Bool.and_eq_true] at h; exact h.2.2
  | .own _ _ _ _, r, h | .slf _ _, r, h | .mp _, r, h | .any, r, h | .nilp _, r, h => h
  | .fn _ a c, r, h => lvL_scal c (lvL_scal a h)
  | .agg l, r, h => lvL_scal l h
  | .tup l, r, h => lvL_scal l h
theorem lvL_scal : (k : KdL) → {r : List Ty} → allScal (k.lv r) = true → allScal r = true
  | .nil, r, h => h
  | .cons k l, r, h => lvL_scal l (lv_scal k h)
end
variable {z' : Z} {f : Nat → Option Nat}
mutual
theorem emb_scal (hf : ∀ id, f id = none) : (k : Kd) → {r : List Ty} → {y : HL (k.lv r)} → {v : Value} → allScal (k.lv r) = true → ARep z (emb k r y).1 v → ARep z' (AV.ren f (emb k r y).1) v
  | .p t, r, y, v, hs, h => by
    simp only [Kd.lv, allScal, Bool.and_eq_true] at hs
    obtain ⟨vs, h1, h2⟩ := h.v
    exact .p _ _ _ ⟨vs, Cl.scal hs.1 h1, h2⟩
  | .pt t, r, y, v, hs, h => by simp [Kd.lv, allScal, Ty.scal] at hs
  | .own _ _ _ _, r, y, v, hs, h | .ownx _ _ _, r, y, v, hs, h | .sl _ _, r, y, v, hs, h | .slf _ _, r, y, v, hs, h | .mp _, r, y, v, hs, h => by
    simp only [emb, AV.ren, hf]
    exact .junk v
  | .any, r, y, v, hs, h => .junk v
  | .fn g a c, r, y, v, hs, h => by
    simp only [emb, AV.ren]
    simp only [emb] at h
    cases h with | fn _ _ _ va vc e1 e2 e3 e4 =>
    have p1 := embL_scal hf a (r := c.lv r) (y := y) (vs := va.toList) hs ⟨by simp [e1], fun i x v q1 q2 => e3 i x v q1 (by simpa using q2)⟩
    have p2 := embL_scal hf c (r := r) (y := (embL a (c.lv r) y).2) (vs := vc.toList) (lvL_scal a hs) ⟨by simp [e2], fun i x v q1 q2 => e4 i x v q1 (by simpa using q2)⟩
    exact .fn _ _ _ _ _ (by have := p1.1; simpa using this.symm) (by have := p2.1; simpa using this.symm) (fun i x v q1 q2 => p1.2 i x v q1 (by simpa using q2)) (fun i x v q1 q2 => p2.2 i x v q1 (by simpa using q2))
  | .agg l, r, y, v, hs, h => by
    simp only [emb, AV.ren]
    simp only [emb] at h
    cases h with | agg _ cs e1 e2 e3 =>
    have p1 := embL_scal hf l (r := r) (y := y) (vs := cs.toList) hs ⟨by simp [e1], fun i x v q1 q2 => e3 i x v q1 (by simpa using q2)⟩
    exact .agg _ _ (by have := p1.1; simpa using this.symm) e2 fun i x v q1 q2 => p1.2 i x v q1 (by simpa using q2)
  | .tup l, r, y, v, hs, h => by
    simp only [emb, AV.ren]
    simp only [emb] at h
    cases h with | tup _ cs e1 e3 =>
    have p1 := embL_scal hf l (r := r) (y := y) (vs := cs.toList) hs ⟨by simp [e1], fun i x v q1 q2 => e3 i x v q1 (by simpa using q2)⟩
    exact .tup _ _ (by have := p1.1; simpa using this.symm) fun i x v q1 q2 => p1.2 i x v q1 (by simpa using q2)
  | .nilp u, r, y, v, hs, h => by
    obtain ⟨vs, h1, h2⟩ := h.v
    exact .p _ _ _ ⟨vs, h1, h2⟩
theorem embL_scal (hf : ∀ id, f id = none) : (k : KdL) → {r : List Ty} → {y : HL (k.lv r)} → {vs : List Value} → allScal (k.lv r) = true → AReps z (embL k r y).1 vs → AReps z' (AV.renL f (embL k r y).1) vs
  | .nil, r, y, vs, hs, h => ⟨h.1, fun i a v h1 h2 => by simp [embL, AV.renL] at h1⟩
  | .cons k l, r, y, [], hs, h => by have := h.1; simp [embL] at this
  | .cons k l, r, y, v :: vs, hs, h => by
    simp only [embL] at h
    simp only [embL, AV.renL]
    exact .cons (emb_scal hf k hs h.head) (embL_scal hf l (lv_scal k hs) h.tail)
end
theorem tupA_ren (l : List AV) : AV.ren f (tupA l) = tupA (AV.renL f l) := by
  match l with
  | [] => simp [tupA, AV.ren, AV.renL]
  | [a] => simp [tupA, AV.renL]
  | a :: b :: l => simp [tupA, AV.ren, AV.renL]
/-- A function's results as one value. -/
theorem tupA_vals {l : List AV} {v : Value} (h : ARep z (tupA l) v) : ∃ vs, AReps z l vs ∧ ∀ {z' : Z} {l' : List AV}, AReps z' l' vs → l'.length = l.length → ARep z' (tupA l') v := by
  match l with
  | [a] => exact ⟨[v], .cons h .nil, fun {z' l'} h' hl => by
      match l', hl with
      | [b], _ => exact h'.head⟩
  | [] =>
    obtain ⟨vs, rfl, h1, h2⟩ := tup?_ok (l := []) rfl h
    refine ⟨vs.toList, ⟨by simp [h1], fun i a v h => by simp at h⟩, fun {z' l'} h' hl => ?_⟩
    match l', hl with
    | [], _ => exact .tup _ _ (by have := h'.1; simpa using this.symm) fun i x v q1 q2 => h'.2 i x v q1 (by simpa using q2)
  | a :: b :: l =>
    obtain ⟨vs, rfl, h1, h2⟩ := tup?_ok (l := a :: b :: l) rfl h
    refine ⟨vs.toList, ⟨by simp [h1], fun i a v q1 q2 => h2 i a v q1 (by simpa using q2)⟩, fun {z' l'} h' hl => ?_⟩
    match l', hl with
    | c :: d :: l', _ => exact .tup _ _ (by have := h'.1; simpa using this.symm) fun i x v q1 q2 => h'.2 i x v q1 (by simpa using q2)

/-! What is told of a function -/
structure Told (P : Program) (e : FnT) : Prop where
  ent : ∃ fn c, P.funcs[e.f]? = some fn ∧ fn.body = some c ∧ (fn.name == "runtime.NumGoroutine") = false
  spec : ∀ t r, e.spec t = some r → ∀ (z : Z) (vals : List Value), HRep z (e.i.emb t).2 → AReps z (e.i.emb t).1 vals → (∀ id, ¬ z.D id) →
    Calls P e.f vals.toArray z.w fun en w' => ∃ v z', en = .returned v ∧ z'.w = w' ∧ Nx z { z' with D := z.D } ∧ (∀ k, z'.D k → k ∈ hkKeys e.i.hs) ∧ OutS.on e.os r fun o x => HRep z' (o.emb x).2 ∧ ARep z' (tupA (o.emb x).1) v
theorem OutS.on_both : ∀ {l : List Shp} {x : OutS l} {K : (s : Shp) → s.D → Option β} {Q : (s : Shp) → s.D → Prop} {res : β}, OutS.on l x K = some res → OutS.on l x Q → ∃ o y, o ∈ l ∧ K o y = some res ∧ Q o y
  | [], x, _, _, _, _, _ => Empty.elim x
  | [s], x, K, Q, res, h, hq => ⟨s, x, by simp, h, hq⟩
  | s :: t :: r, .inl y, K, Q, res, h, hq => ⟨s, y, by simp, h, hq⟩
  | s :: t :: r, .inr y, K, Q, res, h, hq => by
    obtain ⟨o, x, h1, h2, h3⟩ := OutS.on_both (l := t :: r) (x := y) h hq
    exact ⟨o, x, List.mem_cons_of_mem _ h1, h2, h3⟩
theorem renH_get' {H : Hp} {f : Nat → Option Nat} : ∀ {ps : List (Nat × Nat)}, (sndN ps).Nodup → ∀ k, hget (renH H f ps) k = (idOf ps k).bind (fun id => (hget H id).map (Ent.ren f)) ∧ (hkey (renH H f ps) k = true ↔ ∃ id e, idOf ps k = some id ∧ hget H id = some e)
  | [], _, k => ⟨rfl, by simp [renH, hkey, idOf]⟩
  | (i, j) :: ps, h, k => by
    simp only [sndN, List.nodup_cons] at h
    obtain ⟨q1, q2⟩ := renH_get' (H := H) (f := f) h.2 k
    have hno : j = k → idOf ps k = none := fun hj => by
      cases hk : idOf ps k with
      | none => rfl
      | some id => exact absurd (mem_sndN (idOf_mem hk)) (hj ▸ h.1)
    cases hg : hget H i with
    | none =>
      simp only [renH, hg, idOf]
      by_cases hj : j = k
      · rw [(beq_nat j k).2 hj, cond_true]
        rw [hno hj] at q1 q2
        refine ⟨by rw [q1]; simp [hg], ⟨fun h => ?_, fun ⟨id, e, h1, h2⟩ => ?_⟩⟩
        · obtain ⟨id, e, h1, _⟩ := q2.1 h; cases h1
        · simp only [Option.some.injEq] at h1; subst h1; rw [hg] at h2; cases h2
      · rw [beq_nat_ff hj, cond_false]; exact ⟨q1, q2⟩
    | some e =>
      simp only [renH, hg, idOf, hget, hkey]
      by_cases hj : j = k
      · simp [(beq_nat j k).2 hj, hg]
      · rw [beq_nat_ff hj]; exact ⟨q1, q2⟩
theorem zipN_fst : ∀ {a b : List Nat}, b.length ≤ a.length → sndN (zipN a b) = b ∧ ∀ i k, (i, k) ∈ zipN a b → i ∈ a
  | [], [], _ => ⟨rfl, fun i k h => by cases h⟩
  | [], _ :: _, h => by simp at h
  | _ :: _, [], _ => ⟨rfl, fun i k h => by cases h⟩
  | x :: a, y :: b, h => by
    obtain ⟨q1, q2⟩ := zipN_fst (a := a) (b := b) (by simpa using h)
    refine ⟨by simp [zipN, sndN, q1], fun i k hm => ?_⟩
    simp only [zipN, List.mem_cons, Prod.mk.injEq] at hm
    rcases hm with ⟨rfl, _⟩ | hm
    · simp
    · exact List.mem_cons_of_mem _ (q2 i k hm)
theorem rangeN_len : ∀ (n k : Nat), (rangeN k n).length = n
  | 0, k => rfl
  | n + 1, k => by simp [rangeN, rangeN_len n]
theorem zipN_at : ∀ {a b : List Nat} {i k : Nat}, (i, k) ∈ zipN a b → ∃ n : Nat, a[n]? = some i ∧ b[n]? = some k
  | [], _, i, k, h => by cases h
  | _ :: _, [], i, k, h => by cases h
  | x :: a, y :: b, i, k, h => by
    simp only [zipN, List.mem_cons, Prod.mk.injEq] at h
    rcases h with ⟨rfl, rfl⟩ | h
    · exact ⟨0, rfl, rfl⟩
    · obtain ⟨n, h1, h2⟩ := zipN_at h
      exact ⟨n + 1, h1, h2⟩
theorem zipN_mk : ∀ {a b : List Nat} {n i k : Nat}, a[n]? = some i → b[n]? = some k → (i, k) ∈ zipN a b
  | [], _, n, i, k, h, _ => by simp at h
  | _ :: _, [], n, i, k, _, h => by simp at h
  | x :: a, y :: b, 0, i, k, h1, h2 => by simp at h1 h2; subst h1; subst h2; simp [zipN]
  | x :: a, y :: b, n + 1, i, k, h1, h2 => by
    simp only [zipN, List.mem_cons]
    exact .inr (zipN_mk (by simpa using h1) (by simpa using h2))
theorem rangeN_at : ∀ {n k m : Nat}, m < n → (rangeN k n)[m]? = some (k + m)
  | 0, k, m, h => by omega
  | n + 1, k, 0, h => rfl
  | n + 1, k, m + 1, h => by
    simp only [rangeN, List.getElem?_cons_succ]
    rw [rangeN_at (by omega)]
    congr 1
    omega
theorem rangeN_get {n k m i : Nat} (h : (rangeN k n)[m]? = some i) : i = k + m ∧ m < n := by
  have hlt : m < n := by have := (List.getElem?_eq_some_iff.1 h).1; rwa [rangeN_len] at this
  rw [rangeN_at hlt] at h
  exact ⟨(Option.some.inj h).symm, hlt⟩
end
end Go.Ab
