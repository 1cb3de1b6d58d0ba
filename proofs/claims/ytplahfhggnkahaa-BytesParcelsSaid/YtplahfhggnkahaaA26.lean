/- Calls: a function that is told, called. -/
import Derived.Test.YtplahfhggnkahaaA25
set_option linter.all false
namespace Go.Ab

section
variable {P : Program} {z : Z} {H : Hp} {β : Type}
/-! Heaps -/
theorem hget_setAll (H : Hp) : ∀ (K : Hp) (id : Nat), hget (setAll H K) id = if hkey K id then hget K id else hget H id
  | [], id => by simp [setAll, hkey]
  | (i, e) :: K, id => by
    simp only [setAll, hget_hset, hkey, hget]
    by_cases h : id = i
    · subst h; simp [(beq_nat id id).2 rfl]
    · simp [beq_nat_ff (Ne.symm h), h, hget_setAll H K id]
theorem hkey_setAll (H : Hp) : ∀ (K : Hp) (id : Nat), hkey (setAll H K) id = (hkey K id || hkey H id)
  | [], id => by simp [setAll, hkey]
  | (i, e) :: K, id => by
    simp only [setAll, hkey_hset, hkey]
    by_cases h : id = i
    · subst h; simp [(beq_nat id id).2 rfl]
    · simp [beq_nat_ff (Ne.symm h), h, hkey_setAll H K id]
theorem hget_killAll : ∀ (l : List Nat) (H : Hp) (id : Nat), hget (killAll H l) id = if memN id l then none else hget H id
  | [], H, id => by simp [killAll, memN]
  | i :: l, H, id => by
    rw [killAll, hget_killAll l, hget_hset]
    simp only [memN]
    by_cases h : id = i
    · subst h; simp [(beq_nat id id).2 rfl]
    · simp [beq_nat_ff (Ne.symm h), h]
theorem hkey_killAll : ∀ (l : List Nat) (H : Hp) (id : Nat), hkey (killAll H l) id = (memN id l || hkey H id)
  | [], H, id => by simp [killAll, memN]
  | i :: l, H, id => by
    rw [killAll, hkey_killAll l, hkey_hset]
    simp only [memN]
    by_cases h : id = i
    · subst h; simp [(beq_nat id id).2 rfl]
    · simp [beq_nat_ff (Ne.symm h), h]
theorem hsub_get (H : Hp) : ∀ (l : List Nat) (id : Nat), hget (hsub H l) id = (if memN id l then hget H id else none) ∧ hkey (hsub H l) id = (memN id l && hkey H id)
  | [], id => by simp [hsub, memN, hget, hkey]
  | i :: l, id => by
    obtain ⟨h1, h2⟩ := hsub_get H l id
    simp only [hsub, memN]
    cases hk : hkey H i
    · simp only [bq_false]
      rw [h1, h2]
      by_cases h : i = id
      · subst h
        simp only [(beq_nat i i).2 rfl, cond_true, if_true, hk, Bool.and_false, Bool.true_and, and_true]
        rw [hget_none_of_hkey hk]
        split <;> rfl
      · simp [beq_nat_ff h]
    · simp only [bq_true, hget, hkey]
      by_cases h : i = id
      · subst h; simp [(beq_nat i i).2 rfl, hk]
      · simp [beq_nat_ff h, h1, h2]
theorem hkey_mem : ∀ {H : Hp} {id : Nat}, hkey H id = true ↔ id ∈ hkeys H
  | [], id => by simp [hkey, hkeys]
  | (i, e) :: H, id => by
    simp only [hkey, hkeys, List.mem_cons]
    by_cases h : i = id
    · subst h; simp [(beq_nat i i).2 rfl]
    · simp only [beq_nat_ff h, cond_false, hkey_mem]
      exact ⟨.inr, fun h' => h'.resolve_left (Ne.symm h)⟩
theorem nubN_mem {id : Nat} : ∀ {l : List Nat}, id ∈ nubN l ↔ id ∈ l
  | [] => by simp [nubN]
  | i :: l => by
    simp only [nubN]
    cases hm : memN i l
    · simp only [bq_false, List.mem_cons, nubN_mem]
    · simp only [bq_true, List.mem_cons, nubN_mem]
      exact ⟨.inr, fun h => h.elim (fun e => e ▸ memN_iff.1 hm) fun h => h⟩
theorem eqN_iff : ∀ {l r : List Nat}, eqN l r = true ↔ l = r
  | [], [] => by simp [eqN]
  | [], _ :: _ => by simp [eqN]
  | _ :: _, [] => by simp [eqN]
  | i :: l, k :: r => by simp only [eqN, Bool.and_eq_true, beq_nat, eqN_iff, List.cons.injEq]
theorem rangeN_mem {i : Nat} : ∀ {n k : Nat}, i ∈ rangeN k n ↔ k ≤ i ∧ i < k + n
  | 0, k => by simp [rangeN]
  | n + 1, k => by
    simp only [rangeN, List.mem_cons, rangeN_mem]
    omega

/-! Other worlds, the same beginnings -/
/-- Of pure memory fewer blocks may be written. -/
theorem ARep.less {z' : Z} {a : AV} {v : Value} (h : ARep z a v) (hw : z'.w = z.w) (hr : z'.ρ = z.ρ) (hM : ∀ g, z'.M g → z.M g) : ARep z' a v :=
  h.kp ⟨by rw [hw]; exact Nat.le_refl _, fun _ _ _ => by rw [hw], fun g hg => .inl (hM g hg), fun _ _ => by rw [hr]⟩
theorem AReps.less {z' : Z} {l : List AV} {vs : List Value} (h : AReps z l vs) (hw : z'.w = z.w) (hr : z'.ρ = z.ρ) (hM : ∀ g, z'.M g → z.M g) : AReps z' l vs :=
  ⟨h.1, fun i a v h1 h2 => (h.2 i a v h1 h2).less hw hr hM⟩

theorem argM_ok {m : Nat} {a a' : AV} {H' : Hp} {v : Value} (hH : HRep z H) (hmd : m < 3 ∨ ∀ id, ¬ z.D id) (h : argM P H m a = some (a', H')) (ha : ARep z a v) :
    ∃ z1 Mf, z1.w = z.w ∧ HRep z1 H' ∧ Nx z z1 ∧ (∀ g, Mf g → z1.M g) ∧ ARep { z1 with M := Mf } a' v ∧ (m ≠ 2 → Mf = z1.M) := by
  unfold argM at h
  split at h
  · simp only [Option.some.injEq, Prod.mk.injEq] at h
    obtain ⟨rfl, rfl⟩ := h
    exact ⟨z, z.M, rfl, hH, Nx.refl z, fun _ h => h, ha, fun _ => rfl⟩
  · obtain ⟨z', q1, q2, q3, q4, q5⟩ := pureA_ok hH h ha
    exact ⟨z', z'.M, q1, q2, q3, fun _ h => h, q5, fun _ => rfl⟩
  · obtain ⟨⟨x, H1⟩, h1, h2⟩ := Option.map_eq_some_iff.1 h
    simp only [Prod.mk.injEq] at h2
    obtain ⟨rfl, rfl⟩ := h2
    obtain ⟨z', q1, q2, q3, q4, q5⟩ := pureA_ok hH h1 ha
    refine ⟨z, fun g => z.M g ∧ z'.M g, rfl, hH, Nx.refl z, fun _ h => h.1, ?_, fun h => absurd rfl h⟩
    exact q5.less (z' := { z with M := fun g => z.M g ∧ z'.M g }) q1.symm q4.symm fun g h => h.2
  · rename_i m' h0 h1 h2
    split at h
    · obtain ⟨u, h3, h4⟩ := ob_iff.1 h
      cases hk : hkey H (m + 100000) <;> rw [hk] at h4 <;> simp only [bq_true, bq_false] at h4
      · simp only [Option.some.injEq, Prod.mk.injEq] at h4
        obtain ⟨rfl, rfl⟩ := h4
        by_cases hm : m < 3
        · have : m = 0 ∨ m = 1 ∨ m = 2 := by omega
          rcases this with rfl | rfl | rfl
          · exact absurd rfl h0
          · exact absurd rfl h1
          · exact absurd rfl h2
        · obtain ⟨z1, p1, p2, p3, p4⟩ := hH.newV hk (hmd.resolve_left hm (m + 100000)) (b := .rows (m - 10) u []) ⟨rfl, (ty_ok h3).2.1⟩
          obtain rfl := ha.v.opq.1
          exact ⟨z1, z1.M, p1, p2, p3, fun _ h => h, .slfV _ _ _ p4, fun _ => rfl⟩
      · cases h4
    · rename_i es old n
      split at h
      · rename_i e t l hg
        cases hb : (Nat.beq es t.cells && Nat.ble n l.length && !hkey H (m + 100000)) <;> rw [hb] at h <;> simp only [bq_true, bq_false] at h
        · cases h
        simp only [Bool.and_eq_true, beq_nat, Nat.ble_eq, Bool.not_eq_true'] at hb
        obtain ⟨⟨rfl, hn⟩, hk⟩ := hb
        simp only [Option.some.injEq, Prod.mk.injEq] at h
        obtain ⟨rfl, rfl⟩ := h
        have hmm : ∀ id, ¬ z.D id := by
          refine hmd.resolve_left fun hm => ?_
          have : m = 0 ∨ m = 1 ∨ m = 2 := by omega
          rcases this with rfl | rfl | rfl
          · exact h0 rfl
          · exact h1 rfl
          · exact h2 rfl
        have hk' : hkey (hset H old none) (m + 100000) = false := by
          rw [hkey_hset, hk]
          have : m + 100000 ≠ old := fun h => by rw [h, hkey_of_hget hg] at hk; cases hk
          simp [this]
        have hD := hmm (m + 100000)
        have hvirt : z.ρ old = .virt → ∃ z1, z1.w = z.w ∧ HRep z1 (hset (hset H old none) (m + 100000) (some ⟨false, .rows e t (l.take n)⟩)) ∧ Nx z z1 ∧ z1.ρ (m + 100000) = .virt := fun hρ => by
          obtain ⟨rfl, hc⟩ := hH.virt hg hρ
          exact (hH.kill old).newV hk' hD ⟨by simp, hc⟩
        have hreal : ∀ g sz k, z.ρ old = .real g sz k → ∃ z1, z1.w = z.w ∧ HRep z1 (hset (hset H old none) (m + 100000) (some ⟨false, .rows e t (l.take n)⟩)) ∧ Nx z z1 ∧ z1.ρ (m + 100000) = .real g sz n := fun g sz k hρ => by
          refine hH.move (w' := z.w) hg hρ hk' hD rfl rfl rfl rfl (fun _ _ => rfl) fun z1 hw kp => ?_
          have hB := (hH.real hg hρ).2.2.2
          obtain ⟨cs, fr, a1, a2, a3, a4, a5, a6, a7⟩ := hB.kp kp (by rw [hw])
          refine ⟨cs, fr, a1, a2, a3, by rw [List.length_take]; omega, ?_, a6, fun i x hx => ?_⟩
          · rw [List.length_take]
            exact Nat.le_trans (Nat.mul_le_mul_right _ (Nat.min_le_right _ _)) a5
          · rw [List.getElem?_take] at hx
            split at hx
            · exact a7 i x hx
            · cases hx
        cases ha with
        | slV _ _ _ A hρ =>
          obtain ⟨z1, p1, p2, p3, p4⟩ := hvirt hρ
          exact ⟨z1, z1.M, p1, p2, p3, fun _ h => h, .slfV _ _ _ p4, fun _ => rfl⟩
        | slE _ _ _ g sz k o hρ =>
          obtain ⟨_, _, _, cs, fr, a1, a2, a3, a4, a5, a6, a7⟩ := hH.real hg hρ
          obtain ⟨z1, p1, p2, p3, p4⟩ := (hH.kill old).newV hk' hD (b := .rows e t (l.take 0)) ⟨by simp, a6⟩
          exact ⟨z1, z1.M, p1, p2, p3, fun _ h => h, .slfV _ _ _ p4, fun _ => rfl⟩
        | sl _ _ _ _ g sz k c hρ hnc hs hm =>
          obtain ⟨z1, p1, p2, p3, p4⟩ := hreal g sz k hρ
          refine ⟨z1, z1.M, p1, p2, p3, fun _ h => h, ?_, fun _ => rfl⟩
          rw [Nat.zero_mul]
          exact .slf _ _ _ _ _ _ p4 hnc (by rw [Nat.zero_add] at hs; exact hs) hm
      · simp only [Option.some.injEq, Prod.mk.injEq] at h
        obtain ⟨rfl, rfl⟩ := h
        exact ⟨z, z.M, rfl, hH, Nx.refl z, fun _ h => h, ha, fun _ => rfl⟩
    · simp only [Option.some.injEq, Prod.mk.injEq] at h
      obtain ⟨rfl, rfl⟩ := h
      exact ⟨z, z.M, rfl, hH, Nx.refl z, fun _ h => h, ha, fun _ => rfl⟩
theorem argsM_ok : ∀ {as : List AV} {ms : List Nat} {as' : List AV} {z : Z} {H H' : Hp} {vs : List Value}, HRep z H → (ltAll 3 ms = true ∨ ∀ id, ¬ z.D id) → argsM P H ms as = some (as', H') → AReps z as vs →
    ∃ z1 Mf, z1.w = z.w ∧ HRep z1 H' ∧ Nx z z1 ∧ (∀ g, Mf g → z1.M g) ∧ AReps { z1 with M := Mf } as' vs ∧ (memN 2 ms = false → Mf = z1.M)
  | [], ms, as', z, H, H', vs, hH, hmd, h, hr => by
    simp only [argsM, Option.some.injEq, Prod.mk.injEq] at h
    obtain ⟨rfl, rfl⟩ := h
    exact ⟨z, z.M, rfl, hH, Nx.refl z, fun _ h => h, hr, fun _ => rfl⟩
  | a :: as, ms, as', z, H, H', vs, hH, hmd, h, hr => by
    simp only [argsM] at h
    obtain ⟨⟨x, H1⟩, h1, h2⟩ := ob_iff.1 h
    obtain ⟨⟨y, H2⟩, h3, h4⟩ := Option.map_eq_some_iff.1 h2
    simp only [Prod.mk.injEq] at h4
    obtain ⟨rfl, rfl⟩ := h4
    match vs, hr with
    | [], hr => have := hr.1; simp at this
    | v :: vs, hr =>
      have e1 : ms.headD 0 < 3 ∨ ∀ id, ¬ z.D id := hmd.imp (fun h => by cases ms with | nil => simp | cons m ms => simp only [ltAll, Bool.and_eq_true, Nat.blt_eq] at h; exact h.1) fun h => h
      obtain ⟨z1, Mf, q1, q2, q3, q4, q5, q6⟩ := argM_ok hH e1 h1 hr.head
      have e2 : ltAll 3 ms.tail = true ∨ ∀ id, ¬ z1.D id := hmd.imp (fun h => by cases ms with | nil => rfl | cons m ms => simp only [ltAll, Bool.and_eq_true] at h; exact h.2) fun h id => by rw [q3.dom]; exact h id
      obtain ⟨z2, Mg, p1, p2, p3, p4, p5, p6⟩ := argsM_ok q2 e2 h3 (hr.tail.kp (q3.kp hH.sub))
      have k := p3.kp q2.sub
      refine ⟨z2, fun g => Mg g ∧ (Mf g ∨ z1.w.heap.size ≤ g), p1.trans q1, p2, q3.trans p3, fun g h => p4 g h.1, .cons ?_ (p5.less rfl rfl fun g h => h.1), fun hm => ?_⟩
      · have kk : Kp { z1 with M := Mf } { z2 with M := fun g => Mg g ∧ (Mf g ∨ z1.w.heap.size ≤ g) } := ⟨k.size, fun b _ _ => by show z2.w.heap[b]? = z1.w.heap[b]?; rw [p1], fun g h => h.2, k.ext⟩
        exact q5.kp kk
      · have m1 : ms.headD 0 ≠ 2 ∧ memN 2 ms.tail = false := by
          cases ms with
          | nil => exact ⟨by simp, rfl⟩
          | cons m ms =>
            simp only [memN] at hm
            cases hb : Nat.beq m 2 <;> rw [hb] at hm <;> simp at hm
            exact ⟨fun h => by simp only [List.headD_cons] at h; rw [h] at hb; simp [Nat.beq] at hb, hm⟩
        have a1 := q6 m1.1
        have a2 := p6 m1.2
        subst a1
        subst a2
        funext g
        refine propext ⟨fun h => h.1, fun h => ⟨h, ?_⟩⟩
        exact k.subM g h
end
end Go.Ab
