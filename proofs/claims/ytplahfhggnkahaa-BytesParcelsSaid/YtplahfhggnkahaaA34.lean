/- Functions: what the evaluator makes of one is what its call yields. -/
import Derived.Test.YtplahfhggnkahaaA33
set_option linter.all false
namespace Go.Ab

section
variable {P : Program} {T : Tbl} {β : Type} {z : Z} {H : Hp}
theorem full_get : ∀ (d k : Nat), (Tr.full d).get k = .junk
  | 0, k => rfl
  | d + 1, k => by
    simp only [Tr.full, Tr.get]
    cases Nat.beq k 0
    · cases Nat.beq (k % 2) 1
      · exact full_get d _
      · exact full_get d _
    · rfl
theorem initTm_ok {f : Nat → Value} : ∀ {vs : List AV} {k0 : Nat} {t : Tr}, (∀ k, ARep z (t.get k) (f k)) → (∀ (j : Nat) a, vs[j]? = some a → ARep z a (f (k0 + j))) → ∀ k, ARep z ((initTm t k0 vs).get k) (f k)
  | [], k0, t, h, _, k => h k
  | a :: vs, k0, t, h, hv, k => by
    simp only [initTm]
    refine initTm_ok (fun j => ?_) (fun j a' h' => by have := hv (j + 1) a' (by simpa using h'); rwa [show k0 + (j + 1) = k0 + 1 + j by omega] at this) k
    by_cases hj : j = k0
    · subst hj
      rcases (Tr.get_put t j a j).2 with e | e <;> rw [e]
      · exact hv 0 a rfl
      · exact .junk _
    · rw [(Tr.get_put t k0 a j).1 hj]; exact h j
theorem run_as_load {t : TypeId} {pv v : Value} {w w' : World} (h : (Instr.loadAt t pv).run P w = .ok v w') : ((do loadVar t (← asAddr pv)) : Sem Value).run P w = .ok v w' := by
  unfold Instr.loadAt at h
  cases pv
  case pointer x => cases x <;> first | exact h | (simp [Instr.sureAddr, Sem.run_bind] at h; done)
  all_goals (simp [Instr.sureAddr, Sem.run_bind] at h; done)
def resF (tmps : Array Value) (r : ResultVar) : Sem Value :=
  match r with
  | .tmp t => pure (tmps.getD t undef)
  | .cell a t => do loadVar t (← asAddr (tmps.getD a undef))
theorem results_eq (fn : Func) (tmps : Array Value) : results fn tmps = (do
    let vs ← fn.results.mapM (resF tmps)
    pure (if h : vs.size = 1 then vs[0] else .tuple vs)) := rfl
/-- The results, from their slots. -/
theorem loadRes_ok {st : St} {a : Act} (hH : HRep z st.hp) (hs : ∀ t, ARep z (st.tm.get t) (a.eval (.tmp t))) : ∀ {rs : List ResultVar} {K : List AV → Option β} {res : β}, loadRes P rs st K = some res →
    ∃ l vs, K l = some res ∧ AReps z l vs ∧ (rs.mapM (resF a.tmps)).run P z.w = .ok vs z.w
  | [], K, res, h => ⟨[], [], h, .nil, rfl⟩
  | .tmp t :: rs, K, res, h => by
    obtain ⟨l, vs, h1, h2, h3⟩ := loadRes_ok hH hs (rs := rs) h
    refine ⟨_, a.eval (.tmp t) :: vs, h1, .cons (hs t) h2, ?_⟩
    rw [List.mapM_cons]
    simp only [resF, Sem.run_bind, Sem.run_pure, Result.andThen_ok, h3]
    rfl
  | .cell x t :: rs, K, res, h => by
    obtain ⟨y, v, h1, h2, h3⟩ := evLoad_ok h hH (hs x)
    obtain ⟨l, vs, h4, h5, h6⟩ := loadRes_ok hH hs (rs := rs) h3
    refine ⟨_, v :: vs, h4, .cons h2 h5, ?_⟩
    rw [List.mapM_cons]
    have h1' : (resF a.tmps (.cell x t)).run P z.w = .ok v z.w := run_as_load h1
    rw [Sem.run_bind, h1', Result.andThen_ok, Sem.run_bind, h6]
    rfl
theorem results_ok {st : St} {a : Act} {fn : Func} {K : List AV → Option β} {res : β} (hH : HRep z st.hp) (hs : ∀ t, ARep z (st.tm.get t) (a.eval (.tmp t))) (h : loadRes P fn.results.toList st K = some res) :
    ∃ l v vs, K l = some res ∧ AReps z l vs ∧ (results fn a.tmps).run P z.w = .ok v z.w ∧ ∀ {z' : Z} {l' : List AV}, AReps z' l' vs → ARep z' (tupA l') v := by
  obtain ⟨l, vs, h1, h2, h3⟩ := loadRes_ok hH hs h
  refine ⟨l, if h : vs.toArray.size = 1 then vs.toArray[0] else .tuple vs.toArray, vs, h1, h2, ?_, fun {z' l'} h' => ?_⟩
  · rw [results_eq, Array.mapM_eq_mapM_toList, map_eq_pure_bind, Sem.run_bind, Sem.run_bind, h3]
    rfl
  · have hl := h'.1
    match vs, l', h', hl with
    | [], [], h', _ => exact .tup [] #[] rfl fun i x v h => by simp at h
    | [v], [b], h', _ => exact h'.head
    | u :: v :: vs, b :: c :: l', h', hl =>
      refine .tup _ _ (by simpa using hl.symm) fun i x y q1 q2 => h'.2 i x y q1 (by simpa using q2)
theorem OutS.rco_ok {vs : List AV} {ps : List (Nat × Nat)} {vals : List Value} (ρ0 : Rho) (hH : HRep z H) (hv : AReps z vs vals) : ∀ {l : List Shp} {K : OutS l → Option β} {res : β}, OutS.rco vs H ps l K = some res →
    ∃ (x : OutS l), K x = some res ∧ OutS.on l x fun o t => o ∈ l ∧ ∃ z', z'.w = z.w ∧ z'.M = z.M ∧ HRep z' (o.emb t).2 ∧ AReps z' (o.emb t).1 vals ∧ (∀ k, memN k (hkKeys o.hs) = true → ∃ id, (id, k) ∈ ps ∧ z'.ρ k = z.ρ id) ∧ (∀ k, memN k (hkKeys o.hs) = false → z'.ρ k = ρ0 k) ∧
      (∀ g, z'.C g → z.C g) ∧ z'.D = (fun k => memN k (hkKeys o.hs) = false ∧ ρ0 k ≠ .no)
  | [], K, res, h => by cases h
  | [s], K, res, h => by
    obtain ⟨t, z', k1, k2, k3, k4, k5, k6, k7, k8, k9, k10, k11⟩ := Shp.rco_ok ρ0 h hH hv
    exact ⟨t, k1, by simp, z', k2, k3, k4, k5, k6, k7, k8, k10⟩
  | s :: o :: r, K, res, h => by
    have h' : bq (s.ks.fits (AV.renL (noOf ps) vs) && hkFits s.hs (renH H (noOf ps) ps)) (s.rco vs H ps fun x => K (.inl x)) (OutS.rco vs H ps (o :: r) fun x => K (.inr x)) = some res := h
    cases hb : (s.ks.fits (AV.renL (noOf ps) vs) && hkFits s.hs (renH H (noOf ps) ps)) <;> rw [hb] at h' <;> simp only [bq_true, bq_false] at h'
    · obtain ⟨x, h1, h2⟩ := OutS.rco_ok ρ0 hH hv h'
      refine ⟨.inr x, h1, ?_⟩
      have up : ∀ {l : List Shp} {x : OutS l} {Q Q' : (s : Shp) → s.D → Prop}, (∀ o t, Q o t → Q' o t) → OutS.on l x Q → OutS.on l x Q' := fun {l} => by
        induction l with
        | nil => intro x; exact Empty.elim x
        | cons a l ih =>
          cases l with
          | nil => intro x Q Q' hq h; exact hq _ _ h
          | cons b l =>
            intro x Q Q' hq h
            cases x with
            | inl y => exact hq _ _ h
            | inr y => exact ih (x := y) hq h
      exact up (fun o t ⟨a, b⟩ => ⟨List.mem_cons_of_mem _ a, b⟩) h2
    · obtain ⟨t, z', k1, k2, k3, k4, k5, k6, k7, k8, k9, k10, k11⟩ := Shp.rco_ok ρ0 h' hH hv
      exact ⟨.inl t, k1, List.mem_cons_self, z', k2, k3, k4, k5, k6, k7, k8, k10⟩
theorem OutS.on_up : ∀ {l : List Shp} {x : OutS l} {Q Q' : (s : Shp) → s.D → Prop}, (∀ o t, Q o t → Q' o t) → OutS.on l x Q → OutS.on l x Q'
  | [], x, _, _, _, _ => Empty.elim x
  | [s], x, Q, Q', hq, h => hq _ _ h
  | s :: t :: r, .inl y, Q, Q', hq, h => hq _ _ h
  | s :: t :: r, .inr y, Q, Q', hq, h => OutS.on_up (l := t :: r) (x := y) hq h
theorem OutS.on_ex : ∀ {l : List Shp} {x : OutS l} {Q : (s : Shp) → s.D → Z → Prop}, (OutS.on l x fun o t => ∃ z', Q o t z') → ∃ z', OutS.on l x fun o t => Q o t z'
  | [], x, _, _ => Empty.elim x
  | [s], x, Q, h => h
  | s :: t :: r, .inl y, Q, h => h
  | s :: t :: r, .inr y, Q, h => OutS.on_ex (l := t :: r) (x := y) h

/-- What the evaluator makes of a function. -/
theorem told_of {f : FuncId} {fn : Func} {fa : FnA} {spec : fa.i.D → Option (OutS fa.os)} (hT : ∀ e ∈ T, Told P e) (hm : P.follows .mixedOrders = true) (hf : P.funcs[f]? = some fn) (hname : (fn.name == "runtime.NumGoroutine") = false) (hbody : fn.body.isSome = true)
    (hs : ∀ t, evF P T fn fa t = spec t) : Told P ⟨f, fa.i, fa.os, spec⟩ := by
  obtain ⟨c, hb⟩ := Option.isSome_iff_exists.1 hbody
  refine ⟨⟨fn, c, hf, hb, hname⟩, fun t r hr z vals hH hv hD => ?_⟩
  have h : evF P T fn fa t = some r := (hs t).trans hr
  unfold evF at h
  obtain ⟨h1, h2⟩ := need_iff.1 h
  simp only [Bool.and_eq_true, eqN_iff, Bool.not_eq_true'] at h1
  obtain ⟨hkeys, hmd⟩ := h1
  obtain ⟨c', hc', h3⟩ := ob_iff.1 h2
  rw [hb] at hc'
  simp only [Option.some.injEq] at hc'
  subst hc'
  refine calls_of_wp hf hb ?_
  let a : Act := { tmps := vals.toArray ++ Array.replicate (fn.ntmps - vals.toArray.size) undef, defers := [] }
  have hkey : ∀ id, hkey (fa.i.emb t).2 id = memN id (hkKeys fa.i.hs) := fun id => (embH_get fa.i.hs (embL fa.i.ks (hkLv fa.i.hs []) (untidy fa.i.tys t)).2 id).1
  have hlow : ∀ id, z.ρ id ≠ .no → id ∈ hkKeys fa.i.hs := fun id hid => by
    cases hk : memN id (hkKeys fa.i.hs)
    · rw [← hkey id] at hk
      exact absurd ((hH.fresh id hk).resolve_right (hD id)) hid
    · exact memN_iff.1 hk
  have hi : Inv z a.tmps.size [] ⟨initTm (Tr.full (depth fn.ntmps)) 0 (fa.i.emb t).1, fn.ntmps, fa.i.hs.length, (fa.i.emb t).2⟩ a z.w := by
    refine ⟨z, rfl, Nx.refl z, hD, hH, ?_, fun p hp => (by cases hp), rfl, ⟨by simp [a]; omega, rfl⟩, fun id hid => ?_⟩
    · refine initTm_ok (f := fun k => a.eval (.tmp k)) (fun k => by rw [full_get]; exact .junk _) fun j x hx => ?_
      obtain ⟨v, hv1, hv2⟩ := hv.get hx
      rw [Nat.zero_add]
      have hlt : j < vals.length := (List.getElem?_eq_some_iff.1 hv1).1
      have : a.eval (.tmp j) = v := by
        simp only [Act.eval, a]
        have e : (vals.toArray ++ Array.replicate (fn.ntmps - vals.toArray.size) undef)[j]? = some v := by
          rw [Array.getElem?_append_left (by simpa using hlt)]
          simpa using hv1
        simp only [Array.getD_eq_getD_getElem?, e, Option.getD_some]
      rw [this]
      exact hv2
    · have := hlow id hid
      rw [hkeys] at this
      have := (rangeN_mem.1 this).2
      show id < fa.i.hs.length
      omega
  have fin : ∀ (Q : Exit → Act → World → Prop), (∀ a' w', (a'.defers = [] ∧ ∃ v, (results fn a'.tmps).run P w' = .ok v w' ∧ ∃ v' z', Ending.returned v = .returned v' ∧ z'.w = w' ∧ Nx z { z' with D := z.D } ∧ (∀ k, z'.D k → k ∈ hkKeys fa.i.hs) ∧ OutS.on fa.os r fun o x => HRep z' (o.emb x).2 ∧ ARep z' (tupA (o.emb x).1) v') → Q .normal a' w') →
      ∀ st' a' w', fin P fn fa st' = some r → Inv z a.tmps.size [] st' a' w' → Q .normal a' w' := fun Q hQ st' a' w' hfin hi' => by
    refine hQ a' w' ?_
    obtain ⟨z1, rfl, hn, hD1, hH1, hs1, _, hdf, _, h0⟩ := hi'
    unfold Ab.fin at hfin
    obtain ⟨l, v, vs, e1, e2, e3, e4⟩ := results_ok hH1 hs1 hfin
    obtain ⟨⟨l', H'⟩, e5, e6⟩ := ob_iff.1 e1
    obtain ⟨z2, Mf, g1, g2, g3, g4, g5, g6⟩ := argsM_ok hH1 (.inr hD1) e5 e2
    have hM := g6 hmd
    subst hM
    have hn2 := hn.trans g3
    obtain ⟨x, k1, k2⟩ := OutS.rco_ok (fun k => if memN k (hkKeys fa.i.hs) = true then z2.ρ k else .no) g2 g5 e6
    simp only [Option.some.injEq] at k1
    subst k1
    obtain ⟨z3, k3⟩ := OutS.on_ex (OutS.on_up (Q' := fun o t => ∃ z', _) (fun o t ⟨_, z', k⟩ => ⟨z', k⟩) k2)
    -- the facts that do not hang on the shape
    have common : z3.w = z2.w ∧ z3.M = z2.M ∧ (∀ g, z3.C g → z2.C g) ∧ (∀ k, z3.D k → k ∈ hkKeys fa.i.hs) ∧ ∀ id, z.ρ id ≠ .no → z3.ρ id = z.ρ id := by
      have pick : ∀ {l : List Shp} {x : OutS l} {Q : (s : Shp) → s.D → Prop} {G : Prop}, (OutS.on l x Q) → (∀ o t, Q o t → G) → G := fun {l} => by
        induction l with
        | nil => intro x; exact Empty.elim x
        | cons a l ih =>
          cases l with
          | nil => intro x Q G h hq; exact hq _ _ h
          | cons b l =>
            intro x Q G h hq
            cases x with
            | inl y => exact hq _ _ h
            | inr y => exact ih (x := y) h hq
      refine pick k3 fun o t k => ?_
      obtain ⟨q1, q2, q3, q4, q5, q6, q7, q8⟩ := k
      refine ⟨q1, q2, q7, fun k hk => ?_, fun id hid => ?_⟩
      · rw [q8] at hk
        have := hk.2
        cases hm : memN k (hkKeys fa.i.hs)
        · simp [hm] at this
        · exact memN_iff.1 hm
      · have hmem := hlow id hid
        cases hk : memN id (hkKeys o.hs)
        · rw [q6 id hk, if_pos (memN_iff.2 hmem)]
          exact hn2.ext id hid
        · obtain ⟨id', p1, p2⟩ := q5 id hk
          obtain ⟨m, b1, b2⟩ := zipN_at p1
          have hidlt : id < fa.i.hs.length := by
            rw [hkeys] at hmem
            have := (rangeN_mem.1 hmem).2
            omega
          have : id' = id := by
            rcases Nat.lt_or_ge m ((reach H' reachFuel (rangeN 0 fa.i.hs.length ++ AV.idsL l') []).filter fun i => Nat.blt i fa.i.hs.length).length with hlt | hge
            · rw [List.getElem?_append_left hlt] at b1 b2
              rw [b1] at b2
              exact Option.some.inj b2
            · rw [List.getElem?_append_right hge] at b2
              have := (rangeN_get b2).1
              omega
          rw [p2, this]
          exact hn2.ext id hid
    obtain ⟨c1, c2, c3, c4, c5⟩ := common
    refine ⟨hdf, v, e3, v, z3, rfl, c1.trans g1, ⟨by show z3.w.os = _; rw [c1]; exact hn2.os, by show z3.w.tape = _; rw [c1]; exact hn2.tape, by show z3.w.output = _; rw [c1]; exact hn2.output, by show _ ≤ z3.w.heap.size; rw [c1]; exact hn2.size,
      fun b hb hc => by show z3.w.heap[b]? = _; rw [c1]; exact hn2.block b hb hc, fun g hg => hn2.subM g (by rw [← c2]; exact hg), fun g hg => hn2.subC g (c3 g hg), fun g hg hm hc => by show z3.M g; rw [c2]; exact hn2.keepM g hg hm hc, c5, rfl⟩, c4, OutS.on_up (fun o t k => ?_) k3⟩
    obtain ⟨q1, q2, q3, q4, q5, q6, q7, q8⟩ := k
    exact ⟨q3, e4 q4⟩
  refine evS_ok hT hm (build fa.ov c) h3 (build_of _ _) hi (fun p hp => by cases hp) (fun p hp => by cases hp) ?_ (fun i st' a' w' h' _ => by cases h') ?_
  · exact fin (bodyPost P fn _) fun a' w' h => h
  · exact fin (fun e a' w' => bodyPost P fn _ .ret a' w') fun a' w' h => h
end
end Go.Ab
namespace Go.Ab
theorem allT_nil {P : Program} : ∀ e ∈ ([] : Tbl), Told P e := fun e h => by cases h
theorem allT_cons {P : Program} {a : FnT} {r : Tbl} (h : Told P a) (hr : ∀ e ∈ r, Told P e) : ∀ e ∈ a :: r, Told P e := fun e he => by
  rcases List.mem_cons.1 he with rfl | he
  · exact h
  · exact hr e he
end Go.Ab
