/- Code: what the evaluator says of it holds. -/
import Derived.Test.YtplahfhggnkahaaA32
set_option linter.all false
namespace Go.Ab

section
variable {P : Program} {T : Tbl} {z0 : Z} {N : Nat}
theorem base_ok {L : List (Nat × AV)} {st : St} {a : Act} {w : World} (hi : Inv z0 N L st a w) (hLn : ∀ p ∈ L, AV.ids p.2 = []) (wr : List Nat) (hLw : ∀ p ∈ L, p.1 ∉ wr) :
    ∃ L', (∀ p ∈ L, p ∈ L') ∧ Inv z0 N L' st a w ∧ (∀ p ∈ L', AV.ids p.2 = []) ∧ (∀ k, ((st.tm.keep).junk wr).get k = .junk ∨ (k, ((st.tm.keep).junk wr).get k) ∈ L') ∧ ∀ p ∈ L', p.1 ∉ wr := by
  obtain ⟨n, hn⟩ := tr_bound ((st.tm.keep).junk wr)
  have hget : ∀ k, k ∉ wr → ((st.tm.keep).junk wr).get k = .junk ∨ (((st.tm.keep).junk wr).get k = st.tm.get k ∧ (st.tm.get k).noRef = true) := fun k hk => by
    rw [(junk_get wr st.tm.keep k).2 hk]
    exact keep_get st.tm k
  let ex : List (Nat × AV) := (List.range n).filterMap fun k => if memN k wr = true then none else some (k, ((st.tm.keep).junk wr).get k)
  have hex : ∀ p ∈ ex, p.1 ∉ wr ∧ p.2 = ((st.tm.keep).junk wr).get p.1 := fun p hp => by
    obtain ⟨k, _, h⟩ := List.mem_filterMap.1 hp
    split at h
    · cases h
    · rename_i hm
      simp only [Option.some.injEq] at h
      subst h
      exact ⟨fun h => hm (memN_iff.2 h), rfl⟩
  refine ⟨L ++ ex, fun p hp => List.mem_append_left _ hp, ?_, fun p hp => ?_, fun k => ?_, fun p hp => ?_⟩
  · obtain ⟨z, rfl, hn', hD, hH, hs, hLs, hdf, hnt, h0⟩ := hi
    refine ⟨z, rfl, hn', hD, hH, hs, fun p hp => ?_, hdf, hnt, h0⟩
    rcases List.mem_append.1 hp with hp | hp
    · exact hLs p hp
    · obtain ⟨h1, h2⟩ := hex p hp
      rw [h2]
      rcases hget p.1 h1 with e | ⟨e, _⟩ <;> rw [e]
      · exact .junk _
      · exact hs p.1
  · rcases List.mem_append.1 hp with hp | hp
    · exact hLn p hp
    · obtain ⟨h1, h2⟩ := hex p hp
      rw [h2]
      rcases hget p.1 h1 with e | ⟨e, h3⟩ <;> rw [e]
      · rfl
      · exact noRef_ids h3
  · by_cases hk : k ∈ wr
    · exact .inl ((junk_get wr st.tm.keep k).1 hk)
    · by_cases hlt : k < n
      · right
        refine List.mem_append_right _ (List.mem_filterMap.2 ⟨k, List.mem_range.2 hlt, ?_⟩)
        rw [if_neg fun h => hk (memN_iff.1 h)]
      · exact .inl (hn k (by omega))
  · rcases List.mem_append.1 hp with hp | hp
    · exact hLw p hp
    · exact (hex p hp).1

theorem retO_ok {β γ : Type} {rt : Bool} {outs : List (Nat × LShp)} {b : β} {K : Out rt outs β → Option γ} {r : γ} (h : Out.retO rt outs b K = some r) :
    ∃ o, K o = some r ∧ ∀ (base : Tr) (nt n0 : Nat) (X : Nat → St → Option β) (R : β → Option β), Out.on base nt n0 rt outs o X R = R b := by
  cases rt with
  | false => cases h
  | true => exact ⟨_, h, fun base nt n0 X R => Out.on_ret⟩

theorem evS_ok (hT : ∀ e ∈ T, Told P e) (hm : P.follows .mixedOrders = true) : (ac : AC) → {β : Type} → {st : St} → {K : St → Option β} → {X : Nat → St → Option β} → {R : St → Option β} → {res : β} → {c : Code} → {L : List (Nat × AV)} → {a : Act} → {w : World} →
    {Q : Exit → Act → World → Prop} → evS P T ac st K X R = some res → ac.of c → Inv z0 N L st a w → (∀ p ∈ L, AV.ids p.2 = []) → (∀ p ∈ L, p.1 ∉ ac.wr) →
    (∀ st' a' w', K st' = some res → Inv z0 N L st' a' w' → Q .normal a' w') → (∀ i st' a' w', X i st' = some res → Inv z0 N L st' a' w' → Q (.exit i) a' w') →
    (∀ st' a' w', R st' = some res → Inv z0 N L st' a' w' → Q .ret a' w') → c.wp P Q a w
  | .skip, β, st, K, X, R, res, c, L, a, w, Q, h, hc, hi, hLn, hLw, hK, hX, hR => by
    obtain rfl := hc
    exact wp_skip (hK _ _ _ h hi)
  | .ret, β, st, K, X, R, res, c, L, a, w, Q, h, hc, hi, hLn, hLw, hK, hX, hR => by
    obtain rfl := hc
    exact wp_ret (hR _ _ _ h hi)
  | .exit i, β, st, K, X, R, res, c, L, a, w, Q, h, hc, hi, hLn, hLw, hK, hX, hR => by
    obtain rfl := hc
    exact wp_exit (hX _ _ _ _ h hi)
  | .seq x y, β, st, K, X, R, res, c, L, a, w, Q, h, hc, hi, hLn, hLw, hK, hX, hR => by
    obtain ⟨cx, cy, rfl, h1, h2⟩ := hc
    simp only [AC.wr, List.mem_append, not_or] at hLw
    refine wp_seq (evS_ok hT hm x h h1 hi hLn (fun p hp => (hLw p hp).1) (fun st' a' w' h' hi' => ?_) hX hR)
    exact evS_ok hT hm y h' h2 hi' hLn (fun p hp => (hLw p hp).2) hK hX hR
  | .cond o x y, β, st, K, X, R, res, c, L, a, w, Q, h, hc, hi, hLn, hLw, hK, hX, hR => by
    obtain ⟨cx, cy, rfl, h1, h2⟩ := hc
    simp only [AC.wr, List.mem_append, not_or] at hLw
    obtain ⟨t, h3, h4⟩ := ob_iff.1 h
    have hb : a.eval o = .bool t := by
      obtain ⟨z, _, _, _, _, hs, _⟩ := hi
      exact bool?_ok h3 (opnd_ok hs o)
    cases t
    · exact wp_cond_false hb (evS_ok hT hm y h4 h2 hi hLn (fun p hp => (hLw p hp).2) hK hX hR)
    · exact wp_cond_true hb (evS_ok hT hm x h4 h1 hi hLn (fun p hp => (hLw p hp).1) hK hX hR)
  | .block i x, β, st, K, X, R, res, c, L, a, w, Q, h, hc, hi, hLn, hLw, hK, hX, hR => by
    obtain ⟨cx, rfl, h1⟩ := hc
    refine wp_block (evS_ok hT hm x h h1 hi hLn hLw hK (fun j st' a' w' h' hi' => ?_) hR)
    show if j = i then Q .normal a' w' else Q (.exit j) a' w'
    by_cases hj : j = i
    · rw [(beq_nat j i).2 hj, bq_true] at h'
      rw [if_pos hj]
      exact hK _ _ _ h' hi'
    · rw [beq_nat_ff hj, bq_false] at h'
      rw [if_neg hj]
      exact hX _ _ _ _ h' hi'
  | .region i opsA d, β, st, K, X, R, res, c, L, a, w, Q, h, hc, hi, hLn, hLw, hK, hX, hR => by
    obtain ⟨arr, rfl, h1⟩ := hc
    have hLd : ∀ x ∈ opsA, ∀ p ∈ L, x.1.dst ≠ some p.1 := fun x hx p hp he => hLw p hp (by
      simp only [AC.wr]
      exact List.mem_filterMap.2 ⟨x, hx, he⟩)
    have hsz : opsA.length = arr.size := by
      have := congrArg List.length h1
      simpa using this
    have h : bq d (need (edgesOk 0 (opsA.map (·.1)) && nmsOk (nms (clos 0 (opsA.map (·.1)) []) (opsA.map (·.1)) 0 (opsA.map (·.1)))) <| evOpsD P T (numb 0 opsA) (opsA.map (·.1)) st [] fun st' fs => need (pairsOk (clos 0 (opsA.map (·.1)) []) fs) <| K st') (evOps P T opsA (opsA.map (·.1)) st K) = some res := h
    rw [h1] at h
    cases d
    · rw [bq_false] at h
      refine wp_region ?_
      have := evOps_ok hT hK opsA 0 (fun i x hx => by
        have e : (opsA.map (·.1))[i]? = some x.1 := by rw [List.getElem?_map, hx]; rfl
        rw [h1] at e
        rw [Nat.zero_add, ← Array.getElem?_toList]
        exact e) hLd st a w h hi
      rw [List.range_eq_range', ← hsz]
      exact this
    · rw [bq_true] at h
      obtain ⟨h2, h3⟩ := need_iff.1 h
      simp only [Bool.and_eq_true] at h2
      exact wp_region_any hm (drawn_ok hT h1 hLd hK h2.1 h2.2 h3 hi.drew)
  | .join sh rt outs x, β, st, K, X, R, res, c, L, a, w, Q, h, hc, hi, hLn, hLw, hK, hX, hR => by
    obtain ⟨o, h1, h2⟩ := Option.bind_eq_some_iff.1 h
    obtain ⟨L', q1, q2, q3, q4, q5⟩ := base_ok hi hLn x.wr hLw
    obtain ⟨_, _, _, _, _, _, _, _, hnt, h0⟩ := hi
    refine evS_ok hT hm x h1 hc q2 q3 q5 (fun st' a' w' h' hi' => ?_) (fun i st' a' w' h' hi' => ?_) (fun st' a' w' h' hi' => ?_)
    · obtain ⟨o', e1, e2⟩ := Out.on_inl h' hi' q3 q4 hnt.1 h0
      simp only [Option.some.injEq] at e1
      subst e1
      obtain ⟨st1, e3, e4⟩ := e2 (fun i st'' => match i with | 0 => K st'' | i + 1 => X i st'') some
      exact hK st1 a' w' (e4.symm.trans h2) (e3.sub q1)
    · obtain ⟨o', e1, e2⟩ := Out.on_inl h' hi' q3 q4 hnt.1 h0
      simp only [Option.some.injEq] at e1
      subst e1
      obtain ⟨st1, e3, e4⟩ := e2 (fun i st'' => match i with | 0 => K st'' | i + 1 => X i st'') some
      exact hX i st1 a' w' (e4.symm.trans h2) (e3.sub q1)
    · obtain ⟨b, e1, e2⟩ := ob_iff.1 h'
      obtain ⟨o', e3, e4⟩ := retO_ok e2
      simp only [Option.some.injEq] at e3
      subst e3
      have : some b = some res := (e4 _ _ _ _ _).symm.trans h2
      exact hR st' a' w' (e1.trans this) (hi'.sub q1)
  | .pre g x, β, st, K, X, R, res, c, L, a, w, Q, h, hc, hi, hLn, hLw, hK, hX, hR => by
    obtain ⟨st1, h1, h2⟩ := ob_iff.1 h
    have hg : Inv z0 N L st1 a w := ghost_ok h1 hi (fun k he p hp hk => hLw p hp (by
      rcases he with ⟨e, id, he⟩ | he
      · subst he; simp [AC.wr, hk]
      · subst he; simp [AC.wr, hk])) hLn
    refine evS_ok hT hm x h2 hc hg hLn (fun p hp hmem => hLw p hp ?_) hK hX hR
    cases g with
    | ownNil k e id => exact List.mem_cons_of_mem _ hmem
    | pure k => exact List.mem_cons_of_mem _ hmem
    | _ => exact hmem
  | .sel q x y, β, st, K, X, R, res, c, L, a, w, Q, h, hc, hi, hLn, hLw, hK, hX, hR => by
    simp only [AC.wr, List.mem_append, not_or] at hLw
    have h : bq (Cn.holds st q) (evS P T x st K X R) (evS P T y st K X R) = some res := h
    cases hf : Cn.holds st q <;> rw [hf] at h
    · exact evS_ok hT hm y h hc.2 hi hLn (fun p hp => (hLw p hp).2) hK hX hR
    · exact evS_ok hT hm x h hc.1 hi hLn (fun p hp => (hLw p hp).1) hK hX hR
  | .bad c', β, st, K, X, R, res, c, L, a, w, Q, h, hc, hi, hLn, hLw, hK, hX, hR => by cases h
  | .loop sh rt outs x, β, st, K, X, R, res, c, L, a, w, Q, h, hc, hi, hLn, hLw, hK, hX, hR => by
    obtain ⟨cx, rfl, h1⟩ := hc
    obtain ⟨L', q1, q2, q3, q4, q5⟩ := base_ok hi hLn x.wr hLw
    obtain ⟨t0, p1, p2⟩ := prj_ok (r := res) h q2 q3 q4 (nt := st.nt) (n0 := st.n0) (by obtain ⟨_, _, _, _, _, _, _, _, hnt, _⟩ := hi; exact hnt.1) (by obtain ⟨_, _, _, _, _, _, _, _, _, h0⟩ := hi; exact h0)
    obtain ⟨_, _, _, _, _, _, _, _, hnt, h0⟩ := hi
    obtain ⟨o, r1, r2⟩ := Option.bind_eq_some_iff.1 p1
    generalize hbase : (st.tm.keep).junk x.wr = base at *
    generalize hf : (fun t => evS P T (β := sh.D ⊕ Out rt outs β) x (sh.inj base st.nt st.n0 t) (fun st'' => st''.prj sh fun t' => some (.inl t'))
          (fun i st'' => Out.mk st'' rt outs i fun o => some (.inr o))
          (fun st'' => (R st'').ob fun b => Out.retO rt outs b fun o => some (.inr o))) = f at *
    let p : Act → World → Nat → Prop := fun a' w' n => ∃ t, iter n f t = some o ∧ Inv z0 N L' (sh.inj base st.nt st.n0 t) a' w'
    classical
    let μ : Act → World → Nat := fun a' w' => if h : ∃ n, p a' w' n then Classical.choose (least h) else 0
    have hμ : ∀ a' w' n, p a' w' n → μ a' w' ≤ n ∧ p a' w' (μ a' w') := fun a' w' n hn => by
      have hex : ∃ n, p a' w' n := ⟨n, hn⟩
      have e : μ a' w' = Classical.choose (least hex) := dif_pos hex
      have hs := Classical.choose_spec (least hex)
      rw [e]
      exact ⟨hs.2 n hn, hs.1⟩
    refine wp_loop (fun a' w' => ∃ n, p a' w' n) μ ⟨fuel, t0, r1, p2⟩ fun a1 w1 ⟨n1, hn1⟩ => ?_
    obtain ⟨_, t, ht, hit⟩ := hμ a1 w1 n1 hn1
    obtain ⟨m, hm'⟩ : ∃ m, μ a1 w1 = m + 1 := by
      cases hz : μ a1 w1 with
      | zero => rw [hz] at ht; cases ht
      | succ m => exact ⟨m, rfl⟩
    rw [hm'] at ht ⊢
    obtain ⟨r, ht1, ht2⟩ := ob_iff.1 (show (f t).ob _ = some o from ht)
    have hft : evS P T (β := sh.D ⊕ Out rt outs β) x (sh.inj base st.nt st.n0 t) (fun st'' => st''.prj sh fun t' => some (.inl t'))
          (fun i st'' => Out.mk st'' rt outs i fun o => some (.inr o))
          (fun st'' => (R st'').ob fun b => Out.retO rt outs b fun o => some (.inr o)) = some r := by rw [← ht1, ← hf]
    refine evS_ok hT hm x hft h1 hit q3 q5 (fun st' a' w' h' hi' => ?_) (fun i st' a' w' h' hi' => ?_) (fun st' a' w' h' hi' => ?_)
    · obtain ⟨t', e1, e2⟩ := prj_ok h' hi' q3 q4 (nt := st.nt) (n0 := st.n0) hnt.1 h0
      simp only [Option.some.injEq] at e1
      subst e1
      have hp : p a' w' m := ⟨t', ht2, e2⟩
      exact ⟨⟨m, hp⟩, Nat.lt_succ_of_le (hμ a' w' m hp).1⟩
    · obtain ⟨o', e1, e2⟩ := Out.on_inl h' hi' q3 q4 (nt := st.nt) (n0 := st.n0) hnt.1 h0
      simp only [Option.some.injEq] at e1
      subst e1
      simp only [Option.some.injEq] at ht2
      subst ht2
      obtain ⟨st1, e3, e4⟩ := e2 X some
      exact hX i st1 a' w' (e4.symm.trans r2) (e3.sub q1)
    · obtain ⟨b, e1, e2⟩ := ob_iff.1 h'
      obtain ⟨o', e3, e4⟩ := retO_ok e2
      simp only [Option.some.injEq] at e3
      subst e3
      simp only [Option.some.injEq] at ht2
      subst ht2
      have : some b = some res := (e4 _ _ _ _ _).symm.trans r2
      exact hR st' a' w' (e1.trans this) (hi'.sub q1)
end
end Go.Ab
