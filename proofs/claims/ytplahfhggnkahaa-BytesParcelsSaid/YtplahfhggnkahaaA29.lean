/- Operations in their regions. -/
import Derived.Test.YtplahfhggnkahaaA28
set_option linter.all false
namespace Go.Ab

theorem Tr.get_put : ∀ (t : Tr) (k : Nat) (a : AV) (k' : Nat), (k' ≠ k → (t.put k a).get k' = t.get k') ∧ ((t.put k a).get k = a ∨ (t.put k a).get k = .junk)
  | .lf, k, a, k' => ⟨fun _ => rfl, .inr rfl⟩
  | .nd l v r, k, a, k' => by
    by_cases h0 : k = 0
    · subst h0
      simp only [Tr.put, (beq_nat 0 0).2 rfl, cond_true, Tr.get]
      refine ⟨fun h => ?_, .inl trivial⟩
      rw [beq_nat_ff h]
      rfl
    · have e0 : Nat.beq k 0 = false := beq_nat_ff h0
      by_cases h1 : k % 2 = 1
      · have e1 : Nat.beq (k % 2) 1 = true := (beq_nat _ _).2 h1
        simp only [Tr.put, e0, e1, cond_true, cond_false, Tr.get]
        obtain ⟨q1, q2⟩ := Tr.get_put l (k / 2) a (k' / 2)
        refine ⟨fun h => ?_, q2⟩
        by_cases g0 : k' = 0
        · subst g0; simp [Nat.beq]
        · rw [beq_nat_ff g0, cond_false, cond_false]
          by_cases g1 : k' % 2 = 1
          · rw [(beq_nat _ _).2 g1, cond_true, cond_true]; exact q1 (by omega)
          · rw [beq_nat_ff g1, cond_false, cond_false]
      · have e1 : Nat.beq (k % 2) 1 = false := beq_nat_ff h1
        simp only [Tr.put, e0, e1, cond_false, Tr.get]
        obtain ⟨q1, q2⟩ := Tr.get_put r (k / 2 - 1) a (k' / 2 - 1)
        refine ⟨fun h => ?_, q2⟩
        by_cases g0 : k' = 0
        · subst g0; simp [Nat.beq]
        · rw [beq_nat_ff g0, cond_false, cond_false]
          by_cases g1 : k' % 2 = 1
          · rw [(beq_nat _ _).2 g1, cond_true, cond_true]
          · rw [beq_nat_ff g1, cond_false, cond_false]; exact q1 (by omega)

section
variable {P : Program} {T : Tbl} {z : Z} {H : Hp} {β : Type} {all : List Oper} {ops : Array Oper}
/-- What stands for what the one stands for. -/
def Le (a b : AV) : Prop := ∀ (z : Z) v, ARep z a v → ARep z b v
theorem Le.refl (a : AV) : Le a a := fun _ _ h => h
theorem Le.trans {a b c : AV} (h : Le a b) (k : Le b c) : Le a c := fun z v x => k z v (h z v x)
theorem Le.junk (a : AV) : Le a .junk := fun _ v _ => .junk v
theorem Le.bool {a : AV} {t : Bool} (h : a.bool? = some t) : Le a (.b t) := fun z v hv => by
  rw [bool?_ok h hv]; exact .mkB t

theorem lit_junk (v : Value) : ARep z (AV.lit v) v := by
  cases v <;> first | exact .mkI _ _ | exact .mkB _ | exact .junk _ | exact .p _ _ _ ⟨_, ⟨rfl, rfl⟩, rfl⟩ | skip
  rename_i s
  exact .mkS s.data.toList
theorem oneCells_ok : ∀ {l : List Value}, oneCells l = true → ∀ v ∈ l, v.oneCell' = true
  | [], _, v, h => by cases h
  | u :: l, h, v, hv => by
    have h' : u.oneCell' = true ∧ oneCells l = true := by
      cases u <;> first | exact ⟨rfl, h⟩ | cases h
    rcases List.mem_cons.1 hv with rfl | hv
    · exact h'.1
    · exact oneCells_ok h'.2 v hv
theorem opnd_ok {st : St} {a : Act} (h : ∀ t, ARep z (st.tm.get t) (a.eval (.tmp t))) (x : Operand) : ARep z (st.opnd x) (a.eval x) := by
  cases x with
  | tmp t => exact h t
  | const v =>
    by_cases hv : ∃ cs, v = .agg cs
    · obtain ⟨cs, rfl⟩ := hv
      simp only [St.opnd]
      cases ho : oneCells cs.toList
      · exact .junk _
      · have h1 := oneCells_ok ho
        refine .agg _ _ (by simp) (fun v hv => h1 v (Array.mem_toList_iff.2 hv)) fun i x v e1 e2 => ?_
        have e2 : cs[i]? = some v := e2
        rw [List.getElem?_map] at e1
        obtain ⟨y, e3, rfl⟩ := Option.map_eq_some_iff.1 e1
        have : y = v := by rw [← Array.getElem?_toList, e3] at e2; exact Option.some.inj e2
        subst this
        exact lit_ok y (.inl (h1 y (List.mem_of_getElem? e3)))
    · have : st.opnd (.const v) = .lit v := by
        cases v <;> first | rfl | exact absurd ⟨_, rfl⟩ hv
      rw [this]
      exact lit_junk v
  | global g => exact .junk _
  | func f => exact .fn f [] [] #[] #[] rfl rfl (fun i x v h => by simp at h) (fun i x v h => by simp at h)

theorem fnv?_ok {a : AV} {x : FuncId × List AV × List AV} {v : Value} (h : a.fnv? = some x) (ha : ARep z a v) : ∃ va vc, v = .func (.func x.1) va vc ∧ AReps z x.2.1 va.toList ∧ AReps z x.2.2 vc.toList := by
  unfold AV.fnv? at h
  split at h
  · rename_i f l c
    simp only [Option.some.injEq] at h
    subst h
    cases ha with | fn _ _ _ va vc h1 h2 h3 h4 =>
    exact ⟨va, vc, rfl, ⟨by simp [h1], fun i x v p1 p2 => h3 i x v p1 (by simpa using p2)⟩, ⟨by simp [h2], fun i x v p1 p2 => h4 i x v p1 (by simpa using p2)⟩⟩
  · rename_i f l c
    cases hb : (Nat.beq l.size 0 && Nat.beq c.size 0) <;> rw [hb] at h <;> simp only [bq_true, bq_false] at h
    · cases h
    simp only [Bool.and_eq_true, beq_nat] at hb
    simp only [Option.some.injEq] at h
    subst h
    obtain rfl := ha.v.opq.1
    exact ⟨l, c, rfl, ⟨by simp [hb.1], fun i a v h => by simp at h⟩, ⟨by simp [hb.2], fun i a v h => by simp at h⟩⟩
  · cases h

/-- What writes, or makes memory, or calls. -/
theorem evW_wp {o : Oper} {an : Ann} {r : Operand → AV} {a : Act} {K : AV → Hp → Option β} {res : β} {next : Act → World → Prop} {Q : Exit → Act → World → Prop} (hT : ∀ e ∈ T, Told P e)
    (h : evW P T o an r H K = some res) (hH : HRep z H) (hids : ∀ id ∈ an.ids, ¬ z.D id) (hmk : mkOp P o = true → ¬ z.D (an.ids.headD 0)) (hmd : ltAll 3 an.md = true ∨ ∀ id, ¬ z.D id) (hr : ∀ x, ARep z (r x) (a.eval x))
    (hk : ∀ x v H' z', HRep z' H' → Nx z z' → ARep z' x v → K x H' = some res → next (a.put o.dst v) z'.w) : o.wp P a z.w next Q := by
  unfold Oper.wp
  cases hc : isCall o
  · obtain ⟨x, H', z', nx, h1, h2, h3, h4, h5⟩ := evW_ok h hH hmk hr hc
    rw [h1]
    rcases h4 with ⟨v, rfl, hv⟩ | ⟨rfl, rfl⟩
    · exact hk x v H' z' h2 h3 hv h5
    · exact hk .junk undef H' z' h2 h3 (.junk _) h5
  · unfold isCall at hc
    split at hc
    · rename_i c ho
      split at hc
      · rename_i f hcb
        unfold evW at h
        simp only [ho, hcb] at h
        obtain ⟨x, h1, h2⟩ := ob_iff.1 h
        obtain ⟨va, vc, hv, q1, q2⟩ := fnv?_ok h1 (hr f)
        split at h2
        · rename_i e he
          cases hb : Nat.beq e.f x.1 <;> rw [hb] at h2 <;> simp only [bq_true, bq_false] at h2
          · cases h2
          rw [beq_nat] at hb
          have hte := hT e (List.mem_of_getElem? he)
          have hcall := evCall_ok (vals := va.toList ++ c.args.toList.map a.eval ++ vc.toList) hte h2 hH hids hmd (.append (.append q1 (.map hr)) q2)
          obtain ⟨fn, cd, e1, e2, e3⟩ := hte.ent
          have hexec : (execOp a.eval o).run P z.w = .ok (.enter e.f (va.toList ++ c.args.toList.map a.eval ++ vc.toList).toArray) z.w := by
            have hbd : fn.body.isNone = false := by rw [e2]; rfl
            have harr : va ++ c.args.map a.eval ++ vc = (va.toList ++ c.args.toList.map a.eval ++ vc.toList).toArray := by
              apply Array.ext'
              simp
            unfold execOp
            simp only [ho, resolve, hcb, hv, Deferred.ofValue, Sem.run_bind, Sem.run_pure, Result.andThen_ok, invoke, callFunc, run_program]
            rw [← hb] at *
            simp only [e1, e3, hbd, harr]
            rfl
          rw [hexec]
          show Calls P e.f _ z.w _
          refine hcall.mono ?_
          rintro en w' ⟨v, x', H', z', rfl, rfl, p1, p2, p3, p4⟩
          exact hk x' v H' z' p1 p2 p3 p4
        · cases h2
      · cases hc
    · cases hc
theorem evR_wp {o : Oper} {r : Operand → AV} {a : Act} {K : AV → Option β} {res : β} {next : Act → World → Prop} {Q : Exit → Act → World → Prop} (h : evR P o r H K = some res) (hH : HRep z H) (hr : ∀ x, ARep z (r x) (a.eval x))
    (hk : ∀ x v, ARep z x v → K x = some res → next (a.put o.dst v) z.w) : o.wp P a z.w next Q := by
  unfold Oper.wp
  obtain ⟨x, v, h1, h2, h3⟩ := evR_ok h hH hr
  rw [h1]
  exact hk x v h2 h3

/-! What holds between operations -/
/-- The state stands for this; what is listed stands for what its slots hold. -/
def Inv (z0 : Z) (N : Nat) (L : List (Nat × AV)) (st : St) (a : Act) (w : World) : Prop :=
  ∃ z, z.w = w ∧ Nx z0 z ∧ (∀ id, ¬ z.D id) ∧ HRep z st.hp ∧ (∀ t, ARep z (st.tm.get t) (a.eval (.tmp t))) ∧ (∀ p ∈ L, ARep z p.2 (a.eval (.tmp p.1))) ∧ a.defers = [] ∧ (st.nt ≤ N ∧ a.tmps.size = N) ∧ ∀ id, z0.ρ id ≠ .no → id < st.n0

theorem eval_put_same {a : Act} {d : Nat} {v : Value} (h : d < a.tmps.size) : (a.put (some d) v).eval (.tmp d) = v := by
  simp [Act.eval, Act.put, h]
theorem eval_put_ne {a : Act} {o : Option Tmp} {t : Nat} {v : Value} (h : o ≠ some t) : (a.put o v).eval (.tmp t) = a.eval (.tmp t) := by
  cases o with
  | none => rfl
  | some d =>
    have : d ≠ t := fun e => h (by rw [e])
    simp [Act.eval, Act.put, Array.getElem?_setIfInBounds_ne this]
theorem put_ok {tm : Tr} {nt : Nat} {a : Act} {o : Option Tmp} {x : AV} {v : Value} (h : ∀ t, ARep z (tm.get t) (a.eval (.tmp t))) (hd : dstOk nt o = true) (hn : nt ≤ a.tmps.size) (hx : ARep z x v) :
    ∀ t, ARep z ((St.putO ⟨tm, nt, 0, []⟩ o x).tm.get t) ((a.put o v).eval (.tmp t)) := by
  intro t
  cases o with
  | none => exact h t
  | some d =>
    simp only [dstOk, Nat.blt_eq] at hd
    simp only [St.putO]
    by_cases ht : t = d
    · subst ht
      rw [eval_put_same (by omega)]
      rcases (Tr.get_put tm t x t).2 with e | e <;> rw [e]
      · exact hx
      · exact .junk _
    · rw [(Tr.get_put tm d x t).1 ht, eval_put_ne (by simpa using Ne.symm ht)]
      exact h t
theorem putO_tm (st : St) (o : Option Nat) (x : AV) : (st.putO o x).tm = (St.putO ⟨st.tm, st.nt, 0, []⟩ o x).tm ∧ (st.putO o x).nt = st.nt ∧ (st.putO o x).n0 = st.n0 ∧ (st.putO o x).hp = st.hp := by
  cases o <;> exact ⟨rfl, rfl, rfl, rfl⟩
theorem put_size (a : Act) (o : Option Tmp) (v : Value) : (a.put o v).tmps.size = a.tmps.size ∧ (a.put o v).defers = a.defers := by
  cases o <;> simp [Act.put]
theorem Inv.put {z0 z' : Z} {N : Nat} {L : List (Nat × AV)} {st : St} {a : Act} {o : Option Tmp} {x : AV} {v : Value} {H' : Hp} (hn : Nx z0 z') (hD : ∀ id, ¬ z'.D id) (hH : HRep z' H') (hs : ∀ t, ARep z' (st.tm.get t) (a.eval (.tmp t)))
    (hL : ∀ p ∈ L, ARep z' p.2 (a.eval (.tmp p.1))) (hLd : ∀ p ∈ L, o ≠ some p.1) (hdf : a.defers = []) (hnt : st.nt ≤ N ∧ a.tmps.size = N) (h0 : ∀ id, z0.ρ id ≠ .no → id < st.n0) (hd : dstOk st.nt o = true) (hx : ARep z' x v) :
    Inv z0 N L { st.putO o x with hp := H' } (a.put o v) z'.w := by
  obtain ⟨e1, e2, e3, e4⟩ := putO_tm st o x
  refine ⟨z', rfl, hn, hD, hH, ?_, fun p hp => ?_, (put_size a o v).2.trans hdf, ⟨by show (st.putO o x).nt ≤ N; rw [e2]; exact hnt.1, by rw [(put_size a o v).1]; exact hnt.2⟩, fun id hid => by show id < (st.putO o x).n0; rw [e3]; exact h0 id hid⟩
  · show ∀ t, ARep z' ((st.putO o x).tm.get t) _
    rw [e1]
    exact put_ok hs hd (by rw [hnt.2]; exact hnt.1) hx
  · rw [eval_put_ne (hLd p hp)]
    exact hL p hp
theorem ev1_ok {o : Oper} {an : Ann} {z0 : Z} {N : Nat} {L : List (Nat × AV)} {st : St} {a : Act} {w : World} {K : St → Option β} {res : β} {next : Act → World → Prop} {Q : Exit → Act → World → Prop} (hT : ∀ e ∈ T, Told P e)
    (h : ev1 P T o an st K = some res) (hd : dstOk st.nt o.dst = true) (hi : Inv z0 N L st a w) (hL : ∀ p ∈ L, o.dst ≠ some p.1) (hk : ∀ st' a' w', K st' = some res → Inv z0 N L st' a' w' → next a' w') : o.wp P a w next Q := by
  obtain ⟨z, rfl, hn, hD, hH, hs, hLs, hdf, hnt, h0⟩ := hi
  unfold ev1 at h
  cases hR : isR P o <;> rw [hR] at h <;> simp only [bq_true, bq_false] at h
  · refine evW_wp hT h hH (fun id _ => hD id) (fun _ => hD _) (.inr hD) (opnd_ok hs) fun x v H' z' h1 h2 h3 h4 => ?_
    have kp := h2.kp hH.sub
    exact hk _ _ _ h4 (.put (hn.trans h2) (fun id => by rw [h2.dom]; exact hD id) h1 (fun t => (hs t).kp kp) (fun p hp => (hLs p hp).kp kp) hL hdf hnt h0 hd h3)
  · refine evR_wp h hH (opnd_ok hs) fun x v h1 h2 => ?_
    have := Inv.put (st := st) (H' := st.hp) hn hD hH hs hLs hL hdf hnt h0 hd h1
    refine hk _ _ _ h2 ?_
    have e : ({ st.putO o.dst x with hp := st.hp } : St) = st.putO o.dst x := by cases o.dst <;> rfl
    rwa [e] at this

/-! Guards -/
/-- What a guard says, by the slots. -/
def GuardIs (all : List Oper) (o : Oper) (get : Nat → AV) (b : Bool) : Prop :=
  (o.guard = none ∧ b = true) ∨ ∃ j want d, o.guard = some (j, want) ∧ (all[j]?).bind (·.dst) = some d ∧ ((get d = .tup [] ∧ b = false) ∨ ∃ t, (get d).bool? = some t ∧ b = (t == want))
theorem GuardIs.wanted {o : Oper} {get : Nat → AV} {b : Bool} {a : Act} (h : GuardIs ops.toList o get b) (hs : ∀ j want d, o.guard = some (j, want) → (ops.toList[j]?).bind (·.dst) = some d → ARep z (get d) (a.eval (.tmp d))) :
    Region.wanted o (yielded ops a.tmps) = b := by
  rcases h with ⟨h1, rfl⟩ | ⟨j, want, d, h1, h2, h3⟩
  · simp [Region.wanted, h1]
  · have hd := hs j want d h1 h2
    have e : (ops[j]?).bind (·.dst) = some d := by rw [← Array.getElem?_toList]; exact h2
    simp only [Region.wanted, h1, yielded, e, Option.bind_some]
    simp only [Act.eval] at hd
    rcases h3 with ⟨h3, rfl⟩ | ⟨t, h3, rfl⟩
    · rw [h3] at hd
      cases hv : a.tmps[d]? with
      | none => rfl
      | some v =>
        have e2 : a.tmps.getD d undef = v := by simp [hv]
        rw [e2] at hd
        cases hd
        rfl
    · have hb := bool?_ok h3 hd
      cases hv : a.tmps[d]? with
      | none =>
        have e2 : a.tmps.getD d undef = undef := by simp [hv]
        rw [e2] at hb
        cases hb
      | some v =>
        have e2 : a.tmps.getD d undef = v := by simp [hv]
        rw [e2] at hb
        subst hb
        cases t <;> cases want <;> rfl
theorem evG_ok {o : Oper} {st : St} {go skip : St → Option β} {res : β} (h : evG all o st go skip = some res) :
    dstOk st.nt o.dst = true ∧ ∃ st1 b, st1.hp = st.hp ∧ st1.nt = st.nt ∧ st1.n0 = st.n0 ∧ (∀ t, Le (st.tm.get t) (st1.tm.get t)) ∧ GuardIs all o st.tm.get b ∧ ((b = true ∧ go st1 = some res) ∨ (b = false ∧ skip (st1.skip o) = some res)) := by
  unfold evG at h
  cases hd : dstOk st.nt o.dst <;> rw [hd] at h <;> simp only [bq_true, bq_false] at h
  · cases h
  refine ⟨rfl, ?_⟩
  split at h
  · rename_i hg
    exact ⟨st, true, rfl, rfl, rfl, fun _ => .refl _, .inl ⟨hg, rfl⟩, .inl ⟨rfl, h⟩⟩
  · rename_i j want hg
    obtain ⟨d, h1, h2⟩ := ob_iff.1 h
    obtain ⟨oj, h3, h4⟩ := ob_iff.1 h1
    have hj : (all[j]?).bind (·.dst) = some d := by rw [h3]; exact h4
    split at h2
    · rename_i ht
      exact ⟨st, false, rfl, rfl, rfl, fun _ => .refl _, .inr ⟨j, want, d, hg, hj, .inl ⟨ht, rfl⟩⟩, .inr ⟨rfl, h2⟩⟩
    · rename_i ht
      obtain ⟨t, h5, h6⟩ := ob_iff.1 h2
      have hle : ∀ k, Le (st.tm.get k) ((st.tm.put d (.b t)).get k) := fun k => by
        by_cases hk : k = d
        · subst hk
          rcases (Tr.get_put st.tm k (.b t) k).2 with e | e <;> rw [e]
          · exact .bool h5
          · exact .junk _
        · rw [(Tr.get_put st.tm d (.b t) k).1 hk]; exact .refl _
      refine ⟨{ st with tm := st.tm.put d (.b t) }, t == want, rfl, rfl, rfl, hle, .inr ⟨j, want, d, hg, hj, .inr ⟨t, h5, rfl⟩⟩, ?_⟩
      cases t <;> cases want <;> simp only [bq_true, bq_false] at h6
      · exact .inl ⟨rfl, h6⟩
      · exact .inr ⟨rfl, h6⟩
      · exact .inr ⟨rfl, h6⟩
      · exact .inl ⟨rfl, h6⟩
theorem undef_ok : ARep z (.tup []) undef := .tup [] #[] rfl fun i x v h => by simp at h
/-- A state's slots seen otherwise. -/
theorem Inv.le {z0 : Z} {N : Nat} {L : List (Nat × AV)} {st st1 : St} {a : Act} {w : World} (hi : Inv z0 N L st a w) (h1 : st1.hp = st.hp) (h2 : st1.nt = st.nt) (h3 : st1.n0 = st.n0) (h4 : ∀ t, Le (st.tm.get t) (st1.tm.get t)) : Inv z0 N L st1 a w := by
  obtain ⟨z, rfl, hn, hD, hH, hs, hLs, hdf, hnt, h0⟩ := hi
  exact ⟨z, rfl, hn, hD, by rw [h1]; exact hH, fun t => h4 t _ _ (hs t), hLs, hdf, by rw [h2]; exact hnt, by rw [h3]; exact h0⟩
theorem Inv.skip {z0 : Z} {N : Nat} {L : List (Nat × AV)} {st : St} {a : Act} {w : World} {o : Oper} (hi : Inv z0 N L st a w) (hd : dstOk st.nt o.dst = true) (hL : ∀ p ∈ L, o.dst ≠ some p.1) : Inv z0 N L (st.skip o) (a.put o.dst undef) w := by
  obtain ⟨z, rfl, hn, hD, hH, hs, hLs, hdf, hnt, h0⟩ := hi
  have := Inv.put (st := st) (H' := st.hp) hn hD hH hs hLs hL hdf hnt h0 hd (undef_ok (z := z))
  have e : ({ st.putO o.dst (.tup []) with hp := st.hp } : St) = st.skip o := by unfold St.skip; cases o.dst <;> rfl
  rwa [e] at this
/-- A region whose order is given. -/
theorem evOps_ok {z0 : Z} {N : Nat} {L : List (Nat × AV)} {K : St → Option β} {res : β} {Q : Exit → Act → World → Prop} (hT : ∀ e ∈ T, Told P e) (hk : ∀ st' a' w', K st' = some res → Inv z0 N L st' a' w' → Q .normal a' w') :
    ∀ (l : List (Oper × Ann)) (k : Nat), (∀ (i : Nat) x, l[i]? = some x → ops[k + i]? = some x.1) → (∀ x ∈ l, ∀ p ∈ L, x.1.dst ≠ some p.1) → ∀ (st : St) (a : Act) (w : World), evOps P T l ops.toList st K = some res → Inv z0 N L st a w →
      wpOps P ops Q (List.range' k l.length) a w
  | [], k, _, _, st, a, w, h, hi => hk st a w h hi
  | (o, an) :: l, k, hl, hL, st, a, w, h, hi => by
    simp only [evOps] at h
    obtain ⟨hd, st1, b, e1, e2, e3, e4, hg, hb⟩ := evG_ok h
    have ho : ops[k]? = some o := by have := hl 0 (o, an) rfl; simpa using this
    have hrest : ∀ (i : Nat) x, l[i]? = some x → ops[k + 1 + i]? = some x.1 := fun i x hx => by
      have := hl (i + 1) x hx
      rwa [show k + (i + 1) = k + 1 + i by omega] at this
    have hLo : ∀ p ∈ L, o.dst ≠ some p.1 := hL (o, an) (by simp)
    have hw : Region.wanted o (yielded ops a.tmps) = b := by
      obtain ⟨z, _, _, _, _, hs, _⟩ := hi
      exact hg.wanted fun j want d _ _ => hs d
    have hi1 : Inv z0 N L st1 a w := hi.le e1 e2 e3 e4
    simp only [List.length_cons, List.range'_succ, wpOps, ho, hw]
    rcases hb with ⟨rfl, hgo⟩ | ⟨rfl, hsk⟩
    · simp only [if_true]
      refine .inl (ev1_ok hT hgo (by rw [e2]; exact hd) hi1 hLo fun st' a' w' h' hi' => ?_)
      exact evOps_ok hT hk l (k + 1) hrest (fun x hx => hL x (by simp [hx])) st' a' w' h' hi'
    · simp only [Bool.false_eq_true, if_false]
      exact evOps_ok hT hk l (k + 1) hrest (fun x hx => hL x (by simp [hx])) _ _ w hsk (hi1.skip (by rw [e2]; exact hd) hLo)
end
end Go.Ab
