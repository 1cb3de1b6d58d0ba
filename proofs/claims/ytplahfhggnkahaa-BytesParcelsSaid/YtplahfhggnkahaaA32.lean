/- Code: what the evaluator says of it holds. -/
import Derived.Test.YtplahfhggnkahaaA31
set_option linter.all false
namespace Go.Ab

theorem hget_fillN (H : Hp) : ∀ (n id : Nat), hget (fillN H n) id = hget H id ∧ hkey (fillN H n) id = (hkey H id || decide (id < n))
  | 0, id => by simp [fillN]
  | n + 1, id => by
    obtain ⟨q1, q2⟩ := hget_fillN H n id
    simp only [fillN]
    cases hk : hkey H n
    · simp only [cond_false, hget, hkey]
      by_cases h : n = id
      · subst h
        simp only [(beq_nat n n).2 rfl, cond_true, hk]
        refine ⟨(hget_none_of_hkey hk).symm, ?_⟩
        simp
      · simp only [beq_nat_ff h, cond_false, q1, q2]
        refine ⟨trivial, ?_⟩
        congr 1
        by_cases h2 : id < n
        · simp [h2, show id < n + 1 by omega]
        · simp [h2, show ¬ id < n + 1 by omega]
    · simp only [cond_true, q1, q2]
      refine ⟨trivial, ?_⟩
      by_cases h : id = n
      · subst h; simp [hk]
      · congr 1
        by_cases h2 : id < n
        · simp [h2, show id < n + 1 by omega]
        · simp [h2, show ¬ id < n + 1 by omega]
theorem fixN_ok {n : Nat} : ∀ {ps : List (Nat × Nat)}, fixN n ps = true → ∀ i k, (i, k) ∈ ps → i = k ∨ (n ≤ i ∧ n ≤ k)
  | [], _, i, k, h => by cases h
  | (a, b) :: ps, h, i, k, hm => by
    simp only [fixN, Bool.and_eq_true, Bool.or_eq_true, beq_nat, Nat.ble_eq] at h
    rcases List.mem_cons.1 hm with hm | hm
    · injection hm with h1 h2
      subst h1; subst h2
      exact h.1
    · exact fixN_ok h.2 i k hm
theorem unTm_ok {z : Z} {f : Nat → Value} : ∀ {ks : List Nat} {vs : List AV} {t : Tr}, (∀ k, ARep z (t.get k) (f k)) → AReps z vs (ks.map f) → ∀ k, ARep z ((unTm ks vs t).get k) (f k)
  | [], vs, t, h, _, k => by cases vs <;> exact h k
  | k0 :: ks, [], t, h, _, k => h k
  | k0 :: ks, a :: vs, t, h, hv, k => by
    simp only [unTm]
    refine unTm_ok (fun j => ?_) hv.tail k
    by_cases hj : j = k0
    · subst hj
      rcases (Tr.get_put t j a j).2 with e | e <;> rw [e]
      · exact hv.head
      · exact .junk _
    · rw [(Tr.get_put t k0 a j).1 hj]; exact h j
theorem keep_get : ∀ (t : Tr) (k : Nat), t.keep.get k = .junk ∨ (t.keep.get k = t.get k ∧ (t.get k).noRef = true)
  | .lf, k => .inl rfl
  | .nd l v r, k => by
    simp only [Tr.keep, Tr.get]
    by_cases h0 : k = 0
    · subst h0
      simp only [(beq_nat 0 0).2 rfl, cond_true]
      cases hv : v.noRef
      · exact .inl rfl
      · exact .inr ⟨rfl, rfl⟩
    · simp only [beq_nat_ff h0, cond_false]
      by_cases h1 : k % 2 = 1
      · simp only [(beq_nat _ _).2 h1, cond_true]; exact keep_get l _
      · simp only [beq_nat_ff h1, cond_false]; exact keep_get r _
theorem junk_get : ∀ (l : List Nat) (t : Tr) (k : Nat), (k ∈ l → (t.junk l).get k = .junk) ∧ (k ∉ l → (t.junk l).get k = t.get k)
  | [], t, k => ⟨fun h => (by cases h), fun _ => rfl⟩
  | i :: l, t, k => by
    obtain ⟨h1, h2⟩ := junk_get l (t.put i .junk) k
    simp only [Tr.junk]
    refine ⟨fun h => ?_, fun h => ?_⟩
    · by_cases hk : k ∈ l
      · exact h1 hk
      · rw [h2 hk]
        have : k = i := (List.mem_cons.1 h).resolve_right hk
        subst this
        rcases (Tr.get_put t k .junk k).2 with e | e <;> exact e
    · rw [List.mem_cons, not_or] at h
      rw [h2 h.2, (Tr.get_put t i .junk k).1 h.1]
theorem tr_bound : ∀ (t : Tr), ∃ n, ∀ k, n ≤ k → t.get k = .junk
  | .lf => ⟨0, fun _ _ => rfl⟩
  | .nd l v r => by
    obtain ⟨nl, hl⟩ := tr_bound l
    obtain ⟨nr, hr⟩ := tr_bound r
    refine ⟨2 * (nl + nr) + 3, fun k hk => ?_⟩
    have h0 : k ≠ 0 := by omega
    simp only [Tr.get, beq_nat_ff h0, cond_false]
    by_cases h1 : k % 2 = 1
    · simp only [(beq_nat _ _).2 h1, cond_true]; exact hl _ (by omega)
    · simp only [beq_nat_ff h1, cond_false]; exact hr _ (by omega)
theorem noRef_ids {a : AV} (h : a.noRef = true) : AV.ids a = [] := by
  cases a <;> first | rfl | (simp only [AV.noRef, List.isEmpty_iff] at h; exact h)
theorem least {p : Nat → Prop} (h : ∃ n, p n) : ∃ n, p n ∧ ∀ m, p m → n ≤ m := by
  obtain ⟨n, hn⟩ := h
  induction n using Nat.strongRecOn with
  | _ n ih =>
    by_cases hm : ∃ m, m < n ∧ p m
    · obtain ⟨m, h1, h2⟩ := hm
      exact ih m h1 h2
    · exact ⟨n, hn, fun m h => Nat.le_of_not_lt fun hlt => hm ⟨m, hlt, h⟩⟩

section
variable {P : Program} {T : Tbl} {β : Type} {z0 : Z} {N : Nat} {L : List (Nat × AV)}
theorem Inv.sub {L' : List (Nat × AV)} {st : St} {a : Act} {w : World} (hi : Inv z0 N L' st a w) (h : ∀ p ∈ L, p ∈ L') : Inv z0 N L st a w := by
  obtain ⟨z, rfl, hn, hD, hH, hs, hLs, hdf, hnt, h0⟩ := hi
  exact ⟨z, rfl, hn, hD, hH, hs, fun p hp => hLs p (h p hp), hdf, hnt, h0⟩
/-- A state's shape, and back. -/
theorem prj_ok {st : St} {sh : LShp} {K : sh.D → Option β} {r : β} {a : Act} {w : World} {base : Tr} {nt n0 : Nat} (h : st.prj sh K = some r) (hi : Inv z0 N L st a w) (hLn : ∀ p ∈ L, AV.ids p.2 = [])
    (hb : ∀ k, base.get k = .junk ∨ (k, base.get k) ∈ L) (hnt : nt ≤ N) (h0 : ∀ id, z0.ρ id ≠ .no → id < n0) : ∃ t, K t = some r ∧ Inv z0 N L (sh.inj base nt n0 t) a w := by
  obtain ⟨z, rfl, hn, hD, hH, hs, hLs, hdf, hnt', h0'⟩ := hi
  unfold St.prj at h
  obtain ⟨h1, h2⟩ := need_iff.1 h
  have hfix := fixN_ok h1
  obtain ⟨t, z', k1, k2, k3, k4, k5, k6, k7, k8, k9, k10, k11⟩ := Shp.rco_ok (vals := sh.live.map fun k => a.eval (.tmp k)) (fun k => if k < n0 then z.ρ k else .no) h2 hH ⟨by simp, fun i x v e1 e2 => by
    rw [List.getElem?_map] at e1 e2
    obtain ⟨k, e3, rfl⟩ := Option.map_eq_some_iff.1 e1
    rw [e3] at e2
    simp at e2
    subst e2
    exact hs k⟩
  have hρ : ∀ id, z0.ρ id ≠ .no → z'.ρ id = z0.ρ id := fun id hid => by
    cases hk : memN id (hkKeys sh.s.hs)
    · rw [k7 id hk]
      simp only [if_pos (h0 id hid)]
      exact hn.ext id hid
    · obtain ⟨id', q1, q2⟩ := k6 id hk
      rcases hfix id' id q1 with rfl | ⟨_, q4⟩
      · rw [q2]; exact hn.ext id' hid
      · have := h0' id hid; omega
  let z2 : Z := { z' with D := fun _ => False }
  have hn2 : Nx z0 z2 := ⟨by show z'.w.os = _; rw [k2]; exact hn.os, by show z'.w.tape = _; rw [k2]; exact hn.tape, by show z'.w.output = _; rw [k2]; exact hn.output, by show _ ≤ z'.w.heap.size; rw [k2]; exact hn.size,
    fun b hb hc => by show z'.w.heap[b]? = _; rw [k2]; exact hn.block b hb hc, fun g hg => hn.subM g (by rw [← k3]; exact hg), fun g hg => hn.subC g (k8 g hg), fun g hg hm hc => by show z'.M g; rw [k3]; exact hn.keepM g hg hm hc, hρ, by
      funext id
      have h1 : ¬ z.D id := hD id
      rw [hn.dom] at h1
      exact propext ⟨fun h => h.elim, fun h => h1 h⟩⟩
  have hL2 : ∀ p ∈ L, ARep z2 p.2 (a.eval (.tmp p.1)) := fun p hp => (hLs p hp).rho (z' := z2) k2 k3 fun id hid => by rw [hLn p hp] at hid; cases hid
  refine ⟨t, k1, z2, k2, hn2, fun _ h => h, ?_, ?_, hL2, hdf, ⟨hnt, hnt'.2⟩, h0⟩
  · have eq := hget_fillN (sh.s.emb t).2 n0
    refine ⟨fun id e' he => ?_, fun i i' e e' g sz n g' sz' n' hii p1 p2 m1 m2 p3 p4 => ?_, fun id hid => ?_, k4.sub⟩
    · rw [show hget (sh.inj base nt n0 t).hp id = _ from (eq id).1] at he
      exact (k4.ent id e' he).rho rfl rfl rfl (fun _ _ => rfl) fun _ _ _ _ _ h => h
    · rw [show hget (sh.inj base nt n0 t).hp i = _ from (eq i).1] at p1
      rw [show hget (sh.inj base nt n0 t).hp i' = _ from (eq i').1] at p2
      exact k4.inj i i' _ _ g sz n g' sz' n' hii p1 p2 m1 m2 p3 p4
    · rw [show hkey (sh.inj base nt n0 t).hp id = _ from (eq id).2] at hid
      simp only [Bool.or_eq_false_iff, decide_eq_false_iff_not] at hid
      rw [k11] at hid
      left
      show z'.ρ id = .no
      rw [k7 id hid.1, if_neg hid.2]
  · refine unTm_ok (z := z2) (f := fun k => a.eval (.tmp k)) (fun k => ?_) (k5.less rfl rfl fun g h => h)
    rcases hb k with e | e
    · rw [e]; exact .junk _
    · exact hL2 _ e

theorem Out.on_inl {γ : Type} {base : Tr} {nt n0 : Nat} : ∀ {rt : Bool} {l : List (Nat × LShp)} {i : Nat} {st : St} {K : Out rt l β → Option γ} {r : γ} {a : Act} {w : World}, Out.mk st rt l i K = some r → Inv z0 N L st a w → (∀ p ∈ L, AV.ids p.2 = []) →
    (∀ k, base.get k = .junk ∨ (k, base.get k) ∈ L) → nt ≤ N → (∀ id, z0.ρ id ≠ .no → id < n0) → ∃ o, K o = some r ∧ ∀ (X : Nat → St → Option β) (R : β → Option β), ∃ st1, Inv z0 N L st1 a w ∧ Out.on base nt n0 rt l o X R = X i st1
  | rt, [], i, st, K, r, a, w, h, _, _, _, _, _ => by cases rt <;> cases h
  | true, [(j, s)], i, st, K, r, a, w, h, hi, hLn, hb, hnt, h0 => by
    simp only [Out.mk] at h
    cases hj : Nat.beq j i <;> rw [hj] at h <;> simp only [bq_true, bq_false] at h
    · cases h
    rw [beq_nat] at hj
    subst hj
    obtain ⟨t, h1, h2⟩ := prj_ok h hi hLn hb hnt h0
    exact ⟨.inl t, h1, fun X R => ⟨_, h2, rfl⟩⟩
  | false, [(j, s)], i, st, K, r, a, w, h, hi, hLn, hb, hnt, h0 => by
    simp only [Out.mk] at h
    cases hj : Nat.beq j i <;> rw [hj] at h <;> simp only [bq_true, bq_false] at h
    · cases h
    rw [beq_nat] at hj
    subst hj
    obtain ⟨t, h1, h2⟩ := prj_ok h hi hLn hb hnt h0
    exact ⟨t, h1, fun X R => ⟨_, h2, rfl⟩⟩
  | rt, (j, s) :: o :: l, i, st, K, r, a, w, h, hi, hLn, hb, hnt, h0 => by
    have h' : bq (Nat.beq j i) (st.prj s fun t => K (.inl t)) (Out.mk st rt (o :: l) i fun x => K (.inr x)) = some r := by cases rt <;> exact h
    clear h
    cases hj : Nat.beq j i <;> rw [hj] at h' <;> simp only [bq_true, bq_false] at h'
    · obtain ⟨x, h1, h2⟩ := Out.on_inl h' hi hLn hb hnt h0
      refine ⟨.inr x, h1, fun X R => ?_⟩
      obtain ⟨st1, h3, h4⟩ := h2 X R
      exact ⟨st1, h3, by cases rt <;> exact h4⟩
    · rw [beq_nat] at hj
      subst hj
      obtain ⟨t, h1, h2⟩ := prj_ok h' hi hLn hb hnt h0
      exact ⟨.inl t, h1, fun X R => ⟨_, h2, by cases rt <;> rfl⟩⟩
theorem Out.on_ret {base : Tr} {nt n0 : Nat} {b : β} {X : Nat → St → Option β} {R : β → Option β} : ∀ {l : List (Nat × LShp)}, Out.on base nt n0 true l (Out.ret l b) X R = R b
  | [] => rfl
  | [(_, _)] => rfl
  | (_, _) :: o :: l => Out.on_ret (l := o :: l)

theorem Tr.ren_get (f : Nat → Option Nat) : ∀ (t : Tr) (k : Nat), (t.ren f).get k = AV.ren f (t.get k)
  | .lf, k => rfl
  | .nd l v r, k => by
    simp only [Tr.ren, Tr.get]
    cases Nat.beq k 0
    · cases Nat.beq (k % 2) 1
      · exact Tr.ren_get f r _
      · exact Tr.ren_get f l _
    · rfl
theorem mapHp_get (f : Nat → Option Nat) : ∀ (H : Hp) (id : Nat), hget (mapHp f H) id = (hget H id).map (Ent.ren f) ∧ hkey (mapHp f H) id = hkey H id
  | [], id => ⟨rfl, rfl⟩
  | (i, none) :: H, id => by
    obtain ⟨h1, h2⟩ := mapHp_get f H id
    simp only [mapHp, hget, hkey]
    cases Nat.beq i id
    · exact ⟨h1, h2⟩
    · exact ⟨rfl, rfl⟩
  | (i, some e) :: H, id => by
    obtain ⟨h1, h2⟩ := mapHp_get f H id
    simp only [mapHp, hget, hkey]
    cases Nat.beq i id
    · exact ⟨h1, h2⟩
    · exact ⟨rfl, rfl⟩
theorem renF_eq {old new id k : Nat} (h : renF old new id = some k) : (id = old ∧ k = new) ∨ (id ≠ old ∧ k = id) := by
  unfold renF at h
  by_cases hi : id = old
  · rw [(beq_nat id old).2 hi, bq_true] at h
    exact .inl ⟨hi, (Option.some.inj h).symm⟩
  · rw [beq_nat_ff hi, bq_false] at h
    exact .inr ⟨hi, (Option.some.inj h).symm⟩
theorem renum_ok {z : Z} {H : Hp} {old new : Nat} {e : Ent} (hH : HRep z H) (hg : hget H old = some e) (hk : hkey H new = false) (hd : ¬ z.D new) :
    ∃ z', z'.w = z.w ∧ HRep z' (hset (hset (mapHp (renF old new) H) old none) new (some (e.ren (renF old new)))) ∧ Nx z z' ∧ ∀ a v, ARep z a v → ARep z' (AV.ren (renF old new) a) v := by
  have hno := (hH.fresh new hk).resolve_right hd
  have hne : new ≠ old := fun h => by rw [h, hkey_of_hget hg] at hk; cases hk
  let z' : Z := { z with ρ := fun i => if i = new then z.ρ old else z.ρ i }
  have e1 : ∀ i, i ≠ new → z'.ρ i = z.ρ i := fun i hi => if_neg hi
  have e2 : z'.ρ new = z.ρ old := if_pos rfl
  have hn : Nx z z' := ⟨rfl, rfl, rfl, Nat.le_refl _, fun _ _ _ => rfl, fun _ h => .inl h, fun _ h => .inl h, fun _ _ h _ => h, fun i hi => e1 i (by rintro rfl; exact hi hno), rfl⟩
  have hf : ∀ {id k : Nat}, z.ρ id ≠ .no → renF old new id = some k → z'.ρ k = z.ρ id := fun {id k} hl h => by
    rcases renF_eq h with ⟨rfl, rfl⟩ | ⟨h1, rfl⟩
    · exact e2
    · exact e1 _ (by rintro rfl; exact hl hno)
  have hid : ∀ i ee, hget H i = some ee → i ≠ new := fun i ee h hi => by rw [← hi, hkey_of_hget h] at hk; cases hk
  have hent : ∀ i ee, ERep z i ee → ∀ k, z'.ρ k = z.ρ i → ERep z' k (ee.ren (renF old new)) := fun i ee h k hki => by
    unfold ERep at h ⊢
    rw [hki]
    cases hr : z.ρ i with
    | no => rw [hr] at h; exact h
    | virt =>
      rw [hr] at h
      obtain ⟨fz, b⟩ := ee
      cases b <;> first | exact h.elim | exact h
    | real g sz n =>
      rw [hr] at h
      obtain ⟨a1, a2, a3, a4⟩ := h
      refine ⟨a1, a2, a3, a4.ren' ?_⟩
      exact hf
  have key : ∀ i ee, hget (hset (hset (mapHp (renF old new) H) old none) new (some (e.ren (renF old new)))) i = some ee → ∃ j e0, hget H j = some e0 ∧ ee = e0.ren (renF old new) ∧ ((i = new ∧ j = old) ∨ (i ≠ new ∧ i ≠ old ∧ j = i)) := fun i ee h => by
    rw [hget_hset] at h
    by_cases hi : i = new
    · rw [if_pos hi] at h
      exact ⟨old, e, hg, (Option.some.inj h).symm, .inl ⟨hi, rfl⟩⟩
    · rw [if_neg hi, hget_hset] at h
      by_cases ho : i = old
      · rw [if_pos ho] at h; cases h
      · rw [if_neg ho, (mapHp_get _ H i).1] at h
        obtain ⟨e0, h1, h2⟩ := Option.map_eq_some_iff.1 h
        exact ⟨i, e0, h1, h2.symm, .inr ⟨hi, ho, rfl⟩⟩
  have hρj : ∀ i j, ((i = new ∧ j = old) ∨ (i ≠ new ∧ i ≠ old ∧ j = i)) → z'.ρ i = z.ρ j := fun i j h => by
    rcases h with ⟨rfl, rfl⟩ | ⟨h1, _, rfl⟩
    · exact e2
    · exact e1 _ h1
  refine ⟨z', rfl, ⟨fun i ee h => ?_, fun i i' ee ee' g sz n g' sz' n' hii p1 p2 m1 m2 p3 p4 => ?_, fun i h => ?_, hH.sub⟩, hn, fun a v h => h.ren rfl rfl fun id k hi hk => hf (h.live id hi) hk⟩
  · obtain ⟨j, e0, q1, rfl, q3⟩ := key i ee h
    exact hent j e0 (hH.ent _ _ q1) i (hρj i j q3)
  · obtain ⟨j, e0, q1, rfl, q3⟩ := key i ee p1
    obtain ⟨j', e0', q1', rfl, q3'⟩ := key i' ee' p2
    rw [hρj i j q3] at p3
    rw [hρj i' j' q3'] at p4
    have hjj : j ≠ j' := by
      rcases q3 with ⟨rfl, rfl⟩ | ⟨h1, h2, rfl⟩ <;> rcases q3' with ⟨rfl, rfl⟩ | ⟨h1', h2', rfl⟩
      · exact absurd rfl hii
      · exact Ne.symm h2'
      · exact h2
      · exact hii
    exact hH.inj j j' e0 e0' g sz n g' sz' n' hjj q1 q1' m1 m2 p3 p4
  · rw [hkey_hset, hkey_hset, (mapHp_get _ H i).2] at h
    simp only [Bool.or_eq_false_iff, decide_eq_false_iff_not] at h
    rw [e1 i h.1]
    exact hH.fresh i h.2.2
theorem ghost_ok {g : Gh} {st st' : St} {a : Act} {w : World} (h : ghost P g st = some st') (hi : Inv z0 N L st a w) (hL : ∀ k, ((∃ e id, g = .ownNil k e id) ∨ g = .pure k) → ∀ p ∈ L, p.1 ≠ k) (hLn : ∀ p ∈ L, AV.ids p.2 = []) : Inv z0 N L st' a w := by
  obtain ⟨z, rfl, hn, hD, hH, hs, hLs, hdf, hnt, h0⟩ := hi
  unfold ghost at h
  split at h
  · rename_i old new
    split at h
    · rename_i e hg
      cases hk : hkey st.hp new <;> rw [hk] at h <;> simp only [bq_true, bq_false] at h
      · simp only [Option.some.injEq] at h
        subst h
        obtain ⟨z', q1, q2, q3, q4⟩ := renum_ok hH hg hk (hD new)
        have kp := q3.kp hH.sub
        refine ⟨z', q1, hn.trans q3, fun id => by rw [q3.dom]; exact hD id, q2, fun t => ?_, fun p hp => (hLs p hp).kp kp, hdf, hnt, h0⟩
        show ARep z' ((st.tm.ren (renF old new)).get t) _
        rw [Tr.ren_get]
        exact q4 _ _ (hs t)
      · cases h
    · cases h
  · rename_i k
    obtain ⟨⟨x, H'⟩, h1, h2⟩ := Option.map_eq_some_iff.1 h
    subst h2
    obtain ⟨z', q1, q2, q3, q4, q5⟩ := pureA_ok hH h1 (hs k)
    have kp := q3.kp hH.sub
    refine ⟨z', q1, hn.trans q3, fun id => by rw [q3.dom]; exact hD id, q2, fun t => ?_, fun p hp => (hLs p hp).kp kp, hdf, hnt, h0⟩
    show ARep z' ((st.tm.put k x).get t) _
    by_cases ht : t = k
    · subst ht
      rcases (Tr.get_put st.tm t x t).2 with e | e <;> rw [e]
      · exact q5
      · exact .junk _
    · rw [(Tr.get_put st.tm k x t).1 ht]
      exact (hs t).kp kp
  · rename_i k
    simp only [Option.some.injEq] at h
    subst h
    obtain ⟨z', q1, q2, q3, q4⟩ := frzA_ok (st.tm.get k) hH
    have kp := q3.kp hH.sub
    exact ⟨z', q1, hn.trans q3, fun id => by rw [q3.dom]; exact hD id, q2, fun t => (hs t).kp kp, fun p hp => (hLs p hp).kp kp, hdf, hnt, h0⟩
  · rename_i k e id
    split at h
    · rename_i hq
      obtain ⟨u, h1, h2⟩ := ob_iff.1 h
      cases hk : hkey st.hp id <;> rw [hk] at h2 <;> simp only [bq_true, bq_false] at h2
      · simp only [Option.some.injEq] at h2
        subst h2
        obtain ⟨z1, p1, p2, p3, p4⟩ := hH.newV hk (hD id) (b := .rows e u []) ⟨rfl, (ty_ok h1).2.1⟩
        have kp := p3.kp hH.sub
        have hv := hs k
        rw [hq] at hv
        have hv := hv.v.opq.1
        refine ⟨z1, p1, hn.trans p3, fun id => by rw [p3.dom]; exact hD id, p2, fun t => ?_, fun p hp => (hLs p hp).kp kp, hdf, hnt, h0⟩
        by_cases ht : t = k
        · subst ht
          show ARep z1 ((st.tm.put t (.slf u.cells id)).get t) _
          rcases (Tr.get_put st.tm t (.slf u.cells id) t).2 with e | e <;> rw [e]
          · rw [hv]; exact .slfV _ _ _ p4
          · exact .junk _
        · show ARep z1 ((st.tm.put k (.slf u.cells id)).get t) _
          rw [(Tr.get_put st.tm k (.slf u.cells id) t).1 ht]
          exact (hs t).kp kp
      · cases h2
    · simp only [Option.some.injEq] at h
      subst h
      exact ⟨z, rfl, hn, hD, hH, hs, hLs, hdf, hnt, h0⟩
  · rename_i b o e id
    split at h
    · rename_i c hg
      split at h
      · rename_i hc
        obtain ⟨u, h1, h2⟩ := ob_iff.1 h
        cases hk : hkey st.hp id <;> rw [hk] at h2 <;> simp only [bq_true, bq_false] at h2
        · simp only [Option.some.injEq] at h2
          subst h2
          obtain ⟨z1, p1, p2, p3, p4⟩ := hH.newV hk (hD id) (b := .rows e u []) ⟨rfl, (ty_ok h1).2.1⟩
          have kp := p3.kp hH.sub
          have hbi : b ≠ id := fun h => by subst h; rw [hkey_of_hget hg] at hk; cases hk
          have hg1 : hget (hset st.hp id (some ⟨false, .rows e u []⟩)) b = some ⟨false, .vars c⟩ := by rw [hget_hset, if_neg hbi]; exact hg
          have hb0 := p2.ent b _ hg1
          have hsame : ∀ H1 H2 : Hp, H1 = hset (hset st.hp b (some ⟨false, .vars (c.set o (.slf u.cells id))⟩)) id (some ⟨false, .rows e u []⟩) → H2 = hset (hset st.hp id (some ⟨false, .rows e u []⟩)) b (some ⟨false, .vars (c.set o (.slf u.cells id))⟩) →
              (∀ i, hget H1 i = hget H2 i) ∧ ∀ i, hkey H1 i = hkey H2 i := by
            rintro _ _ rfl rfl
            refine ⟨fun i => ?_, fun i => ?_⟩
            · simp only [hget_hset]
              by_cases h1 : i = id
              · subst h1; simp [Ne.symm hbi]
              · simp [h1]
            · simp only [hkey_hset]
              cases decide (i = id) <;> cases decide (i = b) <;> rfl
          obtain ⟨s1, s2⟩ := hsame _ _ rfl rfl
          unfold ERep at hb0
          cases hρ : z1.ρ b with
          | no => rw [hρ] at hb0; exact hb0.elim
          | virt => rw [hρ] at hb0; exact hb0.elim
          | real g sz n =>
            rw [hρ] at hb0
            obtain ⟨_, _, _, cs, e', fr, a1, a2, a3, a4, a5, a6⟩ := hb0
            obtain ⟨r1, r2⟩ := p2.write (w' := z1.w) (b := .vars (c.set o (.slf u.cells id))) hg1 hρ rfl rfl rfl rfl (fun _ _ => rfl) (fun _ => by
              refine ⟨cs, e', fr, a1, a2, a3, by simpa using a4, fun i x v q1 q2 => ?_, a6⟩
              rw [List.getElem?_set] at q1
              split at q1
              · rename_i hoi
                subst hoi
                split at q1
                · simp only [Option.some.injEq] at q1
                  subst q1
                  have := a5 o _ v hc q2
                  obtain rfl := this.v.opq.1
                  exact .slfV _ _ _ p4
                · cases q1
              · exact a5 i x v q1 q2)
            exact ⟨z1, p1, hn.trans p3, fun id => by rw [p3.dom]; exact hD id, r1.same s1 s2, fun t => (hs t).kp kp, fun p hp => (hLs p hp).kp kp, hdf, hnt, h0⟩
        · cases h2
      · simp only [Option.some.injEq] at h
        subst h
        exact ⟨z, rfl, hn, hD, hH, hs, hLs, hdf, hnt, h0⟩
    · simp only [Option.some.injEq] at h
      subst h
      exact ⟨z, rfl, hn, hD, hH, hs, hLs, hdf, hnt, h0⟩

/-! Annotated code and the code -/
def AC.of : AC → Code → Prop
  | .skip, c => c = .skip
  | .ret, c => c = .ret
  | .exit i, c => c = .exit i
  | .seq a b, c => ∃ x y, c = .seq x y ∧ a.of x ∧ b.of y
  | .cond o a b, c => ∃ x y, c = .cond o x y ∧ a.of x ∧ b.of y
  | .block i a, c => ∃ x, c = .block i x ∧ a.of x
  | .loop _ _ _ a, c => ∃ x, c = .loop x ∧ a.of x
  | .region i ops d, c => ∃ arr, c = .region i arr d ∧ ops.map (·.1) = arr.toList
  | .join _ _ _ a, c => a.of c
  | .pre _ a, c => a.of c
  | .sel _ a b, c => a.of c ∧ b.of c
  | .bad _, _ => True
theorem annOps_fst (l : List (Nat × Ann)) : ∀ (k : Nat) (ops : List Oper), (annOps l k ops).map (·.1) = ops
  | _, [] => rfl
  | k, o :: r => by simp [annOps, annOps_fst l (k + 1) r]
theorem plain_of : (c : Code) → (plain c).of c
  | .ret => rfl
  | .exit i => rfl
  | .seq a b => ⟨a, b, rfl, plain_of a, plain_of b⟩
  | .cond o a b => ⟨a, b, rfl, plain_of a, plain_of b⟩
  | .block i a => ⟨a, rfl, plain_of a⟩
  | .region i ops d => ⟨ops, rfl, annOps_fst _ _ _⟩
  | .skip => rfl
  | .loop _ | .rangeFunc _ _ _ _ | .scope _ | .label _ | .goto _ | .refuse _ => trivial
theorem build_of : (ov : Ov) → (c : Code) → (build ov c).of c
  | .join sh rt outs x, c => build_of x c
  | .pre g x, c => build_of x c
  | .sel q x y, c => ⟨build_of x c, build_of y c⟩
  | .one x, c => by cases c <;> first | exact ⟨_, rfl, build_of x _⟩ | exact plain_of _
  | .two x y, c => by cases c <;> first | exact ⟨_, _, rfl, build_of x _, build_of y _⟩ | exact plain_of _
  | .loop sh rt outs x, c => by cases c <;> first | exact ⟨_, rfl, build_of x _⟩ | exact plain_of _
  | .reg l, c => by cases c <;> first | exact ⟨_, rfl, annOps_fst _ _ _⟩ | exact plain_of _
  | .leaf, c => plain_of c
theorem Inv.drew {st : St} {a : Act} {w : World} (hi : Inv z0 N L st a w) : Inv z0 N L st a { w with drawn := w.drawn + 1 } := by
  obtain ⟨z, rfl, hn, hD, hH, hs, hLs, hdf, hnt, h0⟩ := hi
  let z1 : Z := { z with w := { z.w with drawn := z.w.drawn + 1 } }
  have hn1 : Nx z z1 := ⟨rfl, rfl, rfl, Nat.le_refl _, fun _ _ _ => rfl, fun _ h => .inl h, fun _ h => .inl h, fun _ _ h _ => h, fun _ _ => rfl, rfl⟩
  have kp := hn1.kp hH.sub
  exact ⟨z1, rfl, hn.trans hn1, hD, ⟨fun id e he => (hH.ent id e he).kp kp fun _ _ _ _ => ⟨rfl, fun h => h⟩, hH.inj, hH.fresh, hH.sub⟩, fun t => (hs t).kp kp, fun p hp => (hLs p hp).kp kp, hdf, hnt, h0⟩
/-- What a base keeps. -/
def baseL (L : List (Nat × AV)) (base : Tr) (n : Nat) : List (Nat × AV) := L ++ (List.range n).map fun k => (k, base.get k)
end
end Go.Ab
