/- A call of a function that is told. -/
import Derived.Test.YtplahfhggnkahaaA27
set_option linter.all false
namespace Go.Ab

section
variable {P : Program} {z : Z} {H : Hp} {β : Type}
theorem freshAll_mem {H : Hp} : ∀ {l : List Nat}, freshAll H l = true → ∀ id ∈ l, hkey H id = false
  | [], _, id, h => by cases h
  | i :: l, h, id, hm => by
    simp only [freshAll, Bool.and_eq_true, Bool.not_eq_true'] at h
    rcases List.mem_cons.1 hm with rfl | hm
    · exact h.1
    · exact freshAll_mem h.2 id hm
/-- Where a call's blocks go back to. -/
theorem back_ok {z1 zc zd : Z} {H1 Hd : Hp} {sh ids : List Nat} (hH : HRep z1 H1) (hfr : ∀ id ∈ ids, hkey H1 id = false) (hd : ∀ id ∈ ids, ¬ z1.D id) (hnd : (sh ++ ids).Nodup)
    (hw : zc.w = z1.w) (hM : zc.M = z1.M) (hC : ∀ g, zc.C g → ∃ id e sz n, id ∈ sh ∧ hget H1 id = some e ∧ e.fz = false ∧ z1.ρ id = .real g sz n)
    (hρ : ∀ (n : Nat) id, sh[n]? = some id → zc.ρ n = z1.ρ id ∧ zc.ρ n ≠ .no) (hDd : ∀ k, zd.D k → k < sh.length) (hn : Nx zc { zd with D := zc.D }) (hHd : HRep zd Hd) (hlive : ∀ k, hkey Hd k = true → ∃ e, hget Hd k = some e)
    (hk : allIn (hkeys Hd) (fstN (zipN (rangeN 0 (sh ++ ids).length) (sh ++ ids))) = true) :
    ∃ z3, z3.w = zd.w ∧ HRep z3 (setAll (killAll H1 sh) (renH Hd (noOf (zipN (rangeN 0 (sh ++ ids).length) (sh ++ ids))) (zipN (rangeN 0 (sh ++ ids).length) (sh ++ ids)))) ∧ Nx z1 z3 ∧
      ∀ a v, ARep zd a v → ARep z3 (AV.ren (noOf (zipN (rangeN 0 (sh ++ ids).length) (sh ++ ids))) a) v := by
  generalize hall : sh ++ ids = all at *
  generalize hback : zipN (rangeN 0 all.length) all = back at *
  have hat : ∀ k id, (k, id) ∈ back ↔ all[k]? = some id := fun k id => by
    rw [← hback]
    constructor
    · intro h
      obtain ⟨n, h1, h2⟩ := zipN_at h
      obtain ⟨rfl, _⟩ := rangeN_get h1
      rwa [Nat.zero_add]
    · intro h
      have hlt : k < all.length := (List.getElem?_eq_some_iff.1 h).1
      exact zipN_mk (n := k) (by rw [rangeN_at hlt, Nat.zero_add]) h
  have hsnd : sndN back = all := by rw [← hback]; exact (zipN_fst (by rw [rangeN_len]; exact Nat.le_refl _)).1
  have hsn : (sndN back).Nodup := by rw [hsnd]; exact hnd
  have hid : ∀ k id, (k, id) ∈ back → idOf back id = some k := fun k id h => idOf_of hsn h
  have hinj : ∀ k k' id, (k, id) ∈ back → (k', id) ∈ back → k = k' := fun k k' id h h' => by
    have := (hid k id h).symm.trans (hid k' id h')
    exact Option.some.inj this
  let F : Nat → Bool := fun id => memN id all
  let z2 : Z := { w := zd.w, M := zd.M, ρ := fun id => match idOf back id with | some k => zd.ρ k | none => z1.ρ id,
                  C := fun g => ∃ k id e sz n, (k, id) ∈ back ∧ hget Hd k = some e ∧ e.fz = false ∧ zd.ρ k = .real g sz n, D := (z1.foc H1 F).D }
  have hρ2 : ∀ k id, (k, id) ∈ back → z2.ρ id = zd.ρ k := fun k id h => by
    show (match idOf back id with | some k => zd.ρ k | none => z1.ρ id) = _
    rw [hid k id h]
  have hρ2n : ∀ id, id ∉ all → idOf back id = none := fun id h => by
    cases hk : idOf back id with
    | none => rfl
    | some k => exact absurd (List.mem_of_getElem? ((hat k id).1 (idOf_mem hk))) h
  have hCd : ∀ g, zd.C g → (z1.foc H1 F).C g ∨ z1.w.heap.size ≤ g := fun g hg => by
    rcases hn.subC g hg with h | h
    · obtain ⟨id, e, sz, n, a1, a2, a3, a4⟩ := hC g h
      exact .inl ⟨id, e, sz, n, memN_iff.2 (by rw [← hall]; exact List.mem_append_left _ a1), a2, a3, a4⟩
    · rw [hw] at h; exact .inr h
  have hC1 : ∀ g, zc.C g → (z1.foc H1 F).C g := fun g h => by
    obtain ⟨id, e, sz, n, a1, a2, a3, a4⟩ := hC g h
    exact ⟨id, e, sz, n, memN_iff.2 (by rw [← hall]; exact List.mem_append_left _ a1), a2, a3, a4⟩
  have hC2 : ∀ g, z2.C g → zd.C g := fun g ⟨k, id, e, sz, n, a1, a2, a3, a4⟩ => (hHd.real a2 a4).2.1 a3
  have hN : Nx (z1.foc H1 F) z2 := by
    refine ⟨hn.os.trans (by rw [hw]; rfl), hn.tape.trans (by rw [hw]; rfl), hn.output.trans (by rw [hw]; rfl), by have := hn.size; rw [hw] at this; exact this, fun b hb hc => ?_, fun g hg => ?_, fun g hg => hCd g (hC2 g hg), fun g hg hm hc => ?_, fun id hne => ?_, rfl⟩
    · have := hn.block b (by rw [hw]; exact hb) fun h => hc (hC1 b h)
      rw [hw] at this
      exact this
    · have := hn.subM g hg
      rw [hw, hM] at this
      exact this
    · exact hn.keepM g (by rw [hw]; exact hg) (by rw [hM]; exact hm) fun h => hc (hC1 g h)
    · have hne : z1.ρ id ≠ .no := hne
      show z2.ρ id = z1.ρ id
      by_cases hm : id ∈ all
      · obtain ⟨k, hk⟩ := List.getElem?_of_mem hm
        rw [hρ2 k id ((hat k id).2 hk)]
        rw [← hall] at hk
        by_cases hlt : k < sh.length
        · rw [List.getElem?_append_left hlt] at hk
          obtain ⟨b1, b2⟩ := hρ k id hk
          rw [hn.ext k b2, b1]
        · rw [List.getElem?_append_right (by omega)] at hk
          have hmi := List.mem_of_getElem? hk
          exact absurd ((hH.fresh id (hfr id hmi)).resolve_right (hd id hmi)) hne
      · show (match idOf back id with | some k => zd.ρ k | none => z1.ρ id) = _
        rw [hρ2n id hm]
  have hent : ∀ id e', hget (renH Hd (noOf back) back) id = some e' → ∃ k e, (k, id) ∈ back ∧ hget Hd k = some e ∧ e' = e.ren (noOf back) := fun id e' h => by
    rw [(renH_get' hsn id).1] at h
    obtain ⟨k, q1, q2⟩ := Option.bind_eq_some_iff.1 h
    obtain ⟨e, q3, q4⟩ := Option.map_eq_some_iff.1 q2
    exact ⟨k, e, idOf_mem q1, q3, q4.symm⟩
  have hgs : ∀ id e', hget (setAll (killAll [] sh) (renH Hd (noOf back) back)) id = some e' → hget (renH Hd (noOf back) back) id = some e' := fun id e' h => by
    rw [hget_setAll, hget_killAll] at h
    split at h
    · exact h
    · split at h <;> cases h
  have hR : HRep z2 (setAll (killAll [] sh) (renH Hd (noOf back) back)) := by
    refine ⟨fun id e' h => ?_, fun i i' e e' g sz n g' sz' n' hii p1 p2 m1 m2 p3 p4 => ?_, fun id h => ?_, fun g h => hHd.sub g (hC2 g h)⟩
    · replace h := hgs _ _ h
      obtain ⟨k, e, q1, q2, rfl⟩ := hent id e' h
      have h0 := hHd.ent _ _ q2
      unfold ERep at h0 ⊢
      rw [hρ2 k id q1]
      cases hr : zd.ρ k with
      | no => rw [hr] at h0; exact h0.elim
      | virt =>
        rw [hr] at h0
        obtain ⟨fz, b⟩ := e
        cases b <;> first | exact h0.elim | exact h0
      | real g sz n =>
        rw [hr] at h0
        obtain ⟨a1, a2, a3, a4⟩ := h0
        exact ⟨a1, fun hf => ⟨k, id, e, sz, n, q1, q2, hf, hr⟩, a3, a4.ren (fz := e.fz) rfl rfl fun id' k' _ hk' => hρ2 id' k' (noOf_mem hk')⟩
    · replace p1 := hgs _ _ p1
      replace p2 := hgs _ _ p2
      obtain ⟨k, e1, q1, q2, rfl⟩ := hent i e p1
      obtain ⟨k', e2, q3, q4, rfl⟩ := hent i' e' p2
      rw [hρ2 k i q1] at p3
      rw [hρ2 k' i' q3] at p4
      have hkk : k ≠ k' := fun h => by
        subst h
        have a1 := (hat k i).1 q1
        have a2 := (hat k i').1 q3
        rw [a1] at a2
        exact hii (Option.some.inj a2)
      exact hHd.inj k k' e1 e2 g sz n g' sz' n' hkk q2 q4 m1 m2 p3 p4
    · rw [hkey_setAll, hkey_killAll] at h
      simp only [Bool.or_eq_false_iff] at h
      obtain ⟨h, hsh, _⟩ := h
      by_cases hm : id ∈ all
      · obtain ⟨k, hk⟩ := List.getElem?_of_mem hm
        have hb := (hat k id).2 hk
        left
        rw [hρ2 k id hb]
        have hkd : hkey Hd k = false := by
          cases hkd : hkey Hd k
          · rfl
          · obtain ⟨e, he⟩ := hlive k hkd
            rw [((renH_get' (H := Hd) (f := noOf back) hsn id).2).2 ⟨k, e, hid k id hb, he⟩] at h
            cases h
        refine (hHd.fresh k hkd).resolve_right fun hdk => ?_
        have hlt := hDd k hdk
        rw [← hall, List.getElem?_append_left hlt] at hk
        rw [memN_iff.2 (List.mem_of_getElem? hk)] at hsh
        cases hsh
      · have e1 : z2.ρ id = z1.ρ id := by
          show (match idOf back id with | some k => zd.ρ k | none => z1.ρ id) = _
          rw [hρ2n id hm]
        rw [e1]
        by_cases hk1 : hkey H1 id = true
        · refine .inr (.inr ⟨hk1, ?_⟩)
          cases hF : F id
          · rfl
          · exact absurd (memN_iff.1 hF) hm
        · exact (hH.fresh id (by simpa using hk1)).imp (fun h => h) .inl
  obtain ⟨z3, r1, r2, r3, r4, r5⟩ := merge_ok (H3 := setAll (killAll H1 sh) (renH Hd (noOf back) back)) hH hN hR (fun id h => by
      rw [hkey_setAll, hkey_killAll] at h
      simp only [Bool.or_eq_true] at h
      rcases h with h | h | h
      · obtain ⟨k, e, h1, _⟩ := ((renH_get' hsn id).2).1 h
        exact memN_iff.2 (List.mem_of_getElem? ((hat k id).1 (idOf_mem h1)))
      · exact memN_iff.2 (by rw [← hall]; exact List.mem_append_left _ (memN_iff.1 h))
      · cases h) (fun id => by
      rw [hget_setAll, hget_killAll, hkey_setAll, hget_setAll, hkey_killAll, hget_killAll]
      by_cases h2 : hkey (renH Hd (noOf back) back) id = true
      · simp [h2]
      · simp only [h2, Bool.false_eq_true, if_false, Bool.false_or]
        by_cases hs : memN id sh = true
        · simp [hs]
        · simp only [hs, Bool.false_eq_true, if_false, Bool.false_or, hkey]
          by_cases hF : F id = true
          · rw [if_pos hF]
            have := memN_iff.1 hF
            rw [← hall] at this
            rcases List.mem_append.1 this with h | h
            · exact absurd (memN_iff.2 h) hs
            · exact hget_none_of_hkey (hfr id h)
          · rw [if_neg hF]) (fun id h => by
      rw [hkey_setAll, hkey_killAll] at h ⊢
      rcases h with h | h
      · simp only [Bool.or_eq_true] at h
        rcases h with h | h | h
        · simp [h]
        · simp [h]
        · cases h
      · simp [h])
  refine ⟨z3, r1, r4, r5, fun a v ha => ?_⟩
  exact (ha.ren (z' := z2) rfl rfl fun id k _ hk => hρ2 id k (noOf_mem hk)).less r1 r3 fun g h => by rw [← r2]; exact h

theorem evCall_ok {e : FnT} {an : Ann} {args : List AV} {vals : List Value} {K : AV → Hp → Option β} {res : β} (hT : Told P e) (h : evCall P e args an H K = some res) (hH : HRep z H) (hd : ∀ id ∈ an.ids, ¬ z.D id)
    (hmd : ltAll 3 an.md = true ∨ ∀ id, ¬ z.D id) (ha : AReps z args vals) :
    Calls P e.f vals.toArray z.w fun en w' => ∃ v x H' z', en = .returned v ∧ z'.w = w' ∧ HRep z' H' ∧ Nx z z' ∧ ARep z' x v ∧ K x H' = some res := by
  unfold evCall at h
  obtain ⟨⟨as', H1⟩, h1, h2⟩ := ob_iff.1 h
  obtain ⟨h3, h4⟩ := need_iff.1 h2
  simp only [Bool.and_eq_true, eqN_iff] at h3
  obtain ⟨⟨⟨f1, f2⟩, f3⟩, f4⟩ := h3
  obtain ⟨z1, Mf, q1, q2, q3, q4, q5, q6⟩ := argsM_ok hH hmd h1 ha
  simp only at h4
  by_cases hm : memN 2 an.md = true
  · rw [hm] at f4
    simp only [Bool.not_true, Bool.false_or, Bool.and_eq_true, beq_nat, List.all_eq_true] at f4
    obtain ⟨⟨g1, g2⟩, g3⟩ := f4
    have e1 : an.sh = [] := List.eq_nil_of_length_eq_zero g2
    have e2 : an.ids = [] := List.eq_nil_of_length_eq_zero g3
    rw [e1, e2] at h4
    let z1e : Z := { z1 with M := Mf, C := fun _ => False, D := fun _ => True }
    have hHe : HRep z1e [] := ⟨fun id e h => by simp [hget] at h, fun i i' e e' g sz n g' sz' n' _ h => by simp [hget] at h, fun id _ => .inr trivial, fun g h => h.elim⟩
    obtain ⟨t, zc, k1, k2, k3, k4, k5, k6, k7, k8, k9, k10, k11⟩ := Shp.rco_ok (H := []) (ps := []) (z := z1e) (fun _ => .no) h4 hHe (q5.less rfl rfl fun g h => h)
    obtain ⟨r, r1, r2⟩ := Option.bind_eq_some_iff.1 k1
    have hw : zc.w = z.w := k2.trans q1
    have hcall := hT.spec t r r1 zc vals k4 k5 fun id => by rw [k10]; exact fun h => h.2 rfl
    rw [hw] at hcall
    refine hcall.mono ?_
    rintro en w' ⟨v, zd, rfl, rfl, hn, hDd, ho⟩
    obtain ⟨o, y, m1, m2, m3, m4⟩ := OutS.on_both r2 ho
    obtain ⟨p1, p2⟩ := need_iff.1 m2
    have hCf : ∀ g, ¬ zc.C g := fun g h => k8 g h
    let z3 : Z := { z1 with w := zd.w }
    have hN : Nx z1 z3 := by
      refine ⟨hn.os.trans (by rw [k2]), hn.tape.trans (by rw [k2]), hn.output.trans (by rw [k2]), by have := hn.size; rw [k2] at this; exact this, fun b hb _ => ?_, fun g h => .inl h, fun g h => .inl h, fun _ _ h _ => h, fun _ _ => rfl, rfl⟩
      have := hn.block b (by rw [k2]; exact hb) (hCf b)
      rw [k2] at this
      exact this
    have hH3 : HRep z3 H1 := by
      refine ⟨fun id e he => (q2.ent id e he).kp (hN.kp q2.sub) fun g sz n hr => ⟨?_, fun h => h⟩, fun i i' e e' g sz n g' sz' n' hii h1 h2 f1 f2 h3 h4 => q2.inj i i' e e' g sz n g' sz' n' hii h1 h2 f1 f2 h3 h4, fun id hid => q2.fresh id hid, fun g hg => q2.sub g hg⟩
      have := hn.block g (by rw [k2]; exact (q2.real he hr).1) (hCf g)
      rw [k2] at this
      exact this
    obtain ⟨vs, b1, b2⟩ := tupA_vals m4
    have hsc := g1 o m1
    have hren : AReps z3 (AV.renL (noOf []) (o.emb y).1) vs := embL_scal (z := zd) (fun id => rfl) o.ks hsc b1
    refine ⟨v, _, _, z3, rfl, rfl, hH3, q3.trans hN, ?_, p2⟩
    show ARep z3 (AV.ren (noOf []) (tupA (o.emb y).1)) v
    rw [tupA_ren]
    exact b2 hren (renL_len _ _)
  · have hM := q6 (by simpa using hm)
    subst hM
    obtain ⟨t, zc, k1, k2, k3, k4, k5, k6, k7, k8, k9, k10, k11⟩ := Shp.rco_ok (fun _ => .no) h4 q2 q5
    obtain ⟨r, r1, r2⟩ := Option.bind_eq_some_iff.1 k1
    have hw : zc.w = z.w := k2.trans q1
    have hDc : ∀ id, ¬ zc.D id := fun id => by rw [k10]; exact fun h => h.2 rfl
    have hcall := hT.spec t r r1 zc vals k4 k5 hDc
    rw [hw] at hcall
    refine hcall.mono ?_
    rintro en w' ⟨v, zd, rfl, rfl, hn, hDd, ho⟩
    obtain ⟨o, y, m1, m2, m3, m4⟩ := OutS.on_both r2 ho
    obtain ⟨p1, p2⟩ := need_iff.1 m2
    simp only [Bool.and_eq_true] at p1
    have hshn : ∀ (n : Nat) id, an.sh[n]? = some id → zc.ρ n = z1.ρ id ∧ zc.ρ n ≠ .no := fun n id hn' => by
      have hlt : n < an.sh.length := (List.getElem?_eq_some_iff.1 hn').1
      have hmem : memN n (hkKeys e.i.hs) = true := memN_iff.2 (by rw [f3]; exact rangeN_mem.2 ⟨Nat.zero_le _, by omega⟩)
      obtain ⟨id', a1, a2⟩ := k6 n hmem
      obtain ⟨m, b1, b2⟩ := zipN_at a1
      obtain ⟨b3, _⟩ := rangeN_get b2
      have : m = n := by omega
      subst this
      rw [hn'] at b1
      simp only [Option.some.injEq] at b1
      subst b1
      refine ⟨a2, fun hno => ?_⟩
      obtain ⟨ee, he⟩ := (embH_get e.i.hs (embL e.i.ks (hkLv e.i.hs []) (untidy e.i.tys t)).2 m).2.1 hmem
      have := k4.ent m ee he
      unfold ERep at this
      rw [hno] at this
      exact this
    obtain ⟨z3, c1, c2, c3, c4⟩ := back_ok (sh := an.sh) (ids := an.ids) q2 (freshAll_mem f1) (fun id hid => by rw [q3.dom]; exact hd id hid) (nodupN_iff.1 p1.1.1) k2 k3
      (fun g hg => by
        obtain ⟨id, k, e, sz, n, a1, a2, a3, a4⟩ := k9 g hg
        obtain ⟨m, b1, _⟩ := zipN_at a1
        exact ⟨id, e, sz, n, List.mem_of_getElem? b1, a2, a3, a4⟩) hshn (fun k hk => by
        have := hDd k hk
        rw [f3] at this
        have := (rangeN_mem.1 this).2
        omega) hn m3
      (fun k hk => by
        have hg := embH_get o.hs (embL o.ks (hkLv o.hs []) (untidy o.tys y)).2 k
        exact hg.2.1 (by rw [← hg.1]; exact hk)) p1.2
    exact ⟨v, _, _, z3, rfl, c1, c2, q3.trans c3, c4 _ _ m4, p2⟩
end
end Go.Ab
