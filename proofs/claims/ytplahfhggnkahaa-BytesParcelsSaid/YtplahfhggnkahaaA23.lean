/- A state's part that has a shape. -/
import Derived.Test.YtplahfhggnkahaaA22
set_option linter.all false
namespace Go.Ab

mutual
theorem emb_ids : (k : Kd) → {r : List Ty} → (y : HL (k.lv r)) → AV.ids (emb k r y).1 = k.ids
  | .p _, r, y | .pt _, r, y | .own _ _ _ _, r, y | .ownx _ _ _, r, y | .sl _ _, r, y | .slf _ _, r, y | .mp _, r, y | .any, r, y | .nilp _, r, y => rfl
  | .fn f a c, r, y => congr (congrArg HAppend.hAppend (embL_ids a (r := c.lv r) y)) (embL_ids c (r := r) _)
  | .agg l, r, y => embL_ids l (r := r) y
  | .tup l, r, y => embL_ids l (r := r) y
theorem embL_ids : (k : KdL) → {r : List Ty} → (y : HL (k.lv r)) → AV.idsL (embL k r y).1 = k.ids
  | .nil, r, y => rfl
  | .cons k l, r, y => congr (congrArg HAppend.hAppend (emb_ids k (r := l.lv r) y)) (embL_ids l (r := r) _)
end
theorem embB_ids {k : BKd} {r : List Ty} {fz : Bool} (y : HL (k.lv r)) : Ent.ids ⟨fz, (embB k r y).1⟩ = k.ids := by
  cases k with
  | vars l => exact embL_ids l (r := r) y
  | rows e t => rfl
  | map kt vt => rfl
theorem embH_get : (hs : HK) → {r : List Ty} → (y : HL (hkLv hs r)) → ∀ id, hkey (embH hs r y).1 id = memN id (hkKeys hs) ∧ (memN id (hkKeys hs) = true → ∃ e, hget (embH hs r y).1 id = some e) ∧ ∀ e, hget (embH hs r y).1 id = some e → ∀ i ∈ e.ids, i ∈ hkIds hs
  | [], r, y, id => ⟨rfl, fun h => by simp [hkKeys, memN] at h, fun e h => by simp [embH, hget] at h⟩
  | (j, fz, k) :: hs, r, y, id => by
    obtain ⟨q1, q2, q3⟩ := embH_get hs (embB k (hkLv hs r) y).2 id
    simp only [embH, hkey, hget, hkKeys, memN]
    cases hb : Nat.beq j id
    · simp only [cond_false]
      exact ⟨q1, q2, fun e he i hi => by simp only [hkIds, List.mem_append]; exact .inr (q3 e he i hi)⟩
    · simp only [cond_true]
      refine ⟨trivial, fun _ => ⟨_, rfl⟩, fun e he i hi => ?_⟩
      injection he with he
      subst he
      have hi : i ∈ k.ids := by
        have := embB_ids (k := k) (r := hkLv hs r) (fz := fz) y
        rw [← this]; exact hi
      simp only [hkIds, List.mem_append]
      exact .inl hi

section
variable {z : Z} {H : Hp} {β : Type}
/-- The same, no other numbers standing for anything but what a default says. -/
def Z.cut (z : Z) (ks : List Nat) (ρ0 : Rho) (C' : Nat → Prop) : Z := { z with ρ := fun k => bif memN k ks then z.ρ k else ρ0 k, C := C', D := fun k => memN k ks = false ∧ ρ0 k ≠ .no }
theorem ERep.rho {z z' : Z} {id : Nat} {e : Ent} (h : ERep z id e) (hw : z'.w = z.w) (hM : z'.M = z.M) (hid : z'.ρ id = z.ρ id) (hf : ∀ i ∈ e.ids, z'.ρ i = z.ρ i) (hC : ∀ g sz n, z.ρ id = .real g sz n → e.fz = false → z.C g → z'.C g) : ERep z' id e := by
  unfold ERep at *
  rw [hid]
  cases hr : z.ρ id with
  | no => rw [hr] at h; exact h
  | virt => rw [hr] at h; exact h
  | real g sz n =>
    rw [hr] at h
    obtain ⟨h1, h2, h3, h4⟩ := h
    refine ⟨by rw [hw]; exact h1, fun hf => hC g sz n hr hf (h2 hf), fun hf => by rw [hM]; exact h3 hf, ?_⟩
    have := h4.ren (z' := z') (f := some) (fz := e.fz) hw hM fun i k hi hk => by
      injection hk with hk
      subst hk
      exact hf i hi
    have e1 : e.b.ren some = e.b := by
      cases e.b with
      | vars c => simp only [Blk.ren, renL_some]
      | rows _ _ _ => rfl
      | map _ _ _ => rfl
      | fmap k l =>
        simp only [Blk.ren]
        congr 1
        conv => rhs; rw [← List.map_id l]
        apply List.map_congr_left
        intro x _
        simp [ren_some]
    rwa [e1] at this
/-- What a shape takes of a state. -/
theorem Shp.rco_ok {s : Shp} {vs : List AV} {ps : List (Nat × Nat)} {K : s.D → Option β} {res : β} {vals : List Value} (ρ0 : Rho) (h : s.rco vs H ps K = some res) (hH : HRep z H) (hv : AReps z vs vals) :
    ∃ t z', K t = some res ∧ z'.w = z.w ∧ z'.M = z.M ∧ HRep z' (s.emb t).2 ∧ AReps z' (s.emb t).1 vals ∧ (∀ k, memN k (hkKeys s.hs) = true → ∃ id, (id, k) ∈ ps ∧ z'.ρ k = z.ρ id) ∧ (∀ k, memN k (hkKeys s.hs) = false → z'.ρ k = ρ0 k) ∧
      (∀ g, z'.C g → z.C g) ∧ (∀ g, z'.C g → ∃ id k e sz n, (id, k) ∈ ps ∧ hget H id = some e ∧ e.fz = false ∧ z.ρ id = .real g sz n) ∧ z'.D = (fun k => memN k (hkKeys s.hs) = false ∧ ρ0 k ≠ .no) ∧ (∀ k, hkey (s.emb t).2 k = memN k (hkKeys s.hs)) := by
  unfold Shp.rco at h
  obtain ⟨h1, h2⟩ := need_iff.1 h
  simp only [Bool.and_eq_true] at h1
  obtain ⟨r1, r2, r3⟩ := ren_ok hH h1.1.1 h1.1.2 h1.2
  have hv' : AReps (z.ren H ps) (AV.renL (noOf ps) vs) vals := hv.ren rfl rfl fun id k _ hk => r2 id k (noOf_mem hk)
  obtain ⟨k1, t, k2, k3, k4⟩ := Shp.co_ok h2 r1.ent hv'
  unfold Shp.ok at k1
  simp only [Bool.and_eq_true, allIn_iff, List.mem_append] at k1
  have hg := fun id => embH_get s.hs (embL s.ks (hkLv s.hs []) (untidy s.tys t)).2 id
  have hvi : AV.idsL (s.emb t).1 = s.ks.ids := embL_ids s.ks _
  let z' := (z.ren H ps).cut (hkKeys s.hs) ρ0 (z.ren H ps).C
  have hin : ∀ k, k ∈ hkKeys s.hs → z'.ρ k = (z.ren H ps).ρ k := fun k hk => by
    show (bif memN k (hkKeys s.hs) then (z.ren H ps).ρ k else ρ0 k) = _
    rw [memN_iff.2 hk]; rfl
  have hkm : ∀ k e, hget (s.emb t).2 k = some e → k ∈ hkKeys s.hs := fun k e he => by
    have := hkey_of_hget he
    rw [show hkey (s.emb t).2 k = memN k (hkKeys s.hs) from (hg k).1] at this
    exact memN_iff.1 this
  refine ⟨t, z', k2, rfl, rfl, ⟨fun k e he => ?_, fun i i' e e' g sz n g' sz' n' hii p1 p2 m1 m2 p3 p4 => ?_, fun k hk => ?_, r1.sub⟩, ?_, fun k hk => ?_, fun k hk => ?_, r3, fun g hC => hC, rfl, fun k => (hg k).1⟩
  · have hids := (hg k).2.2 e he
    exact (k4 k e he).1.rho rfl rfl (hin k (hkm k e he)) (fun i hi => hin i (k1.2 i (.inr (hids i hi)))) (fun g sz n _ _ h => h)
  · obtain ⟨_, e0, q1, q2⟩ := k4 i e p1
    obtain ⟨_, e0', q3, q4⟩ := k4 i' e' p2
    rw [hin i (hkm i e p1)] at p3
    rw [hin i' (hkm i' e' p2)] at p4
    exact r1.inj i i' e0 e0' g sz n g' sz' n' hii q1 q3 (by rw [q2]; exact m1) (by rw [q4]; exact m2) p3 p4
  · rw [show hkey (s.emb t).2 k = memN k (hkKeys s.hs) from (hg k).1] at hk
    have e1 : z'.ρ k = ρ0 k := by
      show (bif memN k (hkKeys s.hs) then (z.ren H ps).ρ k else ρ0 k) = _
      rw [hk]; rfl
    by_cases h0 : ρ0 k = .no
    · left; rw [e1, h0]
    · exact .inr ⟨hk, h0⟩
  · exact k3.rho rfl rfl fun i hi => hin i (k1.2 i (.inl (by rw [← hvi]; exact hi)))
  · obtain ⟨e, he⟩ := (hg k).2.1 hk
    obtain ⟨_, e0, q1, _⟩ := k4 k e he
    have := hkey_of_hget q1
    rw [(renH_get h1.2 k).2] at this
    obtain ⟨id, hid⟩ := Option.isSome_iff_exists.1 this
    exact ⟨id, idOf_mem hid, by rw [hin k (memN_iff.1 hk), r2 id k (idOf_mem hid)]⟩
  · show (bif memN k (hkKeys s.hs) then (z.ren H ps).ρ k else ρ0 k) = _
    rw [hk]; rfl
end
end Go.Ab
