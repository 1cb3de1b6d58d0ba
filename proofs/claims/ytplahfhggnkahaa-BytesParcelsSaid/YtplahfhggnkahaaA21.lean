/- Numbers: what a value names; other numbers for it. -/
import Derived.Test.YtplahfhggnkahaaA20
set_option linter.all false
namespace Go.Ab

theorem memN_iff {n : Nat} : ∀ {l : List Nat}, memN n l = true ↔ n ∈ l
  | [] => by simp [memN]
  | i :: l => by
    simp only [memN, List.mem_cons]
    by_cases h : i = n
    · subst h; simp [(beq_nat i i).2 rfl]
    · rw [beq_nat_ff h, cond_false, memN_iff]
      constructor
      · exact .inr
      · rintro (h' | h')
        · exact absurd h'.symm h
        · exact h'
theorem allIn_iff {l : List Nat} : ∀ {r : List Nat}, allIn r l = true ↔ ∀ i ∈ r, i ∈ l
  | [] => by simp [allIn]
  | i :: r => by simp only [allIn, Bool.and_eq_true, memN_iff, allIn_iff, List.mem_cons, forall_eq_or_imp]
theorem nodupN_iff : ∀ {l : List Nat}, nodupN l = true ↔ l.Nodup
  | [] => by simp [nodupN]
  | i :: l => by
    simp only [nodupN, Bool.and_eq_true, Bool.not_eq_true', List.nodup_cons, nodupN_iff]
    constructor
    · rintro ⟨h1, h2⟩; exact ⟨fun h => (by rw [memN_iff.2 h] at h1; cases h1), h2⟩
    · rintro ⟨h1, h2⟩
      refine ⟨?_, h2⟩
      cases hm : memN i l
      · rfl
      · exact absurd (memN_iff.1 hm) h1
theorem idsL_mem {l : List AV} {a : AV} {id : Nat} (h : a ∈ l) (hi : id ∈ AV.ids a) : id ∈ AV.idsL l := by
  induction l with
  | nil => cases h
  | cons b l ih =>
    simp only [AV.idsL, List.mem_append]
    rcases List.mem_cons.1 h with rfl | h
    · exact .inl hi
    · exact .inr (ih h)
theorem renL_get (f : Nat → Option Nat) (l : List AV) (i : Nat) : (AV.renL f l)[i]? = (l[i]?).map (AV.ren f) := by
  induction l generalizing i with
  | nil => simp [AV.renL]
  | cons a l ih =>
    match i with
    | 0 => simp [AV.renL]
    | i + 1 => simpa [AV.renL] using ih i
theorem renL_len (f : Nat → Option Nat) (l : List AV) : (AV.renL f l).length = l.length := by
  induction l with
  | nil => rfl
  | cons a l ih => simp [AV.renL, ih]

section
variable {z z' : Z}
/-- Under other numbers. -/
theorem ARep.ren {a : AV} {v : Value} {f : Nat → Option Nat} (h : ARep z a v) (hw : z'.w = z.w) (hM : z'.M = z.M) (hf : ∀ id k, id ∈ AV.ids a → f id = some k → z'.ρ k = z.ρ id) : ARep z' (AV.ren f a) v := by
  obtain ⟨w', M', C', ρ', D'⟩ := z'
  simp only at hw hM hf
  subst hw
  subst hM
  induction h with
  | p t x v h => exact .p t x v h
  | pt t l i j b off h1 h2 h3 => exact .pt t l i j b off h1 h2 h3
  | own es id i j g sz n h =>
    simp only [AV.ren]
    cases hk : f id with
    | none => exact .junk _
    | some k => exact .own es k i j g sz n (by show ρ' k = _; rw [hf id k (by simp [AV.ids]) hk, h])
  | slV es id off A h =>
    simp only [AV.ren]
    cases hk : f id with
    | none => exact .junk _
    | some k => exact .slV es k off A (by show ρ' k = _; rw [hf id k (by simp [AV.ids]) hk, h])
  | slE es id off g sz m o h =>
    simp only [AV.ren]
    cases hk : f id with
    | none => exact .junk _
    | some k => exact .slE es k off g sz m o (by show ρ' k = _; rw [hf id k (by simp [AV.ids]) hk, h])
  | sl es id off n g sz m c h h1 h2 h3 =>
    simp only [AV.ren]
    cases hk : f id with
    | none => exact .junk _
    | some k => exact .sl es k off n g sz m c (by show ρ' k = _; rw [hf id k (by simp [AV.ids]) hk, h]) h1 h2 h3
  | slfV es id A h =>
    simp only [AV.ren]
    cases hk : f id with
    | none => exact .junk _
    | some k => exact .slfV es k A (by show ρ' k = _; rw [hf id k (by simp [AV.ids]) hk, h])
  | slf es id g sz n c h h1 h2 h3 =>
    simp only [AV.ren]
    cases hk : f id with
    | none => exact .junk _
    | some k => exact .slf es k g sz n c (by show ρ' k = _; rw [hf id k (by simp [AV.ids]) hk, h]) h1 h2 h3
  | mp id g sz n h =>
    simp only [AV.ren]
    cases hk : f id with
    | none => exact .junk _
    | some k => exact .mp k g sz n (by show ρ' k = _; rw [hf id k (by simp [AV.ids]) hk, h])
  | fn g a c va vc ha hc h1 h2 ih1 ih2 =>
    simp only [AV.ren]
    refine .fn g _ _ va vc (by rw [renL_len]; exact ha) (by rw [renL_len]; exact hc) (fun i x v p1 p2 => ?_) (fun i x v p1 p2 => ?_)
    · rw [renL_get] at p1
      obtain ⟨y, p3, rfl⟩ := Option.map_eq_some_iff.1 p1
      exact ih1 i y v p3 p2 fun id k hi hk => hf id k (by simp only [AV.ids, List.mem_append]; exact .inl (idsL_mem (List.mem_of_getElem? p3) hi)) hk
    · rw [renL_get] at p1
      obtain ⟨y, p3, rfl⟩ := Option.map_eq_some_iff.1 p1
      exact ih2 i y v p3 p2 fun id k hi hk => hf id k (by simp only [AV.ids, List.mem_append]; exact .inr (idsL_mem (List.mem_of_getElem? p3) hi)) hk
  | agg l cs hs h1 h ih =>
    simp only [AV.ren]
    refine .agg _ cs (by rw [renL_len]; exact hs) h1 fun i x v p1 p2 => ?_
    rw [renL_get] at p1
    obtain ⟨y, p3, rfl⟩ := Option.map_eq_some_iff.1 p1
    exact ih i y v p3 p2 fun id k hi hk => hf id k (by simp only [AV.ids]; exact idsL_mem (List.mem_of_getElem? p3) hi) hk
  | tup l vs hs h ih =>
    simp only [AV.ren]
    refine .tup _ vs (by rw [renL_len]; exact hs) fun i x v p1 p2 => ?_
    rw [renL_get] at p1
    obtain ⟨y, p3, rfl⟩ := Option.map_eq_some_iff.1 p1
    exact ih i y v p3 p2 fun id k hi hk => hf id k (by simp only [AV.ids]; exact idsL_mem (List.mem_of_getElem? p3) hi) hk
  | junk v => exact .junk v
theorem AReps.ren {l : List AV} {vs : List Value} {f : Nat → Option Nat} (h : AReps z l vs) (hw : z'.w = z.w) (hM : z'.M = z.M) (hf : ∀ id k, id ∈ AV.idsL l → f id = some k → z'.ρ k = z.ρ id) : AReps z' (AV.renL f l) vs := by
  refine ⟨by rw [renL_len]; exact h.1, fun i a v p1 p2 => ?_⟩
  rw [renL_get] at p1
  obtain ⟨y, p3, rfl⟩ := Option.map_eq_some_iff.1 p1
  exact (h.2 i y v p3 p2).ren hw hM fun id k hi hk => hf id k (idsL_mem (List.mem_of_getElem? p3) hi) hk
mutual
theorem ren_some : (a : AV) → AV.ren some a = a
  | .p _ _ | .pt _ _ _ _ | .own _ _ _ _ | .sl _ _ _ _ | .slf _ _ | .mp _ | .junk => rfl
  | .fn g a c => by simp only [AV.ren, renL_some a, renL_some c]
  | .agg l => by simp only [AV.ren, renL_some l]
  | .tup l => by simp only [AV.ren, renL_some l]
theorem renL_some : (l : List AV) → AV.renL some l = l
  | [] => rfl
  | a :: l => by simp only [AV.renL, ren_some a, renL_some l]
end
/-- Where the numbers that it names stand for the same. -/
theorem ARep.rho {a : AV} {v : Value} (h : ARep z a v) (hw : z'.w = z.w) (hM : z'.M = z.M) (hf : ∀ id ∈ AV.ids a, z'.ρ id = z.ρ id) : ARep z' a v := by
  have := h.ren (f := some) hw hM fun id k hi hk => by
    injection hk with hk
    subst hk
    exact hf id hi
  rwa [ren_some] at this
theorem AReps.rho {l : List AV} {vs : List Value} (h : AReps z l vs) (hw : z'.w = z.w) (hM : z'.M = z.M) (hf : ∀ id ∈ AV.idsL l, z'.ρ id = z.ρ id) : AReps z' l vs := by
  have := h.ren (f := some) hw hM fun id k hi hk => by
    injection hk with hk
    subst hk
    exact hf id hi
  rwa [renL_some] at this
/-- A block under other numbers. -/
theorem BRep.ren {g sz n : Nat} {b : Blk} {f : Nat → Option Nat} {fz : Bool} (h : BRep z g sz n b) (hw : z'.w = z.w) (hM : z'.M = z.M) (hf : ∀ id k, id ∈ Ent.ids ⟨fz, b⟩ → f id = some k → z'.ρ k = z.ρ id) : BRep z' g sz n (b.ren f) := by
  cases b with
  | vars c =>
    obtain ⟨cs, e, fr, a1, a2, a3, a4, a5, a6⟩ := h
    refine ⟨cs, e, fr, by rw [hw]; exact a1, a2, a3, by rw [renL_len]; exact a4, fun i a v p1 p2 => ?_, a6⟩
    rw [renL_get] at p1
    obtain ⟨y, p3, rfl⟩ := Option.map_eq_some_iff.1 p1
    exact (a5 i y v p3 p2).ren hw hM fun id k hi hk => hf id k (by simp only [Ent.ids]; exact idsL_mem (List.mem_of_getElem? p3) hi) hk
  | rows e t l =>
    obtain ⟨cs, fr, a1, a2, a3, a4, a5, a6, a7⟩ := h
    refine ⟨cs, fr, by rw [hw]; exact a1, a2, a3, a4, a5, a6, fun i x hx => ?_⟩
    obtain ⟨u, b1, b2⟩ := a7 i x hx
    exact ⟨u, by rw [hw, hM]; exact b1, b2⟩
  | map kt vt m =>
    obtain ⟨es, a1, a2, a3, a4⟩ := h
    exact ⟨es, by rw [hw]; exact a1, a2, fun i x e q1 q2 => by rw [hw, hM]; exact a3 i x e q1 q2, a4⟩
  | fmap kt l =>
    obtain ⟨es, clock, a1, a2, a3⟩ := h
    refine ⟨es, clock, by rw [hw]; exact a1, by simp [a2], fun i x e q1 q2 => ?_⟩
    rw [List.getElem?_map] at q1
    obtain ⟨y, q3, rfl⟩ := Option.map_eq_some_iff.1 q1
    obtain ⟨b1, b2⟩ := a3 i y e q3 q2
    refine ⟨by rw [hw, hM]; exact b1, b2.ren hw hM fun id k hi hk => hf id k ?_ hk⟩
    simp only [Ent.ids, List.mem_flatMap]
    exact ⟨y, List.mem_of_getElem? q3, hi⟩
end
end Go.Ab
