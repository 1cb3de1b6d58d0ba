/- Running on a part of the heap, and laying what came of it back. -/
import Derived.Test.YtplahfhggnkahaaA24
set_option linter.all false
namespace Go.Ab

theorem hget_none_of_hkey {H : Hp} {id : Nat} (h : hkey H id = false) : hget H id = none := by
  cases hg : hget H id with
  | none => rfl
  | some e => rw [hkey_of_hget hg] at h; cases h

section
variable {z z' : Z} {H : Hp}
/-- What a value names stands for something. -/
theorem ARep.live {a : AV} {v : Value} (h : ARep z a v) : ∀ id ∈ AV.ids a, z.ρ id ≠ .no := by
  have hL : ∀ {l : List AV}, (∀ (i : Nat) (x : AV), l[i]? = some x → ∀ id ∈ AV.ids x, z.ρ id ≠ .no) → ∀ id ∈ AV.idsL l, z.ρ id ≠ .no := by
    intro l
    induction l with
    | nil => intro _ id h; cases h
    | cons a l ih =>
      intro h id hi
      simp only [AV.idsL, List.mem_append] at hi
      rcases hi with hi | hi
      · exact h 0 a rfl id hi
      · exact ih (fun i x hx => h (i + 1) x hx) id hi
  induction h with
  | p t x v h => intro id h; cases h
  | pt t l i j b off h1 h2 h3 => intro id h; cases h
  | own es id i j g sz n h => intro k hk; simp only [AV.ids, List.mem_singleton] at hk; subst hk; rw [h]; intro h; cases h
  | slV es id off A h => intro k hk; simp only [AV.ids, List.mem_singleton] at hk; subst hk; rw [h]; intro h; cases h
  | slE es id off g sz m o h => intro k hk; simp only [AV.ids, List.mem_singleton] at hk; subst hk; rw [h]; intro h; cases h
  | sl es id off n g sz m c h hn hs hm => intro k hk; simp only [AV.ids, List.mem_singleton] at hk; subst hk; rw [h]; intro h; cases h
  | slfV es id A h => intro k hk; simp only [AV.ids, List.mem_singleton] at hk; subst hk; rw [h]; intro h; cases h
  | slf es id g sz n c h hn hs hm => intro k hk; simp only [AV.ids, List.mem_singleton] at hk; subst hk; rw [h]; intro h; cases h
  | mp id g sz n h => intro k hk; simp only [AV.ids, List.mem_singleton] at hk; subst hk; rw [h]; intro h; cases h
  | fn f a c va vc ha hc h1 h2 ih1 ih2 =>
    intro k hk
    simp only [AV.ids, List.mem_append] at hk
    rcases hk with hk | hk
    · refine hL (fun i x hx => ?_) k hk
      have hlt : i < va.size := by rw [ha]; exact (List.getElem?_eq_some_iff.1 hx).1
      exact ih1 i x va[i] hx (Array.getElem?_eq_getElem hlt)
    · refine hL (fun i x hx => ?_) k hk
      have hlt : i < vc.size := by rw [hc]; exact (List.getElem?_eq_some_iff.1 hx).1
      exact ih2 i x vc[i] hx (Array.getElem?_eq_getElem hlt)
  | agg l cs hs h1 h ih =>
    intro k hk
    refine hL (fun i x hx => ?_) k hk
    have hlt : i < cs.size := by rw [hs]; exact (List.getElem?_eq_some_iff.1 hx).1
    exact ih i x cs[i] hx (Array.getElem?_eq_getElem hlt)
  | tup l vs hs h ih =>
    intro k hk
    refine hL (fun i x hx => ?_) k hk
    have hlt : i < vs.size := by rw [hs]; exact (List.getElem?_eq_some_iff.1 hx).1
    exact ih i x vs[i] hx (Array.getElem?_eq_getElem hlt)
  | junk v => intro k hk; cases hk

/-- A block under other numbers, where what stands for something goes on. -/
theorem BRep.ren' {g sz n : Nat} {b : Blk} {f : Nat → Option Nat} {ρ' : Rho} (h : BRep z g sz n b) (hf : ∀ {id k : Nat}, z.ρ id ≠ .no → f id = some k → ρ' k = z.ρ id) : BRep { z with ρ := ρ' } g sz n (b.ren f) := by
  cases b with
  | vars c =>
    obtain ⟨cs, e, fr, a1, a2, a3, a4, a5, a6⟩ := h
    refine ⟨cs, e, fr, a1, a2, a3, by rw [renL_len]; exact a4, fun i a v p1 p2 => ?_, a6⟩
    rw [renL_get] at p1
    obtain ⟨y, p3, rfl⟩ := Option.map_eq_some_iff.1 p1
    exact (a5 i y v p3 p2).ren rfl rfl fun id k hi hk => hf ((a5 i y v p3 p2).live id hi) hk
  | rows e t l => exact h
  | map kt vt m => exact h
  | fmap kt l =>
    obtain ⟨es, clock, a1, a2, a3⟩ := h
    refine ⟨es, clock, a1, by simp [a2], fun i x e q1 q2 => ?_⟩
    rw [List.getElem?_map] at q1
    obtain ⟨y, q3, rfl⟩ := Option.map_eq_some_iff.1 q1
    obtain ⟨b1, b2⟩ := a3 i y e q3 q2
    exact ⟨b1, b2.ren rfl rfl fun id k hi hk => hf (b2.live id hi) hk⟩
/-- The same state, of which only some numbers' blocks are the call's own. -/
def Z.foc (z : Z) (H : Hp) (F : Nat → Bool) : Z :=
  { z with C := fun g => ∃ id e sz n, F id = true ∧ hget H id = some e ∧ e.fz = false ∧ z.ρ id = .real g sz n, D := fun id => z.D id ∨ (hkey H id = true ∧ F id = false) }
theorem foc_ok {H1 : Hp} {F : Nat → Bool} (hH : HRep z H) (h1 : ∀ id, hget H1 id = if F id then hget H id else none) (h2 : ∀ id, hkey H1 id = (F id && hkey H id)) : HRep (z.foc H F) H1 := by
  have q : ∀ id e, hget H1 id = some e → F id = true ∧ hget H id = some e := fun id e h => by
    rw [h1] at h
    cases hF : F id <;> simp [hF] at h
    exact ⟨rfl, h⟩
  refine ⟨fun id e h => ?_, fun id id' e e' g sz n g' sz' n' hii p1 p2 m1 m2 p3 p4 => ?_, fun id h => ?_, fun g ⟨id, e, sz, n, q1, q2, q3, q4⟩ => ?_⟩
  · obtain ⟨a1, a2⟩ := q id e h
    exact (hH.ent _ _ a2).rho rfl rfl rfl (fun _ _ => rfl) fun g sz n hr hf _ => ⟨id, e, sz, n, a1, a2, hf, hr⟩
  · exact hH.inj id id' e e' g sz n g' sz' n' hii (q _ _ p1).2 (q _ _ p2).2 m1 m2 p3 p4
  · rw [h2] at h
    by_cases hk : hkey H id = true
    · rw [hk, Bool.and_true] at h
      exact .inr (.inr ⟨hk, h⟩)
    · exact (hH.fresh id (by simpa using hk)).imp (fun h => h) .inl
  · exact hH.sub _ ((hH.real q2 q4).2.1 q3)

/-- What was done with a part is laid back. -/
theorem merge_ok {H2 H3 : Hp} {F : Nat → Bool} {z2 : Z} (hH : HRep z H) (hn : Nx (z.foc H F) z2) (h2 : HRep z2 H2) (hF : ∀ id, hkey H2 id = true → F id = true)
    (h3 : ∀ id, hget H3 id = if hkey H2 id then hget H2 id else if F id then none else hget H id) (h4 : ∀ id, hkey H2 id = true ∨ hkey H id = true → hkey H3 id = true) :
    ∃ z3, z3.w = z2.w ∧ z3.M = z2.M ∧ z3.ρ = z2.ρ ∧ HRep z3 H3 ∧ Nx z z3 := by
  let z3 : Z := { z2 with C := fun g => z2.C g ∨ (z.C g ∧ ¬ (z.foc H F).C g ∧ g < z.w.heap.size), D := z.D }
  have hC1 : ∀ g, (z.foc H F).C g → z.C g := fun g ⟨id, e, sz, n, _, q2, q3, q4⟩ => (hH.real q2 q4).2.1 q3
  have hN : Nx z z3 := ⟨hn.os, hn.tape, hn.output, hn.size, fun b hb hc => hn.block b hb fun h => hc (hC1 b h), hn.subM, fun g hg => by
    rcases hg with hg | hg
    · rcases hn.subC g hg with h | h
      · exact .inl (hC1 g h)
      · exact .inr h
    · exact .inl hg.1, fun g hg hM hC => hn.keepM g hg hM fun h => hC (hC1 g h), hn.ext, rfl⟩
  have hkp := hN.kp hH.sub
  have key : ∀ id e, hget H3 id = some e → (hget H2 id = some e) ∨ (F id = false ∧ hget H id = some e) := fun id e h => by
    rw [h3] at h
    split at h
    · exact .inl h
    · split at h
      · cases h
      · rename_i hf; exact .inr ⟨by simpa using hf, h⟩
  -- a block of an entry outside
  have hout : ∀ id e g sz n, F id = false → hget H id = some e → z.ρ id = .real g sz n → ¬ (z.foc H F).C g := by
    rintro id e g sz n hf hg hr ⟨id', e', sz', n', a1, a2, a3, a4⟩
    have hne : id ≠ id' := fun h => by rw [h, a1] at hf; cases hf
    exact hH.ne hne hg a2 a3 hr a4 rfl
  have houtρ : ∀ id e, F id = false → hget H id = some e → z.ρ id ≠ .no := fun id e _ hg hr => by
    have := hH.ent _ _ hg
    unfold ERep at this
    rw [hr] at this
    exact this
  refine ⟨z3, rfl, rfl, rfl, ⟨fun id e h => ?_, fun id id' e e' g sz n g' sz' n' hii p1 p2 m1 m2 p3 p4 => ?_, fun id h => ?_, fun g hg => ?_⟩, hN⟩
  · rcases key id e h with h | ⟨hf, h⟩
    · exact (h2.ent _ _ h).rho rfl rfl rfl (fun _ _ => rfl) fun g _ _ _ _ hC => .inl hC
    · refine (hH.ent _ _ h).kp hkp fun g sz n hr => ⟨hn.block g (hH.real h hr).1 (hout id e g sz n hf h hr), fun hC => .inr ⟨hC, hout id e g sz n hf h hr, (hH.real h hr).1⟩⟩
  · have cross : ∀ i i' ee ee' gg ssz nn gg' ssz' nn', hget H2 i = some ee → F i' = false → hget H i' = some ee' → ee.fz = false → z2.ρ i = .real gg ssz nn → z2.ρ i' = .real gg' ssz' nn' → gg ≠ gg' := by
      rintro i i' ee ee' gg ssz nn gg' ssz' nn' a1 a2 a3 a4 a5 a6 rfl
      have hr' : z.ρ i' = .real gg ssz' nn' := by rw [← hN.ext i' (houtρ i' ee' a2 a3)]; exact a6
      have hlt := (hH.real a3 hr').1
      rcases hn.subC gg ((h2.real a1 a5).2.1 a4) with h | h
      · exact hout i' ee' gg ssz' nn' a2 a3 hr' h
      · exact Nat.not_le.2 hlt h
    rcases key id e p1 with q1 | ⟨f1, q1⟩ <;> rcases key id' e' p2 with q2 | ⟨f2, q2⟩
    · exact h2.inj id id' e e' g sz n g' sz' n' hii q1 q2 m1 m2 p3 p4
    · exact cross id id' e e' g sz n g' sz' n' q1 f2 q2 m1 p3 p4
    · exact fun h => cross id' id e' e g' sz' n' g sz n q2 f1 q1 m2 p4 p3 h.symm
    · have r1 : z.ρ id = .real g sz n := by rw [← hN.ext id (houtρ id e f1 q1)]; exact p3
      have r2 : z.ρ id' = .real g' sz' n' := by rw [← hN.ext id' (houtρ id' e' f2 q2)]; exact p4
      exact hH.inj id id' e e' g sz n g' sz' n' hii q1 q2 m1 m2 r1 r2
  · have k2 : hkey H2 id = false := by
      cases hk : hkey H2 id
      · rfl
      · rw [h4 id (.inl hk)] at h; cases h
    have k1 : hkey H id = false := by
      cases hk : hkey H id
      · rfl
      · rw [h4 id (.inr hk)] at h; cases h
    rcases h2.fresh id k2 with h0 | h0
    · exact .inl h0
    · rw [hn.dom] at h0
      exact h0.elim .inr fun h0 => absurd h0.1 (by rw [k1]; simp)
  · rcases hg with hg | ⟨hg, hng, hlt⟩
    · exact h2.sub g hg
    · exact hn.keepM g hlt (hH.sub g hg) hng
end
end Go.Ab
