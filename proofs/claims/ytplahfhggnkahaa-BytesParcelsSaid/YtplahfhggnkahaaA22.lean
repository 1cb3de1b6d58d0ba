/- A state's part, under other numbers. -/
import Derived.Test.YtplahfhggnkahaaA21
set_option linter.all false
namespace Go.Ab

theorem noOf_mem : ∀ {ps : List (Nat × Nat)} {id k : Nat}, noOf ps id = some k → (id, k) ∈ ps
  | (i, j) :: ps, id, k, h => by
    simp only [noOf] at h
    cases hb : Nat.beq i id <;> rw [hb] at h <;> simp only [cond_true, cond_false] at h
    · exact List.mem_cons_of_mem _ (noOf_mem h)
    · rw [beq_nat] at hb
      simp only [Option.some.injEq] at h
      subst hb; subst h
      exact List.mem_cons_self
def idOf : List (Nat × Nat) → Nat → Option Nat
  | [], _ => none
  | (i, k) :: r, n => bif Nat.beq k n then some i else idOf r n
theorem idOf_mem : ∀ {ps : List (Nat × Nat)} {id k : Nat}, idOf ps k = some id → (id, k) ∈ ps
  | (i, j) :: ps, id, k, h => by
    simp only [idOf] at h
    cases hb : Nat.beq j k <;> rw [hb] at h <;> simp only [cond_true, cond_false] at h
    · exact List.mem_cons_of_mem _ (idOf_mem h)
    · rw [beq_nat] at hb
      simp only [Option.some.injEq] at h
      subst hb; subst h
      exact List.mem_cons_self
theorem mem_sndN {ps : List (Nat × Nat)} {id k : Nat} (h : (id, k) ∈ ps) : k ∈ sndN ps := by
  induction ps with
  | nil => cases h
  | cons x ps ih =>
    obtain ⟨i, j⟩ := x
    rcases List.mem_cons.1 h with h | h
    · injection h with h1 h2; subst h2; exact List.mem_cons_self
    · exact List.mem_cons_of_mem _ (ih h)
theorem mem_fstN {ps : List (Nat × Nat)} {id k : Nat} (h : (id, k) ∈ ps) : id ∈ fstN ps := by
  induction ps with
  | nil => cases h
  | cons x ps ih =>
    obtain ⟨i, j⟩ := x
    rcases List.mem_cons.1 h with h | h
    · injection h with h1 h2; subst h1; exact List.mem_cons_self
    · exact List.mem_cons_of_mem _ (ih h)
theorem idOf_of : ∀ {ps : List (Nat × Nat)} {id k : Nat}, (sndN ps).Nodup → (id, k) ∈ ps → idOf ps k = some id
  | (i, j) :: ps, id, k, hn, h => by
    simp only [sndN, List.nodup_cons] at hn
    simp only [idOf]
    rcases List.mem_cons.1 h with h | h
    · injection h with h1 h2; subst h1; subst h2; simp [(beq_nat k k).2 rfl]
    · have : j ≠ k := fun e => hn.1 (e ▸ mem_sndN h)
      rw [beq_nat_ff this, cond_false]
      exact idOf_of hn.2 h
theorem noOf_of : ∀ {ps : List (Nat × Nat)} {id k : Nat}, (fstN ps).Nodup → (id, k) ∈ ps → noOf ps id = some k
  | (i, j) :: ps, id, k, hn, h => by
    simp only [fstN, List.nodup_cons] at hn
    simp only [noOf]
    rcases List.mem_cons.1 h with h | h
    · injection h with h1 h2; subst h1; subst h2; simp [(beq_nat id id).2 rfl]
    · have : i ≠ id := fun e => hn.1 (e ▸ mem_fstN h)
      rw [beq_nat_ff this, cond_false]
      exact noOf_of hn.2 h
theorem liveAll_mem {H : Hp} : ∀ {l : List Nat}, liveAll H l = true → ∀ i ∈ l, ∃ e, hget H i = some e
  | [], _, i, h => by cases h
  | j :: l, h, i, hi => by
    simp only [liveAll, Bool.and_eq_true] at h
    rcases List.mem_cons.1 hi with rfl | hi
    · cases hg : hget H i with
      | none => rw [hg] at h; exact absurd h.1 (by simp)
      | some e => exact ⟨e, rfl⟩
    · exact liveAll_mem h.2 i hi
theorem renH_get {H : Hp} {f : Nat → Option Nat} : ∀ {ps : List (Nat × Nat)}, liveAll H (fstN ps) = true → ∀ k, hget (renH H f ps) k = (idOf ps k).bind (fun id => (hget H id).map (Ent.ren f)) ∧ hkey (renH H f ps) k = (idOf ps k).isSome
  | [], _, k => ⟨rfl, rfl⟩
  | (i, j) :: ps, h, k => by
    simp only [fstN, liveAll, Bool.and_eq_true] at h
    cases hg : hget H i with
    | none => rw [hg] at h; exact absurd h.1 (by simp)
    | some e =>
      obtain ⟨q1, q2⟩ := renH_get (H := H) (f := f) h.2 k
      simp only [renH, hg, hget, hkey, idOf]
      cases hb : Nat.beq j k
      · simp only [cond_false]; exact ⟨q1, q2⟩
      · simp [hg]

section
variable {z : Z} {H : Hp}
/-- The renamed part. -/
def Z.ren (z : Z) (H : Hp) (ps : List (Nat × Nat)) : Z :=
  { z with ρ := fun k => match idOf ps k with | some id => z.ρ id | none => .no, C := fun g => ∃ id k e sz n, (id, k) ∈ ps ∧ hget H id = some e ∧ e.fz = false ∧ z.ρ id = .real g sz n, D := fun _ => False }
theorem ren_ok {ps : List (Nat × Nat)} (hH : HRep z H) (h1 : nodupN (fstN ps) = true) (h2 : nodupN (sndN ps) = true) (h3 : liveAll H (fstN ps) = true) :
    HRep (z.ren H ps) (renH H (noOf ps) ps) ∧ (∀ id k, (id, k) ∈ ps → (z.ren H ps).ρ k = z.ρ id) ∧ ∀ g, (z.ren H ps).C g → z.C g := by
  rw [nodupN_iff] at h1 h2
  have hρ : ∀ id k, (id, k) ∈ ps → (z.ren H ps).ρ k = z.ρ id := fun id k h => by
    show (match idOf ps k with | some id => z.ρ id | none => .no) = _
    rw [idOf_of h2 h]
  have hC : ∀ g, (z.ren H ps).C g → z.C g := fun g ⟨id, k, e, sz, n, q1, q2, q3, q4⟩ => (hH.real q2 q4).2.1 q3
  have hent : ∀ k e', hget (renH H (noOf ps) ps) k = some e' → ∃ id e, (id, k) ∈ ps ∧ hget H id = some e ∧ e' = e.ren (noOf ps) := fun k e' h => by
    rw [(renH_get h3 k).1] at h
    obtain ⟨id, q1, q2⟩ := Option.bind_eq_some_iff.1 h
    obtain ⟨e, q3, q4⟩ := Option.map_eq_some_iff.1 q2
    exact ⟨id, e, idOf_mem q1, q3, q4.symm⟩
  refine ⟨⟨fun k e' h => ?_, fun k k' e e' g sz n g' sz' n' hkk p1 p2 m1 m2 p3 p4 => ?_, fun k h => ?_, fun g h => hH.sub g (hC g h)⟩, hρ, hC⟩
  · obtain ⟨id, e, q1, q2, rfl⟩ := hent k e' h
    have h0 := hH.ent _ _ q2
    unfold ERep at h0 ⊢
    rw [hρ id k q1]
    cases hr : z.ρ id with
    | no => rw [hr] at h0; exact h0.elim
    | virt =>
      rw [hr] at h0
      obtain ⟨fz, b⟩ := e
      cases b <;> first | exact h0.elim | exact h0
    | real g sz n =>
      rw [hr] at h0
      obtain ⟨a1, a2, a3, a4⟩ := h0
      exact ⟨a1, fun hf => ⟨id, k, e, sz, n, q1, q2, hf, hr⟩, a3, a4.ren (fz := e.fz) rfl rfl fun id' k' _ hk' => hρ id' k' (noOf_mem hk')⟩
  · obtain ⟨id, e1, q1, q2, rfl⟩ := hent k e p1
    obtain ⟨id', e2, q3, q4, rfl⟩ := hent k' e' p2
    rw [hρ id k q1] at p3
    rw [hρ id' k' q3] at p4
    have hid : id ≠ id' := fun h => by
      subst h
      have a1 := noOf_of h1 q1
      have a2 := noOf_of h1 q3
      rw [a1] at a2
      exact hkk (Option.some.inj a2)
    exact hH.inj id id' e1 e2 g sz n g' sz' n' hid q2 q4 m1 m2 p3 p4
  · rw [(renH_get h3 k).2] at h
    left
    show (match idOf ps k with | some id => z.ρ id | none => .no) = _
    cases hk : idOf ps k with
    | none => rfl
    | some id => rw [hk] at h; cases h
end
end Go.Ab
