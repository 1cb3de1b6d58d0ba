/- The operations that only read, as the regions carry them out. -/
import Derived.Test.YtplahfhggnkahaaA12
set_option linter.all false
namespace Go.Ab

section
variable {P : Program} {β : Type} {z : Z} {H : Hp}
theorem exec_v {ρ : Operand → Value} {o : Oper} {s : Sem Value} {K : AV → Option β} {res : β} (he : execOp ρ o = (do pure (.value (← s)))) (h : OkP P s z K res) :
    ∃ x v, (execOp ρ o).run P z.w = .ok (.value v) z.w ∧ ARep z x v ∧ K x = some res := by
  obtain ⟨x, v, h1, h2, h3⟩ := h
  exact ⟨x, v, by rw [he, Sem.run_bind, h1]; rfl, h2, h3⟩
theorem exec_call {ρ : Operand → Value} {o : Oper} {c : Call} {b : Builtin} {s : Sem Value} {K : AV → Option β} {res : β} (ho : o.op = .call c) (hc : c.callee = .builtin b)
    (hb : ∀ consts, builtin b c.argTypes o.type consts (c.args.map ρ) = (do pure (.value (← s)))) (h : OkP P s z K res) :
    ∃ x v, (execOp ρ o).run P z.w = .ok (.value v) z.w ∧ ARep z x v ∧ K x = some res := by
  obtain ⟨x, v, h1, h2, h3⟩ := h
  refine ⟨x, v, ?_, h2, h3⟩
  unfold execOp
  simp only [ho, resolve, hc, Sem.run_bind, Sem.run_pure, Result.andThen_ok, invoke, hb, h1]
theorem AReps.map {l : List Operand} {r : Operand → AV} {ρ : Operand → Value} (hr : ∀ x, ARep z (r x) (ρ x)) : AReps z (l.map r) (l.map ρ) := by
  refine ⟨by simp, fun i a v h1 h2 => ?_⟩
  rw [List.getElem?_map] at h1 h2
  obtain ⟨x, h3, rfl⟩ := Option.map_eq_some_iff.1 h1
  rw [h3] at h2
  simp at h2
  subst h2
  exact hr x
theorem ORep.map {a : Option Operand} {r : Operand → AV} {ρ : Operand → Value} (hr : ∀ x, ARep z (r x) (ρ x)) : ORep z (a.map r) (a.map ρ) := by
  cases a with
  | none => exact .inl ⟨rfl, rfl⟩
  | some x => exact .inr ⟨_, _, rfl, rfl, hr x⟩
theorem evR_ok {o : Oper} {r : Operand → AV} {ρ : Operand → Value} {K : AV → Option β} {res : β} (h : evR P o r H K = some res) (hH : HRep z H) (hr : ∀ x, ARep z (r x) (ρ x)) :
    ∃ x v, (execOp ρ o).run P z.w = .ok (.value v) z.w ∧ ARep z x v ∧ K x = some res := by
  unfold evR at h
  split at h
  · rename_i x ho; exact ⟨_, ρ x, by simp [execOp, ho], hr x, h⟩
  · rename_i x ho; exact ⟨_, ρ x, by simp [execOp, ho], hr x, h⟩
  · rename_i c a b ho
    obtain ⟨x, v, h1, h2, h3⟩ := evPick_ok h (hr c) (hr a) (hr b)
    refine ⟨x, v, ?_, h2, h3⟩
    simp only [Sem.run_bind] at h1
    simp only [execOp, ho, Sem.run_bind]
    generalize (asBool (ρ c)).run P z.w = q at h1 ⊢
    cases q <;> simp [Result.andThen] at h1 ⊢
    obtain ⟨h4, h5⟩ := h1
    exact ⟨h4, h5⟩
  · rename_i t ps ho
    refine exec_v (s := Instr.build t (ps.map fun (i, x) => (i, ρ x))) (by simp [execOp, ho]) (evBuild_ok h ⟨by simp, fun i x y h1 h2 => ?_⟩)
    simp only [Array.toList_map] at h2
    rw [List.getElem?_map] at h1 h2
    obtain ⟨q, h3, rfl⟩ := Option.map_eq_some_iff.1 h1
    rw [h3] at h2
    simp at h2
    subst h2
    exact ⟨rfl, hr _⟩
  · rename_i t a ho; exact exec_v (s := Instr.loadAt t (ρ a)) (by simp [execOp, ho]) (evLoad_ok h hH (hr a))
  · rename_i x ho
    have hx := hr x
    split at h
    · rename_i es id i j hq
      rw [hq] at hx
      cases hv : ρ x <;> rw [hv] at hx <;> first | (cases hx; done) | skip
      rename_i p
      cases hx with | own _ _ _ _ g sz n hρ => exact ⟨_, ρ x, by simp [execOp, ho, hv], by rw [hv]; exact .own _ _ _ _ _ _ _ hρ, h⟩
    · rename_i u l i j hq
      rw [hq] at hx
      cases hv : ρ x <;> rw [hv] at hx <;> first | (cases hx; done) | skip
      cases hx with | pt _ _ _ _ b off hM hlt hrr => exact ⟨_, ρ x, by simp [execOp, ho, hv], by rw [hv]; exact .pt _ _ _ _ _ _ hM hlt hrr, h⟩
    · rename_i f a c hq
      rw [hq] at hx
      cases hv : ρ x <;> rw [hv] at hx <;> first | (cases hx; done) | skip
      cases hx with | fn _ _ _ va vc h1 h2 h3 h4 => exact ⟨_, ρ x, by simp [execOp, ho, hv], by rw [hv]; exact .fn _ _ _ _ _ h1 h2 h3 h4, h⟩
    · cases h
  · rename_i op t x y u ho; exact exec_v (s := do eqGuard op t x y (ρ x) (ρ y); binOp op t (ρ x) (ρ y)) (by simp [execOp, ho]) (evBin_ok x y h hH (hr x) (hr y))
  · rename_i t x ix c ho; exact exec_v (s := Instr.lookup t (ρ x) (ρ ix) c) (by simp [execOp, ho]) (evLookup_ok h hH (hr x) (hr ix))
  · rename_i op t x ho; exact exec_v (s := Op.unary op (ρ x)) (by simp [execOp, ho]) (evUn_ok h (hr x))
  · rename_i s d x ho; exact exec_v (s := convert s d (ρ x)) (by simp [execOp, ho]) (evConvert_ok h hH (hr x))
  · rename_i f a c ho
    refine ⟨_, .func (.func f) (a.map ρ) (c.map ρ), by simp [execOp, ho, Instr.makeFunc], .fn _ _ _ _ _ (by simp) (by simp) (fun i x v h1 h2 => ?_) (fun i x v h1 h2 => ?_), h⟩
    · exact (AReps.map (l := a.toList) hr).2 i x v h1 (by simpa using h2)
    · exact (AReps.map (l := c.toList) hr).2 i x v h1 (by simpa using h2)
  · rename_i t x lo hi ho; exact exec_v (s := Instr.sliceAt t (ρ x) (lo.map ρ) (hi.map ρ) none) (by simp [execOp, ho]) (evSlice_ok h hH (hr x) (.map hr) (.map hr))
  · rename_i s x f ho; exact exec_v (s := Instr.fieldAt s (ρ x) f) (by simp [execOp, ho]) (evFieldAddr_ok h (hr x))
  · rename_i s x f ho; exact exec_v (s := Instr.field s (ρ x) f) (by simp [execOp, ho]) (evField_ok h (hr x))
  · rename_i t x ix ho; exact exec_v (s := Instr.indexAt t (ρ x) (ρ ix)) (by simp [execOp, ho]) (evIndexAddr_ok h hH (hr x) (hr ix))
  · rename_i t x ix ho; exact exec_v (s := Instr.index t (ρ x) (ρ ix)) (by simp [execOp, ho]) (evIndex_ok h (hr x) (hr ix))
  · rename_i x i ho
    obtain ⟨l, h1, h2⟩ := ob_iff.1 h
    obtain ⟨y, h3, h4⟩ := ob_iff.1 h2
    obtain ⟨vs, h5, h6, h7⟩ := tup?_ok h1 (hr x)
    have hlt : i < vs.size := by
      have := (List.getElem?_eq_some_iff.1 h3).1
      omega
    have hv : vs[i]? = some vs[i] := Array.getElem?_eq_getElem hlt
    exact exec_v (s := Instr.extract (ρ x) i) (by simp [execOp, ho]) ⟨y, vs[i], by simp [Instr.extract, h5, hv], h7 i y _ h3 hv, h4⟩
  · rename_i c ho
    split at h
    · rename_i hc
      split at h
      · rename_i a t ha ht
        obtain ⟨n, h1, h2⟩ := lenT_ok o.type h hH (hr a)
        refine exec_call (s := Builtin.len_ #[t] o.type #[ρ a]) ho hc (fun consts => ?_) ⟨_, _, h1, .mkI _ _, h2⟩
        have e1 : c.args = #[a] := by apply Array.ext'; rw [ha]
        have e2 : c.argTypes = #[t] := by apply Array.ext'; rw [ht]
        simp [builtin, e1, e2]
      · cases h
    · rename_i hc
      split at h
      · rename_i a t ha ht
        have e1 : c.args = #[a] := by apply Array.ext'; rw [ha]
        have e2 : c.argTypes = #[t] := by apply Array.ext'; rw [ht]
        split at h
        · rename_i e hu
          have run : ∀ A n m, ρ a = .slice A n m → (Builtin.cap_ #[t] o.type #[ρ a]).run P z.w = .ok (.int .i64 (m : Int)) z.w := fun A n m hv => by
            simp [Builtin.cap_, Sem.run_bind, hv, run_underlying hu, goInt]
          have key : ∀ m : Nat, (∃ A n, ρ a = .slice A n m) → K (.i .i64 (m : Int)) = some res → ∃ x v, (execOp ρ o).run P z.w = .ok (.value v) z.w ∧ ARep z x v ∧ K x = some res := fun m ⟨A, n, hv⟩ hk =>
            exec_call (s := Builtin.cap_ #[t] o.type #[ρ a]) ho hc (fun consts => by simp [builtin, e1, e2]) ⟨_, _, run A n m hv, .mkI _ _, hk⟩
          split at h
          · rename_i hq
            have hx := hr a
            rw [hq] at hx
            exact key 0 ⟨none, 0, hx.v.opq.1⟩ h
          · obtain ⟨A, n, m, hv, h1, h2, _, h3⟩ := lenS_ok h hH (hr a)
            exact key m ⟨A, n, hv⟩ (capQ_ok h3 m h1 h2)
        · cases h
      · cases h
    · rename_i hc
      split at h
      · rename_i k hu
        obtain ⟨l, h1, h2⟩ := ob_iff.1 h
        have hv := ints?_ok h1 (AReps.map (l := c.args.toList) hr)
        split at h2
        · rename_i x l
          refine exec_call (s := Builtin.min_ c.argTypes o.type (c.args.map ρ)) ho hc (fun consts => rfl) ⟨_, _, ?_, .mkI _ _, h2⟩
          unfold Builtin.min_
          rw [Array.toList_map, hv]
          exact run_minFold z.w l x
        · cases h2
      · cases h
    · rename_i hc
      split at h
      · rename_i k hu
        obtain ⟨l, h1, h2⟩ := ob_iff.1 h
        have hv := ints?_ok h1 (AReps.map (l := c.args.toList) hr)
        split at h2
        · rename_i x l
          refine exec_call (s := Builtin.max_ c.argTypes o.type (c.args.map ρ)) ho hc (fun consts => rfl) ⟨_, _, ?_, .mkI _ _, h2⟩
          unfold Builtin.max_
          rw [Array.toList_map, hv]
          exact run_maxFold z.w l x
        · cases h2
      · cases h
    · cases h
  · cases h
end
end Go.Ab
