/- Operations that write or make memory, as the regions carry them out. -/
import Derived.Test.YtplahfhggnkahaaA18
set_option linter.all false
namespace Go.Ab

section
variable {P : Program} {T : Tbl} {β : Type} {z : Z} {H : Hp}
/-- What an operation yields that is no call. -/
def OkX (P : Program) (s : Sem Next) (z : Z) (K : AV → Hp → Option β) (r : β) : Prop :=
  ∃ x H' z' nx, s.run P z.w = .ok nx z'.w ∧ HRep z' H' ∧ Nx z z' ∧ ((∃ v, nx = .value v ∧ ARep z' x v) ∨ (nx = .skip ∧ x = .junk)) ∧ K x H' = some r
theorem OkX.v {ρ : Operand → Value} {o : Oper} {s : Sem Value} {K : AV → Hp → Option β} {r : β} (he : execOp ρ o = (do pure (.value (← s)))) (h : Ok P s z K r) : OkX P (execOp ρ o) z K r := by
  obtain ⟨x, v, H', z', h1, h2, h3, h4, h5⟩ := h
  exact ⟨x, H', z', .value v, by rw [he, Sem.run_bind, h1]; rfl, h2, h4, .inl ⟨v, rfl, h3⟩, h5⟩
theorem OkX.u {ρ : Operand → Value} {o : Oper} {s : Sem Unit} {K : AV → Hp → Option β} {r : β} (he : execOp ρ o = (do s; pure .skip)) (h : OkU P s z K r) : OkX P (execOp ρ o) z K r := by
  obtain ⟨H', z', h1, h2, h3, h4⟩ := h
  exact ⟨.junk, H', z', .skip, by rw [he, Sem.run_bind, h1]; rfl, h2, h3, .inr ⟨rfl, rfl⟩, h4⟩
theorem OkX.call {ρ : Operand → Value} {o : Oper} {c : Call} {b : Builtin} {s : Sem Value} {K : AV → Hp → Option β} {r : β} (ho : o.op = .call c) (hc : c.callee = .builtin b)
    (hb : ∀ consts, builtin b c.argTypes o.type consts (c.args.map ρ) = (do pure (.value (← s)))) (h : Ok P s z K r) : OkX P (execOp ρ o) z K r := by
  obtain ⟨x, v, H', z', h1, h2, h3, h4, h5⟩ := h
  refine ⟨x, H', z', .value v, ?_, h2, h4, .inl ⟨v, rfl, h3⟩, h5⟩
  unfold execOp
  simp only [ho, resolve, hc, Sem.run_bind, Sem.run_pure, Result.andThen_ok, invoke, hb, h1]
def isCall (o : Oper) : Bool := match o.op with | .call c => (match c.callee with | .value _ => true | _ => false) | _ => false
theorem PReps.map {ps : Array (Nat × Operand)} {r : Operand → AV} {ρ : Operand → Value} (hr : ∀ x, ARep z (r x) (ρ x)) : PReps z (ps.toList.map fun x => (x.1, r x.2)) (ps.map fun (i, x) => (i, ρ x)).toList := by
  refine ⟨by simp, fun i x y h1 h2 => ?_⟩
  simp only [Array.toList_map] at h2
  rw [List.getElem?_map] at h1 h2
  obtain ⟨q, h3, rfl⟩ := Option.map_eq_some_iff.1 h1
  rw [h3] at h2
  simp at h2
  subst h2
  exact ⟨rfl, hr _⟩
theorem evW_ok {o : Oper} {an : Ann} {r : Operand → AV} {ρ : Operand → Value} {K : AV → Hp → Option β} {res : β} (h : evW P T o an r H K = some res) (hH : HRep z H) (hd : mkOp P o = true → ¬ z.D (an.ids.headD 0)) (hr : ∀ x, ARep z (r x) (ρ x)) (hc : isCall o = false) :
    OkX P (execOp ρ o) z K res := by
  unfold evW at h
  split at h
  · rename_i t ho; exact .v (s := Instr.alloc t true (.tuple #[])) (by simp [execOp, ho]) (evAlloc_ok h hH (hd (by simp [mkOp, ho])))
  · rename_i t x ho; exact .v (s := Instr.box t (ρ x)) (by simp [execOp, ho]) (evBox_ok h hH (hd (by simp [mkOp, ho])) (hr x))
  · rename_i t n ps ho
    exact .v (s := Instr.buildSlice t n (ps.map fun (i, x) => (i, ρ x))) (by simp [execOp, ho]) (evBuildSlice_ok h hH (hd (by simp [mkOp, ho])) (PReps.map hr))
  · rename_i t a x ho; exact .u (s := Instr.storeAt t (ρ a) (ρ x)) (by simp [execOp, ho]) (evStore_ok h hH (hr a) (hr x))
  · rename_i s d x ho
    split at h
    · obtain ⟨y, v, h1, h2, h3⟩ := evConvert_ok h hH (hr x)
      exact .v (s := convert s d (ρ x)) (by simp [execOp, ho]) ⟨y, v, H, z, h1, hH, h2, Nx.refl z, h3⟩
    · exact .v (s := convert s d (ρ x)) (by simp [execOp, ho]) (evConvertW_ok h hH (fun hs => hd (by simp [mkOp, ho, hs])) (hr x))
  · rename_i t l c ho; exact .v (s := Instr.makeSlice t (ρ l) (ρ c)) (by simp [execOp, ho]) (evMake_ok h hH (hd (by simp [mkOp, ho])) (hr l) (hr c))
  · rename_i t q ho; exact .v (s := Instr.makeMap t (q.map ρ)) (by simp [execOp, ho]) (evMakeMap_ok h hH (hd (by simp [mkOp, ho])) (.map hr))
  · rename_i t m k x ho; exact .u (s := Instr.mapUpdate t (ρ m) (ρ k) (ρ x)) (by simp [execOp, ho]) (evMapUpd_ok h hH (hr m) (hr k) (hr x))
  · rename_i t m k x ho; exact .u (s := Instr.mapUpdate t (ρ m) (ρ k) (ρ x)) (by simp [execOp, ho]) (evMapUpd_ok h hH (hr m) (hr k) (hr x))
  · rename_i t m k ho; exact .v (s := Instr.mapEntry t (ρ m) (ρ k)) (by simp [execOp, ho]) (evMapEntry_ok h hH (hr m) (hr k))
  · rename_i t m s x ho; exact .u (s := Instr.entryStore t (ρ m) (ρ s) (ρ x)) (by simp [execOp, ho]) (evEntryStore_ok h hH (hr m) (hr s) (hr x))
  · rename_i c ho
    have two : ∀ {α : Type} {l : Array α} {a b : α}, l.toList = [a, b] → l = #[a, b] := fun hl => by apply Array.ext'; rw [hl]
    split at h
    · rename_i hcb
      split at h
      · rename_i s x t u ha ht
        have e1 := two ha
        have e2 := two ht
        have hb : ∀ consts, builtin .append c.argTypes o.type consts (c.args.map ρ) = (do pure (.value (← Builtin.append_ #[t, u] o.type #[ρ s, ρ x]))) := fun consts => by simp [builtin, e1, e2]
        split at h
        · rename_i k hu; exact .call ho hcb hb (evAppendZ_ok o.type h hH (hd (by simp [mkOp, ho, hcb])) (hr s) (hr x) hu)
        · rename_i e' hu; exact .call ho hcb hb (evAppend_ok o.type h hH (hd (by simp [mkOp, ho, hcb])) (hr s) (hr x) (.inl ⟨e', hu⟩))
        · rename_i hu; exact .call ho hcb hb (evAppend_ok o.type h hH (hd (by simp [mkOp, ho, hcb])) (hr s) (hr x) (.inr hu))
        · cases h
      · cases h
    · rename_i hcb
      split at h
      · rename_i d x t ts ha ht
        have e1 := two ha
        refine .call (s := Builtin.copy_ c.argTypes o.type #[ρ d, ρ x]) ho hcb (fun consts => by simp [builtin, e1]) ?_
        have e0 : c.argTypes[0]? = some t := by rw [← Array.getElem?_toList, ht]; rfl
        have e2 : Builtin.copy_ c.argTypes o.type #[ρ d, ρ x] = Builtin.copy_ #[t, t] o.type #[ρ d, ρ x] := by simp [Builtin.copy_, e0]
        rw [e2]
        exact evCopy_ok o.type h hH (hr d) (hr x)
      · cases h
    · rename_i hcb
      split at h
      · rename_i m k t ts ha ht
        have e1 := two ha
        refine .call (s := Builtin.delete_ c.argTypes o.type #[ρ m, ρ k]) ho hcb (fun consts => by simp [builtin, e1]) ?_
        have e0 : c.argTypes[0]? = some t := by rw [← Array.getElem?_toList, ht]; rfl
        have e2 : Builtin.delete_ c.argTypes o.type #[ρ m, ρ k] = Builtin.delete_ #[t, t] o.type #[ρ m, ρ k] := by simp [Builtin.delete_, e0]
        rw [e2]
        exact evDelete_ok t o.type h hH (hr m) (hr k)
      · cases h
    · rename_i f hcb
      simp [isCall, ho, hcb] at hc
    · cases h
  · cases h
end
end Go.Ab
