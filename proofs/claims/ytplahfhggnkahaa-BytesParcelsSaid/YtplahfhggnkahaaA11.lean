/- The evaluator's operations are the model's: building, lengths, maps that are read. -/
import Derived.Test.YtplahfhggnkahaaA10
set_option linter.all false
namespace Go.Ab

section
variable {P : Program} {β : Type} {z : Z} {H : Hp}

theorem lit_ok (v : Value) (h : v.oneCell' = true ∨ ∃ cs, v = .tuple cs) : ARep z (AV.lit v) v := by
  unfold AV.lit
  split
  · exact .mkI _ _
  · exact .mkB _
  · rename_i s
    obtain ⟨⟨l⟩⟩ := s
    exact .mkS _
  · exact .junk _
  · exact .junk _
  · rename_i h1 h2 h3 h4 h5
    refine .p _ _ _ (.mkSc ⟨rfl, ?_⟩ rfl)
    rcases h with h | ⟨cs, rfl⟩
    · exact h
    · exact absurd rfl (h5 cs)
theorem lits_ok (l : List Value) (h : ∀ v ∈ l, v.oneCell' = true) : AReps z (l.map AV.lit) l := by
  refine ⟨by simp, fun i a v h1 h2 => ?_⟩
  rw [List.getElem?_map, h2] at h1
  simp at h1
  subst h1
  exact lit_ok v (.inl (h v (List.mem_of_getElem? h2)))
theorem zeroOf_ok {t : TypeId} {l : List AV} (h : zeroOf P t = some l) : ∃ i v, P.info? t = some i ∧ i.zero = some v ∧ AReps z l v.cells.toList ∧ ∀ u ∈ v.cells, u.oneCell' = true := by
  unfold zeroOf at h
  obtain ⟨i, h1, h2⟩ := ob_iff.1 h
  obtain ⟨v, h3, h4⟩ := ob_iff.1 h2
  cases hb : v.cells.toList.all Value.oneCell' <;> rw [hb] at h4 <;> simp only [bq_true, bq_false] at h4
  · cases h4
  · simp only [Option.some.injEq] at h4
    subst h4
    rw [List.all_eq_true] at hb
    exact ⟨i, v, h1, h3, lits_ok _ hb, fun u hu => hb u (by simpa using hu)⟩
theorem run_zero {t : TypeId} {i : TypeInfo} {v : Value} (h1 : P.info? t = some i) (h3 : i.zero = some v) (w : World) : (zeroValue t).run P w = .ok v w := by
  simp [zeroValue, typeInfo, Sem.run_bind, h1, h3]

/-- Cells written over from a place on. -/
theorem AReps.setFrom {c l : List AV} {vs us : List Value} (h : AReps z c vs) (h' : AReps z l us) (j : Nat) (hj : j + l.length ≤ c.length) : AReps z (setFrom c j l) (setFrom vs j us) := by
  refine ⟨by rw [setFrom_len, setFrom_len]; exact h.1, fun i a v h1 h2 => ?_⟩
  rw [setFrom_get _ _ _ _ hj] at h1
  rw [setFrom_get _ _ _ _ (by rw [← h'.1, ← h.1]; exact hj), ← h'.1] at h2
  split at h1
  · rename_i hc; rw [if_pos hc] at h2; exact h'.2 _ a v h1 h2
  · rename_i hc; rw [if_neg hc] at h2; exact h.2 _ a v h1 h2
theorem foldl_set (cs : List Value) : ∀ (a : Array Value) (off k : Nat), ((cs.zipIdx k).foldl (fun (cs : Array Value) (x : Value × Nat) => cs.setIfInBounds (off + x.2) x.1) a).toList = Go.Ab.setFrom a.toList (off + k) cs := by
  induction cs with
  | nil => intro a off k; rfl
  | cons c cs ih =>
    intro a off k
    simp only [List.zipIdx_cons, List.foldl_cons, Go.Ab.setFrom]
    rw [ih]
    simp [Nat.add_assoc]
/-- Parts laid into cells. -/
theorem fillA_ok {pl : Nat → Option (Nat × Nat)} : ∀ {parts : List (Nat × AV)} {vparts : List (Nat × Value)} {c c' : List AV} {cs : Array Value}, fillA pl c parts = some c' → AReps z c cs.toList → (∀ u ∈ cs, u.oneCell' = true) →
    parts.length = vparts.length → (∀ (i : Nat) x y, parts[i]? = some x → vparts[i]? = some y → x.1 = y.1 ∧ ARep z x.2 y.2) →
    ∃ cs', Instr.fill pl cs vparts = some cs' ∧ AReps z c' cs'.toList ∧ ∀ u ∈ cs', u.oneCell' = true
  | [], [], c, c', cs, h, hc, h1, _, _ => by
    simp [fillA] at h
    subst h
    exact ⟨cs, rfl, hc, h1⟩
  | (i, a) :: parts, (i', v) :: vparts, c, c', cs, h, hc, h1, hl, hp => by
    obtain ⟨rfl, ha⟩ := hp 0 _ _ rfl rfl
    simp only [fillA] at h
    obtain ⟨⟨off, size⟩, h2, h3⟩ := ob_iff.1 h
    obtain ⟨l, h4, h5⟩ := ob_iff.1 h3
    cases hb : (Nat.beq l.length size && Nat.ble (off + l.length) c.length) <;> rw [hb] at h5 <;> simp only [bq_true, bq_false] at h5
    · cases h5
    · simp only [Bool.and_eq_true, beq_nat, Nat.ble_eq] at hb
      obtain ⟨hs, hfit⟩ := hb
      obtain ⟨q1, q2, q3⟩ := cellsA_ok h4 ha
      have hvs : v.cells.size = l.length := by have := q1.1; simpa using this.symm
      have hcs : cs.size = c.length := by have := hc.1; simpa using this.symm
      have hset := hc.setFrom q1 off hfit
      have hfold : (v.cells.zipIdx.foldl (fun (cs : Array Value) (x : Value × Nat) => cs.setIfInBounds (off + x.2) x.1) cs).toList = setFrom cs.toList off v.cells.toList := by
        rw [← Array.foldl_toList, Array.toList_zipIdx]
        exact foldl_set _ _ _ _
      obtain ⟨cs', p1, p2, p3⟩ := fillA_ok (cs := v.cells.zipIdx.foldl (fun (cs : Array Value) (x : Value × Nat) => cs.setIfInBounds (off + x.2) x.1) cs) (vparts := vparts) h5 (by rw [hfold]; exact hset) (fun u hu => by
        have hu' : u ∈ setFrom cs.toList off v.cells.toList := by rw [← hfold]; simpa using hu
        obtain ⟨k, hk⟩ := List.getElem?_of_mem hu'
        rw [setFrom_get _ _ _ _ (by simp; omega)] at hk
        split at hk
        · exact q2 u (by have := List.mem_of_getElem? hk; simpa using this)
        · exact h1 u (by have := List.mem_of_getElem? hk; simpa using this)) (by simpa using hl) (fun i x y e1 e2 => hp (i + 1) x y (by simpa using e1) (by simpa using e2))
      refine ⟨cs', ?_, p2, p3⟩
      simp only [Instr.fill, h2]
      rw [if_neg (by simp only [Bool.or_eq_true, decide_eq_true_eq, bne_iff_ne, ne_eq, not_or]; omega)]
      exact p1
  | [], _ :: _, _, _, _, _, _, _, hl, _ => by simp at hl
  | _ :: _, [], _, _, _, _, _, _, hl, _ => by simp at hl
/-- Parts, and their values. -/
def PReps (z : Z) (parts : List (Nat × AV)) (vparts : List (Nat × Value)) : Prop :=
  parts.length = vparts.length ∧ ∀ (i : Nat) x y, parts[i]? = some x → vparts[i]? = some y → x.1 = y.1 ∧ ARep z x.2 y.2
theorem evBuild_ok {t : TypeId} {parts : List (Nat × AV)} {vparts : Array (Nat × Value)} {K : AV → Option β} {r : β} (h : evBuild P t parts K = some r) (hp : PReps z parts vparts.toList) :
    OkP P (Instr.build t vparts) z K r := by
  unfold evBuild at h
  obtain ⟨l, h1, h2⟩ := ob_iff.1 h
  obtain ⟨i, v0, q1, q2, q3, q4⟩ := zeroOf_ok (z := z) h1
  split at h2
  · rename_i fs hu
    obtain ⟨places, h3, h4⟩ := ob_iff.1 h2
    obtain ⟨c, h5, h6⟩ := ob_iff.1 h4
    obtain ⟨cs', p1, p2, p3⟩ := fillA_ok h5 q3 q4 hp.1 hp.2
    refine .mk' (run_build z.w t vparts cs' ?_) (.agg _ _ ?_ p3 fun i x v e1 e2 => p2.2 i x v e1 (by simpa using e2)) h6
    · unfold Program.built
      simp only [q1, hu, q2, h3]
      exact p1
    · have := p2.1; simpa using this.symm
  · rename_i m e hu
    obtain ⟨ie, h3, h4⟩ := ob_iff.1 h2
    obtain ⟨c, h5, h6⟩ := ob_iff.1 h4
    obtain ⟨cs', p1, p2, p3⟩ := fillA_ok h5 q3 q4 hp.1 hp.2
    refine .mk' (run_build z.w t vparts cs' ?_) (.agg _ _ ?_ p3 fun i x v e1 e2 => p2.2 i x v e1 (by simpa using e2)) h6
    · unfold Program.built
      simp only [q1, hu, q2, h3]
      exact p1
    · have := p2.1; simpa using this.symm
  · cases h2

/-! Lengths -/
theorem lenT_ok {t : TypeId} {a : AV} {K : Nat → Option β} {r : β} {v : Value} (ty : TypeId) (h : lenT P t H a K = some r) (hH : HRep z H) (ha : ARep z a v) :
    ∃ n : Nat, (Builtin.len_ #[t] ty #[v]).run P z.w = .ok (.int .i64 (n : Int)) z.w ∧ K n = some r := by
  unfold lenT at h
  split at h
  · rename_i hu
    obtain ⟨l, h1, h2⟩ := ob_iff.1 h
    obtain rfl := str?_ok h1 ha
    exact ⟨l.length, by simp [Builtin.len_, Sem.run_bind, run_underlying hu, goInt]; rfl, h2⟩
  · rename_i e hu
    obtain ⟨A, n, c, rfl, _, _, _, h2⟩ := lenS_ok h hH ha
    exact ⟨n, by simp [Builtin.len_, Sem.run_bind, run_underlying hu, goInt], h2⟩
  · rename_i k e hu
    unfold lenM at h
    split at h
    · obtain ⟨rfl, _⟩ := ha.v.opq
      exact ⟨0, by simp [Builtin.len_, Sem.run_bind, run_underlying hu, goInt], h⟩
    · rename_i id
      split at h
      · rename_i fz kt vt m hg
        cases ha with | mp _ g sz n hρ =>
        obtain ⟨_, _, _, es, a1, a2, _⟩ := hH.real hg hρ
        refine ⟨m.1.length, ?_, h⟩
        simp [Builtin.len_, Sem.run_bind, run_underlying hu, goInt, getObj, Sem.run, a1, a2]
      · cases h
    · cases h
  · rename_i n e hu
    exact ⟨n, by simp [Builtin.len_, Sem.run_bind, run_underlying hu, goInt], h⟩
  · cases h
theorem ints?_ok {k : IntKind} : ∀ {l : List AV} {ns : List Int} {vs : List Value}, ints? k l = some ns → AReps z l vs → vs = ns.map (Value.int k)
  | [], ns, vs, h, hr => by
    simp [ints?] at h
    subst h
    exact List.eq_nil_of_length_eq_zero hr.1.symm
  | a :: l, ns, vs, h, hr => by
    simp only [ints?] at h
    obtain ⟨n, h1, h2⟩ := ob_iff.1 h
    obtain ⟨r, h3, rfl⟩ := Option.map_eq_some_iff.1 h2
    match vs, hr with
    | [], hr => have := hr.1; simp at this
    | v :: vs, hr =>
      rw [int?_ok h1 hr.head, ints?_ok h3 hr.tail]
      rfl
theorem run_minFold {k : IntKind} (w : World) : ∀ (l : List Int) (x : Int), ((l.map (Value.int k)).foldlM Builtin.min2 (.int k x)).run P w = .ok (.int k (minI l x)) w
  | [], x => by simp [minI]
  | y :: l, x => by
    simp only [List.map_cons, List.foldlM_cons, Sem.run_bind]
    rw [show (Builtin.min2 (.int k x) (.int k y)).run P w = .ok (.int k (if y < x then y else x)) w from rfl]
    exact run_minFold w l _
theorem run_maxFold {k : IntKind} (w : World) : ∀ (l : List Int) (x : Int), ((l.map (Value.int k)).foldlM Builtin.max2 (.int k x)).run P w = .ok (.int k (maxI l x)) w
  | [], x => by simp [maxI]
  | y :: l, x => by
    simp only [List.map_cons, List.foldlM_cons, Sem.run_bind]
    rw [show (Builtin.max2 (.int k x) (.int k y)).run P w = .ok (.int k (if y > x then y else x)) w from rfl]
    exact run_maxFold w l _
theorem capQ_ok {n : Nat} {K : Int → Option β} {r : β} (h : capQ n K = some r) (c : Nat) (h1 : n ≤ c) (h2 : c ≤ maxLen) : K (c : Int) = some r := by
  unfold capQ at h
  split at h
  · rename_i hc
    simp only [Option.some.injEq] at h
    rw [← h]
    exact hc.choose_spec c h1 (by unfold maxLen at h2; omega)
  · cases h
end
end Go.Ab
