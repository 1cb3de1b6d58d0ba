/- Maps that are made and written. -/
import Derived.Test.YtplahfhggnkahaaA17
set_option linter.all false
namespace Go.Ab

section
variable {P : Program} {β : Type} {z : Z} {H : Hp}
theorem listEqb_eq {α : Type} {f : α → α → Bool} (hf : ∀ {a b}, f a b = true → a = b) : ∀ {l r : List α}, listEqb f l r = true → l = r
  | [], [], _ => rfl
  | a :: l, b :: r, h => by
    simp only [listEqb, Bool.and_eq_true] at h
    rw [hf h.1, listEqb_eq hf h.2]
  | [], _ :: _, h => by simp [listEqb] at h
  | _ :: _, [], h => by simp [listEqb] at h
theorem keyed_eq : (k : Ty) → k.keyed = true → {x a : k.den} → k.eqb x a = true → x = a
  | .int _, _, x, a, h => by
    have : ((x : Int) == (a : Int)) = true := h
    exact beq_iff_eq.1 this
  | .byte, _, x, a, h => by
    have : ((x : UInt8) == (a : UInt8)) = true := h
    exact beq_iff_eq.1 this
  | .bool, _, x, a, h => by
    have : ((x : Bool) == (a : Bool)) = true := h
    exact beq_iff_eq.1 this
  | .str, _, x, a, h => by
    have : ((x : List UInt8) == (a : List UInt8)) = true := h
    exact beq_iff_eq.1 this
  | .one t, hk, x, a, h => keyed_eq t hk h
  | .pair s t, hk, x, a, h => by
    simp only [Ty.keyed, Bool.and_eq_true] at hk
    simp only [Ty.eqb, Bool.and_eq_true] at h
    exact Prod.ext (keyed_eq s hk.1 h.1) (keyed_eq t hk.2 h.2)
  | .arr _ t, hk, x, a, h => listEqb_eq (fun h => keyed_eq t hk h) h
theorem keyOk_keyed {kt : TypeId} {k : Ty} (h : keyOk P kt k = true) : k.keyed = true := by
  unfold keyOk at h
  simp only [Bool.and_eq_true] at h
  exact h.2

def setO (w : World) (g : Nat) (o : Obj) : World := { w with heap := w.heap.setIfInBounds g o }
theorem run_setO {w : World} {g : Nat} {es : Array MapEntry} {c : Nat} (h : w.heap[g]? = some (.map es c)) (o : Obj) : (setObj g o).run P w = .ok () (setO w g o) := by
  simp [setObj, Sem.run, h]
  rfl
theorem run_getO {w : World} {g : Nat} {es : Array MapEntry} {c : Nat} (h : w.heap[g]? = some (.map es c)) : (getObj g).run P w = .ok (.map es c) w := by
  simp [getObj, Sem.run, h]
/-- One of two keys stays. -/
theorem run_stays (w : World) (old new : Value) : ∃ v w', (Instr.keyThatStays old new).run P w = .ok v w' ∧ (v = old ∨ v = new) ∧ w'.heap = w.heap ∧ w'.os = w.os ∧ w'.tape = w.tape ∧ w'.output = w.output := by
  by_cases h : Instr.sameBits 10000 old new = true
  · exact ⟨new, w, by simp [Instr.keyThatStays, h], .inr rfl, rfl, rfl, rfl, rfl⟩
  · by_cases h2 : (Question.extern "map.whichKeyStays" 2).cut (w.tape w.drawn (.extern "map.whichKeyStays" 2)) = 0
    · exact ⟨new, w.drew, by simp [Instr.keyThatStays, h, Question.forced, h2], .inr rfl, rfl, rfl, rfl, rfl⟩
    · exact ⟨old, w.drew, by simp [Instr.keyThatStays, h, Question.forced, h2], .inl rfl, rfl, rfl, rfl, rfl⟩
theorem map_write {id g sz n : Nat} {b0 b : Blk} {w1 : World} {o : Obj} (hH : HRep z H) (hg : hget H id = some ⟨false, b0⟩) (hρ : z.ρ id = .real g sz n) (h1 : w1.heap = z.w.heap) (h2 : w1.os = z.w.os) (h3 : w1.tape = z.w.tape) (h4 : w1.output = z.w.output)
    (hb : ∀ z', Kp z z' → z'.w.heap[g]? = some o → BRep z' g sz n b) : HRep { z with w := setO w1 g o } (hset H id (some ⟨false, b⟩)) ∧ Nx z { z with w := setO w1 g o } := by
  have hlt := (hH.real hg hρ).1
  refine hH.write (w' := setO w1 g o) hg hρ h2 h3 h4 (by simp [setO, h1]) (fun b hb => ?_) fun k => hb _ k ?_
  · simp [setO, h1, Array.getElem?_setIfInBounds, Ne.symm hb]
  · simp [setO, h1, hlt]

section
variable {k v : Ty}
theorem mset_at : ∀ {l : List ((k.den × v.den) × Nat)} {j : Nat} {a x : k.den} {b y : v.den} {n : Nat}, l[j]? = some ((a, b), n) → k.eqb x a = true → (∀ j' e, j' < j → l[j']? = some e → k.eqb x e.1.1 = false) → mset l x y = l.set j ((x, y), n)
  | [], j, _, _, _, _, _, h, _, _ => by simp at h
  | ((a', b'), n') :: l, 0, a, x, b, y, n, h, hq, hf => by
    simp at h
    obtain ⟨⟨rfl, rfl⟩, rfl⟩ := h
    simp [mset, hq]
  | ((a', b'), n') :: l, j + 1, a, x, b, y, n, h, hq, hf => by
    have := hf 0 _ (by omega) rfl
    simp only [mset, this, cond_false, List.set_cons_succ]
    rw [mset_at (by simpa using h) hq fun j' e hj he => hf (j' + 1) e (by omega) (by simpa using he)]
theorem mdelL_at : ∀ {l : List ((k.den × v.den) × Nat)} {j : Nat} {a x : k.den} {b : v.den} {n : Nat}, l[j]? = some ((a, b), n) → k.eqb x a = true → (∀ j' e, j' < j → l[j']? = some e → k.eqb x e.1.1 = false) → mdelL l x = l.eraseIdx j
  | [], j, _, _, _, _, h, _, _ => by simp at h
  | ((a', b'), n') :: l, 0, a, x, b, n, h, hq, hf => by
    simp at h
    obtain ⟨⟨rfl, rfl⟩, rfl⟩ := h
    simp [mdelL, hq]
  | ((a', b'), n') :: l, j + 1, a, x, b, n, h, hq, hf => by
    have := hf 0 _ (by omega) rfl
    simp only [mdelL, this, cond_false, List.eraseIdx_cons_succ]
    rw [mdelL_at (by simpa using h) hq fun j' e hj he => hf (j' + 1) e (by omega) (by simpa using he)]
theorem mdelL_none : ∀ {l : List ((k.den × v.den) × Nat)} {x : k.den}, mfind l x = none → mdelL l x = l
  | [], _, _ => rfl
  | ((a, b), n) :: l, x, h => by
    simp only [mfind] at h
    cases hq : k.eqb x a <;> rw [hq] at h <;> simp only [cond_true, cond_false] at h
    · simp only [mdelL, hq, cond_false]
      rw [mdelL_none h]
    · cases h
theorem msetN_at : ∀ {l l' : List ((k.den × v.den) × Nat)} {i : Int} {y : v.den}, msetN l i y = some l' → ∃ (j : Nat) (a : k.den) (b : v.den) (n : Nat), l[j]? = some ((a, b), n) ∧ (n : Int) = i ∧ l' = l.set j ((a, y), n) ∧ ∀ j' e, j' < j → l[j']? = some e → (e.2 : Int) ≠ i
  | [], _, _, _, h => by simp [msetN] at h
  | ((a, b), n) :: l, l', i, y, h => by
    simp only [msetN] at h
    cases hq : ((n : Int) == i) <;> rw [hq] at h <;> simp only [cond_true, cond_false] at h
    · obtain ⟨l1, h1, rfl⟩ := Option.map_eq_some_iff.1 h
      obtain ⟨j, a', b', n', q1, q2, q3, q4⟩ := msetN_at h1
      refine ⟨j + 1, a', b', n', by simpa using q1, q2, by rw [q3]; rfl, fun j' e hj he => ?_⟩
      match j' with
      | 0 => simp at he; subst he; simpa using hq
      | j' + 1 => exact q4 j' e (by omega) (by simpa using he)
    · simp only [Option.some.injEq] at h
      exact ⟨0, a, b, n, rfl, by simpa using hq, h.symm, fun j' e hj => by omega⟩
end

/-- A map's entries. -/
def MRep (z : Z) (k v : Ty) (M : GMap k v) (es : Array MapEntry) : Prop :=
  es.size = M.1.length ∧ (∀ (i : Nat) x e, M.1[i]? = some x → es[i]? = some e → VRep z.w z.M k x.1.1 e.key ∧ VRep z.w z.M v x.1.2 e.val ∧ e.born = x.2) ∧
      (∀ (i j : Nat) x y, M.1[i]? = some x → M.1[j]? = some y → x.2 = y.2 → i = j) ∧ (∀ (i : Nat) x, M.1[i]? = some x → x.2 < M.2)
theorem MRep.kp {z' : Z} (kk : Kp z z') {k v : Ty} {M : GMap k v} {es : Array MapEntry} (h : MRep z k v M es) : MRep z' k v M es :=
  ⟨h.1, fun i x e q1 q2 => ⟨(h.2.1 i x e q1 q2).1.kp kk, (h.2.1 i x e q1 q2).2.1.kp kk, (h.2.1 i x e q1 q2).2.2⟩, h.2.2⟩
theorem set_fst {k v : Ty} {l : List ((k.den × v.den) × Nat)} {j n : Nat} {p q : k.den × v.den} (hj : l[j]? = some (p, n)) {i : Nat} {x : (k.den × v.den) × Nat} (h : (l.set j (q, n))[i]? = some x) : ∃ y, l[i]? = some y ∧ y.2 = x.2 := by
  by_cases hi : j = i
  · subst hi
    have := (List.getElem?_eq_some_iff.1 hj).1
    rw [List.getElem?_set_self this] at h
    simp only [Option.some.injEq] at h
    subst h
    exact ⟨_, hj, rfl⟩
  · rw [List.getElem?_set_ne hi] at h
    exact ⟨x, h, rfl⟩
/-- An entry's key and value are others. -/
theorem MRep.set {k v : Ty} {M : GMap k v} {es es' : Array MapEntry} {j n : Nat} {p : k.den × v.den} {x : k.den} {y : v.den} {e' : MapEntry} (h : MRep z k v M es) (hj : M.1[j]? = some (p, n)) (hx : VRep z.w z.M k x e'.key) (hy : VRep z.w z.M v y e'.val) (hb : e'.born = n)
    (hs : es'.size = es.size) (h1 : es'[j]? = some e') (h2 : ∀ i, i ≠ j → es'[i]? = es[i]?) : MRep z k v (M.1.set j ((x, y), n), M.2) es' := by
  obtain ⟨a1, a2, a3, a4⟩ := h
  refine ⟨by rw [hs, a1]; simp, fun i a e q1 q2 => ?_, fun i i' a b q1 q2 q3 => ?_, fun i a q1 => ?_⟩
  · by_cases hi : j = i
    · subst hi
      have := (List.getElem?_eq_some_iff.1 hj).1
      rw [List.getElem?_set_self this] at q1
      rw [h1] at q2
      simp only [Option.some.injEq] at q1 q2
      subst q1
      subst q2
      exact ⟨hx, hy, hb⟩
    · rw [List.getElem?_set_ne hi] at q1
      rw [h2 i (Ne.symm hi)] at q2
      exact a2 i a e q1 q2
  · obtain ⟨y1, r1, r2⟩ := set_fst hj q1
    obtain ⟨y2, r3, r4⟩ := set_fst hj q2
    exact a3 i i' y1 y2 r1 r3 (by rw [r2, r4, q3])
  · obtain ⟨y1, r1, r2⟩ := set_fst hj q1
    rw [← r2]
    exact a4 i y1 r1
theorem MRep.push {k v : Ty} {M : GMap k v} {es : Array MapEntry} {x : k.den} {y : v.den} {e' : MapEntry} (h : MRep z k v M es) (hx : VRep z.w z.M k x e'.key) (hy : VRep z.w z.M v y e'.val) (hb : e'.born = M.2) :
    MRep z k v (M.1 ++ [((x, y), M.2)], M.2 + 1) (es.push e') := by
  obtain ⟨a1, a2, a3, a4⟩ := h
  have key : ∀ (i : Nat) a, (M.1 ++ [((x, y), M.2)])[i]? = some a → (i < M.1.length ∧ M.1[i]? = some a) ∨ (i = M.1.length ∧ a = ((x, y), M.2)) := fun i a h => by
    by_cases hi : i < M.1.length
    · rw [List.getElem?_append_left hi] at h; exact .inl ⟨hi, h⟩
    · rw [List.getElem?_append_right (by omega)] at h
      have hi0 : i - M.1.length = 0 := by
        have := (List.getElem?_eq_some_iff.1 h).1
        simpa using this
      rw [hi0] at h
      simp at h
      exact .inr ⟨by omega, h.symm⟩
  refine ⟨by simp [a1], fun i a e q1 q2 => ?_, fun i i' a b q1 q2 q3 => ?_, fun i a q1 => ?_⟩
  · rcases key i a q1 with ⟨hi, q1⟩ | ⟨rfl, rfl⟩
    · rw [Array.getElem?_push, if_neg (by omega)] at q2
      exact a2 i a e q1 q2
    · rw [Array.getElem?_push, if_pos a1.symm] at q2
      simp only [Option.some.injEq] at q2
      subst q2
      exact ⟨hx, hy, hb⟩
  · rcases key i a q1 with ⟨hi, q1⟩ | ⟨rfl, rfl⟩ <;> rcases key i' b q2 with ⟨hi', q2⟩ | ⟨rfl, rfl⟩
    · exact a3 i i' a b q1 q2 q3
    · have := a4 i a q1; simp only at q3; omega
    · have := a4 i' b q2; simp only at q3; omega
    · rfl
  · rcases key i a q1 with ⟨hi, q1⟩ | ⟨rfl, rfl⟩
    · have := a4 i a q1; simp only; omega
    · simp
theorem MRep.find {k v : Ty} {M : GMap k v} {es : Array MapEntry} {kt : TypeId} {x : k.den} {vk : Value} (h : MRep z k v M es) (hk : keyOk P kt k = true) (hx : VRep z.w z.M k x vk) :
    ∃ q, (Instr.findKey kt vk es.toList).run P z.w = .ok q z.w ∧ ((q = none ∧ mfind M.1 x = none) ∨
      ∃ (j : Nat) (b : v.den) (n : Nat) (e : MapEntry), q = some (j, e.val) ∧ M.1[j]? = some ((x, b), n) ∧ es[j]? = some e ∧ mfind M.1 x = some (b, n) ∧ k.eqb x x = true ∧ ∀ (j' : Nat) e', j' < j → M.1[j']? = some e' → k.eqb x e'.1.1 = false) := by
  obtain ⟨a2, a3, _⟩ := h
  obtain ⟨q, f1, f2⟩ := findKey_ok hk z.w hx es.toList (M.1.map (·.1.1)) (by simp [a2]) (fun j a e e1 e2 => by
    rw [List.getElem?_map] at e1
    obtain ⟨y, e3, rfl⟩ := Option.map_eq_some_iff.1 e1
    exact (a3 j y e e3 (by simpa using e2)).1)
  refine ⟨q, f1, ?_⟩
  rcases f2.split (by simp [a2]) with ⟨rfl, f3⟩ | ⟨j, a, e, rfl, f3, f4, f5, f6⟩
  · refine .inl ⟨rfl, ?_⟩
    cases hq : mfind M.1 x with
    | none => rfl
    | some y =>
      obtain ⟨j, a, q1, q2, _⟩ := mfind_some hq
      have := f3 j a (by simp [q1])
      rw [q2] at this; cases this
  · rw [List.getElem?_map] at f3
    obtain ⟨⟨⟨a', b⟩, n⟩, f7, rfl⟩ := Option.map_eq_some_iff.1 f3
    simp only at f5
    obtain rfl := keyed_eq k (keyOk_keyed hk) f5
    refine .inr ⟨j, b, n, e, rfl, f7, by simpa using f4, ?_, f5, fun j' e' hj' he' => f6 j' e'.1.1 hj' (by simp [he'])⟩
    cases hq : mfind M.1 x with
    | none =>
      have := mfind_none hq j _ f7
      rw [f5] at this; cases this
    | some y' =>
      obtain ⟨j', a', q1, q2, q3⟩ := mfind_some hq
      have hjj : j' = j := by
        rcases Nat.lt_trichotomy j' j with hlt | heq | hgt
        · have := f6 j' a' hlt (by simp [q1])
          rw [q2] at this; cases this
        · exact heq
        · have := q3 j _ hgt f7
          rw [f5] at this; cases this
      subst hjj
      rw [q1] at f7
      injection f7 with f7
      injection f7 with f8 f9
      injection f8 with f8 f10
      rw [← f9, ← f10]

def OkU (P : Program) (s : Sem Unit) (z : Z) (K : AV → Hp → Option β) (r : β) : Prop :=
  ∃ H' z', s.run P z.w = .ok () z'.w ∧ HRep z' H' ∧ Nx z z' ∧ K .junk H' = some r

theorem run_makeMap_any {t kt et : TypeId} {q : Option Value} (hu : P.underlying t = some (.map kt et)) (hq : ∀ v, q = some v → ∃ k n, v = .int k n) (w : World) : (Instr.makeMap t q).run P w = .ok (.map (some w.heap.size)) (w.alloc (.map #[] 0)) := by
  cases q with
  | none => rfl
  | some v =>
    obtain ⟨k, n, rfl⟩ := hq v rfl
    simp [Instr.makeMap, run_underlying hu, asInt, asIntOf]
theorem evMakeMap_ok {t : TypeId} {a : Option AV} {v : Option Value} {id : Nat} {K : AV → Hp → Option β} {r : β} (h : evMakeMap P t a id H K = some r) (hH : HRep z H) (hd : ¬ z.D id) (ha : ORep z a v) : Ok P (Instr.makeMap t v) z K r := by
  unfold evMakeMap at h
  split at h
  · rename_i kt et hu
    obtain ⟨k, h1, h2⟩ := ob_iff.1 h
    obtain ⟨h3, h4⟩ := need_iff.1 h2
    have hq : ∀ x, v = some x → ∃ k n, x = .int k n := fun x hx => by
      rcases ha with ⟨rfl, rfl⟩ | ⟨y, u, rfl, rfl, hy⟩
      · cases hx
      · simp only [Option.some.injEq] at hx
        subst hx
        cases hn : y.any? with
        | none => simp only [hn] at h3; cases h3
        | some n =>
          obtain ⟨kk, e⟩ := any?_ok hn hy
          exact ⟨kk, n, e⟩
    have hrun := run_makeMap_any (P := P) hu hq z.w
    have hnew : ∀ b, hkey H id = false → (∀ z', Kp z z' → z'.w.heap[z.w.heap.size]? = some (.map #[] 0) → BRep z' z.w.heap.size 0 0 b) → K (.mp id) (hset H id (some ⟨false, b⟩)) = some r → Ok P (Instr.makeMap t v) z K r := fun b hk hb hK => by
      have hlt : z.w.heap.size < (z.w.alloc (.map #[] 0)).heap.size := (Array.getElem?_eq_some_iff.1 (heap_alloc_new z.w (.map #[] 0))).1
      obtain ⟨z', p1, p2, p3, p4⟩ := hH.new (w' := z.w.alloc (.map #[] 0)) (g := z.w.heap.size) (sz := 0) (n := 0) (b := b) hk hd (Nat.le_refl _) hlt rfl rfl rfl (Nat.le_of_lt hlt) (fun k hk => heap_alloc_old _ _ _ hk) (fun z' hz kk => hb z' kk (by rw [hz]; exact heap_alloc_new _ _))
      exact .mk' (by rw [p1]; exact hrun) p2 (.mp _ _ _ _ p4) p3 hK
    cases hf : isFuncT P et <;> rw [hf] at h4 <;> simp only [bq_true, bq_false] at h4
    · obtain ⟨u, h5, h6⟩ := ob_iff.1 h4
      obtain ⟨h7, h8⟩ := newAt_iff.1 h6
      exact hnew (.map k u ([], 0)) h7 (fun z' kk hz => ⟨#[], hz, rfl, fun i x e h => by simp at h, fun i j x y h => by simp at h, fun i x h => by simp at h⟩) h8
    · obtain ⟨h7, h8⟩ := newAt_iff.1 h4
      exact hnew (.fmap k []) h7 (fun z' kk hz => ⟨#[], 0, hz, rfl, fun i x e h => by simp at h⟩) h8
  · cases h
theorem mapOk_ok {t : TypeId} {k v : Ty} (h : mapOk P t k v = true) : ∃ kt et, P.underlying t = some (.map kt et) ∧ keyOk P kt k = true ∧ ty P et = some v ∧ zeroOk P et v = true := by
  unfold mapOk at h
  split at h
  · rename_i kt et hu
    simp only [Bool.and_eq_true, decide_eq_true_eq] at h
    exact ⟨kt, et, hu, h.1.1, h.1.2, h.2⟩
  · cases h
theorem evMapUpd_ok {t : TypeId} {m ak ax : AV} {vm vk vx : Value} {K : AV → Hp → Option β} {r : β} (h : evMapUpd P t m ak ax H K = some r) (hH : HRep z H) (hm : ARep z m vm) (hk : ARep z ak vk) (hx : ARep z ax vx) : OkU P (Instr.mapUpdate t vm vk vx) z K r := by
  unfold evMapUpd at h
  split at h
  · rename_i id
    cases hm with | mp _ g sz n hρ =>
    split at h
    · rename_i k l hg
      obtain ⟨h1, h2⟩ := need_iff.1 h
      obtain ⟨x, h3, h4⟩ := asA_ok h2 hk
      obtain ⟨h5, h6⟩ := need_iff.1 h4
      obtain ⟨c, h7, h8⟩ := ob_iff.1 h6
      obtain ⟨h9, h10⟩ := need_iff.1 h8
      unfold fmapOk at h1
      split at h1
      · rename_i kt et hu
        simp only [Bool.and_eq_true] at h1
        obtain ⟨⟨hK, _⟩, _⟩ := h1
        obtain ⟨_, _, _, es, clock, a1, a2, a3⟩ := hH.real hg hρ
        have hck := checkKey_ok (em := false) z.w typesFuel kt k (keyOk_ok hK).2 10000 (by unfold typesFuel; omega) x vk h3
        obtain ⟨q, f1, f2⟩ := findKey_ok hK z.w h3 es.toList (l.map (·.1)) (by simp [a2]) (fun j a e e1 e2 => by
          rw [List.getElem?_map] at e1
          obtain ⟨y, e3, rfl⟩ := Option.map_eq_some_iff.1 e1
          exact (a3 j y e e3 (by simpa using e2)).1)
        have hno : ∀ (l : List (k.den × AV)), noKey l x = true → ∀ (i : Nat) e, l[i]? = some e → k.eqb x e.1 = false := by
          intro l
          induction l with
          | nil => intro _ i e he; simp at he
          | cons a l ih =>
            intro hn i e he
            simp only [noKey, Bool.and_eq_true, Bool.not_eq_true'] at hn
            match i with
            | 0 => simp at he; subst he; exact hn.1
            | i + 1 => exact ih hn.2 i e (by simpa using he)
        rcases f2.split (by simp [a2]) with ⟨rfl, f3⟩ | ⟨j, a, e, rfl, f3, f4, f5, f6⟩
        · obtain ⟨p1, p2⟩ := map_write (w1 := z.w) (o := .map (es.push { key := vk, val := vx, born := clock }) (clock + 1)) (b := .fmap k (l ++ [(x, ax)])) hH hg hρ rfl rfl rfl rfl (fun z' kk hz => by
            refine ⟨_, _, hz, by simp [a2], fun i a e q1 q2 => ?_⟩
            by_cases hi : i < l.length
            · rw [List.getElem?_append_left hi] at q1
              rw [Array.getElem?_push, if_neg (by omega)] at q2
              exact ⟨(a3 i a e q1 q2).1.kp kk, (a3 i a e q1 q2).2.kp kk⟩
            · rw [List.getElem?_append_right (by omega)] at q1
              have hi0 : i - l.length = 0 := by
                have := (List.getElem?_eq_some_iff.1 q1).1
                simpa using this
              rw [hi0] at q1
              rw [Array.getElem?_push, if_pos (by omega)] at q2
              simp at q1 q2
              subst q1
              subst q2
              exact ⟨h3.kp kk, hx.kp kk⟩)
          refine ⟨_, _, ?_, p1, p2, h10⟩
          simp [Instr.mapUpdate, run_underlying hu, run_getO a1, hck, f1, run_setO a1]
        · rw [List.getElem?_map] at f3
          obtain ⟨y, f7, rfl⟩ := Option.map_eq_some_iff.1 f3
          have := hno l h5 j y f7
          rw [f5] at this; cases this
      · cases h1
    · obtain ⟨⟨y, H1⟩, h1, h2⟩ := ob_iff.1 h
      obtain ⟨z1, s1, s2, s3, s4, s5⟩ := pureA_ok hH h1 hx
      split at h2
      · rename_i k v M hg
        obtain ⟨h3, h4⟩ := need_iff.1 h2
        obtain ⟨x, h5, h6⟩ := asA_ok h4 (hk.kp (s3.kp hH.sub))
        obtain ⟨w, h7, h8⟩ := asA_ok h6 s5
        obtain ⟨kt, et, hu, hK, _, _⟩ := mapOk_ok h3
        have hρ1 : z1.ρ id = .real g sz n := by rw [s4]; exact hρ
        obtain ⟨_, _, _, es, a1, a2⟩ := s2.real hg hρ1
        have a2' : MRep z1 k v M es := a2
        have hck := checkKey_ok (em := false) z1.w typesFuel kt k (keyOk_ok hK).2 10000 (by unfold typesFuel; omega) x vk h5
        obtain ⟨q, f1, f2⟩ := a2'.find hK h5
        rcases f2 with ⟨rfl, f3⟩ | ⟨j, b, nb, e, rfl, f3, f4, f5, f6, f7⟩
        · have hp : mput M x w = (M.1 ++ [((x, w), M.2)], M.2 + 1) := by unfold mput; rw [f3]
          rw [hp] at h8
          obtain ⟨p1, p2⟩ := map_write (w1 := z1.w) (o := .map (es.push { key := vk, val := vx, born := M.2 }) (M.2 + 1)) (b := .map k v (M.1 ++ [((x, w), M.2)], M.2 + 1)) s2 hg hρ1 rfl rfl rfl rfl (fun z' kk hz => ⟨_, hz, (a2'.push h5 h7 rfl).kp kk⟩)
          refine ⟨_, _, ?_, p1, s3.trans p2, h8⟩
          rw [← s1]
          simp [Instr.mapUpdate, run_underlying hu, run_getO a1, hck, f1, run_setO a1]
        · have hp : mput M x w = (M.1.set j ((x, w), nb), M.2) := by unfold mput; rw [f5]; simp only; rw [mset_at f3 f6 f7]
          rw [hp] at h8
          obtain ⟨key, w1, k1, k2, k3, k4, k5, k6⟩ := run_stays (P := P) z1.w e.key vk
          obtain ⟨r1, r2, r3⟩ := a2'.2.1 j _ e f3 f4
          have hkey : VRep z1.w z1.M k x key := by rcases k2 with rfl | rfl <;> first | exact r1 | exact h5
          have hj := (Array.getElem?_eq_some_iff.1 f4).1
          obtain ⟨p1, p2⟩ := map_write (w1 := w1) (o := .map (es.modify j fun e => { e with key, val := vx }) M.2) (b := .map k v (M.1.set j ((x, w), nb), M.2)) s2 hg hρ1 k3 k4 k5 k6 (fun z' kk hz => by
            refine ⟨_, hz, (a2'.set (e' := { e with key, val := vx }) f3 hkey h7 r3 (by simp) (by simp [Array.getElem?_modify, f4]) (fun i hi => by simp [Array.getElem?_modify, Ne.symm hi])).kp kk⟩)
          refine ⟨_, _, ?_, p1, s3.trans p2, h8⟩
          rw [← s1]
          have a1' : w1.heap[g]? = some (.map es M.2) := by rw [k3]; exact a1
          simp [Instr.mapUpdate, run_underlying hu, run_getO a1, hck, f1, f4, k1, run_setO a1']
      · cases h2
  · cases h
theorem evMapEntry_ok {t : TypeId} {m ak : AV} {vm vk : Value} {K : AV → Hp → Option β} {r : β} (h : evMapEntry P t m ak H K = some r) (hH : HRep z H) (hm : ARep z m vm) (hk : ARep z ak vk) : Ok P (Instr.mapEntry t vm vk) z K r := by
  unfold evMapEntry at h
  split at h
  · rename_i id
    cases hm with | mp _ g sz n hρ =>
    split at h
    · rename_i k v M hg
      obtain ⟨h3, h4⟩ := need_iff.1 h
      rw [Bool.and_eq_true] at h3
      obtain ⟨x, h5, h6⟩ := asA_ok h4 hk
      obtain ⟨kt, et, hu, hK, _, hZ⟩ := mapOk_ok h3.1
      obtain ⟨i, zv, z1, z2, z3⟩ := zeroOk_ok hZ
      obtain ⟨_, _, _, es, a1, a2⟩ := hH.real hg hρ
      have a2' : MRep z k v M es := a2
      have hck := checkKey_ok (em := false) z.w typesFuel kt k (keyOk_ok hK).2 10000 (by unfold typesFuel; omega) x vk h5
      have mk : ∀ {z' : Z} {a : AV} {u : Value} {n : Int}, ARep z' a u → ARep z' (.tup [a, .i .i64 n]) (.tuple #[u, .int .i64 n]) := fun ha => by
        refine .tup _ _ rfl fun i x u h1 h2 => ?_
        match i with
        | 0 => simp at h1 h2; subst h1; subst h2; exact ha
        | 1 => simp at h1 h2; subst h1; subst h2; exact .mkI _ _
        | i + 2 => simp at h1
      obtain ⟨q, f1, f2⟩ := a2'.find hK h5
      rcases f2 with ⟨rfl, f3⟩ | ⟨j, b, nb, e, rfl, f3, f4, f5, f6, f7⟩
      · have e1 : ment M x = (M.1 ++ [((x, v.zero), M.2)], M.2 + 1) := by unfold ment; rw [f3]
        have e2 : mget M x = none := by unfold mget; rw [f3]; rfl
        have e3 : mborn M x = M.2 := by unfold mborn; rw [f3]
        rw [e1, e2, e3] at h6
        obtain ⟨p1, p2⟩ := map_write (w1 := z.w) (o := .map (es.push { key := vk, val := zv, born := M.2 }) (M.2 + 1)) (b := .map k v (M.1 ++ [((x, v.zero), M.2)], M.2 + 1)) hH hg hρ rfl rfl rfl rfl (fun z' kk hz => ⟨_, hz, (a2'.push h5 (z3 _ _) rfl).kp kk⟩)
        refine .mk' (z' := { z with w := setO z.w g (.map (es.push { key := vk, val := zv, born := M.2 }) (M.2 + 1)) }) ?_ p1 (mk (ofTy_ok (z3 _ _))) p2 h6
        simp [Instr.mapEntry, run_underlying hu, run_getO a1, hck, f1, run_setO a1, run_zero z1 z2, goInt]
      · have e1 : ment M x = (M.1.set j ((x, b), nb), M.2) := by unfold ment; rw [f5]; simp only; rw [mset_at f3 f6 f7]
        have e2 : mget M x = some b := by unfold mget; rw [f5]; rfl
        have e3 : mborn M x = nb := by unfold mborn; rw [f5]
        rw [e1, e2, e3] at h6
        obtain ⟨key, w1, k1, k2, k3, k4, k5, k6⟩ := run_stays (P := P) z.w e.key vk
        obtain ⟨r1, r2, r3⟩ := a2'.2.1 j _ e f3 f4
        have hkey : VRep z.w z.M k x key := by rcases k2 with rfl | rfl <;> first | exact r1 | exact h5
        obtain ⟨p1, p2⟩ := map_write (w1 := w1) (o := .map (es.modify j fun e => { e with key }) M.2) (b := .map k v (M.1.set j ((x, b), nb), M.2)) hH hg hρ k3 k4 k5 k6 (fun z' kk hz => by
          refine ⟨_, hz, (a2'.set (e' := { e with key }) f3 hkey r2 r3 (by simp) (by simp [Array.getElem?_modify, f4]) (fun i hi => by simp [Array.getElem?_modify, Ne.symm hi])).kp kk⟩)
        refine .mk' (z' := { z with w := setO w1 g (.map (es.modify j fun e => { e with key }) M.2) }) ?_ p1 (mk (ofTy_ok (r2.kp (p2.kp hH.sub)))) p2 h6
        have a1' : w1.heap[g]? = some (.map es M.2) := by rw [k3]; exact a1
        simp [Instr.mapEntry, run_underlying hu, run_getO a1, hck, f1, f4, k1, run_setO a1', goInt, r3]
    · cases h
  · cases h
theorem evEntryStore_ok {t : TypeId} {m at' ax : AV} {vm vs vx : Value} {K : AV → Hp → Option β} {r : β} (h : evEntryStore m at' ax H K = some r) (hH : HRep z H) (hm : ARep z m vm) (hs : ARep z at' vs) (hx : ARep z ax vx) : OkU P (Instr.entryStore t vm vs vx) z K r := by
  unfold evEntryStore at h
  split at h
  · rename_i id
    cases hm with | mp _ g sz n hρ =>
    obtain ⟨⟨y, H1⟩, h1, h2⟩ := ob_iff.1 h
    obtain ⟨z1, s1, s2, s3, s4, s5⟩ := pureA_ok hH h1 hx
    split at h2
    · rename_i k v M hg
      obtain ⟨n', h3, h4⟩ := ob_iff.1 h2
      obtain ⟨w, h5, h6⟩ := asA_ok h4 s5
      obtain ⟨M', h7, h8⟩ := Option.bind_eq_some_iff.1 h6
      obtain ⟨ks, rfl⟩ := any?_ok h3 hs
      unfold mstore at h7
      obtain ⟨l', h9, rfl⟩ := Option.map_eq_some_iff.1 h7
      obtain ⟨j, a, b, nb, q1, q2, rfl, q4⟩ := msetN_at h9
      have hρ1 : z1.ρ id = .real g sz n := by rw [s4]; exact hρ
      obtain ⟨_, _, _, es, a1, a2⟩ := s2.real hg hρ1
      have a2' : MRep z1 k v M es := a2
      obtain ⟨e, he⟩ := get_of_len (l := es.toList) (c := M.1) (by simp [a2'.1]) q1
      have he' : es[j]? = some e := by simpa using he
      obtain ⟨r1, r2, r3⟩ := a2'.2.1 j _ e q1 he'
      have hj := (Array.getElem?_eq_some_iff.1 he').1
      have hfind : es.findIdx? (fun e => (e.born : Int) == n') = some j := by
        rw [Array.findIdx?_eq_some_iff_getElem]
        refine ⟨hj, ?_, fun j' hj' => ?_⟩
        · have : es[j] = e := (Array.getElem?_eq_some_iff.1 he').2
          rw [this, r3]; simpa using q2
        · have hjl : j' < es.size := by omega
          obtain ⟨x', hx'⟩ := get_of_len (l := M.1) (c := es.toList) (by simp [a2'.1]) (show es.toList[j']? = some es[j'] by simp [hjl])
          have := q4 j' x' hj' hx'
          have e3 := (a2'.2.1 j' x' _ hx' (Array.getElem?_eq_getElem hjl)).2.2
          rw [e3]; simpa using this
      obtain ⟨p1, p2⟩ := map_write (w1 := z1.w) (o := .map (es.modify j fun e => { e with val := vx }) M.2) (b := .map k v (M.1.set j ((a, w), nb), M.2)) s2 hg hρ1 rfl rfl rfl rfl (fun z' kk hz => by
        refine ⟨_, hz, (a2'.set (e' := { e with val := vx }) q1 r1 h5 r3 (by simp) (by simp [Array.getElem?_modify, he']) (fun i hi => by simp [Array.getElem?_modify, Ne.symm hi])).kp kk⟩)
      refine ⟨_, _, ?_, p1, s3.trans p2, h8⟩
      rw [← s1]
      simp [Instr.entryStore, run_getO a1, asInt, asIntOf, hfind, run_setO a1]
    · cases h2
  · cases h
theorem MRep.erase {k v : Ty} {M : GMap k v} {es es' : Array MapEntry} {j : Nat} (h : MRep z k v M es) (hs : es'.toList = es.toList.eraseIdx j) : MRep z k v (M.1.eraseIdx j, M.2) es' := by
  obtain ⟨a1, a2, a3, a4⟩ := h
  have key : ∀ {α : Type} (l : List α) (i : Nat), (l.eraseIdx j)[i]? = l[if i < j then i else i + 1]? := fun l i => by
    rw [List.getElem?_eraseIdx]
    split <;> rfl
  have hl : es.toList.length = M.1.length := by simp [a1]
  refine ⟨?_, fun i a e q1 q2 => ?_, fun i i' a b q1 q2 q3 => ?_, fun i a q1 => ?_⟩
  · rw [← Array.length_toList, hs, List.length_eraseIdx, List.length_eraseIdx, hl]
  · rw [key] at q1
    rw [← Array.getElem?_toList, hs, key] at q2
    exact a2 _ a e q1 (by simpa using q2)
  · rw [key] at q1 q2
    have := a3 _ _ a b q1 q2 q3
    split at this <;> split at this <;> omega
  · rw [key] at q1
    exact a4 _ a q1
theorem evDelete_ok {t : TypeId} (tk ty : TypeId) {m ak : AV} {vm vk : Value} {K : AV → Hp → Option β} {r : β} (h : evDelete P t m ak H K = some r) (hH : HRep z H) (hm : ARep z m vm) (hk : ARep z ak vk) : Ok P (Builtin.delete_ #[t, tk] ty #[vm, vk]) z K r := by
  unfold evDelete at h
  split at h
  · rename_i id
    cases hm with | mp _ g sz n hρ =>
    split at h
    · rename_i k v M hg
      obtain ⟨h3, h4⟩ := need_iff.1 h
      obtain ⟨x, h5, h6⟩ := asA_ok h4 hk
      obtain ⟨kt, et, hu, hK, _, _⟩ := mapOk_ok h3
      obtain ⟨_, _, _, es, a1, a2⟩ := hH.real hg hρ
      have a2' : MRep z k v M es := a2
      have hck := checkKey_ok (em := es.isEmpty) z.w typesFuel kt k (keyOk_ok hK).2 10000 (by unfold typesFuel; omega) x vk h5
      obtain ⟨q, f1, f2⟩ := a2'.find hK h5
      have h0 : ∀ z', ARep z' (.tup []) (.tuple #[]) := fun z' => .tup _ _ rfl fun i x u h1 => by simp at h1
      rcases f2 with ⟨rfl, f3⟩ | ⟨j, b, nb, e, rfl, f3, f4, f5, f6, f7⟩
      · have e1 : mdel M x = M := by unfold mdel; rw [mdelL_none f3]
        rw [e1] at h6
        obtain ⟨p1, p2⟩ := map_write (w1 := z.w) (o := .map es M.2) (b := .map k v M) hH hg hρ rfl rfl rfl rfl (fun z' kk hz => ⟨_, hz, a2'.kp kk⟩)
        refine .mk' (z' := { z with w := setO z.w g (.map es M.2) }) ?_ p1 (h0 _) p2 h6
        simp [Builtin.delete_, run_underlying hu, run_getO a1, hck, f1, run_setO a1]
      · have e1 : mdel M x = (M.1.eraseIdx j, M.2) := by unfold mdel; rw [mdelL_at f3 f6 f7]
        rw [e1] at h6
        obtain ⟨p1, p2⟩ := map_write (w1 := z.w) (o := .map (es.eraseIdxIfInBounds j) M.2) (b := .map k v (M.1.eraseIdx j, M.2)) hH hg hρ rfl rfl rfl rfl (fun z' kk hz => ⟨_, hz, (a2'.erase (by
          have hj := (Array.getElem?_eq_some_iff.1 f4).1
          simp [Array.eraseIdxIfInBounds, hj])).kp kk⟩)
        refine .mk' (z' := { z with w := setO z.w g (.map (es.eraseIdxIfInBounds j) M.2) }) ?_ p1 (h0 _) p2 h6
        simp [Builtin.delete_, run_underlying hu, run_getO a1, hck, f1, run_setO a1]
    · cases h
  · cases h
end
end Go.Ab
