/- The evaluator's operations are the model's: conversions, arithmetic, comparisons. -/
import Derived.Test.YtplahfhggnkahaaA8
set_option linter.all false
namespace Go.Ab

section
variable {P : Program} {β : Type} {z : Z} {H : Hp}

/-- Elements that are read: a string's bytes, or a slice's elements. -/
def RowsRep (z : Z) (u : Ty) (m : List u.den) (v : Value) : Prop :=
  (∃ h : u = .byte, v = .string ⟨⟨Ty.toL h m⟩⟩) ∨
  ∃ A c, v = .slice A m.length c ∧ m.length ≤ c ∧ c ≤ maxLen ∧ (m.length ≠ 0 → ∃ b off, A = some ⟨b, off, none⟩ ∧ b < z.w.heap.size ∧ RowAt z.w z.M b off u m)
theorem rowsOf_ok {u : Ty} {a : AV} {K : List u.den → Option β} {r : β} {v : Value} (h : rowsOf H u a K = some r) (hH : HRep z H) (ha : ARep z a v) : ∃ m, RowsRep z u m v ∧ K m = some r := by
  have e0 : ∀ (A : Option Addr), RowsRep z u [] (.slice A 0 0) := fun A => .inr ⟨A, 0, rfl, Nat.le_refl _, by unfold maxLen; omega, fun h => absurd rfl h⟩
  unfold rowsOf at h
  split at h
  · rename_i t x
    rcases dq_iff h with ⟨ht, h⟩ | h
    · subst ht
      obtain ⟨A, c, rfl, hc, hm, hn, hA⟩ := VRep.sl (t := u) ha.v
      exact ⟨x, .inr ⟨A, c, rfl, hc, hm, fun h0 => by obtain ⟨b, off, e, _, h2, h3⟩ := hA h0; exact ⟨b, off, e, h2, h3⟩⟩, h⟩
    · rcases dq_iff h with ⟨ht, h⟩ | h
      · rcases dq_iff h with ⟨hu, h⟩ | h
        · subst ht
          obtain rfl : u = .byte := by injection hu with hu; exact hu.symm
          obtain rfl := ha.v.str
          exact ⟨x, .inl ⟨rfl, rfl⟩, h⟩
        · cases h
      · obtain ⟨l, h1, h2⟩ := ob_iff.1 h
        obtain ⟨A, c, rfl, hc, hm, hn, hA⟩ := VRep.sl (t := u) (nilSl_ok h1 ha.v)
        exact ⟨l, .inr ⟨A, c, rfl, hc, hm, fun h0 => by obtain ⟨b, off, e, _, h2, h3⟩ := hA h0; exact ⟨b, off, e, h2, h3⟩⟩, h2⟩
  · rename_i es id
    split at h
    · rename_i fz e t l hg
      rcases dq_iff h with ⟨ht, h⟩ | h
      · subst ht
        cases hb : Nat.beq es t.cells <;> rw [hb] at h <;> simp only [bq_true, bq_false] at h
        · cases h
        · obtain ⟨A, c, rfl, hc, _, hA, hml⟩ := slf_len hH hg ha
          refine ⟨l, .inr ⟨A, c, rfl, hc, hml, fun h0 => ?_⟩, h⟩
          · rcases hA with hρ | ⟨g, sz, n, hρ, rfl, hs, hm⟩
            · obtain ⟨rfl, _⟩ := hH.virt hg hρ
              exact absurd rfl h0
            · exact ⟨g, 0, rfl, (hH.real hg hρ).1, (hH.real hg hρ).2.2.2.rowAt⟩
      · cases h
    · cases h
  · rename_i es id off n
    split at h
    · rename_i fz e t l hg
      rcases dq_iff h with ⟨ht, h5⟩ | h
      · subst ht
        clear h
        cases hb : (Nat.beq es t.cells && Nat.ble (off + n) l.length) <;> rw [hb] at h5 <;> simp only [bq_true, bq_false] at h5
        · cases h5
        · simp only [Bool.and_eq_true, beq_nat, Nat.ble_eq] at hb
          obtain ⟨rfl, hb⟩ := hb
          have hlen : ((l.drop off).take n).length = n := by rw [List.length_take, List.length_drop]; omega
          have key : RowsRep z t ((l.drop off).take n) v := by
            refine .inr ?_
            rw [hlen]
            cases ha with
            | slV _ _ _ A hρ => exact ⟨A, 0, rfl, Nat.le_refl _, by unfold maxLen; omega, fun h => absurd rfl h⟩
            | slE _ _ _ g sz m o hρ => exact ⟨_, 0, rfl, Nat.le_refl _, by unfold maxLen; omega, fun h => absurd rfl h⟩
            | sl _ _ _ _ g sz m c hρ hn hs hm =>
              refine ⟨_, c, rfl, hn, hm, fun _ => ⟨g, off * t.cells, rfl, (hH.real hg hρ).1, ?_⟩⟩
              have := (hH.real hg hρ).2.2.2.rowAt.sub off n
              rwa [Nat.zero_add] at this
          exact ⟨_, key, h5⟩
      · cases h
    · cases h
  · cases h

theorem foldl_push (l : List UInt8) : ∀ (s : ByteArray), ((l.map fun c => (c.toNat : Int)).foldl (fun r n => r.push (UInt8.ofNat n.toNat)) s).data.toList = s.data.toList ++ l := by
  induction l with
  | nil => intro s; simp
  | cons c l ih =>
    intro s
    simp only [List.map_cons, List.foldl_cons]
    rw [ih]
    simp
theorem RowAt.bytes {w : World} {M : Nat → Prop} {b off : Nat} {l : List UInt8} (h : RowAt w M b off .byte l) : w.rangeAt b off (l.map fun c => Value.int .u8 (c.toNat : Int)) := fun j v hj => by
  rw [List.getElem?_map] at hj
  obtain ⟨c, h1, rfl⟩ := Option.map_eq_some_iff.1 hj
  obtain ⟨u, h2, h3⟩ := h j c h1
  simp only [Cl] at h2
  subst h2
  have := h3 0 _ rfl
  simpa [Ty.cells] using this
theorem run_toString {A : Option Addr} {l : List UInt8} {c : Nat} (hA : l.length ≠ 0 → ∃ b off, A = some ⟨b, off, none⟩ ∧ b < z.w.heap.size ∧ RowAt z.w z.M b off .byte l) :
    (Conv.bytesToString (.slice A l.length c)).run P z.w = .ok (.string ⟨⟨l⟩⟩) z.w := by
  cases A with
  | none =>
    have : l = [] := by
      rcases Nat.eq_zero_or_pos l.length with h | h
      · exact List.eq_nil_of_length_eq_zero h
      · obtain ⟨_, _, h1, _⟩ := hA (by omega); cases h1
    subst this
    simp [Conv.bytesToString]
    rfl
  | some a =>
    have hl : (loadCells a l.length).run P z.w = .ok ((l.map fun c => (c.toNat : Int)).map (Value.int .u8)).toArray z.w := by
      have := run_loadCells_list (P := P) z.w a (l.map fun c => Value.int .u8 (c.toNat : Int)) (fun j v hj => by
        have hj' : j < l.length := by
          have := (List.getElem?_eq_some_iff.1 hj).1
          simpa using this
        obtain ⟨b, off, h1, _, h3⟩ := hA (by omega)
        injection h1 with h1
        subst h1
        rw [Addr.add_mid]
        exact h3.bytes j v hj)
      simpa [Function.comp_def] using this
    rw [run_bytesToString z.w a l.length c _ hl]
    congr 2
    apply ByteArray.ext
    apply Array.ext'
    rw [foldl_push]
    rfl
theorem isB_u {e : TypeId} (h : isB P e = true) : P.underlying e = some (.int .u8) := by
  unfold isB at h
  split at h
  · assumption
  · cases h
theorem evConvert_ok {src dst : TypeId} {a : AV} {K : AV → Option β} {r : β} {v : Value} (h : evConvert P src dst a H K = some r) (hH : HRep z H) (ha : ARep z a v) : OkP P (convert src dst v) z K r := by
  unfold evConvert at h
  split at h
  · rename_i ks k hs hd
    obtain ⟨n, h1, h2⟩ := ob_iff.1 h
    obtain rfl := int?_ok h1 ha
    exact .mk' (by simp [convert, Sem.run_bind, run_underlying hs, run_underlying hd, Conv.intToInt]) (.mkI _ _) h2
  · rename_i hs hd
    obtain ⟨l, h1, h2⟩ := ob_iff.1 h
    obtain rfl := str?_ok h1 ha
    exact .mk' (by simp [convert, Sem.run_bind, run_underlying hs, run_underlying hd]) (.mkS _) h2
  · rename_i e hs hd
    cases hb : isB P e <;> rw [hb] at h <;> simp only [bq_true, bq_false] at h
    · cases h
    · obtain ⟨m, h1, h2⟩ := rowsOf_ok h hH ha
      rcases h1 with ⟨hh, rfl⟩ | ⟨A, c, rfl, q1, q2, q3⟩
      · have : Ty.toL hh m = m := rfl
        rw [this]
        exact .mk' (by simp [convert, Sem.run_bind, run_underlying hs, run_underlying hd]) (.mkS _) h2
      · refine .mk' ?_ (.mkS _) h2
        have := run_toString (P := P) (z := z) (c := c) q3
        cases A <;> simp [convert, Sem.run_bind, run_underlying hs, run_underlying hd, run_underlying (isB_u hb), this]
  · cases h
  · cases h

/-! Arithmetic -/
theorem evInt_ok {op : BinOp} {k k' : IntKind} {x y : Int} {t : TypeId} {K : AV → Option β} {r : β} (h : evInt op k x y K = some r) (hk : sameK op k k' = true) :
    OkP P (binOp op t (.int k x) (.int k' y)) z K r := by
  cases op <;> simp only [evInt] at h <;> simp only [sameK, beq_iff_eq] at hk
  case quo =>
    obtain ⟨h1, h2⟩ := need_iff.1 h
    simp only [Bool.not_eq_true', decide_eq_false_iff_not] at h1
    subst hk
    exact .mk' (by simp [binOp, Op.intDiv, h1]) (.mkI _ _) h2
  case rem =>
    obtain ⟨h1, h2⟩ := need_iff.1 h
    simp only [Bool.not_eq_true', decide_eq_false_iff_not] at h1
    subst hk
    exact .mk' (by simp [binOp, Op.intDiv, h1]) (.mkI _ _) h2
  case shl =>
    obtain ⟨h1, h2⟩ := need_iff.1 h
    simp only [decide_eq_true_eq] at h1
    exact .mk' (by simp [binOp, Op.shift, show ¬ y < 0 from by omega]) (.mkI _ _) h2
  case shr =>
    obtain ⟨h1, h2⟩ := need_iff.1 h
    simp only [decide_eq_true_eq] at h1
    exact .mk' (by simp [binOp, Op.shift, show ¬ y < 0 from by omega]) (.mkI _ _) h2
  case add => subst hk; exact .mk' (by simp [binOp, Op.intArith]) (.mkI _ _) h
  case sub => subst hk; exact .mk' (by simp [binOp, Op.intArith]) (.mkI _ _) h
  case mul => subst hk; exact .mk' (by simp [binOp, Op.intArith]) (.mkI _ _) h
  case and => subst hk; exact .mk' (by simp [binOp, Op.intBits, bitsI]) (.mkI _ _) h
  case or => subst hk; exact .mk' (by simp [binOp, Op.intBits, bitsI]) (.mkI _ _) h
  case xor => subst hk; exact .mk' (by simp [binOp, Op.intBits, bitsI]) (.mkI _ _) h
  case andNot => subst hk; exact .mk' (by simp [binOp, Op.intBits, bitsI]) (.mkI _ _) h
  case eql => subst hk; exact .mk' (by simp [binOp, Op.intCmp]) (.mkB _) h
  case neq => subst hk; exact .mk' (by simp [binOp, Op.intCmp, bne]) (.mkB _) h
  case lss => subst hk; exact .mk' (by simp [binOp, Op.intCmp]) (.mkB _) h
  case leq => subst hk; exact .mk' (by simp [binOp, Op.intCmp]) (.mkB _) h
  case gtr => subst hk; exact .mk' (by simp [binOp, Op.intCmp]) (.mkB _) h
  case geq => subst hk; exact .mk' (by simp [binOp, Op.intCmp]) (.mkB _) h
theorem bytes_toList (l : List UInt8) : (⟨⟨l⟩⟩ : ByteArray).toList = l := by rw [ByteArray.toList_eq]
theorem bytes_append (l m : List UInt8) : (⟨⟨l⟩⟩ : ByteArray) ++ (⟨⟨m⟩⟩ : ByteArray) = ⟨⟨l ++ m⟩⟩ := by
  apply ByteArray.ext
  rw [ByteArray.data_append]
  simp
theorem evStr_ok {op : BinOp} {x y : List UInt8} {t : TypeId} {K : AV → Option β} {r : β} (h : evStr op x y K = some r) : OkP P (binOp op t (.string ⟨⟨x⟩⟩) (.string ⟨⟨y⟩⟩)) z K r := by
  cases op <;> simp only [evStr] at h <;> first | (cases h; done) | skip
  case add =>
    obtain ⟨h1, h2⟩ := need_iff.1 h
    rw [Nat.ble_eq] at h1
    refine .mk' ?_ (.mkS _) h2
    have : ¬ (((⟨⟨x⟩⟩ : ByteArray).size + (⟨⟨y⟩⟩ : ByteArray).size : Nat) : Int) > IntKind.i64.max := by
      show ¬ ((x.length + y.length : Nat) : Int) > _
      have : IntKind.i64.max = 9223372036854775807 := by decide
      unfold room at h1
      omega
    simp only [binOp, Op.stringOp]
    rw [if_neg this, bytes_append]
    rfl
  all_goals exact .mk' (by simp only [binOp, Op.stringOp, bytes_toList]; rfl) (.mkB _) h

/-! Comparisons -/
theorem eqFs_ok {f : TypeId → Ty → Bool} {d : Nat} (w : World) {M : Nat → Prop}
    (hf : ∀ t u, f t u = true → ∀ (x y : u.den) (vx vy : Value), VRep w M u x vx → VRep w M u y vy → (Op.equalIn d t vx vy).run P w = .ok (u.eqb x y) w)
    (hagg : ∀ t u, f t u = true → 0 < u.cells ∧ (u.isAgg = true → isAggT P t = true) ∧ (u.isAgg = false → isScal P t = true)) :
    ∀ (fs : List Field) (o : Nat) (u : Ty), eqFs P f fs o u = true → ∀ (x y : u.den) (xs ys : Array Value), Cl w M u x ((xs.toList.drop o).take u.cells) → Cl w M u y ((ys.toList.drop o).take u.cells) →
      (Op.eqFields d xs ys fs).run P w = .ok (u.eqb x y) w := by
  have part1 : ∀ (x : Field) (o : Nat) (u : Ty), (x.name != "_" && Nat.beq x.offset o && Nat.beq (P.cellsOf x.type) u.cells && f x.type u) = true → ∀ (a : u.den) (xs : Array Value), Cl w M u a ((xs.toList.drop o).take u.cells) →
      x.name ≠ "_" ∧ ∃ v, (part x.type xs x.offset).run P w = .ok v w ∧ VRep w M u a v := by
    intro x o u h a xs hc
    simp only [Bool.and_eq_true, bne_iff_ne, ne_eq, beq_nat] at h
    obtain ⟨⟨⟨h1, rfl⟩, h3⟩, h4⟩ := h
    obtain ⟨g1, g2, g3⟩ := hagg _ _ h4
    refine ⟨h1, ?_⟩
    have hl := hc.len
    cases hg : u.isAgg
    · have hcells : u.cells = 1 := by cases u <;> first | rfl | (simp [Ty.isAgg] at hg; done)
      match hvs : (xs.toList.drop x.offset).take u.cells, hl with
      | [], hl => rw [hcells] at hl; simp at hl
      | _ :: _ :: _, hl => rw [hcells] at hl; simp at hl
      | [v], _ =>
        rw [hvs] at hc
        have hv : xs[x.offset]? = some v := by
          have : ((xs.toList.drop x.offset).take u.cells)[0]? = some v := by rw [hvs]; rfl
          rw [hcells] at this
          simpa using this
        exact ⟨v, run_part_scal w (g3 hg) hv, .mkSc hc hg⟩
    · refine ⟨_, run_part_agg w (g2 hg) h3 (by omega), ⟨_, hc, ?_⟩⟩
      rw [hg]
      simp only [cond_true]
      congr 1
      apply Array.ext'
      rw [Array.toList_extract, List.extract_eq_take_drop, Nat.add_sub_cancel_left]
  intro fs
  induction fs with
  | nil => intro o u h; simp [eqFs] at h
  | cons x fs ih =>
    intro o u h a b xs ys ha hb
    match fs, u, h with
    | [], u, h =>
      have h' : (x.name != "_" && Nat.beq x.offset o && Nat.beq (P.cellsOf x.type) u.cells && f x.type u) = true := by
        cases u <;> simpa only [eqFs] using h
      obtain ⟨h1, v1, q1, q2⟩ := part1 x o u h' a xs ha
      obtain ⟨_, v2, p1, p2⟩ := part1 x o u h' b ys hb
      have hfx : f x.type u = true := by
        simp only [Bool.and_eq_true] at h'; exact h'.2
      have := hf _ _ hfx a b v1 v2 q2 p2
      simp only [Op.eqFields, h1, ne_eq, not_false_eq_true, if_true, Sem.run_bind, q1, p1, this, Result.andThen_ok]
      cases u.eqb a b <;> simp
    | y :: fs, .pair s t, h =>
      simp only [eqFs] at h
      have h' : (x.name != "_" && Nat.beq x.offset o && Nat.beq (P.cellsOf x.type) s.cells && f x.type s) = true ∧ eqFs P f (y :: fs) (o + s.cells) t = true := by
        simp only [Bool.and_eq_true] at h ⊢; exact h
      obtain ⟨h', h''⟩ := h'
      obtain ⟨u1, u2, e1, c1, c2⟩ := ha
      obtain ⟨w1, w2, e2, d1, d2⟩ := hb
      have cut : ∀ (l v1 v2 : List Value), (l.drop o).take (Ty.pair s t).cells = v1 ++ v2 → v1.length = s.cells → v2.length = t.cells → (l.drop o).take s.cells = v1 ∧ (l.drop (o + s.cells)).take t.cells = v2 := by
        intro l v1 v2 e l1 l2
        simp only [Ty.cells] at e
        constructor
        · rw [show (l.drop o).take s.cells = ((l.drop o).take (s.cells + t.cells)).take s.cells from by rw [List.take_take, Nat.min_eq_left (by omega)], e, List.take_append_of_le_length (by omega), List.take_of_length_le (by omega)]
        · rw [show (l.drop (o + s.cells)).take t.cells = ((l.drop o).take (s.cells + t.cells)).drop s.cells from by rw [List.drop_take, List.drop_drop, Nat.add_sub_cancel_left], e, List.drop_append_of_le_length (by omega), List.drop_of_length_le (by omega), List.nil_append]
      obtain ⟨ea1, ea2⟩ := cut _ _ _ e1 c1.len c2.len
      obtain ⟨eb1, eb2⟩ := cut _ _ _ e2 d1.len d2.len
      obtain ⟨h1, v1, q1, q2⟩ := part1 x o s h' a.1 xs (by rw [ea1]; exact c1)
      obtain ⟨_, v2, p1, p2⟩ := part1 x o s h' b.1 ys (by rw [eb1]; exact d1)
      have hfx : f x.type s = true := by
        simp only [Bool.and_eq_true] at h'; exact h'.2
      have := hf _ _ hfx a.1 b.1 v1 v2 q2 p2
      have hr := ih (o + s.cells) t h'' a.2 b.2 xs ys (by rw [ea2]; exact c2) (by rw [eb2]; exact d2)
      rw [Op.eqFields]
      simp only [h1, ne_eq, not_false_eq_true, if_true, Sem.run_bind, q1, p1, this, Result.andThen_ok]
      simp only [Ty.eqb]
      cases s.eqb a.1 b.1
      · simp
      · simp only [Bool.not_true, Bool.false_eq_true, if_false, Bool.true_and]
        exact hr
    | _ :: _, .one _, h | _ :: _, .int _, h | _ :: _, .byte, h | _ :: _, .bool, h | _ :: _, .str, h | _ :: _, .opq, h | _ :: _, .nat, h | _ :: _, .sl _, h | _ :: _, .arr _ _, h => simp [eqFs] at h
end
end Go.Ab
