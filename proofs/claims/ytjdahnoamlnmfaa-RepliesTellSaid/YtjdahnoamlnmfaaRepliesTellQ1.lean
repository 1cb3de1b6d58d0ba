/- What the functions compute; the plain law. -/
import Derived.Test.YtjdahnoamlnmfaaRepliesTellD2
set_option linter.all false
/- Tools for plain proofs about decompiled functions: numbers in bounds, indexes, loops. -/
namespace Go.Ab

/-! Numbers in bounds -/
theorem w64 {x : Int} (h : -9223372036854775808 ≤ x ∧ x ≤ 9223372036854775807) : IntKind.wrap .i64 x = x := by
  simp only [IntKind.wrap, IntKind.bits, IntKind.signed]; simp; omega
theorem wu64 {x : Int} (h : 0 ≤ x ∧ x ≤ 18446744073709551615) : IntKind.wrap .u64 x = x := by
  simp only [IntKind.wrap, IntKind.bits, IntKind.signed]; simp; omega
theorem wu32 {x : Int} (h : 0 ≤ x ∧ x ≤ 4294967295) : IntKind.wrap .u32 x = x := by
  simp only [IntKind.wrap, IntKind.bits, IntKind.signed]; simp; omega
theorem wu16 {x : Int} (h : 0 ≤ x ∧ x ≤ 65535) : IntKind.wrap .u16 x = x := by
  simp only [IntKind.wrap, IntKind.bits, IntKind.signed]; simp; omega
theorem wu8 {x : Int} (h : 0 ≤ x ∧ x ≤ 255) : IntKind.wrap .u8 x = x := by
  simp only [IntKind.wrap, IntKind.bits, IntKind.signed]; simp; omega
theorem wu8_mod (x : Int) : IntKind.wrap .u8 x = x % 256 := by
  simp only [IntKind.wrap, IntKind.bits, IntKind.signed]; simp
theorem wu32_mod (x : Int) : IntKind.wrap .u32 x = x % 4294967296 := by
  simp only [IntKind.wrap, IntKind.bits, IntKind.signed]; simp
theorem wu64_mod (x : Int) : IntKind.wrap .u64 x = x % 18446744073709551616 := by
  simp only [IntKind.wrap, IntKind.bits, IntKind.signed]; simp
theorem bv_nat (n a : Nat) (h : a < 2 ^ n) : BitVec.ofInt n (a : Int) = BitVec.ofNat n a := by simp
theorem bits_xor (k : IntKind) {a b : Nat} (ha : a < 2 ^ k.bits) (hb : b < 2 ^ k.bits) (hw : ∀ x : Int, 0 ≤ x ∧ x < 2 ^ k.bits → k.wrap x = x) : bitsI .xor k a b = ((a ^^^ b : Nat) : Int) := by
  have h := Nat.xor_lt_two_pow ha hb
  simp only [bitsI, BitVec.ofInt_natCast, ← BitVec.ofNat_xor, BitVec.toNat_ofNat, Nat.mod_eq_of_lt h]
  exact hw _ ⟨by omega, by exact_mod_cast h⟩
theorem bits_or (k : IntKind) {a b : Nat} (ha : a < 2 ^ k.bits) (hb : b < 2 ^ k.bits) (hw : ∀ x : Int, 0 ≤ x ∧ x < 2 ^ k.bits → k.wrap x = x) : bitsI .or k a b = ((a ||| b : Nat) : Int) := by
  have h := Nat.or_lt_two_pow ha hb
  simp only [bitsI, BitVec.ofInt_natCast, ← BitVec.ofNat_or, BitVec.toNat_ofNat, Nat.mod_eq_of_lt h]
  exact hw _ ⟨by omega, by exact_mod_cast h⟩
theorem bits_and (k : IntKind) {a b : Nat} (ha : a < 2 ^ k.bits) (hb : b < 2 ^ k.bits) (hw : ∀ x : Int, 0 ≤ x ∧ x < 2 ^ k.bits → k.wrap x = x) : bitsI .and k a b = ((a &&& b : Nat) : Int) := by
  have h := Nat.and_lt_two_pow (y := b) a hb
  simp only [bitsI, BitVec.ofInt_natCast, ← BitVec.ofNat_and, BitVec.toNat_ofNat, Nat.mod_eq_of_lt h]
  exact hw _ ⟨by omega, by exact_mod_cast h⟩
theorem xor8 {a b : Nat} (ha : a < 256) (hb : b < 256) : bitsI .xor .u8 a b = ((a ^^^ b : Nat) : Int) := bits_xor .u8 ha hb fun x h => wu8 ⟨h.1, by have := h.2; simp [IntKind.bits] at this; omega⟩
theorem xor32 {a b : Nat} (ha : a < 4294967296) (hb : b < 4294967296) : bitsI .xor .u32 a b = ((a ^^^ b : Nat) : Int) := bits_xor .u32 ha hb fun x h => wu32 ⟨h.1, by have := h.2; simp [IntKind.bits] at this; omega⟩
theorem and32 {a b : Nat} (ha : a < 4294967296) (hb : b < 4294967296) : bitsI .and .u32 a b = ((a &&& b : Nat) : Int) := bits_and .u32 ha hb fun x h => wu32 ⟨h.1, by have := h.2; simp [IntKind.bits] at this; omega⟩
theorem fdiv_nat (a b : Nat) : Int.fdiv (a : Int) (b : Int) = ((a / b : Nat) : Int) := by
  rw [Int.fdiv_eq_ediv_of_nonneg _ (by omega)]; rfl

/-! Indexes -/
theorem idx_nat {i n : Nat} (h : i < n) : idx? (i : Int) n = some i := by simp [idx?, h]
theorem idx_int {x : Int} {n : Nat} (h0 : 0 ≤ x) (h : x < n) : idx? x n = some x.toNat := by simp [idx?, h0, h]
theorem upto_nat {i n : Nat} (h : i ≤ n) : upto? (i : Int) n = some i := by simp [upto?, h]
theorem upto_int {x : Int} {n : Nat} (h0 : 0 ≤ x) (h : x ≤ n) : upto? x n = some x.toNat := by simp [upto?, h0, h]
theorem byte_nat {n : Nat} (h : n < 256) : byte? (n : Int) = some (UInt8.ofNat n) := by
  have : (n : Int) < 256 := by omega
  simp [byte?, this]
theorem need_true {β : Type} {b : Bool} {K : Option β} (h : b = true) : need b K = K := by subst h; rfl
theorem ble_true {a b : Nat} (h : a ≤ b) : Nat.ble a b = true := Nat.ble_eq_true_of_le h
theorem nilQ_same {β : Type} {n : Nat} {K : Bool → Option β} (h : n = 0 → K true = K false) : nilQ n K = K false := by
  unfold nilQ
  rw [if_pos h]
theorem roomIs : room = 140737488355328 := rfl

/-! Loops -/
theorem fuel_big {n : Nat} (h : n < 4611686018427387904) : ∃ m, fuel = m + (n + 1) := ⟨4611686018427387903 - n, by unfold fuel; omega⟩
theorem iter_steps {τ ο : Type} {f : τ → Option (τ ⊕ ο)} (S : Nat → τ) : ∀ (n m : Nat), (∀ k, k < n → f (S k) = some (.inl (S (k + 1)))) → iter (m + n) f (S 0) = iter m f (S n)
  | 0, m, _ => rfl
  | n + 1, m, h => by
    have e : m + (n + 1) = (m + 1) + n := by omega
    rw [e, iter_steps S n (m + 1) fun k hk => h k (by omega)]
    show (f (S n)).ob _ = _
    rw [h n (by omega)]
    rfl
/-- A loop of n rounds. -/
theorem iter_range {τ ο : Type} {f : τ → Option (τ ⊕ ο)} {o : ο} (S : Nat → τ) (n : Nat) (hn : n < 4611686018427387904) (hs : ∀ k, k < n → f (S k) = some (.inl (S (k + 1)))) (he : f (S n) = some (.inr o)) : iter fuel f (S 0) = some o := by
  obtain ⟨m, hm⟩ := fuel_big hn
  have e : fuel = (m + 1) + n := by omega
  rw [e, iter_steps S n (m + 1) hs]
  show (f (S n)).ob _ = _
  rw [he]
  rfl
/-- A loop by a relation between its state and what is yet to do. -/
theorem iter_rel {τ ο : Type} {f : τ → Option (τ ⊕ ο)} {o : ο} (I : Nat → τ → Prop) (hs : ∀ n s, I (n + 1) s → ∃ s', f s = some (.inl s') ∧ I n s') (he : ∀ s, I 0 s → f s = some (.inr o)) : ∀ (n : Nat) (s : τ), n < 4611686018427387904 → I n s → iter fuel f s = some o := by
  have main : ∀ (n m : Nat) (s : τ), n < m → I n s → iter m f s = some o := fun n => by
    induction n with
    | zero =>
      intro m s hm hi
      obtain ⟨m, rfl⟩ : ∃ k, m = k + 1 := ⟨m - 1, by omega⟩
      show (f s).ob _ = _
      rw [he s hi]
      rfl
    | succ n ih =>
      intro m s hm hi
      obtain ⟨m, rfl⟩ : ∃ k, m = k + 1 := ⟨m - 1, by omega⟩
      obtain ⟨s', h1, h2⟩ := hs n s hi
      show (f s).ob _ = _
      rw [h1]
      exact ih m s' (by omega) h2
  exact fun n s hn hi => main n fuel s hn hi
/-! Loops, step by step -/
theorem iter_inl {τ ο : Type} {f : τ → Option (τ ⊕ ο)} {s s' : τ} {n : Nat} (h : f s = some (.inl s')) : iter (n + 1) f s = iter n f s' := by
  show (f s).ob _ = _
  rw [h]
  rfl
theorem iter_inr {τ ο : Type} {f : τ → Option (τ ⊕ ο)} {s : τ} {o : ο} {n : Nat} (h : f s = some (.inr o)) : iter (n + 1) f s = some o := by
  show (f s).ob _ = _
  rw [h]
  rfl
theorem fuelS (n : Nat) (h : n < 4611686018427387904) : ∃ m, fuel = m + n + 1 := ⟨4611686018427387903 - n, by unfold fuel; omega⟩
/-- A loop, by a relation; what comes out is told by a property. -/
theorem iter_ex {τ ο : Type} {f : τ → Option (τ ⊕ ο)} (I : Nat → τ → Prop) (Q : ο → Prop) (hs : ∀ n s, I (n + 1) s → (∃ s', f s = some (.inl s') ∧ I n s') ∨ ∃ o, f s = some (.inr o) ∧ Q o) (he : ∀ s, I 0 s → ∃ o, f s = some (.inr o) ∧ Q o) : ∀ (n : Nat) (s : τ), n < 4611686018427387904 → I n s → ∃ o, iter fuel f s = some o ∧ Q o := by
  have main : ∀ (n m : Nat) (s : τ), n < m → I n s → ∃ o, iter m f s = some o ∧ Q o := fun n => by
    induction n with
    | zero =>
      intro m s hm hi
      obtain ⟨m, rfl⟩ : ∃ k, m = k + 1 := ⟨m - 1, by omega⟩
      obtain ⟨o, h1, h2⟩ := he s hi
      exact ⟨o, iter_inr h1, h2⟩
    | succ n ih =>
      intro m s hm hi
      obtain ⟨m, rfl⟩ : ∃ k, m = k + 1 := ⟨m - 1, by omega⟩
      rcases hs n s hi with ⟨s', h1, h2⟩ | ⟨o, h1, h2⟩
      · rw [iter_inl h1]
        exact ih m s' (by omega) h2
      · exact ⟨o, iter_inr h1, h2⟩
  exact fun n s hn hi => main n fuel s hn hi
theorem bind_ex {α β : Type} {x : Option α} {k : α → Option β} (R : Option β → Prop) (P : α → Prop) (h : ∃ v, x = some v ∧ P v) (hk : ∀ v, P v → R (k v)) : R (x.bind k) := by
  obtain ⟨v, rfl, hv⟩ := h
  exact hk v hv
theorem iter_fuel_inr {τ ο : Type} {f : τ → Option (τ ⊕ ο)} {s : τ} {o : ο} (h : f s = some (.inr o)) : iter fuel f s = some o := by
  obtain ⟨n, hn⟩ := fuelS 0 (by omega)
  rw [hn]
  exact iter_inr h
end Go.Ab

/- Layer 21 again, answers: which are right; by the program, by the document. -/
set_option maxRecDepth 100000
namespace Go.Ab.D
open Go Go.Ab
abbrev EntT : Type := List UInt8 × Int
abbrev ReplyT : Type := Int × (Int × (Int × ((Int × Int) × (Bool × (Int × (List UInt8 × (List EntT × (Bool × Int))))))))
abbrev CallT : Type := Int × (Int × (UInt8 × ((Int × Int) × (List UInt8 × ((Int × Int) × (List UInt8 × (Int × (Int × List UInt8))))))))
def whoseB (a b : Int) : Bool := decide (0 ≤ a ∧ a < 16 ∧ 1 ≤ b ∧ b ≤ 1099511627776)
theorem whose_is (a b : Int) : call_whose fuel a b = some (whoseB a b) := by
  unfold call_whose whoseB
  by_cases h1 : a ≥ 0 <;> by_cases h2 : a < 16 <;> by_cases h3 : b ≥ 1 <;> by_cases h4 : b ≤ 1099511627776 <;>
    simp [h1, h2, h3, h4] <;> omega
def handleB (h : Int × Int) : Bool := decide (1 ≤ h.1 ∧ h.1 ≤ 500 ∧ 1 ≤ h.2 ∧ h.2 ≤ 1099511627776)
theorem handle_is (h : Int × Int) : handle_Right fuel h = some (handleB h) := by
  unfold handle_Right handleB
  by_cases h1 : h.1 ≥ 1 <;> by_cases h2 : h.1 ≤ 500 <;> by_cases h3 : h.2 ≥ 1 <;> by_cases h4 : h.2 ≤ 1099511627776 <;>
    simp [h1, h2, h3, h4] <;> omega
def entOk (e : EntT) : Bool := decide (1 ≤ e.1.length ∧ e.1.length ≤ 100 ∧ 1 ≤ e.2 ∧ e.2 ≤ 500)
def noneB (h : Int × Int) : Bool := (h.1 == 0) && (h.2 == 0)
def rightReply (r : ReplyT) : Bool :=
  whoseB r.1 r.2.1 && (decide (0 ≤ r.2.2.1 ∧ r.2.2.1 ≤ 1000) && (if r.2.2.1 ≠ 0 then
    noneB r.2.2.2.1 && (!r.2.2.2.2.1 && (!r.2.2.2.2.2.2.2.2.1 && ((r.2.2.2.2.2.1 == 0) && ((r.2.2.2.2.2.2.2.2.2 == 0) && decide (r.2.2.2.2.2.2.1 = [] ∧ r.2.2.2.2.2.2.2.1 = [])))))
  else (noneB r.2.2.2.1 || handleB r.2.2.2.1) && (decide (0 ≤ r.2.2.2.2.2.1 ∧ r.2.2.2.2.2.1 ≤ 65536) && (decide (0 ≤ r.2.2.2.2.2.2.2.2.2 ∧ r.2.2.2.2.2.2.2.2.2 ≤ 1099511627776) &&
    (r.2.2.2.2.2.2.2.1.all entOk && (decide (r.2.2.2.2.2.2.1.length ≤ 4096) && decide (r.2.2.2.2.2.2.2.1.length ≤ 100)))))))
theorem entl_is {b0 : Bool} {x1 x2 x3 h1 h2 : Int} {d : Bool} {sz : Int} {bs : List UInt8} {es : List EntT} {mo : Bool} {fr : Int} (hes : es.length < 4611686018427387904) :
    call_RightReply_l0_it fuel (b0, (x1, (x2, (x3, (h1, (h2, (d, (sz, (bs, (es, (mo, fr))))))))))) (0, (x1, (x2, (x3, (h1, (h2, (d, (sz, (bs, (es, (mo, fr))))))))))) = some (if es.all entOk = true then .inl (x1, (x2, (x3, (h1, (h2, (d, (sz, (bs, (es, (mo, fr)))))))))) else .inr false) := by
  unfold call_RightReply_l0_it
  have := iter_ex (f := fun tt : Int × (Int × (Int × (Int × (Int × (Int × (Bool × (Int × (List UInt8 × (List EntT × (Bool × Int)))))))))) => call_RightReply_l0 fuel (b0, (x1, (x2, (x3, (h1, (h2, (d, (sz, (bs, (es, (mo, fr))))))))))) tt.1 tt.2.1 tt.2.2.1 tt.2.2.2.1 tt.2.2.2.2.1 tt.2.2.2.2.2.1 tt.2.2.2.2.2.2.1 tt.2.2.2.2.2.2.2.1 tt.2.2.2.2.2.2.2.2.1 tt.2.2.2.2.2.2.2.2.2.1 tt.2.2.2.2.2.2.2.2.2.2.1 tt.2.2.2.2.2.2.2.2.2.2.2)
    (fun n s => ∃ k : Nat, s = ((k : Int), (x1, (x2, (x3, (h1, (h2, (d, (sz, (bs, (es, (mo, fr))))))))))) ∧ k + n = es.length ∧ (es.take k).all entOk = true)
    (fun o => o = if es.all entOk = true then .inl (x1, (x2, (x3, (h1, (h2, (d, (sz, (bs, (es, (mo, fr)))))))))) else .inr false)
    (fun n s ⟨k, hs, hk, ha⟩ => by
      subst hs
      have hk' : k < es.length := by omega
      show (∃ s', call_RightReply_l0 fuel _ (k : Int) x1 x2 x3 h1 h2 d sz bs es mo fr = _ ∧ _) ∨ ∃ o, call_RightReply_l0 fuel _ (k : Int) x1 x2 x3 h1 h2 d sz bs es mo fr = _ ∧ _
      unfold call_RightReply_l0
      simp only
      rw [decide_eq_true (show (k : Int) < ((es.length : Nat) : Int) by omega), idx_nat hk', w64 (x := (k : Int) + 1) ⟨by omega, by omega⟩]
      simp only [cond_true, Option.bind_some, List.getElem?_eq_getElem hk']
      have htk : (es.take (k + 1)).all entOk = ((es.take k).all entOk && entOk es[k]) := by rw [List.take_succ_eq_append_getElem hk', List.all_append]; simp
      have hbad : entOk es[k] = false → es.all entOk = false := fun h => by
        rw [List.all_eq_false]
        exact ⟨es[k], List.getElem_mem hk', by rw [h]; simp⟩
      generalize es[k] = en at htk hbad ⊢
      obtain ⟨nm, id⟩ := en
      by_cases g : entOk (nm, id) = true
      · left
        have g' := g
        unfold entOk at g'
        simp only [decide_eq_true_eq] at g'
        rw [decide_eq_false (show ¬ ((nm.length : Nat) : Int) < 1 by omega), decide_eq_false (show ¬ ((nm.length : Nat) : Int) > 100 by omega), decide_eq_false (show ¬ id < 1 by omega), decide_eq_false (show ¬ id > 500 by omega)]
        exact ⟨_, rfl, k + 1, rfl, by omega, by rw [htk, ha, g]; rfl⟩
      · right
        have g0 : entOk (nm, id) = false := by simpa using g
        rw [hbad g0]
        refine ⟨_, ?_, rfl⟩
        have g' := g0
        unfold entOk at g'
        simp only [decide_eq_false_iff_not] at g'
        by_cases q1 : ((nm.length : Nat) : Int) < 1
        · rw [decide_eq_true q1]; rfl
        · by_cases q2 : ((nm.length : Nat) : Int) > 100
          · rw [decide_eq_false q1, decide_eq_true q2]; rfl
          · by_cases q3 : id < 1
            · rw [decide_eq_false q1, decide_eq_false q2, decide_eq_true q3]; rfl
            · have q4 : id > 500 := by omega
              rw [decide_eq_false q1, decide_eq_false q2, decide_eq_false q3, decide_eq_true q4]; rfl)
    (fun s ⟨k, hs, hk, ha⟩ => by
      subst hs
      have : k = es.length := by omega
      subst this
      rw [List.take_length] at ha
      rw [ha]
      refine ⟨_, ?_, rfl⟩
      show call_RightReply_l0 fuel _ ((es.length : Nat) : Int) x1 x2 x3 h1 h2 d sz bs es mo fr = _
      unfold call_RightReply_l0
      simp only
      rw [decide_eq_false (by omega)]
      rfl)
    es.length (0, (x1, (x2, (x3, (h1, (h2, (d, (sz, (bs, (es, (mo, fr))))))))))) hes ⟨0, rfl, by omega, by simp⟩
  obtain ⟨o, e1, e2⟩ := this
  rw [e1, e2]
theorem rightReply_is {r : ReplyT} (hb : r.2.2.2.2.2.2.1.length < 1000000000000000000) (he : r.2.2.2.2.2.2.2.1.length < 1000000000000000000) : call_RightReply fuel r = some (rightReply r) := by
  obtain ⟨x1, x2, x3, ⟨h1, h2⟩, d, sz, bs, es, mo, fr⟩ := r
  simp only at hb he
  unfold call_RightReply rightReply
  simp only
  rw [whose_is]
  simp only [Option.bind_some]
  cases whoseB x1 x2 with
  | false => rfl
  | true =>
    simp only [Bool.not_true, cond_false, Bool.true_and]
    by_cases e1 : x3 < 0
    · rw [decide_eq_true e1, decide_eq_false (show ¬ (0 ≤ x3 ∧ x3 ≤ 1000) by omega)]; rfl
    by_cases e2 : x3 > 1000
    · rw [decide_eq_false e1, decide_eq_true e2, decide_eq_false (show ¬ (0 ≤ x3 ∧ x3 ≤ 1000) by omega)]; rfl
    rw [decide_eq_false e1, decide_eq_false e2, decide_eq_true (show 0 ≤ x3 ∧ x3 ≤ 1000 by omega)]
    simp only [cond_false, Option.bind_some, Bool.true_and]
    by_cases e3 : x3 = 0
    · rw [if_neg (by simpa using e3), beq_iff_eq.2 e3]
      simp only [Bool.not_true, cond_false]
      have hn : ((h1 == 0) && (h2 == 0)) = noneB (h1, h2) := rfl
      rw [hn]
      have tail : ∀ b0 : Bool, (bif b0 then some false else (call_RightReply_l0_it fuel (b0, (x1, (x2, (x3, (h1, (h2, (d, (sz, (bs, (es, (mo, fr))))))))))) (0, (x1, (x2, (x3, (h1, (h2, (d, (sz, (bs, (es, (mo, fr)))))))))))).bind fun o4 =>
          match o4 with
          | .inl s =>
            bif (decide (((s.2.2.2.2.2.2.2.1.length : Nat) : Int) ≤ 4096)) then
              some (decide (((s.2.2.2.2.2.2.2.2.1.length : Nat) : Int) ≤ 100))
            else
              some false
          | .inr o5 =>
            some o5) = some (!b0 && (es.all entOk && (decide (bs.length ≤ 4096) && decide (es.length ≤ 100)))) := by
        intro b0
        cases b0 with
        | true => rfl
        | false =>
          simp only [cond_false, Bool.not_false, Bool.true_and]
          rw [entl_is (by omega)]
          simp only [Option.bind_some]
          cases es.all entOk with
          | false => rfl
          | true =>
            simp only [if_true, Bool.true_and]
            by_cases q1 : bs.length ≤ 4096
            · rw [decide_eq_true q1, decide_eq_true (show ((bs.length : Nat) : Int) ≤ 4096 by omega)]
              by_cases q2 : es.length ≤ 100
              · rw [decide_eq_true q2, decide_eq_true (show ((es.length : Nat) : Int) ≤ 100 by omega)]; rfl
              · rw [decide_eq_false q2, decide_eq_false (show ¬ ((es.length : Nat) : Int) ≤ 100 by omega)]; rfl
            · rw [decide_eq_false q1, decide_eq_false (show ¬ ((bs.length : Nat) : Int) ≤ 4096 by omega)]; rfl
      have mid : ∀ z : Bool, (bif decide (sz < 0) then some (true, (x1, (x2, (x3, (h1, (h2, (d, (sz, (bs, (es, (mo, fr))))))))))) else bif decide (sz > 65536) then some (true, (x1, (x2, (x3, (h1, (h2, (d, (sz, (bs, (es, (mo, fr))))))))))) else bif decide (fr < 0) then some (true, (x1, (x2, (x3, (h1, (h2, (d, (sz, (bs, (es, (mo, fr))))))))))) else some (decide (fr > 1099511627776), (x1, (x2, (x3, (h1, (h2, (d, (sz, (bs, (es, (mo, fr)))))))))))) = some (!(decide (0 ≤ sz ∧ sz ≤ 65536) && decide (0 ≤ fr ∧ fr ≤ 1099511627776)), (x1, (x2, (x3, (h1, (h2, (d, (sz, (bs, (es, (mo, fr))))))))))) := by
        intro _
        by_cases q1 : sz < 0
        · rw [decide_eq_true q1, decide_eq_false (show ¬ (0 ≤ sz ∧ sz ≤ 65536) by omega)]; rfl
        by_cases q2 : sz > 65536
        · rw [decide_eq_false q1, decide_eq_true q2, decide_eq_false (show ¬ (0 ≤ sz ∧ sz ≤ 65536) by omega)]; rfl
        rw [decide_eq_false q1, decide_eq_false q2, decide_eq_true (show 0 ≤ sz ∧ sz ≤ 65536 by omega)]
        by_cases q3 : fr < 0
        · rw [decide_eq_true q3, decide_eq_false (show ¬ (0 ≤ fr ∧ fr ≤ 1099511627776) by omega)]; rfl
        by_cases q4 : fr > 1099511627776
        · rw [decide_eq_false q3, decide_eq_true q4, decide_eq_false (show ¬ (0 ≤ fr ∧ fr ≤ 1099511627776) by omega)]; rfl
        rw [decide_eq_false q3, decide_eq_false q4, decide_eq_true (show 0 ≤ fr ∧ fr ≤ 1099511627776 by omega)]; rfl
      cases hnone : noneB (h1, h2) with
      | true =>
        simp only [Bool.not_true, cond_false, Bool.true_or, Bool.true_and]
        rw [mid true]
        simp only [Option.bind_some]
        refine (tail _).trans ?_
        simp only [Bool.not_not, Bool.and_assoc]
      | false =>
        simp only [Bool.not_false, cond_true, Bool.false_or]
        rw [handle_is]
        simp only [Option.bind_some]
        cases handleB (h1, h2) with
        | false => rfl
        | true =>
          simp only [Bool.not_true, cond_false, Bool.true_and]
          rw [mid true]
          simp only [Option.bind_some]
          refine (tail _).trans ?_
          simp only [Bool.not_not, Bool.and_assoc]
    · rw [if_pos e3, beq_eq_false_iff_ne.2 e3]
      simp only [Bool.not_false, cond_true]
      have hn : ((h1 == 0) && (h2 == 0)) = noneB (h1, h2) := rfl
      rw [hn, w64 ⟨by omega, by omega⟩]
      have hl : ((((bs.length : Nat) : Int) + ((es.length : Nat) : Int)) == 0) = decide (bs = [] ∧ es = []) := by
        by_cases q : bs = [] ∧ es = []
        · obtain ⟨rfl, rfl⟩ := q
          rfl
        · rw [decide_eq_false q, beq_eq_false_iff_ne]
          intro hc
          apply q
          exact ⟨List.eq_nil_of_length_eq_zero (by omega), List.eq_nil_of_length_eq_zero (by omega)⟩
      rw [hl]
      cases noneB (h1, h2) <;> cases d <;> cases mo <;> cases (sz == 0) <;> cases (fr == 0) <;> rfl
theorem huge_is (c : CallT) (r : ReplyT) : ∃ h, law21_Huge fuel c r = some h ∧ (h = false → r.2.2.2.2.2.2.1.length ≤ 5000 ∧ r.2.2.2.2.2.2.2.1.length ≤ 120) := by
  obtain ⟨x1, x2, x3, ⟨h1, h2⟩, d, sz, bs, es, mo, fr⟩ := r
  unfold law21_Huge
  simp only
  have it : ∀ b0 : Bool, es.length ≤ 120 → ∃ o, law21_Huge_l0_it fuel (b0, (x1, (x2, (x3, (h1, (h2, (d, (sz, (bs, (es, (mo, fr))))))))))) (0, (x1, (x2, (x3, (h1, (h2, (d, (sz, (bs, (es, (mo, fr))))))))))) = some o := by
    intro b0 he
    unfold law21_Huge_l0_it
    have := iter_ex (f := fun tt : Int × (Int × (Int × (Int × (Int × (Int × (Bool × (Int × (List UInt8 × (List EntT × (Bool × Int)))))))))) => law21_Huge_l0 fuel (b0, (x1, (x2, (x3, (h1, (h2, (d, (sz, (bs, (es, (mo, fr))))))))))) tt.1 tt.2.1 tt.2.2.1 tt.2.2.2.1 tt.2.2.2.2.1 tt.2.2.2.2.2.1 tt.2.2.2.2.2.2.1 tt.2.2.2.2.2.2.2.1 tt.2.2.2.2.2.2.2.2.1 tt.2.2.2.2.2.2.2.2.2.1 tt.2.2.2.2.2.2.2.2.2.2.1 tt.2.2.2.2.2.2.2.2.2.2.2)
      (fun n s => ∃ k : Nat, s = ((k : Int), (x1, (x2, (x3, (h1, (h2, (d, (sz, (bs, (es, (mo, fr))))))))))) ∧ k + n = es.length)
      (fun _ => True)
      (fun n s ⟨k, hs, hk⟩ => by
        subst hs
        have hk' : k < es.length := by omega
        show (∃ s', law21_Huge_l0 fuel _ (k : Int) x1 x2 x3 h1 h2 d sz bs es mo fr = _ ∧ _) ∨ ∃ o, law21_Huge_l0 fuel _ (k : Int) x1 x2 x3 h1 h2 d sz bs es mo fr = _ ∧ _
        unfold law21_Huge_l0
        simp only
        rw [decide_eq_true (show (k : Int) < ((es.length : Nat) : Int) by omega), idx_nat hk', w64 (x := (k : Int) + 1) ⟨by omega, by omega⟩]
        simp only [cond_true, Option.bind_some, List.getElem?_eq_getElem hk']
        by_cases q : ((es[k].1.length : Nat) : Int) > 3000
        · right
          rw [decide_eq_true q]
          exact ⟨_, rfl, trivial⟩
        · left
          rw [decide_eq_false q]
          exact ⟨_, rfl, k + 1, rfl, by omega⟩)
      (fun s ⟨k, hs, hk⟩ => by
        subst hs
        have : k = es.length := by omega
        subst this
        refine ⟨.inl (), ?_, trivial⟩
        show law21_Huge_l0 fuel _ ((es.length : Nat) : Int) x1 x2 x3 h1 h2 d sz bs es mo fr = _
        unfold law21_Huge_l0
        simp only
        rw [decide_eq_false (by omega)]
        rfl)
      es.length (0, (x1, (x2, (x3, (h1, (h2, (d, (sz, (bs, (es, (mo, fr))))))))))) (by omega) ⟨0, rfl, by omega⟩
    obtain ⟨o, e1, _⟩ := this
    exact ⟨o, e1⟩
  have rest : ∀ b0 : Bool, (b0 = false → bs.length ≤ 5000 ∧ es.length ≤ 120) → ∃ h, (bif b0 then some true else (law21_Huge_l0_it fuel (b0, (x1, (x2, (x3, (h1, (h2, (d, (sz, (bs, (es, (mo, fr))))))))))) (0, (x1, (x2, (x3, (h1, (h2, (d, (sz, (bs, (es, (mo, fr)))))))))))).bind fun o1 =>
      match o1 with
      | .inl s => some false
      | .inr o2 => some o2) = some h ∧ (h = false → bs.length ≤ 5000 ∧ es.length ≤ 120) := by
    intro b0 hb0
    cases b0 with
    | true => exact ⟨true, rfl, fun h => by cases h⟩
    | false =>
      obtain ⟨o, ho⟩ := it false (hb0 rfl).2
      rw [ho]
      cases o with
      | inl _ => exact ⟨false, rfl, fun _ => hb0 rfl⟩
      | inr b => exact ⟨b, rfl, fun _ => hb0 rfl⟩
  by_cases q1 : ((c.2.2.2.2.1.length : Nat) : Int) > 3000
  · rw [decide_eq_true q1]; exact rest true (fun h => by cases h)
  · by_cases q2 : ((c.2.2.2.2.2.2.1.length : Nat) : Int) > 3000
    · rw [decide_eq_false q1, decide_eq_true q2]; exact rest true (fun h => by cases h)
    · by_cases q3 : ((c.2.2.2.2.2.2.2.2.2.length : Nat) : Int) > 5000
      · rw [decide_eq_false q1, decide_eq_false q2, decide_eq_true q3]; exact rest true (fun h => by cases h)
      · by_cases q4 : ((bs.length : Nat) : Int) > 5000
        · rw [decide_eq_false q1, decide_eq_false q2, decide_eq_false q3, decide_eq_true q4]; exact rest true (fun h => by cases h)
        · rw [decide_eq_false q1, decide_eq_false q2, decide_eq_false q3, decide_eq_false q4]
          exact rest _ (fun h => by have := of_decide_eq_false h; exact ⟨by omega, by omega⟩)
theorem sameBytes_self (b : List UInt8) (hb : b.length ≤ 100000000) : low_SameBytes fuel b b = some true := by
  unfold low_SameBytes
  first
    | (rw [need_true (ble_true (by rw [roomIs]; omega)), need_true (ble_true (by rw [roomIs]; omega))]; simp)
    | simp
theorem sameEnts_self (es : List EntT) (he : es.length ≤ 100000000) : kit_SameEntries fuel es es = some true := by
  unfold kit_SameEntries kit_SameEntries_l0_it
  simp only [beq_self_eq_true, Bool.not_true, cond_false]
  have := iter_range (f := fun tt : Int => kit_SameEntries_l0 fuel es es tt) (o := .inl ()) (fun k => (k : Int)) es.length (by omega) (fun k hk => by
    show kit_SameEntries_l0 fuel es es (k : Int) = _
    unfold kit_SameEntries_l0
    rw [decide_eq_true (by omega), idx_nat hk]
    simp only [cond_true, Option.bind_some, List.getElem?_eq_getElem hk, beq_self_eq_true, Bool.and_self, Bool.not_true, cond_false]
    rw [w64 ⟨by omega, by omega⟩]
    rfl) (by
    show kit_SameEntries_l0 fuel es es ((es.length : Nat) : Int) = _
    unfold kit_SameEntries_l0
    rw [decide_eq_false (by omega)]
    rfl)
  have this2 : iter fuel (fun tt : Int => kit_SameEntries_l0 fuel es es tt) 0 = some (.inl ()) := this
  rw [this2]
  rfl
theorem sameReply_self (r : ReplyT) (hb : r.2.2.2.2.2.2.1.length ≤ 100000000) (he : r.2.2.2.2.2.2.2.1.length ≤ 100000000) : law21_SameReply fuel r r = some true := by
  unfold law21_SameReply
  simp only [beq_self_eq_true, cond_true, Bool.and_self]
  rw [sameBytes_self _ hb]
  simp only [Option.bind_some, cond_true]
  rw [sameEnts_self _ he]
  rfl
end Go.Ab.D

/- Layer 21 again, answers: the document's own. -/
set_option maxRecDepth 100000
namespace Go.Ab.D
open Go Go.Ab
theorem ref20_is (h : Int × Int) : ref20_Right fuel h = some (handleB h) := by
  unfold ref20_Right handleB
  by_cases h1 : h.1 ≥ 1 <;> by_cases h2 : h.1 ≤ 500 <;> by_cases h3 : h.2 ≥ 1 <;> by_cases h4 : h.2 ≤ 1099511627776 <;>
    simp [h1, h2, h3, h4] <;> omega
theorem orK {α : Type} (a b : Bool) (S : α) : (bif a then some (true, S) else some (b, S)) = some (a || b, S) := by cases a <;> rfl
theorem orK2 {α : Type} (a b : Bool) (S : α) : (bif a then some (b, S) else some (true, S)) = some (!a || b, S) := by cases a <;> rfl
theorem andK (a b : Bool) : (bif a then some false else some b) = some (!a && b) := by cases a <;> rfl
theorem andK2 (a b : Bool) : (bif a then some b else some false) = some (a && b) := by cases a <;> rfl
theorem selfK {α : Type} (a : Bool) (S : α) : (bif a then some (a, S) else some (false, S)) = some (a, S) := by cases a <;> rfl
theorem beqS (l : List UInt8) : (l == []) = decide (l.length = 0) := by cases l <;> rfl
theorem rentl_is {x1 x2 x3 h1 h2 : Int} {d : Bool} {sz : Int} {bs : List UInt8} {es : List EntT} {mo : Bool} {fr : Int} (hes : es.length < 4611686018427387904) :
    ref21_RightReply_l0_it fuel (0, (x1, (x2, (x3, (h1, (h2, (d, (sz, (bs, (es, (mo, fr))))))))))) = some (if es.all entOk = true then .inl () else .inr false) := by
  unfold ref21_RightReply_l0_it
  have := iter_ex (f := fun tt : Int × (Int × (Int × (Int × (Int × (Int × (Bool × (Int × (List UInt8 × (List EntT × (Bool × Int)))))))))) => ref21_RightReply_l0 fuel tt.1 tt.2.1 tt.2.2.1 tt.2.2.2.1 tt.2.2.2.2.1 tt.2.2.2.2.2.1 tt.2.2.2.2.2.2.1 tt.2.2.2.2.2.2.2.1 tt.2.2.2.2.2.2.2.2.1 tt.2.2.2.2.2.2.2.2.2.1 tt.2.2.2.2.2.2.2.2.2.2.1 tt.2.2.2.2.2.2.2.2.2.2.2)
    (fun n s => ∃ k : Nat, s = ((k : Int), (x1, (x2, (x3, (h1, (h2, (d, (sz, (bs, (es, (mo, fr))))))))))) ∧ k + n = es.length ∧ (es.take k).all entOk = true)
    (fun o => o = if es.all entOk = true then .inl () else .inr false)
    (fun n s ⟨k, hs, hk, ha⟩ => by
      subst hs
      have hk' : k < es.length := by omega
      show (∃ s', ref21_RightReply_l0 fuel (k : Int) x1 x2 x3 h1 h2 d sz bs es mo fr = _ ∧ _) ∨ ∃ o, ref21_RightReply_l0 fuel (k : Int) x1 x2 x3 h1 h2 d sz bs es mo fr = _ ∧ _
      unfold ref21_RightReply_l0
      try simp only
      rw [decide_eq_true (show (k : Int) < ((es.length : Nat) : Int) by omega), idx_nat hk', w64 (x := (k : Int) + 1) ⟨by omega, by omega⟩]
      simp only [cond_true, Option.bind_some, List.getElem?_eq_getElem hk']
      have htk : (es.take (k + 1)).all entOk = ((es.take k).all entOk && entOk es[k]) := by rw [List.take_succ_eq_append_getElem hk', List.all_append]; simp
      have hbad : entOk es[k] = false → es.all entOk = false := fun h => by
        rw [List.all_eq_false]
        exact ⟨es[k], List.getElem_mem hk', by rw [h]; simp⟩
      generalize es[k] = en at htk hbad ⊢
      obtain ⟨nm, id⟩ := en
      by_cases g : entOk (nm, id) = true
      · left
        have g' := g
        unfold entOk at g'
        simp only [decide_eq_true_eq] at g'
        rw [decide_eq_false (show ¬ ((nm.length : Nat) : Int) < 1 by omega), decide_eq_false (show ¬ ((nm.length : Nat) : Int) > 100 by omega), decide_eq_false (show ¬ id < 1 by omega), decide_eq_false (show ¬ id > 500 by omega)]
        exact ⟨_, rfl, k + 1, rfl, by omega, by rw [htk, ha, g]; rfl⟩
      · right
        have g0 : entOk (nm, id) = false := by simpa using g
        rw [hbad g0]
        refine ⟨_, ?_, rfl⟩
        have g' := g0
        unfold entOk at g'
        simp only [decide_eq_false_iff_not] at g'
        by_cases q1 : ((nm.length : Nat) : Int) < 1
        · rw [decide_eq_true q1]; rfl
        · by_cases q2 : ((nm.length : Nat) : Int) > 100
          · rw [decide_eq_false q1, decide_eq_true q2]; rfl
          · by_cases q3 : id < 1
            · rw [decide_eq_false q1, decide_eq_false q2, decide_eq_true q3]; rfl
            · have q4 : id > 500 := by omega
              rw [decide_eq_false q1, decide_eq_false q2, decide_eq_false q3, decide_eq_true q4]; rfl)
    (fun s ⟨k, hs, hk, ha⟩ => by
      subst hs
      have : k = es.length := by omega
      subst this
      rw [List.take_length] at ha
      rw [ha]
      refine ⟨_, ?_, rfl⟩
      show ref21_RightReply_l0 fuel ((es.length : Nat) : Int) x1 x2 x3 h1 h2 d sz bs es mo fr = _
      unfold ref21_RightReply_l0
      try simp only
      rw [decide_eq_false (by omega)]
      rfl)
    es.length (0, (x1, (x2, (x3, (h1, (h2, (d, (sz, (bs, (es, (mo, fr))))))))))) hes ⟨0, rfl, by omega, by simp⟩
  obtain ⟨o, e1, e2⟩ := this
  rw [e1, e2]
theorem condK {α : Type} (a : Bool) (x y : Bool) (S : α) : (bif a then some (x, S) else some (y, S)) = some (bif a then x else y, S) := by cases a <;> rfl
theorem beqL {α : Type} (l : List α) : (((l.length : Nat) : Int) == 0) = decide (l.length = 0) := by
  by_cases h : l.length = 0
  · rw [h]; rfl
  · rw [decide_eq_false h]; exact beq_eq_false_iff_ne.2 (by omega)
theorem condOr (a b : Bool) : (bif a then true else b) = (a || b) := by cases a <;> rfl
theorem rright_is {r : ReplyT} (he : r.2.2.2.2.2.2.2.1.length < 1000000000000000000) : ref21_RightReply fuel r = some (rightReply r) := by
  obtain ⟨x1, x2, x3, ⟨h1, h2⟩, d, sz, bs, es, mo, fr⟩ := r
  simp only at he
  unfold ref21_RightReply
  simp only [orK, ref20_is, Option.bind_some, condK, andK2]
  rw [rentl_is (by omega)]
  simp only [Option.bind_some]
  by_cases hx : x3 = 0
  · subst hx
    simp only [beq_self_eq_true, Bool.not_true, cond_false]
    by_cases ha : es.all entOk = true
    · rw [if_pos ha]
      simp only [andK]
      congr 1
      rw [Bool.eq_iff_iff]
      unfold rightReply
      simp only [ha, noneB, handleB, whoseB]
      generalize hz : (h1 == 0 && h2 == 0) = z
      cases z <;> simp only [Bool.not_true, Bool.not_false, Bool.and_eq_true, Bool.or_eq_true, Bool.not_eq_true', Bool.not_eq_false', decide_eq_true_eq, decide_eq_false_iff_not, Bool.or_eq_false_iff, beq_iff_eq, cond_true, cond_false, beq_eq_false_iff_ne, ne_eq, Bool.false_or, Bool.true_or, Bool.true_and, Bool.false_and, Bool.false_eq_true, Bool.or_false, and_true, not_true, not_false_iff, if_true, if_false, condOr, true_and, Bool.and_true, Bool.true_or] <;> omega
    · rw [if_neg ha]
      have hr : rightReply (x1, x2, 0, (h1, h2), d, sz, bs, es, mo, fr) = false := by
        unfold rightReply
        have ha' : es.all entOk = false := by simpa using ha
        simp only [ha', Bool.false_and, Bool.and_false, ne_eq, not_true, if_false]
      rw [hr]
      simp only [andK, Bool.and_false]
  · rw [beq_eq_false_iff_ne.2 hx]
    simp only [Bool.not_false, cond_true, andK, andK2, Option.bind_some]
    congr 1
    rw [Bool.eq_iff_iff]
    unfold rightReply
    simp only [noneB, handleB, whoseB, beqL, hx, Bool.and_eq_true, Bool.or_eq_true, Bool.not_eq_true', Bool.not_eq_false', decide_eq_true_eq, decide_eq_false_iff_not, Bool.or_eq_false_iff, beq_iff_eq, cond_true, cond_false, beq_eq_false_iff_ne, ne_eq, Bool.false_or, Bool.true_or, Bool.true_and, Bool.false_and, Bool.false_eq_true, Bool.or_false, and_true, not_true, not_false_iff, if_true, if_false, condOr, true_and, Bool.and_true, Bool.true_or, ← List.length_eq_zero_iff]
    cases d <;> cases mo <;> simp only [Bool.false_eq_true, Bool.true_eq_false, and_false, false_and, and_true, true_and, iff_false, not_false_iff] <;> omega
end Go.Ab.D

/- Loops over lists, in plain words: a loop is a run over the list. -/
namespace Go.Ab
/-- A run over a list, with the place of each; a step may end it. -/
def runL {α σ ο : Type} (step : Nat → σ → α → σ ⊕ ο) (fin : σ → ο) : Nat → σ → List α → ο
  | _, a, [] => fin a
  | k, a, x :: l => match step k a x with
    | .inl a' => runL step fin (k + 1) a' l
    | .inr o => o
section
variable {α σ τ ο : Type}
theorem run_loop_at (l : List α) (f : τ → Option (τ ⊕ ο)) (S : Nat → σ → τ) (step : Nat → σ → α → σ ⊕ ο) (fin : σ → ο) (I : Nat → σ → Prop) (hl : l.length < 4611686018427387904)
    (hs : ∀ k x a, l[k]? = some x → I k a → f (S k a) = some (match step k a x with | .inl a' => .inl (S (k + 1) a') | .inr o => .inr o) ∧ ∀ a', step k a x = .inl a' → I (k + 1) a')
    (he : ∀ a, I l.length a → f (S l.length a) = some (.inr (fin a))) (k0 : Nat) (hk : k0 ≤ l.length) (a0 : σ) (h0 : I k0 a0) : iter fuel f (S k0 a0) = some (runL step fin k0 a0 (l.drop k0)) := by
  have main : ∀ (n m k : Nat) (a : σ), k + n = l.length → n < m → I k a → iter m f (S k a) = some (runL step fin k a (l.drop k)) := by
    intro n
    induction n with
    | zero =>
      intro m k a hk hm hi
      obtain rfl : k = l.length := by omega
      obtain ⟨m, rfl⟩ : ∃ q, m = q + 1 := ⟨m - 1, by omega⟩
      rw [iter_inr (he a hi), List.drop_length]
      rfl
    | succ n ih =>
      intro m k a hk hm hi
      have hkl : k < l.length := by omega
      obtain ⟨m, rfl⟩ : ∃ q, m = q + 1 := ⟨m - 1, by omega⟩
      obtain ⟨h1, h2⟩ := hs k _ a (List.getElem?_eq_getElem hkl) hi
      rw [List.drop_eq_getElem_cons hkl]
      show _ = some (match step k a l[k] with | .inl a' => runL step fin (k + 1) a' (l.drop (k + 1)) | .inr o => o)
      cases hq : step k a l[k] with
      | inl a' =>
        rw [hq] at h1
        rw [iter_inl h1]
        exact ih m (k + 1) a' (by omega) (by omega) (h2 a' hq)
      | inr o =>
        rw [hq] at h1
        rw [iter_inr h1]
  exact main (l.length - k0) fuel k0 a0 (by omega) (by unfold fuel; omega) h0
theorem run_loop (l : List α) (f : τ → Option (τ ⊕ ο)) (S : Nat → σ → τ) (step : Nat → σ → α → σ ⊕ ο) (fin : σ → ο) (I : Nat → σ → Prop) (hl : l.length < 4611686018427387904)
    (hs : ∀ k x a, l[k]? = some x → I k a → f (S k a) = some (match step k a x with | .inl a' => .inl (S (k + 1) a') | .inr o => .inr o) ∧ ∀ a', step k a x = .inl a' → I (k + 1) a')
    (he : ∀ a, I l.length a → f (S l.length a) = some (.inr (fin a))) (a0 : σ) (h0 : I 0 a0) : iter fuel f (S 0 a0) = some (runL step fin 0 a0 l) :=
  run_loop_at l f S step fin I hl hs he 0 (Nat.zero_le _) a0 h0
/-- Every one must be so. -/
theorem all_loop (l : List α) (p : α → Bool) (f : τ → Option (τ ⊕ ο)) (S : Nat → τ) (good bad : ο) (hl : l.length < 4611686018427387904)
    (hs : ∀ k x, l[k]? = some x → f (S k) = some (if p x = true then .inl (S (k + 1)) else .inr bad))
    (he : f (S l.length) = some (.inr good)) : iter fuel f (S 0) = some (if l.all p = true then good else bad) := by
  have := run_loop l f (fun k (_ : Unit) => S k) (fun _ _ x => if p x = true then .inl () else .inr bad) (fun _ => good) (fun _ _ => True) hl (fun k x a hx _ => by
    rw [hs k x hx]
    by_cases hp : p x = true
    · rw [if_pos hp, if_pos hp]; exact ⟨rfl, fun _ _ => trivial⟩
    · rw [if_neg hp, if_neg hp]; exact ⟨rfl, fun _ _ => trivial⟩) (fun a _ => he) () trivial
  refine this.trans ?_
  congr 1
  have g : ∀ (l : List α) (k : Nat), runL (fun _ (_ : Unit) x => if p x = true then .inl () else .inr bad) (fun _ => good) k () l = if l.all p = true then good else bad := by
    intro l
    induction l with
    | nil => intro k; rfl
    | cons x l ih =>
      intro k
      unfold runL
      by_cases hp : p x = true
      · simp only [hp, if_true, List.all_cons, Bool.true_and]; exact ih _
      · simp [hp]
  exact g l 0
/-- A search by halves: n is the place of the first one that is not less. -/
theorem bs_loop (f : Int × Int → Option ((Int × Int) ⊕ Int)) (n N : Nat) (hn : n ≤ N) (hN : N ≤ 1000000000000)
    (hs : ∀ i j : Nat, i < j → j ≤ N → f ((i : Int), (j : Int)) = some (.inl (if (i + j) / 2 < n then ((((i + j) / 2 + 1 : Nat) : Int), (j : Int)) else ((i : Int), (((i + j) / 2 : Nat) : Int)))))
    (he : ∀ i : Nat, f ((i : Int), (i : Int)) = some (.inr (i : Int))) : iter fuel f (0, (N : Int)) = some (n : Int) := by
  have := iter_ex (f := f) (fun m s => ∃ i j : Nat, s = ((i : Int), (j : Int)) ∧ i ≤ n ∧ n ≤ j ∧ j ≤ N ∧ j - i ≤ m) (fun o => o = (n : Int)) (fun m s hI => ?_) (fun s hI => ?_) N (0, (N : Int)) (by omega) ⟨0, N, rfl, by omega, hn, by omega, by omega⟩
  · obtain ⟨o, h1, h2⟩ := this; rw [h1, h2]
  · obtain ⟨i, j, rfl, h1, h2, h3, h4⟩ := hI
    by_cases hij : i < j
    · left
      rw [hs i j hij h3]
      by_cases hc : (i + j) / 2 < n
      · rw [if_pos hc]; exact ⟨_, rfl, (i + j) / 2 + 1, j, rfl, by omega, by omega, h3, by omega⟩
      · rw [if_neg hc]; exact ⟨_, rfl, i, (i + j) / 2, rfl, by omega, by omega, by omega, by omega⟩
    · right
      obtain rfl : i = j := by omega
      exact ⟨_, he i, by omega⟩
  · obtain ⟨i, j, rfl, h1, h2, h3, h4⟩ := hI
    obtain rfl : i = j := by omega
    exact ⟨_, he i, by omega⟩
end
theorem half_is {i j : Nat} (h : i + j ≤ 4000000000000) : IntKind.wrap .i64 (Int.fdiv (IntKind.wrap .u64 (IntKind.wrap .i64 ((i : Int) + (j : Int)))) 2) = (((i + j) / 2 : Nat) : Int) := by
  rw [w64 (x := (i : Int) + j) ⟨by omega, by omega⟩, wu64 ⟨by omega, by omega⟩]
  have : Int.fdiv ((i : Int) + (j : Int)) 2 = (((i + j) / 2 : Nat) : Int) := by
    have := fdiv_nat (i + j) 2
    rw [← this]; congr 1
  rw [this, w64 ⟨by omega, by omega⟩]
/-- How many at the front are so. -/
def pre {α : Type} (p : α → Bool) : List α → Nat
  | [] => 0
  | x :: l => if p x = true then pre p l + 1 else 0
theorem pre_le {α : Type} (p : α → Bool) : ∀ l : List α, pre p l ≤ l.length
  | [] => Nat.le_refl _
  | x :: l => by
    unfold pre
    split
    · have := pre_le p l; simp; omega
    · omega
theorem pre_lt {α : Type} (p : α → Bool) : ∀ (l : List α) (k : Nat) (x : α), k < pre p l → l[k]? = some x → p x = true
  | [], k, x, h, hx => by simp at hx
  | y :: l, 0, x, h, hx => by
    unfold pre at h
    split at h
    · rename_i hp; simp at hx; subst hx; exact hp
    · omega
  | y :: l, k + 1, x, h, hx => by
    unfold pre at h
    split at h
    · exact pre_lt p l k x (by omega) (by simpa using hx)
    · omega
theorem pre_at {α : Type} (p : α → Bool) : ∀ (l : List α) (x : α), l[pre p l]? = some x → p x = false
  | [], x, hx => by simp at hx
  | y :: l, x, hx => by
    unfold pre at hx
    split at hx
    · exact pre_at p l x (by simpa using hx)
    · rename_i hp; simp at hx; subst hx; simpa using hp
theorem take_pre {α : Type} (p : α → Bool) : ∀ (l : List α), ∀ x ∈ l.take (pre p l), p x = true := fun l x hx => by
  obtain ⟨k, hk⟩ := List.getElem?_of_mem hx
  rw [List.getElem?_take] at hk
  split at hk
  · rename_i h; exact pre_lt p l k x h hk
  · cases hk
end Go.Ab

/- Layer 23: which caches are right; what is looked up. -/
set_option maxRecDepth 100000
namespace Go.Ab.D
open Go Go.Ab
abbrev KeptT : Type := Int × (Int × List ReplyT)
abbrev CacheT : Type := Int × List KeptT
theorem cloneQ {α : Type} {l : List α} {c : Bool} (hc : c = true) : (nilQ l.length fun isNil => bif isNil then some [] else need c <| some l) = some l := by
  subst hc
  rw [nilQ_same (fun h0 => by
    have : l = [] := List.eq_nil_of_length_eq_zero h0
    subst this
    rfl)]
  rfl
theorem cloneB {l : List UInt8} (h : l.length ≤ 1000000000) : slices_Clone__byte_byte fuel l = some l := cloneQ (by rw [ble_true (by rw [roomIs]; omega), ble_true (by rw [roomIs]; omega)]; rfl)
theorem cloneE {l : List EntT} (h : l.length ≤ 1000000000) : slices_Clone__api_Entry_api_Entry fuel l = some l := cloneQ (by rw [ble_true (by rw [roomIs]; omega), ble_true (by rw [roomIs]; omega)]; rfl)
theorem cloneK {l : List KeptT} (h : l.length ≤ 1000000000) : slices_Clone__api_Kept_api_Kept fuel l = some l := cloneQ (by rw [ble_true (by rw [roomIs]; omega), ble_true (by rw [roomIs]; omega)]; rfl)
theorem cloneR {l : List ReplyT} (h : l.length ≤ 1000000000) : slices_Clone__api_Reply_api_Reply fuel l = some l := cloneQ (by rw [ble_true (by rw [roomIs]; omega), ble_true (by rw [roomIs]; omega)]; rfl)
def smallR (r : ReplyT) : Prop := r.2.2.2.2.2.2.1.length ≤ 100000 ∧ r.2.2.2.2.2.2.2.1.length ≤ 100000
def smallK (k : KeptT) : Prop := k.2.2.length ≤ 1000 ∧ ∀ r ∈ k.2.2, smallR r
def smallC (c : CacheT) : Prop := c.2.length ≤ 1000 ∧ ∀ k ∈ c.2, smallK k
/-- An answer in the shape in which own gives it. -/
def ownO (r : ReplyT) : Int × (Int × (Int × (Int × (Int × (Bool × (Int × (Bool × (Int × (List UInt8 × List EntT))))))))) :=
  (r.1, (r.2.1, (r.2.2.1, (r.2.2.2.1.1, (r.2.2.2.1.2, (r.2.2.2.2.1, (r.2.2.2.2.2.1, (r.2.2.2.2.2.2.2.2.1, (r.2.2.2.2.2.2.2.2.2, (r.2.2.2.2.2.2.1, r.2.2.2.2.2.2.2.1))))))))))
theorem own_is {r : ReplyT} (h : smallR r) : replies_own fuel r = some (ownO r) := by
  unfold replies_own
  rw [cloneB (by have := h.1; omega), cloneE (by have := h.2; omega)]
  rfl
/-! Right ones -/
def rightOf (cl : Int) : Int → List ReplyT → Bool
  | _, [] => true
  | last, r :: l => (r.1 == cl) && (decide (last < r.2.1) && (rightReply r && rightOf cl r.2.1 l))
def keptB (w : Int) (k : KeptT) : Bool := decide (0 ≤ k.2.1) && (decide (k.2.1 ≤ 1099511627776) && (decide (((k.2.2.length : Nat) : Int) ≤ w) && rightOf k.1 k.2.1 k.2.2))
def clientsB (w : Int) : Int → List KeptT → Bool
  | _, [] => true
  | last, k :: l => decide (last < k.1) && (decide (k.1 < 16) && (keptB w k && clientsB w k.1 l))
def rightC (c : CacheT) : Bool := clientsB c.1 (-1) c.2 && decide (1 ≤ c.1 ∧ c.1 ≤ 100)
theorem kept1_is (r : ReplyT) (last cl gone : Int) (l : List ReplyT) (h : smallR r) : replies_kept_1 fuel r last cl gone l = some (!((r.1 == cl) && (decide (last < r.2.1) && rightReply r)), (r.2.1, (cl, (gone, l)))) := by
  unfold replies_kept_1
  have e : call_RightReply fuel (r.1, (r.2.1, (r.2.2.1, ((r.2.2.2.1.1, r.2.2.2.1.2), (r.2.2.2.2.1, (r.2.2.2.2.2.1, (r.2.2.2.2.2.2.1, (r.2.2.2.2.2.2.2.1, (r.2.2.2.2.2.2.2.2.1, r.2.2.2.2.2.2.2.2.2))))))))) = some (rightReply r) := rightReply_is (r := r) (by have := h.1; omega) (by have := h.2; omega)
  rw [e]
  cases r.1 == cl with
  | false => rfl
  | true =>
    by_cases q : r.2.1 ≤ last
    · rw [decide_eq_true q, decide_eq_false (show ¬ last < r.2.1 by omega)]; rfl
    · rw [decide_eq_false q, decide_eq_true (show last < r.2.1 by omega)]; rfl
theorem contains_is (cl gone : Int) (l : List ReplyT) (hl : l.length ≤ 1000) (h : ∀ r ∈ l, smallR r) : ∃ st, slices_ContainsFunc__api_Reply_api_Reply_f11 fuel l gone cl gone l = some (!rightOf cl gone l, st) := by
  unfold slices_ContainsFunc__api_Reply_api_Reply_f11 slices_IndexFunc__api_Reply_api_Reply_f11 slices_IndexFunc__api_Reply_api_Reply_f11_l0_it
  have := run_loop l (fun tt : Int × (Int × (Int × (Int × List ReplyT))) => slices_IndexFunc__api_Reply_api_Reply_f11_l0 fuel l tt.1 tt.2.1 tt.2.2.1 tt.2.2.2.1 tt.2.2.2.2)
    (fun k (last : Int) => ((k : Int), (last, (cl, (gone, l)))))
    (fun k last r => if ((r.1 == cl) && (decide (last < r.2.1) && rightReply r)) = true then .inl r.2.1 else .inr (.inr ((k : Int), (r.2.1, (cl, (gone, l))))))
    (fun last => .inl (last, (cl, (gone, l)))) (fun _ _ => True) (by omega)
    (fun k r last hr _ => by
      have hk : k < l.length := (List.getElem?_eq_some_iff.1 hr).1
      refine ⟨?_, fun _ _ => trivial⟩
      show slices_IndexFunc__api_Reply_api_Reply_f11_l0 fuel l (k : Int) last cl gone l = _
      unfold slices_IndexFunc__api_Reply_api_Reply_f11_l0
      rw [decide_eq_true (by omega), idx_nat hk]
      simp only [cond_true, Option.bind_some, hr]
      rw [kept1_is r last cl gone l (h r (List.mem_of_getElem? hr)), w64 ⟨by omega, by omega⟩]
      cases (r.1 == cl) && (decide (last < r.2.1) && rightReply r) <;> rfl)
    (fun last _ => by
      show slices_IndexFunc__api_Reply_api_Reply_f11_l0 fuel l ((l.length : Nat) : Int) last cl gone l = _
      unfold slices_IndexFunc__api_Reply_api_Reply_f11_l0
      rw [decide_eq_false (by omega)]
      rfl) gone trivial
  have this' : iter fuel (fun tt : Int × (Int × (Int × (Int × List ReplyT))) => slices_IndexFunc__api_Reply_api_Reply_f11_l0 fuel l tt.1 tt.2.1 tt.2.2.1 tt.2.2.2.1 tt.2.2.2.2) (0, (gone, (cl, (gone, l)))) = _ := this
  rw [this']
  have g : ∀ (m : List ReplyT) (k : Nat) (last : Int), (∃ s, runL (fun k last (r : ReplyT) => if ((r.1 == cl) && (decide (last < r.2.1) && rightReply r)) = true then .inl r.2.1 else .inr (.inr ((k : Int), (r.2.1, (cl, (gone, l)))))) (fun last => (.inl (last, (cl, (gone, l))) : (Int × (Int × (Int × List ReplyT))) ⊕ (Int × (Int × (Int × (Int × List ReplyT)))))) k last m = .inl s ∧ rightOf cl last m = true) ∨ ∃ (n : Nat) (s : _), runL (fun k last (r : ReplyT) => if ((r.1 == cl) && (decide (last < r.2.1) && rightReply r)) = true then .inl r.2.1 else .inr (.inr ((k : Int), (r.2.1, (cl, (gone, l)))))) (fun last => (.inl (last, (cl, (gone, l))) : (Int × (Int × (Int × List ReplyT))) ⊕ (Int × (Int × (Int × (Int × List ReplyT)))))) k last m = .inr ((n : Int), s) ∧ rightOf cl last m = false := by
    intro m
    induction m with
    | nil => intro k last; exact .inl ⟨_, rfl, rfl⟩
    | cons r m ih =>
      intro k last
      unfold runL rightOf
      by_cases q : ((r.1 == cl) && (decide (last < r.2.1) && rightReply r)) = true
      · simp only [q, if_true]
        simp only [Bool.and_eq_true] at q
        simp only [q.1, q.2.1, q.2.2, Bool.true_and]
        exact ih (k + 1) r.2.1
      · simp only [q]
        refine .inr ⟨k, _, rfl, ?_⟩
        rw [← Bool.and_assoc, ← Bool.and_assoc, Bool.and_assoc (r.1 == cl)]
        simp only [q, Bool.false_and]
  rcases g l 0 gone with ⟨s, h1, h2⟩ | ⟨n, s, h1, h2⟩
  · rw [h1, h2]
    exact ⟨_, rfl⟩
  · rw [h1, h2]
    simp only [Option.bind_some]
    rw [decide_eq_true (show (n : Int) ≥ 0 by omega)]
    exact ⟨_, rfl⟩
theorem kept_is (k : KeptT) (w : Int) (h : smallK k) : replies_kept fuel k w = some (keptB w k) := by
  unfold replies_kept keptB
  obtain ⟨st, hst⟩ := contains_is k.1 k.2.1 k.2.2 h.1 h.2
  rw [hst]
  simp only [Option.bind_some, Bool.not_not, andK2, ge_iff_le]
theorem right_is (c : CacheT) (h : smallC c) : replies_Right fuel c = some (rightC c) := by
  obtain ⟨w, ks⟩ := c
  unfold replies_Right replies_Right_l0_it rightC
  have := run_loop ks (fun tt : Int × (Int × (Int × List KeptT)) => replies_Right_l0 fuel (w, ks) tt.1 tt.2.1 tt.2.2.1 tt.2.2.2)
    (fun k (last : Int) => (last, ((k : Int), (w, ks))))
    (fun _ last k => if (decide (last < k.1) && (decide (k.1 < 16) && keptB w k)) = true then .inl k.1 else .inr (.inr false))
    (fun _ => .inl (w, ks)) (fun _ _ => True) (by have := h.1; simp only at this; omega)
    (fun n k last hk _ => by
      have hn : n < ks.length := (List.getElem?_eq_some_iff.1 hk).1
      have h1 := h.1
      simp only at h1
      refine ⟨?_, fun _ _ => trivial⟩
      show replies_Right_l0 fuel (w, ks) last (n : Int) w ks = _
      unfold replies_Right_l0
      simp only
      rw [decide_eq_true (by omega), idx_nat hn]
      simp only [cond_true, Option.bind_some, hk]
      have e : replies_kept fuel (k.1, (k.2.1, k.2.2)) w = some (keptB w k) := kept_is k w (h.2 k (List.mem_of_getElem? hk))
      rw [e, w64 ⟨by omega, by omega⟩]
      simp only [Option.bind_some, orK]
      by_cases q1 : last < k.1
      · by_cases q2 : k.1 < 16
        · rw [decide_eq_true q1, decide_eq_true q2, decide_eq_false (show ¬ k.1 ≤ last by omega), decide_eq_false (show ¬ k.1 ≥ 16 by omega)]
          cases keptB w k <;> rfl
        · rw [decide_eq_true q1, decide_eq_false q2, decide_eq_false (show ¬ k.1 ≤ last by omega), decide_eq_true (show k.1 ≥ 16 by omega)]
          rfl
      · rw [decide_eq_false q1, decide_eq_true (show k.1 ≤ last by omega)]
        rfl)
    (fun last _ => by
      show replies_Right_l0 fuel (w, ks) last ((ks.length : Nat) : Int) w ks = _
      unfold replies_Right_l0
      simp only
      rw [decide_eq_false (by omega)]
      rfl) (-1) trivial
  have this' : iter fuel (fun tt : Int × (Int × (Int × List KeptT)) => replies_Right_l0 fuel (w, ks) tt.1 tt.2.1 tt.2.2.1 tt.2.2.2) (-1, (0, (w, ks))) = _ := this
  simp only
  rw [this']
  have g : ∀ (m : List KeptT) (k : Nat) (last : Int), runL (fun _ last (k : KeptT) => if (decide (last < k.1) && (decide (k.1 < 16) && keptB w k)) = true then .inl k.1 else .inr (.inr false)) (fun _ => (.inl (w, ks) : (Int × List KeptT) ⊕ Bool)) k last m = if clientsB w last m = true then .inl (w, ks) else .inr false := by
    intro m
    induction m with
    | nil => intro k last; rfl
    | cons x m ih =>
      intro k last
      unfold runL clientsB
      by_cases q : (decide (last < x.1) && (decide (x.1 < 16) && keptB w x)) = true
      · simp only [q, if_true]
        simp only [Bool.and_eq_true] at q
        simp only [q.1, q.2.1, q.2.2, Bool.true_and]
        exact ih (k + 1) x.1
      · simp only [q]
        rw [← Bool.and_assoc, ← Bool.and_assoc, Bool.and_assoc (decide (last < x.1))]
        simp only [q, Bool.false_and]
        rfl
  rw [g]
  cases clientsB w (-1) ks with
  | false => rfl
  | true =>
    simp only [if_true, Option.bind_some, Bool.true_and]
    by_cases q1 : w ≥ 1
    · by_cases q2 : w ≤ 100
      · rw [decide_eq_true q1, decide_eq_true q2, decide_eq_true (show 1 ≤ w ∧ w ≤ 100 by omega)]; rfl
      · rw [decide_eq_true q1, decide_eq_false q2, decide_eq_false (show ¬ (1 ≤ w ∧ w ≤ 100) by omega)]; rfl
    · rw [decide_eq_false q1, decide_eq_false (show ¬ (1 ≤ w ∧ w ≤ 100) by omega)]; rfl
end Go.Ab.D

/- Layer 23: what is looked up. -/
set_option maxRecDepth 100000
namespace Go.Ab.D
open Go Go.Ab
/-! Rising lists -/
section
variable {α : Type} {key : α → Int}
theorem pre_iff {l : List α} (hs : (l.map key).Pairwise (· < ·)) (x : Int) : ∀ (i : Nat) (a : α), l[i]? = some a → (key a < x ↔ i < pre (fun a => decide (key a < x)) l) := by
  intro i a ha
  constructor
  · intro h
    refine Classical.byContradiction fun hc => ?_
    have hi := (List.getElem?_eq_some_iff.1 ha).1
    have hp : pre (fun a => decide (key a < x)) l < l.length := by omega
    have h2 := pre_at _ l _ (List.getElem?_eq_getElem hp)
    have h2' : ¬ key (l[pre (fun a => decide (key a < x)) l]) < x := of_decide_eq_false h2
    by_cases he : pre (fun a => decide (key a < x)) l = i
    · have : l[pre (fun a => decide (key a < x)) l] = a := by
        have h5 : l[pre (fun a => decide (key a < x)) l]? = some a := by rw [he]; exact ha
        rw [List.getElem?_eq_getElem hp] at h5
        simpa using h5
      rw [this] at h2'
      exact h2' h
    · have hlt : pre (fun a => decide (key a < x)) l < i := by omega
      have := List.pairwise_iff_getElem.1 hs _ _ (by simpa using hp) (by simpa using hi) hlt
      simp only [List.getElem_map] at this
      have ha' : l[i] = a := by rw [List.getElem?_eq_getElem hi] at ha; simpa using ha
      rw [ha'] at this
      omega
  · intro h
    exact of_decide_eq_true (pre_lt _ l i a h ha)
/-- Who stands at the place of x. -/
theorem at_find {l : List α} (hs : (l.map key).Pairwise (· < ·)) (x : Int) : (match l[pre (fun a => decide (key a < x)) l]? with | some a => if key a = x then some a else none | none => none) = l.find? (fun a => key a == x) := by
  induction l with
  | nil => rfl
  | cons b l ih =>
    simp only [List.map_cons, List.pairwise_cons] at hs
    unfold pre
    by_cases h : key b < x
    · simp only [h, decide_true, if_true]
      rw [List.find?_cons_of_neg (by simp; omega)]
      exact ih hs.2
    · simp only [h, decide_false]
      by_cases he : key b = x
      · rw [List.find?_cons_of_pos (by simpa using he)]
        simp [he]
      · rw [List.find?_cons_of_neg (by simpa using he)]
        have : l.find? (fun a => key a == x) = none := List.find?_eq_none.2 fun y hy => by
          have := hs.1 (key y) (List.mem_map.2 ⟨y, hy, rfl⟩)
          simp; omega
        rw [this]
        simp [he]
end
theorem rightOf_iff {cl : Int} : ∀ {l : List ReplyT} {last : Int}, rightOf cl last l = true ↔ (l.map (·.2.1)).Pairwise (· < ·) ∧ ∀ r ∈ l, r.1 = cl ∧ last < r.2.1 ∧ rightReply r = true
  | [], last => by simp [rightOf]
  | r :: l, last => by
    unfold rightOf
    simp only [Bool.and_eq_true, beq_iff_eq, decide_eq_true_eq, rightOf_iff (l := l), List.map_cons, List.pairwise_cons, List.mem_cons, List.mem_map]
    constructor
    · rintro ⟨h1, h2, h3, h4, h5⟩
      refine ⟨⟨?_, h4⟩, ?_⟩
      · rintro _ ⟨y, hy, rfl⟩; exact (h5 y hy).2.1
      · rintro y (rfl | hy)
        · exact ⟨h1, h2, h3⟩
        · have := h5 y hy; exact ⟨this.1, by omega, this.2.2⟩
    · rintro ⟨⟨h1, h2⟩, h3⟩
      have hr := h3 r (.inl rfl)
      exact ⟨hr.1, hr.2.1, hr.2.2, h2, fun y hy => ⟨(h3 y (.inr hy)).1, h1 _ ⟨y, hy, rfl⟩, (h3 y (.inr hy)).2.2⟩⟩
theorem clientsB_iff {w : Int} : ∀ {l : List KeptT} {last : Int}, clientsB w last l = true ↔ (l.map (·.1)).Pairwise (· < ·) ∧ ∀ k ∈ l, last < k.1 ∧ k.1 < 16 ∧ keptB w k = true
  | [], last => by simp [clientsB]
  | k :: l, last => by
    unfold clientsB
    simp only [Bool.and_eq_true, decide_eq_true_eq, clientsB_iff (l := l), List.map_cons, List.pairwise_cons, List.mem_cons, List.mem_map]
    constructor
    · rintro ⟨h1, h2, h3, h4, h5⟩
      refine ⟨⟨?_, h4⟩, ?_⟩
      · rintro _ ⟨y, hy, rfl⟩; exact (h5 y hy).1
      · rintro y (rfl | hy)
        · exact ⟨h1, h2, h3⟩
        · have := h5 y hy; exact ⟨by omega, this.2⟩
    · rintro ⟨⟨h1, h2⟩, h3⟩
      have hr := h3 k (.inl rfl)
      exact ⟨hr.1, hr.2.1, hr.2.2, h2, fun y hy => ⟨h1 _ ⟨y, hy, rfl⟩, (h3 y (.inr hy)).2⟩⟩
theorem keptB_iff {w : Int} {k : KeptT} : keptB w k = true ↔ 0 ≤ k.2.1 ∧ k.2.1 ≤ 1099511627776 ∧ ((k.2.2.length : Nat) : Int) ≤ w ∧ (k.2.2.map (·.2.1)).Pairwise (· < ·) ∧ ∀ r ∈ k.2.2, r.1 = k.1 ∧ k.2.1 < r.2.1 ∧ rightReply r = true := by
  unfold keptB
  simp only [Bool.and_eq_true, decide_eq_true_eq, rightOf_iff]
theorem rightC_iff {c : CacheT} : rightC c = true ↔ (1 ≤ c.1 ∧ c.1 ≤ 100) ∧ (c.2.map (·.1)).Pairwise (· < ·) ∧ ∀ k ∈ c.2, 0 ≤ k.1 ∧ k.1 < 16 ∧ keptB c.1 k = true := by
  unfold rightC
  simp only [Bool.and_eq_true, decide_eq_true_eq, clientsB_iff]
  constructor
  · rintro ⟨⟨h1, h2⟩, h3⟩; exact ⟨h3, h1, fun k hk => by have := h2 k hk; exact ⟨by omega, this.2⟩⟩
  · rintro ⟨h3, h1, h2⟩; exact ⟨⟨h1, fun k hk => by have := h2 k hk; exact ⟨by omega, this.2⟩⟩, h3⟩
theorem rightReply_who {r : ReplyT} (h : rightReply r = true) : (0 ≤ r.1 ∧ r.1 < 16) ∧ 1 ≤ r.2.1 ∧ r.2.1 ≤ 1099511627776 := by
  unfold rightReply whoseB at h
  simp only [Bool.and_eq_true, decide_eq_true_eq] at h
  exact ⟨⟨h.1.1, h.1.2.1⟩, h.1.2.2⟩
theorem rightReply_small {r : ReplyT} (h : rightReply r = true) : smallR r := by
  unfold rightReply at h
  simp only [Bool.and_eq_true] at h
  have h2 := h.2.2
  split at h2
  · simp only [Bool.and_eq_true, decide_eq_true_eq] at h2
    have := h2.2.2.2.2.2
    unfold smallR
    rw [this.1, this.2]
    exact ⟨by simp, by simp⟩
  · simp only [Bool.and_eq_true, decide_eq_true_eq] at h2
    unfold smallR
    exact ⟨by omega, by omega⟩
theorem nodup_len {l : List Int} (h : l.Pairwise (· < ·)) (hb : ∀ x ∈ l, 0 ≤ x ∧ x < 16) : l.length ≤ 16 := by
  have h2 : ∀ (l : List Int) (a : Int), l.Pairwise (· < ·) → (∀ x ∈ l, a ≤ x ∧ x < 16) → a ≤ 16 → (l.length : Int) ≤ 16 - a := by
    intro l
    induction l with
    | nil => intro a _ _ ha; simp; omega
    | cons x l ih =>
      intro a hp hb ha
      rw [List.pairwise_cons] at hp
      have hx := hb x (by simp)
      have := ih (x + 1) hp.2 (fun y hy => ⟨by have := hp.1 y hy; omega, (hb y (by simp [hy])).2⟩) (by omega)
      simp only [List.length_cons]
      omega
  have := h2 l 0 h hb (by omega)
  omega
theorem right_small {c : CacheT} (h : rightC c = true) : smallC c := by
  obtain ⟨h1, h2, h3⟩ := rightC_iff.1 h
  refine ⟨?_, fun k hk => ?_⟩
  · have := nodup_len h2 (fun x hx => by
      obtain ⟨k, hk, rfl⟩ := List.mem_map.1 hx
      exact ⟨(h3 k hk).1, (h3 k hk).2.1⟩)
    simp at this
    omega
  · obtain ⟨g1, g2, g3, g4, g5⟩ := keptB_iff.1 (h3 k hk).2.2
    exact ⟨by omega, fun r hr => rightReply_small (g5 r hr).2.2⟩
/-! Searches -/
def cliAt (ks : List KeptT) (x : Int) : Nat := pre (fun k => decide (k.1 < x)) ks
def repAt (l : List ReplyT) (x : Int) : Nat := pre (fun r => decide (r.2.1 < x)) l
def kOf (ks : List KeptT) (x : Int) : Option KeptT := ks.find? fun k => k.1 == x
def rOf (l : List ReplyT) (x : Int) : Option ReplyT := l.find? fun r => r.2.1 == x
theorem of_is {w : Int} {ks : List KeptT} (hl : ks.length ≤ 1000) (hs : (ks.map (·.1)).Pairwise (· < ·)) (hb : ∀ k ∈ ks, 0 ≤ k.1 ∧ k.1 < 16) {x : Int} (hx : 0 ≤ x ∧ x < 16) :
    replies_of fuel (w, ks) x = some (((cliAt ks x : Nat) : Int), (kOf ks x).isSome) := by
  unfold replies_of slices_BinarySearchFunc__api_Kept_api_Kept_int_f12 slices_BinarySearchFunc__api_Kept_api_Kept_int_f12_l0_it
  have hle : cliAt ks x ≤ ks.length := pre_le _ _
  have h1 : ∀ k ∈ ks, replies_of_1 fuel k x = some (k.1 - x) := fun k hk => by
    unfold replies_of_1
    have := hb k hk
    rw [w64 ⟨by omega, by omega⟩]
  have := bs_loop (fun tt : Int × Int => slices_BinarySearchFunc__api_Kept_api_Kept_int_f12_l0 fuel ks x tt.1 tt.2) (cliAt ks x) ks.length hle (by omega)
    (fun i j hij hj => by
      show slices_BinarySearchFunc__api_Kept_api_Kept_int_f12_l0 fuel ks x (i : Int) (j : Int) = _
      unfold slices_BinarySearchFunc__api_Kept_api_Kept_int_f12_l0
      have hh : (i + j) / 2 < ks.length := by omega
      rw [decide_eq_true (show (i : Int) < (j : Int) by omega), half_is (by omega), idx_nat hh]
      simp only [cond_true, Option.bind_some, List.getElem?_eq_getElem hh]
      rw [h1 _ (List.getElem_mem hh), w64 (x := ((((i + j) / 2 : Nat) : Int)) + 1) ⟨by omega, by omega⟩]
      simp only [Option.bind_some]
      have hp := pre_iff hs x ((i + j) / 2) _ (List.getElem?_eq_getElem hh)
      by_cases hc : (i + j) / 2 < cliAt ks x
      · have hk : ks[(i + j) / 2].1 < x := hp.2 hc
        rw [if_pos hc, decide_eq_true (show ks[(i + j) / 2].1 - x < 0 by omega)]
        simp
      · have hk : ¬ ks[(i + j) / 2].1 < x := fun h => hc (hp.1 h)
        rw [if_neg hc, decide_eq_false (show ¬ ks[(i + j) / 2].1 - x < 0 by omega)]
        simp)
    (fun i => by
      show slices_BinarySearchFunc__api_Kept_api_Kept_int_f12_l0 fuel ks x (i : Int) (i : Int) = _
      unfold slices_BinarySearchFunc__api_Kept_api_Kept_int_f12_l0
      rw [decide_eq_false (by omega)]
      rfl)
  simp only
  rw [this]
  simp only [Option.bind_some]
  have hf := at_find hs x
  by_cases hc : cliAt ks x < ks.length
  · rw [decide_eq_true (by omega), idx_nat hc]
    simp only [cond_true, Option.bind_some, List.getElem?_eq_getElem hc]
    rw [h1 _ (List.getElem_mem hc)]
    unfold kOf
    rw [← hf]
    have : ks[pre (fun k => decide (k.1 < x)) ks]? = some ks[cliAt ks x] := List.getElem?_eq_getElem hc
    rw [this]
    simp only [Option.bind_some]
    by_cases he : ks[cliAt ks x].1 = x
    · rw [if_pos he, beq_iff_eq.2 (by omega)]; rfl
    · rw [if_neg he, beq_eq_false_iff_ne.2 (by omega)]; rfl
  · rw [decide_eq_false (by omega)]
    unfold kOf
    rw [← hf]
    have : ks[pre (fun k => decide (k.1 < x)) ks]? = none := List.getElem?_eq_none (by unfold cliAt at hc; omega)
    rw [this]
    rfl
theorem compare_is (r : ReplyT) (x : Int) : replies_compare fuel r x = some (if r.2.1 < x then -1 else if r.2.1 > x then 1 else 0) := by
  unfold replies_compare
  by_cases h1 : r.2.1 < x
  · rw [decide_eq_true h1, if_pos h1]; rfl
  · by_cases h2 : r.2.1 > x
    · rw [decide_eq_false h1, decide_eq_true h2, if_neg h1, if_pos h2]; rfl
    · rw [decide_eq_false h1, decide_eq_false h2, if_neg h1, if_neg h2]; rfl
theorem search_is {l : List ReplyT} (hl : l.length ≤ 1000) (hs : (l.map (·.2.1)).Pairwise (· < ·)) {x : Int} :
    slices_BinarySearchFunc__api_Reply_api_Reply_int_fcompare2 fuel l x = some (((repAt l x : Nat) : Int), (rOf l x).isSome) := by
  unfold slices_BinarySearchFunc__api_Reply_api_Reply_int_fcompare2 slices_BinarySearchFunc__api_Reply_api_Reply_int_fcompare2_l0_it
  have hle : repAt l x ≤ l.length := pre_le _ _
  have := bs_loop (fun tt : Int × Int => slices_BinarySearchFunc__api_Reply_api_Reply_int_fcompare2_l0 fuel l x tt.1 tt.2) (repAt l x) l.length hle (by omega)
    (fun i j hij hj => by
      show slices_BinarySearchFunc__api_Reply_api_Reply_int_fcompare2_l0 fuel l x (i : Int) (j : Int) = _
      unfold slices_BinarySearchFunc__api_Reply_api_Reply_int_fcompare2_l0
      have hh : (i + j) / 2 < l.length := by omega
      rw [decide_eq_true (show (i : Int) < (j : Int) by omega), half_is (by omega), idx_nat hh]
      simp only [cond_true, Option.bind_some, List.getElem?_eq_getElem hh]
      rw [compare_is, w64 (x := ((((i + j) / 2 : Nat) : Int)) + 1) ⟨by omega, by omega⟩]
      simp only [Option.bind_some]
      have hp := pre_iff hs x ((i + j) / 2) _ (List.getElem?_eq_getElem hh)
      by_cases hc : (i + j) / 2 < repAt l x
      · have hk : l[(i + j) / 2].2.1 < x := hp.2 hc
        rw [if_pos hc, if_pos hk]
        simp
      · have hk : ¬ l[(i + j) / 2].2.1 < x := fun h => hc (hp.1 h)
        rw [if_neg hc, if_neg hk]
        by_cases h2 : l[(i + j) / 2].2.1 > x
        · rw [if_pos h2]; simp
        · rw [if_neg h2]; simp)
    (fun i => by
      show slices_BinarySearchFunc__api_Reply_api_Reply_int_fcompare2_l0 fuel l x (i : Int) (i : Int) = _
      unfold slices_BinarySearchFunc__api_Reply_api_Reply_int_fcompare2_l0
      rw [decide_eq_false (by omega)]
      rfl)
  rw [this]
  simp only [Option.bind_some]
  have hf := at_find hs x
  by_cases hc : repAt l x < l.length
  · rw [decide_eq_true (by omega), idx_nat hc]
    simp only [cond_true, Option.bind_some, List.getElem?_eq_getElem hc]
    rw [compare_is]
    unfold rOf
    rw [← hf]
    have : l[pre (fun k => decide (k.2.1 < x)) l]? = some l[repAt l x] := List.getElem?_eq_getElem hc
    rw [this]
    simp only [Option.bind_some]
    have hnl : ¬ l[repAt l x].2.1 < x := fun h => by
      have := (pre_iff hs x (repAt l x) _ (List.getElem?_eq_getElem hc)).1 h
      unfold repAt at this
      omega
    by_cases he : l[repAt l x].2.1 = x
    · rw [if_neg hnl, if_neg (by omega), if_pos he]; rfl
    · rw [if_neg hnl, if_pos (by omega), if_neg he]; rfl
  · rw [decide_eq_false (by omega)]
    unfold rOf
    rw [← hf]
    have : l[pre (fun k => decide (k.2.1 < x)) l]? = none := List.getElem?_eq_none (by unfold repAt at hc; omega)
    rw [this]
    rfl
theorem kOf_at {ks : List KeptT} (hs : (ks.map (·.1)).Pairwise (· < ·)) {x : Int} {k : KeptT} (h : kOf ks x = some k) : ks[cliAt ks x]? = some k ∧ k.1 = x := by
  have hf := at_find hs x
  unfold kOf at h
  rw [h] at hf
  have hk : k.1 = x := by have := List.find?_some h; simpa using this
  refine ⟨?_, hk⟩
  unfold cliAt
  cases hq : ks[pre (fun k => decide (k.1 < x)) ks]? with
  | none => rw [hq] at hf; cases hf
  | some k' =>
    rw [hq] at hf
    simp only at hf
    split at hf
    · exact hf
    · cases hf
theorem rOf_at {l : List ReplyT} (hs : (l.map (·.2.1)).Pairwise (· < ·)) {x : Int} {r : ReplyT} (h : rOf l x = some r) : l[repAt l x]? = some r ∧ r.2.1 = x := by
  have hf := at_find hs x
  unfold rOf at h
  rw [h] at hf
  have hk : r.2.1 = x := by have := List.find?_some h; simpa using this
  refine ⟨?_, hk⟩
  unfold repAt
  cases hq : l[pre (fun k => decide (k.2.1 < x)) l]? with
  | none => rw [hq] at hf; cases hf
  | some k' =>
    rw [hq] at hf
    simp only at hf
    split at hf
    · exact hf
    · cases hf
def zR : ReplyT := (0, (0, (0, ((0, 0), (false, (0, ([], ([], (false, 0)))))))))
/-- What is known of a request. -/
def look (c : CacheT) (client xid : Int) : ReplyT × Int :=
  if rightC c = true then match kOf c.2 client with
    | none => (zR, 0)
    | some k => if xid ≤ k.2.1 then (zR, 2) else match rOf k.2.2 xid with
      | some r => (r, 1)
      | none => (zR, 0)
  else (zR, 0)
def lookO (x : ReplyT × Int) : Int × (Int × (Int × (Int × (Int × (Bool × (Int × (List UInt8 × (List EntT × (Bool × (Int × Int)))))))))) :=
  (x.1.1, (x.1.2.1, (x.1.2.2.1, (x.1.2.2.2.1.1, (x.1.2.2.2.1.2, (x.1.2.2.2.2.1, (x.1.2.2.2.2.2.1, (x.1.2.2.2.2.2.2.1, (x.1.2.2.2.2.2.2.2.1, (x.1.2.2.2.2.2.2.2.2.1, (x.1.2.2.2.2.2.2.2.2.2, x.2)))))))))))
theorem look_is (c : CacheT) (h : smallC c) (client xid : Int) : replies_Look fuel c client xid = some (lookO (look c client xid)) := by
  obtain ⟨w, ks⟩ := c
  unfold replies_Look
  simp only
  rw [right_is (w, ks) h]
  simp only [Option.bind_some]
  unfold look
  cases hr : rightC (w, ks) with
  | false => rfl
  | true =>
    obtain ⟨h1, h2, h3⟩ := rightC_iff.1 hr
    simp only at h1 h2 h3
    have hb : ∀ k ∈ ks, 0 ≤ k.1 ∧ k.1 < 16 := fun k hk => ⟨(h3 k hk).1, (h3 k hk).2.1⟩
    have hnone : ¬ (0 ≤ client ∧ client < 16) → kOf ks client = none := fun hn => List.find?_eq_none.2 fun k hk => by
      have := hb k hk
      simp; omega
    simp only [cond_true, if_true]
    by_cases q1 : client ≥ 0
    · by_cases q2 : client < 16
      · rw [decide_eq_true q1, decide_eq_true q2]
        simp only [cond_true, Option.bind_some]
        rw [of_is h.1 h2 hb ⟨by omega, q2⟩]
        simp only [Option.bind_some]
        cases hk : kOf ks client with
        | none => rfl
        | some k =>
          obtain ⟨g1, g2⟩ := kOf_at h2 hk
          have hlt := (List.getElem?_eq_some_iff.1 g1).1
          have hkm := List.mem_of_getElem? g1
          obtain ⟨e1, e2, e3, e4, e5⟩ := keptB_iff.1 (h3 k hkm).2.2
          simp only [Option.isSome_some, Bool.not_true, cond_false, Option.bind_some]
          rw [decide_eq_false (show ¬ (((cliAt ks client : Nat) : Int) < 0) by omega), idx_nat hlt]
          simp only [cond_false, Option.bind_some, g1]
          by_cases q3 : xid ≤ k.2.1
          · rw [decide_eq_true q3, if_pos q3]; rfl
          · rw [decide_eq_false q3, if_neg q3]
            simp only [cond_false]
            rw [search_is (h.2 k hkm).1 e4]
            simp only [Option.bind_some]
            cases hx : rOf k.2.2 xid with
            | none => rfl
            | some r =>
              obtain ⟨g3, g4⟩ := rOf_at e4 hx
              have hlt2 := (List.getElem?_eq_some_iff.1 g3).1
              simp only [Option.isSome_some, cond_true]
              rw [idx_nat hlt2]
              simp only [Option.bind_some, g3]
              rw [own_is ((h.2 k hkm).2 r (List.mem_of_getElem? g3))]
              rfl
      · rw [decide_eq_true q1, decide_eq_false q2, hnone (by omega)]; rfl
    · rw [decide_eq_false q1, hnone (by omega)]; rfl
end Go.Ab.D

/- Rows whose parts stand in a family of members, in plain words. -/
namespace Go.Ab
abbrev RefT (μ : Type) : Type := List μ ⊕ Option (Nat × (Nat × Nat))
section
variable {ρ κ μ : Type}
/-- A row's part: none, or a whole member. -/
def part (ms : List (Nat × List μ)) (x : RefT μ) (l : List μ) : Prop := (x = .inr none ∧ l = []) ∨ ∃ j, x = .inr (some (j, (0, l.length))) ∧ ms[j]? = some (1, l)
def viewM (ms : List (Nat × List μ)) (x : RefT μ) : Option (List μ) :=
  match x with
  | .inl l => some l
  | .inr none => some []
  | .inr (some (k, off, n)) => memb ms k off n
def lenP (x : RefT μ) : Nat :=
  match x with
  | .inl l => l.length
  | .inr none => 0
  | .inr (some (_, _, n)) => n
theorem memb_ok {ms : List (Nat × List μ)} {k : Nat} {l : List μ} {s : Nat} (h : ms[k]? = some (s, l)) (hs : 2 ≤ s) : memb ms k 0 l.length = some l := by
  unfold memb
  rw [h]
  have e : (Nat.ble 2 s && Nat.ble (0 + l.length) l.length) = true := by simpa using hs
  simp only [e, bq_true, List.drop_zero, List.take_length]
theorem part.view {ms : List (Nat × List μ)} {x : RefT μ} {l : List μ} (h : part ms x l) : viewM (ms.map frz1) x = some l := by
  rcases h with ⟨rfl, rfl⟩ | ⟨j, rfl, h⟩
  · rfl
  · exact memb_ok (s := 2) (by rw [List.getElem?_map, h]; rfl) (Nat.le_refl _)
theorem part.len {ms : List (Nat × List μ)} {x : RefT μ} {l : List μ} (h : part ms x l) : lenP x = l.length := by
  rcases h with ⟨rfl, rfl⟩ | ⟨j, rfl, h⟩ <;> rfl
theorem part.one {ms : List (Nat × List μ)} {x : RefT μ} {l : List μ} (h : part ms x l) (hl : 0 < l.length) : ∃ j, x = .inr (some (j, (0, l.length))) ∧ ms[j]? = some (1, l) := by
  rcases h with ⟨rfl, rfl⟩ | h
  · cases hl
  · exact h
variable (ref : ρ → RefT μ) (lst : κ → List μ) (same : ρ → κ → Prop)
structure Fam (rows : List ρ) (ms : List (Nat × List μ)) (ks : List κ) : Prop where
  len : rows.length = ks.length
  at_ : ∀ (i : Nat) row k, rows[i]? = some row → ks[i]? = some k → same row k ∧ part ms (ref row) (lst k)
  inj : ∀ (i i' : Nat) row row' j n n', i ≠ i' → rows[i]? = some row → rows[i']? = some row' → ref row = .inr (some (j, n)) → ref row' = .inr (some (j, n')) → False
variable {ref lst same} {rows : List ρ} {ms : List (Nat × List μ)} {ks : List κ}
theorem part.lt {x : RefT μ} {l : List μ} (h : part ms x l) {j : Nat} {n : Nat × Nat} (hx : x = .inr (some (j, n))) : j < ms.length := by
  rcases h with ⟨h, _⟩ | ⟨j', h, h2⟩
  · rw [h] at hx; cases hx
  · rw [h] at hx
    injection hx with hx
    injection hx with hx
    injection hx with hx _
    subst hx
    exact (List.getElem?_eq_some_iff.1 h2).1
theorem Fam.row (h : Fam ref lst same rows ms ks) {i : Nat} {k : κ} (hk : ks[i]? = some k) : ∃ row, rows[i]? = some row ∧ same row k ∧ part ms (ref row) (lst k) := by
  have hi : i < rows.length := by rw [h.len]; exact (List.getElem?_eq_some_iff.1 hk).1
  exact ⟨_, List.getElem?_eq_getElem hi, h.at_ i _ k (List.getElem?_eq_getElem hi) hk⟩
/-- A member is opened, and another one stands in its stead. -/
theorem Fam.open_ (h : Fam ref lst same rows ms ks) {i : Nat} {row : ρ} {k : κ} (hr : rows[i]? = some row) (hk : ks[i]? = some k) :
    ∃ ms', openM ms (ref row) = some (lst k, ms') ∧ ms'.length = ms.length ∧ ∀ row' k', same row' k' → ref row' = .inr (some (ms'.length, (0, (lst k').length))) → Fam ref lst same (rows.set i row') (ms' ++ [(1, lst k')]) (ks.set i k') := by
  have hi := (List.getElem?_eq_some_iff.1 hr).1
  obtain ⟨hs, hp⟩ := h.at_ i row k hr hk
  have main : ∀ ms' : List (Nat × List μ), ms'.length = ms.length → (∀ i' row', i' ≠ i → rows[i']? = some row' → ∀ j n, ref row' = .inr (some (j, n)) → ms'[j]? = ms[j]?) → ∀ row' k', same row' k' → ref row' = .inr (some (ms'.length, (0, (lst k').length))) → Fam ref lst same (rows.set i row') (ms' ++ [(1, lst k')]) (ks.set i k') := by
    intro ms' hl hsame row' k' hs' hr'
    refine ⟨by rw [List.length_set, List.length_set]; exact h.len, fun i' x y hx hy => ?_, fun a b x y j n n' hab hx hy hjx hjy => ?_⟩
    · by_cases he : i' = i
      · subst he
        rw [List.getElem?_set_self (by omega)] at hx
        rw [List.getElem?_set_self (by rw [← h.len]; omega)] at hy
        cases hx; cases hy
        exact ⟨hs', .inr ⟨_, hr', by rw [List.getElem?_append_right (Nat.le_refl _), Nat.sub_self]; rfl⟩⟩
      · rw [List.getElem?_set_ne (by omega)] at hx hy
        obtain ⟨g1, g2⟩ := h.at_ i' x y hx hy
        refine ⟨g1, ?_⟩
        rcases g2 with g2 | ⟨j, g2, g3⟩
        · exact .inl g2
        · refine .inr ⟨j, g2, ?_⟩
          have hj := (List.getElem?_eq_some_iff.1 g3).1
          rw [List.getElem?_append_left (by omega), hsame i' x he hx j _ g2]
          exact g3
    · have hlt : ∀ (q : Nat) z, rows[q]? = some z → ∀ n, ref z = .inr (some (j, n)) → j < ms.length := fun q z hq n hz => by
        have hq' := (List.getElem?_eq_some_iff.1 hq).1
        exact (h.at_ q z _ hq (List.getElem?_eq_getElem (by rw [← h.len]; exact hq'))).2.lt hz
      by_cases ha : a = i
      · subst ha
        rw [List.getElem?_set_self (by omega)] at hx
        cases hx
        rw [List.getElem?_set_ne hab] at hy
        rw [hr'] at hjx
        injection hjx with e
        injection e with e
        injection e with e _
        have := hlt _ _ hy _ hjy
        omega
      · rw [List.getElem?_set_ne (by omega)] at hx
        by_cases hb : b = i
        · subst hb
          rw [List.getElem?_set_self (by omega)] at hy
          cases hy
          rw [hr'] at hjy
          injection hjy with e
          injection e with e
          injection e with e _
          have := hlt _ _ hx _ hjx
          omega
        · rw [List.getElem?_set_ne (by omega)] at hy
          exact h.inj a b x y j n n' hab hx hy hjx hjy
  rcases hp with ⟨h1, h2⟩ | ⟨j, h1, h2⟩
  · refine ⟨ms, by rw [h1, h2]; rfl, rfl, main ms rfl fun _ _ _ _ _ _ _ => rfl⟩
  · refine ⟨ms.set j (0, lst k), ?_, List.length_set .., main _ (List.length_set ..) fun i' row' hi' hr' j' n hj' => ?_⟩
    · rw [h1]
      show ms[j]?.bind _ = _
      rw [h2]
      have e : (Nat.beq 1 1 && Nat.beq 0 0 && Nat.ble (lst k).length (lst k).length) = true := by simp
      simp only [Option.bind_some, e]
      show some (List.take (lst k).length (lst k), _) = _
      rw [List.take_length]
    · refine List.getElem?_set_ne fun hc => ?_
      subst hc
      exact h.inj i i' row row' _ _ _ (Ne.symm hi') hr hr' h1 hj'
/-- A row with nothing of its own more. -/
theorem Fam.insert (h : Fam ref lst same rows ms ks) {q : Nat} (hq : q ≤ rows.length) {row : ρ} {k : κ} (hs : same row k) (hr : ref row = .inr none) (hl : lst k = []) : Fam ref lst same (rows.take q ++ [row] ++ rows.drop q) ms (ks.take q ++ [k] ++ ks.drop q) := by
  have get : ∀ {α : Type} (l : List α) (x : α), q ≤ l.length → ∀ i, (l.take q ++ [x] ++ l.drop q)[i]? = if i < q then l[i]? else if i = q then some x else l[i - 1]? := fun l x hl i => by
    have e1 : (l.take q).length = q := by rw [List.length_take]; omega
    by_cases c1 : i < q
    · rw [if_pos c1, List.append_assoc, List.getElem?_append_left (by omega), List.getElem?_take, if_pos c1]
    · rw [if_neg c1]
      by_cases c2 : i = q
      · subst c2
        rw [if_pos rfl, List.append_assoc, List.getElem?_append_right (by omega), e1]
        simp
      · rw [if_neg c2, List.getElem?_append_right (by simp; omega), List.getElem?_drop]
        congr 1
        simp only [List.length_append, e1, List.length_singleton]
        omega
  refine ⟨?_, fun i x y hx hy => ?_, fun a b x y j n n' hab hx hy hjx hjy => ?_⟩
  · simp only [List.length_append, List.length_take, List.length_drop, List.length_singleton, h.len]
  · rw [get _ _ hq] at hx
    rw [get _ _ (by rw [← h.len]; exact hq)] at hy
    by_cases c1 : i < q
    · rw [if_pos c1] at hx hy; exact h.at_ i x y hx hy
    · rw [if_neg c1] at hx hy
      by_cases c2 : i = q
      · rw [if_pos c2] at hx hy
        cases hx; cases hy
        exact ⟨hs, .inl ⟨hr, hl⟩⟩
      · rw [if_neg c2] at hx hy; exact h.at_ _ x y hx hy
  · rw [get _ _ hq] at hx hy
    have noq : ∀ i x, ¬ i < q → i = q → (if i < q then rows[i]? else if i = q then some row else rows[i - 1]?) = some x → ∀ n, ref x = .inr (some (j, n)) → False := fun i x c1 c2 hx n hj => by
      rw [if_neg c1, if_pos c2] at hx
      cases hx
      rw [hr] at hj; cases hj
    by_cases a1 : a < q
    · by_cases b1 : b < q
      · rw [if_pos a1] at hx; rw [if_pos b1] at hy
        exact h.inj a b x y j n n' hab hx hy hjx hjy
      · by_cases b2 : b = q
        · exact noq b y b1 b2 hy n' hjy
        · rw [if_pos a1] at hx; rw [if_neg b1, if_neg b2] at hy
          exact h.inj a (b - 1) x y j n n' (by omega) hx hy hjx hjy
    · by_cases a2 : a = q
      · exact noq a x a1 a2 hx n hjx
      · rw [if_neg a1, if_neg a2] at hx
        by_cases b1 : b < q
        · rw [if_pos b1] at hy
          exact h.inj (a - 1) b x y j n n' (by omega) hx hy hjx hjy
        · by_cases b2 : b = q
          · exact noq b y b1 b2 hy n' hjy
          · rw [if_neg b1, if_neg b2] at hy
            exact h.inj (a - 1) (b - 1) x y j n n' (by omega) hx hy hjx hjy
/-- A row is changed but for its part. -/
theorem Fam.keep (h : Fam ref lst same rows ms ks) {i : Nat} {row row' : ρ} {k k' : κ} (hr : rows[i]? = some row) (hk : ks[i]? = some k) (hs : same row' k') (he : ref row' = ref row) (hl : lst k' = lst k) : Fam ref lst same (rows.set i row') ms (ks.set i k') := by
  have hi := (List.getElem?_eq_some_iff.1 hr).1
  have hg : ∀ a x, (rows.set i row')[a]? = some x → ∃ x0, rows[a]? = some x0 ∧ ref x = ref x0 := fun a x hx => by
    by_cases c : a = i
    · subst c
      rw [List.getElem?_set_self hi] at hx
      cases hx
      exact ⟨row, hr, he⟩
    · rw [List.getElem?_set_ne (by omega)] at hx
      exact ⟨x, hx, rfl⟩
  refine ⟨by rw [List.length_set, List.length_set]; exact h.len, fun a x y hx hy => ?_, fun a b x y j n n' hab hx hy hjx hjy => ?_⟩
  · by_cases c : a = i
    · subst c
      rw [List.getElem?_set_self hi] at hx
      rw [List.getElem?_set_self (by rw [← h.len]; exact hi)] at hy
      cases hx; cases hy
      exact ⟨hs, by rw [he, hl]; exact (h.at_ a row k hr hk).2⟩
    · rw [List.getElem?_set_ne (by omega)] at hx hy
      exact h.at_ a x y hx hy
  · obtain ⟨x0, g1, g2⟩ := hg a x hx
    obtain ⟨y0, g3, g4⟩ := hg b y hy
    exact h.inj a b x0 y0 j n n' hab g1 g3 (g2 ▸ hjx) (g4 ▸ hjy)
theorem unrefL_at {α γ : Type} (g : α → Option γ) : ∀ (l : List α) (l' : List γ), l.length = l'.length → (∀ (i : Nat) x y, l[i]? = some x → l'[i]? = some y → g x = some y) → unrefL g l = some l'
  | [], [], _, _ => rfl
  | [], _ :: _, h, _ => by simp at h
  | _ :: _, [], h, _ => by simp at h
  | x :: l, y :: l', h, hp => by
    have ih := unrefL_at g l l' (by simpa using h) fun i a b ha hb => hp (i + 1) a b (by simpa using ha) (by simpa using hb)
    show (g x).bind _ = _
    rw [hp 0 x y (by simp) (by simp)]
    simp [ih]
/-- All of it as pure rows. -/
theorem Fam.pure (h : Fam ref lst same rows ms ks) (g : ρ → Option κ) (hg : ∀ row k, same row k → viewM (ms.map frz1) (ref row) = some (lst k) → g row = some k) : unrefL g rows = some ks :=
  unrefL_at g rows ks h.len fun i x y hx hy => hg x y (h.at_ i x y hx hy).1 (h.at_ i x y hx hy).2.view
end
end Go.Ab

/- Layer 23: an answer more. -/
set_option maxRecDepth 100000
namespace Go.Ab.D
open Go Go.Ab
abbrev TREP : Ty := .pair (.int .i64) (.pair (.int .i64) (.pair (.int .i64) (.pair (.pair (.int .i64) (.int .i64)) (.pair .bool (.pair (.int .i64) (.pair (.sl .byte) (.pair (.sl (.pair .str (.int .i64))) (.pair .bool (.int .i64)))))))))
abbrev TKR : Ty := .pair (.int .i64) (.pair (.int .i64) (.ref 1 TREP))
abbrev KR : Type := Int × (Int × RefT ReplyT)
abbrev FamK (rows : List KR) (ms : List (Nat × List ReplyT)) (ks : List KeptT) : Prop := Fam (fun r : KR => r.2.2) (fun k : KeptT => k.2.2) (fun r k => r.1 = k.1 ∧ r.2.1 = k.2.1) rows ms ks
theorem unrefP (ms : List (Nat × List ReplyT)) (x : RefT ReplyT) : unrefD [⟨1, TREP, ms⟩] (.ref 1 TREP) x = viewM ms x := by
  rcases x with l | (_ | ⟨k, o, n⟩) <;> rfl
theorem FamK.pure_ {rows : List KR} {ms : List (Nat × List ReplyT)} {ks : List KeptT} (h : FamK rows ms ks) : unrefL (unrefD [⟨1, TREP, ms.map frz1⟩] TKR) rows = some ks :=
  h.pure (unrefD [⟨1, TREP, ms.map frz1⟩] TKR) fun row k hs hv => by
    obtain ⟨a, b, x⟩ := row
    obtain ⟨a', b', l⟩ := k
    simp only at hs hv
    obtain ⟨rfl, rfl⟩ := hs
    show ((some a).bind fun y => (((some b).bind fun y => (unrefD [⟨1, TREP, ms.map frz1⟩] (.ref 1 TREP) x).map fun z => (y, z)).map fun z => (y, z))) = _
    rw [unrefP, hv]
    rfl
theorem ownL {l : List ReplyT} {k : Nat} {r : ReplyT} (h : l[k]? = some r) : l.set k ((ownO r).1, ((ownO r).2.1, ((ownO r).2.2.1, (((ownO r).2.2.2.1, (ownO r).2.2.2.2.1), ((ownO r).2.2.2.2.2.1, ((ownO r).2.2.2.2.2.2.1, ((ownO r).2.2.2.2.2.2.2.2.2.1, ((ownO r).2.2.2.2.2.2.2.2.2.2, ((ownO r).2.2.2.2.2.2.2.1, (ownO r).2.2.2.2.2.2.2.2.1))))))))) = l := by
  obtain ⟨hk, hr⟩ := List.getElem?_eq_some_iff.1 h
  have : (((ownO r).1, ((ownO r).2.1, ((ownO r).2.2.1, (((ownO r).2.2.2.1, (ownO r).2.2.2.2.1), ((ownO r).2.2.2.2.2.1, ((ownO r).2.2.2.2.2.2.1, ((ownO r).2.2.2.2.2.2.2.2.2.1, ((ownO r).2.2.2.2.2.2.2.2.2.2, ((ownO r).2.2.2.2.2.2.2.1, (ownO r).2.2.2.2.2.2.2.2.1))))))))) : ReplyT) = l[k] := by rw [hr]; rfl
  rw [this]
  exact List.set_getElem_self hk
theorem set_same {α : Type} {l : List α} {k : Nat} {x : α} (h : l[k]? = some x) : l.set k x = l := by
  obtain ⟨hk, rfl⟩ := List.getElem?_eq_some_iff.1 h
  exact List.set_getElem_self hk
theorem copied0 {rows : List KR} {ms : List (Nat × List ReplyT)} {q j : Nat} {a b : Int} {l : List ReplyT} (hr : rows[q]? = some (a, (b, .inr (some (j, (0, l.length)))))) (hm : ms[j]? = some (1, l)) (hl : l.length ≤ 1000) (hs : ∀ r ∈ l, smallR r) (h h2 : Int) :
    replies_copied_l0_it fuel (a, (b, .inr (some (j, (0, l.length))))) (q, (0, (h, (rows, (h2, ms))))) = some (h, (rows, (h2, ms))) := by
  unfold replies_copied_l0_it
  have := iter_range (f := fun tt : Nat × (Int × (Int × (List KR × (Int × List (Nat × List ReplyT))))) => replies_copied_l0 fuel (a, (b, .inr (some (j, (0, l.length))))) tt.1 tt.2.1 tt.2.2.1 tt.2.2.2.1 tt.2.2.2.2.1 tt.2.2.2.2.2) (o := (h, (rows, (h2, ms)))) (fun k => (q, ((k : Int), (h, (rows, (h2, ms)))))) l.length (by omega) (fun k hk => by
    show replies_copied_l0 fuel _ q (k : Int) h rows h2 ms = _
    unfold replies_copied_l0
    have e0 : refLen (s := TREP) (.inr (some (j, (0, l.length)))) = l.length := rfl
    have hx : l[k]? = some l[k] := List.getElem?_eq_getElem hk
    simp only [e0]
    rw [decide_eq_true (show (k : Int) < ((l.length : Nat) : Int) by omega)]
    simp only [cond_true, hr, Option.bind_some, refO]
    rw [idx_nat hk]
    simp only [Option.bind_some, hm, Nat.zero_add, hx]
    rw [need_true (by rfl), own_is (hs _ (List.getElem_mem hk))]
    simp only [Option.bind_some, hx]
    rw [need_true (by rfl), w64 ⟨by omega, by omega⟩]
    rw [ownL hx, set_same hm]
    rfl) (by
    show replies_copied_l0 fuel _ q ((l.length : Nat) : Int) h rows h2 ms = _
    unfold replies_copied_l0
    have e0 : refLen (s := TREP) (.inr (some (j, (0, l.length)))) = l.length := rfl
    simp only [e0]
    rw [decide_eq_false (by omega)]
    rfl)
  exact this
theorem copied_is (c : CacheT) (h : smallC c) : ∃ rows ms, replies_copied fuel c = some (c.1, (rows, ms)) ∧ FamK rows ms c.2 := by
  obtain ⟨w, ks⟩ := c
  have hn := h.1
  simp only at hn
  unfold replies_copied
  simp only
  rw [cloneK (by omega), Option.bind_some]
  have h0 : ∀ (i : Nat) (k : KeptT), ks[i]? = some k → (List.map (liftT TKR) (show List (TKR.unref.den) from ks))[i]? = some ((k.1, (k.2.1, .inl k.2.2)) : KR) := fun i k hg => by
    show (List.map (liftT TKR) (show List (TKR.unref.den) from ks))[i]? = some (liftT TKR k)
    rw [List.getElem?_map]
    show ((show List KeptT from ks)[i]?).map _ = _
    rw [hg]
    rfl
  have loop : ∃ o, replies_copied_l1_it fuel ks (0, (w, ((List.map (liftT TKR) (show List (TKR.unref.den) from ks)), (0, [])))) = some o ∧ ∃ rows ms, o = (w, (rows, (0, ms))) ∧ FamK rows ms ks := by
    unfold replies_copied_l1_it
    refine iter_ex (fun m s => ∃ (n : Nat) (rows : List KR) (ms : List (Nat × List ReplyT)), s = ((n : Int), (w, (rows, (0, ms)))) ∧ n + m = ks.length ∧ rows.length = ks.length ∧ ms.length = n ∧ ∀ (i : Nat) k, ks[i]? = some k → (i < n → rows[i]? = some (k.1, (k.2.1, .inr (some (i, (0, k.2.2.length))))) ∧ ms[i]? = some (1, k.2.2)) ∧ (n ≤ i → rows[i]? = some (k.1, (k.2.1, .inl k.2.2)))) _ (fun m s hI => ?_) (fun s hI => ?_) ks.length _ (by omega) ⟨0, _, [], rfl, by omega, List.length_map _, rfl, fun i k hg => ⟨fun hc => absurd hc (Nat.not_lt_zero _), fun _ => h0 i k hg⟩⟩
    · obtain ⟨n, rows, ms, rfl, hk, g1, g2, g3⟩ := hI
      have hlt : n < ks.length := by omega
      obtain ⟨k, hg⟩ : ∃ k, ks[n]? = some k := ⟨_, List.getElem?_eq_getElem hlt⟩
      have hrow := (g3 n k hg).2 (Nat.le_refl _)
      have hsm := h.2 k (List.mem_of_getElem? hg)
      left
      refine ⟨(((n + 1 : Nat) : Int), (w, (rows.set n (k.1, (k.2.1, .inr (some (n, (0, k.2.2.length))))), (0, ms ++ [(1, k.2.2)])))), ?_, n + 1, _, _, rfl, by omega, by rw [List.length_set]; exact g1, by simp [g2], fun i k' hg' => ⟨fun hi => ?_, fun hi => ?_⟩⟩
      · unfold replies_copied_l1
        simp only
        rw [decide_eq_true (show (n : Int) < ((ks.length : Nat) : Int) by omega), idx_nat (by omega)]
        simp only [cond_true, Option.bind_some, hrow]
        rw [show lowD (.ref 1 TREP) (.inl k.2.2) = some k.2.2 from rfl]
        erw [Option.bind_some]
        rw [cloneR (by have := hsm.1; omega)]
        simp only [Option.bind_some, g2]
        rw [List.getElem?_set_self (by omega)]
        simp only [Option.bind_some]
        rw [copied0 (List.getElem?_set_self (by omega)) (by rw [List.getElem?_append_right (by omega), g2, Nat.sub_self]; rfl) hsm.1 hsm.2, w64 ⟨by omega, by omega⟩]
        rfl
      · by_cases hin : i = n
        · subst hin
          rw [hg] at hg'; cases hg'
          exact ⟨List.getElem?_set_self (by omega), by rw [List.getElem?_append_right (by omega), g2, Nat.sub_self]; rfl⟩
        · have := (g3 i k' hg').1 (by omega)
          rw [List.getElem?_set_ne (by omega), List.getElem?_append_left (by omega)]
          exact this
      · rw [List.getElem?_set_ne (by omega)]
        exact (g3 i k' hg').2 (by omega)
    · obtain ⟨n, rows, ms, rfl, hk, g1, g2, g3⟩ := hI
      have : n = ks.length := by omega
      subst this
      refine ⟨(w, (rows, (0, ms))), ?_, rows, ms, rfl, g1, fun i row k hr hk => ?_, fun i i' row row' j p p' hii hr hr' hj hj' => ?_⟩
      · unfold replies_copied_l1
        simp only
        rw [decide_eq_false (by omega)]
        rfl
      · obtain ⟨e1, e2⟩ := (g3 i k hk).1 (List.getElem?_eq_some_iff.1 hk).1
        rw [e1] at hr
        cases hr
        exact ⟨⟨rfl, rfl⟩, .inr ⟨i, rfl, e2⟩⟩
      · have q : ∀ (i : Nat) (row : KR) (p : Nat × Nat), rows[i]? = some row → row.2.2 = .inr (some (j, p)) → j = i := fun i row p hr hj => by
          have hi := (List.getElem?_eq_some_iff.1 hr).1
          have hg := List.getElem?_eq_getElem (show i < ks.length by omega)
          obtain ⟨e1, _⟩ := (g3 i _ hg).1 (by omega)
          rw [e1] at hr
          cases hr
          injection hj with hj
          injection hj with hj
          injection hj with hj
          exact hj.symm
        have := q i row p hr hj
        have := q i' row' p' hr' hj'
        omega
  obtain ⟨o, ho, rows, ms, rfl, hF⟩ := loop
  refine ⟨rows, ms, ?_, hF⟩
  have ho' : replies_copied_l1_it fuel ks (0, (w, (List.map (liftT (.pair (.int .i64) (.pair (.int .i64) (.ref 1 TREP)))) (show List (TKR.unref.den) from ks), (0, [])))) = some (w, (rows, (0, ms))) := ho
  erw [ho']
  rfl
end Go.Ab.D

/- Layer 23: an answer more, put. -/
set_option maxRecDepth 100000
namespace Go.Ab.D
open Go Go.Ab
/-- A client's answers with one more. -/
def putK (w : Int) (k : KeptT) (r : ReplyT) : KeptT :=
  let l := k.2.2.take (repAt k.2.2 r.2.1) ++ [r] ++ k.2.2.drop (repAt k.2.2 r.2.1)
  if ((l.length : Nat) : Int) > w then (k.1, ((match l[0]? with | some x => x.2.1 | none => 0), l.drop 1)) else (k.1, (k.2.1, l))
/-- The clients, the answer's among them. -/
def withCli (ks : List KeptT) (cl : Int) : List KeptT := if (kOf ks cl).isSome = true then ks else ks.take (cliAt ks cl) ++ [(cl, (0, []))] ++ ks.drop (cliAt ks cl)
def kept1 (ks : List KeptT) (cl : Int) : KeptT := (kOf ks cl).getD (cl, (0, []))
def putL (w : Int) (ks : List KeptT) (r : ReplyT) : List KeptT := (withCli ks r.1).set (cliAt ks r.1) (putK w (kept1 ks r.1) r)
def put (c : CacheT) (r : ReplyT) : CacheT × Int := if rightC c = true ∧ rightReply r = true ∧ (look c r.1 r.2.1).2 = 0 then ((c.1, putL c.1 c.2 r), 0) else (c, 2)
def putO (x : CacheT × Int) : Int × (List KeptT × Int) := (x.1.1, (x.1.2, x.2))
theorem insertK {i : Nat} {l : List KR} {x : KR} {ms : List (Nat × List ReplyT)} (hi : i ≤ l.length) (hl : l.length ≤ 1000) : slices_Insert__api_Kept_api_Kept_o0o2_RR fuel (i : Int) l [x] ms = some ([x], (l.take i ++ [x] ++ l.drop i, ms)) := by
  unfold slices_Insert__api_Kept_api_Kept_o0o2_RR
  rw [upto_nat hi, Option.bind_some, need_true]
  rw [ble_true (by rw [roomIs]; simp; omega), ble_true (by rw [roomIs]; simp; omega)]
  rfl
theorem insertR {i : Nat} {l : List ReplyT} {x : ReplyT} (hi : i ≤ l.length) (hl : l.length ≤ 1000) : slices_Insert__api_Reply_api_Reply_o0o2 fuel (i : Int) l [x] = some ([x], l.take i ++ [x] ++ l.drop i) := by
  unfold slices_Insert__api_Reply_api_Reply_o0o2
  rw [upto_nat hi, Option.bind_some, need_true]
  rw [ble_true (by rw [roomIs]; simp; omega), ble_true (by rw [roomIs]; simp; omega)]
  rfl
theorem deleteR {l : List ReplyT} (hl : 0 < l.length) : slices_Delete__api_Reply_api_Reply_o0 fuel 0 1 l = some (l.drop 1) := by
  unfold slices_Delete__api_Reply_api_Reply_o0
  rw [upto_int (by omega) (by omega), Option.bind_some, upto_int (by omega) (by simp), Option.bind_some, need_true (by rfl)]
  rfl
theorem ownR (r : ReplyT) : (((ownO r).1, ((ownO r).2.1, ((ownO r).2.2.1, (((ownO r).2.2.2.1, (ownO r).2.2.2.2.1), ((ownO r).2.2.2.2.2.1, ((ownO r).2.2.2.2.2.2.1, ((ownO r).2.2.2.2.2.2.2.2.2.1, ((ownO r).2.2.2.2.2.2.2.2.2.2, ((ownO r).2.2.2.2.2.2.2.1, (ownO r).2.2.2.2.2.2.2.2.1))))))))) : ReplyT) = r := rfl
theorem lenRef {ms : List (Nat × List ReplyT)} {x : RefT ReplyT} {l : List ReplyT} (h : part ms x l) : refLen (s := TREP) x = l.length := by
  rcases h with ⟨rfl, rfl⟩ | ⟨j, rfl, _⟩ <;> rfl
theorem look_code (c : CacheT) (cl x : Int) : (lookO (look c cl x)).2.2.2.2.2.2.2.2.2.2.2 = (look c cl x).2 := rfl
theorem put_is (c : CacheT) (R : ReplyT) (h : smallC c) (hr : smallR R) : replies_Put fuel c R = some (putO (put c R)) := by
  obtain ⟨w, ks⟩ := c
  obtain ⟨rows, ms, hc, hF⟩ := copied_is (w, ks) h
  simp only at hc hF
  unfold replies_Put
  simp only
  rw [hc, Option.bind_some, right_is (w, ks) h]
  simp only [Option.bind_some]
  have hrr : call_RightReply fuel (R.1, (R.2.1, (R.2.2.1, ((R.2.2.2.1.1, R.2.2.2.1.2), (R.2.2.2.2.1, (R.2.2.2.2.2.1, (R.2.2.2.2.2.2.1, (R.2.2.2.2.2.2.2.1, (R.2.2.2.2.2.2.2.2.1, R.2.2.2.2.2.2.2.2.2))))))))) = some (rightReply R) :=
    rightReply_is (r := R) (by have := hr.1; omega) (by have := hr.2; omega)
  have hown : replies_own fuel (R.1, (R.2.1, (R.2.2.1, ((R.2.2.2.1.1, R.2.2.2.1.2), (R.2.2.2.2.1, (R.2.2.2.2.2.1, (R.2.2.2.2.2.2.1, (R.2.2.2.2.2.2.2.1, (R.2.2.2.2.2.2.2.2.1, R.2.2.2.2.2.2.2.2.2))))))))) = some (ownO R) := own_is (r := R) hr
  have hp := hF.pure_
  have hn := h.1
  simp only at hn
  unfold put
  cases hc1 : rightC (w, ks) with
  | false =>
    simp only [Bool.not_false, cond_true, Option.bind_some]
    rw [hp]
    rfl
  | true =>
    simp only [Bool.not_true, cond_false]
    rw [hrr]
    simp only [Option.bind_some]
    cases hc2 : rightReply R with
    | false =>
      simp only [Bool.not_false, cond_true, Option.bind_some]
      rw [hp]
      rfl
    | true =>
      simp only [Bool.not_true, cond_false, Option.bind_some]
      rw [look_is (w, ks) h R.1 R.2.1]
      simp only [Option.bind_some, look_code]
      by_cases hlk : (look (w, ks) R.1 R.2.1).2 = 0
      · simp only [hlk, beq_self_eq_true, Bool.not_true, cond_false]
        rw [hp]
        erw [Option.bind_some]
        obtain ⟨g1, g2, g3⟩ := rightC_iff.1 hc1
        simp only at g1 g2 g3
        have hwho := (rightReply_who hc2).1
        have hb : ∀ k ∈ ks, 0 ≤ k.1 ∧ k.1 < 16 := fun k hk => ⟨(g3 k hk).1, (g3 k hk).2.1⟩
        rw [of_is hn g2 hb hwho]
        simp only [Option.bind_some]
        have hat : cliAt ks R.1 ≤ ks.length := pre_le _ _
        have hlen := hF.len
        -- the client is there
        refine bind_ex (fun z => z = some _) (fun o => ∃ rows1 ms1, o = (w, (ks, (R.1, (R.2.1, (R.2.2.1, (R.2.2.2.1.1, (R.2.2.2.1.2, (R.2.2.2.2.1, (R.2.2.2.2.2.1, (R.2.2.2.2.2.2.1, (R.2.2.2.2.2.2.2.1, (R.2.2.2.2.2.2.2.2.1, (R.2.2.2.2.2.2.2.2.2, (0, (w, (rows1, ms1)))))))))))))))) ∧ FamK rows1 ms1 (withCli ks R.1) ∧ (withCli ks R.1)[cliAt ks R.1]? = some (kept1 ks R.1) ∧ (kept1 ks R.1).2.2.length ≤ 1000 ∧ ((kept1 ks R.1).2.2.map (·.2.1)).Pairwise (· < ·)) ?_ (fun o ho => ?_)
        · unfold withCli kept1
          cases hk : kOf ks R.1 with
          | none =>
            simp only [Option.isSome_none, Bool.not_false, cond_true, Bool.false_eq_true, if_false, Option.getD_none]
            rw [insertK (by omega) (by omega)]
            refine ⟨_, rfl, _, _, rfl, hF.insert (q := cliAt ks R.1) (row := (R.1, (0, .inr none))) (k := (R.1, (0, []))) (by omega) ⟨rfl, rfl⟩ rfl rfl, ?_, by simp, by simp⟩
            have e1 : (ks.take (cliAt ks R.1)).length = cliAt ks R.1 := by rw [List.length_take]; omega
            rw [List.append_assoc, List.getElem?_append_right (by omega), e1, Nat.sub_self]
            rfl
          | some k =>
            simp only [Option.isSome_some, Bool.not_true, cond_false, if_true, Option.getD_some]
            obtain ⟨q1, q2⟩ := kOf_at g2 hk
            have hkm := List.mem_of_getElem? q1
            have hkb := keptB_iff.1 (g3 k hkm).2.2
            exact ⟨_, rfl, _, _, rfl, hF, q1, (h.2 k hkm).1, hkb.2.2.2.1⟩
        obtain ⟨rows1, ms1, rfl, hF1, hq, hl1, hs1⟩ := ho
        simp only
        obtain ⟨row, hrow, hsame, hpart⟩ := hF1.row hq
        have hqr := (List.getElem?_eq_some_iff.1 hrow).1
        rw [idx_nat hqr]
        simp only [Option.bind_some, hrow]
        rw [unrefP, hpart.view]
        erw [Option.bind_some]
        rw [search_is hl1 hs1]
        simp only [Option.bind_some]
        rw [hown]
        simp only [Option.bind_some]
        obtain ⟨ms2, ho2, hm2, hF2⟩ := hF1.open_ hrow hq
        rw [ho2]
        simp only [Option.bind_some]
        rw [ownR, insertR (i := repAt (kept1 ks R.1).2.2 R.2.1) (pre_le _ _) hl1]
        simp only [Option.bind_some]
        rw [List.getElem?_set_self hqr]
        simp only [Option.bind_some]
        generalize hL : (kept1 ks R.1).2.2.take (repAt (kept1 ks R.1).2.2 R.2.1) ++ [R] ++ (kept1 ks R.1).2.2.drop (repAt (kept1 ks R.1).2.2 R.2.1) = L
        have hLp : 0 < L.length := by rw [← hL]; simp; omega
        have e0 : refLen (s := TREP) (.inr (some (ms2.length, (0, L.length)))) = L.length := rfl
        simp only [e0]
        have hrow1 : row.1 = (kept1 ks R.1).1 := hsame.1
        have hrow2 : row.2.1 = (kept1 ks R.1).2.1 := hsame.2
        have hgoal : ∀ K : KeptT, putK w (kept1 ks R.1) R = K → some (w, ((withCli ks R.1).set (cliAt ks R.1) K, (0 : Int))) = some (putO (if true = true ∧ true = true ∧ (0 : Int) = 0 then ((w, putL w ks R), (0 : Int)) else ((w, ks), 2))) := fun K hK => by
          rw [if_pos ⟨rfl, rfl, rfl⟩, ← hK]
          rfl
        by_cases hw : ((L.length : Nat) : Int) > w
        · rw [decide_eq_true hw]
          simp only [cond_true]
          have hx0 : L[0]? = some L[0] := List.getElem?_eq_getElem hLp
          have hF3 := hF2 (row.1, (row.2.1, .inr (some (ms2.length, (0, L.length))))) (row.1, (row.2.1, L)) ⟨rfl, rfl⟩ rfl
          have hq3 : (rows1.set (cliAt ks R.1) (row.1, (row.2.1, .inr (some (ms2.length, (0, L.length))))))[cliAt ks R.1]? = some (row.1, (row.2.1, .inr (some (ms2.length, (0, L.length))))) := List.getElem?_set_self hqr
          have hk3 : ((withCli ks R.1).set (cliAt ks R.1) (row.1, (row.2.1, L)))[cliAt ks R.1]? = some (row.1, (row.2.1, L)) := List.getElem?_set_self (by have := (List.getElem?_eq_some_iff.1 hq).1; omega)
          simp only [refO, Option.bind_some]
          rw [idx_int (by omega) (by omega)]
          simp only [Option.bind_some, Int.toNat_zero, Nat.add_zero]
          have hm3 : (ms2 ++ [(1, L)])[ms2.length]? = some (1, L) := by rw [List.getElem?_append_right (by omega), Nat.sub_self]; rfl
          rw [hm3]
          simp only [Option.bind_some]
          rw [need_true (by rfl)]
          simp only [hx0, Option.bind_some]
          have hF4 := hF3.keep hq3 hk3 (row' := (row.1, (L[0].2.1, .inr (some (ms2.length, (0, L.length)))))) (k' := (row.1, (L[0].2.1, L))) ⟨rfl, rfl⟩ rfl rfl
          have hq4 : ((rows1.set (cliAt ks R.1) (row.1, (row.2.1, .inr (some (ms2.length, (0, L.length)))))).set (cliAt ks R.1) (row.1, (L[0].2.1, .inr (some (ms2.length, (0, L.length))))))[cliAt ks R.1]? = some (row.1, (L[0].2.1, .inr (some (ms2.length, (0, L.length))))) := List.getElem?_set_self (by simpa using hqr)
          have hk4 : (((withCli ks R.1).set (cliAt ks R.1) (row.1, (row.2.1, L))).set (cliAt ks R.1) (row.1, (L[0].2.1, L)))[cliAt ks R.1]? = some (row.1, (L[0].2.1, L)) := List.getElem?_set_self (by rw [List.length_set]; have := (List.getElem?_eq_some_iff.1 hq).1; omega)
          rw [hq4]
          simp only [Option.bind_some]
          obtain ⟨ms5, ho5, hm5, hF5⟩ := hF4.open_ hq4 hk4
          simp only at ho5
          rw [ho5]
          simp only [Option.bind_some]
          rw [deleteR hLp]
          simp only [Option.bind_some]
          have hF6 := hF5 (row.1, (L[0].2.1, .inr (some (ms5.length, (0, (L.drop 1).length))))) (row.1, (L[0].2.1, L.drop 1)) ⟨rfl, rfl⟩ rfl
          rw [FamK.pure_ hF6]
          erw [Option.bind_some]
          simp only [List.set_set]
          refine hgoal _ ?_
          unfold putK
          rw [hL]
          simp only
          rw [if_pos hw, hx0, hrow1]
        · rw [decide_eq_false hw]
          simp only [cond_false]
          have hF3 := hF2 (row.1, (row.2.1, .inr (some (ms2.length, (0, L.length))))) (row.1, (row.2.1, L)) ⟨rfl, rfl⟩ rfl
          rw [FamK.pure_ hF3]
          erw [Option.bind_some]
          refine hgoal _ ?_
          unfold putK
          rw [hL]
          simp only
          rw [if_neg hw, hrow1, hrow2]
      · rw [beq_eq_false_iff_ne.2 hlk]
        simp only [Bool.not_false, cond_true]
        rw [hp, if_neg (fun hc => hlk hc.2.2)]
        rfl
end Go.Ab.D

/- Layer 23: the chapter's examples; right caches stay right. -/
set_option maxRecDepth 100000
namespace Go.Ab.D
open Go Go.Ab
def rep (c x s : Int) : ReplyT := (c, (x, (0, ((0, 0), (false, (s, ([], ([], (false, 0)))))))))
theorem rep_small (c x s : Int) : smallR (rep c x s) := ⟨by simp [rep], by simp [rep]⟩
theorem rep_right {c x s : Int} (hc : 0 ≤ c ∧ c < 16) (hx : 1 ≤ x ∧ x ≤ 1099511627776) (hs : 0 ≤ s ∧ s ≤ 65536) : rightReply (rep c x s) = true := by
  unfold rightReply rep whoseB noneB
  simp
  omega
theorem new_is (w : Int) : replies_New fuel w = some (if 1 ≤ w ∧ w ≤ 100 then (w, 0) else (0, 2)) := by
  unfold replies_New
  by_cases h1 : w < 1
  · rw [decide_eq_true h1, if_neg (by omega)]; rfl
  · by_cases h2 : w > 100
    · rw [decide_eq_false h1, decide_eq_true h2, if_neg (by omega)]; rfl
    · rw [decide_eq_false h1, decide_eq_false h2, if_pos (by omega)]; rfl
def st : Nat → List KeptT
  | 0 => []
  | 1 => [(0, (0, [rep 0 3 0]))]
  | 2 => [(0, (0, [rep 0 3 0, rep 0 5 0]))]
  | _ => [(0, (3, [rep 0 4 0, rep 0 5 0]))]
theorem st_small (k : Nat) : smallC (2, st k) := by
  have hk : ∀ (g : Int) (l : List ReplyT), l.length ≤ 2 → (∀ r ∈ l, smallR r) → smallK (0, (g, l)) := fun g l h1 h2 => ⟨by simp only; omega, h2⟩
  unfold st
  split
  · exact ⟨by simp, by simp⟩
  all_goals
    refine ⟨by simp, fun k hk' => ?_⟩
    simp only [List.mem_singleton] at hk'
    subst hk'
    refine hk _ _ (by simp) fun r hr => ?_
    simp only [List.mem_cons, List.not_mem_nil, or_false] at hr
    first | (rcases hr with rfl | rfl <;> exact rep_small _ _ _) | (subst hr; exact rep_small _ _ _)
theorem awake23 : law23_awake fuel = some true := by
  unfold law23_awake
  rw [new_is, if_pos (by decide)]
  simp only [Option.bind_some]
  have loop : law23_awake_l0_it fuel (0, (2, [])) = some (.inl (2, st 3)) := by
    unfold law23_awake_l0_it
    have := iter_range (f := fun tt : Int × (Int × List KeptT) => law23_awake_l0 fuel tt.1 tt.2.1 tt.2.2) (o := .inl (2, st 3)) (fun k => ((k : Int), (2, st k))) 3 (by omega) (fun k hk => by
      show law23_awake_l0 fuel (k : Int) 2 (st k) = _
      unfold law23_awake_l0
      rw [decide_eq_true (show (k : Int) < 3 by omega), idx_nat hk]
      simp only [cond_true, Option.bind_some]
      rw [look_is _ (st_small k)]
      have hk3 : k = 0 ∨ k = 1 ∨ k = 2 := by omega
      have hp : ∀ x : Int, replies_Put fuel (2, st k) (0, (x, (0, ((0, 0), (false, (0, ([], ([], (false, 0))))))))) = some (putO (put (2, st k) (rep 0 x 0))) := fun x => put_is (2, st k) (rep 0 x 0) (st_small k) (rep_small _ _ _)
      rcases hk3 with rfl | rfl | rfl
      · rw [show ([3, 5, 4] : List Int)[0]? = some 3 from rfl]
        simp only [Option.bind_some]
        rw [show ((3 : Int) == 4) = false from rfl]
        simp only [cond_false, Option.bind_some]
        rw [hp, show put (2, st 0) (rep 0 3 0) = ((2, st 1), 0) from by rfl]
        rfl
      · rw [show ([3, 5, 4] : List Int)[1]? = some 5 from rfl]
        simp only [Option.bind_some]
        rw [show ((5 : Int) == 4) = false from rfl]
        simp only [cond_false, Option.bind_some]
        rw [hp, show put (2, st 1) (rep 0 5 0) = ((2, st 2), 0) from by rfl]
        rfl
      · rw [show ([3, 5, 4] : List Int)[2]? = some 4 from rfl]
        simp only [Option.bind_some]
        rw [show ((4 : Int) == 4) = true from rfl]
        simp only [cond_true, Option.bind_some, look_code]
        rw [show (look (2, st 2) 0 3).2 = 1 from by rfl]
        simp only [beq_self_eq_true, Bool.not_true, cond_false]
        rw [hp, show put (2, st 2) (rep 0 4 0) = ((2, st 3), 0) from by rfl]
        rfl) rfl
    exact this
  rw [loop]
  simp only [Option.bind_some]
  rw [look_is _ (st_small 3), look_is _ (st_small 3), look_is _ (st_small 3)]
  simp only [Option.bind_some]
  have hp : replies_Put fuel (2, st 3) (0, (2, (0, ((0, 0), (false, (0, ([], ([], (false, 0))))))))) = some (putO (put (2, st 3) (rep 0 2 0))) := put_is (2, st 3) (rep 0 2 0) (st_small 3) (rep_small _ _ _)
  rw [hp, show put (2, st 3) (rep 0 2 0) = ((2, st 3), 2) from by rfl]
  simp only [Option.bind_some, look_code]
  rw [show (look (2, st 3) 0 3).2 = 2 from by rfl, show (look (2, st 3) 0 1).2 = 2 from by rfl, show (look (2, st 3) 0 6).2 = 0 from by rfl]
  rfl
end Go.Ab.D

/- Layer 23: right caches stay right; what is told of other clients. -/
set_option maxRecDepth 100000
namespace Go.Ab.D
open Go Go.Ab
section
variable {α : Type} {key : α → Int}
theorem uniq {l : List α} (hs : (l.map key).Pairwise (· < ·)) {i j : Nat} {a b : α} (hi : l[i]? = some a) (hj : l[j]? = some b) (h : key a = key b) : i = j := by
  obtain ⟨h1, rfl⟩ := List.getElem?_eq_some_iff.1 hi
  obtain ⟨h2, rfl⟩ := List.getElem?_eq_some_iff.1 hj
  rcases Nat.lt_trichotomy i j with hc | hc | hc
  · have := List.pairwise_iff_getElem.1 hs i j (by simpa using h1) (by simpa using h2) hc
    simp only [List.getElem_map] at this; omega
  · exact hc
  · have := List.pairwise_iff_getElem.1 hs j i (by simpa using h2) (by simpa using h1) hc
    simp only [List.getElem_map] at this; omega
theorem find_iff {l : List α} (hs : (l.map key).Pairwise (· < ·)) {x : Int} {a : α} : l.find? (fun a => key a == x) = some a ↔ a ∈ l ∧ key a = x := by
  constructor
  · intro h
    exact ⟨List.mem_of_find?_eq_some h, by have := List.find?_some h; simpa using this⟩
  · rintro ⟨h1, h2⟩
    cases hf : l.find? (fun a => key a == x) with
    | none =>
      have := List.find?_eq_none.1 hf a h1
      simp [h2] at this
    | some b =>
      have hb := List.mem_of_find?_eq_some hf
      have hbx : key b = x := by have := List.find?_some hf; simpa using this
      obtain ⟨i, hi⟩ := List.getElem?_of_mem h1
      obtain ⟨j, hj⟩ := List.getElem?_of_mem hb
      have := uniq hs hi hj (by omega)
      subst this
      rw [hi] at hj
      exact hj.symm
theorem ins_sorted {l : List α} (hs : (l.map key).Pairwise (· < ·)) {x : Int} {a : α} (ha : key a = x) (hno : l.find? (fun a => key a == x) = none) :
    ((l.take (pre (fun a => decide (key a < x)) l) ++ [a] ++ l.drop (pre (fun a => decide (key a < x)) l)).map key).Pairwise (· < ·) := by
  have hlt : ∀ b ∈ l.take (pre (fun a => decide (key a < x)) l), key b < x := fun b hb => of_decide_eq_true (take_pre _ l b hb)
  have hgt : ∀ b ∈ l.drop (pre (fun a => decide (key a < x)) l), x < key b := fun b hb => by
    obtain ⟨i, hi⟩ := List.getElem?_of_mem hb
    rw [List.getElem?_drop] at hi
    have h1 : ¬ key b < x := fun hc => by
      have := (pre_iff hs x _ b hi).1 hc
      omega
    have h2 : key b ≠ x := by
      have := List.find?_eq_none.1 hno b (List.mem_of_getElem? hi)
      simpa using this
    omega
  simp only [List.map_append, List.map_cons, List.map_nil]
  rw [List.append_assoc, List.pairwise_append]
  refine ⟨?_, ?_, ?_⟩
  · exact hs.sublist ((List.take_sublist _ _).map key)
  · rw [List.singleton_append, List.pairwise_cons]
    refine ⟨fun b hb => ?_, hs.sublist ((List.drop_sublist _ _).map key)⟩
    obtain ⟨c, hc, rfl⟩ := List.mem_map.1 hb
    have := hgt c hc
    omega
  · intro b hb c hc
    obtain ⟨b', hb', rfl⟩ := List.mem_map.1 hb
    have h1 := hlt b' hb'
    rw [List.singleton_append, List.mem_cons] at hc
    rcases hc with rfl | hc
    · omega
    · obtain ⟨c', hc', rfl⟩ := List.mem_map.1 hc
      have := hgt c' hc'
      omega
theorem ins_mem {l : List α} {n : Nat} {a b : α} : b ∈ l.take n ++ [a] ++ l.drop n ↔ b = a ∨ b ∈ l := by
  have : b ∈ l ↔ b ∈ l.take n ∨ b ∈ l.drop n := by rw [← List.mem_append, List.take_append_drop]
  rw [this]
  simp only [List.mem_append, List.mem_singleton]
  constructor
  · rintro ((h | h) | h)
    · exact .inr (.inl h)
    · exact .inl h
    · exact .inr (.inr h)
  · rintro (h | h | h)
    · exact .inl (.inr h)
    · exact .inl (.inl h)
    · exact .inr h
theorem set_map {l : List α} {i : Nat} {a b : α} (h : l[i]? = some a) (hk : key b = key a) : (l.set i b).map key = l.map key := by
  rw [List.map_set, hk]
  refine set_same ?_
  rw [List.getElem?_map, h]
  rfl
theorem set_mem {l : List α} (hs : (l.map key).Pairwise (· < ·)) {i : Nat} {a b c : α} (h : l[i]? = some a) : c ∈ l.set i b ↔ c = b ∨ (c ∈ l ∧ key c ≠ key a) := by
  have hi := (List.getElem?_eq_some_iff.1 h).1
  constructor
  · intro hc
    obtain ⟨j, hj⟩ := List.getElem?_of_mem hc
    by_cases e : j = i
    · subst e
      rw [List.getElem?_set_self hi] at hj
      cases hj
      exact .inl rfl
    · rw [List.getElem?_set_ne (by omega)] at hj
      exact .inr ⟨List.mem_of_getElem? hj, fun hk => e (uniq hs hj h hk)⟩
  · rintro (rfl | ⟨h1, h2⟩)
    · exact List.mem_of_getElem? (List.getElem?_set_self hi)
    · obtain ⟨j, hj⟩ := List.getElem?_of_mem h1
      by_cases e : j = i
      · subst e
        rw [h] at hj
        cases hj
        exact absurd rfl h2
      · exact List.mem_of_getElem? (by rw [List.getElem?_set_ne (Ne.symm e)]; exact hj)
end
theorem kOf_iff {ks : List KeptT} (hs : (ks.map (·.1)).Pairwise (· < ·)) {x : Int} {k : KeptT} : kOf ks x = some k ↔ k ∈ ks ∧ k.1 = x := find_iff hs
theorem rOf_iff {l : List ReplyT} (hs : (l.map (·.2.1)).Pairwise (· < ·)) {x : Int} {r : ReplyT} : rOf l x = some r ↔ r ∈ l ∧ r.2.1 = x := find_iff hs
theorem look_zero {c : CacheT} (h : rightC c = true) {cl x : Int} : (look c cl x).2 = 0 ↔ ∀ k, kOf c.2 cl = some k → k.2.1 < x ∧ rOf k.2.2 x = none := by
  unfold look
  rw [if_pos h]
  cases hk : kOf c.2 cl with
  | none => simp
  | some k =>
    simp only
    by_cases hx : x ≤ k.2.1
    · rw [if_pos hx]
      simp only [Option.some.injEq, forall_eq']
      constructor
      · intro h; cases h
      · intro h; omega
    · rw [if_neg hx]
      cases hr : rOf k.2.2 x with
      | none => simp [hr]; omega
      | some r => simp [hr]
theorem putK_fst (w : Int) (k : KeptT) (r : ReplyT) : (putK w k r).1 = k.1 := by
  unfold putK
  simp only
  split <;> rfl
theorem putK_right {w : Int} (_hw : 1 ≤ w) {k : KeptT} {r : ReplyT} (hk : keptB w k = true) (hr : rightReply r = true) (h1 : r.1 = k.1) (h2 : k.2.1 < r.2.1) (h3 : rOf k.2.2 r.2.1 = none) : keptB w (putK w k r) = true := by
  obtain ⟨a1, a2, a3, a4, a5⟩ := keptB_iff.1 hk
  have hs := ins_sorted a4 (a := r) rfl h3
  have hle : repAt k.2.2 r.2.1 ≤ k.2.2.length := pre_le _ _
  have hm : ∀ b, b ∈ k.2.2.take (repAt k.2.2 r.2.1) ++ [r] ++ k.2.2.drop (repAt k.2.2 r.2.1) → b.1 = k.1 ∧ k.2.1 < b.2.1 ∧ rightReply b = true := fun b hb => by
    rcases ins_mem.1 hb with rfl | hb
    · exact ⟨h1, h2, hr⟩
    · exact a5 b hb
  have hlen : (k.2.2.take (repAt k.2.2 r.2.1) ++ [r] ++ k.2.2.drop (repAt k.2.2 r.2.1)).length = k.2.2.length + 1 := by simp; omega
  unfold putK
  simp only
  unfold repAt at hm hlen ⊢
  generalize k.2.2.take (pre (fun k => decide (k.2.1 < r.2.1)) k.2.2) ++ [r] ++ k.2.2.drop (pre (fun k => decide (k.2.1 < r.2.1)) k.2.2) = L at hs hm hlen ⊢
  by_cases hw : ((L.length : Nat) : Int) > w
  · rw [if_pos hw]
    cases L with
    | nil => simp at hlen
    | cons x L =>
      simp only [List.map_cons, List.pairwise_cons] at hs
      have hx := hm x (by simp)
      have hxr := rightReply_who hx.2.2
      simp only [List.getElem?_cons_zero, List.drop_one, List.tail_cons]
      refine keptB_iff.2 ⟨by simp only; omega, by simp only; omega, by simp only; simp only [List.length_cons] at hlen; omega, hs.2, fun b hb => ?_⟩
      have := hm b (by simp [hb])
      exact ⟨this.1, hs.1 _ (List.mem_map.2 ⟨b, hb, rfl⟩), this.2.2⟩
  · rw [if_neg hw]
    exact keptB_iff.2 ⟨a1, a2, by simp only; omega, hs, hm⟩
theorem withCli_ok {w : Int} {ks : List KeptT} (hw : 1 ≤ w) (hs : (ks.map (·.1)).Pairwise (· < ·)) (hb : ∀ k ∈ ks, 0 ≤ k.1 ∧ k.1 < 16 ∧ keptB w k = true) {x : Int} (hx : 0 ≤ x ∧ x < 16) :
    ((withCli ks x).map (·.1)).Pairwise (· < ·) ∧ (∀ k ∈ withCli ks x, 0 ≤ k.1 ∧ k.1 < 16 ∧ keptB w k = true) ∧ (withCli ks x)[cliAt ks x]? = some (kept1 ks x) ∧ (kept1 ks x).1 = x ∧ ∀ k, k.1 ≠ x → (k ∈ withCli ks x ↔ k ∈ ks) := by
  unfold withCli kept1
  cases hk : kOf ks x with
  | some k =>
    simp only [Option.isSome_some, if_true, Option.getD_some]
    obtain ⟨h1, h2⟩ := kOf_at hs hk
    exact ⟨hs, hb, h1, h2, by intros; first | trivial | exact Iff.rfl⟩
  | none =>
    simp only [Option.isSome_none, Bool.false_eq_true, if_false, Option.getD_none]
    refine ⟨ins_sorted hs (a := ((x, (0, [])) : KeptT)) rfl hk, fun k hk' => ?_, ?_, by first | trivial | rfl, fun k hne => ?_⟩
    · rcases ins_mem.1 hk' with rfl | h
      · exact ⟨hx.1, hx.2, keptB_iff.2 ⟨by simp, by simp, by simp; omega, by simp, by simp⟩⟩
      · exact hb k h
    · have hle : cliAt ks x ≤ ks.length := pre_le _ _
      have e1 : (ks.take (cliAt ks x)).length = cliAt ks x := by rw [List.length_take]; omega
      rw [List.append_assoc, List.getElem?_append_right (by omega), e1, Nat.sub_self]
      rfl
    · rw [ins_mem]
      constructor
      · rintro (rfl | h)
        · exact absurd rfl hne
        · exact h
      · exact .inr
/-- What an answer more leaves. -/
theorem putL_ok {w : Int} {ks : List KeptT} {r : ReplyT} (h : rightC (w, ks) = true) (hr : rightReply r = true) (hl : (look (w, ks) r.1 r.2.1).2 = 0) :
    rightC (w, putL w ks r) = true ∧ ∀ x, kOf (putL w ks r) x = if x = r.1 then some (putK w (kept1 ks r.1) r) else kOf ks x := by
  obtain ⟨g1, g2, g3⟩ := rightC_iff.1 h
  simp only at g1 g2 g3
  have hwho := (rightReply_who hr).1
  obtain ⟨w1, w2, w3, w4, w5⟩ := withCli_ok g1.1 g2 g3 hwho
  have hz := (look_zero h).1 hl
  simp only at hz
  have hkept : keptB w (kept1 ks r.1) = true := (w2 _ (List.mem_of_getElem? w3)).2.2
  have hgone : (kept1 ks r.1).2.1 < r.2.1 ∧ rOf (kept1 ks r.1).2.2 r.2.1 = none := by
    unfold kept1
    cases hk : kOf ks r.1 with
    | none =>
      simp only [Option.getD_none]
      have := (rightReply_who hr).2.1
      exact ⟨by omega, rfl⟩
    | some k => exact hz k hk
  have hnew := putK_right g1.1 hkept hr w4.symm hgone.1 hgone.2
  have hfst : (putK w (kept1 ks r.1) r).1 = (kept1 ks r.1).1 := putK_fst _ _ _
  have hs : ((putL w ks r).map (·.1)).Pairwise (· < ·) := by
    unfold putL
    rw [set_map (key := fun k : KeptT => k.1) w3 hfst]
    exact w1
  have hmem : ∀ k, k ∈ putL w ks r ↔ k = putK w (kept1 ks r.1) r ∨ (k ∈ withCli ks r.1 ∧ k.1 ≠ (kept1 ks r.1).1) := fun k => set_mem (key := fun k : KeptT => k.1) w1 w3
  refine ⟨rightC_iff.2 ⟨g1, hs, fun k hk => ?_⟩, fun x => ?_⟩
  · rcases (hmem k).1 hk with rfl | ⟨h1, _⟩
    · rw [hfst, w4]; exact ⟨hwho.1, hwho.2, hnew⟩
    · exact w2 k h1
  · by_cases hx : x = r.1
    · rw [if_pos hx]
      exact (kOf_iff hs).2 ⟨(hmem _).2 (.inl rfl), by rw [hfst, w4, hx]⟩
    · rw [if_neg hx]
      apply Option.ext
      intro k
      rw [kOf_iff hs, kOf_iff g2, hmem]
      constructor
      · rintro ⟨rfl | ⟨h1, _⟩, h2⟩
        · rw [hfst, w4] at h2; exact absurd h2.symm hx
        · exact ⟨(w5 k (by omega)).1 h1, h2⟩
      · rintro ⟨h1, h2⟩
        exact ⟨.inr ⟨(w5 k (by omega)).2 h1, by rw [w4]; omega⟩, h2⟩
theorem put_right {c : CacheT} {r : ReplyT} (h : rightC c = true) : rightC (put c r).1 = true ∧ (put c r).1.1 = c.1 := by
  unfold put
  split
  · rename_i hc
    exact ⟨(putL_ok hc.1 hc.2.1 hc.2.2).1, rfl⟩
  · exact ⟨h, rfl⟩
/-- What is kept of a client. -/
theorem put_kOf {c : CacheT} {r : ReplyT} {x : Int} (h : rightC c = true) (hx : x ≠ r.1) : kOf (put c r).1.2 x = kOf c.2 x := by
  unfold put
  split
  · rename_i hc
    have := (putL_ok hc.1 hc.2.1 hc.2.2).2 x
    rw [if_neg hx] at this
    exact this
  · rfl
theorem look_same {c d : CacheT} (hc : rightC c = true) (hd : rightC d = true) {cl : Int} (h : kOf c.2 cl = kOf d.2 cl) (x : Int) : look c cl x = look d cl x := by
  unfold look
  rw [if_pos hc, if_pos hd, h]
theorem put_kOf_same {c d : CacheT} {r : ReplyT} (hc : rightC c = true) (hd : rightC d = true) (hw : c.1 = d.1) (h : kOf c.2 r.1 = kOf d.2 r.1) : kOf (put c r).1.2 r.1 = kOf (put d r).1.2 r.1 := by
  have hl := look_same hc hd h r.2.1
  unfold put
  by_cases q : rightC c = true ∧ rightReply r = true ∧ (look c r.1 r.2.1).2 = 0
  · have q' : rightC d = true ∧ rightReply r = true ∧ (look d r.1 r.2.1).2 = 0 := ⟨hd, q.2.1, by rw [← hl]; exact q.2.2⟩
    rw [if_pos q, if_pos q']
    simp only
    have e1 := (putL_ok (w := c.1) (ks := c.2) q.1 q.2.1 q.2.2).2 r.1
    have e2 := (putL_ok (w := d.1) (ks := d.2) q'.1 q'.2.1 q'.2.2).2 r.1
    rw [if_pos rfl] at e1 e2
    rw [e1, e2]
    unfold kept1
    rw [h, hw]
  · have q' : ¬ (rightC d = true ∧ rightReply r = true ∧ (look d r.1 r.2.1).2 = 0) := fun hh => q ⟨hc, hh.2.1, by rw [hl]; exact hh.2.2⟩
    rw [if_neg q, if_neg q']
    exact h
theorem pick_is {n : Int} (hn : 1 ≤ n ∧ n ≤ 1000) (x : Int) : ∃ v, kit_Pick fuel x n = some v ∧ 0 ≤ v ∧ v < n := by
  unfold kit_Pick
  rw [decide_eq_false (by omega), need_true (by rw [decide_eq_false (by omega)]; rfl)]
  have h1 := Int.tmod_lt_of_pos x (show 0 < n by omega)
  have h2 : -n < Int.tmod x n := Int.lt_tmod_of_pos x (by omega)
  by_cases h : Int.tmod x n < 0
  · rw [decide_eq_true h, w64 ⟨by omega, by omega⟩]
    exact ⟨_, rfl, by omega, by omega⟩
  · rw [decide_eq_false h]
    exact ⟨_, rfl, by omega, by omega⟩
theorem sameR_self (c : CacheT) (h : rightC c = true) (cl x : Int) : law21_SameReply fuel (look c cl x).1 (look c cl x).1 = some true := by
  have hsm : smallR (look c cl x).1 := by
    unfold look
    rw [if_pos h]
    cases hk : kOf c.2 cl with
    | none => exact ⟨by simp [zR], by simp [zR]⟩
    | some k =>
      simp only
      split
      · exact ⟨by simp [zR], by simp [zR]⟩
      · cases hr : rOf k.2.2 x with
        | none => exact ⟨by simp [zR], by simp [zR]⟩
        | some r =>
          have hkm : k ∈ c.2 := List.mem_of_find?_eq_some hk
          have hrm : r ∈ k.2.2 := List.mem_of_find?_eq_some hr
          exact ((right_small h).2 k hkm).2 r hrm
  exact sameReply_self _ (by have := hsm.1; omega) (by have := hsm.2; omega)
end Go.Ab.D

/- Layer 23: the document's own Right and Look. -/
set_option maxRecDepth 100000
namespace Go.Ab.D
open Go Go.Ab
theorem rnew_is (w : Int) : ref23_New fuel w = some (if 1 ≤ w ∧ w ≤ 100 then (w, 0) else (0, 2)) := by
  unfold ref23_New
  by_cases h1 : w < 1
  · rw [decide_eq_true h1, if_neg (by omega)]; rfl
  · by_cases h2 : w > 100
    · rw [decide_eq_false h1, decide_eq_true h2, if_neg (by omega)]; rfl
    · rw [decide_eq_false h1, decide_eq_false h2, if_pos (by omega)]; rfl
theorem rinner {w : Int} {ks : List KeptT} {cl gone : Int} {l : List ReplyT} (hl : l.length ≤ 1000) (hs : ∀ r ∈ l, smallR r) : ref23_Right_l0_it fuel (gone, (0, (w, (ks, (cl, (gone, l)))))) = some (if rightOf cl gone l = true then .inl (w, ks) else .inr (.inr (.inr false))) := by
  unfold ref23_Right_l0_it
  have := run_loop l (fun tt : Int × (Int × (Int × (List KeptT × (Int × (Int × List ReplyT))))) => ref23_Right_l0 fuel tt.1 tt.2.1 tt.2.2.1 tt.2.2.2.1 tt.2.2.2.2.1 tt.2.2.2.2.2.1 tt.2.2.2.2.2.2)
    (fun n (last : Int) => (last, ((n : Int), (w, (ks, (cl, (gone, l))))))) (fun _ last r => if ((r.1 == cl) && (decide (last < r.2.1) && rightReply r)) = true then .inl r.2.1 else .inr (.inr (.inr (.inr false)))) (fun _ => .inl (w, ks)) (fun _ _ => True) (by omega)
    (fun n r last hr _ => by
      have hn : n < l.length := (List.getElem?_eq_some_iff.1 hr).1
      refine ⟨?_, fun _ _ => trivial⟩
      show ref23_Right_l0 fuel last (n : Int) w ks cl gone l = _
      unfold ref23_Right_l0
      rw [decide_eq_true (by omega), idx_nat hn]
      simp only [cond_true, Option.bind_some, hr]
      have hsm := hs r (List.mem_of_getElem? hr)
      have e : ref21_RightReply fuel (r.1, (r.2.1, (r.2.2.1, ((r.2.2.2.1.1, r.2.2.2.1.2), (r.2.2.2.2.1, (r.2.2.2.2.2.1, (r.2.2.2.2.2.2.1, (r.2.2.2.2.2.2.2.1, (r.2.2.2.2.2.2.2.2.1, r.2.2.2.2.2.2.2.2.2))))))))) = some (rightReply r) := rright_is (r := r) (by have := hsm.2; omega)
      rw [e, w64 ⟨by omega, by omega⟩]
      simp only [Option.bind_some]
      cases rightReply r with
      | false => simp only [Bool.not_false, cond_true, Option.bind_some, Bool.and_false, Bool.false_eq_true, if_false]
      | true =>
        cases r.1 == cl with
        | false => simp only [Bool.not_true, Bool.not_false, cond_false, cond_true, Option.bind_some, Bool.false_and, Bool.false_eq_true, if_false]
        | true =>
          by_cases q : r.2.1 ≤ last
          · rw [decide_eq_true q, decide_eq_false (show ¬ last < r.2.1 by omega)]
            simp only [Bool.not_true, cond_false, cond_true, Option.bind_some, Bool.and_true, Bool.true_and, Bool.false_eq_true, if_false]
          · rw [decide_eq_false q, decide_eq_true (show last < r.2.1 by omega)]
            simp only [Bool.not_true, cond_false, Option.bind_some, Bool.and_true, if_true]
            rfl)
    (fun last _ => by
      show ref23_Right_l0 fuel last ((l.length : Nat) : Int) w ks cl gone l = _
      unfold ref23_Right_l0
      rw [decide_eq_false (by omega)]
      rfl) gone trivial
  refine Eq.trans this ?_
  congr 1
  have g : ∀ (m : List ReplyT) (k : Nat) (last : Int), runL (fun _ last (r : ReplyT) => if ((r.1 == cl) && (decide (last < r.2.1) && rightReply r)) = true then .inl r.2.1 else .inr (.inr (.inr (.inr false)))) (fun _ => (.inl (w, ks) : (Int × List KeptT) ⊕ ((Int × (Int × List KeptT)) ⊕ (Unit ⊕ Bool)))) k last m = if rightOf cl last m = true then .inl (w, ks) else .inr (.inr (.inr false)) := by
    intro m
    induction m with
    | nil => intro k last; rfl
    | cons r m ih =>
      intro k last
      unfold runL rightOf
      by_cases q : ((r.1 == cl) && (decide (last < r.2.1) && rightReply r)) = true
      · simp only [q, if_true]
        simp only [Bool.and_eq_true] at q
        simp only [q.1, q.2.1, q.2.2, Bool.true_and]
        exact ih (k + 1) r.2.1
      · simp only [q]
        rw [← Bool.and_assoc, ← Bool.and_assoc, Bool.and_assoc (r.1 == cl)]
        simp only [q, Bool.false_and]
        rfl
  exact g l 0 gone
theorem rright23_is (c : CacheT) (h : smallC c) : ref23_Right fuel c = some (rightC c) := by
  obtain ⟨w, ks⟩ := c
  have hn := h.1
  simp only at hn
  unfold ref23_Right
  simp only
  have loop : ref23_Right_l1_it fuel (0, (w, ks)) = some (if clientsB w (-1) ks = true then .inl () else .inr false) := by
    unfold ref23_Right_l1_it
    have := run_loop ks (fun tt : Int × (Int × List KeptT) => ref23_Right_l1 fuel tt.1 tt.2.1 tt.2.2) (fun k (_ : Int) => ((k : Int), (w, ks)))
      (fun _ last k => if (decide (last < k.1) && (decide (k.1 < 16) && keptB w k)) = true then .inl k.1 else .inr (.inr false)) (fun _ => .inl ()) (fun k last => -1 ≤ last ∧ (match k with | 0 => last = -1 | k + 1 => ∃ x, ks[k]? = some x ∧ x.1 = last)) (by omega)
      (fun n k last hk hI => by
        have hnl : n < ks.length := (List.getElem?_eq_some_iff.1 hk).1
        have hsm := h.2 k (List.mem_of_getElem? hk)
        refine ⟨?_, fun a' ha' => ?_⟩
        · show ref23_Right_l1 fuel (n : Int) w ks = _
          unfold ref23_Right_l1
          rw [decide_eq_true (by omega), idx_nat hnl]
          simp only [cond_true, Option.bind_some, hk]
          rw [w64 (x := (n : Int) + 1) ⟨by omega, by omega⟩]
          have fin : ∀ b : Bool, b = !((decide (0 ≤ k.2.1) && (decide (k.2.1 ≤ 1099511627776) && decide (((k.2.2.length : Nat) : Int) ≤ w)))) → ((bif b then some (.inr (.inr false)) else (ref23_Right_l0_it fuel (k.2.1, (0, (w, (ks, (k.1, (k.2.1, k.2.2))))))).bind fun o3 =>
                match o3 with
                | .inl s => some (.inl ((n : Int) + 1, (s.1, s.2)))
                | .inr o4 => some o4) : Option ((Int × (Int × List KeptT)) ⊕ (Unit ⊕ Bool))) = some (if keptB w k = true then .inl (((n + 1 : Nat) : Int), (w, ks)) else .inr (.inr false)) := fun b hb => by
            rw [rinner hsm.1 hsm.2]
            unfold keptB
            subst hb
            cases decide (0 ≤ k.2.1) <;> cases decide (k.2.1 ≤ 1099511627776) <;> cases decide (((k.2.2.length : Nat) : Int) ≤ w) <;> cases rightOf k.1 k.2.1 k.2.2 <;> rfl
          have tail : (bif (decide (k.2.1 < 0)) then
                some (true, (w, (ks, (k.1, (k.2.1, k.2.2)))))
              else
                bif (decide (k.2.1 > 1099511627776)) then
                  some (true, (w, (ks, (k.1, (k.2.1, k.2.2)))))
                else
                  some ((decide (((k.2.2.length : Nat) : Int) > w)), (w, (ks, (k.1, (k.2.1, k.2.2)))))) = some (!((decide (0 ≤ k.2.1) && (decide (k.2.1 ≤ 1099511627776) && decide (((k.2.2.length : Nat) : Int) ≤ w)))), (w, (ks, (k.1, (k.2.1, k.2.2))))) := by
            by_cases q1 : k.2.1 < 0
            · rw [decide_eq_true q1, decide_eq_false (show ¬ 0 ≤ k.2.1 by omega)]; rfl
            · by_cases q2 : k.2.1 > 1099511627776
              · rw [decide_eq_false q1, decide_eq_true q2, decide_eq_false (show ¬ k.2.1 ≤ 1099511627776 by omega), Bool.false_and, Bool.and_false]; rfl
              · rw [decide_eq_false q1, decide_eq_false q2, decide_eq_true (show 0 ≤ k.2.1 by omega), decide_eq_true (show k.2.1 ≤ 1099511627776 by omega)]
                by_cases q3 : ((k.2.2.length : Nat) : Int) > w
                · rw [decide_eq_true q3, decide_eq_false (show ¬ ((k.2.2.length : Nat) : Int) ≤ w by omega)]; rfl
                · rw [decide_eq_false q3, decide_eq_true (show ((k.2.2.length : Nat) : Int) ≤ w by omega)]; rfl
          by_cases q1 : k.1 < 0
          · rw [decide_eq_true q1, decide_eq_false (show ¬ last < k.1 by omega)]
            rfl
          · by_cases q2 : k.1 ≥ 16
            · rw [decide_eq_false q1, decide_eq_true q2, decide_eq_false (show ¬ k.1 < 16 by omega), Bool.false_and, Bool.and_false]
              rfl
            · rw [decide_eq_false q1, decide_eq_false q2, decide_eq_true (show k.1 < 16 by omega)]
              simp only [cond_false]
              by_cases q3 : (n : Int) > 0
              · rw [decide_eq_true q3]
                simp only [cond_true]
                obtain ⟨n, rfl⟩ : ∃ m, n = m + 1 := ⟨n - 1, by omega⟩
                obtain ⟨hI1, x, hx, hx1⟩ := hI
                have e1 : IntKind.wrap .i64 (((n + 1 : Nat) : Int) - 1) = (n : Int) := by rw [w64 ⟨by omega, by omega⟩]; omega
                rw [e1, idx_nat (by omega)]
                simp only [Option.bind_some, hx]
                by_cases q4 : x.1 ≥ k.1
                · rw [decide_eq_true q4, decide_eq_false (show ¬ last < k.1 by omega)]
                  rfl
                · rw [decide_eq_false q4, decide_eq_true (show last < k.1 by omega)]
                  simp only [cond_false]
                  rw [tail]
                  simp only [Option.bind_some, Bool.true_and]
                  exact (fin _ rfl).trans (by cases keptB w k <;> rfl)
              · rw [decide_eq_false q3]
                simp only [cond_false]
                obtain rfl : n = 0 := by omega
                rw [tail, decide_eq_true (show last < k.1 by have := hI.2; simp only at this; omega)]
                simp only [Option.bind_some, Bool.true_and]
                exact (fin _ rfl).trans (by cases keptB w k <;> rfl)
        · split at ha'
          · rename_i hc
            injection ha' with ha'
            subst ha'
            simp only [Bool.and_eq_true, decide_eq_true_eq] at hc
            exact ⟨by have := hI.1; omega, k, hk, rfl⟩
          · cases ha')
      (fun last _ => by
        show ref23_Right_l1 fuel ((ks.length : Nat) : Int) w ks = _
        unfold ref23_Right_l1
        rw [decide_eq_false (by omega)]
        rfl) (-1) ⟨by omega, rfl⟩
    refine Eq.trans this ?_
    congr 1
    have g : ∀ (m : List KeptT) (k : Nat) (last : Int), runL (fun _ last (k : KeptT) => if (decide (last < k.1) && (decide (k.1 < 16) && keptB w k)) = true then .inl k.1 else .inr (.inr false)) (fun _ => (.inl () : Unit ⊕ Bool)) k last m = if clientsB w last m = true then .inl () else .inr false := by
      intro m
      induction m with
      | nil => intro k last; rfl
      | cons x m ih =>
        intro k last
        unfold runL clientsB
        by_cases q : (decide (last < x.1) && (decide (x.1 < 16) && keptB w x)) = true
        · simp only [q, if_true]
          simp only [Bool.and_eq_true] at q
          simp only [q.1, q.2.1, q.2.2, Bool.true_and]
          exact ih (k + 1) x.1
        · simp only [q]
          rw [← Bool.and_assoc, ← Bool.and_assoc, Bool.and_assoc (decide (last < x.1))]
          simp only [q, Bool.false_and]
          rfl
    exact g ks 0 (-1)
  by_cases q1 : w < 1
  · rw [decide_eq_true q1]
    unfold rightC
    rw [decide_eq_false (show ¬ (1 ≤ w ∧ w ≤ 100) by omega), Bool.and_false]
    rfl
  · by_cases q2 : w > 100
    · rw [decide_eq_false q1, decide_eq_true q2]
      unfold rightC
      rw [decide_eq_false (show ¬ (1 ≤ w ∧ w ≤ 100) by omega), Bool.and_false]
      rfl
    · rw [decide_eq_false q1, decide_eq_false q2]
      by_cases q3 : ((ks.length : Nat) : Int) > 16
      · rw [decide_eq_true q3]
        have : rightC (w, ks) = false := by
          cases hc : rightC (w, ks) with
          | false => rfl
          | true =>
            obtain ⟨_, h2, h3⟩ := rightC_iff.1 hc
            have := nodup_len h2 (fun x hx => by
              obtain ⟨k, hk, rfl⟩ := List.mem_map.1 hx
              exact ⟨(h3 k hk).1, (h3 k hk).2.1⟩)
            simp at this
            omega
        rw [this]
        rfl
      · rw [decide_eq_false q3]
        simp only [cond_false, Option.bind_some]
        rw [loop]
        unfold rightC
        rw [decide_eq_true (show 1 ≤ w ∧ w ≤ 100 by omega), Bool.and_true]
        cases clientsB w (-1) ks <;> rfl
end Go.Ab.D

/- Layer 23: the document's own Look, and its copy. -/
set_option maxRecDepth 100000
namespace Go.Ab.D
open Go Go.Ab
theorem rown_is {r : ReplyT} (h : smallR r) : ref23_own fuel r = some (ownO r) := by
  unfold ref23_own
  have h1 := h.1
  have h2 := h.2
  rw [need_true (by rw [ble_true (by rw [roomIs]; omega), ble_true (by rw [roomIs]; omega)]; rfl), need_true (by rw [ble_true (by rw [roomIs]; omega), ble_true (by rw [roomIs]; omega)]; rfl)]
  rfl
abbrev Z9 : Type := Int × (Int × (Int × (Int × (Int × (Bool × (Int × (Bool × Int)))))))
def z9 : Z9 := (0, (0, (0, (0, (0, (false, (0, (false, 0))))))))
theorem rlook0 {w : Int} {ks : List KeptT} {cl gone xid : Int} {l : List ReplyT} (hl : l.length ≤ 1000) (hs : ∀ r ∈ l, smallR r) :
    ref23_Look_l0_it fuel xid (0, (w, (ks, (0, (0, (0, (0, (0, (false, (0, (false, (0, (cl, (gone, l)))))))))))))) = some (match rOf l xid with | some r => .inr (.inr (.inr (.inr (lookO (r, 1))))) | none => .inl (w, (ks, (0, (0, (0, (0, (0, (false, (0, (false, (0, (cl, (gone, l)))))))))))))) := by
  unfold ref23_Look_l0_it
  have := run_loop l (fun tt : Int × (Int × (List KeptT × (Int × (Int × (Int × (Int × (Int × (Bool × (Int × (Bool × (Int × (Int × (Int × List ReplyT))))))))))))) => ref23_Look_l0 fuel xid tt.1 tt.2.1 tt.2.2.1 tt.2.2.2.1 tt.2.2.2.2.1 tt.2.2.2.2.2.1 tt.2.2.2.2.2.2.1 tt.2.2.2.2.2.2.2.1 tt.2.2.2.2.2.2.2.2.1 tt.2.2.2.2.2.2.2.2.2.1 tt.2.2.2.2.2.2.2.2.2.2.1 tt.2.2.2.2.2.2.2.2.2.2.2.1 tt.2.2.2.2.2.2.2.2.2.2.2.2.1 tt.2.2.2.2.2.2.2.2.2.2.2.2.2.1 tt.2.2.2.2.2.2.2.2.2.2.2.2.2.2)
    (fun n (_ : Unit) => ((n : Int), (w, (ks, (0, (0, (0, (0, (0, (false, (0, (false, (0, (cl, (gone, l)))))))))))))))
    (fun _ _ r => if r.2.1 = xid then .inr (.inr (.inr (.inr (.inr (lookO (r, 1)))))) else .inl ()) (fun _ => .inl (w, (ks, (0, (0, (0, (0, (0, (false, (0, (false, (0, (cl, (gone, l))))))))))))) ) (fun _ _ => True) (by omega)
    (fun n r a hr _ => by
      have hn : n < l.length := (List.getElem?_eq_some_iff.1 hr).1
      refine ⟨?_, fun _ _ => trivial⟩
      show ref23_Look_l0 fuel xid (n : Int) w ks 0 0 0 0 0 false 0 false 0 cl gone l = _
      unfold ref23_Look_l0
      rw [decide_eq_true (by omega), idx_nat hn]
      simp only [cond_true, Option.bind_some, hr]
      rw [rown_is (hs r (List.mem_of_getElem? hr)), w64 ⟨by omega, by omega⟩]
      by_cases q : r.2.1 = xid
      · rw [if_pos q, beq_iff_eq.2 q]; rfl
      · rw [if_neg q, beq_eq_false_iff_ne.2 q]; rfl)
    (fun a _ => by
      show ref23_Look_l0 fuel xid ((l.length : Nat) : Int) w ks 0 0 0 0 0 false 0 false 0 cl gone l = _
      unfold ref23_Look_l0
      rw [decide_eq_false (by omega)]
      rfl) () trivial
  refine Eq.trans this ?_
  congr 1
  have g : ∀ {ο : Type} (bad : ReplyT → ο) (good : ο) (m : List ReplyT) (k : Nat), runL (fun _ (_ : Unit) (r : ReplyT) => if r.2.1 = xid then .inr (bad r) else .inl ()) (fun _ => good) k () m = match rOf m xid with | some r => bad r | none => good := by
    intro ο bad good m
    induction m with
    | nil => intro k; rfl
    | cons r m ih =>
      intro k
      unfold runL rOf
      by_cases q : r.2.1 = xid
      · rw [List.find?_cons_of_pos (by simpa using q)]
        simp only [q, if_true]
      · rw [List.find?_cons_of_neg (by simpa using q)]
        simp only [q, if_false]
        exact ih (k + 1)
  exact g _ _ l 0
theorem rlook_is (c : CacheT) (h : smallC c) (client xid : Int) : ref23_Look fuel c client xid = some (lookO (look c client xid)) := by
  obtain ⟨w, ks⟩ := c
  have hn := h.1
  simp only at hn
  unfold ref23_Look
  simp only
  rw [rright23_is (w, ks) h]
  simp only [Option.bind_some]
  unfold look
  cases hr : rightC (w, ks) with
  | false => rfl
  | true =>
    obtain ⟨h1, h2, h3⟩ := rightC_iff.1 hr
    simp only at h1 h2 h3
    simp only [Bool.not_true, cond_false, if_true]
    have loop : ref23_Look_l1_it fuel client xid (0, (w, (ks, z9))) = some (match kOf ks client with
        | none => .inl z9
        | some k => if xid ≤ k.2.1 then .inr (lookO (zR, 2)) else match rOf k.2.2 xid with
          | some r => .inr (lookO (r, 1))
          | none => .inl z9) := by
      unfold ref23_Look_l1_it
      have := run_loop ks (fun tt : Int × (Int × (List KeptT × Z9)) => ref23_Look_l1 fuel client xid tt.1 tt.2.1 tt.2.2.1 tt.2.2.2.1 tt.2.2.2.2.1 tt.2.2.2.2.2.1 tt.2.2.2.2.2.2.1 tt.2.2.2.2.2.2.2.1 tt.2.2.2.2.2.2.2.2.1 tt.2.2.2.2.2.2.2.2.2.1 tt.2.2.2.2.2.2.2.2.2.2.1 tt.2.2.2.2.2.2.2.2.2.2.2)
        (fun n (_ : Unit) => ((n : Int), (w, (ks, z9))))
        (fun _ _ k => if k.1 = client then (match rOf k.2.2 xid with | some r => .inr (.inr (lookO (r, 1))) | none => if xid ≤ k.2.1 then .inr (.inr (lookO (zR, 2))) else .inl ()) else .inl ()) (fun _ => .inl z9) (fun _ _ => True) (by omega)
        (fun n k a hk _ => by
          have hnl : n < ks.length := (List.getElem?_eq_some_iff.1 hk).1
          have hsm := h.2 k (List.mem_of_getElem? hk)
          refine ⟨?_, fun _ _ => trivial⟩
          show ref23_Look_l1 fuel client xid (n : Int) w ks 0 0 0 0 0 false 0 false 0 = _
          unfold ref23_Look_l1
          rw [decide_eq_true (by omega), idx_nat hnl]
          simp only [cond_true, Option.bind_some, hk]
          rw [w64 (x := (n : Int) + 1) ⟨by omega, by omega⟩]
          by_cases q : k.1 = client
          · rw [if_pos q, beq_iff_eq.2 q]
            simp only [Bool.not_true, cond_false]
            rw [rlook0 hsm.1 hsm.2]
            cases hro : rOf k.2.2 xid with
            | some r => rfl
            | none =>
              simp only [Option.bind_some]
              by_cases q2 : xid ≤ k.2.1
              · rw [if_pos q2, decide_eq_true q2]; rfl
              · rw [if_neg q2, decide_eq_false q2]; rfl
          · rw [if_neg q, beq_eq_false_iff_ne.2 q]
            rfl)
        (fun a _ => by
          show ref23_Look_l1 fuel client xid ((ks.length : Nat) : Int) w ks 0 0 0 0 0 false 0 false 0 = _
          unfold ref23_Look_l1
          rw [decide_eq_false (by omega)]
          rfl) () trivial
      refine Eq.trans this ?_
      congr 1
      have none_ : ∀ (m : List KeptT) (k : Nat), (∀ x ∈ m, x.1 ≠ client) → runL (fun _ (_ : Unit) (k : KeptT) => if k.1 = client then (match rOf k.2.2 xid with | some r => .inr (.inr (lookO (r, 1))) | none => if xid ≤ k.2.1 then .inr (.inr (lookO (zR, 2))) else .inl ()) else .inl ()) (fun _ => (.inl z9 : Z9 ⊕ (Int × (Int × (Int × (Int × (Int × (Bool × (Int × (List UInt8 × (List EntT × (Bool × (Int × Int)))))))))))) ) k () m = .inl z9 := by
        intro m
        induction m with
        | nil => intro k _; rfl
        | cons x m ih =>
          intro k hx
          unfold runL
          simp only [if_neg (hx x (by simp))]
          exact ih (k + 1) fun y hy => hx y (by simp [hy])
      have g : ∀ (m : List KeptT) (k : Nat), (m.map (·.1)).Pairwise (· < ·) → (∀ x ∈ m, keptB w x = true) → runL (fun _ (_ : Unit) (k : KeptT) => if k.1 = client then (match rOf k.2.2 xid with | some r => .inr (.inr (lookO (r, 1))) | none => if xid ≤ k.2.1 then .inr (.inr (lookO (zR, 2))) else .inl ()) else .inl ()) (fun _ => (.inl z9 : Z9 ⊕ (Int × (Int × (Int × (Int × (Int × (Bool × (Int × (List UInt8 × (List EntT × (Bool × (Int × Int)))))))))))) ) k () m = match kOf m client with
          | none => .inl z9
          | some k => if xid ≤ k.2.1 then .inr (lookO (zR, 2)) else match rOf k.2.2 xid with
            | some r => .inr (lookO (r, 1))
            | none => .inl z9 := by
        intro m
        induction m with
        | nil => intro k _ _; rfl
        | cons x m ih =>
          intro k hp hb
          simp only [List.map_cons, List.pairwise_cons] at hp
          unfold runL kOf
          by_cases q : x.1 = client
          · rw [List.find?_cons_of_pos (by simpa using q)]
            simp only [if_pos q]
            obtain ⟨a1, a2, a3, a4, a5⟩ := keptB_iff.1 (hb x (by simp))
            cases hro : rOf x.2.2 xid with
            | some r =>
              obtain ⟨f1, f2⟩ := (rOf_iff a4).1 hro
              have := (a5 r f1).2.1
              simp only
              rw [if_neg (by omega)]
            | none =>
              simp only
              by_cases q2 : xid ≤ x.2.1
              · simp only [if_pos q2]
              · simp only [if_neg q2]
                refine none_ m (k + 1) fun y hy => ?_
                have := hp.1 y.1 (List.mem_map.2 ⟨y, hy, rfl⟩)
                omega
          · rw [List.find?_cons_of_neg (by simpa using q)]
            simp only [if_neg q]
            exact ih (k + 1) hp.2 fun y hy => hb y (by simp [hy])
      exact g ks 0 h2 fun x hx => (h3 x hx).2.2
    have loop' : ref23_Look_l1_it fuel client xid (0, (w, (ks, (0, (0, (0, (0, (0, (false, (0, (false, 0))))))))))) = _ := loop
    rw [loop']
    cases hk : kOf ks client with
    | none => rfl
    | some k =>
      simp only [Option.bind_some]
      by_cases q : xid ≤ k.2.1
      · rw [if_pos q, if_pos q]
      · rw [if_neg q, if_neg q]
        cases rOf k.2.2 xid <;> rfl
/-! The copy -/
theorem rcopied0 {w w' : Int} {ks out : List KeptT} {i : Nat} {k : KeptT} (hk : ks[i]? = some k) (hl : k.2.2.length ≤ 1000) (hs : ∀ r ∈ k.2.2, smallR r) :
    ref23_Copied_l0_it fuel (i : Int) (0, (w, (ks, (0, (w', (out, (k.1, (k.2.1, [])))))))) = some (w, (ks, (0, (w', (out, (k.1, (k.2.1, k.2.2))))))) := by
  have hi : i < ks.length := (List.getElem?_eq_some_iff.1 hk).1
  unfold ref23_Copied_l0_it
  have := iter_range (f := fun tt : Int × (Int × (List KeptT × (Int × (Int × (List KeptT × (Int × (Int × List ReplyT))))))) => ref23_Copied_l0 fuel (i : Int) tt.1 tt.2.1 tt.2.2.1 tt.2.2.2.1 tt.2.2.2.2.1 tt.2.2.2.2.2.1 tt.2.2.2.2.2.2.1 tt.2.2.2.2.2.2.2.1 tt.2.2.2.2.2.2.2.2) (o := (w, (ks, (0, (w', (out, (k.1, (k.2.1, k.2.2)))))))) (fun n => ((n : Int), (w, (ks, (0, (w', (out, (k.1, (k.2.1, k.2.2.take n))))))))) k.2.2.length (by omega) (fun n hn => by
    show ref23_Copied_l0 fuel (i : Int) (n : Int) w ks 0 w' out k.1 k.2.1 (k.2.2.take n) = _
    unfold ref23_Copied_l0
    rw [idx_nat hi]
    simp only [Option.bind_some, hk]
    rw [decide_eq_true (show (n : Int) < ((k.2.2.length : Nat) : Int) by omega), idx_nat hn]
    simp only [cond_true, Option.bind_some, List.getElem?_eq_getElem hn]
    rw [rown_is (hs _ (List.getElem_mem hn))]
    simp only [Option.bind_some]
    have hlt : (k.2.2.take n).length ≤ 1000 := by rw [List.length_take]; omega
    rw [need_true (by rw [ble_true (by rw [roomIs]; omega), ble_true (by rw [roomIs]; omega)]; rfl), w64 ⟨by omega, by omega⟩, List.take_succ_eq_append_getElem hn]
    rfl) (by
    show ref23_Copied_l0 fuel (i : Int) ((k.2.2.length : Nat) : Int) w ks 0 w' out k.1 k.2.1 (k.2.2.take k.2.2.length) = _
    unfold ref23_Copied_l0
    rw [idx_nat hi]
    simp only [Option.bind_some, hk]
    rw [decide_eq_false (by omega), List.take_length]
    rfl)
  exact this
theorem rcopied_is (c : CacheT) (h : smallC c) : ref23_Copied fuel c = some c := by
  obtain ⟨w, ks⟩ := c
  have hn := h.1
  simp only at hn
  unfold ref23_Copied
  simp only
  have loop : ref23_Copied_l1_it fuel (0, (w, (ks, (0, (w, []))))) = some (0, (w, ks)) := by
    unfold ref23_Copied_l1_it
    have := iter_range (f := fun tt : Int × (Int × (List KeptT × (Int × (Int × List KeptT)))) => ref23_Copied_l1 fuel tt.1 tt.2.1 tt.2.2.1 tt.2.2.2.1 tt.2.2.2.2.1 tt.2.2.2.2.2) (o := (0, (w, ks))) (fun n => ((n : Int), (w, (ks, (0, (w, ks.take n)))))) ks.length (by omega) (fun n hn => by
      show ref23_Copied_l1 fuel (n : Int) w ks 0 w (ks.take n) = _
      unfold ref23_Copied_l1
      have hk := List.getElem?_eq_getElem hn
      have hsm := h.2 _ (List.getElem_mem hn)
      rw [decide_eq_true (by omega), idx_nat hn]
      simp only [cond_true, Option.bind_some, hk]
      rw [rcopied0 hk hsm.1 hsm.2]
      simp only [Option.bind_some]
      have hlt : (ks.take n).length ≤ 1000 := by rw [List.length_take]; omega
      rw [need_true (by rw [ble_true (by rw [roomIs]; omega), ble_true (by rw [roomIs]; omega)]; rfl), w64 ⟨by omega, by omega⟩, List.take_succ_eq_append_getElem hn]
      rfl) (by
      show ref23_Copied_l1 fuel ((ks.length : Nat) : Int) w ks 0 w (ks.take ks.length) = _
      unfold ref23_Copied_l1
      rw [decide_eq_false (by omega), List.take_length]
      rfl)
    exact this
  rw [loop]
  rfl
end Go.Ab.D

/- Layer 23: the document's own Put. -/
set_option maxRecDepth 100000
namespace Go.Ab.D
open Go Go.Ab
abbrev RT (β : Type) : Type := Int × (Int × (Int × (Int × (Int × (Bool × (Int × (List UInt8 × (List EntT × (Bool × (Int × β))))))))))
/-- An answer's parts, one by one, ahead of others. -/
def flat {β : Type} (R : ReplyT) (b : β) : RT β := (R.1, (R.2.1, (R.2.2.1, (R.2.2.2.1.1, (R.2.2.2.1.2, (R.2.2.2.2.1, (R.2.2.2.2.2.1, (R.2.2.2.2.2.2.1, (R.2.2.2.2.2.2.2.1, (R.2.2.2.2.2.2.2.2.1, (R.2.2.2.2.2.2.2.2.2, b)))))))))))
theorem rput0 {w : Int} {ks : List KeptT} (R : ReplyT) (hl : ks.length ≤ 1000) :
    ref23_Put_l0_it fuel (0, flat R ((0 : Int), (w, ks))) = some (((cliAt ks R.1 : Nat) : Int), flat R ((0 : Int), (w, ks))) := by
  have hle : cliAt ks R.1 ≤ ks.length := pre_le _ _
  unfold ref23_Put_l0_it
  have := iter_range (f := fun tt : Int × RT (Int × (Int × List KeptT)) => ref23_Put_l0 fuel tt.1 tt.2.1 tt.2.2.1 tt.2.2.2.1 tt.2.2.2.2.1 tt.2.2.2.2.2.1 tt.2.2.2.2.2.2.1 tt.2.2.2.2.2.2.2.1 tt.2.2.2.2.2.2.2.2.1 tt.2.2.2.2.2.2.2.2.2.1 tt.2.2.2.2.2.2.2.2.2.2.1 tt.2.2.2.2.2.2.2.2.2.2.2.1 tt.2.2.2.2.2.2.2.2.2.2.2.2.1 tt.2.2.2.2.2.2.2.2.2.2.2.2.2.1 tt.2.2.2.2.2.2.2.2.2.2.2.2.2.2) (o := (((cliAt ks R.1 : Nat) : Int), flat R ((0 : Int), (w, ks)))) (fun n => ((n : Int), flat R ((0 : Int), (w, ks)))) (cliAt ks R.1) (by omega) (fun n hn => by
    show ref23_Put_l0 fuel (n : Int) R.1 R.2.1 R.2.2.1 R.2.2.2.1.1 R.2.2.2.1.2 R.2.2.2.2.1 R.2.2.2.2.2.1 R.2.2.2.2.2.2.1 R.2.2.2.2.2.2.2.1 R.2.2.2.2.2.2.2.2.1 R.2.2.2.2.2.2.2.2.2 0 w ks = _
    unfold ref23_Put_l0
    have hnl : n < ks.length := by omega
    have hk := List.getElem?_eq_getElem hnl
    have hlt := of_decide_eq_true (pre_lt _ ks n _ hn hk)
    rw [decide_eq_true (show (n : Int) < ((ks.length : Nat) : Int) by omega), idx_nat hnl]
    simp only [cond_true, Option.bind_some, hk]
    rw [decide_eq_true hlt, w64 ⟨by omega, by omega⟩]
    rfl) (by
    show ref23_Put_l0 fuel ((cliAt ks R.1 : Nat) : Int) R.1 R.2.1 R.2.2.1 R.2.2.2.1.1 R.2.2.2.1.2 R.2.2.2.2.1 R.2.2.2.2.2.1 R.2.2.2.2.2.2.1 R.2.2.2.2.2.2.2.1 R.2.2.2.2.2.2.2.2.1 R.2.2.2.2.2.2.2.2.2 0 w ks = _
    unfold ref23_Put_l0
    by_cases hc : cliAt ks R.1 < ks.length
    · have hk := List.getElem?_eq_getElem hc
      have hge := of_decide_eq_false (pre_at _ ks _ hk)
      rw [decide_eq_true (show ((cliAt ks R.1 : Nat) : Int) < ((ks.length : Nat) : Int) by omega), idx_nat hc]
      simp only [cond_true, Option.bind_some, hk]
      rw [decide_eq_false hge]
      rfl
    · rw [decide_eq_false (show ¬ ((cliAt ks R.1 : Nat) : Int) < ((ks.length : Nat) : Int) by omega)]
      rfl)
  exact this
theorem rput1 {w : Int} {ks : List KeptT} (R : ReplyT) {q : Nat} {k : KeptT} (hk : ks[q]? = some k) (hl : k.2.2.length ≤ 1000) :
    ref23_Put_l1_it fuel (q, (0, flat R ((0 : Int), (w, ks)))) = some (q, (((repAt k.2.2 R.2.1 : Nat) : Int), flat R ((0 : Int), (w, ks)))) := by
  have hle : repAt k.2.2 R.2.1 ≤ k.2.2.length := pre_le _ _
  unfold ref23_Put_l1_it
  have := iter_range (f := fun tt : Nat × (Int × RT (Int × (Int × List KeptT))) => ref23_Put_l1 fuel tt.1 tt.2.1 tt.2.2.1 tt.2.2.2.1 tt.2.2.2.2.1 tt.2.2.2.2.2.1 tt.2.2.2.2.2.2.1 tt.2.2.2.2.2.2.2.1 tt.2.2.2.2.2.2.2.2.1 tt.2.2.2.2.2.2.2.2.2.1 tt.2.2.2.2.2.2.2.2.2.2.1 tt.2.2.2.2.2.2.2.2.2.2.2.1 tt.2.2.2.2.2.2.2.2.2.2.2.2.1 tt.2.2.2.2.2.2.2.2.2.2.2.2.2.1 tt.2.2.2.2.2.2.2.2.2.2.2.2.2.2.1 tt.2.2.2.2.2.2.2.2.2.2.2.2.2.2.2) (o := (q, (((repAt k.2.2 R.2.1 : Nat) : Int), flat R ((0 : Int), (w, ks))))) (fun n => (q, ((n : Int), flat R ((0 : Int), (w, ks))))) (repAt k.2.2 R.2.1) (by omega) (fun n hn => by
    show ref23_Put_l1 fuel q (n : Int) R.1 R.2.1 R.2.2.1 R.2.2.2.1.1 R.2.2.2.1.2 R.2.2.2.2.1 R.2.2.2.2.2.1 R.2.2.2.2.2.2.1 R.2.2.2.2.2.2.2.1 R.2.2.2.2.2.2.2.2.1 R.2.2.2.2.2.2.2.2.2 0 w ks = _
    unfold ref23_Put_l1
    have hnl : n < k.2.2.length := by omega
    have hr := List.getElem?_eq_getElem hnl
    have hlt := of_decide_eq_true (pre_lt _ k.2.2 n _ hn hr)
    simp only [hk, Option.bind_some]
    rw [decide_eq_true (show (n : Int) < ((k.2.2.length : Nat) : Int) by omega), idx_nat hnl]
    simp only [cond_true, Option.bind_some, hr]
    rw [decide_eq_true hlt, w64 ⟨by omega, by omega⟩]
    rfl) (by
    show ref23_Put_l1 fuel q ((repAt k.2.2 R.2.1 : Nat) : Int) R.1 R.2.1 R.2.2.1 R.2.2.2.1.1 R.2.2.2.1.2 R.2.2.2.2.1 R.2.2.2.2.2.1 R.2.2.2.2.2.2.1 R.2.2.2.2.2.2.2.1 R.2.2.2.2.2.2.2.2.1 R.2.2.2.2.2.2.2.2.2 0 w ks = _
    unfold ref23_Put_l1
    simp only [hk, Option.bind_some]
    by_cases hc : repAt k.2.2 R.2.1 < k.2.2.length
    · have hr := List.getElem?_eq_getElem hc
      have hge := of_decide_eq_false (pre_at _ k.2.2 _ hr)
      rw [decide_eq_true (show ((repAt k.2.2 R.2.1 : Nat) : Int) < ((k.2.2.length : Nat) : Int) by omega), idx_nat hc]
      simp only [cond_true, Option.bind_some, hr]
      rw [decide_eq_false hge]
      rfl
    · rw [decide_eq_false (show ¬ ((repAt k.2.2 R.2.1 : Nat) : Int) < ((k.2.2.length : Nat) : Int) by omega)]
      rfl)
  exact this
theorem rput_is (c : CacheT) (R : ReplyT) (h : smallC c) (hr : smallR R) : ref23_Put fuel c R = some ((put c R).1.1, ((put c R).2, (put c R).1.2)) := by
  obtain ⟨w, ks⟩ := c
  have hn := h.1
  simp only at hn
  have hrr : ref21_RightReply fuel (R.1, (R.2.1, (R.2.2.1, ((R.2.2.2.1.1, R.2.2.2.1.2), (R.2.2.2.2.1, (R.2.2.2.2.2.1, (R.2.2.2.2.2.2.1, (R.2.2.2.2.2.2.2.1, (R.2.2.2.2.2.2.2.2.1, R.2.2.2.2.2.2.2.2.2))))))))) = some (rightReply R) := rright_is (r := R) (by have := hr.2; omega)
  have hown : ref23_own fuel (R.1, (R.2.1, (R.2.2.1, ((R.2.2.2.1.1, R.2.2.2.1.2), (R.2.2.2.2.1, (R.2.2.2.2.2.1, (R.2.2.2.2.2.2.1, (R.2.2.2.2.2.2.2.1, (R.2.2.2.2.2.2.2.2.1, R.2.2.2.2.2.2.2.2.2))))))))) = some (ownO R) := rown_is (r := R) hr
  unfold ref23_Put
  simp only
  rw [rcopied_is (w, ks) h, Option.bind_some, rright23_is (w, ks) h]
  simp only [Option.bind_some]
  unfold put
  cases hc1 : rightC (w, ks) with
  | false => rfl
  | true =>
    simp only [Bool.not_true, cond_false]
    rw [hrr]
    simp only [Option.bind_some]
    cases hc2 : rightReply R with
    | false => rfl
    | true =>
      simp only [Bool.not_true, cond_false, Option.bind_some]
      rw [rlook_is (w, ks) h R.1 R.2.1]
      simp only [Option.bind_some, look_code]
      by_cases hlk : (look (w, ks) R.1 R.2.1).2 = 0
      · simp only [hlk, beq_self_eq_true, Bool.not_true, cond_false]
        obtain ⟨g1, g2, g3⟩ := rightC_iff.1 hc1
        simp only at g1 g2 g3
        have hwho := (rightReply_who hc2).1
        have hl0 := rput0 (w := w) (ks := ks) R hn
        unfold flat at hl0
        rw [hl0]
        simp only [Option.bind_some]
        have hat : cliAt ks R.1 ≤ ks.length := pre_le _ _
        obtain ⟨w1, w2, w3, w4, w5⟩ := withCli_ok g1.1 g2 g3 hwho
        have hf := at_find g2 R.1
        refine bind_ex (fun z => z = some _) (fun o => o = (!(kOf ks R.1).isSome, flat R ((0 : Int), (w, ks)))) ?_ (fun o ho => ?_)
        · by_cases hc : cliAt ks R.1 < ks.length
          · rw [beq_eq_false_iff_ne.2 (show ((cliAt ks R.1 : Nat) : Int) ≠ ((ks.length : Nat) : Int) by omega), idx_nat hc]
            have hk := List.getElem?_eq_getElem hc
            simp only [cond_false, Option.bind_some, hk]
            refine ⟨_, rfl, ?_⟩
            unfold kOf
            rw [← hf]
            have : ks[pre (fun k => decide (k.1 < R.1)) ks]? = some ks[cliAt ks R.1] := hk
            rw [this]
            simp only
            by_cases he : ks[cliAt ks R.1].1 = R.1
            · rw [if_pos he, beq_iff_eq.2 he]; rfl
            · rw [if_neg he, beq_eq_false_iff_ne.2 he]; rfl
          · rw [beq_iff_eq.2 (show ((cliAt ks R.1 : Nat) : Int) = ((ks.length : Nat) : Int) by omega)]
            refine ⟨_, rfl, ?_⟩
            unfold kOf
            rw [← hf]
            have : ks[pre (fun k => decide (k.1 < R.1)) ks]? = none := List.getElem?_eq_none (by unfold cliAt at hc; omega)
            rw [this]
            rfl
        subst ho
        refine bind_ex (fun z => z = some _) (fun o => o = flat R ((0 : Int), (w, withCli ks R.1))) ?_ (fun o ho => ?_)
        · unfold withCli
          cases hk : (kOf ks R.1).isSome with
          | true => exact ⟨_, rfl, rfl⟩
          | false =>
            simp only [Bool.not_false, cond_true, Bool.false_eq_true, if_false]
            show ∃ v, ((upto? ((cliAt ks R.1 : Nat) : Int) ks.length).bind fun q2 => _) = some v ∧ _
            have e1 : (ks.take (cliAt ks R.1)).length ≤ 1000 := by rw [List.length_take]; omega
            have e2 : (ks.drop (cliAt ks R.1)).length ≤ 1000 := by rw [List.length_drop]; omega
            rw [upto_nat hat]
            simp only [Option.bind_some]
            rw [need_true (by rw [ble_true (by rw [roomIs]; simp only [flat]; omega), ble_true (by rw [roomIs]; simp only [flat]; omega)]; rfl), need_true (by rw [ble_true (by rw [roomIs]; simp only [flat]; omega), ble_true (by rw [roomIs]; simp only [flat]; omega)]; rfl)]
            show ∃ v, ((upto? ((cliAt ks R.1 : Nat) : Int) ks.length).bind fun q2 => _) = some v ∧ _
            rw [upto_nat hat]
            simp only [Option.bind_some]
            rw [need_true (by rw [ble_true (by rw [roomIs]; simp only [flat, List.length_append, List.length_singleton]; omega), ble_true (by rw [roomIs]; simp only [flat, List.length_append, List.length_singleton]; omega)]; rfl)]
            exact ⟨_, rfl, rfl⟩
        subst ho
        have hq := (List.getElem?_eq_some_iff.1 w3).1
        have hkb := keptB_iff.1 (w2 _ (List.mem_of_getElem? w3)).2.2
        have hkl : (kept1 ks R.1).2.2.length ≤ 1000 := by omega
        show (((idx? ((cliAt ks R.1 : Nat) : Int) (withCli ks R.1).length).bind fun q4 => _) : Option _) = _
        rw [idx_nat hq]
        simp only [Option.bind_some]
        have hl1 := rput1 (w := w) (ks := withCli ks R.1) R w3 hkl
        unfold flat at hl1 ⊢
        simp only
        rw [hl1]
        simp only [Option.bind_some, w3]
        have hle : repAt (kept1 ks R.1).2.2 R.2.1 ≤ (kept1 ks R.1).2.2.length := pre_le _ _
        rw [upto_nat hle]
        simp only [Option.bind_some]
        have t1 : ((kept1 ks R.1).2.2.take (repAt (kept1 ks R.1).2.2 R.2.1)).length ≤ 1000 := by rw [List.length_take]; omega
        have t2 : ((kept1 ks R.1).2.2.drop (repAt (kept1 ks R.1).2.2 R.2.1)).length ≤ 1000 := by rw [List.length_drop]; omega
        rw [need_true (by rw [ble_true (by rw [roomIs]; omega), ble_true (by rw [roomIs]; omega)]; rfl), hown]
        simp only [Option.bind_some]
        rw [ownR]
        rw [need_true (by rw [ble_true (by rw [roomIs]; omega), ble_true (by rw [roomIs]; omega)]; rfl)]
        rw [need_true (by rw [ble_true (by rw [roomIs]; simp only [List.length_append, List.length_singleton]; omega), ble_true (by rw [roomIs]; simp only [List.length_append, List.length_singleton]; omega)]; rfl)]
        rw [List.getElem?_set_self hq]
        simp only [Option.bind_some]
        have hLp : 0 < ((kept1 ks R.1).2.2.take (repAt (kept1 ks R.1).2.2 R.2.1) ++ [R] ++ (kept1 ks R.1).2.2.drop (repAt (kept1 ks R.1).2.2 R.2.1)).length := by simp; omega
        rw [if_pos (by simp)]
        unfold putL putK
        simp only
        generalize (kept1 ks R.1).2.2.take (repAt (kept1 ks R.1).2.2 R.2.1) ++ [R] ++ (kept1 ks R.1).2.2.drop (repAt (kept1 ks R.1).2.2 R.2.1) = L at hLp ⊢
        by_cases hw : ((L.length : Nat) : Int) > w
        · rw [decide_eq_true hw, if_pos hw]
          have hx0 : L[0]? = some L[0] := List.getElem?_eq_getElem hLp
          simp only [cond_true]
          rw [idx_int (by omega) (by omega)]
          simp only [Option.bind_some, Int.toNat_zero, hx0]
          rw [List.getElem?_set_self (by rw [List.length_set]; exact hq)]
          simp only [Option.bind_some]
          rw [upto_int (by omega) (by omega)]
          simp only [Option.bind_some, List.set_set]
          rfl
        · rw [decide_eq_false hw, if_neg hw]
          rfl
      · rw [beq_eq_false_iff_ne.2 hlk, if_neg (fun hc => hlk hc.2.2)]
        rfl
end Go.Ab.D

/- Loops over maps, in plain words: what holds in whatever order the entries come. -/
namespace Go.Ab
section
variable {τ κ ο γ : Type} {hd : τ → Option (List (κ × Nat))} {f : τ → κ × Nat → Option (τ ⊕ ο)}
theorem MOk_both {Q Q' : τ ⊕ ο → Prop} : ∀ (n n' : Nat) (seen : List Nat) (t : τ), MOk hd f Q n seen t → MOk hd f Q' n' seen t → ∃ o, Q o ∧ Q' o
  | 0, _, _, _, h, _ => h.elim
  | _ + 1, 0, _, _, _, h => h.elim
  | n + 1, n' + 1, seen, t, h, h' => by
    obtain ⟨l, h1, h2, h3⟩ := h
    obtain ⟨l', h1', h2', h3'⟩ := h'
    rw [h1] at h1'
    simp only [Option.some.injEq] at h1'
    subst h1'
    cases hm : mleft seen l with
    | nil => exact ⟨_, h2 hm, h2' hm⟩
    | cons e r =>
      have he : e ∈ mleft seen l := by rw [hm]; exact List.mem_cons_self
      rcases h3 e he with ⟨t1, p1, p2⟩ | ⟨o, p1, p2⟩ <;> rcases h3' e he with ⟨t2, q1, q2⟩ | ⟨o', q1, q2⟩
      · rw [p1] at q1
        simp only [Option.some.injEq, Sum.inl.injEq] at q1
        subst q1
        exact MOk_both n n' _ _ p2 q2
      · rw [p1] at q1; simp at q1
      · rw [p1] at q1; simp at q1
      · rw [p1] at q1
        simp only [Option.some.injEq, Sum.inr.injEq] at q1
        subst q1
        exact ⟨_, p2, q2⟩
theorem mAll_eq {t0 : τ} {F : τ ⊕ ο → Option γ} {r : γ} {n : Nat} (h : MOk hd f (fun o => F o = some r) n [] t0) : mAll hd f t0 F = some r := by
  unfold mAll
  split
  · rename_i hx
    obtain ⟨n', hn'⟩ := Classical.choose_spec hx
    obtain ⟨o, h1, h2⟩ := MOk_both _ _ _ _ h hn'
    rw [h1] at h2
    exact h2.symm
  · rename_i hx
    exact absurd ⟨r, n, h⟩ hx
/-- By what holds between the rounds: d has come, in this order. -/
theorem mAll_inv {l0 : List (κ × Nat)} {t0 : τ} {F : τ ⊕ ο → Option γ} {r : γ} (hn : (l0.map (·.2)).Nodup) (I : List (κ × Nat) → τ → Prop) (h0 : I [] t0) (hhd : ∀ d t, I d t → hd t = some l0)
    (hs : ∀ d t e rest, I d t → (d ++ e :: rest).Perm l0 → (∃ t', f t e = some (.inl t') ∧ I (d ++ [e]) t') ∨ (∃ o, f t e = some (.inr o) ∧ F (.inr o) = some r))
    (hf : ∀ d t, I d t → d.Perm l0 → F (.inl t) = some r) : mAll hd f t0 F = some r := by
  have main : ∀ (n : Nat) (d rest : List (κ × Nat)) (t : τ), rest.length = n → (d ++ rest).Perm l0 → I d t → MOk hd f (fun o => F o = some r) (n + 1) (d.map (·.2)).reverse t := by
    intro n
    induction n with
    | zero =>
      intro d rest t hlen hp hi
      obtain rfl := List.eq_nil_of_length_eq_zero hlen
      rw [List.append_nil] at hp
      refine ⟨l0, hhd d t hi, fun _ => hf d t hi hp, fun e he => ?_⟩
      exfalso
      obtain ⟨h1, h2⟩ := List.mem_filter.1 he
      have h3 : e ∈ d := hp.mem_iff.2 h1
      simp only [Bool.not_eq_true'] at h2
      have h4 : memN e.2 (d.map (·.2)).reverse = true := memN_iff.2 (by simpa using ⟨e.1, h3⟩)
      rw [h4] at h2; cases h2
    | succ n ih =>
      intro d rest t hlen hp hi
      have hnd : ((d ++ rest).map (·.2)).Nodup := (hp.map _).nodup_iff.2 hn
      have hd1 : ∀ e ∈ rest, memN e.2 (d.map (·.2)).reverse = false := fun e he => by
        cases hm : memN e.2 (d.map (·.2)).reverse with
        | false => rfl
        | true =>
          have := memN_iff.1 hm
          rw [List.mem_reverse] at this
          rw [List.map_append, List.nodup_append] at hnd
          exact absurd rfl (hnd.2.2 _ this _ (List.mem_map.2 ⟨e, he, rfl⟩))
      refine ⟨l0, hhd d t hi, fun hm => ?_, fun e he => ?_⟩
      · exfalso
        cases rest with
        | nil => cases hlen
        | cons e rest =>
          have : e ∈ mleft (d.map (·.2)).reverse l0 := List.mem_filter.2 ⟨hp.mem_iff.1 (by simp), by rw [hd1 e (by simp)]; rfl⟩
          rw [hm] at this
          cases this
      · obtain ⟨h1, h2⟩ := List.mem_filter.1 he
        have h3 : e ∈ rest := by
          rcases List.mem_append.1 (hp.mem_iff.2 h1) with h | h
          · exfalso
            simp only [Bool.not_eq_true'] at h2
            have h4 : memN e.2 (d.map (·.2)).reverse = true := memN_iff.2 (by simpa using ⟨e.1, h⟩)
            rw [h4] at h2; cases h2
          · exact h
        obtain ⟨r1, r2, rfl⟩ := List.append_of_mem h3
        have hp' : (d ++ e :: (r1 ++ r2)).Perm l0 := (List.Perm.append_left d List.perm_middle.symm).trans hp
        rcases hs d t e (r1 ++ r2) hi hp' with ⟨t', p1, p2⟩ | ⟨o, p1, p2⟩
        · left
          refine ⟨t', p1, ?_⟩
          have := ih (d ++ [e]) (r1 ++ r2) t' (by simp at hlen ⊢; omega) (by simpa using hp') p2
          simpa using this
        · exact .inr ⟨o, p1, p2⟩
  have := main l0.length [] l0 t0 rfl (List.Perm.refl _) h0
  exact mAll_eq this
end
end Go.Ab

/- Maps in plain words (as in C7a). -/
namespace Go.Ab

/-! Maps whose keys are told apart -/
section
variable {k v : Ty}
def KeyEq (k : Ty) : Prop := ∀ x a : k.den, k.eqb x a = true ↔ x = a
theorem keyEq_int (i : IntKind) : KeyEq (.int i) := fun x a => by
  show ((x : Int) == a) = true ↔ _
  exact beq_iff_eq
theorem KeyEq.ne (h : KeyEq k) {x a : k.den} (hn : x ≠ a) : k.eqb x a = false := by
  cases e : k.eqb x a with
  | false => rfl
  | true => exact absurd ((h x a).1 e) hn
theorem KeyEq.self (h : KeyEq k) (x : k.den) : k.eqb x x = true := (h x x).2 rfl
theorem mfind_snoc (h : KeyEq k) : ∀ (l : List ((k.den × v.den) × Nat)) (x : k.den) (y : v.den) (n : Nat) (z : k.den), mfind (l ++ [((x, y), n)]) z = match mfind l z with | some e => some e | none => bif k.eqb z x then some (y, n) else none
  | [], x, y, n, z => rfl
  | ((a, b), m) :: l, x, y, n, z => by
    show (bif k.eqb z a then some (b, m) else mfind (l ++ [((x, y), n)]) z) = match (bif k.eqb z a then some (b, m) else mfind l z) with | some e => some e | none => bif k.eqb z x then some (y, n) else none
    cases k.eqb z a with
    | true => rfl
    | false => exact mfind_snoc h l x y n z
theorem mfind_mset (h : KeyEq k) : ∀ (l : List ((k.den × v.den) × Nat)) (x : k.den) (y : v.den) (z : k.den), z ≠ x → mfind (mset l x y) z = mfind l z
  | [], x, y, z, _ => rfl
  | ((a, b), m) :: l, x, y, z, hz => by
    show mfind (bif k.eqb x a then ((x, y), m) :: l else ((a, b), m) :: mset l x y) z = bif k.eqb z a then some (b, m) else mfind l z
    cases e : k.eqb x a with
    | true =>
      have := (h x a).1 e
      subst this
      show (bif k.eqb z x then some (y, m) else mfind l z) = _
      rw [h.ne hz]
      rfl
    | false =>
      show (bif k.eqb z a then some (b, m) else mfind (mset l x y) z) = _
      rw [mfind_mset h l x y z hz]
theorem mfind_mset_self (h : KeyEq k) : ∀ (l : List ((k.den × v.den) × Nat)) (x : k.den) (y : v.den) e, mfind l x = some e → mfind (mset l x y) x = some (y, e.2)
  | [], x, y, e, he => by cases he
  | ((a, b), m) :: l, x, y, e, he => by
    have he' : (bif k.eqb x a then some (b, m) else mfind l x) = some e := he
    show mfind (bif k.eqb x a then ((x, y), m) :: l else ((a, b), m) :: mset l x y) x = _
    cases ea : k.eqb x a with
    | true =>
      rw [ea] at he'
      injection he' with he'
      subst he'
      show (bif k.eqb x x then some (y, m) else mfind l x) = _
      rw [h.self]
      rfl
    | false =>
      rw [ea] at he'
      show (bif k.eqb x a then some (b, m) else mfind (mset l x y) x) = _
      rw [ea]
      exact mfind_mset_self h l x y e he'
theorem mget_mput (h : KeyEq k) (m : GMap k v) (x : k.den) (y : v.den) : mget (mput m x y) x = some y := by
  unfold mget mput
  cases e : mfind m.1 x with
  | some e' => simp only; rw [mfind_mset_self h _ _ _ _ e]; rfl
  | none => simp only; rw [mfind_snoc h, e]; simp only; rw [h.self]; rfl
theorem mget_mput_ne (h : KeyEq k) (m : GMap k v) (x : k.den) (y : v.den) {z : k.den} (hz : z ≠ x) : mget (mput m x y) z = mget m z := by
  unfold mget mput
  cases e : mfind m.1 x with
  | some e' => simp only; rw [mfind_mset h _ _ _ _ hz]
  | none =>
    simp only
    rw [mfind_snoc h, h.ne hz]
    cases mfind m.1 z <;> rfl
def keysU (m : GMap k v) : Prop := (m.1.map fun e => e.1.1).Nodup
theorem mset_keys (h : KeyEq k) : ∀ (l : List ((k.den × v.den) × Nat)) (x : k.den) (y : v.den), (mset l x y).map (fun e => e.1.1) = l.map fun e => e.1.1
  | [], x, y => rfl
  | ((a, b), m) :: l, x, y => by
    show (bif k.eqb x a then ((x, y), m) :: l else ((a, b), m) :: mset l x y).map _ = _
    cases e : k.eqb x a with
    | true =>
      have := (h x a).1 e
      subst this
      rfl
    | false => simp [mset_keys h l x y]
theorem mfind_nokey (h : KeyEq k) : ∀ {l : List ((k.den × v.den) × Nat)} {x : k.den}, mfind l x = none ↔ x ∉ l.map fun e => e.1.1
  | [], x => by simp [mfind]
  | ((a, b), m) :: l, x => by
    show (bif k.eqb x a then some (b, m) else mfind l x) = none ↔ _
    cases e : k.eqb x a with
    | true => simp [(h x a).1 e]
    | false =>
      have hn : x ≠ a := fun q => by rw [(h x a).2 q] at e; cases e
      simp only [cond_false, List.map_cons, List.mem_cons, hn, false_or]
      exact mfind_nokey h
theorem keysU_mput (h : KeyEq k) {m : GMap k v} (hm : keysU m) (x : k.den) (y : v.den) : keysU (mput m x y) := by
  unfold keysU mput
  cases e : mfind m.1 x with
  | some e' => simp only; rw [mset_keys h]; exact hm
  | none =>
    simp only [List.map_append, List.map_cons, List.map_nil]
    rw [List.nodup_append]
    refine ⟨hm, by simp, ?_⟩
    intro a ha b hb hab
    rw [List.mem_singleton] at hb
    subst hb
    subst hab
    exact (mfind_nokey h).1 e ha
theorem mdelL_ne (h : KeyEq k) : ∀ (l : List ((k.den × v.den) × Nat)) (x z : k.den), z ≠ x → mfind (mdelL l x) z = mfind l z
  | [], x, z, _ => rfl
  | ((a, b), m) :: l, x, z, hz => by
    show mfind (bif k.eqb x a then l else ((a, b), m) :: mdelL l x) z = bif k.eqb z a then some (b, m) else mfind l z
    cases e : k.eqb x a with
    | true =>
      have := (h x a).1 e
      subst this
      rw [h.ne hz]
      rfl
    | false =>
      show (bif k.eqb z a then some (b, m) else mfind (mdelL l x) z) = _
      rw [mdelL_ne h l x z hz]
theorem mdelL_keys (h : KeyEq k) : ∀ (l : List ((k.den × v.den) × Nat)) (x : k.den), ((mdelL l x).map fun e => e.1.1) = (l.map fun e => e.1.1).eraseP fun a => k.eqb x a
  | [], x => rfl
  | ((a, b), m) :: l, x => by
    show (bif k.eqb x a then l else ((a, b), m) :: mdelL l x).map _ = _
    cases e : k.eqb x a with
    | true => simp [e]
    | false => simp [e, mdelL_keys h l x]
theorem keysU_mdel (h : KeyEq k) {m : GMap k v} (hm : keysU m) (x : k.den) : keysU (mdel m x) := by
  unfold keysU mdel
  simp only
  rw [mdelL_keys h]
  exact hm.sublist List.eraseP_sublist
theorem mdelL_self (h : KeyEq k) : ∀ (l : List ((k.den × v.den) × Nat)) (x : k.den), (l.map fun e => e.1.1).Nodup → mfind (mdelL l x) x = none
  | [], x, _ => rfl
  | ((a, b), m) :: l, x, hn => by
    simp only [List.map_cons, List.nodup_cons] at hn
    show mfind (bif k.eqb x a then l else ((a, b), m) :: mdelL l x) x = none
    cases e : k.eqb x a with
    | true =>
      have := (h x a).1 e
      subst this
      exact (mfind_nokey h).2 hn.1
    | false =>
      show (bif k.eqb x a then some (b, m) else mfind (mdelL l x) x) = none
      rw [e]
      exact mdelL_self h l x hn.2
theorem mget_mdel (h : KeyEq k) {m : GMap k v} (hm : keysU m) (x : k.den) : mget (mdel m x) x = none := by
  unfold mget mdel
  simp only
  rw [mdelL_self h _ _ hm]
  rfl
theorem mget_mdel_ne (h : KeyEq k) (m : GMap k v) (x : k.den) {z : k.den} (hz : z ≠ x) : mget (mdel m x) z = mget m z := by
  unfold mget mdel
  simp only
  rw [mdelL_ne h _ _ _ hz]
end

end Go.Ab

/- Loops over maps that lose entries as the rounds go. -/
namespace Go.Ab
section
variable {τ κ ο γ : Type} {hd : τ → Option (List (κ × Nat))} {f : τ → κ × Nat → Option (τ ⊕ ο)}
theorem mAll_del {l0 : List (κ × Nat)} {t0 : τ} {F : τ ⊕ ο → Option γ} {r : γ} (I : List Nat → τ → Prop) (h0 : I [] t0)
    (hhd : ∀ d t, I d t → ∃ l, hd t = some l ∧ ∀ e, e.2 ∉ d → (e ∈ l ↔ e ∈ l0))
    (hs : ∀ d t e, I d t → e ∈ l0 → e.2 ∉ d → ∃ t', f t e = some (.inl t') ∧ I (e.2 :: d) t')
    (hf : ∀ d t, I d t → (∀ e ∈ l0, e.2 ∈ d) → F (.inl t) = some r) : mAll hd f t0 F = some r := by
  classical
  have main : ∀ (n : Nat) (d : List Nat) (t : τ), (l0.filter fun e => decide (e.2 ∉ d)).length ≤ n → I d t → MOk hd f (fun o => F o = some r) (n + 1) d t := by
    intro n
    induction n with
    | zero =>
      intro d t hn hi
      have hnil : l0.filter (fun e => decide (e.2 ∉ d)) = [] := List.eq_nil_of_length_eq_zero (by omega)
      have hall : ∀ e ∈ l0, e.2 ∈ d := fun e he => Classical.byContradiction fun hc => by
        have : e ∈ l0.filter (fun e => decide (e.2 ∉ d)) := List.mem_filter.2 ⟨he, by simpa using hc⟩
        rw [hnil] at this; cases this
      obtain ⟨l, hl, hl2⟩ := hhd d t hi
      refine ⟨l, hl, fun _ => hf d t hi hall, fun e he => ?_⟩
      exfalso
      obtain ⟨h1, h2⟩ := List.mem_filter.1 he
      have h3 : e.2 ∉ d := fun hc => by simp [memN_iff.2 hc] at h2
      exact h3 (hall e ((hl2 e h3).1 h1))
    | succ n ih =>
      intro d t hn hi
      obtain ⟨l, hl, hl2⟩ := hhd d t hi
      refine ⟨l, hl, fun hm => hf d t hi fun e he => Classical.byContradiction fun hc => ?_, fun e he => ?_⟩
      · have : e ∈ mleft d l := List.mem_filter.2 ⟨(hl2 e hc).2 he, by
          cases hq : memN e.2 d with
          | false => rfl
          | true => exact absurd (memN_iff.1 hq) hc⟩
        rw [hm] at this; cases this
      · obtain ⟨h1, h2⟩ := List.mem_filter.1 he
        have h3 : e.2 ∉ d := fun hc => by simp [memN_iff.2 hc] at h2
        have h4 := (hl2 e h3).1 h1
        obtain ⟨t', ht, hi'⟩ := hs d t e hi h4 h3
        refine .inl ⟨t', ht, ih (e.2 :: d) t' ?_ hi'⟩
        have hlt : (l0.filter fun x => decide (x.2 ∉ e.2 :: d)).length < (l0.filter fun x => decide (x.2 ∉ d)).length := by
          have e1 : l0.filter (fun x => decide (x.2 ∉ e.2 :: d)) = (l0.filter fun x => decide (x.2 ∉ d)).filter fun x => decide (x.2 ≠ e.2) := by
            rw [List.filter_filter]
            congr 1
            funext x
            by_cases hx : x.2 = e.2 <;> by_cases hx2 : x.2 ∈ d <;> simp [hx, hx2]
          rw [e1]
          refine List.length_filter_lt_length_iff_exists.2 ⟨e, List.mem_filter.2 ⟨h4, by simpa using h3⟩, by simp⟩
        omega
  exact mAll_eq (main _ [] t0 (Nat.le_refl _) h0)
/-- Nothing changes from round to round. -/
theorem mAll_same {l0 : List (κ × Nat)} {t0 : τ} {F : τ ⊕ ο → Option γ} {r : γ} (hhd : hd t0 = some l0) (hs : ∀ e ∈ l0, f t0 e = some (.inl t0)) (hf : F (.inl t0) = some r) : mAll hd f t0 F = some r :=
  mAll_del (l0 := l0) (fun _ t => t = t0) rfl (fun d t h => ⟨l0, by rw [h]; exact hhd, fun e _ => Iff.rfl⟩) (fun d t e h he _ => ⟨t0, by rw [h]; exact hs e he, rfl⟩) (fun d t h _ => by rw [h]; exact hf)
end
section
variable {k v : Ty}
theorem keyEq_pair {a b : Ty} (ha : KeyEq a) (hb : KeyEq b) : KeyEq (.pair a b) := fun x y => by
  show (a.eqb x.1 y.1 && b.eqb x.2 y.2) = true ↔ _
  rw [Bool.and_eq_true, ha, hb]
  constructor
  · rintro ⟨h1, h2⟩; exact Prod.ext h1 h2
  · rintro rfl; exact ⟨rfl, rfl⟩
/-- A map whose keys, and entries' numbers, are each there once. -/
structure MW (m : GMap k v) : Prop where
  ks : keysU m
  ns : (m.1.map (·.2)).Nodup
  lo : ∀ e ∈ m.1, e.2 < m.2
theorem mput_new {m : GMap k v} {x : k.den} {y : v.den} (h : mfind m.1 x = none) : mput m x y = (m.1 ++ [((x, y), m.2)], m.2 + 1) := by
  unfold mput
  rw [h]
theorem MW.put (hk : KeyEq k) {m : GMap k v} (hm : MW m) {x : k.den} {y : v.den} (h : mfind m.1 x = none) : MW (mput m x y) := by
  refine ⟨keysU_mput hk hm.ks x y, ?_, ?_⟩
  · rw [mput_new h]
    simp only [List.map_append, List.map_cons, List.map_nil]
    refine List.nodup_append.2 ⟨hm.ns, by simp, fun a ha b hb => ?_⟩
    simp at hb; subst hb
    obtain ⟨e, he, rfl⟩ := List.mem_map.1 ha
    have := hm.lo e he
    omega
  · rw [mput_new h]
    intro e he
    rcases List.mem_append.1 he with h1 | h1
    · have := hm.lo e h1; simp only; omega
    · simp at h1; subst h1; simp
theorem mdelL_sub : ∀ (l : List ((k.den × v.den) × Nat)) (x : k.den), (mdelL l x).Sublist l
  | [], x => .slnil
  | ((a, b), n) :: l, x => by
    show (bif k.eqb x a then l else ((a, b), n) :: mdelL l x).Sublist _
    cases k.eqb x a with
    | true => exact List.sublist_cons_self _ _
    | false => exact (mdelL_sub l x).cons_cons _
theorem MW.del (hk : KeyEq k) {m : GMap k v} (hm : MW m) (x : k.den) : MW (mdel m x) :=
  ⟨keysU_mdel hk hm.ks x, hm.ns.sublist ((mdelL_sub m.1 x).map _), fun e he => hm.lo e ((mdelL_sub m.1 x).subset he)⟩
theorem mdelL_mem (hk : KeyEq k) : ∀ (l : List ((k.den × v.den) × Nat)) (x : k.den) (e : (k.den × v.den) × Nat), (l.map fun e => e.1.1).Nodup → (e ∈ mdelL l x ↔ e ∈ l ∧ e.1.1 ≠ x)
  | [], x, e, _ => by simp [mdelL]
  | ((a, b), n) :: l, x, e, hn => by
    simp only [List.map_cons, List.nodup_cons] at hn
    show e ∈ (bif k.eqb x a then l else ((a, b), n) :: mdelL l x) ↔ _
    cases hq : k.eqb x a with
    | true =>
      have := (hk x a).1 hq
      subst this
      simp only [cond_true, List.mem_cons]
      constructor
      · intro h
        exact ⟨.inr h, fun hc => hn.1 (List.mem_map.2 ⟨e, h, hc⟩)⟩
      · rintro ⟨h | h, h2⟩
        · subst h; exact absurd rfl h2
        · exact h
    | false =>
      have hx : x ≠ a := fun hc => by rw [(hk x a).2 hc] at hq; cases hq
      simp only [cond_false, List.mem_cons]
      rw [mdelL_mem hk l x e hn.2]
      constructor
      · rintro (h | h)
        · subst h; exact ⟨.inl rfl, fun hc => hx hc.symm⟩
        · exact ⟨.inr h.1, h.2⟩
      · rintro ⟨h | h, h2⟩
        · exact .inl h
        · exact .inr ⟨h, h2⟩
end
end Go.Ab

/- Layer 23: a cache is the same as itself; the windows. -/
set_option maxRecDepth 100000
namespace Go.Ab.D
open Go Go.Ab
theorem same_self (c : CacheT) (h : smallC c) : law23_Same fuel c c = some true := by
  obtain ⟨w, ks⟩ := c
  have hn := h.1
  simp only at hn
  unfold law23_Same
  simp only [beq_self_eq_true, Bool.not_true, cond_false, Option.bind_some]
  have outer : ∀ o : Bool × (Int × (List KeptT × (Int × List KeptT))), o.2.2.1 = ks → law23_Same_l1_it fuel o (0, (w, (ks, (w, ks)))) = some (.inl ()) := by
    intro o ho
    unfold law23_Same_l1_it
    have := iter_range (f := fun tt : Int × (Int × (List KeptT × (Int × List KeptT))) => law23_Same_l1 fuel o tt.1 tt.2.1 tt.2.2.1 tt.2.2.2.1 tt.2.2.2.2) (o := .inl ()) (fun k => ((k : Int), (w, (ks, (w, ks))))) ks.length (by omega) (fun k hk => by
      show law23_Same_l1 fuel o (k : Int) w ks w ks = _
      unfold law23_Same_l1
      rw [ho, decide_eq_true (by omega), idx_nat hk]
      have hx := List.getElem?_eq_getElem hk
      have hsm := h.2 _ (List.getElem_mem hk)
      generalize ks[k] = K at hx hsm
      obtain ⟨a, b, l⟩ := K
      simp only [cond_true, Option.bind_some, hx, beq_self_eq_true, Bool.not_true, cond_false]
      have inner : ∀ o1 : Bool × (Int × (List KeptT × (Int × (List KeptT × (Int × (Int × (List ReplyT × (Int × (Int × List ReplyT))))))))), o1.2.2.2.2.2.2.2.1 = l → law23_Same_l0_it fuel o1 (0, (w, (ks, (w, (ks, (a, (b, (l, (a, (b, l)))))))))) = some (.inl (w, (ks, (w, ks)))) := by
        intro o1 ho1
        unfold law23_Same_l0_it
        have hl : l.length ≤ 1000 := hsm.1
        have := iter_range (f := fun tt : Int × (Int × (List KeptT × (Int × (List KeptT × (Int × (Int × (List ReplyT × (Int × (Int × List ReplyT))))))))) => law23_Same_l0 fuel o1 tt.1 tt.2.1 tt.2.2.1 tt.2.2.2.1 tt.2.2.2.2.1 tt.2.2.2.2.2.1 tt.2.2.2.2.2.2.1 tt.2.2.2.2.2.2.2.1 tt.2.2.2.2.2.2.2.2.1 tt.2.2.2.2.2.2.2.2.2.1 tt.2.2.2.2.2.2.2.2.2.2) (o := .inl (w, (ks, (w, ks)))) (fun i => ((i : Int), (w, (ks, (w, (ks, (a, (b, (l, (a, (b, l))))))))))) l.length (by omega) (fun i hi => by
          show law23_Same_l0 fuel o1 (i : Int) w ks w ks a b l a b l = _
          unfold law23_Same_l0
          have hr := List.getElem?_eq_getElem hi
          have hrs : smallR l[i] := hsm.2 _ (List.getElem_mem hi)
          rw [ho1, decide_eq_true (by omega), idx_nat hi]
          simp only [cond_true, Option.bind_some, hr]
          rw [sameReply_self _ (by have := hrs.1; omega) (by have := hrs.2; omega), w64 ⟨by omega, by omega⟩]
          rfl) (by
          show law23_Same_l0 fuel o1 ((l.length : Nat) : Int) w ks w ks a b l a b l = _
          unfold law23_Same_l0
          rw [ho1, decide_eq_false (by omega)]
          rfl)
        exact this
      rw [inner _ rfl, w64 ⟨by omega, by omega⟩]
      rfl) (by
      show law23_Same_l1 fuel o ((ks.length : Nat) : Int) w ks w ks = _
      unfold law23_Same_l1
      rw [ho, decide_eq_false (by omega)]
      rfl)
    exact this
  rw [outer _ rfl]
  rfl
/-! The map of what was put -/
abbrev KTy : Ty := .arr 2 (.int .i64)
abbrev PutM : Type := List ((List Int × ReplyT) × Nat) × Nat
theorem keyEq_arr {n : Nat} {t : Ty} (h : KeyEq t) : KeyEq (.arr n t) := fun x a => by
  show listEqb t.eqb x a = true ↔ _
  have : ∀ (x a : List t.den), listEqb t.eqb x a = true ↔ x = a := by
    intro x
    induction x with
    | nil => intro a; cases a <;> simp [listEqb]
    | cons y x ih =>
      intro a
      cases a with
      | nil => simp [listEqb]
      | cons b a =>
        simp only [listEqb, Bool.and_eq_true, ih]
        rw [h y b]
        simp
  exact this x a
theorem keyK : KeyEq KTy := keyEq_arr (keyEq_int .i64)
def mgetK (m : PutM) (a : List Int) : Option ReplyT := mget (k := KTy) (v := TREP) m a
structure Kept1 (c : CacheT) (m : PutM) : Prop where
  r : rightC c = true
  mw : MW (k := KTy) (v := TREP) m
  key : ∀ a r, mgetK m a = some r → a = [r.1, r.2.1] ∧ smallR r
  p1 : ∀ k ∈ c.2, ∀ r ∈ k.2.2, mgetK m [r.1, r.2.1] = some r
  p2 : ∀ a r, mgetK m a = some r → ∃ k ∈ c.2, k.1 = r.1 ∧ (r ∈ k.2.2 ∨ (r.2.1 ≤ k.2.1 ∧ ((k.2.2.length : Nat) : Int) = c.1))
theorem mget_mem {m : PutM} (hm : MW (k := KTy) (v := TREP) m) {a : List Int} {r : ReplyT} : mgetK m a = some r ↔ ∃ n, ((a, r), n) ∈ m.1 := by
  unfold mgetK mget
  have hk : keysU (k := KTy) (v := TREP) m := hm.ks
  unfold keysU at hk
  generalize m.1 = l at hk ⊢
  induction l with
  | nil => simp [mfind]
  | cons e l ih =>
    obtain ⟨⟨b, s⟩, n⟩ := e
    simp only [List.map_cons, List.nodup_cons] at hk
    have ih := ih hk.2
    show (Option.map (·.1) (bif Ty.eqb KTy a b then some (s, n) else mfind (k := KTy) (v := TREP) l a)) = some r ↔ _
    cases e : Ty.eqb KTy a b with
    | true =>
      have := (keyK a b).1 e
      subst this
      simp only [cond_true, Option.map_some, Option.some.injEq, List.mem_cons]
      constructor
      · rintro rfl; exact ⟨n, .inl rfl⟩
      · rintro ⟨n', h | h⟩
        · cases h; rfl
        · exact absurd (List.mem_map.2 ⟨_, h, rfl⟩) hk.1
    | false =>
      have hne : a ≠ b := fun h => by rw [(keyK a b).2 h] at e; cases e
      simp only [cond_false, List.mem_cons]
      refine Iff.trans (b := ∃ n, ((a, r), n) ∈ l) ih ?_
      constructor
      · rintro ⟨n', h⟩; exact ⟨n', .inr h⟩
      · rintro ⟨n', h | h⟩
        · cases h; exact absurd rfl hne
        · exact ⟨n', h⟩
theorem nodup_len_le {α : Type} [DecidableEq α] : ∀ {l m : List α}, l.Nodup → (∀ x ∈ l, x ∈ m) → l.length ≤ m.length
  | [], m, _, _ => Nat.zero_le _
  | x :: l, m, h, hs => by
    rw [List.nodup_cons] at h
    have hx := hs x (by simp)
    have := nodup_len_le (l := l) (m := m.erase x) h.2 fun y hy => by
      have hne : y ≠ x := fun e => by subst e; exact h.1 hy
      rw [List.mem_erase_of_ne hne]
      exact hs y (by simp [hy])
    rw [List.length_erase_of_mem hx] at this
    have := List.length_pos_of_mem hx
    simp only [List.length_cons]
    omega
def isGreater (a : List Int) (e : (List Int × ReplyT) × Nat) : Bool := (e.1.1[0]? == a[0]?) && (match e.1.1[1]?, a[1]? with | some x, some y => decide (x > y) | _, _ => false)
def greaterN (m : PutM) (a : List Int) : Nat := (m.1.filter (isGreater a)).length
/-- Of what was put nothing is new, what is known is told the same, and with few greater ones it is known. -/
theorem once_look {c : CacheT} {m : PutM} (h : Kept1 c m) {a : List Int} {r : ReplyT} (ha : mgetK m a = some r) : (look c r.1 r.2.1).2 ≠ 0 ∧ ((look c r.1 r.2.1).2 = 1 → (look c r.1 r.2.1).1 = r) ∧ (((greaterN m a : Nat) : Int) < c.1 → (look c r.1 r.2.1).2 = 1) := by
  obtain ⟨k, hk, hk1, hk2⟩ := h.p2 a r ha
  obtain ⟨g1, g2, g3⟩ := rightC_iff.1 h.r
  have hko : kOf c.2 r.1 = some k := (kOf_iff g2).2 ⟨hk, hk1⟩
  obtain ⟨a1, a2, a3, a4, a5⟩ := keptB_iff.1 (g3 k hk).2.2
  have hl : look c r.1 r.2.1 = (if r.2.1 ≤ k.2.1 then (zR, 2) else match rOf k.2.2 r.2.1 with | some r => (r, 1) | none => (zR, 0) : ReplyT × Int) := by
    unfold look
    rw [if_pos h.r, hko]
    all_goals rfl
  by_cases hg : r.2.1 ≤ k.2.1
  · rw [hl, if_pos hg]
    refine ⟨by simp, by simp, fun hlt => ?_⟩
    exfalso
    have hnr : r ∉ k.2.2 := fun hc => by have := (a5 r hc).2.1; omega
    obtain ⟨_, hlen⟩ := hk2.resolve_left hnr
    obtain ⟨hak, _⟩ := h.key a r ha
    have hle : k.2.2.length ≤ greaterN m a := by
      have h1 : (k.2.2.map fun b => [b.1, b.2.1]).length ≤ ((m.1.filter (isGreater a)).map fun e => e.1.1).length := by
        refine nodup_len_le ?_ fun x hx => ?_
        · exact List.pairwise_map.2 ((List.pairwise_map.1 a4).imp fun {x y} h e => by simp only [List.cons.injEq, and_true] at e; omega)
        · obtain ⟨b, hb, rfl⟩ := List.mem_map.1 hx
          obtain ⟨n, hn⟩ := (mget_mem h.mw).1 (h.p1 k hk b hb)
          refine List.mem_map.2 ⟨_, List.mem_filter.2 ⟨hn, ?_⟩, rfl⟩
          have hb5 := a5 b hb
          rw [hak]
          unfold isGreater
          have e1 : b.1 = r.1 := by rw [hb5.1, hk1]
          simp [e1]
          omega
      simpa [greaterN] using h1
    omega
  · have hin : r ∈ k.2.2 := hk2.resolve_right fun hc => hg hc.1
    have hro : rOf k.2.2 r.2.1 = some r := (rOf_iff a4).2 ⟨hin, rfl⟩
    rw [hl, if_neg hg, hro]
    exact ⟨by simp, fun _ => rfl, fun _ => rfl⟩
end Go.Ab.D

/- Layer 23, RepliesTell: the law. -/
set_option maxRecDepth 100000
namespace Go.Ab.D
open Go Go.Ab
theorem great_is (c : CacheT) : ∃ b, law23_Great fuel c = some b ∧ (b = false → smallC c) := by
  obtain ⟨w, ks⟩ := c
  unfold law23_Great
  simp only
  by_cases hg : ((ks.length : Nat) : Int) > 20
  · rw [decide_eq_true hg]
    exact ⟨true, rfl, by simp⟩
  · rw [decide_eq_false hg]
    simp only [cond_false]
    have inner : ∀ (k : KeptT) (n : Nat), ks[n]? = some k → k.2.2.length ≤ 30 → ∃ o, law23_Great_l0_it fuel k (n : Int) (0, (w, ks)) = some o ∧ ((o = .inl (w, ks) ∧ ∀ r ∈ k.2.2, smallR r) ∨ o = .inr (.inr (.inr true))) := by
      intro k n hk hl
      have hn := (List.getElem?_eq_some_iff.1 hk).1
      unfold law23_Great_l0_it
      refine iter_ex (fun m s => ∃ i : Nat, s = ((i : Int), (w, ks)) ∧ i + m = k.2.2.length ∧ ∀ j r, j < i → k.2.2[j]? = some r → smallR r) _ (fun m s hI => ?_) (fun s hI => ?_) k.2.2.length _ (by omega) ⟨0, rfl, by omega, fun j r h => absurd h (Nat.not_lt_zero _)⟩
      · obtain ⟨i, rfl, hi, hs⟩ := hI
        have hil : i < k.2.2.length := by omega
        have hr := List.getElem?_eq_getElem hil
        obtain ⟨hh, e1, e2⟩ := huge_is (0, (0, ((UInt8.ofNat 0), ((0, 0), ([], ((0, 0), ([], (0, (0, []))))))))) k.2.2[i]
        show (∃ s', law23_Great_l0 fuel k (n : Int) (i : Int) w ks = _ ∧ _) ∨ ∃ o, law23_Great_l0 fuel k (n : Int) (i : Int) w ks = _ ∧ _
        unfold law23_Great_l0
        rw [decide_eq_true (show (i : Int) < ((k.2.2.length : Nat) : Int) by omega), idx_nat hn]
        simp only [cond_true, Option.bind_some, hk]
        rw [idx_nat hil]
        simp only [Option.bind_some, hr]
        rw [e1]
        simp only [Option.bind_some]
        cases hh with
        | true => exact .inr ⟨_, rfl, .inr rfl⟩
        | false =>
          refine .inl ⟨_, rfl, i + 1, by rw [w64 ⟨by omega, by omega⟩]; rfl, by omega, fun j r hj hjr => ?_⟩
          by_cases hji : j = i
          · subst hji
            rw [hr] at hjr
            cases hjr
            have := e2 rfl
            exact ⟨by omega, by omega⟩
          · exact hs j r (by omega) hjr
      · obtain ⟨i, rfl, hi, hs⟩ := hI
        refine ⟨.inl (w, ks), ?_, .inl ⟨rfl, fun r hr => ?_⟩⟩
        · show law23_Great_l0 fuel k (n : Int) (i : Int) w ks = _
          unfold law23_Great_l0
          rw [decide_eq_false (by omega)]
          rfl
        · obtain ⟨j, hj⟩ := List.getElem?_of_mem hr
          exact hs j r (by have := (List.getElem?_eq_some_iff.1 hj).1; omega) hj
    have outer : ∃ o, law23_Great_l1_it fuel (w, ks) (0, (w, ks)) = some o ∧ ((o = .inl () ∧ ∀ k ∈ ks, smallK k) ∨ o = .inr true) := by
      unfold law23_Great_l1_it
      refine iter_ex (fun m s => ∃ i : Nat, s = ((i : Int), (w, ks)) ∧ i + m = ks.length ∧ ∀ j k, j < i → ks[j]? = some k → smallK k) _ (fun m s hI => ?_) (fun s hI => ?_) ks.length _ (by omega) ⟨0, rfl, by omega, fun j r h => absurd h (Nat.not_lt_zero _)⟩
      · obtain ⟨i, rfl, hi, hs⟩ := hI
        have hil : i < ks.length := by omega
        have hk := List.getElem?_eq_getElem hil
        show (∃ s', law23_Great_l1 fuel (w, ks) (i : Int) w ks = _ ∧ _) ∨ ∃ o, law23_Great_l1 fuel (w, ks) (i : Int) w ks = _ ∧ _
        unfold law23_Great_l1
        simp only
        rw [decide_eq_true (show (i : Int) < ((ks.length : Nat) : Int) by omega), idx_nat hil]
        simp only [cond_true, Option.bind_some, hk]
        by_cases hl : ((ks[i].2.2.length : Nat) : Int) > 30
        · rw [decide_eq_true hl]
          exact .inr ⟨_, rfl, .inr rfl⟩
        · rw [decide_eq_false hl]
          simp only [cond_false]
          obtain ⟨o, e1, e2⟩ := inner ks[i] i hk (by omega)
          rw [e1]
          simp only [Option.bind_some]
          rcases e2 with ⟨rfl, e3⟩ | rfl
          · refine .inl ⟨_, rfl, i + 1, by rw [w64 ⟨by omega, by omega⟩]; rfl, by omega, fun j k hj hjk => ?_⟩
            by_cases hji : j = i
            · subst hji
              rw [hk] at hjk
              cases hjk
              exact ⟨by omega, e3⟩
            · exact hs j k (by omega) hjk
          · exact .inr ⟨_, rfl, .inr rfl⟩
      · obtain ⟨i, rfl, hi, hs⟩ := hI
        refine ⟨.inl (), ?_, .inl ⟨rfl, fun k hk => ?_⟩⟩
        · show law23_Great_l1 fuel (w, ks) (i : Int) w ks = _
          unfold law23_Great_l1
          simp only
          rw [decide_eq_false (by omega)]
          rfl
        · obtain ⟨j, hj⟩ := List.getElem?_of_mem hk
          exact hs j k (by have := (List.getElem?_eq_some_iff.1 hj).1; omega) hj
    obtain ⟨o, e1, e2⟩ := outer
    rw [e1]
    rcases e2 with ⟨rfl, e3⟩ | rfl
    · exact ⟨false, rfl, fun _ => ⟨by simp only; omega, e3⟩⟩
    · exact ⟨true, rfl, by simp⟩
theorem look_small {c : CacheT} (h : smallC c) (cl x : Int) : smallR (look c cl x).1 := by
  have hz : smallR zR := ⟨by simp [zR], by simp [zR]⟩
  unfold look
  split
  · cases hk : kOf c.2 cl with
    | none => exact hz
    | some k =>
      simp only
      split
      · exact hz
      · cases hr : rOf k.2.2 x with
        | none => exact hz
        | some r =>
          exact (h.2 k (List.mem_of_find?_eq_some hk)).2 r (List.mem_of_find?_eq_some hr)
  · exact hz
theorem put_small {c : CacheT} {r : ReplyT} (h : smallC c) : smallC (put c r).1 := by
  by_cases hr : rightC c = true
  · exact right_small (put_right hr).1
  · unfold put
    rw [if_neg fun hc => hr hc.1]
    exact h
theorem law23_RepliesTell_true (c : Int × (List (Int × (Int × (List (Int × (Int × (Int × ((Int × Int) × (Bool × (Int × (List UInt8 × (List (List UInt8 × Int) × (Bool × Int))))))))))))))
    (r : Int × (Int × (Int × ((Int × Int) × (Bool × (Int × (List UInt8 × (List (List UInt8 × Int) × (Bool × Int))))))))) (x : List Int)
    (_k0 : OkV (.pair (.int .i64) (.sl (.pair (.int .i64) (.pair (.int .i64) (.sl (.pair (.int .i64) (.pair (.int .i64) (.pair (.int .i64) (.pair (.pair (.int .i64) (.int .i64)) (.pair .bool (.pair (.int .i64) (.pair (.sl .byte) (.pair (.sl (.pair .str (.int .i64))) (.pair .bool (.int .i64))))))))))))))) c)
    (_k1 : OkV (.pair (.int .i64) (.pair (.int .i64) (.pair (.int .i64) (.pair (.pair (.int .i64) (.int .i64)) (.pair .bool (.pair (.int .i64) (.pair (.sl .byte) (.pair (.sl (.pair .str (.int .i64))) (.pair .bool (.int .i64)))))))))) r)
    (k2 : OkV (.arr 3 (.int .i64)) x) : law23_RepliesTell fuel c r x = some true := by
  clear _k0 _k1
  have hx : x.length = 3 := k2.1
  clear k2
  obtain ⟨x0, x1, x2, rfl⟩ : ∃ a b c, x = [a, b, c] := by
    match x, hx with
    | [a, b, c], _ => exact ⟨a, b, c, rfl⟩
  obtain ⟨w, ks⟩ := c
  unfold law23_RepliesTell
  rw [need_true (by rfl)]
  simp only
  obtain ⟨b, e1, e2⟩ := great_is (w, ks)
  rw [e1]
  simp only [Option.bind_some]
  cases b with
  | true =>
    simp only [cond_true, Option.bind_some]
    rw [awake23]
    rfl
  | false =>
    have hsm := e2 rfl
    simp only [cond_false]
    obtain ⟨hh, e3, e4⟩ := huge_is (0, (0, ((UInt8.ofNat 0), ((0, 0), ([], ((0, 0), ([], (0, (0, []))))))))) r
    have e3' : law21_Huge fuel (0, (0, ((UInt8.ofNat 0), ((0, 0), ([], ((0, 0), ([], (0, (0, []))))))))) (r.1, (r.2.1, (r.2.2.1, ((r.2.2.2.1.1, r.2.2.2.1.2), (r.2.2.2.2.1, (r.2.2.2.2.2.1, (r.2.2.2.2.2.2.1, (r.2.2.2.2.2.2.2.1, (r.2.2.2.2.2.2.2.2.1, r.2.2.2.2.2.2.2.2.2))))))))) = some hh := e3
    rw [e3']
    simp only [Option.bind_some]
    cases hh with
    | true =>
      simp only [cond_true]
      rw [awake23]
      rfl
    | false =>
      have hr : smallR r := by have := e4 rfl; exact ⟨by omega, by omega⟩
      simp only [cond_false]
      have f0 : ([x0, x1, x2] : List Int)[0]? = some x0 := rfl
      have f1 : ([x0, x1, x2] : List Int)[1]? = some x1 := rfl
      have f2 : ([x0, x1, x2] : List Int)[2]? = some x2 := rfl
      simp only [f0, f1, f2, Option.bind_some]
      rw [new_is, rnew_is, look_is _ hsm, rlook_is _ hsm]
      have hp : replies_Put fuel (w, ks) (r.1, (r.2.1, (r.2.2.1, ((r.2.2.2.1.1, r.2.2.2.1.2), (r.2.2.2.2.1, (r.2.2.2.2.2.1, (r.2.2.2.2.2.2.1, (r.2.2.2.2.2.2.2.1, (r.2.2.2.2.2.2.2.2.1, r.2.2.2.2.2.2.2.2.2))))))))) = some (putO (put (w, ks) r)) := put_is (w, ks) r hsm hr
      have hp2 : ref23_Put fuel (w, ks) (r.1, (r.2.1, (r.2.2.1, ((r.2.2.2.1.1, r.2.2.2.1.2), (r.2.2.2.2.1, (r.2.2.2.2.2.1, (r.2.2.2.2.2.2.1, (r.2.2.2.2.2.2.2.1, (r.2.2.2.2.2.2.2.2.1, r.2.2.2.2.2.2.2.2.2))))))))) = some ((put (w, ks) r).1.1, ((put (w, ks) r).2, (put (w, ks) r).1.2)) := rput_is (w, ks) r hsm hr
      simp only [Option.bind_some]
      rw [hp, hp2]
      simp only [Option.bind_some]
      rw [same_self _ ⟨by simp, by simp⟩]
      simp only [Option.bind_some, cond_true, beq_self_eq_true]
      have hl := look_small hsm x1 x2
      have hs : law21_SameReply fuel (look (w, ks) x1 x2).1 (look (w, ks) x1 x2).1 = some true := sameReply_self _ (by have := hl.1; omega) (by have := hl.2; omega)
      generalize look (w, ks) x1 x2 = X at hs
      obtain ⟨X, cc⟩ := X
      obtain ⟨y1, y2, y3, ⟨g1, g2⟩, dd, sz, bs, es, mo, fr⟩ := X
      simp only [lookO] at hs ⊢
      rw [hs]
      simp only [Option.bind_some, cond_true, beq_self_eq_true]
      have hsame : law23_Same fuel ((put (w, ks) r).1.1, (put (w, ks) r).1.2) ((put (w, ks) r).1.1, (put (w, ks) r).1.2) = some true := same_self (put (w, ks) r).1 (put_small hsm)
      simp only [putO]
      rw [hsame]
      simp only [Option.bind_some, cond_true, beq_self_eq_true]
      rw [right_is _ hsm, rright23_is _ hsm]
      simp only [Option.bind_some, cond_true, beq_self_eq_true]
      rw [awake23]
      rfl
end Go.Ab.D
