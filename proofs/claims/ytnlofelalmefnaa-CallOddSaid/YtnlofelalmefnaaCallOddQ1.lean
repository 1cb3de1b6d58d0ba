/- What the functions compute; the plain law. -/
import Derived.Test.YtnlofelalmefnaaCallOddD1
set_option linter.all false
/- Tools for plain proofs about decompiled functions: numbers in bounds, indexes, loops. -/
namespace Go.Ab

/-! Numbers in bounds -/
theorem w64 {x : Int} (h : -9223372036854775808 ≤ x ∧ x ≤ 9223372036854775807) : IntKind.wrap .i64 x = x := by
  simp only [IntKind.wrap, IntKind.bits, IntKind.signed]; simp; omega
theorem wu64 {x : Int} (h : 0 ≤ x ∧ x ≤ 18446744073709551615) : IntKind.wrap .u64 x = x := by
  simp only [IntKind.wrap, IntKind.bits, IntKind.signed]; simp; omega
theorem wu32 {x : Int} (h : 0 ≤ x ∧ x ≤ 4294967295) : IntKind.wrap .u32 x = x := by
  simp only [IntKind.wrap, IntKind.bits, IntKind.signed]; simp; omega
theorem wu16 {x : Int} (h : 0 ≤ x ∧ x ≤ 65535) : IntKind.wrap .u16 x = x := by
  simp only [IntKind.wrap, IntKind.bits, IntKind.signed]; simp; omega
theorem wu8 {x : Int} (h : 0 ≤ x ∧ x ≤ 255) : IntKind.wrap .u8 x = x := by
  simp only [IntKind.wrap, IntKind.bits, IntKind.signed]; simp; omega
theorem wu8_mod (x : Int) : IntKind.wrap .u8 x = x % 256 := by
  simp only [IntKind.wrap, IntKind.bits, IntKind.signed]; simp
theorem wu32_mod (x : Int) : IntKind.wrap .u32 x = x % 4294967296 := by
  simp only [IntKind.wrap, IntKind.bits, IntKind.signed]; simp
theorem wu64_mod (x : Int) : IntKind.wrap .u64 x = x % 18446744073709551616 := by
  simp only [IntKind.wrap, IntKind.bits, IntKind.signed]; simp
theorem bv_nat (n a : Nat) (h : a < 2 ^ n) : BitVec.ofInt n (a : Int) = BitVec.ofNat n a := by simp
theorem bits_xor (k : IntKind) {a b : Nat} (ha : a < 2 ^ k.bits) (hb : b < 2 ^ k.bits) (hw : ∀ x : Int, 0 ≤ x ∧ x < 2 ^ k.bits → k.wrap x = x) : bitsI .xor k a b = ((a ^^^ b : Nat) : Int) := by
  have h := Nat.xor_lt_two_pow ha hb
  simp only [bitsI, BitVec.ofInt_natCast, ← BitVec.ofNat_xor, BitVec.toNat_ofNat, Nat.mod_eq_of_lt h]
  exact hw _ ⟨by omega, by exact_mod_cast h⟩
theorem bits_or (k : IntKind) {a b : Nat} (ha : a < 2 ^ k.bits) (hb : b < 2 ^ k.bits) (hw : ∀ x : Int, 0 ≤ x ∧ x < 2 ^ k.bits → k.wrap x = x) : bitsI .or k a b = ((a ||| b : Nat) : Int) := by
  have h := Nat.or_lt_two_pow ha hb
  simp only [bitsI, BitVec.ofInt_natCast, ← BitVec.ofNat_or, BitVec.toNat_ofNat, Nat.mod_eq_of_lt h]
  exact hw _ ⟨by omega, by exact_mod_cast h⟩
theorem bits_and (k : IntKind) {a b : Nat} (ha : a < 2 ^ k.bits) (hb : b < 2 ^ k.bits) (hw : ∀ x : Int, 0 ≤ x ∧ x < 2 ^ k.bits → k.wrap x = x) : bitsI .and k a b = ((a &&& b : Nat) : Int) := by
  have h := Nat.and_lt_two_pow (y := b) a hb
  simp only [bitsI, BitVec.ofInt_natCast, ← BitVec.ofNat_and, BitVec.toNat_ofNat, Nat.mod_eq_of_lt h]
  exact hw _ ⟨by omega, by exact_mod_cast h⟩
theorem xor8 {a b : Nat} (ha : a < 256) (hb : b < 256) : bitsI .xor .u8 a b = ((a ^^^ b : Nat) : Int) := bits_xor .u8 ha hb fun x h => wu8 ⟨h.1, by have := h.2; simp [IntKind.bits] at this; omega⟩
theorem xor32 {a b : Nat} (ha : a < 4294967296) (hb : b < 4294967296) : bitsI .xor .u32 a b = ((a ^^^ b : Nat) : Int) := bits_xor .u32 ha hb fun x h => wu32 ⟨h.1, by have := h.2; simp [IntKind.bits] at this; omega⟩
theorem and32 {a b : Nat} (ha : a < 4294967296) (hb : b < 4294967296) : bitsI .and .u32 a b = ((a &&& b : Nat) : Int) := bits_and .u32 ha hb fun x h => wu32 ⟨h.1, by have := h.2; simp [IntKind.bits] at this; omega⟩
theorem fdiv_nat (a b : Nat) : Int.fdiv (a : Int) (b : Int) = ((a / b : Nat) : Int) := by
  rw [Int.fdiv_eq_ediv_of_nonneg _ (by omega)]; rfl

/-! Indexes -/
theorem idx_nat {i n : Nat} (h : i < n) : idx? (i : Int) n = some i := by simp [idx?, h]
theorem idx_int {x : Int} {n : Nat} (h0 : 0 ≤ x) (h : x < n) : idx? x n = some x.toNat := by simp [idx?, h0, h]
theorem upto_nat {i n : Nat} (h : i ≤ n) : upto? (i : Int) n = some i := by simp [upto?, h]
theorem upto_int {x : Int} {n : Nat} (h0 : 0 ≤ x) (h : x ≤ n) : upto? x n = some x.toNat := by simp [upto?, h0, h]
theorem byte_nat {n : Nat} (h : n < 256) : byte? (n : Int) = some (UInt8.ofNat n) := by
  have : (n : Int) < 256 := by omega
  simp [byte?, this]
theorem need_true {β : Type} {b : Bool} {K : Option β} (h : b = true) : need b K = K := by subst h; rfl
theorem ble_true {a b : Nat} (h : a ≤ b) : Nat.ble a b = true := Nat.ble_eq_true_of_le h
theorem nilQ_same {β : Type} {n : Nat} {K : Bool → Option β} (h : n = 0 → K true = K false) : nilQ n K = K false := by
  unfold nilQ
  rw [if_pos h]
theorem roomIs : room = 140737488355328 := rfl

/-! Loops -/
theorem fuel_big {n : Nat} (h : n < 4611686018427387904) : ∃ m, fuel = m + (n + 1) := ⟨4611686018427387903 - n, by unfold fuel; omega⟩
theorem iter_steps {τ ο : Type} {f : τ → Option (τ ⊕ ο)} (S : Nat → τ) : ∀ (n m : Nat), (∀ k, k < n → f (S k) = some (.inl (S (k + 1)))) → iter (m + n) f (S 0) = iter m f (S n)
  | 0, m, _ => rfl
  | n + 1, m, h => by
    have e : m + (n + 1) = (m + 1) + n := by omega
    rw [e, iter_steps S n (m + 1) fun k hk => h k (by omega)]
    show (f (S n)).ob _ = _
    rw [h n (by omega)]
    rfl
/-- A loop of n rounds. -/
theorem iter_range {τ ο : Type} {f : τ → Option (τ ⊕ ο)} {o : ο} (S : Nat → τ) (n : Nat) (hn : n < 4611686018427387904) (hs : ∀ k, k < n → f (S k) = some (.inl (S (k + 1)))) (he : f (S n) = some (.inr o)) : iter fuel f (S 0) = some o := by
  obtain ⟨m, hm⟩ := fuel_big hn
  have e : fuel = (m + 1) + n := by omega
  rw [e, iter_steps S n (m + 1) hs]
  show (f (S n)).ob _ = _
  rw [he]
  rfl
/-- A loop by a relation between its state and what is yet to do. -/
theorem iter_rel {τ ο : Type} {f : τ → Option (τ ⊕ ο)} {o : ο} (I : Nat → τ → Prop) (hs : ∀ n s, I (n + 1) s → ∃ s', f s = some (.inl s') ∧ I n s') (he : ∀ s, I 0 s → f s = some (.inr o)) : ∀ (n : Nat) (s : τ), n < 4611686018427387904 → I n s → iter fuel f s = some o := by
  have main : ∀ (n m : Nat) (s : τ), n < m → I n s → iter m f s = some o := fun n => by
    induction n with
    | zero =>
      intro m s hm hi
      obtain ⟨m, rfl⟩ : ∃ k, m = k + 1 := ⟨m - 1, by omega⟩
      show (f s).ob _ = _
      rw [he s hi]
      rfl
    | succ n ih =>
      intro m s hm hi
      obtain ⟨m, rfl⟩ : ∃ k, m = k + 1 := ⟨m - 1, by omega⟩
      obtain ⟨s', h1, h2⟩ := hs n s hi
      show (f s).ob _ = _
      rw [h1]
      exact ih m s' (by omega) h2
  exact fun n s hn hi => main n fuel s hn hi
/-! Loops, step by step -/
theorem iter_inl {τ ο : Type} {f : τ → Option (τ ⊕ ο)} {s s' : τ} {n : Nat} (h : f s = some (.inl s')) : iter (n + 1) f s = iter n f s' := by
  show (f s).ob _ = _
  rw [h]
  rfl
theorem iter_inr {τ ο : Type} {f : τ → Option (τ ⊕ ο)} {s : τ} {o : ο} {n : Nat} (h : f s = some (.inr o)) : iter (n + 1) f s = some o := by
  show (f s).ob _ = _
  rw [h]
  rfl
theorem fuelS (n : Nat) (h : n < 4611686018427387904) : ∃ m, fuel = m + n + 1 := ⟨4611686018427387903 - n, by unfold fuel; omega⟩
/-- A loop, by a relation; what comes out is told by a property. -/
theorem iter_ex {τ ο : Type} {f : τ → Option (τ ⊕ ο)} (I : Nat → τ → Prop) (Q : ο → Prop) (hs : ∀ n s, I (n + 1) s → (∃ s', f s = some (.inl s') ∧ I n s') ∨ ∃ o, f s = some (.inr o) ∧ Q o) (he : ∀ s, I 0 s → ∃ o, f s = some (.inr o) ∧ Q o) : ∀ (n : Nat) (s : τ), n < 4611686018427387904 → I n s → ∃ o, iter fuel f s = some o ∧ Q o := by
  have main : ∀ (n m : Nat) (s : τ), n < m → I n s → ∃ o, iter m f s = some o ∧ Q o := fun n => by
    induction n with
    | zero =>
      intro m s hm hi
      obtain ⟨m, rfl⟩ : ∃ k, m = k + 1 := ⟨m - 1, by omega⟩
      obtain ⟨o, h1, h2⟩ := he s hi
      exact ⟨o, iter_inr h1, h2⟩
    | succ n ih =>
      intro m s hm hi
      obtain ⟨m, rfl⟩ : ∃ k, m = k + 1 := ⟨m - 1, by omega⟩
      rcases hs n s hi with ⟨s', h1, h2⟩ | ⟨o, h1, h2⟩
      · rw [iter_inl h1]
        exact ih m s' (by omega) h2
      · exact ⟨o, iter_inr h1, h2⟩
  exact fun n s hn hi => main n fuel s hn hi
theorem bind_ex {α β : Type} {x : Option α} {k : α → Option β} (R : Option β → Prop) (P : α → Prop) (h : ∃ v, x = some v ∧ P v) (hk : ∀ v, P v → R (k v)) : R (x.bind k) := by
  obtain ⟨v, rfl, hv⟩ := h
  exact hk v hv
theorem iter_fuel_inr {τ ο : Type} {f : τ → Option (τ ⊕ ο)} {s : τ} {o : ο} (h : f s = some (.inr o)) : iter fuel f s = some o := by
  obtain ⟨n, hn⟩ := fuelS 0 (by omega)
  rw [hn]
  exact iter_inr h
end Go.Ab

/- Layer 21, call: which requests are right. -/
namespace Go.Ab.D
abbrev CallT : Type := Int × (Int × (UInt8 × ((Int × Int) × (List UInt8 × ((Int × Int) × (List UInt8 × (Int × (Int × List UInt8))))))))
abbrev Has : Type := Bool × (Bool × (Bool × (Bool × (Int × (Bool × Bool)))))
instance hasD1 : DecidableEq (Int × (Bool × Bool)) := instDecidableEqProd
instance hasD2 : DecidableEq (Bool × (Int × (Bool × Bool))) := instDecidableEqProd
instance hasD3 : DecidableEq (Bool × (Bool × (Int × (Bool × Bool)))) := instDecidableEqProd
instance hasD4 : DecidableEq (Bool × (Bool × (Bool × (Int × (Bool × Bool))))) := instDecidableEqProd
instance hasD5 : DecidableEq Has := instDecidableEqProd
def shapeN (o : Nat) : Has :=
  if o = 1 ∨ o = 2 ∨ o = 3 ∨ o = 7 ∨ o = 8 then (true, (true, (false, (false, (0, (false, true))))))
  else if o = 4 then (true, (false, (false, (true, (4096, (false, true))))))
  else if o = 5 then (true, (false, (false, (true, (0, (true, true))))))
  else if o = 6 then (true, (false, (false, (false, (2147483648, (false, true))))))
  else if o = 9 then (true, (true, (true, (false, (0, (false, true))))))
  else if o = 10 then (true, (true, (false, (false, (4096, (false, true))))))
  else if o = 11 then (true, (false, (false, (false, (0, (false, true))))))
  else if o = 12 then (false, (false, (false, (false, (0, (false, true))))))
  else (false, (false, (false, (false, (0, (false, false))))))
theorem shape_all : ∀ n : Nat, n < 256 → call_shape fuel ((n : Nat) : Int) = some (shapeN n) := by decide +kernel
theorem shape_is (o : UInt8) : call_shape fuel ((o.toNat : Nat) : Int) = some (shapeN o.toNat) := shape_all _ o.toNat_lt
def whoseB (a b : Int) : Bool := decide (0 ≤ a ∧ a < 16 ∧ 1 ≤ b ∧ b ≤ 1099511627776)
theorem whose_is (a b : Int) : call_whose fuel a b = some (whoseB a b) := by
  unfold call_whose whoseB
  by_cases h1 : a ≥ 0 <;> by_cases h2 : a < 16 <;> by_cases h3 : b ≥ 1 <;> by_cases h4 : b ≤ 1099511627776 <;>
    simp [h1, h2, h3, h4] <;> omega
def handleB (h : Int × Int) : Bool := decide (1 ≤ h.1 ∧ h.1 ≤ 500 ∧ 1 ≤ h.2 ∧ h.2 ≤ 1099511627776)
theorem handle_is (h : Int × Int) : handle_Right fuel h = some (handleB h) := by
  unfold handle_Right handleB
  by_cases h1 : h.1 ≥ 1 <;> by_cases h2 : h.1 ≤ 500 <;> by_cases h3 : h.2 ≥ 1 <;> by_cases h4 : h.2 ≤ 1099511627776 <;>
    simp [h1, h2, h3, h4] <;> omega
def ofB (is : Bool) (h : Int × Int) : Bool := bif is then handleB h else ((h.1 == 0) && (h.2 == 0))
theorem of_is (is : Bool) (h : Int × Int) : call_RightCall_1 fuel is h = some (ofB is h) := by
  unfold call_RightCall_1 ofB
  cases is with
  | true =>
    simp only [cond_true]
    rw [handle_is]
    have : handleB (h.1, h.2) = handleB h := rfl
    rw [this]
    simp only [Option.bind_some]
    cases handleB h <;> rfl
  | false => rfl
def saidB (is : Bool) (l : List UInt8) : Bool := (l == []) || (is && decide (l.length ≤ 100))
theorem said_is (is : Bool) (l : List UInt8) : call_RightCall_2 fuel is l = some (saidB is l) := by
  unfold call_RightCall_2 saidB
  have e : decide (((l.length : Nat) : Int) ≤ 100) = decide (l.length ≤ 100) := by
    by_cases h : l.length ≤ 100
    · rw [decide_eq_true h, decide_eq_true (by omega)]
    · rw [decide_eq_false h, decide_eq_false (by omega)]
  rw [e]
  cases (l == []) <;> cases is <;> rfl
def rightS (s : Has) (c : CallT) : Bool :=
  s.2.2.2.2.2.2 && (whoseB c.1 c.2.1 && (ofB s.1 c.2.2.2.1 && (ofB s.2.2.1 c.2.2.2.2.2.1 && (saidB s.2.1 c.2.2.2.2.1 && (saidB s.2.2.1 c.2.2.2.2.2.2.1 &&
    (decide (0 ≤ c.2.2.2.2.2.2.2.1 ∧ c.2.2.2.2.2.2.2.1 ≤ 2147483648) && ((s.2.2.2.1 || (c.2.2.2.2.2.2.2.1 == 0)) && (decide (0 ≤ c.2.2.2.2.2.2.2.2.1 ∧ c.2.2.2.2.2.2.2.2.1 ≤ s.2.2.2.2.1) &&
      (decide (c.2.2.2.2.2.2.2.2.2.length = 0) || (s.2.2.2.2.2.1 && decide (c.2.2.2.2.2.2.2.2.2.length ≤ 4096)))))))))))
def rightCall (c : CallT) : Bool := rightS (shapeN c.2.2.1.toNat) c
theorem rightCall_is (c : CallT) : call_RightCall fuel c = some (rightCall c) := by
  obtain ⟨c1, c2, c3, ⟨h1, h2⟩, nm, ⟨t1, t2⟩, nw, off, n, bs⟩ := c
  unfold call_RightCall rightCall
  simp only
  rw [shape_is]
  generalize shapeN c3.toNat = s
  obtain ⟨sh, sn, st, so, sN, sb, ok⟩ := s
  unfold rightS
  simp only [Option.bind_some]
  cases ok with
  | false => rfl
  | true =>
    simp only [Bool.not_true, cond_false]
    rw [whose_is]
    generalize whoseB c1 c2 = w
    cases w with
    | false => rfl
    | true =>
      simp only [Option.bind_some, Bool.not_true, cond_false]
      rw [of_is]
      generalize ofB sh (h1, h2) = a1
      cases a1 with
      | false => rfl
      | true =>
        simp only [Option.bind_some, Bool.not_true, cond_false]
        rw [of_is]
        generalize ofB st (t1, t2) = a2
        cases a2 with
        | false => rfl
        | true =>
          simp only [Option.bind_some, Bool.not_true, cond_false]
          rw [said_is]
          generalize saidB sn nm = a3
          cases a3 with
          | false => rfl
          | true =>
            simp only [Option.bind_some, Bool.not_true, cond_false]
            rw [said_is]
            generalize saidB st nw = a4
            cases a4 with
            | false => rfl
            | true =>
              simp only [Option.bind_some, Bool.not_true, cond_false, Bool.true_and]
              by_cases o1 : off < 0
              · rw [decide_eq_true o1, decide_eq_false (show ¬ (0 ≤ off ∧ off ≤ 2147483648) by omega)]; rfl
              by_cases o2 : off > 2147483648
              · rw [decide_eq_false o1, decide_eq_true o2, decide_eq_false (show ¬ (0 ≤ off ∧ off ≤ 2147483648) by omega)]; rfl
              rw [decide_eq_false o1, decide_eq_false o2, decide_eq_true (show 0 ≤ off ∧ off ≤ 2147483648 by omega)]
              have eb : decide (((bs.length : Nat) : Int) ≤ 4096) = decide (bs.length ≤ 4096) := by
                by_cases h : bs.length ≤ 4096
                · rw [decide_eq_true h, decide_eq_true (by omega)]
                · rw [decide_eq_false h, decide_eq_false (by omega)]
              have e0 : (((bs.length : Nat) : Int) == 0) = decide (bs.length = 0) := by
                by_cases h : bs.length = 0
                · rw [decide_eq_true h, h]; rfl
                · rw [decide_eq_false h, beq_eq_false_iff_ne.2 (by omega)]
              by_cases n1 : n < 0
              · rw [decide_eq_true n1, decide_eq_false (show ¬ (0 ≤ n ∧ n ≤ sN) by omega)]
                cases so <;> cases (off == 0) <;> rfl
              by_cases n2 : n > sN
              · rw [decide_eq_false n1, decide_eq_true n2, decide_eq_false (show ¬ (0 ≤ n ∧ n ≤ sN) by omega)]
                cases so <;> cases (off == 0) <;> rfl
              rw [decide_eq_false n1, decide_eq_false n2, decide_eq_true (show 0 ≤ n ∧ n ≤ sN by omega), ← e0, ← eb]
              cases so <;> cases (off == 0) <;> simp only [cond_true, cond_false, Bool.not_true, Bool.not_false, Option.bind_some, Bool.true_and, Bool.or_false, Bool.or_true, Bool.false_and, e0, eb] <;>
                (generalize decide (bs.length = 0) = x0) <;> (generalize decide (bs.length ≤ 4096) = x1) <;> cases x0 <;> cases sb <;> cases x1 <;> rfl
theorem awake21 : law21_awake fuel = some true := by kernel_rfl
end Go.Ab.D

/- Layer 21, CallOdd. -/
namespace Go.Ab.D
theorem byteU (c : UInt8) : byte? ((c.toNat : Nat) : Int) = some c := by
  have := c.toNat_lt
  rw [byte_nat (by omega)]
  simp
theorem huge_some (c : CallT) : law21_Huge fuel c (0, (0, (0, ((0, 0), (false, (0, ([], ([], (false, 0))))))))) = some true ∨ law21_Huge fuel c (0, (0, (0, ((0, 0), (false, (0, ([], ([], (false, 0))))))))) = some false := by
  unfold law21_Huge
  have it : ∀ o : Bool × (Int × (Int × (Int × (Int × (Int × (Bool × (Int × (List UInt8 × (List (List UInt8 × Int) × (Bool × Int)))))))))), o.2.2.2.2.2.2.2.2.2.1 = [] → ∀ s, law21_Huge_l0_it fuel o (0, s) = some (.inl ()) := by
    intro o ho s
    unfold law21_Huge_l0_it
    refine iter_fuel_inr ?_
    unfold law21_Huge_l0
    rw [ho]
    rfl
  simp only
  by_cases h1 : ((c.2.2.2.2.1.length : Nat) : Int) > 3000
  · rw [decide_eq_true h1]; exact .inl rfl
  · by_cases h2 : ((c.2.2.2.2.2.2.1.length : Nat) : Int) > 3000
    · rw [decide_eq_false h1, decide_eq_true h2]; exact .inl rfl
    · by_cases h3 : ((c.2.2.2.2.2.2.2.2.2.length : Nat) : Int) > 5000
      · rw [decide_eq_false h1, decide_eq_false h2, decide_eq_true h3]; exact .inl rfl
      · rw [decide_eq_false h1, decide_eq_false h2, decide_eq_false h3]
        right
        simp only [cond_false, Option.bind_some, show decide (((([] : List UInt8).length : Nat) : Int) > 5000) = false from rfl, show decide (((([] : List (List UInt8 × Int)).length : Nat) : Int) > 120) = false from rfl]
        rw [it _ rfl]
        rfl
theorem shape_big {n : Nat} (h : 12 < n) : (shapeN n).2.2.2.2.2.2 = false := by
  unfold shapeN
  rw [if_neg (by omega), if_neg (by omega), if_neg (by omega), if_neg (by omega), if_neg (by omega), if_neg (by omega), if_neg (by omega), if_neg (by omega)]
theorem shape_ok {n : Nat} (h : (shapeN n).2.2.2.2.2.2 = true) : 1 ≤ n ∧ n ≤ 12 := by
  have h12 : n ≤ 12 := by
    apply Classical.byContradiction
    intro hn
    rw [shape_big (by omega)] at h
    cases h
  refine ⟨?_, h12⟩
  apply Classical.byContradiction
  intro hn
  have : n = 0 := by omega
  subst this
  cases h
theorem ofB_id {is : Bool} {a b : Int} (h : a = 501) : ofB is (a, b) = false := by subst h; unfold ofB handleB; cases is <;> simp
theorem ofB_gen {is : Bool} {a b : Int} (h : b = -1) : ofB is (a, b) = false := by subst h; unfold ofB handleB; cases is <;> simp
theorem odd_end {c : CallT} (h : rightCall c = false) : ((bytes_Table fuel).bind fun r3 =>
    need (Nat.beq (List.replicate (α := Int) 256 0).length 256) <|
    need (Nat.beq r3.length 256) <|
    (call_PutCall fuel r3 c).bind fun r4 =>
    (call_RightCall fuel c).bind fun r5 =>
    bif (!r5) then
      bif (r4.1 == 179) then
        (law21_awake fuel).bind fun r6 =>
        some r6
      else
        some false
    else
      some false) = some true := by
  obtain ⟨c1, c2, c3, ⟨h1, h2⟩, nm, ⟨t1, t2⟩, nw, off, n, bs⟩ := c
  have ht : ∃ r, bytes_Table fuel = some r ∧ r.length = 256 := by
    have : (match bytes_Table fuel with | some r => r.length == 256 | none => false) = true := by kernel_rfl
    cases hb : bytes_Table fuel with
    | none => rw [hb] at this; cases this
    | some r => rw [hb] at this; exact ⟨r, rfl, by simpa using this⟩
  obtain ⟨r, hr, hl⟩ := ht
  rw [hr]
  simp only [Option.bind_some]
  rw [need_true (b := Nat.beq (List.replicate (α := Int) 256 0).length 256) (by rw [List.length_replicate]; rfl), need_true (by rw [hl]; rfl)]
  have hp : call_PutCall fuel r (c1, (c2, (c3, ((h1, h2), (nm, ((t1, t2), (nw, (off, (n, bs))))))))) = some (179, []) := by
    unfold call_PutCall
    rw [byteU]
    simp only [Option.bind_some]
    rw [rightCall_is, h]
    rfl
  rw [hp]
  simp only [Option.bind_some]
  rw [rightCall_is, h]
  simp only [Option.bind_some, Bool.not_false, cond_true]
  rw [awake21]
  rfl
theorem tmod8 {w : Nat} : Int.tmod (w : Int) 8 = ((w % 8 : Nat) : Int) := rfl
theorem law21_CallOdd_true (c : CallT) (which : Int) (_k0 : OkV (.pair (.int .i64) (.pair (.int .i64) (.pair .byte (.pair (.pair (.int .i64) (.int .i64)) (.pair .str (.pair (.pair (.int .i64) (.int .i64)) (.pair .str (.pair (.int .i64) (.pair (.int .i64) (.sl .byte)))))))))) c) (_k1 : OkV (.int .u8) which) : law21_CallOdd fuel c which = some true := by
  have hw : 0 ≤ which ∧ which ≤ 255 := _k1
  obtain ⟨w, rfl⟩ : ∃ w : Nat, which = w := ⟨which.toNat, by omega⟩
  clear _k0 _k1
  obtain ⟨c1, c2, c3, ⟨h1, h2⟩, nm, ⟨t1, t2⟩, nw, off, n, bs⟩ := c
  unfold law21_CallOdd
  simp only
  rw [byteU]
  simp only [Option.bind_some]
  rcases huge_some (c1, (c2, (c3, ((h1, h2), (nm, ((t1, t2), (nw, (off, (n, bs))))))))) with hh | hh
  · rw [hh]
    simp only [Option.bind_some, cond_true]
    rw [awake21]
    rfl
  rw [hh]
  simp only [Option.bind_some, cond_false]
  rw [rightCall_is]
  simp only [Option.bind_some]
  cases hr : rightCall (c1, (c2, (c3, ((h1, h2), (nm, ((t1, t2), (nw, (off, (n, bs))))))))) with
  | false =>
    simp only [Bool.not_false, cond_true]
    rw [awake21]
    rfl
  | true =>
    simp only [Bool.not_true, cond_false]
    have hr' := hr
    unfold rightCall rightS at hr'
    simp only [Bool.and_eq_true] at hr'
    have hop := shape_ok hr'.1
    rw [tmod8]
    have hm : w % 8 < 8 := Nat.mod_lt _ (by omega)
    generalize w % 8 = k at hm
    have hk : k = 0 ∨ k = 1 ∨ k = 2 ∨ k = 3 ∨ k = 4 ∨ k = 5 ∨ k = 6 ∨ k = 7 := by omega
    rcases hk with rfl | rfl | rfl | rfl | rfl | rfl | rfl | rfl
    · simp only [show (((0 : Nat) : Int) == 0) = true from rfl, cond_true, Option.bind_some, byteU]
      refine odd_end ?_
      unfold rightCall rightS whoseB
      simp
    · simp only [show (((1 : Nat) : Int) == 0) = false from rfl, show (((1 : Nat) : Int) == 1) = true from rfl, cond_true, cond_false, Option.bind_some, byteU]
      refine odd_end ?_
      unfold rightCall rightS whoseB
      simp
    · simp only [show (((2 : Nat) : Int) == 0) = false from rfl, show (((2 : Nat) : Int) == 1) = false from rfl, show (((2 : Nat) : Int) == 2) = true from rfl, cond_true, cond_false, Option.bind_some]
      have hb : byte? (IntKind.wrap .u8 (((c3.toNat : Nat) : Int) + 12)) = some (UInt8.ofNat (c3.toNat + 12)) := by
        rw [wu8 ⟨by omega, by omega⟩, show ((c3.toNat : Nat) : Int) + 12 = ((c3.toNat + 12 : Nat) : Int) by omega]
        exact byte_nat (by omega)
      simp only [hb, Option.bind_some]
      refine odd_end ?_
      unfold rightCall rightS
      have e : (UInt8.ofNat (c3.toNat + 12)).toNat = c3.toNat + 12 := by rw [UInt8.toNat_ofNat']; omega
      simp only [e]
      rw [shape_big (by omega)]
      rfl
    · simp only [show (((3 : Nat) : Int) == 0) = false from rfl, show (((3 : Nat) : Int) == 1) = false from rfl, show (((3 : Nat) : Int) == 2) = false from rfl, show (((3 : Nat) : Int) == 3) = true from rfl, cond_true, cond_false, Option.bind_some, byteU]
      refine odd_end ?_
      unfold rightCall rightS
      simp only [ofB_id rfl, Bool.false_and, Bool.and_false]
    · simp only [show (((4 : Nat) : Int) == 0) = false from rfl, show (((4 : Nat) : Int) == 1) = false from rfl, show (((4 : Nat) : Int) == 2) = false from rfl, show (((4 : Nat) : Int) == 3) = false from rfl, show (((4 : Nat) : Int) == 4) = true from rfl, cond_true, cond_false, Option.bind_some, byteU]
      refine odd_end ?_
      unfold rightCall rightS
      simp only [ofB_gen rfl, Bool.false_and, Bool.and_false]
    · simp only [show (((5 : Nat) : Int) == 0) = false from rfl, show (((5 : Nat) : Int) == 1) = false from rfl, show (((5 : Nat) : Int) == 2) = false from rfl, show (((5 : Nat) : Int) == 3) = false from rfl, show (((5 : Nat) : Int) == 4) = false from rfl, show (((5 : Nat) : Int) == 5) = true from rfl, cond_true, cond_false, Option.bind_some, byteU]
      refine odd_end ?_
      unfold rightCall rightS
      simp
    · simp only [show (((6 : Nat) : Int) == 0) = false from rfl, show (((6 : Nat) : Int) == 1) = false from rfl, show (((6 : Nat) : Int) == 2) = false from rfl, show (((6 : Nat) : Int) == 3) = false from rfl, show (((6 : Nat) : Int) == 4) = false from rfl, show (((6 : Nat) : Int) == 5) = false from rfl, show (((6 : Nat) : Int) == 6) = true from rfl, cond_true, cond_false, Option.bind_some, byteU]
      refine odd_end ?_
      unfold rightCall rightS
      simp
    · simp only [show (((7 : Nat) : Int) == 0) = false from rfl, show (((7 : Nat) : Int) == 1) = false from rfl, show (((7 : Nat) : Int) == 2) = false from rfl, show (((7 : Nat) : Int) == 3) = false from rfl, show (((7 : Nat) : Int) == 4) = false from rfl, show (((7 : Nat) : Int) == 5) = false from rfl, show (((7 : Nat) : Int) == 6) = false from rfl, cond_true, cond_false, Option.bind_some, byteU]
      refine odd_end ?_
      unfold rightCall rightS
      have : saidB (shapeN c3.toNat).2.1 (List.replicate 101 (0 : UInt8)) = false := by
        unfold saidB
        rw [show (List.replicate 101 (0 : UInt8) == []) = false from rfl, show decide ((List.replicate 101 (0 : UInt8)).length ≤ 100) = false from by rw [List.length_replicate]; rfl, Bool.and_false]
        rfl
      simp only [this, Bool.false_and, Bool.and_false]
end Go.Ab.D
