/- What the functions compute; the plain law. -/
import Derived.Test.YtndinkcemkfpdaaNetOthersD2
set_option linter.all false
/- Tools for plain proofs about decompiled functions: numbers in bounds, indexes, loops. -/
namespace Go.Ab

/-! Numbers in bounds -/
theorem w64 {x : Int} (h : -9223372036854775808 ≤ x ∧ x ≤ 9223372036854775807) : IntKind.wrap .i64 x = x := by
  simp only [IntKind.wrap, IntKind.bits, IntKind.signed]; simp; omega
theorem wu64 {x : Int} (h : 0 ≤ x ∧ x ≤ 18446744073709551615) : IntKind.wrap .u64 x = x := by
  simp only [IntKind.wrap, IntKind.bits, IntKind.signed]; simp; omega
theorem wu32 {x : Int} (h : 0 ≤ x ∧ x ≤ 4294967295) : IntKind.wrap .u32 x = x := by
  simp only [IntKind.wrap, IntKind.bits, IntKind.signed]; simp; omega
theorem wu16 {x : Int} (h : 0 ≤ x ∧ x ≤ 65535) : IntKind.wrap .u16 x = x := by
  simp only [IntKind.wrap, IntKind.bits, IntKind.signed]; simp; omega
theorem wu8 {x : Int} (h : 0 ≤ x ∧ x ≤ 255) : IntKind.wrap .u8 x = x := by
  simp only [IntKind.wrap, IntKind.bits, IntKind.signed]; simp; omega
theorem wu8_mod (x : Int) : IntKind.wrap .u8 x = x % 256 := by
  simp only [IntKind.wrap, IntKind.bits, IntKind.signed]; simp
theorem wu32_mod (x : Int) : IntKind.wrap .u32 x = x % 4294967296 := by
  simp only [IntKind.wrap, IntKind.bits, IntKind.signed]; simp
theorem wu64_mod (x : Int) : IntKind.wrap .u64 x = x % 18446744073709551616 := by
  simp only [IntKind.wrap, IntKind.bits, IntKind.signed]; simp
theorem bv_nat (n a : Nat) (h : a < 2 ^ n) : BitVec.ofInt n (a : Int) = BitVec.ofNat n a := by simp
theorem bits_xor (k : IntKind) {a b : Nat} (ha : a < 2 ^ k.bits) (hb : b < 2 ^ k.bits) (hw : ∀ x : Int, 0 ≤ x ∧ x < 2 ^ k.bits → k.wrap x = x) : bitsI .xor k a b = ((a ^^^ b : Nat) : Int) := by
  have h := Nat.xor_lt_two_pow ha hb
  simp only [bitsI, BitVec.ofInt_natCast, ← BitVec.ofNat_xor, BitVec.toNat_ofNat, Nat.mod_eq_of_lt h]
  exact hw _ ⟨by omega, by exact_mod_cast h⟩
theorem bits_or (k : IntKind) {a b : Nat} (ha : a < 2 ^ k.bits) (hb : b < 2 ^ k.bits) (hw : ∀ x : Int, 0 ≤ x ∧ x < 2 ^ k.bits → k.wrap x = x) : bitsI .or k a b = ((a ||| b : Nat) : Int) := by
  have h := Nat.or_lt_two_pow ha hb
  simp only [bitsI, BitVec.ofInt_natCast, ← BitVec.ofNat_or, BitVec.toNat_ofNat, Nat.mod_eq_of_lt h]
  exact hw _ ⟨by omega, by exact_mod_cast h⟩
theorem bits_and (k : IntKind) {a b : Nat} (ha : a < 2 ^ k.bits) (hb : b < 2 ^ k.bits) (hw : ∀ x : Int, 0 ≤ x ∧ x < 2 ^ k.bits → k.wrap x = x) : bitsI .and k a b = ((a &&& b : Nat) : Int) := by
  have h := Nat.and_lt_two_pow (y := b) a hb
  simp only [bitsI, BitVec.ofInt_natCast, ← BitVec.ofNat_and, BitVec.toNat_ofNat, Nat.mod_eq_of_lt h]
  exact hw _ ⟨by omega, by exact_mod_cast h⟩
theorem xor8 {a b : Nat} (ha : a < 256) (hb : b < 256) : bitsI .xor .u8 a b = ((a ^^^ b : Nat) : Int) := bits_xor .u8 ha hb fun x h => wu8 ⟨h.1, by have := h.2; simp [IntKind.bits] at this; omega⟩
theorem xor32 {a b : Nat} (ha : a < 4294967296) (hb : b < 4294967296) : bitsI .xor .u32 a b = ((a ^^^ b : Nat) : Int) := bits_xor .u32 ha hb fun x h => wu32 ⟨h.1, by have := h.2; simp [IntKind.bits] at this; omega⟩
theorem and32 {a b : Nat} (ha : a < 4294967296) (hb : b < 4294967296) : bitsI .and .u32 a b = ((a &&& b : Nat) : Int) := bits_and .u32 ha hb fun x h => wu32 ⟨h.1, by have := h.2; simp [IntKind.bits] at this; omega⟩
theorem fdiv_nat (a b : Nat) : Int.fdiv (a : Int) (b : Int) = ((a / b : Nat) : Int) := by
  rw [Int.fdiv_eq_ediv_of_nonneg _ (by omega)]; rfl

/-! Indexes -/
theorem idx_nat {i n : Nat} (h : i < n) : idx? (i : Int) n = some i := by simp [idx?, h]
theorem idx_int {x : Int} {n : Nat} (h0 : 0 ≤ x) (h : x < n) : idx? x n = some x.toNat := by simp [idx?, h0, h]
theorem upto_nat {i n : Nat} (h : i ≤ n) : upto? (i : Int) n = some i := by simp [upto?, h]
theorem upto_int {x : Int} {n : Nat} (h0 : 0 ≤ x) (h : x ≤ n) : upto? x n = some x.toNat := by simp [upto?, h0, h]
theorem byte_nat {n : Nat} (h : n < 256) : byte? (n : Int) = some (UInt8.ofNat n) := by
  have : (n : Int) < 256 := by omega
  simp [byte?, this]
theorem need_true {β : Type} {b : Bool} {K : Option β} (h : b = true) : need b K = K := by subst h; rfl
theorem ble_true {a b : Nat} (h : a ≤ b) : Nat.ble a b = true := Nat.ble_eq_true_of_le h
theorem nilQ_same {β : Type} {n : Nat} {K : Bool → Option β} (h : n = 0 → K true = K false) : nilQ n K = K false := by
  unfold nilQ
  rw [if_pos h]
theorem roomIs : room = 140737488355328 := rfl

/-! Loops -/
theorem fuel_big {n : Nat} (h : n < 4611686018427387904) : ∃ m, fuel = m + (n + 1) := ⟨4611686018427387903 - n, by unfold fuel; omega⟩
theorem iter_steps {τ ο : Type} {f : τ → Option (τ ⊕ ο)} (S : Nat → τ) : ∀ (n m : Nat), (∀ k, k < n → f (S k) = some (.inl (S (k + 1)))) → iter (m + n) f (S 0) = iter m f (S n)
  | 0, m, _ => rfl
  | n + 1, m, h => by
    have e : m + (n + 1) = (m + 1) + n := by omega
    rw [e, iter_steps S n (m + 1) fun k hk => h k (by omega)]
    show (f (S n)).ob _ = _
    rw [h n (by omega)]
    rfl
/-- A loop of n rounds. -/
theorem iter_range {τ ο : Type} {f : τ → Option (τ ⊕ ο)} {o : ο} (S : Nat → τ) (n : Nat) (hn : n < 4611686018427387904) (hs : ∀ k, k < n → f (S k) = some (.inl (S (k + 1)))) (he : f (S n) = some (.inr o)) : iter fuel f (S 0) = some o := by
  obtain ⟨m, hm⟩ := fuel_big hn
  have e : fuel = (m + 1) + n := by omega
  rw [e, iter_steps S n (m + 1) hs]
  show (f (S n)).ob _ = _
  rw [he]
  rfl
/-- A loop by a relation between its state and what is yet to do. -/
theorem iter_rel {τ ο : Type} {f : τ → Option (τ ⊕ ο)} {o : ο} (I : Nat → τ → Prop) (hs : ∀ n s, I (n + 1) s → ∃ s', f s = some (.inl s') ∧ I n s') (he : ∀ s, I 0 s → f s = some (.inr o)) : ∀ (n : Nat) (s : τ), n < 4611686018427387904 → I n s → iter fuel f s = some o := by
  have main : ∀ (n m : Nat) (s : τ), n < m → I n s → iter m f s = some o := fun n => by
    induction n with
    | zero =>
      intro m s hm hi
      obtain ⟨m, rfl⟩ : ∃ k, m = k + 1 := ⟨m - 1, by omega⟩
      show (f s).ob _ = _
      rw [he s hi]
      rfl
    | succ n ih =>
      intro m s hm hi
      obtain ⟨m, rfl⟩ : ∃ k, m = k + 1 := ⟨m - 1, by omega⟩
      obtain ⟨s', h1, h2⟩ := hs n s hi
      show (f s).ob _ = _
      rw [h1]
      exact ih m s' (by omega) h2
  exact fun n s hn hi => main n fuel s hn hi
/-! Loops, step by step -/
theorem iter_inl {τ ο : Type} {f : τ → Option (τ ⊕ ο)} {s s' : τ} {n : Nat} (h : f s = some (.inl s')) : iter (n + 1) f s = iter n f s' := by
  show (f s).ob _ = _
  rw [h]
  rfl
theorem iter_inr {τ ο : Type} {f : τ → Option (τ ⊕ ο)} {s : τ} {o : ο} {n : Nat} (h : f s = some (.inr o)) : iter (n + 1) f s = some o := by
  show (f s).ob _ = _
  rw [h]
  rfl
theorem fuelS (n : Nat) (h : n < 4611686018427387904) : ∃ m, fuel = m + n + 1 := ⟨4611686018427387903 - n, by unfold fuel; omega⟩
/-- A loop, by a relation; what comes out is told by a property. -/
theorem iter_ex {τ ο : Type} {f : τ → Option (τ ⊕ ο)} (I : Nat → τ → Prop) (Q : ο → Prop) (hs : ∀ n s, I (n + 1) s → (∃ s', f s = some (.inl s') ∧ I n s') ∨ ∃ o, f s = some (.inr o) ∧ Q o) (he : ∀ s, I 0 s → ∃ o, f s = some (.inr o) ∧ Q o) : ∀ (n : Nat) (s : τ), n < 4611686018427387904 → I n s → ∃ o, iter fuel f s = some o ∧ Q o := by
  have main : ∀ (n m : Nat) (s : τ), n < m → I n s → ∃ o, iter m f s = some o ∧ Q o := fun n => by
    induction n with
    | zero =>
      intro m s hm hi
      obtain ⟨m, rfl⟩ : ∃ k, m = k + 1 := ⟨m - 1, by omega⟩
      obtain ⟨o, h1, h2⟩ := he s hi
      exact ⟨o, iter_inr h1, h2⟩
    | succ n ih =>
      intro m s hm hi
      obtain ⟨m, rfl⟩ : ∃ k, m = k + 1 := ⟨m - 1, by omega⟩
      rcases hs n s hi with ⟨s', h1, h2⟩ | ⟨o, h1, h2⟩
      · rw [iter_inl h1]
        exact ih m s' (by omega) h2
      · exact ⟨o, iter_inr h1, h2⟩
  exact fun n s hn hi => main n fuel s hn hi
theorem bind_ex {α β : Type} {x : Option α} {k : α → Option β} (R : Option β → Prop) (P : α → Prop) (h : ∃ v, x = some v ∧ P v) (hk : ∀ v, P v → R (k v)) : R (x.bind k) := by
  obtain ⟨v, rfl, hv⟩ := h
  exact hk v hv
theorem iter_fuel_inr {τ ο : Type} {f : τ → Option (τ ⊕ ο)} {s : τ} {o : ο} (h : f s = some (.inr o)) : iter fuel f s = some o := by
  obtain ⟨n, hn⟩ := fuelS 0 (by omega)
  rw [hn]
  exact iter_inr h
end Go.Ab

/- Layer 7, net: maps of counters, the heap's invariant, what each call does. -/
namespace Go.Ab

/-! Maps whose keys are told apart -/
section
variable {k v : Ty}
def KeyEq (k : Ty) : Prop := ∀ x a : k.den, k.eqb x a = true ↔ x = a
theorem keyEq_int (i : IntKind) : KeyEq (.int i) := fun x a => by
  show ((x : Int) == a) = true ↔ _
  exact beq_iff_eq
theorem KeyEq.ne (h : KeyEq k) {x a : k.den} (hn : x ≠ a) : k.eqb x a = false := by
  cases e : k.eqb x a with
  | false => rfl
  | true => exact absurd ((h x a).1 e) hn
theorem KeyEq.self (h : KeyEq k) (x : k.den) : k.eqb x x = true := (h x x).2 rfl
theorem mfind_snoc (h : KeyEq k) : ∀ (l : List ((k.den × v.den) × Nat)) (x : k.den) (y : v.den) (n : Nat) (z : k.den), mfind (l ++ [((x, y), n)]) z = match mfind l z with | some e => some e | none => bif k.eqb z x then some (y, n) else none
  | [], x, y, n, z => rfl
  | ((a, b), m) :: l, x, y, n, z => by
    show (bif k.eqb z a then some (b, m) else mfind (l ++ [((x, y), n)]) z) = match (bif k.eqb z a then some (b, m) else mfind l z) with | some e => some e | none => bif k.eqb z x then some (y, n) else none
    cases k.eqb z a with
    | true => rfl
    | false => exact mfind_snoc h l x y n z
theorem mfind_mset (h : KeyEq k) : ∀ (l : List ((k.den × v.den) × Nat)) (x : k.den) (y : v.den) (z : k.den), z ≠ x → mfind (mset l x y) z = mfind l z
  | [], x, y, z, _ => rfl
  | ((a, b), m) :: l, x, y, z, hz => by
    show mfind (bif k.eqb x a then ((x, y), m) :: l else ((a, b), m) :: mset l x y) z = bif k.eqb z a then some (b, m) else mfind l z
    cases e : k.eqb x a with
    | true =>
      have := (h x a).1 e
      subst this
      show (bif k.eqb z x then some (y, m) else mfind l z) = _
      rw [h.ne hz]
      rfl
    | false =>
      show (bif k.eqb z a then some (b, m) else mfind (mset l x y) z) = _
      rw [mfind_mset h l x y z hz]
theorem mfind_mset_self (h : KeyEq k) : ∀ (l : List ((k.den × v.den) × Nat)) (x : k.den) (y : v.den) e, mfind l x = some e → mfind (mset l x y) x = some (y, e.2)
  | [], x, y, e, he => by cases he
  | ((a, b), m) :: l, x, y, e, he => by
    have he' : (bif k.eqb x a then some (b, m) else mfind l x) = some e := he
    show mfind (bif k.eqb x a then ((x, y), m) :: l else ((a, b), m) :: mset l x y) x = _
    cases ea : k.eqb x a with
    | true =>
      rw [ea] at he'
      injection he' with he'
      subst he'
      show (bif k.eqb x x then some (y, m) else mfind l x) = _
      rw [h.self]
      rfl
    | false =>
      rw [ea] at he'
      show (bif k.eqb x a then some (b, m) else mfind (mset l x y) x) = _
      rw [ea]
      exact mfind_mset_self h l x y e he'
theorem mget_mput (h : KeyEq k) (m : GMap k v) (x : k.den) (y : v.den) : mget (mput m x y) x = some y := by
  unfold mget mput
  cases e : mfind m.1 x with
  | some e' => simp only; rw [mfind_mset_self h _ _ _ _ e]; rfl
  | none => simp only; rw [mfind_snoc h, e]; simp only; rw [h.self]; rfl
theorem mget_mput_ne (h : KeyEq k) (m : GMap k v) (x : k.den) (y : v.den) {z : k.den} (hz : z ≠ x) : mget (mput m x y) z = mget m z := by
  unfold mget mput
  cases e : mfind m.1 x with
  | some e' => simp only; rw [mfind_mset h _ _ _ _ hz]
  | none =>
    simp only
    rw [mfind_snoc h, h.ne hz]
    cases mfind m.1 z <;> rfl
def keysU (m : GMap k v) : Prop := (m.1.map fun e => e.1.1).Nodup
theorem mset_keys (h : KeyEq k) : ∀ (l : List ((k.den × v.den) × Nat)) (x : k.den) (y : v.den), (mset l x y).map (fun e => e.1.1) = l.map fun e => e.1.1
  | [], x, y => rfl
  | ((a, b), m) :: l, x, y => by
    show (bif k.eqb x a then ((x, y), m) :: l else ((a, b), m) :: mset l x y).map _ = _
    cases e : k.eqb x a with
    | true =>
      have := (h x a).1 e
      subst this
      rfl
    | false => simp [mset_keys h l x y]
theorem mfind_nokey (h : KeyEq k) : ∀ {l : List ((k.den × v.den) × Nat)} {x : k.den}, mfind l x = none ↔ x ∉ l.map fun e => e.1.1
  | [], x => by simp [mfind]
  | ((a, b), m) :: l, x => by
    show (bif k.eqb x a then some (b, m) else mfind l x) = none ↔ _
    cases e : k.eqb x a with
    | true => simp [(h x a).1 e]
    | false =>
      have hn : x ≠ a := fun q => by rw [(h x a).2 q] at e; cases e
      simp only [cond_false, List.map_cons, List.mem_cons, hn, false_or]
      exact mfind_nokey h
theorem keysU_mput (h : KeyEq k) {m : GMap k v} (hm : keysU m) (x : k.den) (y : v.den) : keysU (mput m x y) := by
  unfold keysU mput
  cases e : mfind m.1 x with
  | some e' => simp only; rw [mset_keys h]; exact hm
  | none =>
    simp only [List.map_append, List.map_cons, List.map_nil]
    rw [List.nodup_append]
    refine ⟨hm, by simp, ?_⟩
    intro a ha b hb hab
    rw [List.mem_singleton] at hb
    subst hb
    subst hab
    exact (mfind_nokey h).1 e ha
theorem mdelL_ne (h : KeyEq k) : ∀ (l : List ((k.den × v.den) × Nat)) (x z : k.den), z ≠ x → mfind (mdelL l x) z = mfind l z
  | [], x, z, _ => rfl
  | ((a, b), m) :: l, x, z, hz => by
    show mfind (bif k.eqb x a then l else ((a, b), m) :: mdelL l x) z = bif k.eqb z a then some (b, m) else mfind l z
    cases e : k.eqb x a with
    | true =>
      have := (h x a).1 e
      subst this
      rw [h.ne hz]
      rfl
    | false =>
      show (bif k.eqb z a then some (b, m) else mfind (mdelL l x) z) = _
      rw [mdelL_ne h l x z hz]
theorem mdelL_keys (h : KeyEq k) : ∀ (l : List ((k.den × v.den) × Nat)) (x : k.den), ((mdelL l x).map fun e => e.1.1) = (l.map fun e => e.1.1).eraseP fun a => k.eqb x a
  | [], x => rfl
  | ((a, b), m) :: l, x => by
    show (bif k.eqb x a then l else ((a, b), m) :: mdelL l x).map _ = _
    cases e : k.eqb x a with
    | true => simp [e]
    | false => simp [e, mdelL_keys h l x]
theorem keysU_mdel (h : KeyEq k) {m : GMap k v} (hm : keysU m) (x : k.den) : keysU (mdel m x) := by
  unfold keysU mdel
  simp only
  rw [mdelL_keys h]
  exact hm.sublist List.eraseP_sublist
theorem mdelL_self (h : KeyEq k) : ∀ (l : List ((k.den × v.den) × Nat)) (x : k.den), (l.map fun e => e.1.1).Nodup → mfind (mdelL l x) x = none
  | [], x, _ => rfl
  | ((a, b), m) :: l, x, hn => by
    simp only [List.map_cons, List.nodup_cons] at hn
    show mfind (bif k.eqb x a then l else ((a, b), m) :: mdelL l x) x = none
    cases e : k.eqb x a with
    | true =>
      have := (h x a).1 e
      subst this
      exact (mfind_nokey h).2 hn.1
    | false =>
      show (bif k.eqb x a then some (b, m) else mfind (mdelL l x) x) = none
      rw [e]
      exact mdelL_self h l x hn.2
theorem mget_mdel (h : KeyEq k) {m : GMap k v} (hm : keysU m) (x : k.den) : mget (mdel m x) x = none := by
  unfold mget mdel
  simp only
  rw [mdelL_self h _ _ hm]
  rfl
theorem mget_mdel_ne (h : KeyEq k) (m : GMap k v) (x : k.den) {z : k.den} (hz : z ≠ x) : mget (mdel m x) z = mget m z := by
  unfold mget mdel
  simp only
  rw [mdelL_ne h _ _ _ hz]
end

end Go.Ab

/- Layer 7, net: what each call does to a heap, and what it tells. -/
namespace Go.Ab.D

abbrev Dat : Type := Int × (Int × List UInt8)
abbrev NM : Type := List ((Int × Int) × Nat) × Nat
abbrev NMt : Type := GMap (.int .i64) (.int .i64)
def getI (m : NM) (k : Int) : Int := Option.getD (mget (k := .int .i64) (v := .int .i64) m k) 0
def putI (m : NM) (k x : Int) : NM := mput (k := .int .i64) (v := .int .i64) m k x
def delI (m : NM) (k : Int) : NM := mdel (k := .int .i64) (v := .int .i64) m k
def incM (m : NM) (k : Int) : NM := putI m k (IntKind.wrap .i64 (getI m k + 1))
def decM (m : NM) (k : Int) : NM := putI m k (IntKind.wrap .i64 (getI m k - 1))
theorem getI_put (m : NM) (k x : Int) : getI (putI m k x) k = x := by
  unfold getI putI
  rw [mget_mput (keyEq_int .i64)]
  rfl
theorem getI_put_ne (m : NM) (k x : Int) {z : Int} (h : z ≠ k) : getI (putI m k x) z = getI m z := by
  unfold getI putI
  rw [mget_mput_ne (keyEq_int .i64) _ _ _ h]
/-- How many of a heap are for a station. -/
def cnt (L : List Dat) (k : Int) : Nat := L.countP fun d => d.2.1 == k
theorem cnt_snoc (L : List Dat) (d : Dat) (k : Int) : cnt (L ++ [d]) k = cnt L k + (if d.2.1 = k then 1 else 0) := by
  unfold cnt
  rw [List.countP_append, List.countP_singleton]
  simp
theorem cnt_le (L : List Dat) (k : Int) : cnt L k ≤ L.length := List.countP_le_length
/-- A heap, and its counters. -/
structure NI (s e : Int) (L : List Dat) (m : NM) : Prop where
  u : keysU (k := .int .i64) (v := .int .i64) m
  c : ∀ k, getI m k = (cnt L k : Int)
  l : L.length ≤ 10000
  b : ∀ d ∈ L, d.2.2.length ≤ 131072
  s1 : 1 ≤ s ∧ s ≤ 300
  e1 : 1 ≤ e ∧ e ≤ 10000
  o : ∀ d ∈ L, (0 ≤ d.1 ∧ d.1 < s) ∧ (0 ≤ d.2.1 ∧ d.2.1 < s)
  q : ∀ k, (cnt L k : Int) ≤ e
theorem NI.empty {s e : Int} (hs : 1 ≤ s ∧ s ≤ 300) (he : 1 ≤ e ∧ e ≤ 10000) : NI s e [] ([], 0) :=
  ⟨List.nodup_nil, fun k => rfl, by simp, by simp, hs, he, by simp, fun k => by simp [cnt]; omega⟩
theorem NI.inc {s e : Int} {L : List Dat} {m : NM} (h : NI s e L m) {d : Dat} (ho : (0 ≤ d.1 ∧ d.1 < s) ∧ (0 ≤ d.2.1 ∧ d.2.1 < s)) (hb : d.2.2.length ≤ 131072) (hq : (cnt L d.2.1 : Int) < e) (hl : L.length < 10000) : NI s e (L ++ [d]) (incM m d.2.1) := by
  refine ⟨keysU_mput (keyEq_int .i64) h.u _ _, ?_, by simp; omega, ?_, h.s1, h.e1, ?_, ?_⟩
  · intro k
    have := cnt_le L d.2.1
    have := cnt_snoc L d k
    by_cases hk : k = d.2.1
    · subst hk
      unfold incM
      rw [getI_put, h.c, w64 ⟨by omega, by omega⟩, this, if_pos rfl]
      omega
    · unfold incM
      rw [getI_put_ne _ _ _ hk, h.c, this, if_neg (fun q => hk q.symm)]
      omega
  · intro x hx
    rw [List.mem_append, List.mem_singleton] at hx
    rcases hx with hx | hx
    · exact h.b x hx
    · subst hx; exact hb
  · intro x hx
    rw [List.mem_append, List.mem_singleton] at hx
    rcases hx with hx | hx
    · exact h.o x hx
    · subst hx; exact ho
  · intro k
    rw [cnt_snoc]
    have := h.q k
    split
    · rename_i hk; subst hk; omega
    · omega
theorem cnt_split {L : List Dat} {i : Nat} (hi : i < L.length) (k : Int) : cnt L k = cnt (L.eraseIdx i) k + (if L[i].2.1 = k then 1 else 0) := by
  have e : L = L.take i ++ L[i] :: L.drop (i + 1) := by simp
  have e2 : L.eraseIdx i = L.take i ++ L.drop (i + 1) := List.eraseIdx_eq_take_drop_succ L i
  rw [e2]
  have : cnt L k = cnt (L.take i ++ L[i] :: L.drop (i + 1)) k := congrArg (fun x => cnt x k) e
  rw [this]
  unfold cnt
  rw [List.countP_append, List.countP_append, List.countP_cons]
  simp only [beq_iff_eq]
  omega
theorem NI.dec {s e : Int} {L : List Dat} {m : NM} (h : NI s e L m) {i : Nat} (hi : i < L.length) : NI s e (L.eraseIdx i) (decM m L[i].2.1) := by
  have hsub : (L.eraseIdx i).Sublist L := List.eraseIdx_sublist L i
  refine ⟨keysU_mput (keyEq_int .i64) h.u _ _, ?_, Nat.le_trans hsub.length_le h.l, fun d hd => h.b d (hsub.subset hd), h.s1, h.e1, fun d hd => h.o d (hsub.subset hd), ?_⟩
  · intro k
    have hs := cnt_split hi k
    have := cnt_le L k
    have := h.l
    by_cases hk : k = L[i].2.1
    · subst hk
      unfold decM
      rw [getI_put, h.c, w64 ⟨by omega, by omega⟩]
      rw [if_pos rfl] at hs
      omega
    · unfold decM
      rw [getI_put_ne _ _ _ hk, h.c]
      rw [if_neg (fun q => hk q.symm)] at hs
      omega
  · intro k
    have := cnt_split hi k
    have := h.q k
    omega
theorem NI.forget {s e : Int} {L : List Dat} {m : NM} (h : NI s e L m) (t : Int) : NI s e (L.filter fun d => !(d.2.1 == t)) (delI m t) := by
  have hsub : (L.filter fun d => !(d.2.1 == t)).Sublist L := List.filter_sublist
  have hc : ∀ k, cnt (L.filter fun d => !(d.2.1 == t)) k = if k = t then 0 else cnt L k := by
    intro k
    unfold cnt
    rw [List.countP_filter]
    by_cases hk : k = t
    · subst hk
      rw [if_pos rfl, List.countP_eq_zero]
      intro a _
      simp
    · rw [if_neg hk]
      congr 1
      funext d
      by_cases hd : d.2.1 = k
      · simp [hd, hk]
      · have : (d.2.1 == k) = false := beq_eq_false_iff_ne.2 hd
        simp [this]
  refine ⟨keysU_mdel (keyEq_int .i64) h.u _, ?_, Nat.le_trans hsub.length_le h.l, fun d hd => h.b d (hsub.subset hd), h.s1, h.e1, fun d hd => h.o d (hsub.subset hd), ?_⟩
  · intro k
    rw [hc]
    by_cases hk : k = t
    · subst hk
      unfold delI getI
      rw [mget_mdel (keyEq_int .i64) h.u, if_pos rfl]
      rfl
    · unfold delI getI
      rw [mget_mdel_ne (keyEq_int .i64) _ _ hk, if_neg hk]
      exact h.c k
  · intro k
    rw [hc]
    have := h.q k
    have := h.e1
    split <;> omega

/-! What is refused -/
def layE (e : Int) (L : List Dat) (t : Int) : Int := if (cnt L t : Int) = e ∨ L.length = 10000 then 5 else 0
def sendE (s e : Int) (L : List Dat) (f t : Int) (b : List UInt8) : Int := if f < 0 ∨ s ≤ f ∨ t < 0 ∨ s ≤ t then 2 else if 131072 < b.length then 3 else layE e L t
def copyE (e : Int) (L : List Dat) (i : Int) : Int := if h : 0 ≤ i ∧ i < L.length then layE e L (L[i.toNat]'(by omega)).2.1 else 2

theorem clone_is' {b : List UInt8} (h : b.length ≤ room) : slices_Clone__byte_byte fuel b = some b := by
  unfold slices_Clone__byte_byte
  have hn : need (Nat.ble ((0 + b.length) * 1) room && Nat.ble (0 + b.length) room) (some b) = some b := need_true (by rw [Nat.zero_add, Nat.mul_one, ble_true h]; rfl)
  rw [nilQ_same (fun h0 => by
    have : b = [] := List.eq_nil_of_length_eq_zero h0
    subst this
    rw [hn]
    rfl)]
  rw [hn]
  rfl
theorem new_is (a b : Int) : net_New fuel a b = if (1 ≤ a ∧ a ≤ 300) ∧ (1 ≤ b ∧ b ≤ 10000) then some (.inr (0, (a, (b, ([], 0))))) else some (.inl 2) := by
  unfold net_New net_New_1
  by_cases h1 : 0 < a <;> by_cases h2 : a ≤ 300 <;> by_cases h3 : 0 < b <;> by_cases h4 : b ≤ 10000 <;>
    simp only [h1, h2, h3, h4, decide_true, decide_false, cond_true, cond_false, Option.bind_some, Bool.not_true, Bool.not_false, and_true, and_false, true_and, false_and, if_true, if_false] <;>
    (first | (rw [if_pos (by omega)]) | (rw [if_neg (by omega)]) | rfl)
theorem like_is (a b : Dat) : law07_like fuel a b = some (decide (a = b)) := by
  obtain ⟨a1, a2, a3⟩ := a
  obtain ⟨b1, b2, b3⟩ := b
  unfold law07_like
  by_cases h1 : a1 = b1 <;> by_cases h2 : a2 = b2 <;> by_cases h3 : a3 = b3 <;> simp [h1, h2, h3, beq_eq_false_iff_ne.2]
end Go.Ab.D

/- Layer 7, net: the calls on a heap that has its own block. -/
namespace Go.Ab.D
theorem u_lt {i : Int} {n : Nat} (hi : -9223372036854775808 ≤ i ∧ i ≤ 9223372036854775807) (hn : n ≤ 9223372036854775807) : decide (IntKind.wrap .u64 i < IntKind.wrap .u64 (n : Int)) = decide (0 ≤ i ∧ i < n) := by
  rw [wu64_mod, wu64_mod]
  by_cases h : 0 ≤ i ∧ i < n
  · rw [decide_eq_true h, decide_eq_true (by omega)]
  · rw [decide_eq_false h, decide_eq_false (by omega)]
theorem u_lt0 {i : Int} : decide (IntKind.wrap .u64 i < 0) = false := by
  rw [wu64_mod]
  exact decide_eq_false (by omega)
def In64 (i : Int) : Prop := -9223372036854775808 ≤ i ∧ i ≤ 9223372036854775807
section
variable {s e : Int} {L : List Dat} {m : NM}
theorem there_com (h : NI s e L m) {i : Int} (hi : In64 i) : net_Net_there__com fuel i s e L m = some (decide (0 ≤ i ∧ i < L.length), (s, (e, (L, m)))) := by
  have := h.l
  unfold net_Net_there__com net_Net_made__com
  simp only [Option.bind_some, cond_true]
  rw [u_lt hi (by omega)]
theorem flying_com : net_Net_Flying__com fuel s e L m = some ((L.length : Int), (s, (e, (L, m)))) := rfl
theorem waiting_com (h : NI s e L m) (t : Int) : net_Net_Waiting__com fuel t s e L m = some ((cnt L t : Int), (s, (e, (L, m)))) := by
  have := h.c t
  unfold getI at this
  unfold net_Net_Waiting__com net_Net_made__com
  simp only [Option.bind_some, Bool.not_true, cond_false]
  rw [this]
theorem full_com (h : NI s e L m) (t : Int) : net_Net_full__com fuel t s e L m = some (decide ((cnt L t : Int) = e ∨ L.length = 10000), (s, (e, (L, m)))) := by
  have := h.c t
  unfold getI at this
  unfold net_Net_full__com
  rw [this]
  by_cases h1 : (cnt L t : Int) = e
  · rw [beq_iff_eq.2 h1, cond_true, decide_eq_true (.inl h1)]
  · rw [beq_eq_false_iff_ne.2 h1, cond_false]
    by_cases h2 : L.length = 10000
    · rw [h2, decide_eq_true (.inr rfl)]; rfl
    · rw [decide_eq_false (by omega), beq_eq_false_iff_ne.2 (by omega)]
theorem layE_or (t : Int) : layE e L t = 5 ∧ decide ((cnt L t : Int) = e ∨ L.length = 10000) = true ∨ layE e L t = 0 ∧ decide ((cnt L t : Int) = e ∨ L.length = 10000) = false := by
  unfold layE
  by_cases h : (cnt L t : Int) = e ∨ L.length = 10000
  · exact .inl ⟨if_pos h, decide_eq_true h⟩
  · exact .inr ⟨if_neg h, decide_eq_false h⟩
theorem lay_com (h : NI s e L m) {d : Dat} (hb : d.2.2.length ≤ 131072) : net_Net_lay__com fuel d s e L m = some (if layE e L d.2.1 = 0 then .inr (0, (s, (e, (incM m d.2.1, L ++ [d])))) else .inl (5, (s, (e, (L, m))))) := by
  have := h.l
  unfold net_Net_lay__com
  rw [full_com h]
  simp only [Option.bind_some]
  rcases layE_or (e := e) (L := L) d.2.1 with ⟨h1, h2⟩ | ⟨h1, h2⟩
  · rw [h2, h1]; rfl
  · rw [h2, h1, cond_false, clone_is' (Nat.le_trans hb (by rw [roomIs]; omega))]
    simp only [Option.bind_some]
    rw [need_true (by rw [Bool.and_eq_true]; exact ⟨ble_true (by rw [roomIs]; omega), ble_true (by rw [roomIs]; omega)⟩)]
    rfl
theorem sendl_com (f t : Int) : net_Net_Send__com_l0_it fuel f t (0, (s, (e, (L, m)))) = some (if f < 0 ∨ s ≤ f ∨ t < 0 ∨ s ≤ t then .inr (.inl (2, (s, (e, (L, m))))) else .inl (s, (e, (L, m)))) := by
  unfold net_Net_Send__com_l0_it
  obtain ⟨n, hn⟩ := fuelS 2 (by omega)
  rw [hn]
  have step : ∀ (x : Nat) (y : Int), x < 2 → [f, t][x]? = some y → net_Net_Send__com_l0 fuel f t (x : Int) s e L m = some (if y < 0 ∨ s ≤ y then .inr (.inr (.inl (2, (s, (e, (L, m)))))) else .inl (((x + 1 : Nat) : Int), (s, (e, (L, m))))) := by
    intro x y hx hy
    unfold net_Net_Send__com_l0
    rw [decide_eq_true (by omega), idx_nat hx]
    simp only [cond_true, Option.bind_some, hy]
    by_cases h1 : y < 0
    · rw [decide_eq_true h1, if_pos (.inl h1)]; rfl
    · rw [decide_eq_false h1]
      by_cases h2 : s ≤ y
      · rw [if_pos (.inr h2)]
        have : decide (y ≥ s) = true := decide_eq_true h2
        simp only [this, cond_false, Option.bind_some, cond_true]
      · rw [if_neg (by omega)]
        have : decide (y ≥ s) = false := decide_eq_false h2
        simp only [this, cond_false, Option.bind_some]
        rw [w64 ⟨by omega, by omega⟩]
        congr 3
  have s0 := step 0 f (by omega) rfl
  have s1 := step 1 t (by omega) rfl
  by_cases h1 : f < 0 ∨ s ≤ f
  · rw [if_pos (by omega)]
    rw [if_pos h1] at s0
    exact iter_inr s0
  · rw [if_neg h1] at s0
    refine (iter_inl s0).trans ?_
    by_cases h2 : t < 0 ∨ s ≤ t
    · rw [if_pos (by omega)]
      rw [if_pos h2] at s1
      exact iter_inr s1
    · rw [if_neg (by omega)]
      rw [if_neg h2] at s1
      refine (iter_inl s1).trans (iter_inr ?_)
      rfl
theorem send_com (h : NI s e L m) (f t : Int) {b : List UInt8} : net_Net_Send__com fuel f t b s e L m = some (if sendE s e L f t b = 0 then .inr (0, (s, (e, (incM m t, L ++ [(f, (t, b))])))) else .inl (sendE s e L f t b, (s, (e, (L, m))))) := by
  unfold net_Net_Send__com net_Net_made__com
  simp only [Option.bind_some, Bool.not_true, cond_false]
  rw [sendl_com]
  unfold sendE
  by_cases h1 : f < 0 ∨ s ≤ f ∨ t < 0 ∨ s ≤ t
  · rw [if_pos h1, if_pos h1]; rfl
  · rw [if_neg h1, if_neg h1]
    simp only [Option.bind_some]
    by_cases h2 : 131072 < b.length
    · rw [if_pos h2, decide_eq_true (by omega)]; rfl
    · rw [if_neg h2, decide_eq_false (by omega), cond_false, lay_com h (by show b.length ≤ _; omega)]
      rcases layE_or (e := e) (L := L) t with ⟨h3, _⟩ | ⟨h3, _⟩
      · simp only [Option.bind_some, h3]; rfl
      · simp only [Option.bind_some, h3]; rfl
theorem look_com (h : NI s e L m) {i : Int} (hi : In64 i) : net_Net_Look__com fuel i s e L m = some (match (if 0 ≤ i then L[i.toNat]? else none) with | some d => (d.1, (d.2.1, (d.2.2, (true, (s, (e, (L, m))))))) | none => (0, (0, ([], (false, (s, (e, (L, m)))))))) := by
  have := h.l
  unfold net_Net_Look__com
  rw [there_com h hi]
  simp only [Option.bind_some]
  by_cases h1 : 0 ≤ i ∧ i < L.length
  · have hk : i.toNat < L.length := by omega
    rw [decide_eq_true h1, if_pos h1.1, List.getElem?_eq_getElem hk, idx_int h1.1 h1.2]
    have hb := h.b L[i.toNat] (List.getElem_mem hk)
    simp only [Bool.not_true, cond_false, Option.bind_some, List.getElem?_eq_getElem hk]
    rw [clone_is' (Nat.le_trans hb (by rw [roomIs]; omega))]
    rfl
  · rw [decide_eq_false h1]
    have : (if 0 ≤ i then L[i.toNat]? else none) = none := by
      by_cases h0 : 0 ≤ i
      · rw [if_pos h0]; exact List.getElem?_eq_none (by omega)
      · rw [if_neg h0]
    rw [this]
    rfl
/-- The i-th, if there is one. -/
def at? (L : List Dat) (i : Int) : Option Dat := if 0 ≤ i then L[i.toNat]? else none
theorem at_some {i : Int} {d : Dat} (h : at? L i = some d) : ∃ hk : i.toNat < L.length, 0 ≤ i ∧ i < L.length ∧ L[i.toNat] = d := by
  unfold at? at h
  split at h
  · obtain ⟨h1, h2⟩ := List.getElem?_eq_some_iff.1 h
    exact ⟨h1, by assumption, by omega, h2⟩
  · cases h
theorem at_none {i : Int} (h : at? L i = none) : ¬ (0 ≤ i ∧ i < L.length) := by
  unfold at? at h
  split at h
  · have := List.getElem?_eq_none_iff.1 h; omega
  · omega
theorem at_in {i : Int} (h : 0 ≤ i ∧ i < L.length) : ∃ hk : i.toNat < L.length, at? L i = some L[i.toNat] := by
  have hk : i.toNat < L.length := by omega
  exact ⟨hk, by unfold at?; rw [if_pos h.1, List.getElem?_eq_getElem hk]⟩
theorem copyE_some {i : Int} {d : Dat} (h : at? L i = some d) : copyE e L i = layE e L d.2.1 := by
  obtain ⟨hk, h0, h1, h2⟩ := at_some h
  unfold copyE
  rw [dif_pos ⟨h0, h1⟩, h2]
theorem copyE_none {i : Int} (h : at? L i = none) : copyE e L i = 2 := dif_neg (at_none h)
theorem copy_com (h : NI s e L m) {i : Int} (hi : In64 i) : net_Net_Copy__com fuel i s e L m = some (match at? L i with
    | some d => (if layE e L d.2.1 = 0 then .inr (0, (s, (e, (incM m d.2.1, L ++ [d])))) else .inl (5, (s, (e, (L, m)))))
    | none => .inl (2, (s, (e, (L, m))))) := by
  unfold net_Net_Copy__com
  rw [show net_Net_made__com fuel s e L m = some (true, (s, (e, (L, m)))) from rfl]
  simp only [Option.bind_some, Bool.not_true, cond_false]
  rw [there_com h hi]
  simp only [Option.bind_some]
  cases ha : at? L i with
  | none =>
    rw [decide_eq_false (at_none ha)]; rfl
  | some d =>
    obtain ⟨hk, h0, h1, h2⟩ := at_some ha
    have hb := h.b L[i.toNat] (List.getElem_mem hk)
    rw [h2] at hb
    rw [decide_eq_true ⟨h0, h1⟩, idx_int h0 h1]
    simp only [Bool.not_true, cond_false, Option.bind_some, List.getElem?_eq_getElem hk, h2]
    rw [lay_com h hb]
    rcases layE_or (e := e) (L := L) d.2.1 with ⟨h3, _⟩ | ⟨h3, _⟩
    · simp only [Option.bind_some, h3]; rfl
    · simp only [Option.bind_some, h3]; rfl
end
end Go.Ab.D

/- Layer 7, net: what goes from a heap; the chapter's examples. -/
namespace Go.Ab.D
theorem concat2_is {A B : List Dat} (h : A.length + B.length ≤ 10000) : slices_Concat__api_Datum_api_Datum fuel [A, B] = some (A ++ B) := by
  unfold slices_Concat__api_Datum_api_Datum slices_Concat__api_Datum_api_Datum_l0_it slices_Concat__api_Datum_api_Datum_l1_it
  have e0 : ∀ (z : Nat) (x : Nat) (C : List Dat), x < 2 → [A, B][x]? = some C → z + C.length ≤ 10000 → slices_Concat__api_Datum_api_Datum_l0 fuel [A, B] (z : Int) (x : Int) = some (.inl (((z + C.length : Nat) : Int), ((x + 1 : Nat) : Int))) := by
    intro z x C hx hC hz
    unfold slices_Concat__api_Datum_api_Datum_l0
    have hl : [A, B].length = 2 := rfl
    rw [hl, decide_eq_true (by omega), idx_nat hx]
    simp only [cond_true, Option.bind_some, hC]
    rw [w64 (x := (z : Int) + (C.length : Int)) ⟨by omega, by omega⟩, decide_eq_false (by omega), w64 ⟨by omega, by omega⟩]
    simp only [cond_false]
    congr 3
  have e1 : ∀ (H : List Dat) (x : Nat) (C : List Dat), x < 2 → [A, B][x]? = some C → H.length + C.length ≤ 10000 → slices_Concat__api_Datum_api_Datum_l1 fuel [A, B] (x : Int) H = some (.inl (((x + 1 : Nat) : Int), H ++ C)) := by
    intro H x C hx hC hz
    unfold slices_Concat__api_Datum_api_Datum_l1
    have hl : [A, B].length = 2 := rfl
    rw [hl, decide_eq_true (by omega), idx_nat hx]
    simp only [cond_true, Option.bind_some, hC]
    rw [need_true (by rw [Bool.and_eq_true]; exact ⟨ble_true (by rw [roomIs]; omega), ble_true (by rw [roomIs]; omega)⟩), w64 ⟨by omega, by omega⟩]
    congr 3
  have s0 : iter fuel (fun tt : Int × Int => slices_Concat__api_Datum_api_Datum_l0 fuel [A, B] tt.1 tt.2) (0, 0) = some ((A.length + B.length : Nat) : Int) := by
    obtain ⟨n, hn⟩ := fuelS 2 (by omega)
    rw [hn]
    refine (iter_inl (e0 0 0 A (by omega) rfl (by omega))).trans ((iter_inl (e0 (0 + A.length) 1 B (by omega) rfl (by omega))).trans (iter_inr ?_))
    show slices_Concat__api_Datum_api_Datum_l0 fuel [A, B] ((0 + A.length + B.length : Nat) : Int) _ = _
    rw [Nat.zero_add]
    rfl
  have s1 : iter fuel (fun tt : Int × List Dat => slices_Concat__api_Datum_api_Datum_l1 fuel [A, B] tt.1 tt.2) (0, []) = some (A ++ B) := by
    obtain ⟨n, hn⟩ := fuelS 2 (by omega)
    rw [hn]
    refine (iter_inl (e1 [] 0 A (by omega) rfl (by simp; omega))).trans ((iter_inl (e1 ([] ++ A) 1 B (by omega) rfl (by simp; omega))).trans (iter_inr ?_))
    rfl
  rw [s0]
  simp only [Option.bind_some]
  have s2 : slices_Grow__api_Datum_api_Datum_n0 fuel ((A.length + B.length : Nat) : Int) = some [] := by
    unfold slices_Grow__api_Datum_api_Datum_n0
    rw [decide_eq_false (by omega), w64 ⟨by omega, by omega⟩]
    simp only [cond_false]
    by_cases h0 : A.length + B.length = 0
    · rw [h0]; rfl
    · rw [decide_eq_true (by omega), upto_int (by omega) (by rw [roomIs]; omega)]
      simp only [cond_true, Option.bind_some]
      rw [need_true (by rw [Bool.and_eq_true]; exact ⟨ble_true (by rw [roomIs]; omega), ble_true (by rw [roomIs]; omega)⟩)]
      rfl
  rw [s2]
  simp only [Option.bind_some]
  rw [s1]
  rfl
section
variable {s e : Int} {L : List Dat} {m : NM}
theorem drop_com (h : NI s e L m) {i : Int} (hi : In64 i) : net_Net_Drop__com fuel i s e L m = some (match at? L i with
    | some d => .inr (true, (s, (e, (decM m d.2.1, (L, L.eraseIdx i.toNat)))))
    | none => .inl (false, (s, (e, (L, m))))) := by
  have := h.l
  unfold net_Net_Drop__com
  rw [there_com h hi]
  simp only [Option.bind_some]
  cases ha : at? L i with
  | none => rw [decide_eq_false (at_none ha)]; rfl
  | some d =>
    obtain ⟨hk, h0, h1, h2⟩ := at_some ha
    rw [decide_eq_true ⟨h0, h1⟩, idx_int h0 h1]
    simp only [Bool.not_true, cond_false, Option.bind_some, List.getElem?_eq_getElem hk, h2]
    rw [upto_int h0 (by omega), w64 ⟨by omega, by omega⟩, upto_int (by omega) (by omega)]
    simp only [Option.bind_some]
    rw [need_true (ble_true (by omega)), need_true (ble_true (by omega))]
    have e1 : List.take i.toNat (List.drop 0 L) = L.take i.toNat := rfl
    have e2 : List.take (L.length - (i + 1).toNat) (List.drop (i + 1).toNat L) = L.drop (i.toNat + 1) := by
      rw [List.take_of_length_le (by simp), show (i + 1).toNat = i.toNat + 1 by omega]
    rw [e1, e2, concat2_is (by simp; omega)]
    simp only [Option.bind_some]
    rw [← List.eraseIdx_eq_take_drop_succ]
    rfl
theorem take_com (h : NI s e L m) {i : Int} (hi : In64 i) : net_Net_Take__com fuel i s e L m = some (match at? L i with
    | some d => .inr (d.1, (d.2.1, (d.2.2, (true, (s, (e, (decM m d.2.1, (L, L.eraseIdx i.toNat))))))))
    | none => .inl (0, (0, ([], (false, (s, (e, (L, m)))))))) := by
  unfold net_Net_Take__com
  rw [look_com h hi]
  have e0 : (if 0 ≤ i then L[i.toNat]? else none) = at? L i := rfl
  rw [e0]
  simp only [Option.bind_some]
  cases ha : at? L i with
  | none => rfl
  | some d =>
    simp only [cond_true]
    rw [drop_com h hi, ha]
    rfl
/-- What is left when all for a station have gone. -/
def forgL (L : List Dat) (t : Int) : List Dat := L.filter fun d => !(d.2.1 == t)
def forgM (L : List Dat) (m : NM) (t : Int) : NM := if cnt L t = 0 then m else delI m t
theorem forgL_none {t : Int} (h : cnt L t = 0) : forgL L t = L := by
  unfold forgL
  rw [List.filter_eq_self]
  intro d hd
  unfold cnt at h
  have := (List.countP_eq_zero.1 h) d hd
  simpa using this
theorem NI.forg (h : NI s e L m) (t : Int) : NI s e (forgL L t) (forgM L m t) := by
  unfold forgM
  by_cases h0 : cnt L t = 0
  · rw [if_pos h0, forgL_none h0]; exact h
  · rw [if_neg h0]; exact h.forget t
/-- Where the first one for a station stands. -/
theorem index_is {t : Int} (hl : L.length ≤ 10000) : slices_IndexFunc__api_Datum_api_Datum_o0f11 fuel L t = some (match L.findIdx? (fun d => d.2.1 == t) with | some k => (k : Int) | none => -1, (L, t)) := by
  unfold slices_IndexFunc__api_Datum_api_Datum_o0f11 slices_IndexFunc__api_Datum_api_Datum_o0f11_l0_it
  have step : ∀ (k : Nat) (hk : k < L.length), slices_IndexFunc__api_Datum_api_Datum_o0f11_l0 fuel L (k : Int) L t = some (if L[k].2.1 = t then .inr (.inr ((k : Int), (L, t))) else .inl (((k + 1 : Nat) : Int), (L, t))) := by
    intro k hk
    unfold slices_IndexFunc__api_Datum_api_Datum_o0f11_l0 net_Net_Forget_1
    rw [decide_eq_true (by omega), idx_nat hk]
    simp only [cond_true, Option.bind_some, List.getElem?_eq_getElem hk]
    by_cases h : L[k].2.1 = t
    · rw [beq_iff_eq.2 h, if_pos h]; rfl
    · rw [beq_eq_false_iff_ne.2 h, if_neg h, w64 ⟨by omega, by omega⟩]; rfl
  cases hf : L.findIdx? (fun d => d.2.1 == t) with
  | none =>
    rw [List.findIdx?_eq_none_iff] at hf
    have := iter_range (f := fun (tt : Int × (List Dat × Int)) => slices_IndexFunc__api_Datum_api_Datum_o0f11_l0 fuel L tt.1 tt.2.1 tt.2.2) (o := .inl (L, t)) (fun k => ((k : Int), (L, t))) L.length (by omega) (fun k hk => by
        show slices_IndexFunc__api_Datum_api_Datum_o0f11_l0 fuel L (k : Int) L t = _
        rw [step k hk, if_neg (by have := hf L[k] (List.getElem_mem hk); simpa using this)]) (by
        show slices_IndexFunc__api_Datum_api_Datum_o0f11_l0 fuel L (L.length : Int) L t = _
        unfold slices_IndexFunc__api_Datum_api_Datum_o0f11_l0
        rw [decide_eq_false (by omega)]; rfl)
    have this2 : iter fuel (fun (tt : Int × (List Dat × Int)) => slices_IndexFunc__api_Datum_api_Datum_o0f11_l0 fuel L tt.1 tt.2.1 tt.2.2) (0, (L, t)) = some (.inl (L, t)) := this
    rw [this2]
    rfl
  | some n =>
    rw [List.findIdx?_eq_some_iff_getElem] at hf
    obtain ⟨hn, h1, h2⟩ := hf
    have := iter_range (f := fun (tt : Int × (List Dat × Int)) => slices_IndexFunc__api_Datum_api_Datum_o0f11_l0 fuel L tt.1 tt.2.1 tt.2.2) (o := .inr ((n : Int), (L, t))) (fun k => ((k : Int), (L, t))) n (by omega) (fun k hk => by
        show slices_IndexFunc__api_Datum_api_Datum_o0f11_l0 fuel L (k : Int) L t = _
        rw [step k (by omega), if_neg (by have := h2 k hk; simpa using this)]) (by
        show slices_IndexFunc__api_Datum_api_Datum_o0f11_l0 fuel L (n : Int) L t = _
        rw [step n hn, if_pos (by simpa using h1)])
    have this2 : iter fuel (fun (tt : Int × (List Dat × Int)) => slices_IndexFunc__api_Datum_api_Datum_o0f11_l0 fuel L tt.1 tt.2.1 tt.2.2) (0, (L, t)) = some (.inr ((n : Int), (L, t))) := this
    rw [this2]
    rfl
end
end Go.Ab.D

/- Layer 7, net: all for a station go; the calls once more, each with what holds behind it; the chapter's examples. -/
namespace Go.Ab.D
section
variable {s e : Int} {L : List Dat} {m : NM}
def delS (L : List Dat) (t : Int) (n : Nat) : Nat → Nat × List Dat
  | 0 => (n, L)
  | k + 1 => match L[n + 1 + k]? with
    | some d => if d.2.1 = t then delS L t n k else ((delS L t n k).1 + 1, (delS L t n k).2.set (delS L t n k).1 d)
    | none => delS L t n k
theorem forgL_snoc (A : List Dat) (d : Dat) (t : Int) : forgL (A ++ [d]) t = forgL A t ++ (if d.2.1 = t then [] else [d]) := by
  unfold forgL
  rw [List.filter_append]
  by_cases h : d.2.1 = t
  · rw [if_pos h]; simp [h]
  · rw [if_neg h]; simp [h]
theorem delS_inv {t : Int} {n : Nat} (hn : n < L.length) (h1 : L[n].2.1 = t) (h2 : ∀ j (hj : j < n), L[j].2.1 ≠ t) : ∀ k, n + 1 + k ≤ L.length →
    (delS L t n k).2.length = L.length ∧ (delS L t n k).1 ≤ n + k ∧ (delS L t n k).2.take (delS L t n k).1 = forgL (L.take (n + 1 + k)) t ∧ ∀ j, n + 1 + k ≤ j → (delS L t n k).2[j]? = L[j]?
  | 0, _ => by
    refine ⟨rfl, Nat.le_refl _, ?_, fun j _ => rfl⟩
    show L.take n = forgL (L.take (n + 1)) t
    rw [List.take_succ_eq_append_getElem hn, forgL_snoc, if_pos h1, List.append_nil]
    unfold forgL
    rw [eq_comm, List.filter_eq_self]
    intro d hd
    obtain ⟨j, hj, rfl⟩ := List.getElem_of_mem hd
    have hj' : j < n := by simp at hj; omega
    have := h2 j hj'
    simpa using this
  | k + 1, hk => by
    obtain ⟨a1, a2, a3, a4⟩ := delS_inv hn h1 h2 k (by omega)
    have hk' : n + 1 + k < L.length := by omega
    have hs : L.take (n + 1 + (k + 1)) = L.take (n + 1 + k) ++ [L[n + 1 + k]] := List.take_succ_eq_append_getElem hk'
    rw [hs, forgL_snoc]
    show (match L[n + 1 + k]? with | some d => if d.2.1 = t then delS L t n k else ((delS L t n k).1 + 1, (delS L t n k).2.set (delS L t n k).1 d) | none => delS L t n k).2.length = _ ∧ _
    have e : delS L t n (k + 1) = if L[n + 1 + k].2.1 = t then delS L t n k else ((delS L t n k).1 + 1, (delS L t n k).2.set (delS L t n k).1 L[n + 1 + k]) := by
      show (match L[n + 1 + k]? with | some d => if d.2.1 = t then delS L t n k else ((delS L t n k).1 + 1, (delS L t n k).2.set (delS L t n k).1 d) | none => delS L t n k) = _
      rw [List.getElem?_eq_getElem hk']
    show (delS L t n (k + 1)).2.length = _ ∧ _
    rw [e]
    by_cases ht : L[n + 1 + k].2.1 = t
    · rw [if_pos ht, if_pos ht, List.append_nil]
      exact ⟨a1, by omega, a3, fun j hj => a4 j (by omega)⟩
    · rw [if_neg ht, if_neg ht]
      generalize delS L t n k = r at a1 a2 a3 a4
      have hi : r.1 < r.2.length := by omega
      refine ⟨by simpa using a1, by show r.1 + 1 ≤ _; omega, ?_, fun j hj => ?_⟩
      · show (r.2.set r.1 L[n + 1 + k]).take (r.1 + 1) = _
        rw [List.take_succ_eq_append_getElem (by simpa using hi), List.getElem_set_self, List.take_set_of_le (Nat.le_refl _), a3]
      · show (r.2.set r.1 L[n + 1 + k])[j]? = _
        rw [List.getElem?_set_ne (by omega)]
        exact a4 j (by omega)
theorem delete_is {t : Int} (hl : L.length ≤ 10000) : slices_DeleteFunc__api_Datum_api_Datum_o0f11 fuel L t = some (if cnt L t = 0 then .inl (L, t) else .inr (t, forgL L t)) := by
  unfold slices_DeleteFunc__api_Datum_api_Datum_o0f11
  rw [index_is hl]
  simp only [Option.bind_some]
  cases hf : L.findIdx? (fun d => d.2.1 == t) with
  | none =>
    have : cnt L t = 0 := by
      unfold cnt
      rw [List.countP_eq_zero]
      intro d hd
      rw [List.findIdx?_eq_none_iff] at hf
      simpa using hf d hd
    rw [if_pos this]
    rfl
  | some n =>
    rw [List.findIdx?_eq_some_iff_getElem] at hf
    obtain ⟨hn, h1, h2⟩ := hf
    have h1' : L[n].2.1 = t := by simpa using h1
    have h2' : ∀ j (hj : j < n), L[j].2.1 ≠ t := fun j hj => by have := h2 j hj; simpa using this
    have hc : cnt L t ≠ 0 := by
      unfold cnt
      intro h0
      have := (List.countP_eq_zero.1 h0) L[n] (List.getElem_mem hn)
      simp [h1'] at this
    have hb : ((n : Int) == -1) = false := beq_eq_false_iff_ne.2 (by omega)
    simp only [hb, cond_false]
    rw [if_neg hc, w64 ⟨by omega, by omega⟩]
    have inv := delS_inv hn h1' h2'
    have hit : slices_DeleteFunc__api_Datum_api_Datum_o0f11_l0_it fuel ((n : Int), ((n : Int) + 1, (L, t))) = some (((delS L t n (L.length - (n + 1))).1 : Int), ((delS L t n (L.length - (n + 1))).2, t)) := by
      unfold slices_DeleteFunc__api_Datum_api_Datum_o0f11_l0_it
      have := iter_range (f := fun (tt : Int × (Int × (List Dat × Int))) => slices_DeleteFunc__api_Datum_api_Datum_o0f11_l0 fuel tt.1 tt.2.1 tt.2.2.1 tt.2.2.2) (o := (((delS L t n (L.length - (n + 1))).1 : Int), ((delS L t n (L.length - (n + 1))).2, t)))
        (fun k => (((delS L t n k).1 : Int), (((n + 1 + k : Nat) : Int), ((delS L t n k).2, t)))) (L.length - (n + 1)) (by omega) (fun k hk => by
          obtain ⟨a1, a2, a3, a4⟩ := inv k (by omega)
          have hk' : n + 1 + k < L.length := by omega
          have hq : (delS L t n k).2[n + 1 + k]? = some L[n + 1 + k] := by rw [a4 _ (Nat.le_refl _), List.getElem?_eq_getElem hk']
          have e : delS L t n (k + 1) = if L[n + 1 + k].2.1 = t then delS L t n k else ((delS L t n k).1 + 1, (delS L t n k).2.set (delS L t n k).1 L[n + 1 + k]) := by
            show (match L[n + 1 + k]? with | some d => if d.2.1 = t then delS L t n k else ((delS L t n k).1 + 1, (delS L t n k).2.set (delS L t n k).1 d) | none => delS L t n k) = _
            rw [List.getElem?_eq_getElem hk']
          rw [e]
          show slices_DeleteFunc__api_Datum_api_Datum_o0f11_l0 fuel ((delS L t n k).1 : Int) ((n + 1 + k : Nat) : Int) (delS L t n k).2 t = _
          generalize delS L t n k = r at a1 a2 a3 a4 hq ⊢
          unfold slices_DeleteFunc__api_Datum_api_Datum_o0f11_l0 net_Net_Forget_1
          have hi : r.1 < r.2.length := by omega
          rw [decide_eq_true (by omega), idx_nat (by omega), idx_nat hi]
          simp only [cond_true, Option.bind_some, hq, List.getElem?_eq_getElem hi]
          rw [w64 (x := ((n + 1 + k : Nat) : Int) + 1) ⟨by omega, by omega⟩]
          by_cases ht : L[n + 1 + k].2.1 = t
          · rw [beq_iff_eq.2 ht, if_pos ht]
            simp only [Bool.not_true, cond_false, Option.bind_some]
            congr 4
          · rw [beq_eq_false_iff_ne.2 ht, if_neg ht, w64 ⟨by omega, by omega⟩]
            simp only [Bool.not_false, cond_true, Option.bind_some]
            congr 4) (by
          obtain ⟨a1, a2, a3, a4⟩ := inv (L.length - (n + 1)) (by omega)
          show slices_DeleteFunc__api_Datum_api_Datum_o0f11_l0 fuel ((delS L t n (L.length - (n + 1))).1 : Int) ((n + 1 + (L.length - (n + 1)) : Nat) : Int) (delS L t n (L.length - (n + 1))).2 t = _
          unfold slices_DeleteFunc__api_Datum_api_Datum_o0f11_l0
          rw [decide_eq_false (by omega)]
          rfl)
      exact this
    rw [hit]
    simp only [Option.bind_some]
    obtain ⟨a1, a2, a3, a4⟩ := inv (L.length - (n + 1)) (by omega)
    generalize delS L t n (L.length - (n + 1)) = r at a1 a2 a3 a4 ⊢
    have hi : r.1 ≤ r.2.length := by omega
    rw [upto_nat hi]
    simp only [Option.bind_some]
    rw [need_true (ble_true (by omega))]
    have hsl : (splice r.2 r.1 (List.replicate (r.2.length - r.1) ((0 : Int), ((0 : Int), ([] : List UInt8))))).length = r.2.length := by
      unfold splice; simp; omega
    rw [hsl, upto_nat hi]
    simp only [Option.bind_some]
    rw [need_true (ble_true hi)]
    have : (splice r.2 r.1 (List.replicate (r.2.length - r.1) ((0 : Int), ((0 : Int), ([] : List UInt8))))).take r.1 = forgL L t := by
      unfold splice
      rw [List.append_assoc, List.take_append_of_le_length (by simp; omega), List.take_take, Nat.min_self, a3]
      rw [List.take_of_length_le (by omega)]
    rw [this]
theorem forget_com (h : NI s e L m) (t : Int) : net_Net_Forget__com fuel t s e L m = some ((cnt L t : Int), (s, (e, (forgM L m t, forgL L t)))) := by
  unfold net_Net_Forget__com
  rw [waiting_com h]
  simp only [Option.bind_some]
  unfold forgM
  by_cases h0 : cnt L t = 0
  · rw [if_pos h0, h0, forgL_none h0]; rfl
  · rw [if_neg h0, decide_eq_true (by omega), cond_true, delete_is h.l, if_neg h0]
    rfl

/-! Each call, with what holds behind it -/
theorem sendE_zero {f t : Int} {b : List UInt8} (h : sendE s e L f t b = 0) : (0 ≤ f ∧ f < s) ∧ (0 ≤ t ∧ t < s) ∧ b.length ≤ 131072 ∧ (cnt L t : Int) ≠ e ∧ L.length ≠ 10000 := by
  unfold sendE layE at h
  split at h
  · cases h
  · split at h
    · cases h
    · split at h
      · cases h
      · omega
theorem NI.send (h : NI s e L m) {f t : Int} {b : List UInt8} (he : sendE s e L f t b = 0) : NI s e (L ++ [(f, (t, b))]) (incM m t) := by
  obtain ⟨h1, h2, h3, h4, h5⟩ := sendE_zero he
  have := h.q t
  have := h.l
  exact h.inc (d := (f, (t, b))) ⟨h1, h2⟩ h3 (by show (cnt L t : Int) < e; omega) (by omega)
theorem NI.copy (h : NI s e L m) {i : Int} {d : Dat} (ha : at? L i = some d) (he : layE e L d.2.1 = 0) : NI s e (L ++ [d]) (incM m d.2.1) := by
  obtain ⟨hk, h0, h1, h2⟩ := at_some ha
  have ho := h.o L[i.toNat] (List.getElem_mem hk)
  have hb := h.b L[i.toNat] (List.getElem_mem hk)
  rw [h2] at ho hb
  have := h.q d.2.1
  have := h.l
  unfold layE at he
  split at he
  · cases he
  · exact h.inc ho hb (by omega) (by omega)
theorem NI.drop (h : NI s e L m) {i : Int} {d : Dat} (ha : at? L i = some d) : NI s e (L.eraseIdx i.toNat) (decM m d.2.1) := by
  obtain ⟨hk, h0, h1, h2⟩ := at_some ha
  have := h.dec hk
  rwa [h2] at this
end
end Go.Ab.D

/- Layer 7, net: the chapter's examples come out. -/
namespace Go.Ab.D
section
variable {s e : Int} {L : List Dat} {m : NM}
theorem is_com (h : NI s e L m) {i f t : Int} {b : List UInt8} (hi : In64 i) (hb : b.length ≤ 1000000) : law07_is__com fuel i f t b s e L m = some (decide (at? L i = some (f, (t, b))), (s, (e, (L, m)))) := by
  unfold law07_is__com
  rw [look_com h hi]
  have e0 : (if 0 ≤ i then L[i.toNat]? else none) = at? L i := rfl
  rw [e0]
  simp only [Option.bind_some]
  cases ha : at? L i with
  | none => rw [decide_eq_false (by simp)]; rfl
  | some d =>
    simp only [cond_true]
    rw [need_true (ble_true (by rw [roomIs]; omega)), like_is]
    simp only [Option.bind_some, Option.some.injEq]
theorem in64 {i : Int} (h0 : -1000000 ≤ i) (h : i ≤ 1000000) : In64 i := ⟨by omega, by omega⟩
end
theorem awake_is : law07_awake fuel = some true := by
  have h0 : NI 2 2 [] ([], 0) := NI.empty (by omega) (by omega)
  have k1 : sendE 2 2 [] 0 1 [UInt8.ofNat 97] = 0 := by decide
  have h1 := h0.send k1
  generalize hm1 : incM ([], 0) 1 = m1 at h1
  have k2 : sendE 2 2 ([] ++ [(0, (1, [UInt8.ofNat 97]))]) 1 0 [UInt8.ofNat 98] = 0 := by decide
  have h2 := h1.send k2
  generalize hm2 : incM m1 0 = m2 at h2
  generalize hL2 : ([] : List Dat) ++ [(0, (1, [UInt8.ofNat 97]))] ++ [(1, (0, [UInt8.ofNat 98]))] = L2 at h2
  have a2 : at? L2 0 = some (0, (1, [UInt8.ofNat 97])) := by rw [← hL2]; rfl
  have k3 : layE 2 L2 ((0, (1, [UInt8.ofNat 97])) : Dat).2.1 = 0 := by rw [← hL2]; decide
  have h3 := h2.copy a2 k3
  generalize hm3 : incM m2 _ = m3 at h3
  generalize hL3 : L2 ++ [((0, (1, [UInt8.ofNat 97])) : Dat)] = L3 at h3
  have i0 : at? L3 0 = some (0, (1, [97])) := by rw [← hL3, ← hL2]; rfl
  have i1 : at? L3 1 = some (1, (0, [98])) := by rw [← hL3, ← hL2]; rfl
  have i2 : at? L3 2 = some (0, (1, [97])) := by rw [← hL3, ← hL2]; rfl
  have k4 : sendE 2 2 L3 0 1 [UInt8.ofNat 99] = 5 := by rw [← hL3, ← hL2]; decide
  have h4 := h3.drop i1
  generalize hm4 : decM m3 _ = m4 at h4
  generalize hL4 : L3.eraseIdx _ = L4 at h4
  have i4 : at? L4 0 = some (0, (1, [97])) := by rw [← hL4, ← hL3, ← hL2]; rfl
  have h5 := h4.drop i4
  generalize hm5 : decM m4 _ = m5 at h5
  generalize hL5 : L4.eraseIdx _ = L5 at h5
  have h6 := h5.forg 1
  have c3 : cnt L3 1 = 2 := by rw [← hL3, ← hL2]; rfl
  have c5 : cnt L5 1 = 1 := by rw [← hL5, ← hL4, ← hL3, ← hL2]; rfl
  have l5 : forgL L5 1 = [] := by rw [← hL5, ← hL4, ← hL3, ← hL2]; rfl
  have n2 : L2.length = 2 := by rw [← hL2]; rfl
  have n3 : L3.length = 3 := by rw [← hL3, ← hL2]; rfl
  rw [l5] at h6
  unfold law07_awake
  rw [new_is, if_pos (by omega)]
  simp only [Option.bind_some]
  rw [show (!((0 : Int) == 0)) = false from rfl]
  simp only [cond_false]
  rw [send_com h0, if_pos k1, hm1]
  simp only [Option.bind_some, show (!((0 : Int) == 0)) = false from rfl, cond_false]
  rw [send_com h1, if_pos k2, hm2, hL2]
  simp only [Option.bind_some, show (!((0 : Int) == 0)) = false from rfl, cond_false]
  rw [flying_com, n2]
  simp only [Option.bind_some, show (!(((2 : Nat) : Int) == 2)) = false from rfl, cond_false]
  rw [copy_com h2 (in64 (by omega) (by omega)), a2]
  simp only [if_pos k3, hm3, hL3, Option.bind_some, show (!((0 : Int) == 0)) = false from rfl, cond_false]
  rw [flying_com, n3]
  simp only [Option.bind_some, show (((3 : Nat) : Int) == 3) = true from rfl, cond_true]
  rw [is_com h3 (in64 (by omega) (by omega)) (by decide), decide_eq_true i0]
  simp only [Option.bind_some, cond_true]
  rw [is_com h3 (in64 (by omega) (by omega)) (by decide), decide_eq_true i1]
  simp only [Option.bind_some, cond_true]
  rw [is_com h3 (in64 (by omega) (by omega)) (by decide), decide_eq_true i2]
  simp only [Option.bind_some, cond_true]
  rw [waiting_com h3, c3]
  simp only [Option.bind_some, show (((2 : Nat) : Int) == 2) = true from rfl]
  rw [send_com h3, k4]
  simp only [Option.bind_some, show ((5 : Int) = 0) = False from by simp, if_false]
  rw [take_com h3 (in64 (by omega) (by omega)), i1]
  simp only [Option.bind_some, hm4, hL4, Bool.not_true, cond_false, show (!((5 : Int) == 5)) = false from rfl, like_is]
  rw [decide_eq_true (by rfl)]
  simp only [Bool.not_true, cond_false]
  rw [drop_com h4 (in64 (by omega) (by omega)), i4]
  simp only [Option.bind_some, hm5, hL5, Bool.not_true, cond_false]
  rw [forget_com h5, c5, l5]
  simp only [Option.bind_some, show (!(((1 : Nat) : Int) == 1)) = false from rfl, cond_false]
  rw [look_com h6 (in64 (by omega) (by omega))]
  rfl
end Go.Ab.D

/- Layer 7, NetMost. -/
namespace Go.Ab.D
theorem cnt_all {L : List Dat} {t : Int} (h : ∀ d ∈ L, d.2.1 = t) : cnt L t = L.length := by
  unfold cnt
  rw [List.countP_eq_length]
  intro d hd
  simpa using h d hd
theorem cnt_zero {L : List Dat} {t u : Int} (h : ∀ d ∈ L, d.2.1 = t) (hu : t ≠ u) : cnt L u = 0 := by
  unfold cnt
  rw [List.countP_eq_zero]
  intro d hd
  have := h d hd
  simp [this, hu]
theorem layE_ok {e : Int} {L : List Dat} {t : Int} (h1 : (cnt L t : Int) ≠ e) (h2 : L.length ≠ 10000) : layE e L t = 0 := if_neg (by omega)
theorem layE_full {e : Int} {L : List Dat} {t : Int} (h1 : (cnt L t : Int) = e) : layE e L t = 5 := if_pos (.inl h1)
theorem sendE_lay {s e : Int} {L : List Dat} {f t : Int} {b : List UInt8} (hf : 0 ≤ f ∧ f < s) (ht : 0 ≤ t ∧ t < s) (hb : b.length ≤ 131072) : sendE s e L f t b = layE e L t := by
  unfold sendE
  rw [if_neg (by omega), if_neg (by omega)]
theorem nz0 : (!((0 : Int) == 0)) = false := rfl
theorem nz5 : (!((5 : Int) == 5)) = false := rfl
theorem most_loop {most : Int} {k : Nat} (hk : IntKind.wrap .i64 (1 + IntKind.wrap .i64 (Int.tmod most 40)) = (k : Int)) (h1 : 1 ≤ k) (h40 : k ≤ 40) :
    ∃ L m, law07_NetMost_l1_it fuel most (0, (2, ((k : Int), ([], ([], 0))))) = some (.inl (2, ((k : Int), (L, m)))) ∧ NI 2 k L m ∧ L.length = k ∧ ∀ d ∈ L, d.2.1 = 1 := by
  unfold law07_NetMost_l1_it
  have := iter_ex (f := fun (tt : Int × (Int × (Int × (List Dat × NM)))) => law07_NetMost_l1 fuel most tt.1 tt.2.1 tt.2.2.1 tt.2.2.2.1 tt.2.2.2.2)
    (fun n s => ∃ (i : Nat) (L : List Dat) (m : NM), s = ((i : Int), (2, ((k : Int), (L, m)))) ∧ i + n = k ∧ NI 2 k L m ∧ L.length = i ∧ ∀ d ∈ L, d.2.1 = 1)
    (fun o => ∃ (L : List Dat) (m : NM), o = .inl (2, ((k : Int), (L, m))) ∧ NI 2 k L m ∧ L.length = k ∧ ∀ d ∈ L, d.2.1 = 1)
    (fun n s ⟨i, L, m, hs, hi, hN, hl, ha⟩ => by
      subst hs
      refine .inl ?_
      show ∃ s', law07_NetMost_l1 fuel most (i : Int) 2 (k : Int) L m = _ ∧ _
      have hc : cnt L 1 = i := by rw [cnt_all ha, hl]
      have key : ∃ d : Dat, d.2.1 = 1 ∧ NI 2 k (L ++ [d]) (incM m 1) ∧ law07_NetMost_l1 fuel most (i : Int) 2 (k : Int) L m = some (.inl (((i + 1 : Nat) : Int), (2, ((k : Int), (L ++ [d], incM m 1))))) := by
        unfold law07_NetMost_l1
        rw [hk, decide_eq_true (by omega)]
        simp only [cond_true]
        rw [show Int.tmod (i : Int) 2 = ((i % 2 : Nat) : Int) from rfl]
        by_cases hp : i % 2 = 0
        · have hE : sendE 2 k L 0 1 [UInt8.ofNat i] = 0 := by
            rw [sendE_lay (by omega) (by omega) (by simp), layE_ok (by omega) (by omega)]
          have hN' := hN.send hE
          refine ⟨(0, (1, [UInt8.ofNat i])), rfl, hN', ?_⟩
          rw [hp, wu8 (x := (i : Int)) ⟨by omega, by omega⟩, byte_nat (by omega)]
          simp only [show (((0 : Nat) : Int) == 0) = true from rfl, cond_true, Option.bind_some]
          rw [send_com hN, if_pos hE]
          simp only [Option.bind_some, nz0, cond_false]
          rw [waiting_com hN', cnt_snoc, if_pos rfl, hc]
          simp only [Option.bind_some]
          rw [w64 (x := (i : Int) + 1) ⟨by omega, by omega⟩, beq_iff_eq.2 (show ((i + 1 : Nat) : Int) = (i : Int) + 1 by omega)]
          rfl
        · have h0 : 0 < L.length := by omega
          obtain ⟨hk0, hat⟩ := at_in (L := L) (i := 0) (by omega)
          have hto : L[(0 : Int).toNat].2.1 = 1 := ha _ (List.getElem_mem hk0)
          have hE : layE k L L[(0 : Int).toNat].2.1 = 0 := by rw [hto, layE_ok (by omega) (by omega)]
          have hN' := hN.copy hat hE
          rw [hto] at hN'
          refine ⟨L[(0 : Int).toNat], hto, hN', ?_⟩
          have hp1 : i % 2 = 1 := by omega
          rw [hp1]
          simp only [show (((1 : Nat) : Int) == 0) = false from rfl, cond_false]
          rw [copy_com hN (in64 (by omega) (by omega)), hat]
          rw [hto] at hE
          simp only [hto, if_pos hE, Option.bind_some, nz0, cond_false]
          rw [waiting_com hN', cnt_snoc, if_pos hto, hc]
          simp only [Option.bind_some]
          rw [w64 (x := (i : Int) + 1) ⟨by omega, by omega⟩, beq_iff_eq.2 (show ((i + 1 : Nat) : Int) = (i : Int) + 1 by omega)]
          rfl
      obtain ⟨d, hd, hN', he⟩ := key
      refine ⟨_, he, i + 1, L ++ [d], incM m 1, rfl, by omega, hN', by simp [hl], ?_⟩
      intro x hx
      rw [List.mem_append, List.mem_singleton] at hx
      rcases hx with hx | hx
      · exact ha x hx
      · subst hx; exact hd)
    (fun s ⟨i, L, m, hs, hi, hN, hl, ha⟩ => by
      subst hs
      have : i = k := by omega
      subst this
      refine ⟨_, ?_, L, m, rfl, hN, hl, ha⟩
      show law07_NetMost_l1 fuel most (i : Int) 2 (i : Int) L m = _
      unfold law07_NetMost_l1
      rw [hk, decide_eq_false (by omega)]
      rfl)
    k (0, (2, ((k : Int), ([], ([], 0))))) (by omega) ⟨0, [], ([], 0), rfl, by omega, NI.empty (by omega) (by omega), rfl, by simp⟩
  obtain ⟨o, h1, L, m, rfl, h2⟩ := this
  exact ⟨L, m, h1, h2⟩
theorem law07_NetMost_true (most way : Int) (_k0 : OkV (.int .u8) most) (_k1 : OkV (.int .u8) way) : law07_NetMost fuel most way = some true := by
  have hm : 0 ≤ most ∧ most ≤ 255 := _k0
  obtain ⟨a, rfl⟩ : ∃ a : Nat, most = a := ⟨most.toNat, by omega⟩
  have hk : IntKind.wrap .i64 (1 + IntKind.wrap .i64 (Int.tmod (a : Int) 40)) = ((1 + a % 40 : Nat) : Int) := by
    rw [show Int.tmod (a : Int) 40 = ((a % 40 : Nat) : Int) from rfl, w64 (x := ((a % 40 : Nat) : Int)) ⟨by omega, by omega⟩, w64 ⟨by omega, by omega⟩]
    omega
  generalize hkk : 1 + a % 40 = k at hk
  have h1 : 1 ≤ k := by omega
  have h40 : k ≤ 40 := by omega
  obtain ⟨L, m, hloop, hN, hl, ha⟩ := most_loop hk h1 h40
  have c1 : cnt L 1 = k := by rw [cnt_all ha, hl]
  have c0 : cnt L 0 = 0 := cnt_zero ha (by omega)
  unfold law07_NetMost
  rw [hk, new_is, if_pos (by omega)]
  simp only [Option.bind_some, nz0, cond_false]
  rw [hloop]
  simp only [Option.bind_some]
  have e1 : sendE 2 k L 1 1 [] = 5 := by rw [sendE_lay (by omega) (by omega) (by simp), layE_full (by omega)]
  rw [send_com hN, e1]
  simp only [Option.bind_some, show ((5 : Int) = 0) = False from by simp, if_false, nz5, cond_false]
  obtain ⟨hk0, hat⟩ := at_in (L := L) (i := 0) (by omega)
  have hto : L[(0 : Int).toNat].2.1 = 1 := ha _ (List.getElem_mem hk0)
  rw [copy_com hN (in64 (by omega) (by omega)), hat]
  simp only [hto, layE_full (e := k) (L := L) (t := 1) (by omega), Option.bind_some, show ((5 : Int) = 0) = False from by simp, if_false, nz5, cond_false]
  have e2 : sendE 2 k L 1 0 [] = 0 := by rw [sendE_lay (by omega) (by omega) (by simp), layE_ok (by omega) (by omega)]
  have hN2 := hN.send e2
  rw [send_com hN, if_pos e2]
  simp only [Option.bind_some, nz0, cond_false]
  generalize hL2 : L ++ [((1 : Int), ((0 : Int), ([] : List UInt8)))] = L2 at hN2
  generalize incM m 0 = m2 at hN2
  have d1 : cnt L2 1 = k := by rw [← hL2, cnt_snoc, c1, if_neg (by show ¬ (0 : Int) = 1; omega), Nat.add_zero]
  have d0 : cnt L2 0 = 1 := by rw [← hL2, cnt_snoc, c0, if_pos rfl]
  have l2 : L2.length = k + 1 := by rw [← hL2]; simp [hl]
  -- one of three
  have go : ∀ (i : Nat) (hi : i < k), ∃ d : Dat, at? L2 i = some d ∧ d.2.1 = 1 ∧ cnt (L2.eraseIdx ((i : Int)).toNat) 1 = k - 1 ∧ cnt (L2.eraseIdx ((i : Int)).toNat) 0 = 1 := by
    intro i hi
    obtain ⟨hk0, hat⟩ := at_in (L := L2) (i := i) (by omega)
    have hto : L2[((i : Int)).toNat].2.1 = 1 := by
      have : L2[((i : Int)).toNat] = L[i] := by
        subst hL2
        rw [List.getElem_append_left]
        rfl
      rw [this]
      exact ha _ (List.getElem_mem _)
    have q1 := cnt_split hk0 1
    have q0 := cnt_split hk0 0
    rw [hto, if_pos rfl] at q1
    rw [hto, if_neg (by omega)] at q0
    exact ⟨_, hat, hto, by omega, by omega⟩
  have fin : ∀ (w : Nat) (L3 : List Dat) (m3 : NM), NI 2 k L3 m3 → cnt L3 1 = w → w < k → cnt L3 0 = 1 → L3.length ≤ 100 → ((net_Net_Waiting__com fuel 1 2 (k : Int) L3 m3).bind fun r52 =>
          bif (r52.1 == (w : Int)) then
            (net_Net_Waiting__com fuel 0 r52.2.1 r52.2.2.1 r52.2.2.2.1 r52.2.2.2.2).bind fun r53 =>
            bif (r53.1 == 1) then
              (net_Net_Send__com fuel 0 1 [] r53.2.1 r53.2.2.1 r53.2.2.2.1 r53.2.2.2.2).bind fun r54 =>
              match r54 with
              | .inl r55 =>
                bif (r55.1 == 0) then
                  (net_Net_Waiting__com fuel 1 r55.2.1 r55.2.2.1 r55.2.2.2.1 r55.2.2.2.2).bind fun r57 =>
                  bif (r57.1 == (IntKind.wrap .i64 ((w : Int) + 1))) then
                    (law07_awake fuel).bind fun r58 =>
                    some r58
                  else
                    some false
                else
                  some false
              | .inr r56 =>
                bif (r56.1 == 0) then
                  (net_Net_Waiting__com fuel 1 r56.2.1 r56.2.2.1 r56.2.2.2.2 r56.2.2.2.1).bind fun r59 =>
                  bif (r59.1 == (IntKind.wrap .i64 ((w : Int) + 1))) then
                    (law07_awake fuel).bind fun r60 =>
                    some r60
                  else
                    some false
                else
                  some false
            else
              some false
          else
            some false) = some true := by
    intro w L3 m3 h3 hw hwk h0 hl3
    rw [waiting_com h3, hw]
    simp only [Option.bind_some, beq_self_eq_true, cond_true]
    rw [waiting_com h3, h0]
    simp only [Option.bind_some, show (((1 : Nat) : Int) == 1) = true from rfl, cond_true]
    have e3 : sendE 2 k L3 0 1 [] = 0 := by rw [sendE_lay (by omega) (by omega) (by simp), layE_ok (by omega) (by omega)]
    rw [send_com h3, if_pos e3]
    simp only [Option.bind_some, beq_self_eq_true, cond_true]
    rw [waiting_com (h3.send e3), cnt_snoc, if_pos rfl, hw]
    simp only [Option.bind_some]
    rw [w64 (x := (w : Int) + 1) ⟨by omega, by omega⟩, beq_iff_eq.2 (show ((w + 1 : Nat) : Int) = (w : Int) + 1 by omega)]
    simp only [cond_true]
    rw [awake_is]
    rfl
  have hw1 : IntKind.wrap .i64 ((k : Int) - 1) = ((k - 1 : Nat) : Int) := by rw [w64 ⟨by omega, by omega⟩]; omega
  rw [hw1]
  cases h3 : (Int.tmod way 3 == 0) with
  | true =>
    obtain ⟨d, g1, g2, g3, g4⟩ := go 0 (by omega)
    have g1' : at? L2 0 = some d := g1
    simp only [cond_true]
    rw [take_com hN2 (in64 (by omega) (by omega)), g1']
    simp only [Option.bind_some]
    have hN3 := hN2.drop g1'
    exact fin (k - 1) _ _ hN3 g3 (by omega) g4 (by rw [List.length_eraseIdx]; split <;> omega)
  | false =>
    cases h4 : (Int.tmod way 3 == 1) with
    | true =>
      obtain ⟨d, g1, g2, g3, g4⟩ := go (k - 1) (by omega)
      simp only [cond_true, cond_false]
      rw [drop_com hN2 (in64 (by omega) (by omega)), g1]
      simp only [Option.bind_some]
      have hN3 := hN2.drop g1
      exact fin (k - 1) _ _ hN3 g3 (by omega) g4 (by rw [List.length_eraseIdx]; split <;> omega)
    | false =>
      simp only [cond_false]
      rw [forget_com hN2]
      simp only [Option.bind_some]
      have hN3 := hN2.forg 1
      have hf : ∀ u, cnt (forgL L2 1) u = if u = 1 then 0 else cnt L2 u := by
        intro u
        subst hL2
        unfold forgL cnt
        rw [List.countP_filter]
        by_cases hu : u = 1
        · subst hu; rw [if_pos rfl, List.countP_eq_zero]; intro x _; simp
        · rw [if_neg hu]
          congr 1
          funext x
          by_cases hx : x.2.1 = u
          · simp [hx, hu]
          · simp [hx]
      exact fin 0 _ _ hN3 (by rw [hf]; rfl) (by omega) (by rw [hf, if_neg (by omega)]; exact d0) (Nat.le_trans (List.length_filter_le _ _) (by omega))
end Go.Ab.D

/- Layer 7, net: what the document's answer computes. -/
namespace Go.Ab.D
abbrev Bk : Type := List (Dat × Bool)
abbrev Rf : Type := Int × (Int × Bk)
/-- Those that have not gone. -/
def live (B : Bk) : List Dat := (B.filter fun x => !x.2).map (·.1)
theorem live_nil : live [] = [] := rfl
theorem live_snoc (B : Bk) (x : Dat × Bool) : live (B ++ [x]) = live B ++ (bif x.2 then [] else [x.1]) := by
  unfold live
  rw [List.filter_append, List.map_append]
  obtain ⟨d, g⟩ := x
  cases g <;> rfl
theorem live_cons_gone (B : Bk) (d : Dat) : live ((d, true) :: B) = live B := rfl
theorem live_cons (B : Bk) (d : Dat) : live ((d, false) :: B) = d :: live B := rfl
theorem live_le (B : Bk) : (live B).length ≤ B.length := by
  unfold live
  rw [List.length_map]
  exact List.length_filter_le _ _
theorem cnt_cons (d : Dat) (L : List Dat) (t : Int) : cnt (d :: L) t = cnt L t + (if d.2.1 = t then 1 else 0) := by
  unfold cnt
  rw [List.countP_cons]
  simp
section
variable {a b : Int} {B : Bk}
theorem ref_waiting (hB : B.length ≤ 1000000) (t : Int) : ref07_Net_Waiting fuel (a, (b, B)) t = some ((cnt (live B) t : Nat) : Int) := by
  unfold ref07_Net_Waiting ref07_Net_Waiting_l0_it
  have := iter_range (f := fun (tt : Int × (Int × (Int × (Int × Bk)))) => ref07_Net_Waiting_l0 fuel t tt.1 tt.2.1 tt.2.2.1 tt.2.2.2.1 tt.2.2.2.2) (o := ((cnt (live B) t : Nat) : Int))
    (fun k => (((cnt (live (B.take k)) t : Nat) : Int), ((k : Int), (a, (b, B))))) B.length (by omega) (fun k hk => by
      show ref07_Net_Waiting_l0 fuel t ((cnt (live (B.take k)) t : Nat) : Int) (k : Int) a b B = _
      have hc := cnt_le (live (B.take k)) t
      have hl := live_le (B.take k)
      have hl2 : (B.take k).length ≤ B.length := by simp; omega
      unfold ref07_Net_Waiting_l0
      rw [decide_eq_true (by omega), idx_nat hk, List.take_succ_eq_append_getElem hk, live_snoc]
      simp only [cond_true, Option.bind_some, List.getElem?_eq_getElem hk]
      rw [w64 (x := (k : Int) + 1) ⟨by omega, by omega⟩]
      cases hg : B[k].2 with
      | true => simp only [Bool.not_true, cond_false, cond_true, Option.bind_some, List.append_nil]; rfl
      | false =>
        simp only [Bool.not_false, cond_false, cond_true, Option.bind_some]
        rw [cnt_snoc]
        by_cases ht : B[k].1.2.1 = t
        · rw [beq_iff_eq.2 ht, if_pos ht, w64 ⟨by omega, by omega⟩]
          simp only [cond_true, Option.bind_some]
          rfl
        · rw [beq_eq_false_iff_ne.2 ht, if_neg ht]
          rfl) (by
      show ref07_Net_Waiting_l0 fuel t ((cnt (live (B.take B.length)) t : Nat) : Int) (B.length : Int) a b B = _
      unfold ref07_Net_Waiting_l0
      rw [decide_eq_false (by omega), List.take_length]
      rfl)
  have this2 : iter fuel (fun (tt : Int × (Int × (Int × (Int × Bk)))) => ref07_Net_Waiting_l0 fuel t tt.1 tt.2.1 tt.2.2.1 tt.2.2.2.1 tt.2.2.2.2) (0, (0, (a, (b, B)))) = _ := this
  rw [this2]
  rfl
def sumC (L : List Dat) : Nat → Nat
  | 0 => 0
  | n + 1 => sumC L n + cnt L (n : Int)
theorem sumC_nil : ∀ n, sumC [] n = 0
  | 0 => rfl
  | n + 1 => by show sumC [] n + 0 = 0; rw [sumC_nil n]
theorem sumC_cons (d : Dat) (L : List Dat) : ∀ n : Nat, sumC (d :: L) n = sumC L n + (if 0 ≤ d.2.1 ∧ d.2.1 < n then 1 else 0)
  | 0 => by
    rw [if_neg (by omega)]; rfl
  | n + 1 => by
    show sumC (d :: L) n + cnt (d :: L) n = sumC L n + cnt L n + _
    rw [sumC_cons d L n, cnt_cons]
    by_cases h : d.2.1 = (n : Int)
    · rw [if_pos h, if_neg (by omega), if_pos (by omega)]; omega
    · rw [if_neg h]
      by_cases h2 : 0 ≤ d.2.1 ∧ d.2.1 < n
      · rw [if_pos h2, if_pos (by omega)]; omega
      · rw [if_neg h2, if_neg (by omega)]; omega
theorem sumC_all : ∀ (L : List Dat) (n : Nat), (∀ d ∈ L, 0 ≤ d.2.1 ∧ d.2.1 < n) → sumC L n = L.length
  | [], n, _ => sumC_nil n
  | d :: L, n, h => by
    rw [sumC_cons, sumC_all L n (fun x hx => h x (List.mem_cons_of_mem _ hx)), if_pos (h d List.mem_cons_self)]
    rfl
theorem sumC_le : ∀ (L : List Dat) (n : Nat), sumC L n ≤ L.length
  | [], n => by rw [sumC_nil]; exact Nat.zero_le _
  | d :: L, n => by
    rw [sumC_cons]
    have := sumC_le L n
    simp only [List.length_cons]
    split <;> omega
theorem ref_flying (hB : B.length ≤ 1000000) (ha : 0 ≤ a ∧ a ≤ 300) (ho : ∀ d ∈ live B, 0 ≤ d.2.1 ∧ d.2.1 < a) : ref07_Net_Flying fuel (a, (b, B)) = some (((live B).length : Nat) : Int) := by
  unfold ref07_Net_Flying ref07_Net_Flying_l0_it
  obtain ⟨n, rfl⟩ : ∃ n : Nat, a = n := ⟨a.toNat, by omega⟩
  have := iter_range (f := fun (tt : Int × (Int × (Int × (Int × Bk)))) => ref07_Net_Flying_l0 fuel tt.1 tt.2.1 tt.2.2.1 tt.2.2.2.1 tt.2.2.2.2) (o := (((live B).length : Nat) : Int))
    (fun k => (((sumC (live B) k : Nat) : Int), ((k : Int), ((n : Int), (b, B))))) n (by omega) (fun k hk => by
      show ref07_Net_Flying_l0 fuel ((sumC (live B) k : Nat) : Int) (k : Int) (n : Int) b B = _
      have h1 := sumC_le (live B) (k + 1)
      have h2 := live_le B
      unfold ref07_Net_Flying_l0
      rw [decide_eq_true (by omega), cond_true, ref_waiting hB]
      simp only [Option.bind_some]
      have h3 : sumC (live B) (k + 1) = sumC (live B) k + cnt (live B) (k : Int) := rfl
      rw [w64 ⟨by omega, by omega⟩, w64 ⟨by omega, by omega⟩, h3]
      rfl) (by
      show ref07_Net_Flying_l0 fuel ((sumC (live B) n : Nat) : Int) (n : Int) (n : Int) b B = _
      unfold ref07_Net_Flying_l0
      rw [decide_eq_false (by omega), sumC_all _ _ ho]
      rfl)
  have this2 : iter fuel (fun (tt : Int × (Int × (Int × (Int × Bk)))) => ref07_Net_Flying_l0 fuel tt.1 tt.2.1 tt.2.2.1 tt.2.2.2.1 tt.2.2.2.2) (0, (0, ((n : Int), (b, B)))) = _ := this
  rw [this2]
  rfl
/-- Where the i-th that has not gone stands. -/
def posL : Bk → Nat → Option Nat
  | [], _ => none
  | (_, true) :: B, i => (posL B i).map (· + 1)
  | (_, false) :: _, 0 => some 0
  | (_, false) :: B, i + 1 => (posL B i).map (· + 1)
theorem posL_none : ∀ {B : Bk} {i : Nat}, posL B i = none → (live B).length ≤ i
  | [], i, _ => Nat.zero_le _
  | (d, true) :: B, i, h => by
    have h' : (posL B i).map (· + 1) = none := h
    rw [live_cons_gone]
    exact posL_none (Option.map_eq_none_iff.1 h')
  | (d, false) :: B, 0, h => by cases h
  | (d, false) :: B, i + 1, h => by
    have h' : (posL B i).map (· + 1) = none := h
    rw [live_cons]
    have := posL_none (Option.map_eq_none_iff.1 h')
    simp only [List.length_cons]
    omega
theorem posL_some : ∀ {B : Bk} {i k : Nat}, posL B i = some k → ∃ d, B[k]? = some (d, false) ∧ (live B)[i]? = some d ∧ live (B.set k (d, true)) = (live B).eraseIdx i
  | [], i, k, h => by cases h
  | (d, true) :: B, i, k, h => by
    have h' : (posL B i).map (· + 1) = some k := h
    obtain ⟨j, hj, rfl⟩ := Option.map_eq_some_iff.1 h'
    obtain ⟨x, h1, h2, h3⟩ := posL_some hj
    refine ⟨x, by simpa using h1, h2, ?_⟩
    rw [List.set_cons_succ, live_cons_gone, live_cons_gone]
    exact h3
  | (d, false) :: B, 0, k, h => by
    have h' : some 0 = some k := h
    cases h'
    exact ⟨d, rfl, rfl, rfl⟩
  | (d, false) :: B, i + 1, k, h => by
    have h' : (posL B i).map (· + 1) = some k := h
    obtain ⟨j, hj, rfl⟩ := Option.map_eq_some_iff.1 h'
    obtain ⟨x, h1, h2, h3⟩ := posL_some hj
    refine ⟨x, by simpa using h1, by rw [live_cons]; simpa using h2, ?_⟩
    rw [List.set_cons_succ, live_cons, live_cons, List.eraseIdx_cons_succ, h3]
theorem posL_lt {B : Bk} {i k : Nat} (h : posL B i = some k) : k < B.length := by
  obtain ⟨d, h1, _⟩ := posL_some h
  exact (List.getElem?_eq_some_iff.1 h1).1
def place (B : Bk) (i : Int) : Option Nat := if 0 ≤ i then posL B i.toNat else none
theorem ref_place (hB : B.length ≤ 1000000) {i : Int} (hi : In64 i) : ref07_Net_place fuel (a, (b, B)) i = some (match place B i with | some k => (k : Int) | none => -1) := by
  unfold ref07_Net_place ref07_Net_place_l0_it
  have hi' : -9223372036854775808 ≤ i ∧ i ≤ 9223372036854775807 := hi
  by_cases h0 : 0 ≤ i
  · obtain ⟨j, rfl⟩ : ∃ j : Nat, i = j := ⟨i.toNat, by omega⟩
    have hp : place B (j : Int) = posL B j := by unfold place; rw [if_pos h0]; rfl
    rw [hp]
    have := iter_ex (f := fun (tt : Int × (Int × (Int × (Int × Bk)))) => ref07_Net_place_l0 fuel tt.1 tt.2.1 tt.2.2.1 tt.2.2.2.1 tt.2.2.2.2)
      (fun n s => ∃ (r k : Nat), s = ((r : Int), ((k : Int), (a, (b, B)))) ∧ k + n = B.length ∧ r ≤ j ∧ (posL (B.drop k) r).map (· + k) = posL B j)
      (fun o => o = match posL B j with | some k => .inr (k : Int) | none => .inl ())
      (fun n s ⟨r, k, hs, hk, hr, hq⟩ => by
        subst hs
        show (∃ s', ref07_Net_place_l0 fuel (r : Int) (k : Int) a b B = _ ∧ _) ∨ ∃ o, ref07_Net_place_l0 fuel (r : Int) (k : Int) a b B = _ ∧ _
        have hk' : k < B.length := by omega
        rw [List.drop_eq_getElem_cons hk'] at hq
        unfold ref07_Net_place_l0
        rw [decide_eq_true (show (k : Int) < (B.length : Int) by omega), decide_eq_true (show (r : Int) ≥ 0 by omega)]
        simp only [cond_true, Option.bind_some]
        rw [idx_nat hk']
        simp only [Option.bind_some, List.getElem?_eq_getElem hk']
        rw [w64 (x := (k : Int) + 1) ⟨by omega, by omega⟩]
        generalize hx : B[k] = x at hq ⊢
        obtain ⟨d, g⟩ := x
        cases g with
        | true =>
          left
          simp only [cond_true]
          refine ⟨_, rfl, r, k + 1, by show ((r : Int), _) = _; congr 2, by omega, hr, ?_⟩
          rw [← hq]
          show _ = ((posL (B.drop (k + 1)) r).map (· + 1)).map (· + k)
          rw [Option.map_map]
          congr 1
          funext z
          show z + (k + 1) = z + 1 + k
          omega
        | false =>
          cases r with
          | zero =>
            right
            rw [show (((0 : Nat) : Int) == 0) = true from rfl]
            simp only [cond_true, cond_false]
            refine ⟨_, rfl, ?_⟩
            have : posL B j = some k := by
              rw [← hq]
              show some (0 + k) = _
              rw [Nat.zero_add]
            rw [this]
          | succ r =>
            left
            rw [beq_eq_false_iff_ne.2 (show ((r + 1 : Nat) : Int) ≠ 0 by omega), w64 ⟨by omega, by omega⟩]
            simp only [cond_false]
            refine ⟨_, rfl, r, k + 1, by show ((((r + 1 : Nat) : Int) - 1), _) = _; rw [show ((r + 1 : Nat) : Int) - 1 = r by omega]; congr 2, by omega, by omega, ?_⟩
            rw [← hq]
            show _ = ((posL (B.drop (k + 1)) r).map (· + 1)).map (· + k)
            rw [Option.map_map]
            congr 1
            funext z
            show z + (k + 1) = z + 1 + k
            omega)
      (fun s ⟨r, k, hs, hk, hr, hq⟩ => by
        subst hs
        have : k = B.length := by omega
        subst this
        refine ⟨_, ?_, rfl⟩
        show ref07_Net_place_l0 fuel (r : Int) (B.length : Int) a b B = _
        rw [List.drop_length] at hq
        have hn : posL B j = none := by rw [← hq]; rfl
        rw [hn]
        unfold ref07_Net_place_l0
        rw [decide_eq_false (by omega)]
        rfl)
      B.length ((j : Int), (0, (a, (b, B)))) (by omega) ⟨j, 0, rfl, by omega, Nat.le_refl _, by rw [List.drop_zero]; show (posL B j).map (fun z => z + 0) = _; simp⟩
    obtain ⟨o, h1, h2⟩ := this
    rw [h1, h2]
    cases posL B j <;> rfl
  · have hp : place B i = none := by unfold place; rw [if_neg h0]
    rw [hp]
    obtain ⟨m, hm⟩ := fuelS 0 (by omega)
    have : iter fuel (fun (tt : Int × (Int × (Int × (Int × Bk)))) => ref07_Net_place_l0 fuel tt.1 tt.2.1 tt.2.2.1 tt.2.2.2.1 tt.2.2.2.2) (i, (0, (a, (b, B)))) = some (.inl ()) := by
      rw [hm]
      refine iter_inr ?_
      show ref07_Net_place_l0 fuel i 0 a b B = _
      unfold ref07_Net_place_l0
      have : decide (i ≥ 0) = false := decide_eq_false h0
      rw [this]
      by_cases hl : (0 : Int) < (B.length : Nat)
      · rw [decide_eq_true hl]; rfl
      · rw [decide_eq_false hl]; rfl
    rw [this]
    rfl
theorem place_at {i : Int} : (match place B i with | some k => ∃ d, B[k]? = some (d, false) ∧ at? (live B) i = some d ∧ live (B.set k (d, true)) = (live B).eraseIdx i.toNat | none => at? (live B) i = none) := by
  unfold place at?
  by_cases h0 : 0 ≤ i
  · rw [if_pos h0, if_pos h0]
    cases hp : posL B i.toNat with
    | none => exact List.getElem?_eq_none (posL_none hp)
    | some k => exact posL_some hp
  · rw [if_neg h0, if_neg h0]
theorem ref_look (hB : B.length ≤ 1000000) {i : Int} (hi : In64 i) : ref07_Net_Look fuel (a, (b, B)) i = some (match at? (live B) i with | some d => (d.1, (d.2.1, (d.2.2, true))) | none => (0, (0, ([], false)))) := by
  unfold ref07_Net_Look
  rw [ref_place hB hi]
  simp only [Option.bind_some]
  have hp := place_at (B := B) (i := i)
  cases h : place B i with
  | none =>
    rw [h] at hp
    simp only at hp
    rw [hp]
    rfl
  | some k =>
    rw [h] at hp
    obtain ⟨d, h1, h2, _⟩ := hp
    rw [h2]
    have hk := (List.getElem?_eq_some_iff.1 h1).1
    dsimp only
    rw [decide_eq_false (by omega), cond_false, idx_nat hk]
    simp only [Option.bind_some, h1]
end
end Go.Ab.D

/- Layer 7, net: what the document's answer makes of a heap. -/
namespace Go.Ab.D
section
variable {s e : Int} {B : Bk} {m : NM}
theorem writel_is (B : Bk) (hB : B.length ≤ 1000000) (a b : Int) (x y : Int) (z : List UInt8) (p q : Int) :
    ref07_Net_write_l0_it fuel (0, (a, (b, (B, (x, (y, (z, (p, (q, List.replicate (B.length + 1) ((0, (0, [])), false)))))))))) = some (a, (b, (B, (x, (y, (z, (p, (q, B ++ [((0, (0, [])), false)])))))))) := by
  unfold ref07_Net_write_l0_it
  let S : Nat → Int × (Int × (Int × (Bk × (Int × (Int × (List UInt8 × (Int × (Int × Bk)))))))) := fun k => ((k : Int), (a, (b, (B, (x, (y, (z, (p, (q, B.take k ++ List.replicate (B.length + 1 - k) ((0, (0, [])), false))))))))))
  have := iter_range (f := fun (tt : Int × (Int × (Int × (Bk × (Int × (Int × (List UInt8 × (Int × (Int × Bk))))))))) => ref07_Net_write_l0 fuel tt.1 tt.2.1 tt.2.2.1 tt.2.2.2.1 tt.2.2.2.2.1 tt.2.2.2.2.2.1 tt.2.2.2.2.2.2.1 tt.2.2.2.2.2.2.2.1 tt.2.2.2.2.2.2.2.2.1 tt.2.2.2.2.2.2.2.2.2) (o := (a, (b, (B, (x, (y, (z, (p, (q, B ++ [((0, (0, [])), false)])))))))))
    S B.length (by omega) (fun k hk => by
      show ref07_Net_write_l0 fuel (k : Int) a b B x y z p q (B.take k ++ List.replicate (B.length + 1 - k) ((0, (0, [])), false)) = _
      have hl : (B.take k ++ List.replicate (B.length + 1 - k) (((0 : Int), ((0 : Int), ([] : List UInt8))), false)).length = B.length + 1 := by simp; omega
      have hg : ∃ v, (B.take k ++ List.replicate (B.length + 1 - k) (((0 : Int), ((0 : Int), ([] : List UInt8))), false))[k]? = some v := ⟨_, List.getElem?_eq_getElem (by omega)⟩
      obtain ⟨v, hv⟩ := hg
      unfold ref07_Net_write_l0
      rw [hl, decide_eq_true (by omega), idx_nat hk, idx_nat (by omega)]
      simp only [cond_true, Option.bind_some, List.getElem?_eq_getElem hk, hv]
      rw [w64 ⟨by omega, by omega⟩]
      have e1 : (B.take k ++ List.replicate (B.length + 1 - k) (((0 : Int), ((0 : Int), ([] : List UInt8))), false)).set k B[k] = B.take (k + 1) ++ List.replicate (B.length + 1 - (k + 1)) (((0 : Int), ((0 : Int), ([] : List UInt8))), false) := by
        rw [List.set_append_right _ _ (by simp; omega)]
        have : k - (B.take k).length = 0 := by simp; omega
        rw [this, show B.length + 1 - k = (B.length + 1 - (k + 1)) + 1 by omega, List.replicate_succ, List.set_cons_zero, List.take_succ_eq_append_getElem hk, List.append_assoc]
        rfl
      rw [e1]
      rfl) (by
      show ref07_Net_write_l0 fuel (B.length : Int) a b B x y z p q (B.take B.length ++ List.replicate (B.length + 1 - B.length) ((0, (0, [])), false)) = _
      unfold ref07_Net_write_l0
      rw [decide_eq_false (by omega), List.take_length, show B.length + 1 - B.length = 1 by omega]
      rfl)
  have hS : S 0 = (0, (a, (b, (B, (x, (y, (z, (p, (q, List.replicate (B.length + 1) ((0, (0, [])), false)))))))))) := rfl
  rw [hS] at this
  exact this
/-- A book that tells a heap. -/
structure RI (s e : Int) (B : Bk) (m : NM) : Prop where
  h : NI s e (live B) m
  b : B.length ≤ 100000
theorem RI.w (h : RI s e B m) : B.length ≤ 1000000 := by have := h.b; omega
theorem RI.fl (h : RI s e B m) : ref07_Net_Flying fuel (s, (e, B)) = some (((live B).length : Nat) : Int) := ref_flying h.w ⟨by have := h.h.s1; omega, h.h.s1.2⟩ fun d hd => (h.h.o d hd).2
theorem write_is (h : RI s e B m) {d : Dat} (hd : d.2.2.length ≤ 131072) : ref07_Net_write fuel (s, (e, B)) d = some (if layE e (live B) d.2.1 = 0 then (s, (e, (B ++ [(d, false)], 0))) else (s, (e, (B, 5)))) := by
  have hq := h.h.q d.2.1
  have hl := h.h.l
  have hb := h.b
  unfold ref07_Net_write
  rw [ref_waiting h.w]
  simp only [Option.bind_some]
  have fin5 : ∀ (x : Bool), x = true → layE e (live B) d.2.1 = 5 → True := fun _ _ _ => trivial
  by_cases h1 : (cnt (live B) d.2.1 : Int) = e
  · have : decide (((cnt (live B) d.2.1 : Nat) : Int) ≥ e) = true := decide_eq_true (by omega)
    rw [this, layE_full h1]
    rfl
  · have : decide (((cnt (live B) d.2.1 : Nat) : Int) ≥ e) = false := decide_eq_false (by omega)
    rw [this, cond_false, h.fl]
    simp only [Option.bind_some]
    by_cases h2 : (live B).length = 10000
    · have : decide ((((live B).length : Nat) : Int) ≥ 10000) = true := decide_eq_true (by omega)
      rw [this]
      have : layE e (live B) d.2.1 = 5 := if_pos (.inr h2)
      rw [this]
      rfl
    · have : decide ((((live B).length : Nat) : Int) ≥ 10000) = false := decide_eq_false (by omega)
      rw [this, cond_false, layE_ok h1 h2, if_pos rfl]
      rw [w64 ⟨by omega, by omega⟩, upto_int (by omega) (by rw [roomIs]; omega)]
      simp only [Option.bind_some]
      have e1 : ((B.length : Int) + 1).toNat = B.length + 1 := by omega
      rw [e1, upto_int (by omega) (by omega), e1]
      simp only [Option.bind_some]
      rw [need_true (ble_true (by rw [roomIs]; omega)), writel_is B h.w]
      simp only [Option.bind_some]
      rw [need_true (ble_true (by rw [roomIs]; omega)), idx_nat (by simp)]
      simp only [Option.bind_some]
      have e2 : (B ++ [(((0 : Int), ((0 : Int), ([] : List UInt8))), false)])[B.length]? = some ((0, (0, [])), false) := by simp
      have e3 : (B ++ [(((0 : Int), ((0 : Int), ([] : List UInt8))), false)]).set B.length ((d.1, (d.2.1, d.2.2)), false) = B ++ [(d, false)] := by simp
      rw [e2]
      simp only [Option.bind_some]
      rw [e3]
theorem refSend_is (h : RI s e B m) (f t : Int) {b : List UInt8} : ref07_Net_Send fuel (s, (e, B)) f t b = some (if sendE s e (live B) f t b = 0 then (s, (e, (B ++ [((f, (t, b)), false)], 0))) else (s, (e, (B, sendE s e (live B) f t b)))) := by
  unfold ref07_Net_Send sendE
  have g : (bif decide (f < 0) then some (true, (s, (e, (B, ((0 : Int), (0 : Int)))))) else bif decide (t < 0) then some (true, (s, (e, (B, (0, 0))))) else bif decide (f ≥ s) then some (true, (s, (e, (B, (0, 0))))) else some ((decide (t ≥ s)), (s, (e, (B, (0, 0)))))) = some (decide (f < 0 ∨ s ≤ f ∨ t < 0 ∨ s ≤ t), (s, (e, (B, (0, 0))))) := by
    by_cases hD : f < 0 ∨ s ≤ f ∨ t < 0 ∨ s ≤ t
    · rw [decide_eq_true hD]
      by_cases h1 : f < 0
      · rw [decide_eq_true h1]; rfl
      · by_cases h2 : t < 0
        · rw [decide_eq_false h1, decide_eq_true h2]; rfl
        · by_cases h3 : f ≥ s
          · rw [decide_eq_false h1, decide_eq_false h2, decide_eq_true h3]; rfl
          · have h4 : t ≥ s := by omega
            rw [decide_eq_false h1, decide_eq_false h2, decide_eq_false h3, decide_eq_true h4]; rfl
    · have h1 : ¬ f < 0 := by omega
      have h2 : ¬ t < 0 := by omega
      have h3 : ¬ f ≥ s := by omega
      have h4 : ¬ t ≥ s := by omega
      rw [decide_eq_false hD, decide_eq_false h1, decide_eq_false h2, decide_eq_false h3, decide_eq_false h4]; rfl
  dsimp only
  rw [g]
  simp only [Option.bind_some]
  by_cases h1 : f < 0 ∨ s ≤ f ∨ t < 0 ∨ s ≤ t
  · rw [decide_eq_true h1, if_pos h1]; rfl
  · rw [decide_eq_false h1, if_neg h1]
    by_cases h2 : 131072 < b.length
    · rw [if_pos h2]
      have : decide (((b.length : Nat) : Int) > 131072) = true := decide_eq_true (by omega)
      rw [this]
      rfl
    · rw [if_neg h2]
      have : decide (((b.length : Nat) : Int) > 131072) = false := decide_eq_false (by omega)
      rw [this, cond_false, cond_false, write_is h (d := (f, (t, b))) (by show b.length ≤ _; omega)]
      rcases layE_or (e := e) (L := live B) t with ⟨h3, _⟩ | ⟨h3, _⟩
      · simp only [Option.bind_some, h3]; first | done | rfl
      · simp only [Option.bind_some, h3]; first | done | rfl
theorem refCopy_is (h : RI s e B m) {i : Int} (hi : In64 i) : ref07_Net_Copy fuel (s, (e, B)) i = some (match at? (live B) i with | some d => (if layE e (live B) d.2.1 = 0 then (s, (e, (B ++ [(d, false)], 0))) else (s, (e, (B, 5)))) | none => (s, (e, (B, 2)))) := by
  unfold ref07_Net_Copy
  rw [ref_look h.w hi]
  simp only [Option.bind_some]
  cases ha : at? (live B) i with
  | none => rfl
  | some d =>
    obtain ⟨hk, h0, h1, h2⟩ := at_some ha
    have hb := h.h.b _ (List.getElem_mem hk)
    rw [h2] at hb
    simp only [Bool.not_true, cond_false]
    rw [write_is h (d := (d.1, (d.2.1, d.2.2))) hb]
    rcases layE_or (e := e) (L := live B) d.2.1 with ⟨h3, _⟩ | ⟨h3, _⟩
    · simp only [Option.bind_some, h3]; first | done | rfl
    · simp only [Option.bind_some, h3]; first | done | rfl
theorem refDrop_is (h : RI s e B m) {i : Int} (hi : In64 i) : ∃ B', ref07_Net_Drop fuel (s, (e, B)) i = some (s, (e, (B', (at? (live B) i).isSome))) ∧ B'.length = B.length ∧ live B' = (match at? (live B) i with | some _ => (live B).eraseIdx i.toNat | none => live B) := by
  have hb := h.b
  unfold ref07_Net_Drop
  rw [ref_place h.w hi]
  simp only [Option.bind_some]
  have hp := place_at (B := B) (i := i)
  cases hq : place B i with
  | none =>
    rw [hq] at hp
    simp only at hp
    rw [hp]
    exact ⟨B, rfl, rfl, rfl⟩
  | some k =>
    rw [hq] at hp
    obtain ⟨d, h1, h2, h3⟩ := hp
    rw [h2]
    have hk := (List.getElem?_eq_some_iff.1 h1).1
    refine ⟨B.set k (d, true), ?_, by simp, h3⟩
    dsimp only
    rw [decide_eq_false (by omega), cond_false, need_true (by rw [Bool.and_eq_true]; exact ⟨ble_true (by rw [roomIs]; omega), ble_true (by rw [roomIs]; omega)⟩), idx_nat hk]
    simp only [Option.bind_some, h1]
    rfl
theorem forgetl_is (B : Bk) (hB : B.length ≤ 1000000) (t a b p q : Int) : ref07_Net_Forget_l0_it fuel t (0, (a, (b, (B, (p, (q, B)))))) = some (a, (b, (B, (p, (q, B.map fun x => (x.1, x.2 || x.1.2.1 == t)))))) := by
  unfold ref07_Net_Forget_l0_it
  let F : Dat × Bool → Dat × Bool := fun x => (x.1, x.2 || x.1.2.1 == t)
  let S : Nat → Int × (Int × (Int × (Bk × (Int × (Int × Bk))))) := fun k => ((k : Int), (a, (b, (B, (p, (q, (B.take k).map F ++ B.drop k))))))
  have := iter_range (f := fun (tt : Int × (Int × (Int × (Bk × (Int × (Int × Bk)))))) => ref07_Net_Forget_l0 fuel t tt.1 tt.2.1 tt.2.2.1 tt.2.2.2.1 tt.2.2.2.2.1 tt.2.2.2.2.2.1 tt.2.2.2.2.2.2) (o := (a, (b, (B, (p, (q, B.map F))))))
    S B.length (by omega) (fun k hk => by
      show ref07_Net_Forget_l0 fuel t (k : Int) a b B p q ((B.take k).map F ++ B.drop k) = _
      have hl : ((B.take k).map F ++ B.drop k).length = B.length := by simp; omega
      have hv : ((B.take k).map F ++ B.drop k)[k]? = some B[k] := by
        rw [List.getElem?_append_right (by simp; omega)]
        have : k - ((B.take k).map F).length = 0 := by simp; omega
        rw [this, List.drop_eq_getElem_cons hk]
        rfl
      have hs : ((B.take k).map F ++ B.drop k).set k (F B[k]) = (B.take (k + 1)).map F ++ B.drop (k + 1) := by
        rw [List.set_append_right _ _ (by simp; omega)]
        have : k - ((B.take k).map F).length = 0 := by simp; omega
        rw [this, List.drop_eq_getElem_cons hk, List.set_cons_zero, List.take_succ_eq_append_getElem hk, List.map_append, List.append_assoc]
        rfl
      unfold ref07_Net_Forget_l0
      rw [hl, decide_eq_true (by omega), idx_nat hk]
      simp only [cond_true, Option.bind_some, hv]
      rw [w64 (x := (k : Int) + 1) ⟨by omega, by omega⟩]
      cases hg : B[k].2 with
      | true =>
        simp only [cond_true, Option.bind_some]
        have : (B[k].1, true) = F B[k] := by show _ = (B[k].1, B[k].2 || _); rw [hg]; rfl
        rw [this, hs]
        rfl
      | false =>
        simp only [cond_false, Option.bind_some]
        have : (B[k].1, B[k].1.2.1 == t) = F B[k] := by show _ = (B[k].1, B[k].2 || _); rw [hg]; rfl
        rw [this, hs]
        rfl) (by
      show ref07_Net_Forget_l0 fuel t (B.length : Int) a b B p q ((B.take B.length).map F ++ B.drop B.length) = _
      rw [List.take_length, List.drop_length, List.append_nil]
      unfold ref07_Net_Forget_l0
      rw [List.length_map, decide_eq_false (by omega)]
      rfl)
  have hS : S 0 = (0, (a, (b, (B, (p, (q, B)))))) := rfl
  rw [hS] at this
  exact this
theorem live_forg (t : Int) : ∀ B : Bk, live (B.map fun x => (x.1, x.2 || x.1.2.1 == t)) = forgL (live B) t
  | [] => rfl
  | (d, true) :: B => by
    show live ((d, true) :: _) = _
    rw [live_cons_gone, live_cons_gone]
    exact live_forg t B
  | (d, false) :: B => by
    show live ((d, d.2.1 == t) :: _) = _
    rw [live_cons]
    cases h : (d.2.1 == t) with
    | true =>
      rw [live_cons_gone]
      have : forgL (d :: live B) t = forgL (live B) t := by unfold forgL; simp [h]
      rw [this]
      exact live_forg t B
    | false =>
      rw [live_cons]
      have : forgL (d :: live B) t = d :: forgL (live B) t := by unfold forgL; simp [h]
      rw [this, ← live_forg t B]
theorem refForget_is (h : RI s e B m) (t : Int) : ref07_Net_Forget fuel (s, (e, B)) t = some (s, (e, (((cnt (live B) t : Nat) : Int), B.map fun x => (x.1, x.2 || x.1.2.1 == t)))) := by
  have hb := h.b
  unfold ref07_Net_Forget
  rw [ref_waiting h.w]
  simp only [Option.bind_some]
  rw [need_true (by rw [Bool.and_eq_true]; exact ⟨ble_true (by rw [roomIs]; omega), ble_true (by rw [roomIs]; omega)⟩), forgetl_is B h.w]
  rfl
end
end Go.Ab.D

/- Layer 7, NetTells. -/
namespace Go.Ab.D
abbrev T7 : Type := Int × (Int × (List Dat × (NM × (Int × (Int × Bk)))))
section
variable {s e : Int} {B : Bk} {m : NM}
theorem heaped_is (h : RI s e B m) : law07_heaped__com fuel (s, (e, B)) s e (live B) m = some (true, (s, (e, (live B, m)))) := by
  have hl := h.h.l
  unfold law07_heaped__com
  rw [flying_com]
  simp only [Option.bind_some]
  rw [h.fl]
  simp only [Option.bind_some, beq_self_eq_true, Bool.not_true, cond_false]
  have e1 : law07_heaped__com_l0_it fuel (0, (s, (e, (live B, (m, (s, (e, B))))))) = some (.inl (s, (e, (live B, m)))) := by
    unfold law07_heaped__com_l0_it
    have := iter_range (f := fun (tt : Int × (Int × (Int × (List Dat × (NM × (Int × (Int × Bk))))))) => law07_heaped__com_l0 fuel tt.1 tt.2.1 tt.2.2.1 tt.2.2.2.1 tt.2.2.2.2.1 tt.2.2.2.2.2.1 tt.2.2.2.2.2.2.1 tt.2.2.2.2.2.2.2) (o := .inl (s, (e, (live B, m))))
      (fun k => ((k : Int), (s, (e, (live B, (m, (s, (e, B)))))))) ((live B).length + 1) (by omega) (fun k hk => by
        show law07_heaped__com_l0 fuel (k : Int) s e (live B) m s e B = _
        unfold law07_heaped__com_l0
        rw [flying_com]
        simp only [Option.bind_some]
        rw [decide_eq_true (by omega), cond_true, look_com h.h ⟨by omega, by omega⟩]
        have e0 : (if (0 : Int) ≤ (k : Int) then (live B)[((k : Int)).toNat]? else none) = at? (live B) k := rfl
        rw [e0]
        simp only [Option.bind_some]
        rw [ref_look h.w ⟨by omega, by omega⟩]
        simp only [Option.bind_some]
        rw [w64 ⟨by omega, by omega⟩]
        cases at? (live B) (k : Int) with
        | none =>
          simp only [beq_self_eq_true, Bool.not_true, cond_false]
          rw [like_is]
          rfl
        | some d =>
          simp only [beq_self_eq_true, Bool.not_true, cond_false]
          rw [like_is, decide_eq_true rfl]
          rfl) (by
        show law07_heaped__com_l0 fuel ((((live B).length + 1 : Nat)) : Int) s e (live B) m s e B = _
        unfold law07_heaped__com_l0
        rw [flying_com]
        simp only [Option.bind_some]
        rw [decide_eq_false (by omega)]
        rfl)
    exact this
  rw [e1]
  rfl
theorem tells_step {l : List (UInt8 × (Int × (Int × (Int × List UInt8))))} {i : Nat} (hi : i < l.length) (h70 : i < 70) (hok : In64 l[i].2.1 ∧ In64 l[i].2.2.1 ∧ In64 l[i].2.2.2.1) {r2 : Int × (Int × (Int × NM))} (hr : r2.1 = 0)
    (hR : RI s e B m) (hb : B.length ≤ i) :
    ∃ (B' : Bk) (m' : NM), law07_NetTells_l1 fuel l r2 (i : Int) s e (live B) m s e B = some (.inl (((i + 1 : Nat) : Int), (s, (e, (live B', (m', (s, (e, B')))))))) ∧ RI s e B' m' ∧ B'.length ≤ i + 1 := by
  unfold law07_NetTells_l1
  rw [decide_eq_true (show (i : Int) < ((l.length : Nat) : Int) by omega), decide_eq_true (show (i : Int) < 70 by omega), hr]
  simp only [cond_true, Option.bind_some, beq_self_eq_true]
  rw [idx_nat hi, w64 (x := (i : Int) + 1) ⟨by omega, by omega⟩]
  simp only [Option.bind_some, List.getElem?_eq_getElem hi]
  generalize l[i] = x at hok ⊢
  obtain ⟨c, f, t, a, b⟩ := x
  obtain ⟨hf, ht, ha⟩ := hok
  simp only at hf ht ha
  by_cases h200 : 200 < b.length
  · have : decide (((b.length : Nat) : Int) > 200) = true := decide_eq_true (by omega)
    simp only [this, cond_true, Option.bind_some]
    exact ⟨B, m, rfl, hR, by omega⟩
  have : decide (((b.length : Nat) : Int) > 200) = false := decide_eq_false (by omega)
  simp only [this, cond_false]
  refine bind_ex (fun o : Option ((Int × T7) ⊕ (Unit ⊕ Bool)) => ∃ B' m', o = some (.inl (((i + 1 : Nat) : Int), (s, (e, (live B', (m', (s, (e, B')))))))) ∧ RI s e B' m' ∧ B'.length ≤ i + 1)
    (fun v : T7 ⊕ ((Int × T7) ⊕ (Unit ⊕ Bool)) => ∃ B' m', v = .inl (s, (e, (live B', (m', (s, (e, B')))))) ∧ RI s e B' m' ∧ B'.length ≤ i + 1) ?_ (by
      rintro _ ⟨B', m', rfl, h1, h2⟩
      refine ⟨B', m', ?_, h1, h2⟩
      dsimp only
      congr 3)
  -- which deed
  refine bind_ex (fun o : Option (T7 ⊕ ((Int × T7) ⊕ (Unit ⊕ Bool))) => ∃ v, o = some v ∧ ∃ B' m', v = .inl (s, (e, (live B', (m', (s, (e, B')))))) ∧ RI s e B' m' ∧ B'.length ≤ i + 1)
    (fun v => v = (decide (c.toNat < 4), (s, (e, (live B, (m, (s, (e, (B, (((c.toNat : Nat) : Int), (f, (t, (a, (b, (0, (0, (0, 0)))))))))))))))))  ?_ ?_
  · refine ⟨_, ?_, rfl⟩
    by_cases c0 : c.toNat = 0
    · rw [c0]; rfl
    · by_cases c1 : c.toNat = 1
      · rw [c1]; rfl
      · by_cases c2 : c.toNat = 2
        · rw [c2]; rfl
        · have z0 : (((c.toNat : Nat) : Int) == 0) = false := beq_eq_false_iff_ne.2 (by omega)
          have z1 : (((c.toNat : Nat) : Int) == 1) = false := beq_eq_false_iff_ne.2 (by omega)
          have z2 : (((c.toNat : Nat) : Int) == 2) = false := beq_eq_false_iff_ne.2 (by omega)
          simp only [z0, z1, z2, cond_false, Option.bind_some]
          have : (((c.toNat : Nat) : Int) == 3) = decide (c.toNat < 4) := by
            by_cases c3 : c.toNat = 3
            · rw [c3]; rfl
            · rw [decide_eq_false (by omega)]; exact beq_eq_false_iff_ne.2 (by omega)
          rw [this]
  rintro _ rfl
  refine bind_ex (fun o : Option (T7 ⊕ ((Int × T7) ⊕ (Unit ⊕ Bool))) => ∃ v, o = some v ∧ ∃ B' m', v = .inl (s, (e, (live B', (m', (s, (e, B')))))) ∧ RI s e B' m' ∧ B'.length ≤ i + 1)
    (fun v => ∃ (er : Int) (p : Bool) (r : Int) (d : Dat) (B' : Bk) (m' : NM) (c' : Int) (a' : Int) (b' : List UInt8), v = (er, (er, (p, (p, (r, (r, (s, (e, (live B', (m', (s, (e, (B', (c', (f, (t, (a', (b', (d.1, (d.2.1, (d.2.2, (d.1, (d.2.1, d.2.2))))))))))))))))))))))) ∧ RI s e B' m' ∧ B'.length ≤ i + 1) ?_ ?_
  · by_cases h4 : c.toNat < 4
    · rw [decide_eq_true h4]
      simp only [cond_true]
      rw [send_com hR.h]
      by_cases hE : sendE s e (live B) f t b = 0
      · rw [if_pos hE]
        simp only [Option.bind_some]
        rw [refSend_is hR, if_pos hE]
        simp only [Option.bind_some]
        have hl : live (B ++ [((f, (t, b)), false)]) = live B ++ [(f, (t, b))] := live_snoc _ _
        refine ⟨_, rfl, 0, false, 0, (0, (0, [])), B ++ [((f, (t, b)), false)], incM m t, ((c.toNat : Nat) : Int), a, b, ?_, ⟨?_, ?_⟩, ?_⟩
        · rw [hl]
        · rw [hl]; exact hR.h.send hE
        · simp; omega
        · simp; omega
      · rw [if_neg hE]
        simp only [Option.bind_some]
        rw [refSend_is hR, if_neg hE]
        simp only [Option.bind_some]
        exact ⟨_, rfl, sendE s e (live B) f t b, false, 0, (0, (0, [])), B, m, ((c.toNat : Nat) : Int), a, b, rfl, hR, by omega⟩
    · rw [decide_eq_false h4]
      simp only [cond_false]
      by_cases c4 : c.toNat = 4
      · simp only [c4, show (((4 : Nat) : Int) == 4) = true from rfl, cond_true]
        rw [copy_com hR.h ha]
        cases hat : at? (live B) a with
        | none =>
          simp only [Option.bind_some]
          rw [refCopy_is hR ha, hat]
          simp only [Option.bind_some]
          exact ⟨_, rfl, 2, false, 0, (0, (0, [])), B, m, ((4 : Nat) : Int), a, b, rfl, hR, by omega⟩
        | some d =>
          by_cases hE : layE e (live B) d.2.1 = 0
          · simp only [if_pos hE, Option.bind_some]
            rw [refCopy_is hR ha, hat]
            simp only [if_pos hE, Option.bind_some]
            have hl : live (B ++ [(d, false)]) = live B ++ [d] := live_snoc _ _
            refine ⟨_, rfl, 0, false, 0, (0, (0, [])), B ++ [(d, false)], incM m d.2.1, ((4 : Nat) : Int), a, b, ?_, ⟨?_, ?_⟩, ?_⟩
            · rw [hl]
            · rw [hl]; exact hR.h.copy hat hE
            · simp; omega
            · simp; omega
          · simp only [if_neg hE, Option.bind_some]
            rw [refCopy_is hR ha, hat]
            simp only [if_neg hE, Option.bind_some]
            exact ⟨_, rfl, 5, false, 0, (0, (0, [])), B, m, ((4 : Nat) : Int), a, b, rfl, hR, by omega⟩
      have z4 : (((c.toNat : Nat) : Int) == 4) = false := beq_eq_false_iff_ne.2 (by omega)
      simp only [z4, cond_false]
      obtain ⟨B', g1, g2, g3⟩ := refDrop_is hR ha
      by_cases c5 : c.toNat = 5
      · simp only [c5, show (((5 : Nat) : Int) == 5) = true from rfl, cond_true]
        rw [take_com hR.h ha]
        cases hat : at? (live B) a with
        | none =>
          rw [hat] at g1 g3
          simp only [Option.bind_some]
          rw [ref_look hR.w ha, hat]
          simp only [Option.bind_some]
          rw [g1]
          simp only [Option.bind_some]
          refine ⟨_, rfl, 0, false, 0, (0, (0, [])), B', m, ((5 : Nat) : Int), a, b, ?_, ⟨?_, ?_⟩, ?_⟩
          · rw [g3]
          · rw [g3]; exact hR.h
          · omega
          · omega
        | some d =>
          rw [hat] at g1 g3
          simp only [Option.bind_some]
          rw [ref_look hR.w ha, hat]
          simp only [Option.bind_some]
          rw [g1]
          simp only [Option.bind_some]
          refine ⟨_, rfl, 0, true, 0, d, B', decM m d.2.1, ((5 : Nat) : Int), a, b, ?_, ⟨?_, ?_⟩, ?_⟩
          · rw [g3]
          · rw [g3]; exact hR.h.drop hat
          · omega
          · omega
      have z5 : (((c.toNat : Nat) : Int) == 5) = false := beq_eq_false_iff_ne.2 (by omega)
      simp only [z5, cond_false]
      by_cases c6 : c.toNat = 6
      · simp only [c6, show (((6 : Nat) : Int) == 6) = true from rfl, cond_true]
        rw [drop_com hR.h ha]
        cases hat : at? (live B) a with
        | none =>
          rw [hat] at g1 g3
          simp only [Option.bind_some]
          rw [g1]
          simp only [Option.bind_some]
          refine ⟨_, rfl, 0, false, 0, (0, (0, [])), B', m, ((6 : Nat) : Int), a, b, ?_, ⟨?_, ?_⟩, ?_⟩
          · rw [g3]; rfl
          · rw [g3]; exact hR.h
          · omega
          · omega
        | some d =>
          rw [hat] at g1 g3
          simp only [Option.bind_some]
          rw [g1]
          simp only [Option.bind_some]
          refine ⟨_, rfl, 0, true, 0, (0, (0, [])), B', decM m d.2.1, ((6 : Nat) : Int), a, b, ?_, ⟨?_, ?_⟩, ?_⟩
          · rw [g3]; rfl
          · rw [g3]; exact hR.h.drop hat
          · omega
          · omega
      have z6 : (((c.toNat : Nat) : Int) == 6) = false := beq_eq_false_iff_ne.2 (by omega)
      simp only [z6, cond_false]
      by_cases c7 : c.toNat = 7
      · simp only [c7, show (((7 : Nat) : Int) == 7) = true from rfl, cond_true]
        rw [forget_com hR.h]
        simp only [Option.bind_some]
        rw [refForget_is hR]
        simp only [Option.bind_some]
        have hl := live_forg t B
        refine ⟨_, rfl, 0, false, ((cnt (live B) t : Nat) : Int), (0, (0, [])), B.map fun x => (x.1, x.2 || x.1.2.1 == t), forgM (live B) m t, ((7 : Nat) : Int), a, b, ?_, ⟨?_, ?_⟩, ?_⟩
        · rw [hl]
        · rw [hl]; exact hR.h.forg t
        · rw [List.length_map]; omega
        · rw [List.length_map]; omega
      have z7 : (((c.toNat : Nat) : Int) == 7) = false := beq_eq_false_iff_ne.2 (by omega)
      simp only [z7, cond_false, Option.bind_some]
      exact ⟨_, rfl, 0, false, 0, (0, (0, [])), B, m, ((c.toNat : Nat) : Int), a, b, rfl, hR, by omega⟩
  rintro _ ⟨er, p, r, d, B', m', c', a', b', rfl, hR', hb'⟩
  simp only [beq_self_eq_true, Bool.not_true, cond_false]
  rw [like_is, decide_eq_true rfl]
  simp only [Option.bind_some, Bool.not_true, cond_false]
  rw [heaped_is hR']
  simp only [Option.bind_some, Bool.not_true, cond_false]
  rw [waiting_com hR'.h]
  simp only [Option.bind_some]
  rw [ref_waiting hR'.w]
  simp only [Option.bind_some, beq_self_eq_true, Bool.not_true, cond_false]
  exact ⟨_, rfl, B', m', rfl, hR', hb'⟩
theorem tells_loop {l : List (UInt8 × (Int × (Int × (Int × List UInt8))))} (hok : ∀ x ∈ l, In64 x.2.1 ∧ In64 x.2.2.1 ∧ In64 x.2.2.2.1) {r2 : Int × (Int × (Int × NM))} (hr : r2.1 = 0) (hs : 1 ≤ s ∧ s ≤ 300) (he : 1 ≤ e ∧ e ≤ 10000) :
    law07_NetTells_l1_it fuel l r2 (0, (s, (e, ([], (([], 0), (s, (e, []))))))) = some (.inl ()) := by
  unfold law07_NetTells_l1_it
  have := iter_ex (f := fun (tt : Int × (Int × (Int × (List Dat × (NM × (Int × (Int × Bk))))))) => law07_NetTells_l1 fuel l r2 tt.1 tt.2.1 tt.2.2.1 tt.2.2.2.1 tt.2.2.2.2.1 tt.2.2.2.2.2.1 tt.2.2.2.2.2.2.1 tt.2.2.2.2.2.2.2)
    (fun n st => ∃ (i : Nat) (B : Bk) (m : NM), st = ((i : Int), (s, (e, (live B, (m, (s, (e, B))))))) ∧ i + n = min l.length 70 ∧ RI s e B m ∧ B.length ≤ i)
    (fun o => o = .inl ())
    (fun n st ⟨i, B, m, hst, hi, hR, hb⟩ => by
      subst hst
      have h1 : i < l.length := by omega
      obtain ⟨B', m', g1, g2, g3⟩ := tells_step (l := l) h1 (by omega) (hok _ (List.getElem_mem h1)) hr hR hb
      exact .inl ⟨_, g1, i + 1, B', m', rfl, by omega, g2, g3⟩)
    (fun st ⟨i, B, m, hst, hi, hR, hb⟩ => by
      subst hst
      refine ⟨_, ?_, rfl⟩
      show law07_NetTells_l1 fuel l r2 (i : Int) s e (live B) m s e B = _
      unfold law07_NetTells_l1
      by_cases h1 : i < l.length
      · rw [decide_eq_true (show (i : Int) < ((l.length : Nat) : Int) by omega), decide_eq_false (show ¬ (i : Int) < 70 by omega)]
        rfl
      · rw [decide_eq_false (show ¬ (i : Int) < ((l.length : Nat) : Int) by omega)]
        rfl)
    (min l.length 70) (0, (s, (e, ([], (([], 0), (s, (e, []))))))) (by omega) ⟨0, [], ([], 0), rfl, by omega, ⟨NI.empty hs he, by simp⟩, by simp⟩
  obtain ⟨o, h1, rfl⟩ := this
  exact h1
end
theorem refNew_is (a b : Int) : ref07_New fuel a b = if (1 ≤ a ∧ a ≤ 300) ∧ (1 ≤ b ∧ b ≤ 10000) then some (a, (b, 0)) else some (0, (0, 2)) := by
  unfold ref07_New
  by_cases h1 : a ≥ 1 <;> by_cases h2 : a ≤ 300 <;> by_cases h3 : b ≥ 1 <;> by_cases h4 : b ≤ 10000 <;>
    simp only [h1, h2, h3, h4, decide_true, decide_false, cond_true, cond_false, Option.bind_some, and_true, and_false, true_and, false_and, if_true, if_false] <;>
    (first | (rw [if_pos (by omega)]) | (rw [if_neg (by omega)]) | rfl)
theorem law07_NetTells_true (ends most : Int) (l : List (UInt8 × (Int × (Int × (Int × List UInt8))))) (_k0 : OkV (.int .i64) ends) (_k1 : OkV (.int .i64) most) (k2 : OkV (.sl (.pair .byte (.pair (.int .i64) (.pair (.int .i64) (.pair (.int .i64) (.sl .byte)))))) l) : law07_NetTells fuel ends most l = some true := by
  have hok : ∀ x ∈ l, In64 x.2.1 ∧ In64 x.2.2.1 ∧ In64 x.2.2.2.1 := fun x hx => by
    have h := k2.2 x hx
    exact ⟨h.2.1, h.2.2.1, h.2.2.2.1⟩
  unfold law07_NetTells
  rw [new_is]
  by_cases hc : (1 ≤ ends ∧ ends ≤ 300) ∧ (1 ≤ most ∧ most ≤ 10000)
  · rw [if_pos hc]
    simp only [Option.bind_some]
    rw [refNew_is, if_pos hc]
    simp only [Option.bind_some, show (!((0 : Int) == 0)) = false from rfl, cond_false, show (!(false == false)) = false from rfl]
    rw [tells_loop (r2 := (0, (ends, (most, ([], 0))))) hok rfl hc.1 hc.2]
    simp only [Option.bind_some]
    rw [awake_is]
    rfl
  · rw [if_neg hc]
    simp only [Option.bind_some]
    rw [refNew_is, if_neg hc]
    simp only [Option.bind_some, show (!((2 : Int) == 2)) = false from rfl, cond_false, show (!(true == !((2 : Int) == 0))) = false from rfl]
    have : law07_NetTells_l0_it fuel l 2 (0, (0, (0, []))) = some (.inl ()) := by
      unfold law07_NetTells_l0_it
      refine iter_fuel_inr ?_
      show law07_NetTells_l0 fuel l 2 0 0 0 [] = _
      unfold law07_NetTells_l0
      by_cases h1 : (0 : Int) < ((l.length : Nat) : Int)
      · rw [decide_eq_true h1]; rfl
      · rw [decide_eq_false h1]; rfl
    rw [this]
    simp only [Option.bind_some]
    rw [awake_is]
    rfl
end Go.Ab.D

/- Layer 7, NetQueue. -/
namespace Go.Ab.D
theorem pick_is' {x : Int} {n : Nat} (hx : In64 x) (h0 : 0 < n) (hn : n ≤ 1000000) : ∃ k : Nat, k < n ∧ low_Pick fuel x (n : Int) = some (k : Int) := by
  have hx' : -9223372036854775808 ≤ x ∧ x ≤ 9223372036854775807 := hx
  unfold low_Pick
  rw [decide_eq_false (show ¬ (n : Int) ≤ 0 by omega), cond_false, need_true (by rw [decide_eq_false (by omega)]; rfl)]
  have h1 := Int.tmod_lt_of_pos x (show (0 : Int) < n by omega)
  have h2 : -(n : Int) < Int.tmod x n := Int.lt_tmod_of_pos x (by omega)
  by_cases h3 : Int.tmod x n < 0
  · rw [decide_eq_true h3, cond_true, w64 ⟨by omega, by omega⟩]
    exact ⟨(Int.tmod x n + n).toNat, by omega, by congr 1; omega⟩
  · rw [decide_eq_false h3, cond_false]
    exact ⟨(Int.tmod x n).toNat, by omega, by congr 1; omega⟩
theorem laid_is {l : List Dat} (hok : ∀ x ∈ l, In64 x.1 ∧ In64 x.2.1) : ∃ (L : List Dat) (m : NM), law07_laid fuel l = some (.inr (true, (5, (200, (L, (m, L)))))) ∧ NI 5 200 L m ∧ L.length ≤ 50 := by
  unfold law07_laid
  rw [new_is, if_pos (by omega)]
  simp only [Option.bind_some]
  have := iter_ex (f := fun (tt : Int × (Int × (Int × (Int × (List Dat × (NM × List Dat)))))) => law07_laid_l1 fuel l tt.1 tt.2.1 tt.2.2.1 tt.2.2.2.1 tt.2.2.2.2.1 tt.2.2.2.2.2.1 tt.2.2.2.2.2.2)
    (fun n st => ∃ (i : Nat) (L : List Dat) (m : NM), st = (0, ((i : Int), (5, (200, (L, (m, L)))))) ∧ i + n = min l.length 50 ∧ NI 5 200 L m ∧ L.length = i)
    (fun o => ∃ (L : List Dat) (m : NM), o = (0, (5, (200, (L, (m, L))))) ∧ NI 5 200 L m ∧ L.length ≤ 50)
    (fun n st ⟨i, L, m, hst, hi, hN, hl⟩ => by
      subst hst
      left
      show ∃ s', law07_laid_l1 fuel l 0 (i : Int) 5 200 L m L = _ ∧ _
      have h1 : i < l.length := by omega
      obtain ⟨hf, ht⟩ := hok _ (List.getElem_mem h1)
      unfold law07_laid_l1
      rw [decide_eq_true (show (i : Int) < ((l.length : Nat) : Int) by omega), decide_eq_true (show (i : Int) < 50 by omega)]
      simp only [cond_true, Option.bind_some, beq_self_eq_true]
      rw [idx_nat h1]
      simp only [Option.bind_some, List.getElem?_eq_getElem h1]
      generalize l[i] = x at hf ht ⊢
      obtain ⟨f, t, b⟩ := x
      simp only at hf ht ⊢
      obtain ⟨f', g1, g2⟩ := pick_is' (n := 5) hf (by omega) (by omega)
      obtain ⟨t', g3, g4⟩ := pick_is' (n := 5) ht (by omega) (by omega)
      have g2' : low_Pick fuel f 5 = some (f' : Int) := g2
      have g4' : low_Pick fuel t 5 = some (t' : Int) := g4
      rw [g2']
      simp only [Option.bind_some]
      rw [g4']
      simp only [Option.bind_some]
      have hq : ∃ q : Nat, upto? (if 60 < ((b.length : Nat) : Int) then 60 else ((b.length : Nat) : Int)) b.length = some q ∧ q ≤ 60 := by
        by_cases h : 60 < ((b.length : Nat) : Int)
        · rw [if_pos h]; exact ⟨60, upto_int (by omega) (by omega), by omega⟩
        · rw [if_neg h]; exact ⟨b.length, upto_nat (Nat.le_refl _), by omega⟩
      obtain ⟨q, hq, hq60⟩ := hq
      rw [hq]
      simp only [Option.bind_some]
      have hc := cnt_le L (t' : Int)
      have hE : sendE 5 200 L (f' : Int) (t' : Int) (b.take q) = 0 := by
        rw [sendE_lay (by omega) (by omega) (by rw [List.length_take]; omega), layE_ok (by omega) (by omega)]
      rw [send_com hN, if_pos hE]
      simp only [Option.bind_some]
      rw [need_true (by rw [Bool.and_eq_true]; exact ⟨ble_true (by rw [roomIs]; omega), ble_true (by rw [roomIs]; omega)⟩), w64 ⟨by omega, by omega⟩]
      exact ⟨_, rfl, i + 1, L ++ [((f' : Int), ((t' : Int), b.take q))], incM m (t' : Int), rfl, by omega, hN.send hE, by simp [hl]⟩)
    (fun st ⟨i, L, m, hst, hi, hN, hl⟩ => by
      subst hst
      refine ⟨_, ?_, L, m, rfl, hN, by omega⟩
      show law07_laid_l1 fuel l 0 (i : Int) 5 200 L m L = _
      unfold law07_laid_l1
      by_cases h1 : i < l.length
      · rw [decide_eq_true (show (i : Int) < ((l.length : Nat) : Int) by omega), decide_eq_false (show ¬ (i : Int) < 50 by omega)]
        rfl
      · rw [decide_eq_false (show ¬ (i : Int) < ((l.length : Nat) : Int) by omega)]
        rfl)
    (min l.length 50) (0, (0, (5, (200, ([], (([], 0), [])))))) (by omega) ⟨0, [], ([], 0), rfl, by omega, NI.empty (by omega) (by omega), rfl⟩
  obtain ⟨o, h1, L, m, rfl, h2, h3⟩ := this
  refine ⟨L, m, ?_, h2, h3⟩
  unfold law07_laid_l1_it
  rw [h1]
  rfl
theorem queue_loop {way : Int} {places : List UInt8} {L0 : List Dat} {m0 : NM} (h0 : NI 5 200 L0 m0) (hp : places.length ≤ maxLen) :
    ∃ m, law07_NetQueue_l1_it fuel way places (0, (5, (200, (L0, (m0, L0))))) = some (.inl (5, (200, ([], m)))) ∧ NI 5 200 [] m := by
  unfold law07_NetQueue_l1_it
  have hl0 := h0.l
  have := iter_ex (f := fun (tt : Int × (Int × (Int × (List Dat × (NM × List Dat))))) => law07_NetQueue_l1 fuel way places tt.1 tt.2.1 tt.2.2.1 tt.2.2.2.1 tt.2.2.2.2.1 tt.2.2.2.2.2)
    (fun n st => ∃ (k : Nat) (L : List Dat) (m : NM), st = ((k : Int), (5, (200, (L, (m, L))))) ∧ L.length = n ∧ k + n ≤ 10000 ∧ NI 5 200 L m)
    (fun o => ∃ (m : NM), o = .inl (5, (200, ([], m))) ∧ NI 5 200 [] m)
    (fun n st ⟨k, L, m, hst, hl, hk, hN⟩ => by
      subst hst
      left
      show ∃ s', law07_NetQueue_l1 fuel way places (k : Int) 5 200 L m L = _ ∧ _
      unfold law07_NetQueue_l1
      have hd : decide (((L.length : Nat) : Int) > 0) = true := decide_eq_true (by omega)
      rw [hd, cond_true]
      refine bind_ex (fun o : Option ((Int × (Int × (Int × (List Dat × (NM × List Dat))))) ⊕ _) => ∃ s', o = some (.inl s') ∧ ∃ (k : Nat) (L : List Dat) (m : NM), s' = ((k : Int), (5, (200, (L, (m, L))))) ∧ L.length = n ∧ k + n ≤ 10000 ∧ NI 5 200 L m)
        (fun v : Int × (Int × (Int × (List Dat × (NM × List Dat)))) => ∃ at_ : Nat, at_ < L.length ∧ v = ((at_ : Int), (5, (200, (L, (m, L)))))) ?_ ?_
      · by_cases h1 : way = 1
        · subst h1
          refine ⟨_, rfl, L.length - 1, by omega, ?_⟩
          rw [w64 ⟨by omega, by omega⟩, show ((L.length : Nat) : Int) - 1 = ((L.length - 1 : Nat) : Int) by omega]
        · rw [beq_eq_false_iff_ne.2 h1, cond_false]
          by_cases h2 : way = 2
          · subst h2
            simp only [show ((2 : Int) == 2) = true from rfl, cond_true, Option.bind_some]
            by_cases h3 : k < places.length
            · rw [decide_eq_true (show (k : Int) < ((places.length : Nat) : Int) by omega)]
              simp only [cond_true]
              rw [idx_nat h3]
              simp only [Option.bind_some, List.getElem?_eq_getElem h3]
              have hb := places[k].toNat_lt
              rw [need_true (by rw [decide_eq_false (by omega)]; rfl), w64 ⟨by omega, by omega⟩]
              refine ⟨_, rfl, places[k].toNat % L.length, Nat.mod_lt _ (by omega), rfl⟩
            · rw [decide_eq_false (show ¬ (k : Int) < ((places.length : Nat) : Int) by omega)]
              exact ⟨_, rfl, 0, by omega, rfl⟩
          · rw [beq_eq_false_iff_ne.2 h2]
            exact ⟨_, rfl, 0, by omega, rfl⟩
      · rintro _ ⟨p, hp, rfl⟩
        dsimp only
        have hin : In64 (p : Int) := ⟨by omega, by omega⟩
        obtain ⟨hk0, hat⟩ := at_in (L := L) (i := (p : Int)) (by omega)
        have hN' := hN.drop hat
        rw [take_com hN hin, hat]
        simp only [Option.bind_some, Bool.not_true, cond_false]
        rw [idx_nat hp]
        have e1 : ((p : Int)).toNat = p := rfl
        simp only [e1] at hN' hat ⊢
        simp only [Option.bind_some, List.getElem?_eq_getElem hp]
        rw [like_is, decide_eq_true rfl]
        simp only [Option.bind_some, Bool.not_true, cond_false]
        rw [upto_nat (by omega)]
        simp only [Option.bind_some]
        have hle : (L.take p).length + (L.drop (p + 1)).length ≤ 10000 := by simp; omega
        have hle2 : (L.take p).length ≤ 10000 := by omega
        rw [need_true (by rw [Bool.and_eq_true]; exact ⟨ble_true (by rw [roomIs]; omega), ble_true (by rw [roomIs]; omega)⟩), w64 (x := (p : Int) + 1) ⟨by omega, by omega⟩, upto_int (by omega) (by omega)]
        simp only [Option.bind_some]
        rw [show ((p : Int) + 1).toNat = p + 1 by omega]
        rw [need_true (by rw [Bool.and_eq_true]; exact ⟨ble_true (by rw [roomIs]; omega), ble_true (by rw [roomIs]; omega)⟩), w64 ⟨by omega, by omega⟩, ← List.eraseIdx_eq_take_drop_succ]
        exact ⟨_, rfl, k + 1, L.eraseIdx p, _, rfl, by rw [List.length_eraseIdx, if_pos hp]; omega, by omega, hN'⟩)
    (fun st ⟨k, L, m, hst, hl, hk, hN⟩ => by
      subst hst
      have : L = [] := List.eq_nil_of_length_eq_zero hl
      subst this
      exact ⟨_, rfl, m, rfl, hN⟩)
    L0.length (0, (5, (200, (L0, (m0, L0))))) (by omega) ⟨0, L0, m0, rfl, rfl, by omega, h0⟩
  obtain ⟨o, h1, m, rfl, h2⟩ := this
  exact ⟨m, h1, h2⟩
theorem law07_NetQueue_true (l : List Dat) (places : List UInt8) (k0 : OkV (.sl (.pair (.int .i64) (.pair (.int .i64) (.sl .byte)))) l) (k1 : OkV (.sl .byte) places) : law07_NetQueue fuel l places = some true := by
  have hok : ∀ x ∈ l, In64 x.1 ∧ In64 x.2.1 := fun x hx => by
    have h := k0.2 x hx
    exact ⟨h.1, h.2.1⟩
  unfold law07_NetQueue law07_NetQueue_l2_it
  have step : ∀ w : Nat, w < 3 → law07_NetQueue_l2 fuel l places (w : Int) = some (.inl ((w + 1 : Nat) : Int)) := by
    intro w hw
    obtain ⟨L, m, h1, h2, h3⟩ := laid_is hok
    obtain ⟨m', h4, h5⟩ := queue_loop (way := (w : Int)) h2 k1.1
    unfold law07_NetQueue_l2
    rw [decide_eq_true (by omega), cond_true, h1]
    simp only [Option.bind_some, Bool.not_true, cond_false]
    rw [h4]
    simp only [Option.bind_some]
    rw [take_com h5 (in64 (by omega) (by omega))]
    rw [w64 ⟨by omega, by omega⟩]
    rfl
  have := iter_range (f := fun tt : Int => law07_NetQueue_l2 fuel l places tt) (o := .inl ()) (fun k => (k : Int)) 3 (by omega) (fun k hk => step k hk) (by
    show law07_NetQueue_l2 fuel l places 3 = _
    unfold law07_NetQueue_l2
    rfl)
  have this2 : iter fuel (fun tt : Int => law07_NetQueue_l2 fuel l places tt) 0 = some (.inl ()) := this
  rw [this2]
  simp only [Option.bind_some]
  rw [awake_is]
  rfl
end Go.Ab.D

/- Layer 7, NetOthers. -/
namespace Go.Ab.D
def flt (t : Int) (L : List Dat) : List Dat := L.filter fun d => d.2.1 == t
theorem flt_snoc (t : Int) (L : List Dat) (d : Dat) : flt t (L ++ [d]) = flt t L ++ (if d.2.1 = t then [d] else []) := by
  unfold flt
  rw [List.filter_append]
  by_cases h : d.2.1 = t
  · rw [if_pos h]; simp [h]
  · rw [if_neg h]; simp [h]
theorem flt_len (t : Int) (L : List Dat) : (flt t L).length = cnt L t := (List.countP_eq_length_filter).symm
theorem flt_to {t : Int} {L : List Dat} : ∀ d ∈ flt t L, d.2.1 = t := fun d hd => by
  unfold flt at hd
  have := (List.mem_filter.1 hd).2
  simpa using this
theorem cnt_flt (t : Int) (L : List Dat) : cnt (flt t L) t = cnt L t := by rw [cnt_all flt_to, flt_len]
theorem flt_at {t : Int} : ∀ {L : List Dat} {i : Nat} {d : Dat}, L[i]? = some d → d.2.1 = t → (flt t L)[cnt (L.take i) t]? = some d ∧ flt t (L.eraseIdx i) = (flt t L).eraseIdx (cnt (L.take i) t)
  | [], i, d, h, _ => by simp at h
  | x :: L, 0, d, h, ht => by
    simp only [List.getElem?_cons_zero, Option.some.injEq] at h
    subst h
    have : flt t (x :: L) = x :: flt t L := by unfold flt; rw [List.filter_cons, if_pos (by simpa using ht)]
    rw [this]
    exact ⟨rfl, rfl⟩
  | x :: L, i + 1, d, h, ht => by
    simp only [List.getElem?_cons_succ] at h
    obtain ⟨g1, g2⟩ := flt_at h ht
    rw [List.take_succ_cons, cnt_cons, List.eraseIdx_cons_succ]
    by_cases hx : x.2.1 = t
    · have e1 : ∀ M, flt t (x :: M) = x :: flt t M := fun M => by unfold flt; rw [List.filter_cons, if_pos (by simpa using hx)]
      rw [e1, e1, if_pos hx, g2]
      exact ⟨by rw [List.getElem?_cons_succ]; exact g1, rfl⟩
    · have e1 : ∀ M, flt t (x :: M) = flt t M := fun M => by unfold flt; rw [List.filter_cons, if_neg (by simpa using hx)]
      rw [e1, e1, if_neg hx, g2]
      exact ⟨g1, rfl⟩
theorem flt_other {t : Int} : ∀ {L : List Dat} {i : Nat} {d : Dat}, L[i]? = some d → d.2.1 ≠ t → flt t (L.eraseIdx i) = flt t L
  | [], i, d, h, _ => by simp at h
  | x :: L, 0, d, h, ht => by
    simp only [List.getElem?_cons_zero, Option.some.injEq] at h
    subst h
    show flt t L = flt t (x :: L)
    unfold flt
    rw [List.filter_cons, if_neg (by simpa using ht)]
  | x :: L, i + 1, d, h, ht => by
    simp only [List.getElem?_cons_succ] at h
    rw [List.eraseIdx_cons_succ]
    have := flt_other h ht
    unfold flt at this ⊢
    rw [List.filter_cons, List.filter_cons, this]
theorem flt_forg_same (t : Int) (L : List Dat) : flt t (forgL L t) = [] := by
  unfold flt forgL
  rw [List.filter_filter, List.filter_eq_nil_iff]
  intro d _
  cases (d.2.1 == t) <;> simp
theorem forg_flt (t : Int) (L : List Dat) : forgL (flt t L) t = [] := by
  unfold flt forgL
  rw [List.filter_filter, List.filter_eq_nil_iff]
  intro d _
  cases (d.2.1 == t) <;> simp
theorem flt_forg_other {t u : Int} (h : u ≠ t) (L : List Dat) : flt t (forgL L u) = flt t L := by
  unfold flt forgL
  rw [List.filter_filter]
  congr 1
  funext d
  by_cases hd : d.2.1 = t
  · have : d.2.1 ≠ u := fun hc => h (by rw [← hc, hd])
    simp [hd]
    exact fun hc => h (by rw [← hc])
  · simp [hd]
def b8 (x : Int) : UInt8 := UInt8.ofNat (x % 256).toNat
theorem byte_b8 (x : Int) : byte? (IntKind.wrap .u8 x) = some (b8 x) := by
  rw [wu8_mod]
  have h1 : x % 256 = (((x % 256).toNat : Nat) : Int) := by omega
  unfold b8
  rw [h1]
  exact byte_nat (by omega)
def tagB (d : Dat) : List UInt8 := b8 d.1 :: b8 d.2.1 :: d.2.2
theorem tag_is {d : Dat} (h : d.2.2.length ≤ 1000000) : law07_tag fuel d = some (tagB d) := by
  unfold law07_tag
  rw [byte_b8]
  simp only [Option.bind_some]
  rw [byte_b8]
  simp only [Option.bind_some]
  rw [need_true (ble_true (by rw [roomIs]; omega))]
  rfl
/-- A deed: what it tells, what is left. -/
def deedP (s e : Int) (L : List Dat) (c : Nat) (f t a : Int) (b : List UInt8) : List UInt8 × List Dat :=
  if c < 4 then (if sendE s e L f t b = 0 then ([b8 0], L ++ [(f, (t, b))]) else ([b8 (sendE s e L f t b)], L))
  else if c = 4 then (match at? L a with | some d => (if layE e L d.2.1 = 0 then ([b8 0], L ++ [d]) else ([b8 5], L)) | none => ([b8 2], L))
  else if c = 5 then (match at? L a with | some d => (tagB d, L.eraseIdx a.toNat) | none => (tagB (0, (0, [])), L))
  else if c = 6 then (match at? L a with | some _ => ([], L.eraseIdx a.toNat) | none => ([], L))
  else if c = 7 then ([b8 (cnt L t : Int)], forgL L t)
  else ([], L)
theorem deed_is {s e : Int} {L : List Dat} {m : NM} (h : NI s e L m) (c : Nat) (f t : Int) {a : Int} (ha : In64 a) (b : List UInt8) :
    ∃ m', NI s e (deedP s e L c f t a b).2 m' ∧ (law07_deed__com fuel (c : Int) f t a b s e L m = some (.inl ((deedP s e L c f t a b).1, (s, (e, ((deedP s e L c f t a b).2, m'))))) ∨
      law07_deed__com fuel (c : Int) f t a b s e L m = some (.inr ((deedP s e L c f t a b).1, (s, (e, (m', (deedP s e L c f t a b).2)))))) := by
  have hfirst : (bif ((c : Int) == 0) then
      some (((c : Int) == 0), (s, (e, (L, m))))
    else
      Option.bind (α := Bool × (Int × (Int × (List Dat × NM)))) (
        bif ((c : Int) == 1) then
          some (((c : Int) == 1), (s, (e, (L, m))))
        else
          Option.bind (α := Bool × (Int × (Int × (List Dat × NM)))) (
            bif ((c : Int) == 2) then
              some (((c : Int) == 2), (s, (e, (L, m))))
            else
              some (((c : Int) == 3), (s, (e, (L, m))))) fun o =>
          some (o.1, (o.2.1, (o.2.2.1, (o.2.2.2.1, o.2.2.2.2))))) fun o1 =>
      some (o1.1, (o1.2.1, (o1.2.2.1, (o1.2.2.2.1, o1.2.2.2.2))))) = some (decide (c < 4), (s, (e, (L, m)))) := by
    by_cases c0 : c = 0
    · subst c0; rfl
    · by_cases c1 : c = 1
      · subst c1; rfl
      · by_cases c2 : c = 2
        · subst c2; rfl
        · rw [beq_eq_false_iff_ne.2 (show (c : Int) ≠ 0 by omega), beq_eq_false_iff_ne.2 (show (c : Int) ≠ 1 by omega), beq_eq_false_iff_ne.2 (show (c : Int) ≠ 2 by omega)]
          have : ((c : Int) == 3) = decide (c < 4) := by
            by_cases c3 : c = 3
            · subst c3; rfl
            · rw [decide_eq_false (by omega)]; exact beq_eq_false_iff_ne.2 (by omega)
          rw [this]
          rfl
  unfold law07_deed__com deedP
  rw [hfirst]
  simp only [Option.bind_some]
  by_cases h4 : c < 4
  · rw [decide_eq_true h4, if_pos h4, cond_true, send_com h]
    by_cases hE : sendE s e L f t b = 0
    · rw [if_pos hE, if_pos hE]
      simp only [Option.bind_some, byte_b8]
      exact ⟨_, h.send hE, .inr rfl⟩
    · rw [if_neg hE, if_neg hE]
      simp only [Option.bind_some, byte_b8]
      exact ⟨_, h, .inl rfl⟩
  rw [decide_eq_false h4, if_neg h4, cond_false]
  by_cases c4 : c = 4
  · subst c4
    rw [if_pos rfl, show (((4 : Nat) : Int) == 4) = true from rfl, cond_true, copy_com h ha]
    cases hat : at? L a with
    | none =>
      simp only [Option.bind_some, byte_b8]
      exact ⟨_, h, .inl rfl⟩
    | some d =>
      by_cases hE : layE e L d.2.1 = 0
      · simp only [if_pos hE, Option.bind_some, byte_b8]
        exact ⟨_, h.copy hat hE, .inr rfl⟩
      · simp only [if_neg hE, Option.bind_some, byte_b8]
        exact ⟨_, h, .inl rfl⟩
  rw [if_neg c4, beq_eq_false_iff_ne.2 (show (c : Int) ≠ 4 by omega), cond_false]
  by_cases c5 : c = 5
  · subst c5
    rw [if_pos rfl, show (((5 : Nat) : Int) == 5) = true from rfl, cond_true, take_com h ha]
    cases hat : at? L a with
    | none =>
      simp only [Option.bind_some]
      rw [tag_is (by simp)]
      exact ⟨_, h, .inr rfl⟩
    | some d =>
      obtain ⟨hk, h0, h1, h2⟩ := at_some hat
      have hb := h.b _ (List.getElem_mem hk)
      rw [h2] at hb
      simp only [Option.bind_some]
      rw [tag_is (by show d.2.2.length ≤ _; omega)]
      exact ⟨_, h.drop hat, .inr rfl⟩
  rw [if_neg c5, beq_eq_false_iff_ne.2 (show (c : Int) ≠ 5 by omega), cond_false]
  by_cases c6 : c = 6
  · subst c6
    rw [if_pos rfl, show (((6 : Nat) : Int) == 6) = true from rfl, cond_true, drop_com h ha]
    cases hat : at? L a with
    | none => exact ⟨_, h, .inr rfl⟩
    | some d => exact ⟨_, h.drop hat, .inr rfl⟩
  rw [if_neg c6, beq_eq_false_iff_ne.2 (show (c : Int) ≠ 6 by omega), cond_false]
  by_cases c7 : c = 7
  · subst c7
    rw [if_pos rfl, show (((7 : Nat) : Int) == 7) = true from rfl, cond_true, forget_com h]
    simp only [Option.bind_some, byte_b8]
    exact ⟨_, h.forg t, .inr rfl⟩
  rw [if_neg c7, beq_eq_false_iff_ne.2 (show (c : Int) ≠ 7 by omega), cond_false]
  exact ⟨_, h, .inr rfl⟩
theorem len30 {L : List Dat} {m : NM} (h : NI 5 6 L m) : L.length ≤ 30 := by
  have h1 := sumC_all L 5 (fun d hd => (h.o d hd).2)
  have q0 := h.q ((0 : Nat) : Int)
  have q1 := h.q ((1 : Nat) : Int)
  have q2 := h.q ((2 : Nat) : Int)
  have q3 := h.q ((3 : Nat) : Int)
  have q4 := h.q ((4 : Nat) : Int)
  have : sumC L 5 = 0 + cnt L ((0 : Nat) : Int) + cnt L ((1 : Nat) : Int) + cnt L ((2 : Nat) : Int) + cnt L ((3 : Nat) : Int) + cnt L ((4 : Nat) : Int) := rfl
  omega
theorem layE_flt {L : List Dat} {m : NM} (h : NI 5 6 L m) (t : Int) : layE 6 (flt t L) t = layE 6 L t := by
  have := len30 h
  have h2 : (flt t L).length ≤ L.length := List.length_filter_le _ _
  unfold layE
  rw [cnt_flt]
  by_cases hc : (cnt L t : Int) = 6
  · rw [if_pos (.inl hc), if_pos (.inl hc)]
  · rw [if_neg (show ¬ ((cnt L t : Int) = 6 ∨ (flt t L).length = 10000) by omega), if_neg (show ¬ ((cnt L t : Int) = 6 ∨ L.length = 10000) by omega)]
/-- A deed about this station. -/
theorem deed_mine {L : List Dat} {m : NM} (h : NI 5 6 L m) {mine : Int} {c : Nat} {f t a : Int} {b : List UInt8}
    (h1 : 4 ≤ c ∧ c ≤ 6 → ∃ d, at? L a = some d ∧ d.2.1 = mine) (h2 : ¬ (4 ≤ c ∧ c ≤ 6) → t = mine) :
    (deedP 5 6 (flt mine L) c f t (if 4 ≤ c ∧ c ≤ 6 then (cnt (L.take a.toNat) mine : Int) else 0) b).1 = (deedP 5 6 L c f t a b).1 ∧
    (deedP 5 6 (flt mine L) c f t (if 4 ≤ c ∧ c ≤ 6 then (cnt (L.take a.toNat) mine : Int) else 0) b).2 = flt mine (deedP 5 6 L c f t a b).2 := by
  by_cases hc : 4 ≤ c ∧ c ≤ 6
  · rw [if_pos hc]
    obtain ⟨d, hat, hd⟩ := h1 hc
    obtain ⟨hk, h0, hl, hg⟩ := at_some hat
    have hget : L[a.toNat]? = some d := by rw [List.getElem?_eq_getElem hk, hg]
    obtain ⟨g1, g2⟩ := flt_at hget hd
    have hat2 : at? (flt mine L) (cnt (L.take a.toNat) mine : Int) = some d := by
      unfold at?
      rw [if_pos (by omega)]
      exact g1
    have hlay : layE 6 (flt mine L) d.2.1 = layE 6 L d.2.1 := by rw [hd]; exact layE_flt h mine
    unfold deedP
    rw [if_neg (show ¬ c < 4 by omega), if_neg (show ¬ c < 4 by omega), hat, hat2]
    by_cases c4 : c = 4
    · rw [if_pos c4, if_pos c4]
      simp only
      rw [hlay]
      by_cases hE : layE 6 L d.2.1 = 0
      · rw [if_pos hE, if_pos hE]
        refine ⟨rfl, ?_⟩
        show flt mine L ++ [d] = flt mine (L ++ [d])
        rw [flt_snoc, if_pos hd]
      · rw [if_neg hE, if_neg hE]
        exact ⟨rfl, rfl⟩
    · rw [if_neg c4, if_neg c4]
      by_cases c5 : c = 5
      · rw [if_pos c5, if_pos c5]
        exact ⟨rfl, g2.symm⟩
      · have c6 : c = 6 := by omega
        rw [if_neg c5, if_neg c5, if_pos c6, if_pos c6]
        exact ⟨rfl, g2.symm⟩
  · rw [if_neg hc]
    have ht := h2 hc
    clear h1 h2
    subst ht
    unfold deedP
    by_cases h4 : c < 4
    · rw [if_pos h4, if_pos h4]
      have hs : sendE 5 6 (flt t L) f t b = sendE 5 6 L f t b := by
        unfold sendE
        rw [layE_flt h t]
      rw [hs]
      by_cases hE : sendE 5 6 L f t b = 0
      · rw [if_pos hE, if_pos hE]
        refine ⟨rfl, ?_⟩
        show flt t L ++ [(f, (t, b))] = flt t (L ++ [(f, (t, b))])
        rw [flt_snoc, if_pos rfl]
      · rw [if_neg hE, if_neg hE]
        exact ⟨rfl, rfl⟩
    · rw [if_neg h4, if_neg h4, if_neg (show ¬ c = 4 by omega), if_neg (show ¬ c = 4 by omega), if_neg (show ¬ c = 5 by omega), if_neg (show ¬ c = 5 by omega), if_neg (show ¬ c = 6 by omega), if_neg (show ¬ c = 6 by omega)]
      by_cases c7 : c = 7
      · rw [if_pos c7, if_pos c7, cnt_flt]
        refine ⟨rfl, ?_⟩
        show forgL (flt t L) t = flt t (forgL L t)
        rw [forg_flt, flt_forg_same]
      · rw [if_neg c7, if_neg c7]
        exact ⟨rfl, rfl⟩
/-- A deed about others. -/
theorem deed_other {L : List Dat} {mine : Int} {c : Nat} {f t a : Int} {b : List UInt8}
    (h1 : 4 ≤ c ∧ c ≤ 6 → ∃ d, at? L a = some d ∧ d.2.1 ≠ mine) (h2 : ¬ (4 ≤ c ∧ c ≤ 6) → t ≠ mine) :
    flt mine (deedP 5 6 L c f t a b).2 = flt mine L := by
  by_cases hc : 4 ≤ c ∧ c ≤ 6
  · obtain ⟨d, hat, hd⟩ := h1 hc
    obtain ⟨hk, h0, hl, hg⟩ := at_some hat
    have hget : L[a.toNat]? = some d := by rw [List.getElem?_eq_getElem hk, hg]
    have g := flt_other hget hd
    unfold deedP
    rw [if_neg (show ¬ c < 4 by omega), hat]
    by_cases c4 : c = 4
    · rw [if_pos c4]
      simp only
      by_cases hE : layE 6 L d.2.1 = 0
      · rw [if_pos hE]
        show flt mine (L ++ [d]) = _
        rw [flt_snoc, if_neg hd, List.append_nil]
      · rw [if_neg hE]
    · rw [if_neg c4]
      by_cases c5 : c = 5
      · rw [if_pos c5]; exact g
      · rw [if_neg c5, if_pos (show c = 6 by omega)]; exact g
  · have ht := h2 hc
    clear h1 h2
    unfold deedP
    by_cases h4 : c < 4
    · rw [if_pos h4]
      by_cases hE : sendE 5 6 L f t b = 0
      · rw [if_pos hE]
        show flt mine (L ++ [(f, (t, b))]) = _
        rw [flt_snoc, if_neg ht, List.append_nil]
      · rw [if_neg hE]
    · rw [if_neg h4, if_neg (show ¬ c = 4 by omega), if_neg (show ¬ c = 5 by omega), if_neg (show ¬ c = 6 by omega)]
      by_cases c7 : c = 7
      · rw [if_pos c7]
        show flt mine (forgL L t) = _
        exact flt_forg_other ht L
      · rw [if_neg c7]
end Go.Ab.D

/- Layer 7, NetOthers: the law. -/
set_option maxRecDepth 100000
namespace Go.Ab.D
section
variable {s e : Int} {La Lb : List Dat} {ma mb : NM}
theorem look_at {L : List Dat} {m : NM} (h : NI s e L m) {k : Nat} (hk : k < L.length) : net_Net_Look__com fuel (k : Int) s e L m = some (L[k].1, (L[k].2.1, (L[k].2.2, (true, (s, (e, (L, m))))))) := by
  have := h.l
  rw [look_com h ⟨by omega, by omega⟩]
  have : (if (0 : Int) ≤ (k : Int) then L[((k : Int)).toNat]? else none) = some L[k] := by
    rw [if_pos (by omega)]
    exact List.getElem?_eq_getElem hk
  rw [this]
theorem alike_is (hA : NI s e La ma) (hB : NI s e Lb mb) (mine : Int) (hab : Lb = flt mine La) : law07_alike__comcom fuel mine s e La ma s e Lb mb = some (true, (s, (e, (La, (ma, (s, (e, (Lb, mb)))))))) := by
  have hl := hA.l
  unfold law07_alike__comcom
  have e0 : law07_alike__comcom_l0_it fuel mine (0, (s, (e, (La, (ma, (s, (e, (Lb, (mb, []))))))))) = some (s, (e, (La, (ma, (s, (e, (Lb, (mb, flt mine La)))))))) := by
    unfold law07_alike__comcom_l0_it
    have := iter_range (f := fun tt : Int × (Int × (Int × (List Dat × (NM × (Int × (Int × (List Dat × (NM × List Dat)))))))) => law07_alike__comcom_l0 fuel mine tt.1 tt.2.1 tt.2.2.1 tt.2.2.2.1 tt.2.2.2.2.1 tt.2.2.2.2.2.1 tt.2.2.2.2.2.2.1 tt.2.2.2.2.2.2.2.1 tt.2.2.2.2.2.2.2.2.1 tt.2.2.2.2.2.2.2.2.2) (o := (s, (e, (La, (ma, (s, (e, (Lb, (mb, flt mine La)))))))))
      (fun k => ((k : Int), (s, (e, (La, (ma, (s, (e, (Lb, (mb, flt mine (La.take k))))))))))) La.length (by omega) (fun k hk => by
        show law07_alike__comcom_l0 fuel mine (k : Int) s e La ma s e Lb mb (flt mine (La.take k)) = _
        unfold law07_alike__comcom_l0
        rw [flying_com]
        simp only [Option.bind_some]
        rw [decide_eq_true (by omega), cond_true, look_at hA hk]
        simp only [Option.bind_some]
        rw [w64 ⟨by omega, by omega⟩, List.take_succ_eq_append_getElem hk, flt_snoc]
        have hfl : (flt mine (La.take k)).length ≤ 10000 := by
          have h1 : (flt mine (La.take k)).length ≤ (La.take k).length := List.length_filter_le _ _
          have h2 : (La.take k).length ≤ La.length := by simp; omega
          omega
        by_cases hq : La[k].2.1 = mine
        · rw [beq_iff_eq.2 hq, if_pos hq, cond_true, need_true (by rw [Bool.and_eq_true]; exact ⟨ble_true (by rw [roomIs]; omega), ble_true (by rw [roomIs]; omega)⟩)]
          rfl
        · rw [beq_eq_false_iff_ne.2 hq, if_neg hq, List.append_nil]
          rfl) (by
        show law07_alike__comcom_l0 fuel mine ((La.length : Nat) : Int) s e La ma s e Lb mb (flt mine (La.take La.length)) = _
        unfold law07_alike__comcom_l0
        rw [flying_com, List.take_length]
        simp only [Option.bind_some]
        rw [decide_eq_false (by omega)]
        rfl)
    exact this
  rw [e0, ← hab]
  simp only [Option.bind_some]
  rw [flying_com]
  simp only [Option.bind_some, beq_self_eq_true, Bool.not_true, cond_false]
  have hc1 : cnt La mine = Lb.length := by rw [hab, flt_len]
  have hc2 : cnt Lb mine = Lb.length := by rw [hab, cnt_flt, flt_len]
  rw [waiting_com hA, hc1]
  simp only [Option.bind_some, beq_self_eq_true, Bool.not_true, cond_false]
  rw [waiting_com hB, hc2]
  simp only [Option.bind_some, beq_self_eq_true, Bool.not_true, cond_false]
  have hlb := hB.l
  have e1 : law07_alike__comcom_l1_it fuel (false, (s, (e, (La, (ma, (s, (e, (Lb, (mb, Lb))))))))) (0, (s, (e, (La, (ma, (s, (e, (Lb, (mb, Lb))))))))) = some (.inl (s, (e, (La, (ma, (s, (e, (Lb, mb)))))))) := by
    unfold law07_alike__comcom_l1_it
    have := iter_range (f := fun tt : Int × (Int × (Int × (List Dat × (NM × (Int × (Int × (List Dat × (NM × List Dat)))))))) => law07_alike__comcom_l1 fuel (false, (s, (e, (La, (ma, (s, (e, (Lb, (mb, Lb))))))))) tt.1 tt.2.1 tt.2.2.1 tt.2.2.2.1 tt.2.2.2.2.1 tt.2.2.2.2.2.1 tt.2.2.2.2.2.2.1 tt.2.2.2.2.2.2.2.1 tt.2.2.2.2.2.2.2.2.1 tt.2.2.2.2.2.2.2.2.2) (o := .inl (s, (e, (La, (ma, (s, (e, (Lb, mb))))))))
      (fun k => ((k : Int), (s, (e, (La, (ma, (s, (e, (Lb, (mb, Lb)))))))))) Lb.length (by omega) (fun k hk => by
        show law07_alike__comcom_l1 fuel _ (k : Int) s e La ma s e Lb mb Lb = _
        unfold law07_alike__comcom_l1
        simp only
        rw [decide_eq_true (by omega), cond_true, look_at hB hk]
        simp only [Option.bind_some]
        rw [idx_nat hk]
        simp only [Option.bind_some, List.getElem?_eq_getElem hk]
        rw [like_is, decide_eq_true rfl, w64 ⟨by omega, by omega⟩]
        rfl) (by
        show law07_alike__comcom_l1 fuel _ ((Lb.length : Nat) : Int) s e La ma s e Lb mb Lb = _
        unfold law07_alike__comcom_l1
        simp only
        rw [decide_eq_false (by omega)]
        rfl)
    exact this
  rw [e1]
  rfl
theorem kth_is (hA : NI s e La ma) (mine : Int) {a : Nat} (ha : a ≤ La.length) (b : List UInt8) (z1 z2 z3 : Int) (y1 y2 : Int) (Y : List Dat) (my : NM) :
    law07_NetOthers_l6_it fuel mine (0, (0, (s, (e, (La, (ma, (y1, (y2, (Y, (my, (z1, (z2, (z3, ((a : Int), b)))))))))))))) = some ((cnt (La.take a) mine : Int), (s, (e, (La, (ma, (y1, (y2, (Y, (my, (z1, (z2, (z3, ((a : Int), b))))))))))))) := by
  have hl := hA.l
  unfold law07_NetOthers_l6_it
  have := iter_range (f := fun tt : Int × (Int × (Int × (Int × (List Dat × (NM × (Int × (Int × (List Dat × (NM × (Int × (Int × (Int × (Int × List UInt8))))))))))))) => law07_NetOthers_l6 fuel mine tt.1 tt.2.1 tt.2.2.1 tt.2.2.2.1 tt.2.2.2.2.1 tt.2.2.2.2.2.1 tt.2.2.2.2.2.2.1 tt.2.2.2.2.2.2.2.1 tt.2.2.2.2.2.2.2.2.1 tt.2.2.2.2.2.2.2.2.2.1 tt.2.2.2.2.2.2.2.2.2.2.1 tt.2.2.2.2.2.2.2.2.2.2.2.1 tt.2.2.2.2.2.2.2.2.2.2.2.2.1 tt.2.2.2.2.2.2.2.2.2.2.2.2.2.1 tt.2.2.2.2.2.2.2.2.2.2.2.2.2.2)
    (o := ((cnt (La.take a) mine : Int), (s, (e, (La, (ma, (y1, (y2, (Y, (my, (z1, (z2, (z3, ((a : Int), b))))))))))))))
    (fun k => ((cnt (La.take k) mine : Int), ((k : Int), (s, (e, (La, (ma, (y1, (y2, (Y, (my, (z1, (z2, (z3, ((a : Int), b))))))))))))))) a (by omega) (fun k hk => by
      show law07_NetOthers_l6 fuel mine (cnt (La.take k) mine : Int) (k : Int) s e La ma y1 y2 Y my z1 z2 z3 (a : Int) b = _
      have hk' : k < La.length := by omega
      have hc := cnt_le (La.take k) mine
      have hc2 : (La.take k).length ≤ La.length := by simp; omega
      unfold law07_NetOthers_l6
      rw [decide_eq_true (by omega), cond_true, look_at hA hk']
      simp only [Option.bind_some]
      rw [w64 (x := (k : Int) + 1) ⟨by omega, by omega⟩, List.take_succ_eq_append_getElem hk', cnt_snoc]
      by_cases hq : La[k].2.1 = mine
      · rw [beq_iff_eq.2 hq, if_pos hq, w64 ⟨by omega, by omega⟩]
        rfl
      · rw [beq_eq_false_iff_ne.2 hq, if_neg hq]
        rfl) (by
      show law07_NetOthers_l6 fuel mine (cnt (La.take a) mine : Int) (a : Int) s e La ma y1 y2 Y my z1 z2 z3 (a : Int) b = _
      unfold law07_NetOthers_l6
      rw [decide_eq_false (by omega)]
      rfl)
  exact this
end
abbrev T8 : Type := Int × (Int × (List Dat × (NM × (Int × (Int × (List Dat × NM))))))
theorem others_step {La : List Dat} {ma mb : NM} {mine : Int} {l : List (UInt8 × (Int × (Int × (Int × List UInt8))))} {i : Nat} (hi : i < l.length) (h60 : i < 60) (hok : In64 l[i].2.1 ∧ In64 l[i].2.2.1 ∧ In64 l[i].2.2.2.1)
    (hA : NI 5 6 La ma) (hB : NI 5 6 (flt mine La) mb) :
    ∃ (La' : List Dat) (ma' mb' : NM), law07_NetOthers_l7 fuel l mine (i : Int) 5 6 La ma 5 6 (flt mine La) mb = some (.inl (((i + 1 : Nat) : Int), (5, (6, (La', (ma', (5, (6, (flt mine La', mb'))))))))) ∧ NI 5 6 La' ma' ∧ NI 5 6 (flt mine La') mb' := by
  unfold law07_NetOthers_l7
  rw [decide_eq_true (show (i : Int) < ((l.length : Nat) : Int) by omega), decide_eq_true (show (i : Int) < 60 by omega)]
  simp only [cond_true, Option.bind_some]
  rw [idx_nat hi, w64 (x := (i : Int) + 1) ⟨by omega, by omega⟩]
  simp only [Option.bind_some, List.getElem?_eq_getElem hi]
  generalize l[i] = x at hok ⊢
  obtain ⟨c, f, t, a, b0⟩ := x
  obtain ⟨hf, ht, ha⟩ := hok
  simp only at hf ht ha ⊢
  have hq : ∃ q : Nat, upto? (if 60 < ((b0.length : Nat) : Int) then 60 else ((b0.length : Nat) : Int)) b0.length = some q ∧ q ≤ 60 := by
    by_cases h : 60 < ((b0.length : Nat) : Int)
    · rw [if_pos h]; exact ⟨60, upto_int (by omega) (by omega), by omega⟩
    · rw [if_neg h]; exact ⟨b0.length, upto_nat (Nat.le_refl _), by omega⟩
  obtain ⟨q, hq, hq60⟩ := hq
  rw [hq]
  simp only [Option.bind_some]
  obtain ⟨f', g1, g2⟩ := pick_is' (n := 5) hf (by omega) (by omega)
  obtain ⟨t', g3, g4⟩ := pick_is' (n := 5) ht (by omega) (by omega)
  have g2' : low_Pick fuel f 5 = some (f' : Int) := g2
  have g4' : low_Pick fuel t 5 = some (t' : Int) := g4
  rw [g2']
  simp only [Option.bind_some]
  rw [g4']
  simp only [Option.bind_some]
  generalize hb : b0.take q = b
  generalize hcn : c.toNat = n
  refine bind_ex (fun o : Option ((Int × T8) ⊕ (Unit ⊕ Bool)) => ∃ (La' : List Dat) (ma' mb' : NM), o = some (.inl (((i + 1 : Nat) : Int), (5, (6, (La', (ma', (5, (6, (flt mine La', mb'))))))))) ∧ NI 5 6 La' ma' ∧ NI 5 6 (flt mine La') mb')
    (fun v : T8 ⊕ ((Int × T8) ⊕ (Unit ⊕ Bool)) => ∃ (La' : List Dat) (ma' mb' : NM), v = .inl (5, (6, (La', (ma', (5, (6, (flt mine La', mb'))))))) ∧ NI 5 6 La' ma' ∧ NI 5 6 (flt mine La') mb') ?_ (by
      rintro _ ⟨La', ma', mb', rfl, h1, h2⟩
      refine ⟨La', ma', mb', ?_, h1, h2⟩
      dsimp only
      congr 3)
  refine bind_ex (fun o : Option (T8 ⊕ ((Int × T8) ⊕ (Unit ⊕ Bool))) => ∃ v, o = some v ∧ ∃ (La' : List Dat) (ma' mb' : NM), v = .inl (5, (6, (La', (ma', (5, (6, (flt mine La', mb'))))))) ∧ NI 5 6 La' ma' ∧ NI 5 6 (flt mine La') mb')
    (fun v => v = (decide (4 ≤ n ∧ n ≤ 6), (5, (6, (La, (ma, (5, (6, (flt mine La, (mb, ((n : Int), (f, (t, (a, b)))))))))))))) ?_ ?_
  · by_cases h4 : 4 ≤ n
    · have : decide ((n : Int) ≥ 4) = true := decide_eq_true (by omega)
      rw [this]
      have : decide ((n : Int) ≤ 6) = decide (4 ≤ n ∧ n ≤ 6) := by
        by_cases h6 : n ≤ 6
        · rw [decide_eq_true (show 4 ≤ n ∧ n ≤ 6 from ⟨h4, h6⟩), decide_eq_true (by omega)]
        · rw [decide_eq_false (show ¬ (4 ≤ n ∧ n ≤ 6) by omega), decide_eq_false (by omega)]
      rw [this]
      exact ⟨_, rfl, rfl⟩
    · have : decide ((n : Int) ≥ 4) = false := decide_eq_false (by omega)
      rw [this, decide_eq_false (show ¬ (4 ≤ n ∧ n ≤ 6) by omega)]
      exact ⟨_, rfl, rfl⟩
  rintro _ rfl
  simp only
  -- what it is about
  have main : ∀ (about k : Int), (about = mine → (4 ≤ n ∧ n ≤ 6 → ∃ d, at? La a = some d ∧ d.2.1 = mine) ∧ (¬ (4 ≤ n ∧ n ≤ 6) → (t' : Int) = mine) ∧ k = (if 4 ≤ n ∧ n ≤ 6 then (cnt (La.take a.toNat) mine : Int) else 0)) →
      (about ≠ mine → (4 ≤ n ∧ n ≤ 6 → ∃ d, at? La a = some d ∧ d.2.1 ≠ mine) ∧ (¬ (4 ≤ n ∧ n ≤ 6) → (t' : Int) ≠ mine)) → In64 k →
      ∃ v, (Option.bind (α := (List UInt8 × (Int × (Int × (List Dat × (NM × (Int × (Int × (List Dat × (NM × (Int × (Int × (Int × (Int × List UInt8)))))))))))))) (
          (law07_deed__com fuel (n : Int) (f' : Int) (t' : Int) a b 5 6 La ma).bind fun r49 =>
          match r49 with
          | .inl r50 =>
            some (r50.1, (r50.2.1, (r50.2.2.1, (r50.2.2.2.1, (r50.2.2.2.2, (5, (6, (flt mine La, (mb, ((n : Int), (f, (t, (a, b)))))))))))))
          | .inr r51 =>
            some (r51.1, (r51.2.1, (r51.2.2.1, (r51.2.2.2.2, (r51.2.2.2.1, (5, (6, (flt mine La, (mb, ((n : Int), (f, (t, (a, b)))))))))))))) fun o48 =>
        Option.bind (α := T8 ⊕ (T8 ⊕ ((Int × T8) ⊕ (Unit ⊕ Bool)))) (
          bif (about == mine) then
            Option.bind (α := (List UInt8 × (Int × (Int × (List Dat × (NM × (Int × (Int × (List Dat × NM))))))))) (
              (law07_deed__com fuel o48.2.2.2.2.2.2.2.2.2.1 (f' : Int) (t' : Int) k o48.2.2.2.2.2.2.2.2.2.2.2.2.2 o48.2.2.2.2.2.1 o48.2.2.2.2.2.2.1 o48.2.2.2.2.2.2.2.1 o48.2.2.2.2.2.2.2.2.1).bind fun r52 =>
              match r52 with
              | .inl r53 =>
                some (r53.1, (o48.2.1, (o48.2.2.1, (o48.2.2.2.1, (o48.2.2.2.2.1, (r53.2.1, (r53.2.2.1, (r53.2.2.2.1, r53.2.2.2.2))))))))
              | .inr r54 =>
                some (r54.1, (o48.2.1, (o48.2.2.1, (o48.2.2.2.1, (o48.2.2.2.2.1, (r54.2.1, (r54.2.2.1, (r54.2.2.2.2, r54.2.2.2.1))))))))) fun o49 =>
            bif (!(o48.1 == o49.1)) then
              some (.inr (.inr (.inr (.inr false))))
            else
              some (.inl (o49.2.1, (o49.2.2.1, (o49.2.2.2.1, (o49.2.2.2.2.1, (o49.2.2.2.2.2.1, (o49.2.2.2.2.2.2.1, (o49.2.2.2.2.2.2.2.1, o49.2.2.2.2.2.2.2.2))))))))
          else
            some (.inl (o48.2.1, (o48.2.2.1, (o48.2.2.2.1, (o48.2.2.2.2.1, (o48.2.2.2.2.2.1, (o48.2.2.2.2.2.2.1, (o48.2.2.2.2.2.2.2.1, o48.2.2.2.2.2.2.2.2.1))))))))) fun o50 =>
        match o50 with
        | .inl s13 =>
          (law07_alike__comcom fuel mine s13.1 s13.2.1 s13.2.2.1 s13.2.2.2.1 s13.2.2.2.2.1 s13.2.2.2.2.2.1 s13.2.2.2.2.2.2.1 s13.2.2.2.2.2.2.2).bind fun r55 =>
          bif (!r55.1) then
            some (.inr (.inr (.inr false)))
          else
            some (.inl (r55.2.1, (r55.2.2.1, (r55.2.2.2.1, (r55.2.2.2.2.1, (r55.2.2.2.2.2.1, (r55.2.2.2.2.2.2.1, (r55.2.2.2.2.2.2.2.1, r55.2.2.2.2.2.2.2.2))))))))
        | .inr o51 =>
          some o51) = some v ∧ ∃ (La' : List Dat) (ma' mb' : NM), v = .inl (5, (6, (La', (ma', (5, (6, (flt mine La', mb'))))))) ∧ NI 5 6 La' ma' ∧ NI 5 6 (flt mine La') mb' := by
    intro about k hm ho hk
    obtain ⟨ma', hA', d1⟩ := deed_is hA n (f' : Int) (t' : Int) ha b
    have d2 : ((law07_deed__com fuel (n : Int) (f' : Int) (t' : Int) a b 5 6 La ma).bind fun r49 =>
          match r49 with
          | .inl r50 =>
            some (r50.1, (r50.2.1, (r50.2.2.1, (r50.2.2.2.1, (r50.2.2.2.2, ((5 : Int), ((6 : Int), (flt mine La, (mb, ((n : Int), (f, (t, (a, b)))))))))))))
          | .inr r51 =>
            some (r51.1, (r51.2.1, (r51.2.2.1, (r51.2.2.2.2, (r51.2.2.2.1, (5, (6, (flt mine La, (mb, ((n : Int), (f, (t, (a, b)))))))))))))) = some ((deedP 5 6 La n f' t' a b).1, (5, (6, ((deedP 5 6 La n f' t' a b).2, (ma', (5, (6, (flt mine La, (mb, ((n : Int), (f, (t, (a, b))))))))))))) := by
      rcases d1 with d1 | d1 <;> rw [d1] <;> rfl
    rw [d2]
    simp only [Option.bind_some]
    by_cases hab : about = mine
    · obtain ⟨m1, m2, m3⟩ := hm hab
      rw [beq_iff_eq.2 hab, cond_true]
      obtain ⟨mb', hB', d3⟩ := deed_is hB n (f' : Int) (t' : Int) hk b
      obtain ⟨q1, q2⟩ := deed_mine hA (f := (f' : Int)) (b := b) m1 m2
      rw [← m3] at q1 q2
      have d4 : ((law07_deed__com fuel (n : Int) (f' : Int) (t' : Int) k b 5 6 (flt mine La) mb).bind fun r52 =>
              match r52 with
              | .inl r53 =>
                some (r53.1, ((5 : Int), ((6 : Int), ((deedP 5 6 La n f' t' a b).2, (ma', (r53.2.1, (r53.2.2.1, (r53.2.2.2.1, r53.2.2.2.2))))))))
              | .inr r54 =>
                some (r54.1, (5, (6, ((deedP 5 6 La n f' t' a b).2, (ma', (r54.2.1, (r54.2.2.1, (r54.2.2.2.2, r54.2.2.2.1))))))))) = some ((deedP 5 6 La n f' t' a b).1, (5, (6, ((deedP 5 6 La n f' t' a b).2, (ma', (5, (6, (flt mine (deedP 5 6 La n f' t' a b).2, mb')))))))) := by
        rw [q1, q2] at d3
        rcases d3 with d3 | d3 <;> rw [d3] <;> rfl
      rw [d4]
      rw [q2] at hB'
      simp only [Option.bind_some, beq_self_eq_true, Bool.not_true, cond_false]
      rw [alike_is hA' hB' mine rfl]
      exact ⟨_, rfl, _, _, _, rfl, hA', hB'⟩
    · obtain ⟨m1, m2⟩ := ho hab
      rw [beq_eq_false_iff_ne.2 hab, cond_false]
      have q := deed_other (f := (f' : Int)) (b := b) m1 m2
      simp only [Option.bind_some]
      rw [← q] at hB ⊢
      rw [alike_is hA' hB mine rfl]
      exact ⟨_, rfl, _, _, _, rfl, hA', hB⟩
  by_cases hc : 4 ≤ n ∧ n ≤ 6
  · rw [decide_eq_true hc, cond_true, look_com hA ha]
    have e0 : (if 0 ≤ a then La[a.toNat]? else none) = at? La a := rfl
    rw [e0]
    cases hat : at? La a with
    | none =>
      simp only [Option.bind_some]
      exact ⟨_, rfl, La, ma, mb, rfl, hA, hB⟩
    | some d =>
      obtain ⟨hk, h0, h1, h2⟩ := at_some hat
      obtain ⟨an, rfl⟩ : ∃ an : Nat, a = an := ⟨a.toNat, by omega⟩
      simp only [Option.bind_some, Bool.not_true, cond_false]
      rw [kth_is hA mine (by omega)]
      simp only [Option.bind_some]
      have hcl := cnt_le (La.take an) mine
      have hcl2 : (La.take an).length ≤ La.length := by simp; omega
      have hl := hA.l
      refine main d.2.1 (cnt (La.take an) mine : Int) (fun hab => ⟨fun _ => ⟨d, hat, hab⟩, fun h => absurd hc h, by rw [if_pos hc]; rfl⟩) (fun hab => ⟨fun _ => ⟨d, hat, hab⟩, fun h => absurd hc h⟩) ⟨by omega, by omega⟩
  · rw [decide_eq_false hc]
    simp only [cond_false, Option.bind_some]
    exact main (t' : Int) 0 (fun hab => ⟨fun h => absurd h hc, fun _ => hab, by rw [if_neg hc]⟩) (fun hab => ⟨fun h => absurd h hc, fun _ => hab⟩) ⟨by omega, by omega⟩
theorem law07_NetOthers_true (to_ : Int) (l : List (UInt8 × (Int × (Int × (Int × List UInt8))))) (k0 : OkV (.int .i64) to_) (k1 : OkV (.sl (.pair .byte (.pair (.int .i64) (.pair (.int .i64) (.pair (.int .i64) (.sl .byte)))))) l) : law07_NetOthers fuel to_ l = some true := by
  have hto : In64 to_ := k0
  have hok : ∀ x ∈ l, In64 x.2.1 ∧ In64 x.2.2.1 ∧ In64 x.2.2.2.1 := fun x hx => by
    have h := k1.2 x hx
    exact ⟨h.2.1, h.2.2.1, h.2.2.2.1⟩
  unfold law07_NetOthers
  rw [new_is, if_pos (by omega)]
  simp only [Option.bind_some, show (!((0 : Int) == 0)) = false from rfl, cond_false]
  obtain ⟨mine, g1, g2⟩ := pick_is' (n := 5) hto (by omega) (by omega)
  have g2' : low_Pick fuel to_ 5 = some (mine : Int) := g2
  rw [g2']
  simp only [Option.bind_some]
  have := iter_ex (f := fun tt : Int × T8 => law07_NetOthers_l7 fuel l (mine : Int) tt.1 tt.2.1 tt.2.2.1 tt.2.2.2.1 tt.2.2.2.2.1 tt.2.2.2.2.2.1 tt.2.2.2.2.2.2.1 tt.2.2.2.2.2.2.2.1 tt.2.2.2.2.2.2.2.2)
    (fun n st => ∃ (i : Nat) (La : List Dat) (ma mb : NM), st = ((i : Int), (5, (6, (La, (ma, (5, (6, (flt mine La, mb)))))))) ∧ i + n = min l.length 60 ∧ NI 5 6 La ma ∧ NI 5 6 (flt mine La) mb)
    (fun o => o = .inl ())
    (fun n st ⟨i, La, ma, mb, hst, hi, hA, hB⟩ => by
      subst hst
      have h1 : i < l.length := by omega
      obtain ⟨La', ma', mb', q1, q2, q3⟩ := others_step (l := l) h1 (by omega) (hok _ (List.getElem_mem h1)) hA hB
      exact .inl ⟨_, q1, i + 1, La', ma', mb', rfl, by omega, q2, q3⟩)
    (fun st ⟨i, La, ma, mb, hst, hi, hA, hB⟩ => by
      subst hst
      refine ⟨_, ?_, rfl⟩
      show law07_NetOthers_l7 fuel l (mine : Int) (i : Int) 5 6 La ma 5 6 (flt mine La) mb = _
      unfold law07_NetOthers_l7
      by_cases h1 : i < l.length
      · rw [decide_eq_true (show (i : Int) < ((l.length : Nat) : Int) by omega), decide_eq_false (show ¬ (i : Int) < 60 by omega)]
        rfl
      · rw [decide_eq_false (show ¬ (i : Int) < ((l.length : Nat) : Int) by omega)]
        rfl)
    (min l.length 60) (0, (5, (6, ([], (([], 0), (5, (6, ([], ([], 0))))))))) (by omega) ⟨0, [], ([], 0), ([], 0), rfl, by omega, NI.empty (by omega) (by omega), NI.empty (by omega) (by omega)⟩
  obtain ⟨o, h1, rfl⟩ := this
  have h2 : law07_NetOthers_l7_it fuel l (mine : Int) (0, (5, (6, ([], (([], 0), (5, (6, ([], ([], 0))))))))) = some (.inl ()) := h1
  rw [h2]
  simp only [Option.bind_some]
  rw [awake_is]
  rfl
end Go.Ab.D
