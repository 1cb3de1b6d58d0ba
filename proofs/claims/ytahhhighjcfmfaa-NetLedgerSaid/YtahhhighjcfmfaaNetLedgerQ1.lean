/- What the functions compute; the plain law. -/
import Derived.Test.YtahhhighjcfmfaaNetLedgerD1
set_option linter.all false
/- Tools for plain proofs about decompiled functions: numbers in bounds, indexes, loops. -/
namespace Go.Ab

/-! Numbers in bounds -/
theorem w64 {x : Int} (h : -9223372036854775808 ≤ x ∧ x ≤ 9223372036854775807) : IntKind.wrap .i64 x = x := by
  simp only [IntKind.wrap, IntKind.bits, IntKind.signed]; simp; omega
theorem wu64 {x : Int} (h : 0 ≤ x ∧ x ≤ 18446744073709551615) : IntKind.wrap .u64 x = x := by
  simp only [IntKind.wrap, IntKind.bits, IntKind.signed]; simp; omega
theorem wu32 {x : Int} (h : 0 ≤ x ∧ x ≤ 4294967295) : IntKind.wrap .u32 x = x := by
  simp only [IntKind.wrap, IntKind.bits, IntKind.signed]; simp; omega
theorem wu16 {x : Int} (h : 0 ≤ x ∧ x ≤ 65535) : IntKind.wrap .u16 x = x := by
  simp only [IntKind.wrap, IntKind.bits, IntKind.signed]; simp; omega
theorem wu8 {x : Int} (h : 0 ≤ x ∧ x ≤ 255) : IntKind.wrap .u8 x = x := by
  simp only [IntKind.wrap, IntKind.bits, IntKind.signed]; simp; omega
theorem wu8_mod (x : Int) : IntKind.wrap .u8 x = x % 256 := by
  simp only [IntKind.wrap, IntKind.bits, IntKind.signed]; simp
theorem wu32_mod (x : Int) : IntKind.wrap .u32 x = x % 4294967296 := by
  simp only [IntKind.wrap, IntKind.bits, IntKind.signed]; simp
theorem wu64_mod (x : Int) : IntKind.wrap .u64 x = x % 18446744073709551616 := by
  simp only [IntKind.wrap, IntKind.bits, IntKind.signed]; simp
theorem bv_nat (n a : Nat) (h : a < 2 ^ n) : BitVec.ofInt n (a : Int) = BitVec.ofNat n a := by simp
theorem bits_xor (k : IntKind) {a b : Nat} (ha : a < 2 ^ k.bits) (hb : b < 2 ^ k.bits) (hw : ∀ x : Int, 0 ≤ x ∧ x < 2 ^ k.bits → k.wrap x = x) : bitsI .xor k a b = ((a ^^^ b : Nat) : Int) := by
  have h := Nat.xor_lt_two_pow ha hb
  simp only [bitsI, BitVec.ofInt_natCast, ← BitVec.ofNat_xor, BitVec.toNat_ofNat, Nat.mod_eq_of_lt h]
  exact hw _ ⟨by omega, by exact_mod_cast h⟩
theorem bits_or (k : IntKind) {a b : Nat} (ha : a < 2 ^ k.bits) (hb : b < 2 ^ k.bits) (hw : ∀ x : Int, 0 ≤ x ∧ x < 2 ^ k.bits → k.wrap x = x) : bitsI .or k a b = ((a ||| b : Nat) : Int) := by
  have h := Nat.or_lt_two_pow ha hb
  simp only [bitsI, BitVec.ofInt_natCast, ← BitVec.ofNat_or, BitVec.toNat_ofNat, Nat.mod_eq_of_lt h]
  exact hw _ ⟨by omega, by exact_mod_cast h⟩
theorem bits_and (k : IntKind) {a b : Nat} (ha : a < 2 ^ k.bits) (hb : b < 2 ^ k.bits) (hw : ∀ x : Int, 0 ≤ x ∧ x < 2 ^ k.bits → k.wrap x = x) : bitsI .and k a b = ((a &&& b : Nat) : Int) := by
  have h := Nat.and_lt_two_pow (y := b) a hb
  simp only [bitsI, BitVec.ofInt_natCast, ← BitVec.ofNat_and, BitVec.toNat_ofNat, Nat.mod_eq_of_lt h]
  exact hw _ ⟨by omega, by exact_mod_cast h⟩
theorem xor8 {a b : Nat} (ha : a < 256) (hb : b < 256) : bitsI .xor .u8 a b = ((a ^^^ b : Nat) : Int) := bits_xor .u8 ha hb fun x h => wu8 ⟨h.1, by have := h.2; simp [IntKind.bits] at this; omega⟩
theorem xor32 {a b : Nat} (ha : a < 4294967296) (hb : b < 4294967296) : bitsI .xor .u32 a b = ((a ^^^ b : Nat) : Int) := bits_xor .u32 ha hb fun x h => wu32 ⟨h.1, by have := h.2; simp [IntKind.bits] at this; omega⟩
theorem and32 {a b : Nat} (ha : a < 4294967296) (hb : b < 4294967296) : bitsI .and .u32 a b = ((a &&& b : Nat) : Int) := bits_and .u32 ha hb fun x h => wu32 ⟨h.1, by have := h.2; simp [IntKind.bits] at this; omega⟩
theorem fdiv_nat (a b : Nat) : Int.fdiv (a : Int) (b : Int) = ((a / b : Nat) : Int) := by
  rw [Int.fdiv_eq_ediv_of_nonneg _ (by omega)]; rfl

/-! Indexes -/
theorem idx_nat {i n : Nat} (h : i < n) : idx? (i : Int) n = some i := by simp [idx?, h]
theorem idx_int {x : Int} {n : Nat} (h0 : 0 ≤ x) (h : x < n) : idx? x n = some x.toNat := by simp [idx?, h0, h]
theorem upto_nat {i n : Nat} (h : i ≤ n) : upto? (i : Int) n = some i := by simp [upto?, h]
theorem upto_int {x : Int} {n : Nat} (h0 : 0 ≤ x) (h : x ≤ n) : upto? x n = some x.toNat := by simp [upto?, h0, h]
theorem byte_nat {n : Nat} (h : n < 256) : byte? (n : Int) = some (UInt8.ofNat n) := by
  have : (n : Int) < 256 := by omega
  simp [byte?, this]
theorem need_true {β : Type} {b : Bool} {K : Option β} (h : b = true) : need b K = K := by subst h; rfl
theorem ble_true {a b : Nat} (h : a ≤ b) : Nat.ble a b = true := Nat.ble_eq_true_of_le h
theorem nilQ_same {β : Type} {n : Nat} {K : Bool → Option β} (h : n = 0 → K true = K false) : nilQ n K = K false := by
  unfold nilQ
  rw [if_pos h]
theorem roomIs : room = 140737488355328 := rfl

/-! Loops -/
theorem fuel_big {n : Nat} (h : n < 4611686018427387904) : ∃ m, fuel = m + (n + 1) := ⟨4611686018427387903 - n, by unfold fuel; omega⟩
theorem iter_steps {τ ο : Type} {f : τ → Option (τ ⊕ ο)} (S : Nat → τ) : ∀ (n m : Nat), (∀ k, k < n → f (S k) = some (.inl (S (k + 1)))) → iter (m + n) f (S 0) = iter m f (S n)
  | 0, m, _ => rfl
  | n + 1, m, h => by
    have e : m + (n + 1) = (m + 1) + n := by omega
    rw [e, iter_steps S n (m + 1) fun k hk => h k (by omega)]
    show (f (S n)).ob _ = _
    rw [h n (by omega)]
    rfl
/-- A loop of n rounds. -/
theorem iter_range {τ ο : Type} {f : τ → Option (τ ⊕ ο)} {o : ο} (S : Nat → τ) (n : Nat) (hn : n < 4611686018427387904) (hs : ∀ k, k < n → f (S k) = some (.inl (S (k + 1)))) (he : f (S n) = some (.inr o)) : iter fuel f (S 0) = some o := by
  obtain ⟨m, hm⟩ := fuel_big hn
  have e : fuel = (m + 1) + n := by omega
  rw [e, iter_steps S n (m + 1) hs]
  show (f (S n)).ob _ = _
  rw [he]
  rfl
/-- A loop by a relation between its state and what is yet to do. -/
theorem iter_rel {τ ο : Type} {f : τ → Option (τ ⊕ ο)} {o : ο} (I : Nat → τ → Prop) (hs : ∀ n s, I (n + 1) s → ∃ s', f s = some (.inl s') ∧ I n s') (he : ∀ s, I 0 s → f s = some (.inr o)) : ∀ (n : Nat) (s : τ), n < 4611686018427387904 → I n s → iter fuel f s = some o := by
  have main : ∀ (n m : Nat) (s : τ), n < m → I n s → iter m f s = some o := fun n => by
    induction n with
    | zero =>
      intro m s hm hi
      obtain ⟨m, rfl⟩ : ∃ k, m = k + 1 := ⟨m - 1, by omega⟩
      show (f s).ob _ = _
      rw [he s hi]
      rfl
    | succ n ih =>
      intro m s hm hi
      obtain ⟨m, rfl⟩ : ∃ k, m = k + 1 := ⟨m - 1, by omega⟩
      obtain ⟨s', h1, h2⟩ := hs n s hi
      show (f s).ob _ = _
      rw [h1]
      exact ih m s' (by omega) h2
  exact fun n s hn hi => main n fuel s hn hi
/-! Loops, step by step -/
theorem iter_inl {τ ο : Type} {f : τ → Option (τ ⊕ ο)} {s s' : τ} {n : Nat} (h : f s = some (.inl s')) : iter (n + 1) f s = iter n f s' := by
  show (f s).ob _ = _
  rw [h]
  rfl
theorem iter_inr {τ ο : Type} {f : τ → Option (τ ⊕ ο)} {s : τ} {o : ο} {n : Nat} (h : f s = some (.inr o)) : iter (n + 1) f s = some o := by
  show (f s).ob _ = _
  rw [h]
  rfl
theorem fuelS (n : Nat) (h : n < 4611686018427387904) : ∃ m, fuel = m + n + 1 := ⟨4611686018427387903 - n, by unfold fuel; omega⟩
/-- A loop, by a relation; what comes out is told by a property. -/
theorem iter_ex {τ ο : Type} {f : τ → Option (τ ⊕ ο)} (I : Nat → τ → Prop) (Q : ο → Prop) (hs : ∀ n s, I (n + 1) s → (∃ s', f s = some (.inl s') ∧ I n s') ∨ ∃ o, f s = some (.inr o) ∧ Q o) (he : ∀ s, I 0 s → ∃ o, f s = some (.inr o) ∧ Q o) : ∀ (n : Nat) (s : τ), n < 4611686018427387904 → I n s → ∃ o, iter fuel f s = some o ∧ Q o := by
  have main : ∀ (n m : Nat) (s : τ), n < m → I n s → ∃ o, iter m f s = some o ∧ Q o := fun n => by
    induction n with
    | zero =>
      intro m s hm hi
      obtain ⟨m, rfl⟩ : ∃ k, m = k + 1 := ⟨m - 1, by omega⟩
      obtain ⟨o, h1, h2⟩ := he s hi
      exact ⟨o, iter_inr h1, h2⟩
    | succ n ih =>
      intro m s hm hi
      obtain ⟨m, rfl⟩ : ∃ k, m = k + 1 := ⟨m - 1, by omega⟩
      rcases hs n s hi with ⟨s', h1, h2⟩ | ⟨o, h1, h2⟩
      · rw [iter_inl h1]
        exact ih m s' (by omega) h2
      · exact ⟨o, iter_inr h1, h2⟩
  exact fun n s hn hi => main n fuel s hn hi
theorem bind_ex {α β : Type} {x : Option α} {k : α → Option β} (R : Option β → Prop) (P : α → Prop) (h : ∃ v, x = some v ∧ P v) (hk : ∀ v, P v → R (k v)) : R (x.bind k) := by
  obtain ⟨v, rfl, hv⟩ := h
  exact hk v hv
theorem iter_fuel_inr {τ ο : Type} {f : τ → Option (τ ⊕ ο)} {s : τ} {o : ο} (h : f s = some (.inr o)) : iter fuel f s = some o := by
  obtain ⟨n, hn⟩ := fuelS 0 (by omega)
  rw [hn]
  exact iter_inr h
end Go.Ab

/- Layer 7, net: maps of counters, the heap's invariant, what each call does. -/
namespace Go.Ab

/-! Maps whose keys are told apart -/
section
variable {k v : Ty}
def KeyEq (k : Ty) : Prop := ∀ x a : k.den, k.eqb x a = true ↔ x = a
theorem keyEq_int (i : IntKind) : KeyEq (.int i) := fun x a => by
  show ((x : Int) == a) = true ↔ _
  exact beq_iff_eq
theorem KeyEq.ne (h : KeyEq k) {x a : k.den} (hn : x ≠ a) : k.eqb x a = false := by
  cases e : k.eqb x a with
  | false => rfl
  | true => exact absurd ((h x a).1 e) hn
theorem KeyEq.self (h : KeyEq k) (x : k.den) : k.eqb x x = true := (h x x).2 rfl
theorem mfind_snoc (h : KeyEq k) : ∀ (l : List ((k.den × v.den) × Nat)) (x : k.den) (y : v.den) (n : Nat) (z : k.den), mfind (l ++ [((x, y), n)]) z = match mfind l z with | some e => some e | none => bif k.eqb z x then some (y, n) else none
  | [], x, y, n, z => rfl
  | ((a, b), m) :: l, x, y, n, z => by
    show (bif k.eqb z a then some (b, m) else mfind (l ++ [((x, y), n)]) z) = match (bif k.eqb z a then some (b, m) else mfind l z) with | some e => some e | none => bif k.eqb z x then some (y, n) else none
    cases k.eqb z a with
    | true => rfl
    | false => exact mfind_snoc h l x y n z
theorem mfind_mset (h : KeyEq k) : ∀ (l : List ((k.den × v.den) × Nat)) (x : k.den) (y : v.den) (z : k.den), z ≠ x → mfind (mset l x y) z = mfind l z
  | [], x, y, z, _ => rfl
  | ((a, b), m) :: l, x, y, z, hz => by
    show mfind (bif k.eqb x a then ((x, y), m) :: l else ((a, b), m) :: mset l x y) z = bif k.eqb z a then some (b, m) else mfind l z
    cases e : k.eqb x a with
    | true =>
      have := (h x a).1 e
      subst this
      show (bif k.eqb z x then some (y, m) else mfind l z) = _
      rw [h.ne hz]
      rfl
    | false =>
      show (bif k.eqb z a then some (b, m) else mfind (mset l x y) z) = _
      rw [mfind_mset h l x y z hz]
theorem mfind_mset_self (h : KeyEq k) : ∀ (l : List ((k.den × v.den) × Nat)) (x : k.den) (y : v.den) e, mfind l x = some e → mfind (mset l x y) x = some (y, e.2)
  | [], x, y, e, he => by cases he
  | ((a, b), m) :: l, x, y, e, he => by
    have he' : (bif k.eqb x a then some (b, m) else mfind l x) = some e := he
    show mfind (bif k.eqb x a then ((x, y), m) :: l else ((a, b), m) :: mset l x y) x = _
    cases ea : k.eqb x a with
    | true =>
      rw [ea] at he'
      injection he' with he'
      subst he'
      show (bif k.eqb x x then some (y, m) else mfind l x) = _
      rw [h.self]
      rfl
    | false =>
      rw [ea] at he'
      show (bif k.eqb x a then some (b, m) else mfind (mset l x y) x) = _
      rw [ea]
      exact mfind_mset_self h l x y e he'
theorem mget_mput (h : KeyEq k) (m : GMap k v) (x : k.den) (y : v.den) : mget (mput m x y) x = some y := by
  unfold mget mput
  cases e : mfind m.1 x with
  | some e' => simp only; rw [mfind_mset_self h _ _ _ _ e]; rfl
  | none => simp only; rw [mfind_snoc h, e]; simp only; rw [h.self]; rfl
theorem mget_mput_ne (h : KeyEq k) (m : GMap k v) (x : k.den) (y : v.den) {z : k.den} (hz : z ≠ x) : mget (mput m x y) z = mget m z := by
  unfold mget mput
  cases e : mfind m.1 x with
  | some e' => simp only; rw [mfind_mset h _ _ _ _ hz]
  | none =>
    simp only
    rw [mfind_snoc h, h.ne hz]
    cases mfind m.1 z <;> rfl
def keysU (m : GMap k v) : Prop := (m.1.map fun e => e.1.1).Nodup
theorem mset_keys (h : KeyEq k) : ∀ (l : List ((k.den × v.den) × Nat)) (x : k.den) (y : v.den), (mset l x y).map (fun e => e.1.1) = l.map fun e => e.1.1
  | [], x, y => rfl
  | ((a, b), m) :: l, x, y => by
    show (bif k.eqb x a then ((x, y), m) :: l else ((a, b), m) :: mset l x y).map _ = _
    cases e : k.eqb x a with
    | true =>
      have := (h x a).1 e
      subst this
      rfl
    | false => simp [mset_keys h l x y]
theorem mfind_nokey (h : KeyEq k) : ∀ {l : List ((k.den × v.den) × Nat)} {x : k.den}, mfind l x = none ↔ x ∉ l.map fun e => e.1.1
  | [], x => by simp [mfind]
  | ((a, b), m) :: l, x => by
    show (bif k.eqb x a then some (b, m) else mfind l x) = none ↔ _
    cases e : k.eqb x a with
    | true => simp [(h x a).1 e]
    | false =>
      have hn : x ≠ a := fun q => by rw [(h x a).2 q] at e; cases e
      simp only [cond_false, List.map_cons, List.mem_cons, hn, false_or]
      exact mfind_nokey h
theorem keysU_mput (h : KeyEq k) {m : GMap k v} (hm : keysU m) (x : k.den) (y : v.den) : keysU (mput m x y) := by
  unfold keysU mput
  cases e : mfind m.1 x with
  | some e' => simp only; rw [mset_keys h]; exact hm
  | none =>
    simp only [List.map_append, List.map_cons, List.map_nil]
    rw [List.nodup_append]
    refine ⟨hm, by simp, ?_⟩
    intro a ha b hb hab
    rw [List.mem_singleton] at hb
    subst hb
    subst hab
    exact (mfind_nokey h).1 e ha
theorem mdelL_ne (h : KeyEq k) : ∀ (l : List ((k.den × v.den) × Nat)) (x z : k.den), z ≠ x → mfind (mdelL l x) z = mfind l z
  | [], x, z, _ => rfl
  | ((a, b), m) :: l, x, z, hz => by
    show mfind (bif k.eqb x a then l else ((a, b), m) :: mdelL l x) z = bif k.eqb z a then some (b, m) else mfind l z
    cases e : k.eqb x a with
    | true =>
      have := (h x a).1 e
      subst this
      rw [h.ne hz]
      rfl
    | false =>
      show (bif k.eqb z a then some (b, m) else mfind (mdelL l x) z) = _
      rw [mdelL_ne h l x z hz]
theorem mdelL_keys (h : KeyEq k) : ∀ (l : List ((k.den × v.den) × Nat)) (x : k.den), ((mdelL l x).map fun e => e.1.1) = (l.map fun e => e.1.1).eraseP fun a => k.eqb x a
  | [], x => rfl
  | ((a, b), m) :: l, x => by
    show (bif k.eqb x a then l else ((a, b), m) :: mdelL l x).map _ = _
    cases e : k.eqb x a with
    | true => simp [e]
    | false => simp [e, mdelL_keys h l x]
theorem keysU_mdel (h : KeyEq k) {m : GMap k v} (hm : keysU m) (x : k.den) : keysU (mdel m x) := by
  unfold keysU mdel
  simp only
  rw [mdelL_keys h]
  exact hm.sublist List.eraseP_sublist
theorem mdelL_self (h : KeyEq k) : ∀ (l : List ((k.den × v.den) × Nat)) (x : k.den), (l.map fun e => e.1.1).Nodup → mfind (mdelL l x) x = none
  | [], x, _ => rfl
  | ((a, b), m) :: l, x, hn => by
    simp only [List.map_cons, List.nodup_cons] at hn
    show mfind (bif k.eqb x a then l else ((a, b), m) :: mdelL l x) x = none
    cases e : k.eqb x a with
    | true =>
      have := (h x a).1 e
      subst this
      exact (mfind_nokey h).2 hn.1
    | false =>
      show (bif k.eqb x a then some (b, m) else mfind (mdelL l x) x) = none
      rw [e]
      exact mdelL_self h l x hn.2
theorem mget_mdel (h : KeyEq k) {m : GMap k v} (hm : keysU m) (x : k.den) : mget (mdel m x) x = none := by
  unfold mget mdel
  simp only
  rw [mdelL_self h _ _ hm]
  rfl
theorem mget_mdel_ne (h : KeyEq k) (m : GMap k v) (x : k.den) {z : k.den} (hz : z ≠ x) : mget (mdel m x) z = mget m z := by
  unfold mget mdel
  simp only
  rw [mdelL_ne h _ _ _ hz]
end

end Go.Ab

/- Layer 7, net: what each call does to a heap, and what it tells. -/
namespace Go.Ab.D

abbrev Dat : Type := Int × (Int × List UInt8)
abbrev NM : Type := List ((Int × Int) × Nat) × Nat
abbrev NMt : Type := GMap (.int .i64) (.int .i64)
def getI (m : NM) (k : Int) : Int := Option.getD (mget (k := .int .i64) (v := .int .i64) m k) 0
def putI (m : NM) (k x : Int) : NM := mput (k := .int .i64) (v := .int .i64) m k x
def delI (m : NM) (k : Int) : NM := mdel (k := .int .i64) (v := .int .i64) m k
def incM (m : NM) (k : Int) : NM := putI m k (IntKind.wrap .i64 (getI m k + 1))
def decM (m : NM) (k : Int) : NM := putI m k (IntKind.wrap .i64 (getI m k - 1))
theorem getI_put (m : NM) (k x : Int) : getI (putI m k x) k = x := by
  unfold getI putI
  rw [mget_mput (keyEq_int .i64)]
  rfl
theorem getI_put_ne (m : NM) (k x : Int) {z : Int} (h : z ≠ k) : getI (putI m k x) z = getI m z := by
  unfold getI putI
  rw [mget_mput_ne (keyEq_int .i64) _ _ _ h]
/-- How many of a heap are for a station. -/
def cnt (L : List Dat) (k : Int) : Nat := L.countP fun d => d.2.1 == k
theorem cnt_snoc (L : List Dat) (d : Dat) (k : Int) : cnt (L ++ [d]) k = cnt L k + (if d.2.1 = k then 1 else 0) := by
  unfold cnt
  rw [List.countP_append, List.countP_singleton]
  simp
theorem cnt_le (L : List Dat) (k : Int) : cnt L k ≤ L.length := List.countP_le_length
/-- A heap, and its counters. -/
structure NI (s e : Int) (L : List Dat) (m : NM) : Prop where
  u : keysU (k := .int .i64) (v := .int .i64) m
  c : ∀ k, getI m k = (cnt L k : Int)
  l : L.length ≤ 10000
  b : ∀ d ∈ L, d.2.2.length ≤ 131072
  s1 : 1 ≤ s ∧ s ≤ 300
  e1 : 1 ≤ e ∧ e ≤ 10000
  o : ∀ d ∈ L, (0 ≤ d.1 ∧ d.1 < s) ∧ (0 ≤ d.2.1 ∧ d.2.1 < s)
  q : ∀ k, (cnt L k : Int) ≤ e
theorem NI.empty {s e : Int} (hs : 1 ≤ s ∧ s ≤ 300) (he : 1 ≤ e ∧ e ≤ 10000) : NI s e [] ([], 0) :=
  ⟨List.nodup_nil, fun k => rfl, by simp, by simp, hs, he, by simp, fun k => by simp [cnt]; omega⟩
theorem NI.inc {s e : Int} {L : List Dat} {m : NM} (h : NI s e L m) {d : Dat} (ho : (0 ≤ d.1 ∧ d.1 < s) ∧ (0 ≤ d.2.1 ∧ d.2.1 < s)) (hb : d.2.2.length ≤ 131072) (hq : (cnt L d.2.1 : Int) < e) (hl : L.length < 10000) : NI s e (L ++ [d]) (incM m d.2.1) := by
  refine ⟨keysU_mput (keyEq_int .i64) h.u _ _, ?_, by simp; omega, ?_, h.s1, h.e1, ?_, ?_⟩
  · intro k
    have := cnt_le L d.2.1
    have := cnt_snoc L d k
    by_cases hk : k = d.2.1
    · subst hk
      unfold incM
      rw [getI_put, h.c, w64 ⟨by omega, by omega⟩, this, if_pos rfl]
      omega
    · unfold incM
      rw [getI_put_ne _ _ _ hk, h.c, this, if_neg (fun q => hk q.symm)]
      omega
  · intro x hx
    rw [List.mem_append, List.mem_singleton] at hx
    rcases hx with hx | hx
    · exact h.b x hx
    · subst hx; exact hb
  · intro x hx
    rw [List.mem_append, List.mem_singleton] at hx
    rcases hx with hx | hx
    · exact h.o x hx
    · subst hx; exact ho
  · intro k
    rw [cnt_snoc]
    have := h.q k
    split
    · rename_i hk; subst hk; omega
    · omega
theorem cnt_split {L : List Dat} {i : Nat} (hi : i < L.length) (k : Int) : cnt L k = cnt (L.eraseIdx i) k + (if L[i].2.1 = k then 1 else 0) := by
  have e : L = L.take i ++ L[i] :: L.drop (i + 1) := by simp
  have e2 : L.eraseIdx i = L.take i ++ L.drop (i + 1) := List.eraseIdx_eq_take_drop_succ L i
  rw [e2]
  have : cnt L k = cnt (L.take i ++ L[i] :: L.drop (i + 1)) k := congrArg (fun x => cnt x k) e
  rw [this]
  unfold cnt
  rw [List.countP_append, List.countP_append, List.countP_cons]
  simp only [beq_iff_eq]
  omega
theorem NI.dec {s e : Int} {L : List Dat} {m : NM} (h : NI s e L m) {i : Nat} (hi : i < L.length) : NI s e (L.eraseIdx i) (decM m L[i].2.1) := by
  have hsub : (L.eraseIdx i).Sublist L := List.eraseIdx_sublist L i
  refine ⟨keysU_mput (keyEq_int .i64) h.u _ _, ?_, Nat.le_trans hsub.length_le h.l, fun d hd => h.b d (hsub.subset hd), h.s1, h.e1, fun d hd => h.o d (hsub.subset hd), ?_⟩
  · intro k
    have hs := cnt_split hi k
    have := cnt_le L k
    have := h.l
    by_cases hk : k = L[i].2.1
    · subst hk
      unfold decM
      rw [getI_put, h.c, w64 ⟨by omega, by omega⟩]
      rw [if_pos rfl] at hs
      omega
    · unfold decM
      rw [getI_put_ne _ _ _ hk, h.c]
      rw [if_neg (fun q => hk q.symm)] at hs
      omega
  · intro k
    have := cnt_split hi k
    have := h.q k
    omega
theorem NI.forget {s e : Int} {L : List Dat} {m : NM} (h : NI s e L m) (t : Int) : NI s e (L.filter fun d => !(d.2.1 == t)) (delI m t) := by
  have hsub : (L.filter fun d => !(d.2.1 == t)).Sublist L := List.filter_sublist
  have hc : ∀ k, cnt (L.filter fun d => !(d.2.1 == t)) k = if k = t then 0 else cnt L k := by
    intro k
    unfold cnt
    rw [List.countP_filter]
    by_cases hk : k = t
    · subst hk
      rw [if_pos rfl, List.countP_eq_zero]
      intro a _
      simp
    · rw [if_neg hk]
      congr 1
      funext d
      by_cases hd : d.2.1 = k
      · simp [hd, hk]
      · have : (d.2.1 == k) = false := beq_eq_false_iff_ne.2 hd
        simp [this]
  refine ⟨keysU_mdel (keyEq_int .i64) h.u _, ?_, Nat.le_trans hsub.length_le h.l, fun d hd => h.b d (hsub.subset hd), h.s1, h.e1, fun d hd => h.o d (hsub.subset hd), ?_⟩
  · intro k
    rw [hc]
    by_cases hk : k = t
    · subst hk
      unfold delI getI
      rw [mget_mdel (keyEq_int .i64) h.u, if_pos rfl]
      rfl
    · unfold delI getI
      rw [mget_mdel_ne (keyEq_int .i64) _ _ hk, if_neg hk]
      exact h.c k
  · intro k
    rw [hc]
    have := h.q k
    have := h.e1
    split <;> omega

/-! What is refused -/
def layE (e : Int) (L : List Dat) (t : Int) : Int := if (cnt L t : Int) = e ∨ L.length = 10000 then 5 else 0
def sendE (s e : Int) (L : List Dat) (f t : Int) (b : List UInt8) : Int := if f < 0 ∨ s ≤ f ∨ t < 0 ∨ s ≤ t then 2 else if 131072 < b.length then 3 else layE e L t
def copyE (e : Int) (L : List Dat) (i : Int) : Int := if h : 0 ≤ i ∧ i < L.length then layE e L (L[i.toNat]'(by omega)).2.1 else 2

theorem clone_is' {b : List UInt8} (h : b.length ≤ room) : slices_Clone__byte_byte fuel b = some b := by
  unfold slices_Clone__byte_byte
  have hn : need (Nat.ble ((0 + b.length) * 1) room && Nat.ble (0 + b.length) room) (some b) = some b := need_true (by rw [Nat.zero_add, Nat.mul_one, ble_true h]; rfl)
  rw [nilQ_same (fun h0 => by
    have : b = [] := List.eq_nil_of_length_eq_zero h0
    subst this
    rw [hn]
    rfl)]
  rw [hn]
  rfl
theorem new_is (a b : Int) : net_New fuel a b = if (1 ≤ a ∧ a ≤ 300) ∧ (1 ≤ b ∧ b ≤ 10000) then some (.inr (0, (a, (b, ([], 0))))) else some (.inl 2) := by
  unfold net_New net_New_1
  by_cases h1 : 0 < a <;> by_cases h2 : a ≤ 300 <;> by_cases h3 : 0 < b <;> by_cases h4 : b ≤ 10000 <;>
    simp only [h1, h2, h3, h4, decide_true, decide_false, cond_true, cond_false, Option.bind_some, Bool.not_true, Bool.not_false, and_true, and_false, true_and, false_and, if_true, if_false] <;>
    (first | (rw [if_pos (by omega)]) | (rw [if_neg (by omega)]) | rfl)
theorem like_is (a b : Dat) : law07_like fuel a b = some (decide (a = b)) := by
  obtain ⟨a1, a2, a3⟩ := a
  obtain ⟨b1, b2, b3⟩ := b
  unfold law07_like
  by_cases h1 : a1 = b1 <;> by_cases h2 : a2 = b2 <;> by_cases h3 : a3 = b3 <;> simp [h1, h2, h3, beq_eq_false_iff_ne.2]
end Go.Ab.D

/- Layer 7, net: the calls on a heap that has its own block. -/
namespace Go.Ab.D
theorem u_lt {i : Int} {n : Nat} (hi : -9223372036854775808 ≤ i ∧ i ≤ 9223372036854775807) (hn : n ≤ 9223372036854775807) : decide (IntKind.wrap .u64 i < IntKind.wrap .u64 (n : Int)) = decide (0 ≤ i ∧ i < n) := by
  rw [wu64_mod, wu64_mod]
  by_cases h : 0 ≤ i ∧ i < n
  · rw [decide_eq_true h, decide_eq_true (by omega)]
  · rw [decide_eq_false h, decide_eq_false (by omega)]
theorem u_lt0 {i : Int} : decide (IntKind.wrap .u64 i < 0) = false := by
  rw [wu64_mod]
  exact decide_eq_false (by omega)
def In64 (i : Int) : Prop := -9223372036854775808 ≤ i ∧ i ≤ 9223372036854775807
section
variable {s e : Int} {L : List Dat} {m : NM}
theorem there_com (h : NI s e L m) {i : Int} (hi : In64 i) : net_Net_there__com fuel i s e L m = some (decide (0 ≤ i ∧ i < L.length), (s, (e, (L, m)))) := by
  have := h.l
  unfold net_Net_there__com net_Net_made__com
  simp only [Option.bind_some, cond_true]
  rw [u_lt hi (by omega)]
theorem flying_com : net_Net_Flying__com fuel s e L m = some ((L.length : Int), (s, (e, (L, m)))) := rfl
theorem waiting_com (h : NI s e L m) (t : Int) : net_Net_Waiting__com fuel t s e L m = some ((cnt L t : Int), (s, (e, (L, m)))) := by
  have := h.c t
  unfold getI at this
  unfold net_Net_Waiting__com net_Net_made__com
  simp only [Option.bind_some, Bool.not_true, cond_false]
  rw [this]
theorem full_com (h : NI s e L m) (t : Int) : net_Net_full__com fuel t s e L m = some (decide ((cnt L t : Int) = e ∨ L.length = 10000), (s, (e, (L, m)))) := by
  have := h.c t
  unfold getI at this
  unfold net_Net_full__com
  rw [this]
  by_cases h1 : (cnt L t : Int) = e
  · rw [beq_iff_eq.2 h1, cond_true, decide_eq_true (.inl h1)]
  · rw [beq_eq_false_iff_ne.2 h1, cond_false]
    by_cases h2 : L.length = 10000
    · rw [h2, decide_eq_true (.inr rfl)]; rfl
    · rw [decide_eq_false (by omega), beq_eq_false_iff_ne.2 (by omega)]
theorem layE_or (t : Int) : layE e L t = 5 ∧ decide ((cnt L t : Int) = e ∨ L.length = 10000) = true ∨ layE e L t = 0 ∧ decide ((cnt L t : Int) = e ∨ L.length = 10000) = false := by
  unfold layE
  by_cases h : (cnt L t : Int) = e ∨ L.length = 10000
  · exact .inl ⟨if_pos h, decide_eq_true h⟩
  · exact .inr ⟨if_neg h, decide_eq_false h⟩
theorem lay_com (h : NI s e L m) {d : Dat} (hb : d.2.2.length ≤ 131072) : net_Net_lay__com fuel d s e L m = some (if layE e L d.2.1 = 0 then .inr (0, (s, (e, (incM m d.2.1, L ++ [d])))) else .inl (5, (s, (e, (L, m))))) := by
  have := h.l
  unfold net_Net_lay__com
  rw [full_com h]
  simp only [Option.bind_some]
  rcases layE_or (e := e) (L := L) d.2.1 with ⟨h1, h2⟩ | ⟨h1, h2⟩
  · rw [h2, h1]; rfl
  · rw [h2, h1, cond_false, clone_is' (Nat.le_trans hb (by rw [roomIs]; omega))]
    simp only [Option.bind_some]
    rw [need_true (by rw [Bool.and_eq_true]; exact ⟨ble_true (by rw [roomIs]; omega), ble_true (by rw [roomIs]; omega)⟩)]
    rfl
theorem sendl_com (f t : Int) : net_Net_Send__com_l0_it fuel f t (0, (s, (e, (L, m)))) = some (if f < 0 ∨ s ≤ f ∨ t < 0 ∨ s ≤ t then .inr (.inl (2, (s, (e, (L, m))))) else .inl (s, (e, (L, m)))) := by
  unfold net_Net_Send__com_l0_it
  obtain ⟨n, hn⟩ := fuelS 2 (by omega)
  rw [hn]
  have step : ∀ (x : Nat) (y : Int), x < 2 → [f, t][x]? = some y → net_Net_Send__com_l0 fuel f t (x : Int) s e L m = some (if y < 0 ∨ s ≤ y then .inr (.inr (.inl (2, (s, (e, (L, m)))))) else .inl (((x + 1 : Nat) : Int), (s, (e, (L, m))))) := by
    intro x y hx hy
    unfold net_Net_Send__com_l0
    rw [decide_eq_true (by omega), idx_nat hx]
    simp only [cond_true, Option.bind_some, hy]
    by_cases h1 : y < 0
    · rw [decide_eq_true h1, if_pos (.inl h1)]; rfl
    · rw [decide_eq_false h1]
      by_cases h2 : s ≤ y
      · rw [if_pos (.inr h2)]
        have : decide (y ≥ s) = true := decide_eq_true h2
        simp only [this, cond_false, Option.bind_some, cond_true]
      · rw [if_neg (by omega)]
        have : decide (y ≥ s) = false := decide_eq_false h2
        simp only [this, cond_false, Option.bind_some]
        rw [w64 ⟨by omega, by omega⟩]
        congr 3
  have s0 := step 0 f (by omega) rfl
  have s1 := step 1 t (by omega) rfl
  by_cases h1 : f < 0 ∨ s ≤ f
  · rw [if_pos (by omega)]
    rw [if_pos h1] at s0
    exact iter_inr s0
  · rw [if_neg h1] at s0
    refine (iter_inl s0).trans ?_
    by_cases h2 : t < 0 ∨ s ≤ t
    · rw [if_pos (by omega)]
      rw [if_pos h2] at s1
      exact iter_inr s1
    · rw [if_neg (by omega)]
      rw [if_neg h2] at s1
      refine (iter_inl s1).trans (iter_inr ?_)
      rfl
theorem send_com (h : NI s e L m) (f t : Int) {b : List UInt8} : net_Net_Send__com fuel f t b s e L m = some (if sendE s e L f t b = 0 then .inr (0, (s, (e, (incM m t, L ++ [(f, (t, b))])))) else .inl (sendE s e L f t b, (s, (e, (L, m))))) := by
  unfold net_Net_Send__com net_Net_made__com
  simp only [Option.bind_some, Bool.not_true, cond_false]
  rw [sendl_com]
  unfold sendE
  by_cases h1 : f < 0 ∨ s ≤ f ∨ t < 0 ∨ s ≤ t
  · rw [if_pos h1, if_pos h1]; rfl
  · rw [if_neg h1, if_neg h1]
    simp only [Option.bind_some]
    by_cases h2 : 131072 < b.length
    · rw [if_pos h2, decide_eq_true (by omega)]; rfl
    · rw [if_neg h2, decide_eq_false (by omega), cond_false, lay_com h (by show b.length ≤ _; omega)]
      rcases layE_or (e := e) (L := L) t with ⟨h3, _⟩ | ⟨h3, _⟩
      · simp only [Option.bind_some, h3]; rfl
      · simp only [Option.bind_some, h3]; rfl
theorem look_com (h : NI s e L m) {i : Int} (hi : In64 i) : net_Net_Look__com fuel i s e L m = some (match (if 0 ≤ i then L[i.toNat]? else none) with | some d => (d.1, (d.2.1, (d.2.2, (true, (s, (e, (L, m))))))) | none => (0, (0, ([], (false, (s, (e, (L, m)))))))) := by
  have := h.l
  unfold net_Net_Look__com
  rw [there_com h hi]
  simp only [Option.bind_some]
  by_cases h1 : 0 ≤ i ∧ i < L.length
  · have hk : i.toNat < L.length := by omega
    rw [decide_eq_true h1, if_pos h1.1, List.getElem?_eq_getElem hk, idx_int h1.1 h1.2]
    have hb := h.b L[i.toNat] (List.getElem_mem hk)
    simp only [Bool.not_true, cond_false, Option.bind_some, List.getElem?_eq_getElem hk]
    rw [clone_is' (Nat.le_trans hb (by rw [roomIs]; omega))]
    rfl
  · rw [decide_eq_false h1]
    have : (if 0 ≤ i then L[i.toNat]? else none) = none := by
      by_cases h0 : 0 ≤ i
      · rw [if_pos h0]; exact List.getElem?_eq_none (by omega)
      · rw [if_neg h0]
    rw [this]
    rfl
/-- The i-th, if there is one. -/
def at? (L : List Dat) (i : Int) : Option Dat := if 0 ≤ i then L[i.toNat]? else none
theorem at_some {i : Int} {d : Dat} (h : at? L i = some d) : ∃ hk : i.toNat < L.length, 0 ≤ i ∧ i < L.length ∧ L[i.toNat] = d := by
  unfold at? at h
  split at h
  · obtain ⟨h1, h2⟩ := List.getElem?_eq_some_iff.1 h
    exact ⟨h1, by assumption, by omega, h2⟩
  · cases h
theorem at_none {i : Int} (h : at? L i = none) : ¬ (0 ≤ i ∧ i < L.length) := by
  unfold at? at h
  split at h
  · have := List.getElem?_eq_none_iff.1 h; omega
  · omega
theorem at_in {i : Int} (h : 0 ≤ i ∧ i < L.length) : ∃ hk : i.toNat < L.length, at? L i = some L[i.toNat] := by
  have hk : i.toNat < L.length := by omega
  exact ⟨hk, by unfold at?; rw [if_pos h.1, List.getElem?_eq_getElem hk]⟩
theorem copyE_some {i : Int} {d : Dat} (h : at? L i = some d) : copyE e L i = layE e L d.2.1 := by
  obtain ⟨hk, h0, h1, h2⟩ := at_some h
  unfold copyE
  rw [dif_pos ⟨h0, h1⟩, h2]
theorem copyE_none {i : Int} (h : at? L i = none) : copyE e L i = 2 := dif_neg (at_none h)
theorem copy_com (h : NI s e L m) {i : Int} (hi : In64 i) : net_Net_Copy__com fuel i s e L m = some (match at? L i with
    | some d => (if layE e L d.2.1 = 0 then .inr (0, (s, (e, (incM m d.2.1, L ++ [d])))) else .inl (5, (s, (e, (L, m)))))
    | none => .inl (2, (s, (e, (L, m))))) := by
  unfold net_Net_Copy__com
  rw [show net_Net_made__com fuel s e L m = some (true, (s, (e, (L, m)))) from rfl]
  simp only [Option.bind_some, Bool.not_true, cond_false]
  rw [there_com h hi]
  simp only [Option.bind_some]
  cases ha : at? L i with
  | none =>
    rw [decide_eq_false (at_none ha)]; rfl
  | some d =>
    obtain ⟨hk, h0, h1, h2⟩ := at_some ha
    have hb := h.b L[i.toNat] (List.getElem_mem hk)
    rw [h2] at hb
    rw [decide_eq_true ⟨h0, h1⟩, idx_int h0 h1]
    simp only [Bool.not_true, cond_false, Option.bind_some, List.getElem?_eq_getElem hk, h2]
    rw [lay_com h hb]
    rcases layE_or (e := e) (L := L) d.2.1 with ⟨h3, _⟩ | ⟨h3, _⟩
    · simp only [Option.bind_some, h3]; rfl
    · simp only [Option.bind_some, h3]; rfl
end
end Go.Ab.D

/- Layer 7, net: what goes from a heap; the chapter's examples. -/
namespace Go.Ab.D
theorem concat2_is {A B : List Dat} (h : A.length + B.length ≤ 10000) : slices_Concat__api_Datum_api_Datum fuel [A, B] = some (A ++ B) := by
  unfold slices_Concat__api_Datum_api_Datum slices_Concat__api_Datum_api_Datum_l0_it slices_Concat__api_Datum_api_Datum_l1_it
  have e0 : ∀ (z : Nat) (x : Nat) (C : List Dat), x < 2 → [A, B][x]? = some C → z + C.length ≤ 10000 → slices_Concat__api_Datum_api_Datum_l0 fuel [A, B] (z : Int) (x : Int) = some (.inl (((z + C.length : Nat) : Int), ((x + 1 : Nat) : Int))) := by
    intro z x C hx hC hz
    unfold slices_Concat__api_Datum_api_Datum_l0
    have hl : [A, B].length = 2 := rfl
    rw [hl, decide_eq_true (by omega), idx_nat hx]
    simp only [cond_true, Option.bind_some, hC]
    rw [w64 (x := (z : Int) + (C.length : Int)) ⟨by omega, by omega⟩, decide_eq_false (by omega), w64 ⟨by omega, by omega⟩]
    simp only [cond_false]
    congr 3
  have e1 : ∀ (H : List Dat) (x : Nat) (C : List Dat), x < 2 → [A, B][x]? = some C → H.length + C.length ≤ 10000 → slices_Concat__api_Datum_api_Datum_l1 fuel [A, B] (x : Int) H = some (.inl (((x + 1 : Nat) : Int), H ++ C)) := by
    intro H x C hx hC hz
    unfold slices_Concat__api_Datum_api_Datum_l1
    have hl : [A, B].length = 2 := rfl
    rw [hl, decide_eq_true (by omega), idx_nat hx]
    simp only [cond_true, Option.bind_some, hC]
    rw [need_true (by rw [Bool.and_eq_true]; exact ⟨ble_true (by rw [roomIs]; omega), ble_true (by rw [roomIs]; omega)⟩), w64 ⟨by omega, by omega⟩]
    congr 3
  have s0 : iter fuel (fun tt : Int × Int => slices_Concat__api_Datum_api_Datum_l0 fuel [A, B] tt.1 tt.2) (0, 0) = some ((A.length + B.length : Nat) : Int) := by
    obtain ⟨n, hn⟩ := fuelS 2 (by omega)
    rw [hn]
    refine (iter_inl (e0 0 0 A (by omega) rfl (by omega))).trans ((iter_inl (e0 (0 + A.length) 1 B (by omega) rfl (by omega))).trans (iter_inr ?_))
    show slices_Concat__api_Datum_api_Datum_l0 fuel [A, B] ((0 + A.length + B.length : Nat) : Int) _ = _
    rw [Nat.zero_add]
    rfl
  have s1 : iter fuel (fun tt : Int × List Dat => slices_Concat__api_Datum_api_Datum_l1 fuel [A, B] tt.1 tt.2) (0, []) = some (A ++ B) := by
    obtain ⟨n, hn⟩ := fuelS 2 (by omega)
    rw [hn]
    refine (iter_inl (e1 [] 0 A (by omega) rfl (by simp; omega))).trans ((iter_inl (e1 ([] ++ A) 1 B (by omega) rfl (by simp; omega))).trans (iter_inr ?_))
    rfl
  rw [s0]
  simp only [Option.bind_some]
  have s2 : slices_Grow__api_Datum_api_Datum_n0 fuel ((A.length + B.length : Nat) : Int) = some [] := by
    unfold slices_Grow__api_Datum_api_Datum_n0
    rw [decide_eq_false (by omega), w64 ⟨by omega, by omega⟩]
    simp only [cond_false]
    by_cases h0 : A.length + B.length = 0
    · rw [h0]; rfl
    · rw [decide_eq_true (by omega), upto_int (by omega) (by rw [roomIs]; omega)]
      simp only [cond_true, Option.bind_some]
      rw [need_true (by rw [Bool.and_eq_true]; exact ⟨ble_true (by rw [roomIs]; omega), ble_true (by rw [roomIs]; omega)⟩)]
      rfl
  rw [s2]
  simp only [Option.bind_some]
  rw [s1]
  rfl
section
variable {s e : Int} {L : List Dat} {m : NM}
theorem drop_com (h : NI s e L m) {i : Int} (hi : In64 i) : net_Net_Drop__com fuel i s e L m = some (match at? L i with
    | some d => .inr (true, (s, (e, (decM m d.2.1, (L, L.eraseIdx i.toNat)))))
    | none => .inl (false, (s, (e, (L, m))))) := by
  have := h.l
  unfold net_Net_Drop__com
  rw [there_com h hi]
  simp only [Option.bind_some]
  cases ha : at? L i with
  | none => rw [decide_eq_false (at_none ha)]; rfl
  | some d =>
    obtain ⟨hk, h0, h1, h2⟩ := at_some ha
    rw [decide_eq_true ⟨h0, h1⟩, idx_int h0 h1]
    simp only [Bool.not_true, cond_false, Option.bind_some, List.getElem?_eq_getElem hk, h2]
    rw [upto_int h0 (by omega), w64 ⟨by omega, by omega⟩, upto_int (by omega) (by omega)]
    simp only [Option.bind_some]
    rw [need_true (ble_true (by omega)), need_true (ble_true (by omega))]
    have e1 : List.take i.toNat (List.drop 0 L) = L.take i.toNat := rfl
    have e2 : List.take (L.length - (i + 1).toNat) (List.drop (i + 1).toNat L) = L.drop (i.toNat + 1) := by
      rw [List.take_of_length_le (by simp), show (i + 1).toNat = i.toNat + 1 by omega]
    rw [e1, e2, concat2_is (by simp; omega)]
    simp only [Option.bind_some]
    rw [← List.eraseIdx_eq_take_drop_succ]
    rfl
theorem take_com (h : NI s e L m) {i : Int} (hi : In64 i) : net_Net_Take__com fuel i s e L m = some (match at? L i with
    | some d => .inr (d.1, (d.2.1, (d.2.2, (true, (s, (e, (decM m d.2.1, (L, L.eraseIdx i.toNat))))))))
    | none => .inl (0, (0, ([], (false, (s, (e, (L, m)))))))) := by
  unfold net_Net_Take__com
  rw [look_com h hi]
  have e0 : (if 0 ≤ i then L[i.toNat]? else none) = at? L i := rfl
  rw [e0]
  simp only [Option.bind_some]
  cases ha : at? L i with
  | none => rfl
  | some d =>
    simp only [cond_true]
    rw [drop_com h hi, ha]
    rfl
/-- What is left when all for a station have gone. -/
def forgL (L : List Dat) (t : Int) : List Dat := L.filter fun d => !(d.2.1 == t)
def forgM (L : List Dat) (m : NM) (t : Int) : NM := if cnt L t = 0 then m else delI m t
theorem forgL_none {t : Int} (h : cnt L t = 0) : forgL L t = L := by
  unfold forgL
  rw [List.filter_eq_self]
  intro d hd
  unfold cnt at h
  have := (List.countP_eq_zero.1 h) d hd
  simpa using this
theorem NI.forg (h : NI s e L m) (t : Int) : NI s e (forgL L t) (forgM L m t) := by
  unfold forgM
  by_cases h0 : cnt L t = 0
  · rw [if_pos h0, forgL_none h0]; exact h
  · rw [if_neg h0]; exact h.forget t
/-- Where the first one for a station stands. -/
theorem index_is {t : Int} (hl : L.length ≤ 10000) : slices_IndexFunc__api_Datum_api_Datum_o0f11 fuel L t = some (match L.findIdx? (fun d => d.2.1 == t) with | some k => (k : Int) | none => -1, (L, t)) := by
  unfold slices_IndexFunc__api_Datum_api_Datum_o0f11 slices_IndexFunc__api_Datum_api_Datum_o0f11_l0_it
  have step : ∀ (k : Nat) (hk : k < L.length), slices_IndexFunc__api_Datum_api_Datum_o0f11_l0 fuel L (k : Int) L t = some (if L[k].2.1 = t then .inr (.inr ((k : Int), (L, t))) else .inl (((k + 1 : Nat) : Int), (L, t))) := by
    intro k hk
    unfold slices_IndexFunc__api_Datum_api_Datum_o0f11_l0 net_Net_Forget_1
    rw [decide_eq_true (by omega), idx_nat hk]
    simp only [cond_true, Option.bind_some, List.getElem?_eq_getElem hk]
    by_cases h : L[k].2.1 = t
    · rw [beq_iff_eq.2 h, if_pos h]; rfl
    · rw [beq_eq_false_iff_ne.2 h, if_neg h, w64 ⟨by omega, by omega⟩]; rfl
  cases hf : L.findIdx? (fun d => d.2.1 == t) with
  | none =>
    rw [List.findIdx?_eq_none_iff] at hf
    have := iter_range (f := fun (tt : Int × (List Dat × Int)) => slices_IndexFunc__api_Datum_api_Datum_o0f11_l0 fuel L tt.1 tt.2.1 tt.2.2) (o := .inl (L, t)) (fun k => ((k : Int), (L, t))) L.length (by omega) (fun k hk => by
        show slices_IndexFunc__api_Datum_api_Datum_o0f11_l0 fuel L (k : Int) L t = _
        rw [step k hk, if_neg (by have := hf L[k] (List.getElem_mem hk); simpa using this)]) (by
        show slices_IndexFunc__api_Datum_api_Datum_o0f11_l0 fuel L (L.length : Int) L t = _
        unfold slices_IndexFunc__api_Datum_api_Datum_o0f11_l0
        rw [decide_eq_false (by omega)]; rfl)
    have this2 : iter fuel (fun (tt : Int × (List Dat × Int)) => slices_IndexFunc__api_Datum_api_Datum_o0f11_l0 fuel L tt.1 tt.2.1 tt.2.2) (0, (L, t)) = some (.inl (L, t)) := this
    rw [this2]
    rfl
  | some n =>
    rw [List.findIdx?_eq_some_iff_getElem] at hf
    obtain ⟨hn, h1, h2⟩ := hf
    have := iter_range (f := fun (tt : Int × (List Dat × Int)) => slices_IndexFunc__api_Datum_api_Datum_o0f11_l0 fuel L tt.1 tt.2.1 tt.2.2) (o := .inr ((n : Int), (L, t))) (fun k => ((k : Int), (L, t))) n (by omega) (fun k hk => by
        show slices_IndexFunc__api_Datum_api_Datum_o0f11_l0 fuel L (k : Int) L t = _
        rw [step k (by omega), if_neg (by have := h2 k hk; simpa using this)]) (by
        show slices_IndexFunc__api_Datum_api_Datum_o0f11_l0 fuel L (n : Int) L t = _
        rw [step n hn, if_pos (by simpa using h1)])
    have this2 : iter fuel (fun (tt : Int × (List Dat × Int)) => slices_IndexFunc__api_Datum_api_Datum_o0f11_l0 fuel L tt.1 tt.2.1 tt.2.2) (0, (L, t)) = some (.inr ((n : Int), (L, t))) := this
    rw [this2]
    rfl
end
end Go.Ab.D

/- Layer 7, net: all for a station go; the calls once more, each with what holds behind it; the chapter's examples. -/
namespace Go.Ab.D
section
variable {s e : Int} {L : List Dat} {m : NM}
def delS (L : List Dat) (t : Int) (n : Nat) : Nat → Nat × List Dat
  | 0 => (n, L)
  | k + 1 => match L[n + 1 + k]? with
    | some d => if d.2.1 = t then delS L t n k else ((delS L t n k).1 + 1, (delS L t n k).2.set (delS L t n k).1 d)
    | none => delS L t n k
theorem forgL_snoc (A : List Dat) (d : Dat) (t : Int) : forgL (A ++ [d]) t = forgL A t ++ (if d.2.1 = t then [] else [d]) := by
  unfold forgL
  rw [List.filter_append]
  by_cases h : d.2.1 = t
  · rw [if_pos h]; simp [h]
  · rw [if_neg h]; simp [h]
theorem delS_inv {t : Int} {n : Nat} (hn : n < L.length) (h1 : L[n].2.1 = t) (h2 : ∀ j (hj : j < n), L[j].2.1 ≠ t) : ∀ k, n + 1 + k ≤ L.length →
    (delS L t n k).2.length = L.length ∧ (delS L t n k).1 ≤ n + k ∧ (delS L t n k).2.take (delS L t n k).1 = forgL (L.take (n + 1 + k)) t ∧ ∀ j, n + 1 + k ≤ j → (delS L t n k).2[j]? = L[j]?
  | 0, _ => by
    refine ⟨rfl, Nat.le_refl _, ?_, fun j _ => rfl⟩
    show L.take n = forgL (L.take (n + 1)) t
    rw [List.take_succ_eq_append_getElem hn, forgL_snoc, if_pos h1, List.append_nil]
    unfold forgL
    rw [eq_comm, List.filter_eq_self]
    intro d hd
    obtain ⟨j, hj, rfl⟩ := List.getElem_of_mem hd
    have hj' : j < n := by simp at hj; omega
    have := h2 j hj'
    simpa using this
  | k + 1, hk => by
    obtain ⟨a1, a2, a3, a4⟩ := delS_inv hn h1 h2 k (by omega)
    have hk' : n + 1 + k < L.length := by omega
    have hs : L.take (n + 1 + (k + 1)) = L.take (n + 1 + k) ++ [L[n + 1 + k]] := List.take_succ_eq_append_getElem hk'
    rw [hs, forgL_snoc]
    show (match L[n + 1 + k]? with | some d => if d.2.1 = t then delS L t n k else ((delS L t n k).1 + 1, (delS L t n k).2.set (delS L t n k).1 d) | none => delS L t n k).2.length = _ ∧ _
    have e : delS L t n (k + 1) = if L[n + 1 + k].2.1 = t then delS L t n k else ((delS L t n k).1 + 1, (delS L t n k).2.set (delS L t n k).1 L[n + 1 + k]) := by
      show (match L[n + 1 + k]? with | some d => if d.2.1 = t then delS L t n k else ((delS L t n k).1 + 1, (delS L t n k).2.set (delS L t n k).1 d) | none => delS L t n k) = _
      rw [List.getElem?_eq_getElem hk']
    show (delS L t n (k + 1)).2.length = _ ∧ _
    rw [e]
    by_cases ht : L[n + 1 + k].2.1 = t
    · rw [if_pos ht, if_pos ht, List.append_nil]
      exact ⟨a1, by omega, a3, fun j hj => a4 j (by omega)⟩
    · rw [if_neg ht, if_neg ht]
      generalize delS L t n k = r at a1 a2 a3 a4
      have hi : r.1 < r.2.length := by omega
      refine ⟨by simpa using a1, by show r.1 + 1 ≤ _; omega, ?_, fun j hj => ?_⟩
      · show (r.2.set r.1 L[n + 1 + k]).take (r.1 + 1) = _
        rw [List.take_succ_eq_append_getElem (by simpa using hi), List.getElem_set_self, List.take_set_of_le (Nat.le_refl _), a3]
      · show (r.2.set r.1 L[n + 1 + k])[j]? = _
        rw [List.getElem?_set_ne (by omega)]
        exact a4 j (by omega)
theorem delete_is {t : Int} (hl : L.length ≤ 10000) : slices_DeleteFunc__api_Datum_api_Datum_o0f11 fuel L t = some (if cnt L t = 0 then .inl (L, t) else .inr (t, forgL L t)) := by
  unfold slices_DeleteFunc__api_Datum_api_Datum_o0f11
  rw [index_is hl]
  simp only [Option.bind_some]
  cases hf : L.findIdx? (fun d => d.2.1 == t) with
  | none =>
    have : cnt L t = 0 := by
      unfold cnt
      rw [List.countP_eq_zero]
      intro d hd
      rw [List.findIdx?_eq_none_iff] at hf
      simpa using hf d hd
    rw [if_pos this]
    rfl
  | some n =>
    rw [List.findIdx?_eq_some_iff_getElem] at hf
    obtain ⟨hn, h1, h2⟩ := hf
    have h1' : L[n].2.1 = t := by simpa using h1
    have h2' : ∀ j (hj : j < n), L[j].2.1 ≠ t := fun j hj => by have := h2 j hj; simpa using this
    have hc : cnt L t ≠ 0 := by
      unfold cnt
      intro h0
      have := (List.countP_eq_zero.1 h0) L[n] (List.getElem_mem hn)
      simp [h1'] at this
    have hb : ((n : Int) == -1) = false := beq_eq_false_iff_ne.2 (by omega)
    simp only [hb, cond_false]
    rw [if_neg hc, w64 ⟨by omega, by omega⟩]
    have inv := delS_inv hn h1' h2'
    have hit : slices_DeleteFunc__api_Datum_api_Datum_o0f11_l0_it fuel ((n : Int), ((n : Int) + 1, (L, t))) = some (((delS L t n (L.length - (n + 1))).1 : Int), ((delS L t n (L.length - (n + 1))).2, t)) := by
      unfold slices_DeleteFunc__api_Datum_api_Datum_o0f11_l0_it
      have := iter_range (f := fun (tt : Int × (Int × (List Dat × Int))) => slices_DeleteFunc__api_Datum_api_Datum_o0f11_l0 fuel tt.1 tt.2.1 tt.2.2.1 tt.2.2.2) (o := (((delS L t n (L.length - (n + 1))).1 : Int), ((delS L t n (L.length - (n + 1))).2, t)))
        (fun k => (((delS L t n k).1 : Int), (((n + 1 + k : Nat) : Int), ((delS L t n k).2, t)))) (L.length - (n + 1)) (by omega) (fun k hk => by
          obtain ⟨a1, a2, a3, a4⟩ := inv k (by omega)
          have hk' : n + 1 + k < L.length := by omega
          have hq : (delS L t n k).2[n + 1 + k]? = some L[n + 1 + k] := by rw [a4 _ (Nat.le_refl _), List.getElem?_eq_getElem hk']
          have e : delS L t n (k + 1) = if L[n + 1 + k].2.1 = t then delS L t n k else ((delS L t n k).1 + 1, (delS L t n k).2.set (delS L t n k).1 L[n + 1 + k]) := by
            show (match L[n + 1 + k]? with | some d => if d.2.1 = t then delS L t n k else ((delS L t n k).1 + 1, (delS L t n k).2.set (delS L t n k).1 d) | none => delS L t n k) = _
            rw [List.getElem?_eq_getElem hk']
          rw [e]
          show slices_DeleteFunc__api_Datum_api_Datum_o0f11_l0 fuel ((delS L t n k).1 : Int) ((n + 1 + k : Nat) : Int) (delS L t n k).2 t = _
          generalize delS L t n k = r at a1 a2 a3 a4 hq ⊢
          unfold slices_DeleteFunc__api_Datum_api_Datum_o0f11_l0 net_Net_Forget_1
          have hi : r.1 < r.2.length := by omega
          rw [decide_eq_true (by omega), idx_nat (by omega), idx_nat hi]
          simp only [cond_true, Option.bind_some, hq, List.getElem?_eq_getElem hi]
          rw [w64 (x := ((n + 1 + k : Nat) : Int) + 1) ⟨by omega, by omega⟩]
          by_cases ht : L[n + 1 + k].2.1 = t
          · rw [beq_iff_eq.2 ht, if_pos ht]
            simp only [Bool.not_true, cond_false, Option.bind_some]
            congr 4
          · rw [beq_eq_false_iff_ne.2 ht, if_neg ht, w64 ⟨by omega, by omega⟩]
            simp only [Bool.not_false, cond_true, Option.bind_some]
            congr 4) (by
          obtain ⟨a1, a2, a3, a4⟩ := inv (L.length - (n + 1)) (by omega)
          show slices_DeleteFunc__api_Datum_api_Datum_o0f11_l0 fuel ((delS L t n (L.length - (n + 1))).1 : Int) ((n + 1 + (L.length - (n + 1)) : Nat) : Int) (delS L t n (L.length - (n + 1))).2 t = _
          unfold slices_DeleteFunc__api_Datum_api_Datum_o0f11_l0
          rw [decide_eq_false (by omega)]
          rfl)
      exact this
    rw [hit]
    simp only [Option.bind_some]
    obtain ⟨a1, a2, a3, a4⟩ := inv (L.length - (n + 1)) (by omega)
    generalize delS L t n (L.length - (n + 1)) = r at a1 a2 a3 a4 ⊢
    have hi : r.1 ≤ r.2.length := by omega
    rw [upto_nat hi]
    simp only [Option.bind_some]
    rw [need_true (ble_true (by omega))]
    have hsl : (splice r.2 r.1 (List.replicate (r.2.length - r.1) ((0 : Int), ((0 : Int), ([] : List UInt8))))).length = r.2.length := by
      unfold splice; simp; omega
    rw [hsl, upto_nat hi]
    simp only [Option.bind_some]
    rw [need_true (ble_true hi)]
    have : (splice r.2 r.1 (List.replicate (r.2.length - r.1) ((0 : Int), ((0 : Int), ([] : List UInt8))))).take r.1 = forgL L t := by
      unfold splice
      rw [List.append_assoc, List.take_append_of_le_length (by simp; omega), List.take_take, Nat.min_self, a3]
      rw [List.take_of_length_le (by omega)]
    rw [this]
theorem forget_com (h : NI s e L m) (t : Int) : net_Net_Forget__com fuel t s e L m = some ((cnt L t : Int), (s, (e, (forgM L m t, forgL L t)))) := by
  unfold net_Net_Forget__com
  rw [waiting_com h]
  simp only [Option.bind_some]
  unfold forgM
  by_cases h0 : cnt L t = 0
  · rw [if_pos h0, h0, forgL_none h0]; rfl
  · rw [if_neg h0, decide_eq_true (by omega), cond_true, delete_is h.l, if_neg h0]
    rfl

/-! Each call, with what holds behind it -/
theorem sendE_zero {f t : Int} {b : List UInt8} (h : sendE s e L f t b = 0) : (0 ≤ f ∧ f < s) ∧ (0 ≤ t ∧ t < s) ∧ b.length ≤ 131072 ∧ (cnt L t : Int) ≠ e ∧ L.length ≠ 10000 := by
  unfold sendE layE at h
  split at h
  · cases h
  · split at h
    · cases h
    · split at h
      · cases h
      · omega
theorem NI.send (h : NI s e L m) {f t : Int} {b : List UInt8} (he : sendE s e L f t b = 0) : NI s e (L ++ [(f, (t, b))]) (incM m t) := by
  obtain ⟨h1, h2, h3, h4, h5⟩ := sendE_zero he
  have := h.q t
  have := h.l
  exact h.inc (d := (f, (t, b))) ⟨h1, h2⟩ h3 (by show (cnt L t : Int) < e; omega) (by omega)
theorem NI.copy (h : NI s e L m) {i : Int} {d : Dat} (ha : at? L i = some d) (he : layE e L d.2.1 = 0) : NI s e (L ++ [d]) (incM m d.2.1) := by
  obtain ⟨hk, h0, h1, h2⟩ := at_some ha
  have ho := h.o L[i.toNat] (List.getElem_mem hk)
  have hb := h.b L[i.toNat] (List.getElem_mem hk)
  rw [h2] at ho hb
  have := h.q d.2.1
  have := h.l
  unfold layE at he
  split at he
  · cases he
  · exact h.inc ho hb (by omega) (by omega)
theorem NI.drop (h : NI s e L m) {i : Int} {d : Dat} (ha : at? L i = some d) : NI s e (L.eraseIdx i.toNat) (decM m d.2.1) := by
  obtain ⟨hk, h0, h1, h2⟩ := at_some ha
  have := h.dec hk
  rwa [h2] at this
end
end Go.Ab.D

/- Layer 7, net: the chapter's examples come out. -/
namespace Go.Ab.D
section
variable {s e : Int} {L : List Dat} {m : NM}
theorem is_com (h : NI s e L m) {i f t : Int} {b : List UInt8} (hi : In64 i) (hb : b.length ≤ 1000000) : law07_is__com fuel i f t b s e L m = some (decide (at? L i = some (f, (t, b))), (s, (e, (L, m)))) := by
  unfold law07_is__com
  rw [look_com h hi]
  have e0 : (if 0 ≤ i then L[i.toNat]? else none) = at? L i := rfl
  rw [e0]
  simp only [Option.bind_some]
  cases ha : at? L i with
  | none => rw [decide_eq_false (by simp)]; rfl
  | some d =>
    simp only [cond_true]
    rw [need_true (ble_true (by rw [roomIs]; omega)), like_is]
    simp only [Option.bind_some, Option.some.injEq]
theorem in64 {i : Int} (h0 : -1000000 ≤ i) (h : i ≤ 1000000) : In64 i := ⟨by omega, by omega⟩
end
theorem awake_is : law07_awake fuel = some true := by
  have h0 : NI 2 2 [] ([], 0) := NI.empty (by omega) (by omega)
  have k1 : sendE 2 2 [] 0 1 [UInt8.ofNat 97] = 0 := by decide
  have h1 := h0.send k1
  generalize hm1 : incM ([], 0) 1 = m1 at h1
  have k2 : sendE 2 2 ([] ++ [(0, (1, [UInt8.ofNat 97]))]) 1 0 [UInt8.ofNat 98] = 0 := by decide
  have h2 := h1.send k2
  generalize hm2 : incM m1 0 = m2 at h2
  generalize hL2 : ([] : List Dat) ++ [(0, (1, [UInt8.ofNat 97]))] ++ [(1, (0, [UInt8.ofNat 98]))] = L2 at h2
  have a2 : at? L2 0 = some (0, (1, [UInt8.ofNat 97])) := by rw [← hL2]; rfl
  have k3 : layE 2 L2 ((0, (1, [UInt8.ofNat 97])) : Dat).2.1 = 0 := by rw [← hL2]; decide
  have h3 := h2.copy a2 k3
  generalize hm3 : incM m2 _ = m3 at h3
  generalize hL3 : L2 ++ [((0, (1, [UInt8.ofNat 97])) : Dat)] = L3 at h3
  have i0 : at? L3 0 = some (0, (1, [97])) := by rw [← hL3, ← hL2]; rfl
  have i1 : at? L3 1 = some (1, (0, [98])) := by rw [← hL3, ← hL2]; rfl
  have i2 : at? L3 2 = some (0, (1, [97])) := by rw [← hL3, ← hL2]; rfl
  have k4 : sendE 2 2 L3 0 1 [UInt8.ofNat 99] = 5 := by rw [← hL3, ← hL2]; decide
  have h4 := h3.drop i1
  generalize hm4 : decM m3 _ = m4 at h4
  generalize hL4 : L3.eraseIdx _ = L4 at h4
  have i4 : at? L4 0 = some (0, (1, [97])) := by rw [← hL4, ← hL3, ← hL2]; rfl
  have h5 := h4.drop i4
  generalize hm5 : decM m4 _ = m5 at h5
  generalize hL5 : L4.eraseIdx _ = L5 at h5
  have h6 := h5.forg 1
  have c3 : cnt L3 1 = 2 := by rw [← hL3, ← hL2]; rfl
  have c5 : cnt L5 1 = 1 := by rw [← hL5, ← hL4, ← hL3, ← hL2]; rfl
  have l5 : forgL L5 1 = [] := by rw [← hL5, ← hL4, ← hL3, ← hL2]; rfl
  have n2 : L2.length = 2 := by rw [← hL2]; rfl
  have n3 : L3.length = 3 := by rw [← hL3, ← hL2]; rfl
  rw [l5] at h6
  unfold law07_awake
  rw [new_is, if_pos (by omega)]
  simp only [Option.bind_some]
  rw [show (!((0 : Int) == 0)) = false from rfl]
  simp only [cond_false]
  rw [send_com h0, if_pos k1, hm1]
  simp only [Option.bind_some, show (!((0 : Int) == 0)) = false from rfl, cond_false]
  rw [send_com h1, if_pos k2, hm2, hL2]
  simp only [Option.bind_some, show (!((0 : Int) == 0)) = false from rfl, cond_false]
  rw [flying_com, n2]
  simp only [Option.bind_some, show (!(((2 : Nat) : Int) == 2)) = false from rfl, cond_false]
  rw [copy_com h2 (in64 (by omega) (by omega)), a2]
  simp only [if_pos k3, hm3, hL3, Option.bind_some, show (!((0 : Int) == 0)) = false from rfl, cond_false]
  rw [flying_com, n3]
  simp only [Option.bind_some, show (((3 : Nat) : Int) == 3) = true from rfl, cond_true]
  rw [is_com h3 (in64 (by omega) (by omega)) (by decide), decide_eq_true i0]
  simp only [Option.bind_some, cond_true]
  rw [is_com h3 (in64 (by omega) (by omega)) (by decide), decide_eq_true i1]
  simp only [Option.bind_some, cond_true]
  rw [is_com h3 (in64 (by omega) (by omega)) (by decide), decide_eq_true i2]
  simp only [Option.bind_some, cond_true]
  rw [waiting_com h3, c3]
  simp only [Option.bind_some, show (((2 : Nat) : Int) == 2) = true from rfl]
  rw [send_com h3, k4]
  simp only [Option.bind_some, show ((5 : Int) = 0) = False from by simp, if_false]
  rw [take_com h3 (in64 (by omega) (by omega)), i1]
  simp only [Option.bind_some, hm4, hL4, Bool.not_true, cond_false, show (!((5 : Int) == 5)) = false from rfl, like_is]
  rw [decide_eq_true (by rfl)]
  simp only [Bool.not_true, cond_false]
  rw [drop_com h4 (in64 (by omega) (by omega)), i4]
  simp only [Option.bind_some, hm5, hL5, Bool.not_true, cond_false]
  rw [forget_com h5, c5, l5]
  simp only [Option.bind_some, show (!(((1 : Nat) : Int) == 1)) = false from rfl, cond_false]
  rw [look_com h6 (in64 (by omega) (by omega))]
  rfl
end Go.Ab.D

/- Loops over maps, in plain words: what holds in whatever order the entries come. -/
namespace Go.Ab
section
variable {τ κ ο γ : Type} {hd : τ → Option (List (κ × Nat))} {f : τ → κ × Nat → Option (τ ⊕ ο)}
theorem MOk_both {Q Q' : τ ⊕ ο → Prop} : ∀ (n n' : Nat) (seen : List Nat) (t : τ), MOk hd f Q n seen t → MOk hd f Q' n' seen t → ∃ o, Q o ∧ Q' o
  | 0, _, _, _, h, _ => h.elim
  | _ + 1, 0, _, _, _, h => h.elim
  | n + 1, n' + 1, seen, t, h, h' => by
    obtain ⟨l, h1, h2, h3⟩ := h
    obtain ⟨l', h1', h2', h3'⟩ := h'
    rw [h1] at h1'
    simp only [Option.some.injEq] at h1'
    subst h1'
    cases hm : mleft seen l with
    | nil => exact ⟨_, h2 hm, h2' hm⟩
    | cons e r =>
      have he : e ∈ mleft seen l := by rw [hm]; exact List.mem_cons_self
      rcases h3 e he with ⟨t1, p1, p2⟩ | ⟨o, p1, p2⟩ <;> rcases h3' e he with ⟨t2, q1, q2⟩ | ⟨o', q1, q2⟩
      · rw [p1] at q1
        simp only [Option.some.injEq, Sum.inl.injEq] at q1
        subst q1
        exact MOk_both n n' _ _ p2 q2
      · rw [p1] at q1; simp at q1
      · rw [p1] at q1; simp at q1
      · rw [p1] at q1
        simp only [Option.some.injEq, Sum.inr.injEq] at q1
        subst q1
        exact ⟨_, p2, q2⟩
theorem mAll_eq {t0 : τ} {F : τ ⊕ ο → Option γ} {r : γ} {n : Nat} (h : MOk hd f (fun o => F o = some r) n [] t0) : mAll hd f t0 F = some r := by
  unfold mAll
  split
  · rename_i hx
    obtain ⟨n', hn'⟩ := Classical.choose_spec hx
    obtain ⟨o, h1, h2⟩ := MOk_both _ _ _ _ h hn'
    rw [h1] at h2
    exact h2.symm
  · rename_i hx
    exact absurd ⟨r, n, h⟩ hx
/-- By what holds between the rounds: d has come, in this order. -/
theorem mAll_inv {l0 : List (κ × Nat)} {t0 : τ} {F : τ ⊕ ο → Option γ} {r : γ} (hn : (l0.map (·.2)).Nodup) (I : List (κ × Nat) → τ → Prop) (h0 : I [] t0) (hhd : ∀ d t, I d t → hd t = some l0)
    (hs : ∀ d t e rest, I d t → (d ++ e :: rest).Perm l0 → (∃ t', f t e = some (.inl t') ∧ I (d ++ [e]) t') ∨ (∃ o, f t e = some (.inr o) ∧ F (.inr o) = some r))
    (hf : ∀ d t, I d t → d.Perm l0 → F (.inl t) = some r) : mAll hd f t0 F = some r := by
  have main : ∀ (n : Nat) (d rest : List (κ × Nat)) (t : τ), rest.length = n → (d ++ rest).Perm l0 → I d t → MOk hd f (fun o => F o = some r) (n + 1) (d.map (·.2)).reverse t := by
    intro n
    induction n with
    | zero =>
      intro d rest t hlen hp hi
      obtain rfl := List.eq_nil_of_length_eq_zero hlen
      rw [List.append_nil] at hp
      refine ⟨l0, hhd d t hi, fun _ => hf d t hi hp, fun e he => ?_⟩
      exfalso
      obtain ⟨h1, h2⟩ := List.mem_filter.1 he
      have h3 : e ∈ d := hp.mem_iff.2 h1
      simp only [Bool.not_eq_true'] at h2
      have h4 : memN e.2 (d.map (·.2)).reverse = true := memN_iff.2 (by simpa using ⟨e.1, h3⟩)
      rw [h4] at h2; cases h2
    | succ n ih =>
      intro d rest t hlen hp hi
      have hnd : ((d ++ rest).map (·.2)).Nodup := (hp.map _).nodup_iff.2 hn
      have hd1 : ∀ e ∈ rest, memN e.2 (d.map (·.2)).reverse = false := fun e he => by
        cases hm : memN e.2 (d.map (·.2)).reverse with
        | false => rfl
        | true =>
          have := memN_iff.1 hm
          rw [List.mem_reverse] at this
          rw [List.map_append, List.nodup_append] at hnd
          exact absurd rfl (hnd.2.2 _ this _ (List.mem_map.2 ⟨e, he, rfl⟩))
      refine ⟨l0, hhd d t hi, fun hm => ?_, fun e he => ?_⟩
      · exfalso
        cases rest with
        | nil => cases hlen
        | cons e rest =>
          have : e ∈ mleft (d.map (·.2)).reverse l0 := List.mem_filter.2 ⟨hp.mem_iff.1 (by simp), by rw [hd1 e (by simp)]; rfl⟩
          rw [hm] at this
          cases this
      · obtain ⟨h1, h2⟩ := List.mem_filter.1 he
        have h3 : e ∈ rest := by
          rcases List.mem_append.1 (hp.mem_iff.2 h1) with h | h
          · exfalso
            simp only [Bool.not_eq_true'] at h2
            have h4 : memN e.2 (d.map (·.2)).reverse = true := memN_iff.2 (by simpa using ⟨e.1, h⟩)
            rw [h4] at h2; cases h2
          · exact h
        obtain ⟨r1, r2, rfl⟩ := List.append_of_mem h3
        have hp' : (d ++ e :: (r1 ++ r2)).Perm l0 := (List.Perm.append_left d List.perm_middle.symm).trans hp
        rcases hs d t e (r1 ++ r2) hi hp' with ⟨t', p1, p2⟩ | ⟨o, p1, p2⟩
        · left
          refine ⟨t', p1, ?_⟩
          have := ih (d ++ [e]) (r1 ++ r2) t' (by simp at hlen ⊢; omega) (by simpa using hp') p2
          simpa using this
        · exact .inr ⟨o, p1, p2⟩
  have := main l0.length [] l0 t0 rfl (List.Perm.refl _) h0
  exact mAll_eq this
end
end Go.Ab

/- Layer 7, net: a ledger of texts, beside a heap. -/
namespace Go.Ab
section
variable {k v : Ty}
/-- A map's numbers are told apart, and have been told. -/
structure Born (m : GMap k v) : Prop where
  st : (m.1.map (·.2)).Nodup
  lo : ∀ e ∈ m.1, e.2 < m.2
theorem Born.empty : Born (k := k) (v := v) ([], 0) := ⟨by simp, by simp⟩
theorem mset_born : ∀ (l : List ((k.den × v.den) × Nat)) (x : k.den) (y : v.den), (mset l x y).map (·.2) = l.map (·.2)
  | [], x, y => rfl
  | ((a, b), n) :: l, x, y => by
    show (bif k.eqb x a then ((x, y), n) :: l else ((a, b), n) :: mset l x y).map (·.2) = _
    cases k.eqb x a with
    | true => rfl
    | false => simp only [cond_false, List.map_cons, mset_born l x y]
theorem Born.put {m : GMap k v} (h : Born m) (x : k.den) (y : v.den) : Born (mput m x y) := by
  unfold mput
  cases mfind m.1 x with
  | some e0 =>
    refine ⟨?_, fun e he => ?_⟩
    · show ((mset m.1 x y).map (·.2)).Nodup
      rw [mset_born]; exact h.st
    · have : e.2 ∈ (mset m.1 x y).map (·.2) := List.mem_map.2 ⟨e, he, rfl⟩
      rw [mset_born] at this
      obtain ⟨e', h1, h2⟩ := List.mem_map.1 this
      have := h.lo e' h1
      show e.2 < m.2
      omega
  | none =>
    refine ⟨?_, fun e he => ?_⟩
    · show ((m.1 ++ [((x, y), m.2)]).map (·.2)).Nodup
      rw [List.map_append, List.nodup_append]
      refine ⟨h.st, by simp, fun p hp r hr hpr => ?_⟩
      obtain ⟨e', h1, h2⟩ := List.mem_map.1 hp
      have := h.lo e' h1
      simp only [List.map_cons, List.map_nil, List.mem_singleton] at hr
      omega
    · rcases List.mem_append.1 he with h1 | h1
      · have := h.lo e h1
        show e.2 < m.2 + 1
        omega
      · rw [List.mem_singleton] at h1
        subst h1
        show m.2 < m.2 + 1
        omega
theorem mfind_mem (hk : KeyEq k) : ∀ {l : List ((k.den × v.den) × Nat)} {e : (k.den × v.den) × Nat}, (l.map fun e => e.1.1).Nodup → e ∈ l → mfind l e.1.1 = some (e.1.2, e.2)
  | ((a, b), n) :: l, e, hn, he => by
    simp only [List.map_cons, List.nodup_cons] at hn
    show (bif k.eqb e.1.1 a then some (b, n) else mfind l e.1.1) = _
    rcases List.mem_cons.1 he with rfl | h
    · rw [hk.self]; rfl
    · have hne : e.1.1 ≠ a := fun q => hn.1 (List.mem_map.2 ⟨e, h, q⟩)
      rw [hk.ne hne]
      exact mfind_mem hk hn.2 h
theorem mget_mem (hk : KeyEq k) {m : GMap k v} (hm : keysU m) {e : (k.den × v.den) × Nat} (he : e ∈ m.1) : mget m e.1.1 = some e.1.2 := by
  unfold mget
  rw [mfind_mem hk hm he]
  rfl
theorem mput_keys (hk : KeyEq k) {m : GMap k v} {x : k.den} {y : v.den} {e : (k.den × v.den) × Nat} (he : e ∈ (mput m x y).1) : e.1.1 = x ∨ ∃ e' ∈ m.1, e'.1.1 = e.1.1 := by
  unfold mput at he
  cases hf : mfind m.1 x with
  | some e0 =>
    rw [hf] at he
    have : e.1.1 ∈ (mset m.1 x y).map fun e => e.1.1 := List.mem_map.2 ⟨e, he, rfl⟩
    rw [mset_keys hk] at this
    obtain ⟨e', h1, h2⟩ := List.mem_map.1 this
    exact .inr ⟨e', h1, h2⟩
  | none =>
    rw [hf] at he
    rcases List.mem_append.1 he with h1 | h1
    · exact .inr ⟨e, h1, rfl⟩
    · rw [List.mem_singleton] at h1
      subst h1
      exact .inl rfl
end
theorem keyEq_str : KeyEq .str := fun x a => by
  show ((x : List UInt8) == a) = true ↔ _
  exact beq_iff_eq
end Go.Ab
namespace Go.Ab.D
open Go Go.Ab
abbrev OM := GMap .str (.int .i64)
def getS (m : OM) (s : List UInt8) : Int := Option.getD (mget (k := .str) (v := .int .i64) m s) 0
theorem getS_put (m : OM) (s : List UInt8) (x : Int) : getS (mput (k := .str) (v := .int .i64) m s x) s = x := by
  unfold getS
  rw [mget_mput keyEq_str]
  rfl
theorem getS_put_ne (m : OM) (s : List UInt8) (x : Int) {z : List UInt8} (h : z ≠ s) : getS (mput (k := .str) (v := .int .i64) m s x) z = getS m z := by
  unfold getS
  rw [mget_mput_ne keyEq_str _ _ _ h]
/-- What a datagram says, as one text. -/
def tagB (d : Dat) : List UInt8 := [UInt8.ofNat d.1.toNat, UInt8.ofNat d.2.1.toNat] ++ d.2.2
theorem tag_is {d : Dat} (h1 : 0 ≤ d.1 ∧ d.1 < 5) (h2 : 0 ≤ d.2.1 ∧ d.2.1 < 5) (hb : d.2.2.length ≤ 131072) : law07_tag fuel d = some (tagB d) := by
  unfold law07_tag tagB
  have e1 : IntKind.wrap .u8 d.1 = ((d.1.toNat : Nat) : Int) := by rw [wu8 (by omega)]; omega
  have e2 : IntKind.wrap .u8 d.2.1 = ((d.2.1.toNat : Nat) : Int) := by rw [wu8 (by omega)]; omega
  rw [e1, e2, byte_nat (by omega), Option.bind_some, byte_nat (by omega), Option.bind_some, need_true (ble_true (by rw [roomIs]; omega))]
def cntG (L : List Dat) (s : List UInt8) : Nat := L.countP fun d => tagB d == s
theorem cntG_snoc (L : List Dat) (d : Dat) (s : List UInt8) : cntG (L ++ [d]) s = cntG L s + (if tagB d = s then 1 else 0) := by
  unfold cntG
  rw [List.countP_append, List.countP_singleton]
  simp
theorem cntG_le (L : List Dat) (s : List UInt8) : cntG L s ≤ L.length := List.countP_le_length
theorem cntG_split {L : List Dat} {i : Nat} (hi : i < L.length) (s : List UInt8) : cntG L s = cntG (L.eraseIdx i) s + (if tagB L[i] = s then 1 else 0) := by
  have e1 : L = L.take i ++ L[i] :: L.drop (i + 1) := by
    rw [← List.drop_eq_getElem_cons hi, List.take_append_drop]
  have e2 : L.eraseIdx i = L.take i ++ L.drop (i + 1) := List.eraseIdx_eq_take_drop_succ _ _
  rw [e2]
  conv => lhs; rw [e1]
  unfold cntG
  rw [List.countP_append, List.countP_append, List.countP_cons]
  simp only [beq_iff_eq]
  omega
/-- A ledger of a heap. -/
structure OI (o : OM) (f : List UInt8 → Nat) : Prop where
  u : keysU (k := .str) (v := .int .i64) o
  b : Born o
  c : ∀ s, getS o s = (f s : Int)
theorem OI.empty : OI ([], 0) (cntG []) := ⟨List.nodup_nil, .empty, fun s => rfl⟩
theorem OI.inc {o : OM} {f g : List UInt8 → Nat} (h : OI o f) {s : List UInt8} (hf : f s ≤ 20000) (hg : ∀ z, g z = f z + (if s = z then 1 else 0)) : OI (mput (k := .str) (v := .int .i64) o s (IntKind.wrap .i64 (getS o s + 1))) g := by
  refine ⟨keysU_mput keyEq_str h.u _ _, h.b.put _ _, fun z => ?_⟩
  by_cases hz : z = s
  · subst hz
    rw [getS_put, h.c, w64 (by omega), hg, if_pos rfl]; omega
  · rw [getS_put_ne _ _ _ hz, h.c, hg, if_neg (fun q => hz q.symm)]; omega
theorem OI.dec {o : OM} {f g : List UInt8 → Nat} (h : OI o f) {s : List UInt8} (hf : f s ≤ 20000) (hg : ∀ z, f z = g z + (if s = z then 1 else 0)) : OI (mput (k := .str) (v := .int .i64) o s (IntKind.wrap .i64 (getS o s - 1))) g := by
  refine ⟨keysU_mput keyEq_str h.u _ _, h.b.put _ _, fun z => ?_⟩
  by_cases hz : z = s
  · subst hz
    have := hg z
    rw [if_pos rfl] at this
    rw [getS_put, h.c, w64 (by omega)]; omega
  · have := hg z
    rw [if_neg (fun q => hz q.symm)] at this
    rw [getS_put_ne _ _ _ hz, h.c]; omega
end Go.Ab.D

/- Layer 7, net: what is forgotten; is the ledger balanced? -/
namespace Go.Ab.D
open Go Go.Ab
theorem NI.tag {L : List Dat} {m : NM} (h : NI 5 12 L m) {d : Dat} (hd : d ∈ L) : law07_tag fuel d = some (tagB d) := tag_is (h.o d hd).1 (h.o d hd).2 (h.b d hd)
theorem cntG_cons (d : Dat) (L : List Dat) (s : List UInt8) : cntG (d :: L) s = cntG L s + (if tagB d = s then 1 else 0) := by
  unfold cntG
  rw [List.countP_cons]
  simp
theorem ledger_look {L : List Dat} {m : NM} (h : NI 5 12 L m) {k : Nat} (hk : k < L.length) : net_Net_Look__com fuel (k : Int) 5 12 L m = some (L[k].1, (L[k].2.1, (L[k].2.2, (true, (5, (12, (L, m))))))) := by
  have := h.l
  rw [look_com h ⟨by omega, by omega⟩, if_pos (by omega)]
  rw [Int.toNat_natCast, List.getElem?_eq_getElem hk]
theorem forget_loop {L : List Dat} {m : NM} {o : OM} (h : NI 5 12 L m) (ho : OI o (cntG L)) (t : Int) :
    ∃ o', law07_NetLedger_l2_it fuel t (0, (5, (12, (L, (m, o))))) = some (5, (12, (L, (m, o')))) ∧ OI o' (cntG (forgL L t)) := by
  have hl := h.l
  have loop : ∃ r, law07_NetLedger_l2_it fuel t (0, (5, (12, (L, (m, o))))) = some r ∧ ∃ o', r = (5, (12, (L, (m, o')))) ∧ OI o' (cntG (forgL L t)) := by
    unfold law07_NetLedger_l2_it
    refine iter_ex (fun n s => ∃ (k : Nat) (ok : OM), s = ((k : Int), (5, (12, (L, (m, ok))))) ∧ OI ok (fun s => cntG (forgL (L.take k) t) s + cntG (L.drop k) s) ∧ k + n = L.length) _ (fun n s hI => ?_) (fun s hI => ?_) L.length _ (by omega) ⟨0, o, rfl, by
      have e : (fun s => cntG (forgL (L.take 0) t) s + cntG (L.drop 0) s) = cntG L := by funext s; simp [forgL, cntG]
      rw [e]; exact ho, by omega⟩
    · obtain ⟨k, ok, rfl, hk, hi⟩ := hI
      left
      have hlt : k < L.length := by omega
      have hdr : L.drop k = L[k] :: L.drop (k + 1) := List.drop_eq_getElem_cons hlt
      have htk : L.take (k + 1) = L.take k ++ [L[k]] := by rw [List.take_add_one, List.getElem?_eq_getElem hlt]; rfl
      have hfs := forgL_snoc (L.take k) L[k] t
      have hb : ∀ z, cntG (forgL (L.take k) t) z + cntG (L.drop k) z ≤ 20000 := fun z => by
        have h1 := cntG_le (forgL (L.take k) t) z
        have h2 := cntG_le (L.drop k) z
        have h3 : (forgL (L.take k) t).length ≤ (L.take k).length := by unfold forgL; exact List.length_filter_le _ _
        have h4 : (L.take k).length ≤ L.length := by rw [List.length_take]; omega
        have h5 : (L.drop k).length ≤ L.length := by rw [List.length_drop]; omega
        omega
      unfold law07_NetLedger_l2
      have hd : decide ((k : Int) < (L.length : Int)) = true := by simp; omega
      simp only [flying_com, Option.bind_some, hd, cond_true, ledger_look h hlt]
      by_cases ht : L[k].2.1 = t
      · have ht' : (L[k].2.1 == t) = true := by simpa using ht
        have htag := h.tag (List.getElem_mem hlt)
        simp only [ht', cond_true]
        rw [show ((L[k].1, (L[k].2.1, L[k].2.2)) : Dat) = L[k] from rfl, htag, Option.bind_some]
        refine ⟨_, rfl, k + 1, _, by rw [w64 (by omega)]; rfl, hk.dec (s := tagB L[k]) (hb _) (fun z => ?_), by omega⟩
        rw [htk, hfs, if_pos ht, List.append_nil, hdr, cntG_cons]
        omega
      · have ht' : (L[k].2.1 == t) = false := by simpa using ht
        simp only [ht', cond_false, Option.bind_some]
        refine ⟨_, rfl, k + 1, ok, by rw [w64 (by omega)]; rfl, ?_, by omega⟩
        have e : (fun s => cntG (forgL (L.take (k + 1)) t) s + cntG (L.drop (k + 1)) s) = fun s => cntG (forgL (L.take k) t) s + cntG (L.drop k) s := by
          funext z
          rw [htk, hfs, if_neg ht, cntG_snoc, hdr, cntG_cons]
          omega
        rw [e]
        exact hk
    · obtain ⟨k, ok, rfl, hk, hi⟩ := hI
      unfold law07_NetLedger_l2
      have hd : decide ((k : Int) < (L.length : Int)) = false := by simp; omega
      simp only [flying_com, Option.bind_some, hd, cond_false]
      refine ⟨_, rfl, ok, rfl, ?_⟩
      rw [List.take_of_length_le (by omega), List.drop_of_length_le (by omega)] at hk
      have e : (fun s => cntG (forgL L t) s + cntG [] s) = cntG (forgL L t) := by funext s; simp [cntG]
      rw [e] at hk
      exact hk
  obtain ⟨r, h1, o', rfl, h2⟩ := loop
  exact ⟨o', h1, h2⟩
theorem balanced_ok {L : List Dat} {m : NM} {o : OM} (h : NI 5 12 L m) (ho : OI o (cntG L)) : law07_balanced_m1_com fuel 5 12 L m o = some (true, (5, (12, (L, (m, o))))) := by
  have hl := h.l
  have loop : ∃ r, law07_balanced_m1_com_l0_it fuel (0, (5, (12, (L, (m, (o, ([], 0))))))) = some r ∧ ∃ sn : OM, r = .inl (5, (12, (L, (m, (o, sn))))) ∧ OI sn (cntG L) ∧ ∀ e ∈ sn.1, ∃ d ∈ L, tagB d = e.1.1 := by
    unfold law07_balanced_m1_com_l0_it
    refine iter_ex (fun n s => ∃ (k : Nat) (sn : OM), s = ((k : Int), (5, (12, (L, (m, (o, sn)))))) ∧ OI sn (cntG (L.take k)) ∧ (∀ e ∈ sn.1, ∃ d ∈ L, tagB d = e.1.1) ∧ k + n = L.length) _ (fun n s hI => ?_) (fun s hI => ?_) L.length _ (by omega) ⟨0, _, rfl, .empty, (fun e he => by simp at he), by omega⟩
    · obtain ⟨k, sn, rfl, hk, hkeys, hi⟩ := hI
      left
      have hlt : k < L.length := by omega
      have htk : L.take (k + 1) = L.take k ++ [L[k]] := by rw [List.take_add_one, List.getElem?_eq_getElem hlt]; rfl
      have htag := h.tag (List.getElem_mem hlt)
      unfold law07_balanced_m1_com_l0
      have hd : decide ((k : Int) < (L.length : Int)) = true := by simp; omega
      simp only [flying_com, Option.bind_some, hd, cond_true, ledger_look h hlt, Bool.not_true, cond_false]
      rw [show ((L[k].1, (L[k].2.1, L[k].2.2)) : Dat) = L[k] from rfl, htag, Option.bind_some]
      refine ⟨_, rfl, k + 1, _, by rw [w64 (by omega)]; rfl, hk.inc (s := tagB L[k]) ?_ (fun z => by rw [htk, cntG_snoc]), fun e he => ?_, by omega⟩
      · have h1 := cntG_le (L.take k) (tagB L[k])
        have h4 : (L.take k).length ≤ L.length := by rw [List.length_take]; omega
        omega
      · rcases mput_keys keyEq_str he with h1 | ⟨e', h1, h2⟩
        · exact ⟨L[k], List.getElem_mem hlt, h1.symm⟩
        · obtain ⟨d, h3, h4⟩ := hkeys e' h1
          exact ⟨d, h3, h4.trans h2⟩
    · obtain ⟨k, sn, rfl, hk, hkeys, hi⟩ := hI
      unfold law07_balanced_m1_com_l0
      have hd : decide ((k : Int) < (L.length : Int)) = false := by simp; omega
      simp only [flying_com, Option.bind_some, hd, cond_false]
      refine ⟨_, rfl, sn, rfl, ?_, hkeys⟩
      rw [List.take_of_length_le (by omega)] at hk
      exact hk
  obtain ⟨r, h1, sn, rfl, h2, h3⟩ := loop
  unfold law07_balanced_m1_com
  rw [h1, Option.bind_some]
  simp only []
  refine mAll_inv (l0 := o.1) ho.b.st (fun _ t => t = (5, (12, (L, (m, (o, sn)))))) rfl (fun d t ht => ?_) (fun d t e rest ht hp => ?_) (fun d t ht _ => ?_)
  · subst ht
    unfold law07_balanced_m1_com_l1_hd
    exact need_true ((beq_nat _ _).2 rfl)
  · subst ht
    left
    refine ⟨_, ?_, rfl⟩
    unfold law07_balanced_m1_com_l1
    have he : e ∈ o.1 := hp.mem_iff.1 (by simp)
    have g1 := mget_mem keyEq_str ho.u he
    have g2 : getS o e.1.1 = e.1.2 := by unfold getS; rw [g1]; rfl
    have g3 : (Option.getD (mget (k := .str) (v := .int .i64) sn e.1.1) 0) = e.1.2 := by
      have a1 := h2.c e.1.1
      have a2 := ho.c e.1.1
      unfold getS at a1
      rw [a1, ← a2, g2]
    have g4 : (!((Option.getD (mget (k := .str) (v := .int .i64) sn e.1.1) 0) == e.1.2)) = false := by rw [g3]; simp
    simp only [g4, cond_false]
  · subst ht
    simp only []
    refine mAll_inv (l0 := sn.1) h2.b.st (fun _ t => t = (5, (12, (L, (m, (o, sn)))))) rfl (fun d t ht => ?_) (fun d t e rest ht hp => ?_) (fun d t ht _ => ?_)
    · subst ht
      unfold law07_balanced_m1_com_l2_hd
      exact need_true ((beq_nat _ _).2 rfl)
    · subst ht
      left
      refine ⟨_, ?_, rfl⟩
      unfold law07_balanced_m1_com_l2
      have he : e ∈ sn.1 := hp.mem_iff.1 (by simp)
      obtain ⟨d0, g1, g2⟩ := h3 e he
      have g3 : 0 < cntG L e.1.1 := by
        unfold cntG
        rw [List.countP_pos_iff]
        exact ⟨d0, g1, by simp [g2]⟩
      have g4 : ((Option.getD (mget (k := .str) (v := .int .i64) o e.1.1) 0) == 0) = false := by
        have a2 := ho.c e.1.1
        unfold getS at a2
        have g5 : (cntG L e.1.1 : Int) ≠ 0 := by omega
        rw [a2]
        exact beq_eq_false_iff_ne.2 g5
      simp only [g4, cond_false]
    · subst ht
      rfl
end Go.Ab.D

/- Layer 7, net: NetLedger. -/
namespace Go.Ab.D
open Go Go.Ab
theorem Pick5_ok (x : Int) : ∃ p, low_Pick fuel x 5 = some p ∧ 0 ≤ p ∧ p < 5 := by
  have hl := Int.tmod_lt_of_pos x (b := 5) (by omega)
  have hg := Int.lt_tmod_of_pos x (b := 5) (by omega)
  unfold low_Pick
  have h1 : decide ((5 : Int) ≤ 0) = false := by decide
  have h2 : (!(decide ((5 : Int) = 0))) = true := by decide
  simp only [h1, cond_false]
  rw [need_true h2]
  by_cases h : Int.tmod x 5 < 0
  · simp only [h, decide_true, cond_true]
    rw [w64 (by omega)]
    exact ⟨_, rfl, by omega, by omega⟩
  · simp only [h, decide_false, cond_false]
    exact ⟨_, rfl, by omega, by omega⟩
theorem look_at {L : List Dat} {m : NM} (h : NI 5 12 L m) {i : Int} (hi : In64 i) : net_Net_Look__com fuel i 5 12 L m = some (((at? L i).getD (0, (0, []))).1, (((at? L i).getD (0, (0, []))).2.1, (((at? L i).getD (0, (0, []))).2.2, ((at? L i).isSome, (5, (12, (L, m))))))) := by
  rw [look_com h hi]
  show some (match at? L i with | some d => _ | none => _) = _
  cases at? L i <;> rfl
theorem bind_inl_ex {α τ ο : Type} {x : Option α} {k : α → Option (τ ⊕ ο)} {I : τ → Prop} (P : α → Prop) (h : ∃ v, x = some v ∧ P v) (hk : ∀ v, P v → ∃ s', k v = some (.inl s') ∧ I s') : ∃ s', x.bind k = some (.inl s') ∧ I s' := by
  obtain ⟨v, rfl, hv⟩ := h
  exact hk v hv
theorem bind_some_ex {α β : Type} {x : Option α} {k : α → Option β} {Q : β → Prop} (P : α → Prop) (h : ∃ v, x = some v ∧ P v) (hk : ∀ v, P v → ∃ r, k v = some r ∧ Q r) : ∃ r, x.bind k = some r ∧ Q r := by
  obtain ⟨v, rfl, hv⟩ := h
  exact hk v hv
abbrev StT := Int × (Int × (List Dat × (NM × OM)))
/-- A heap, and its ledger. -/
def Led (s : StT) : Prop := ∃ L m o, s = (5, (12, (L, (m, o)))) ∧ NI 5 12 L m ∧ OI o (cntG L)
abbrev DeedT := UInt8 × (Int × (Int × (Int × List UInt8)))
set_option maxHeartbeats 1000000 in
theorem law07_NetLedger_true (l : List DeedT) (k0 : OkV (.sl (.pair .byte (.pair (.int .i64) (.pair (.int .i64) (.pair (.int .i64) (.sl .byte)))))) l) : law07_NetLedger fuel l = some true := by
  have hin : ∀ x ∈ l, In64 x.2.2.2.1 := fun x hx => by
    have h1 := k0.2 x hx
    have h2 := h1.2.2.2.1
    simp [OkV, IntKind.min, IntKind.max, IntKind.bits, IntKind.signed] at h2
    exact h2
  have loop : ∃ r, law07_NetLedger_l3_it fuel l (0, (5, (12, ([], (([], 0), ([], 0)))))) = some r ∧ r = .inl () := by
    unfold law07_NetLedger_l3_it
    refine iter_ex (fun n s => ∃ (i : Nat) (L : List Dat) (m : NM) (o : OM), s = ((i : Int), (5, (12, (L, (m, o))))) ∧ NI 5 12 L m ∧ OI o (cntG L) ∧ i + n = 80) _ (fun n s hI => ?_) (fun s hI => ?_) 80 _ (by omega) ⟨0, [], _, _, rfl, NI.empty (by omega) (by omega), .empty, by omega⟩
    · obtain ⟨i, L, m, o, rfl, hN, hO, hi⟩ := hI
      have hll := hN.l
      unfold law07_NetLedger_l3
      have h80 : decide ((i : Int) < 80) = true := by simp; omega
      by_cases hlt : i < l.length
      · left
        have hd : decide ((i : Int) < ((l.length : Nat) : Int)) = true := by simp; omega
        have hat := hin l[i] (List.getElem_mem hlt)
        simp only [hd, h80, cond_true, Option.bind_some]
        refine bind_inl_ex (fun v => ∃ s, v = .inl s ∧ Led s) ?_ ?_
        case refine_2 =>
          rintro v ⟨s, rfl, L', m', o', rfl, hN', hO'⟩
          exact ⟨_, rfl, i + 1, L', m', o', by rw [w64 (by omega)]; rfl, hN', hO', by omega⟩
        simp only [idx_nat hlt, List.getElem?_eq_getElem hlt, Option.bind_some]
        generalize l[i] = dd at hat
        obtain ⟨c, f0, t0, a, b⟩ := dd
        simp only at hat ⊢
        by_cases hb : ((b.length : Nat) : Int) > 100
        · have hb' : decide (((b.length : Nat) : Int) > 100) = true := by simpa using hb
          simp only [hb', cond_true]
          exact ⟨_, rfl, _, rfl, L, m, o, rfl, hN, hO⟩
        have hb' : decide (((b.length : Nat) : Int) > 100) = false := by simpa using hb
        obtain ⟨f, p1, p2, p3⟩ := Pick5_ok f0
        obtain ⟨t, q1, q2, q3⟩ := Pick5_ok t0
        simp only [hb', cond_false, p1, q1, Option.bind_some, look_at hN hat]
        have htag : law07_tag fuel (f, (t, b)) = some (tagB (f, (t, b))) := tag_is ⟨p2, p3⟩ ⟨q2, q3⟩ (by simp only; omega)
        generalize hx : ((c.toNat : Nat) : Int) = x
        generalize hdd : (at? L a).getD (0, (0, [])) = d0
        refine bind_some_ex (fun v => v = (decide (x = 0 ∨ x = 1 ∨ x = 2 ∨ x = 3), (5, (12, (L, (m, (o, (x, (f0, (t0, (a, (b, (d0.1, (d0.2.1, d0.2.2))))))))))))) ) ?_ ?_
        · by_cases c0 : x = 0
          · subst c0; exact ⟨_, rfl, rfl⟩
          · have z0 : (x == 0) = false := beq_eq_false_iff_ne.2 c0
            by_cases c1 : x = 1
            · subst c1; exact ⟨_, rfl, rfl⟩
            · have z1 : (x == 1) = false := beq_eq_false_iff_ne.2 c1
              by_cases c2 : x = 2
              · subst c2; exact ⟨_, rfl, rfl⟩
              · have z2 : (x == 2) = false := beq_eq_false_iff_ne.2 c2
                have z3 : (x == 3) = decide (x = 0 ∨ x = 1 ∨ x = 2 ∨ x = 3) := by
                  by_cases c3 : x = 3
                  · subst c3; rfl
                  · rw [beq_eq_false_iff_ne.2 c3]; symm; exact decide_eq_false (by omega)
                simp only [z0, z1, z2, cond_false, Option.bind_some, z3]
                exact ⟨_, rfl, rfl⟩
        · rintro v rfl
          simp only []
          refine bind_some_ex (fun v => ∃ s, v = .inl s ∧ Led s) ?_ ?_
          case refine_2 =>
            rintro v ⟨s, rfl, L', m', o', rfl, hN', hO'⟩
            simp only [balanced_ok hN' hO', Option.bind_some, Bool.not_true, cond_false]
            exact ⟨_, rfl, _, rfl, L', m', o', rfl, hN', hO'⟩
          have bound : ∀ s, cntG L s ≤ 20000 := fun s => by have := cntG_le L s; omega
          have b00 : ((0 : Int) == 0) = true := rfl
          by_cases h4 : x = 0 ∨ x = 1 ∨ x = 2 ∨ x = 3
          · have h4' : decide (x = 0 ∨ x = 1 ∨ x = 2 ∨ x = 3) = true := decide_eq_true h4
            simp only [h4', cond_true]
            by_cases he : sendE 5 12 L f t b = 0
            · simp only [send_com hN, if_pos he, Option.bind_some, b00, cond_true, htag]
              exact ⟨_, rfl, _, rfl, _, _, _, rfl, hN.send he, hO.inc (s := tagB (f, (t, b))) (bound _) (fun z => cntG_snoc _ _ _)⟩
            · have he' : (sendE 5 12 L f t b == 0) = false := beq_eq_false_iff_ne.2 he
              simp only [send_com hN, if_neg he, Option.bind_some, he', cond_false]
              exact ⟨_, rfl, _, rfl, _, _, _, rfl, hN, hO⟩
          have h4' : decide (x = 0 ∨ x = 1 ∨ x = 2 ∨ x = 3) = false := decide_eq_false h4
          simp only [h4', cond_false]
          have hmem : ∀ {d : Dat}, at? L a = some d → d ∈ L := fun {d} hd => by
            obtain ⟨hk, _, _, h3⟩ := at_some hd
            rw [← h3]; exact List.getElem_mem hk
          have herase : ∀ {d : Dat}, at? L a = some d → ∀ z, cntG L z = cntG (L.eraseIdx a.toNat) z + (if tagB d = z then 1 else 0) := fun {d} hd z => by
            obtain ⟨hk, _, _, h3⟩ := at_some hd
            rw [← h3]; exact cntG_split hk z
          by_cases c4 : x = 4
          · have z4 : (x == 4) = true := by rw [c4]; rfl
            simp only [z4, cond_true]
            rw [copy_com hN hat]
            cases hd0 : at? L a with
            | none =>
              have z : ((2 : Int) == 0) = false := rfl
              simp only [Option.bind_some, z, cond_false]
              exact ⟨_, rfl, _, rfl, _, _, _, rfl, hN, hO⟩
            | some d =>
              rw [hd0] at hdd
              have hdd : d = d0 := hdd
              subst hdd
              by_cases he : layE 12 L d.2.1 = 0
              · simp only [if_pos he, Option.bind_some, b00, cond_true]
                rw [show ((d.1, (d.2.1, d.2.2)) : Dat) = d from rfl, hN.tag (hmem hd0)]
                exact ⟨_, rfl, _, rfl, _, _, _, rfl, hN.copy hd0 he, hO.inc (s := tagB d) (bound _) (fun z => cntG_snoc _ _ _)⟩
              · have z : ((5 : Int) == 0) = false := rfl
                simp only [if_neg he, Option.bind_some, z, cond_false]
                exact ⟨_, rfl, _, rfl, _, _, _, rfl, hN, hO⟩
          have z4 : (x == 4) = false := beq_eq_false_iff_ne.2 c4
          simp only [z4, cond_false]
          by_cases c5 : x = 5
          · have z5 : (x == 5) = true := by rw [c5]; rfl
            simp only [z5, cond_true]
            rw [take_com hN hat]
            cases hd0 : at? L a with
            | none =>
              rw [hd0] at hdd
              have hdd : ((0, (0, [])) : Dat) = d0 := hdd
              subst hdd
              simp only [Option.bind_some, Option.isSome_none, beq_self_eq_true, Bool.not_true, cond_false, like_is, decide_true]
              exact ⟨_, rfl, _, rfl, _, _, _, rfl, hN, hO⟩
            | some d =>
              rw [hd0] at hdd
              have hdd : d = d0 := hdd
              subst hdd
              simp only [Option.bind_some, Option.isSome_some, beq_self_eq_true, Bool.not_true, cond_false, like_is, decide_true, cond_true]
              rw [show ((d.1, (d.2.1, d.2.2)) : Dat) = d from rfl, hN.tag (hmem hd0)]
              exact ⟨_, rfl, _, rfl, _, _, _, rfl, hN.drop hd0, hO.dec (s := tagB d) (bound _) (herase hd0)⟩
          have z5 : (x == 5) = false := beq_eq_false_iff_ne.2 c5
          simp only [z5, cond_false]
          by_cases c6 : x = 6
          · have z6 : (x == 6) = true := by rw [c6]; rfl
            simp only [z6, cond_true]
            rw [drop_com hN hat]
            cases hd0 : at? L a with
            | none =>
              simp only [Option.bind_some, cond_false]
              exact ⟨_, rfl, _, rfl, _, _, _, rfl, hN, hO⟩
            | some d =>
              rw [hd0] at hdd
              have hdd : d = d0 := hdd
              subst hdd
              simp only [Option.bind_some, cond_true]
              rw [show ((d.1, (d.2.1, d.2.2)) : Dat) = d from rfl, hN.tag (hmem hd0)]
              exact ⟨_, rfl, _, rfl, _, _, _, rfl, hN.drop hd0, hO.dec (s := tagB d) (bound _) (herase hd0)⟩
          have z6 : (x == 6) = false := beq_eq_false_iff_ne.2 c6
          simp only [z6, cond_false]
          by_cases c7 : x = 7
          · have z7 : (x == 7) = true := by rw [c7]; rfl
            obtain ⟨o', g1, g2⟩ := forget_loop hN hO t
            simp only [z7, cond_true, g1, Option.bind_some, forget_com hN]
            exact ⟨_, rfl, _, rfl, _, _, _, rfl, hN.forg t, g2⟩
          · have z7 : (x == 7) = false := beq_eq_false_iff_ne.2 c7
            simp only [z7, cond_false, Option.bind_some]
            exact ⟨_, rfl, _, rfl, _, _, _, rfl, hN, hO⟩
      · right
        have hd : decide ((i : Int) < ((l.length : Nat) : Int)) = false := by simp; omega
        simp only [hd, cond_false, Option.bind_some]
        exact ⟨_, rfl, rfl⟩
    · obtain ⟨i, L, m, o, rfl, hN, hO, hi⟩ := hI
      unfold law07_NetLedger_l3
      have h80 : decide ((i : Int) < 80) = false := by simp; omega
      cases decide ((i : Int) < ((l.length : Nat) : Int)) <;> simp only [h80, cond_true, cond_false, Option.bind_some] <;> exact ⟨_, rfl, rfl⟩
  obtain ⟨r, e1, rfl⟩ := loop
  have hnew : net_New fuel 5 12 = some (.inr (0, (5, (12, ([], 0))))) := by
    rw [new_is, if_pos (by omega)]
  have b0 : (!((0 : Int) == 0)) = false := by decide
  unfold law07_NetLedger
  rw [hnew, Option.bind_some]
  simp only [b0, cond_false, e1, Option.bind_some, awake_is]
end Go.Ab.D
