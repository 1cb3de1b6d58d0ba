/- What the functions compute; the plain law. -/
import Derived.Test.YtecodhbbobhidaaClockPlaysD1
set_option linter.all false
/- Tools for plain proofs about decompiled functions: numbers in bounds, indexes, loops. -/
namespace Go.Ab

/-! Numbers in bounds -/
theorem w64 {x : Int} (h : -9223372036854775808 ≤ x ∧ x ≤ 9223372036854775807) : IntKind.wrap .i64 x = x := by
  simp only [IntKind.wrap, IntKind.bits, IntKind.signed]; simp; omega
theorem wu64 {x : Int} (h : 0 ≤ x ∧ x ≤ 18446744073709551615) : IntKind.wrap .u64 x = x := by
  simp only [IntKind.wrap, IntKind.bits, IntKind.signed]; simp; omega
theorem wu32 {x : Int} (h : 0 ≤ x ∧ x ≤ 4294967295) : IntKind.wrap .u32 x = x := by
  simp only [IntKind.wrap, IntKind.bits, IntKind.signed]; simp; omega
theorem wu16 {x : Int} (h : 0 ≤ x ∧ x ≤ 65535) : IntKind.wrap .u16 x = x := by
  simp only [IntKind.wrap, IntKind.bits, IntKind.signed]; simp; omega
theorem wu8 {x : Int} (h : 0 ≤ x ∧ x ≤ 255) : IntKind.wrap .u8 x = x := by
  simp only [IntKind.wrap, IntKind.bits, IntKind.signed]; simp; omega
theorem wu8_mod (x : Int) : IntKind.wrap .u8 x = x % 256 := by
  simp only [IntKind.wrap, IntKind.bits, IntKind.signed]; simp
theorem wu32_mod (x : Int) : IntKind.wrap .u32 x = x % 4294967296 := by
  simp only [IntKind.wrap, IntKind.bits, IntKind.signed]; simp
theorem wu64_mod (x : Int) : IntKind.wrap .u64 x = x % 18446744073709551616 := by
  simp only [IntKind.wrap, IntKind.bits, IntKind.signed]; simp
theorem bv_nat (n a : Nat) (h : a < 2 ^ n) : BitVec.ofInt n (a : Int) = BitVec.ofNat n a := by simp
theorem bits_xor (k : IntKind) {a b : Nat} (ha : a < 2 ^ k.bits) (hb : b < 2 ^ k.bits) (hw : ∀ x : Int, 0 ≤ x ∧ x < 2 ^ k.bits → k.wrap x = x) : bitsI .xor k a b = ((a ^^^ b : Nat) : Int) := by
  have h := Nat.xor_lt_two_pow ha hb
  simp only [bitsI, BitVec.ofInt_natCast, ← BitVec.ofNat_xor, BitVec.toNat_ofNat, Nat.mod_eq_of_lt h]
  exact hw _ ⟨by omega, by exact_mod_cast h⟩
theorem bits_or (k : IntKind) {a b : Nat} (ha : a < 2 ^ k.bits) (hb : b < 2 ^ k.bits) (hw : ∀ x : Int, 0 ≤ x ∧ x < 2 ^ k.bits → k.wrap x = x) : bitsI .or k a b = ((a ||| b : Nat) : Int) := by
  have h := Nat.or_lt_two_pow ha hb
  simp only [bitsI, BitVec.ofInt_natCast, ← BitVec.ofNat_or, BitVec.toNat_ofNat, Nat.mod_eq_of_lt h]
  exact hw _ ⟨by omega, by exact_mod_cast h⟩
theorem bits_and (k : IntKind) {a b : Nat} (ha : a < 2 ^ k.bits) (hb : b < 2 ^ k.bits) (hw : ∀ x : Int, 0 ≤ x ∧ x < 2 ^ k.bits → k.wrap x = x) : bitsI .and k a b = ((a &&& b : Nat) : Int) := by
  have h := Nat.and_lt_two_pow (y := b) a hb
  simp only [bitsI, BitVec.ofInt_natCast, ← BitVec.ofNat_and, BitVec.toNat_ofNat, Nat.mod_eq_of_lt h]
  exact hw _ ⟨by omega, by exact_mod_cast h⟩
theorem xor8 {a b : Nat} (ha : a < 256) (hb : b < 256) : bitsI .xor .u8 a b = ((a ^^^ b : Nat) : Int) := bits_xor .u8 ha hb fun x h => wu8 ⟨h.1, by have := h.2; simp [IntKind.bits] at this; omega⟩
theorem xor32 {a b : Nat} (ha : a < 4294967296) (hb : b < 4294967296) : bitsI .xor .u32 a b = ((a ^^^ b : Nat) : Int) := bits_xor .u32 ha hb fun x h => wu32 ⟨h.1, by have := h.2; simp [IntKind.bits] at this; omega⟩
theorem and32 {a b : Nat} (ha : a < 4294967296) (hb : b < 4294967296) : bitsI .and .u32 a b = ((a &&& b : Nat) : Int) := bits_and .u32 ha hb fun x h => wu32 ⟨h.1, by have := h.2; simp [IntKind.bits] at this; omega⟩
theorem fdiv_nat (a b : Nat) : Int.fdiv (a : Int) (b : Int) = ((a / b : Nat) : Int) := by
  rw [Int.fdiv_eq_ediv_of_nonneg _ (by omega)]; rfl

/-! Indexes -/
theorem idx_nat {i n : Nat} (h : i < n) : idx? (i : Int) n = some i := by simp [idx?, h]
theorem idx_int {x : Int} {n : Nat} (h0 : 0 ≤ x) (h : x < n) : idx? x n = some x.toNat := by simp [idx?, h0, h]
theorem upto_nat {i n : Nat} (h : i ≤ n) : upto? (i : Int) n = some i := by simp [upto?, h]
theorem upto_int {x : Int} {n : Nat} (h0 : 0 ≤ x) (h : x ≤ n) : upto? x n = some x.toNat := by simp [upto?, h0, h]
theorem byte_nat {n : Nat} (h : n < 256) : byte? (n : Int) = some (UInt8.ofNat n) := by
  have : (n : Int) < 256 := by omega
  simp [byte?, this]
theorem need_true {β : Type} {b : Bool} {K : Option β} (h : b = true) : need b K = K := by subst h; rfl
theorem ble_true {a b : Nat} (h : a ≤ b) : Nat.ble a b = true := Nat.ble_eq_true_of_le h
theorem nilQ_same {β : Type} {n : Nat} {K : Bool → Option β} (h : n = 0 → K true = K false) : nilQ n K = K false := by
  unfold nilQ
  rw [if_pos h]
theorem roomIs : room = 140737488355328 := rfl

/-! Loops -/
theorem fuel_big {n : Nat} (h : n < 4611686018427387904) : ∃ m, fuel = m + (n + 1) := ⟨4611686018427387903 - n, by unfold fuel; omega⟩
theorem iter_steps {τ ο : Type} {f : τ → Option (τ ⊕ ο)} (S : Nat → τ) : ∀ (n m : Nat), (∀ k, k < n → f (S k) = some (.inl (S (k + 1)))) → iter (m + n) f (S 0) = iter m f (S n)
  | 0, m, _ => rfl
  | n + 1, m, h => by
    have e : m + (n + 1) = (m + 1) + n := by omega
    rw [e, iter_steps S n (m + 1) fun k hk => h k (by omega)]
    show (f (S n)).ob _ = _
    rw [h n (by omega)]
    rfl
/-- A loop of n rounds. -/
theorem iter_range {τ ο : Type} {f : τ → Option (τ ⊕ ο)} {o : ο} (S : Nat → τ) (n : Nat) (hn : n < 4611686018427387904) (hs : ∀ k, k < n → f (S k) = some (.inl (S (k + 1)))) (he : f (S n) = some (.inr o)) : iter fuel f (S 0) = some o := by
  obtain ⟨m, hm⟩ := fuel_big hn
  have e : fuel = (m + 1) + n := by omega
  rw [e, iter_steps S n (m + 1) hs]
  show (f (S n)).ob _ = _
  rw [he]
  rfl
/-- A loop by a relation between its state and what is yet to do. -/
theorem iter_rel {τ ο : Type} {f : τ → Option (τ ⊕ ο)} {o : ο} (I : Nat → τ → Prop) (hs : ∀ n s, I (n + 1) s → ∃ s', f s = some (.inl s') ∧ I n s') (he : ∀ s, I 0 s → f s = some (.inr o)) : ∀ (n : Nat) (s : τ), n < 4611686018427387904 → I n s → iter fuel f s = some o := by
  have main : ∀ (n m : Nat) (s : τ), n < m → I n s → iter m f s = some o := fun n => by
    induction n with
    | zero =>
      intro m s hm hi
      obtain ⟨m, rfl⟩ : ∃ k, m = k + 1 := ⟨m - 1, by omega⟩
      show (f s).ob _ = _
      rw [he s hi]
      rfl
    | succ n ih =>
      intro m s hm hi
      obtain ⟨m, rfl⟩ : ∃ k, m = k + 1 := ⟨m - 1, by omega⟩
      obtain ⟨s', h1, h2⟩ := hs n s hi
      show (f s).ob _ = _
      rw [h1]
      exact ih m s' (by omega) h2
  exact fun n s hn hi => main n fuel s hn hi
/-! Loops, step by step -/
theorem iter_inl {τ ο : Type} {f : τ → Option (τ ⊕ ο)} {s s' : τ} {n : Nat} (h : f s = some (.inl s')) : iter (n + 1) f s = iter n f s' := by
  show (f s).ob _ = _
  rw [h]
  rfl
theorem iter_inr {τ ο : Type} {f : τ → Option (τ ⊕ ο)} {s : τ} {o : ο} {n : Nat} (h : f s = some (.inr o)) : iter (n + 1) f s = some o := by
  show (f s).ob _ = _
  rw [h]
  rfl
theorem fuelS (n : Nat) (h : n < 4611686018427387904) : ∃ m, fuel = m + n + 1 := ⟨4611686018427387903 - n, by unfold fuel; omega⟩
/-- A loop, by a relation; what comes out is told by a property. -/
theorem iter_ex {τ ο : Type} {f : τ → Option (τ ⊕ ο)} (I : Nat → τ → Prop) (Q : ο → Prop) (hs : ∀ n s, I (n + 1) s → (∃ s', f s = some (.inl s') ∧ I n s') ∨ ∃ o, f s = some (.inr o) ∧ Q o) (he : ∀ s, I 0 s → ∃ o, f s = some (.inr o) ∧ Q o) : ∀ (n : Nat) (s : τ), n < 4611686018427387904 → I n s → ∃ o, iter fuel f s = some o ∧ Q o := by
  have main : ∀ (n m : Nat) (s : τ), n < m → I n s → ∃ o, iter m f s = some o ∧ Q o := fun n => by
    induction n with
    | zero =>
      intro m s hm hi
      obtain ⟨m, rfl⟩ : ∃ k, m = k + 1 := ⟨m - 1, by omega⟩
      obtain ⟨o, h1, h2⟩ := he s hi
      exact ⟨o, iter_inr h1, h2⟩
    | succ n ih =>
      intro m s hm hi
      obtain ⟨m, rfl⟩ : ∃ k, m = k + 1 := ⟨m - 1, by omega⟩
      rcases hs n s hi with ⟨s', h1, h2⟩ | ⟨o, h1, h2⟩
      · rw [iter_inl h1]
        exact ih m s' (by omega) h2
      · exact ⟨o, iter_inr h1, h2⟩
  exact fun n s hn hi => main n fuel s hn hi
theorem bind_ex {α β : Type} {x : Option α} {k : α → Option β} (R : Option β → Prop) (P : α → Prop) (h : ∃ v, x = some v ∧ P v) (hk : ∀ v, P v → R (k v)) : R (x.bind k) := by
  obtain ⟨v, rfl, hv⟩ := h
  exact hk v hv
theorem iter_fuel_inr {τ ο : Type} {f : τ → Option (τ ⊕ ο)} {s : τ} {o : ο} (h : f s = some (.inr o)) : iter fuel f s = some o := by
  obtain ⟨n, hn⟩ := fuelS 0 (by omega)
  rw [hn]
  exact iter_inr h
end Go.Ab

/- Loops over maps, in plain words: what holds in whatever order the entries come. -/
namespace Go.Ab
section
variable {τ κ ο γ : Type} {hd : τ → Option (List (κ × Nat))} {f : τ → κ × Nat → Option (τ ⊕ ο)}
theorem MOk_both {Q Q' : τ ⊕ ο → Prop} : ∀ (n n' : Nat) (seen : List Nat) (t : τ), MOk hd f Q n seen t → MOk hd f Q' n' seen t → ∃ o, Q o ∧ Q' o
  | 0, _, _, _, h, _ => h.elim
  | _ + 1, 0, _, _, _, h => h.elim
  | n + 1, n' + 1, seen, t, h, h' => by
    obtain ⟨l, h1, h2, h3⟩ := h
    obtain ⟨l', h1', h2', h3'⟩ := h'
    rw [h1] at h1'
    simp only [Option.some.injEq] at h1'
    subst h1'
    cases hm : mleft seen l with
    | nil => exact ⟨_, h2 hm, h2' hm⟩
    | cons e r =>
      have he : e ∈ mleft seen l := by rw [hm]; exact List.mem_cons_self
      rcases h3 e he with ⟨t1, p1, p2⟩ | ⟨o, p1, p2⟩ <;> rcases h3' e he with ⟨t2, q1, q2⟩ | ⟨o', q1, q2⟩
      · rw [p1] at q1
        simp only [Option.some.injEq, Sum.inl.injEq] at q1
        subst q1
        exact MOk_both n n' _ _ p2 q2
      · rw [p1] at q1; simp at q1
      · rw [p1] at q1; simp at q1
      · rw [p1] at q1
        simp only [Option.some.injEq, Sum.inr.injEq] at q1
        subst q1
        exact ⟨_, p2, q2⟩
theorem mAll_eq {t0 : τ} {F : τ ⊕ ο → Option γ} {r : γ} {n : Nat} (h : MOk hd f (fun o => F o = some r) n [] t0) : mAll hd f t0 F = some r := by
  unfold mAll
  split
  · rename_i hx
    obtain ⟨n', hn'⟩ := Classical.choose_spec hx
    obtain ⟨o, h1, h2⟩ := MOk_both _ _ _ _ h hn'
    rw [h1] at h2
    exact h2.symm
  · rename_i hx
    exact absurd ⟨r, n, h⟩ hx
/-- By what holds between the rounds: d has come, in this order. -/
theorem mAll_inv {l0 : List (κ × Nat)} {t0 : τ} {F : τ ⊕ ο → Option γ} {r : γ} (hn : (l0.map (·.2)).Nodup) (I : List (κ × Nat) → τ → Prop) (h0 : I [] t0) (hhd : ∀ d t, I d t → hd t = some l0)
    (hs : ∀ d t e rest, I d t → (d ++ e :: rest).Perm l0 → (∃ t', f t e = some (.inl t') ∧ I (d ++ [e]) t') ∨ (∃ o, f t e = some (.inr o) ∧ F (.inr o) = some r))
    (hf : ∀ d t, I d t → d.Perm l0 → F (.inl t) = some r) : mAll hd f t0 F = some r := by
  have main : ∀ (n : Nat) (d rest : List (κ × Nat)) (t : τ), rest.length = n → (d ++ rest).Perm l0 → I d t → MOk hd f (fun o => F o = some r) (n + 1) (d.map (·.2)).reverse t := by
    intro n
    induction n with
    | zero =>
      intro d rest t hlen hp hi
      obtain rfl := List.eq_nil_of_length_eq_zero hlen
      rw [List.append_nil] at hp
      refine ⟨l0, hhd d t hi, fun _ => hf d t hi hp, fun e he => ?_⟩
      exfalso
      obtain ⟨h1, h2⟩ := List.mem_filter.1 he
      have h3 : e ∈ d := hp.mem_iff.2 h1
      simp only [Bool.not_eq_true'] at h2
      have h4 : memN e.2 (d.map (·.2)).reverse = true := memN_iff.2 (by simpa using ⟨e.1, h3⟩)
      rw [h4] at h2; cases h2
    | succ n ih =>
      intro d rest t hlen hp hi
      have hnd : ((d ++ rest).map (·.2)).Nodup := (hp.map _).nodup_iff.2 hn
      have hd1 : ∀ e ∈ rest, memN e.2 (d.map (·.2)).reverse = false := fun e he => by
        cases hm : memN e.2 (d.map (·.2)).reverse with
        | false => rfl
        | true =>
          have := memN_iff.1 hm
          rw [List.mem_reverse] at this
          rw [List.map_append, List.nodup_append] at hnd
          exact absurd rfl (hnd.2.2 _ this _ (List.mem_map.2 ⟨e, he, rfl⟩))
      refine ⟨l0, hhd d t hi, fun hm => ?_, fun e he => ?_⟩
      · exfalso
        cases rest with
        | nil => cases hlen
        | cons e rest =>
          have : e ∈ mleft (d.map (·.2)).reverse l0 := List.mem_filter.2 ⟨hp.mem_iff.1 (by simp), by rw [hd1 e (by simp)]; rfl⟩
          rw [hm] at this
          cases this
      · obtain ⟨h1, h2⟩ := List.mem_filter.1 he
        have h3 : e ∈ rest := by
          rcases List.mem_append.1 (hp.mem_iff.2 h1) with h | h
          · exfalso
            simp only [Bool.not_eq_true'] at h2
            have h4 : memN e.2 (d.map (·.2)).reverse = true := memN_iff.2 (by simpa using ⟨e.1, h⟩)
            rw [h4] at h2; cases h2
          · exact h
        obtain ⟨r1, r2, rfl⟩ := List.append_of_mem h3
        have hp' : (d ++ e :: (r1 ++ r2)).Perm l0 := (List.Perm.append_left d List.perm_middle.symm).trans hp
        rcases hs d t e (r1 ++ r2) hi hp' with ⟨t', p1, p2⟩ | ⟨o, p1, p2⟩
        · left
          refine ⟨t', p1, ?_⟩
          have := ih (d ++ [e]) (r1 ++ r2) t' (by simp at hlen ⊢; omega) (by simpa using hp') p2
          simpa using this
        · exact .inr ⟨o, p1, p2⟩
  have := main l0.length [] l0 t0 rfl (List.Perm.refl _) h0
  exact mAll_eq this
end
end Go.Ab

/- Maps in plain words (as in C7a). -/
namespace Go.Ab

/-! Maps whose keys are told apart -/
section
variable {k v : Ty}
def KeyEq (k : Ty) : Prop := ∀ x a : k.den, k.eqb x a = true ↔ x = a
theorem keyEq_int (i : IntKind) : KeyEq (.int i) := fun x a => by
  show ((x : Int) == a) = true ↔ _
  exact beq_iff_eq
theorem KeyEq.ne (h : KeyEq k) {x a : k.den} (hn : x ≠ a) : k.eqb x a = false := by
  cases e : k.eqb x a with
  | false => rfl
  | true => exact absurd ((h x a).1 e) hn
theorem KeyEq.self (h : KeyEq k) (x : k.den) : k.eqb x x = true := (h x x).2 rfl
theorem mfind_snoc (h : KeyEq k) : ∀ (l : List ((k.den × v.den) × Nat)) (x : k.den) (y : v.den) (n : Nat) (z : k.den), mfind (l ++ [((x, y), n)]) z = match mfind l z with | some e => some e | none => bif k.eqb z x then some (y, n) else none
  | [], x, y, n, z => rfl
  | ((a, b), m) :: l, x, y, n, z => by
    show (bif k.eqb z a then some (b, m) else mfind (l ++ [((x, y), n)]) z) = match (bif k.eqb z a then some (b, m) else mfind l z) with | some e => some e | none => bif k.eqb z x then some (y, n) else none
    cases k.eqb z a with
    | true => rfl
    | false => exact mfind_snoc h l x y n z
theorem mfind_mset (h : KeyEq k) : ∀ (l : List ((k.den × v.den) × Nat)) (x : k.den) (y : v.den) (z : k.den), z ≠ x → mfind (mset l x y) z = mfind l z
  | [], x, y, z, _ => rfl
  | ((a, b), m) :: l, x, y, z, hz => by
    show mfind (bif k.eqb x a then ((x, y), m) :: l else ((a, b), m) :: mset l x y) z = bif k.eqb z a then some (b, m) else mfind l z
    cases e : k.eqb x a with
    | true =>
      have := (h x a).1 e
      subst this
      show (bif k.eqb z x then some (y, m) else mfind l z) = _
      rw [h.ne hz]
      rfl
    | false =>
      show (bif k.eqb z a then some (b, m) else mfind (mset l x y) z) = _
      rw [mfind_mset h l x y z hz]
theorem mfind_mset_self (h : KeyEq k) : ∀ (l : List ((k.den × v.den) × Nat)) (x : k.den) (y : v.den) e, mfind l x = some e → mfind (mset l x y) x = some (y, e.2)
  | [], x, y, e, he => by cases he
  | ((a, b), m) :: l, x, y, e, he => by
    have he' : (bif k.eqb x a then some (b, m) else mfind l x) = some e := he
    show mfind (bif k.eqb x a then ((x, y), m) :: l else ((a, b), m) :: mset l x y) x = _
    cases ea : k.eqb x a with
    | true =>
      rw [ea] at he'
      injection he' with he'
      subst he'
      show (bif k.eqb x x then some (y, m) else mfind l x) = _
      rw [h.self]
      rfl
    | false =>
      rw [ea] at he'
      show (bif k.eqb x a then some (b, m) else mfind (mset l x y) x) = _
      rw [ea]
      exact mfind_mset_self h l x y e he'
theorem mget_mput (h : KeyEq k) (m : GMap k v) (x : k.den) (y : v.den) : mget (mput m x y) x = some y := by
  unfold mget mput
  cases e : mfind m.1 x with
  | some e' => simp only; rw [mfind_mset_self h _ _ _ _ e]; rfl
  | none => simp only; rw [mfind_snoc h, e]; simp only; rw [h.self]; rfl
theorem mget_mput_ne (h : KeyEq k) (m : GMap k v) (x : k.den) (y : v.den) {z : k.den} (hz : z ≠ x) : mget (mput m x y) z = mget m z := by
  unfold mget mput
  cases e : mfind m.1 x with
  | some e' => simp only; rw [mfind_mset h _ _ _ _ hz]
  | none =>
    simp only
    rw [mfind_snoc h, h.ne hz]
    cases mfind m.1 z <;> rfl
def keysU (m : GMap k v) : Prop := (m.1.map fun e => e.1.1).Nodup
theorem mset_keys (h : KeyEq k) : ∀ (l : List ((k.den × v.den) × Nat)) (x : k.den) (y : v.den), (mset l x y).map (fun e => e.1.1) = l.map fun e => e.1.1
  | [], x, y => rfl
  | ((a, b), m) :: l, x, y => by
    show (bif k.eqb x a then ((x, y), m) :: l else ((a, b), m) :: mset l x y).map _ = _
    cases e : k.eqb x a with
    | true =>
      have := (h x a).1 e
      subst this
      rfl
    | false => simp [mset_keys h l x y]
theorem mfind_nokey (h : KeyEq k) : ∀ {l : List ((k.den × v.den) × Nat)} {x : k.den}, mfind l x = none ↔ x ∉ l.map fun e => e.1.1
  | [], x => by simp [mfind]
  | ((a, b), m) :: l, x => by
    show (bif k.eqb x a then some (b, m) else mfind l x) = none ↔ _
    cases e : k.eqb x a with
    | true => simp [(h x a).1 e]
    | false =>
      have hn : x ≠ a := fun q => by rw [(h x a).2 q] at e; cases e
      simp only [cond_false, List.map_cons, List.mem_cons, hn, false_or]
      exact mfind_nokey h
theorem keysU_mput (h : KeyEq k) {m : GMap k v} (hm : keysU m) (x : k.den) (y : v.den) : keysU (mput m x y) := by
  unfold keysU mput
  cases e : mfind m.1 x with
  | some e' => simp only; rw [mset_keys h]; exact hm
  | none =>
    simp only [List.map_append, List.map_cons, List.map_nil]
    rw [List.nodup_append]
    refine ⟨hm, by simp, ?_⟩
    intro a ha b hb hab
    rw [List.mem_singleton] at hb
    subst hb
    subst hab
    exact (mfind_nokey h).1 e ha
theorem mdelL_ne (h : KeyEq k) : ∀ (l : List ((k.den × v.den) × Nat)) (x z : k.den), z ≠ x → mfind (mdelL l x) z = mfind l z
  | [], x, z, _ => rfl
  | ((a, b), m) :: l, x, z, hz => by
    show mfind (bif k.eqb x a then l else ((a, b), m) :: mdelL l x) z = bif k.eqb z a then some (b, m) else mfind l z
    cases e : k.eqb x a with
    | true =>
      have := (h x a).1 e
      subst this
      rw [h.ne hz]
      rfl
    | false =>
      show (bif k.eqb z a then some (b, m) else mfind (mdelL l x) z) = _
      rw [mdelL_ne h l x z hz]
theorem mdelL_keys (h : KeyEq k) : ∀ (l : List ((k.den × v.den) × Nat)) (x : k.den), ((mdelL l x).map fun e => e.1.1) = (l.map fun e => e.1.1).eraseP fun a => k.eqb x a
  | [], x => rfl
  | ((a, b), m) :: l, x => by
    show (bif k.eqb x a then l else ((a, b), m) :: mdelL l x).map _ = _
    cases e : k.eqb x a with
    | true => simp [e]
    | false => simp [e, mdelL_keys h l x]
theorem keysU_mdel (h : KeyEq k) {m : GMap k v} (hm : keysU m) (x : k.den) : keysU (mdel m x) := by
  unfold keysU mdel
  simp only
  rw [mdelL_keys h]
  exact hm.sublist List.eraseP_sublist
theorem mdelL_self (h : KeyEq k) : ∀ (l : List ((k.den × v.den) × Nat)) (x : k.den), (l.map fun e => e.1.1).Nodup → mfind (mdelL l x) x = none
  | [], x, _ => rfl
  | ((a, b), m) :: l, x, hn => by
    simp only [List.map_cons, List.nodup_cons] at hn
    show mfind (bif k.eqb x a then l else ((a, b), m) :: mdelL l x) x = none
    cases e : k.eqb x a with
    | true =>
      have := (h x a).1 e
      subst this
      exact (mfind_nokey h).2 hn.1
    | false =>
      show (bif k.eqb x a then some (b, m) else mfind (mdelL l x) x) = none
      rw [e]
      exact mdelL_self h l x hn.2
theorem mget_mdel (h : KeyEq k) {m : GMap k v} (hm : keysU m) (x : k.den) : mget (mdel m x) x = none := by
  unfold mget mdel
  simp only
  rw [mdelL_self h _ _ hm]
  rfl
theorem mget_mdel_ne (h : KeyEq k) (m : GMap k v) (x : k.den) {z : k.den} (hz : z ≠ x) : mget (mdel m x) z = mget m z := by
  unfold mget mdel
  simp only
  rw [mdelL_ne h _ _ _ hz]
end

end Go.Ab

/- Layer 8, clock: the map of timers as a list in order. -/
namespace Go.Ab.D
open Go Go.Ab

abbrev GM := GMap (.int .i64) (.int .i64)
def tmr (e : (Int × Int) × Nat) : Int × Int := (e.1.2, e.1.1)
def ltB (x y : Int × Int) : Bool := decide (x.1 < y.1 ∨ (x.1 = y.1 ∧ x.2 < y.2))
theorem ltB_iff {x y : Int × Int} : ltB x y = true ↔ x.1 < y.1 ∨ (x.1 = y.1 ∧ x.2 < y.2) := by simp [ltB]
theorem fuel4 : ∃ n, fuel = n + 4 := ⟨4611686018427387900, rfl⟩
/-- A map's timers, in order. -/
structure K (m : GM) (S : List (Int × Int)) : Prop where
  st : (m.1.map (·.2)).Nodup
  lo : ∀ e ∈ m.1, e.2 < m.2
  ky : (m.1.map fun e => e.1.1).Nodup
  pm : (m.1.map tmr).Perm S
  so : S.Pairwise fun x y => ltB x y = true
theorem K.ids {m : GM} {S : List (Int × Int)} (h : K m S) : (S.map (·.2)).Nodup := by
  have := (h.pm.map (·.2)).nodup_iff.1 (by
    rw [List.map_map]
    exact h.ky)
  exact this
theorem K.len {m : GM} {S : List (Int × Int)} (h : K m S) : m.1.length = S.length := by
  have := h.pm.length_eq
  simpa using this
theorem K.nil : K ([], 0) [] := ⟨by simp, by simp, by simp, .nil, .nil⟩
theorem sort_is {l S : List (Int × Int)} (hp : l.Perm S) (hs : S.Pairwise fun x y => ltB x y = true) : sortL ltB l = S := by
  have hO : Go.Sort.SWO ltB := swoT
  have hT : ∀ x y, ltB x y = false → ltB y x = false → x = y := totT
  rw [sortL_total hO hT]
  have hsz : S.toArray.size = l.toArray.size := by simpa using hp.length_eq.symm
  have := Go.Sort.sorted_unique_holds hO hT l.toArray S.toArray ⟨hsz, fun i hi => by
      rcases hi with hi | hi
      · omega
      · have h1 : ¬ i < l.length := by simpa using hi
        have h2 : ¬ i < S.length := by rw [← hp.length_eq]; exact h1
        simp [List.getElem!_eq_getElem?_getD, h1, h2], by
      have e1 : (l.toArray.extract 0 l.toArray.size).toList = l := by simp
      have e2 : (S.toArray.extract 0 l.toArray.size).toList = S := by rw [← hsz]; simp
      rw [e1, e2]; exact hp.symm⟩ (fun i j _ hij hj => by
      have hj' : j < S.length := by rw [← hp.length_eq]; simpa using hj
      have h1 := List.pairwise_iff_getElem.1 hs i j (by omega) hj' hij
      have e1 : S.toArray[i]! = S[i]'(by omega) := by simp [List.getElem!_eq_getElem?_getD, show i < S.length by omega]
      have e2 : S.toArray[j]! = S[j] := by simp [List.getElem!_eq_getElem?_getD, hj']
      rw [e1, e2]
      rw [ltB_iff] at h1
      cases h2 : ltB S[j] (S[i]'(by omega)) with
      | false => rfl
      | true => rw [ltB_iff] at h2; omega)
  simpa using this.symm
/-- All timers, in order. -/
theorem All_ok {m : GM} {S : List (Int × Int)} (hK : K m S) (hl : S.length ≤ 70000) (h h1 : Int) : clock_Clock_All__cm fuel h h1 m = some (S, (h, (h1, m))) := by
  obtain ⟨n, hn⟩ := fuel4
  unfold clock_Clock_All__cm clock_Clock_none__cm
  rw [Option.bind_some]
  simp only [cond_false]
  refine mAll_inv (l0 := m.1) hK.st (fun d t => t = (h, (h1, (m, d.map tmr)))) rfl (fun d t ht => ?_) (fun d t e rest ht hp => ?_) (fun d t ht hp => ?_)
  · subst ht
    unfold clock_Clock_All__cm_l0_hd
    exact need_true ((beq_nat _ _).2 rfl)
  · subst ht
    left
    refine ⟨_, ?_, rfl⟩
    unfold clock_Clock_All__cm_l0
    have hlen : d.length + 1 ≤ 70000 := by
      have := hp.length_eq
      have := hK.len
      simp only [List.length_append, List.length_cons] at *
      omega
    rw [need_true (by
      simp only [Bool.and_eq_true, List.length_map]
      exact ⟨ble_true (by rw [roomIs]; omega), ble_true (by rw [roomIs]; omega)⟩)]
    simp only [List.map_append, List.map_cons, List.map_nil]
    rfl
  · subst ht
    have hp' : (d.map tmr).Perm S := (hp.map tmr).trans hK.pm
    have hlen : (d.map tmr).length < 4611686018427387904 := by rw [hp'.length_eq]; omega
    show (slices_SortFunc__api_Timer_api_Timer_o0f11 fuel (d.map tmr)).bind _ = _
    unfold slices_SortFunc__api_Timer_api_Timer_o0f11
    rw [hn, need_true (by rw [Nat.ble_eq]; omega), need_true (by rw [Nat.blt_eq]; exact hlen), ltT]
    have : (fun x y : Int × Int => decide (x.1 < y.1 ∨ (x.1 = y.1 ∧ x.2 < y.2))) = ltB := rfl
    rw [this, sort_is hp' hK.so]
    rfl

/-! Entries -/
theorem mset_tmr : ∀ (l : List ((Int × Int) × Nat)) (x y : Int), (l.map fun e => e.1.1).Nodup → (∃ e, mfind (k := .int .i64) (v := .int .i64) l x = some e) →
    ((mset (k := .int .i64) (v := .int .i64) l x y).map tmr).Perm ((y, x) :: (l.map tmr).filter fun t => t.2 != x)
  | [], x, y, _, ⟨e, he⟩ => by cases he
  | ((a, b), n) :: l, x, y, hn, ⟨e, he⟩ => by
    simp only [List.map_cons, List.nodup_cons] at hn
    have he : (bif (x == a) then some (b, n) else mfind (k := .int .i64) (v := .int .i64) l x) = some e := he
    show ((bif (x == a) then ((x, y), n) :: l else ((a, b), n) :: mset (k := .int .i64) (v := .int .i64) l x y).map tmr).Perm _
    by_cases hx : x = a
    · subst hx
      rw [beq_self_eq_true, cond_true]
      simp only [List.map_cons]
      have h1 : ((tmr ((x, b), n)).2 != x) = false := by simp [tmr]
      rw [List.filter_cons, h1]
      simp only [Bool.false_eq_true, if_false]
      have h2 : (l.map tmr).filter (fun t => t.2 != x) = l.map tmr := by
        rw [List.filter_eq_self]
        intro t ht
        obtain ⟨e', h3, rfl⟩ := List.mem_map.1 ht
        simp only [bne_iff_ne, ne_eq]
        intro h4
        exact hn.1 (List.mem_map.2 ⟨e', h3, h4⟩)
      rw [h2]
      exact .refl _
    · have hxb : (x == a) = false := by simpa using hx
      rw [hxb, cond_false] at he ⊢
      simp only [List.map_cons]
      have h1 : ((tmr ((a, b), n)).2 != x) = true := by simp [tmr]; exact Ne.symm hx
      rw [List.filter_cons, h1]
      simp only [if_true]
      exact ((mset_tmr l x y hn.2 ⟨e, he⟩).cons _).trans (.swap _ _ _)
theorem mdel_tmr : ∀ (l : List ((Int × Int) × Nat)) (x : Int), (l.map fun e => e.1.1).Nodup → (mdelL (k := .int .i64) (v := .int .i64) l x).map tmr = (l.map tmr).filter fun t => t.2 != x
  | [], x, _ => rfl
  | ((a, b), n) :: l, x, hn => by
    simp only [List.map_cons, List.nodup_cons] at hn
    show (bif (x == a) then l else ((a, b), n) :: mdelL (k := .int .i64) (v := .int .i64) l x).map tmr = _
    by_cases hx : x = a
    · subst hx
      rw [beq_self_eq_true, cond_true]
      simp only [List.map_cons]
      have h1 : ((tmr ((x, b), n)).2 != x) = false := by simp [tmr]
      rw [List.filter_cons, h1]
      simp only [Bool.false_eq_true, if_false]
      symm
      rw [List.filter_eq_self]
      intro t ht
      obtain ⟨e', h3, rfl⟩ := List.mem_map.1 ht
      simp only [bne_iff_ne, ne_eq]
      intro h4
      exact hn.1 (List.mem_map.2 ⟨e', h3, h4⟩)
    · have hxb : (x == a) = false := by simpa using hx
      rw [hxb, cond_false]
      simp only [List.map_cons]
      have h1 : ((tmr ((a, b), n)).2 != x) = true := by simp [tmr]; exact Ne.symm hx
      rw [List.filter_cons, h1]
      simp only [if_true]
      rw [mdel_tmr l x hn.2]
theorem mfind_tmr : ∀ (l : List ((Int × Int) × Nat)) (x a : Int), (l.map fun e => e.1.1).Nodup → ((mfind (k := .int .i64) (v := .int .i64) l x).map (·.1) = some a ↔ (a, x) ∈ l.map tmr)
  | [], x, a, _ => by simp [mfind]
  | ((b, c), n) :: l, x, a, hn => by
    simp only [List.map_cons, List.nodup_cons] at hn
    show (bif (x == b) then some (c, n) else mfind (k := .int .i64) (v := .int .i64) l x).map (·.1) = some a ↔ _
    have ht : tmr ((b, c), n) = (c, b) := rfl
    by_cases hx : x = b
    · subst hx
      rw [beq_self_eq_true, cond_true]
      simp only [Option.map_some, Option.some.injEq, List.map_cons, List.mem_cons, ht, Prod.mk.injEq]
      refine ⟨fun h => .inl ⟨h.symm, trivial⟩, fun h => ?_⟩
      rcases h with h | h
      · exact h.1.symm
      · obtain ⟨e', h3, h4⟩ := List.mem_map.1 h
        exact absurd (List.mem_map.2 ⟨e', h3, show (tmr e').2 = x by rw [h4]⟩) hn.1
    · have hxb : (x == b) = false := by simpa using hx
      rw [hxb, cond_false]
      simp only [List.map_cons, List.mem_cons, ht, Prod.mk.injEq]
      rw [mfind_tmr l x a hn.2]
      refine ⟨.inr, fun h => ?_⟩
      rcases h with h | h
      · exact absurd h.2 hx
      · exact h
theorem K.get {m : GM} {S : List (Int × Int)} (h : K m S) (x a : Int) : mget (k := .int .i64) (v := .int .i64) m x = some a ↔ (a, x) ∈ S := by
  unfold mget
  rw [mfind_tmr m.1 x a h.ky]
  exact h.pm.mem_iff
theorem K.get_none {m : GM} {S : List (Int × Int)} (h : K m S) (x : Int) : mget (k := .int .i64) (v := .int .i64) m x = none ↔ x ∉ S.map (·.2) := by
  cases e : mget (k := .int .i64) (v := .int .i64) m x with
  | none =>
    simp only [true_iff]
    intro hm
    obtain ⟨⟨a, b⟩, h1, rfl⟩ := List.mem_map.1 hm
    rw [(h.get b a).2 h1] at e
    cases e
  | some a =>
    simp only [reduceCtorEq, false_iff, Classical.not_not]
    exact List.mem_map.2 ⟨(a, x), (h.get x a).1 e, rfl⟩
/-- A timer, put in order. -/
def insT (t : Int × Int) (S : List (Int × Int)) : List (Int × Int) := S.takeWhile (fun s => ltB s t) ++ t :: S.dropWhile (fun s => ltB s t)
theorem insT_perm (t : Int × Int) (S : List (Int × Int)) : (t :: S).Perm (insT t S) := by
  unfold insT
  have h := List.takeWhile_append_dropWhile (p := fun s => ltB s t) (l := S)
  conv => lhs; rw [← h]
  exact List.perm_middle.symm
theorem ltB_trans {x y z : Int × Int} (h1 : ltB x y = true) (h2 : ltB y z = true) : ltB x z = true := by
  rw [ltB_iff] at *; omega
theorem insT_sorted {t : Int × Int} : ∀ {S : List (Int × Int)}, (S.Pairwise fun x y => ltB x y = true) → t.2 ∉ S.map (·.2) → (insT t S).Pairwise fun x y => ltB x y = true
  | [], _, _ => by simp [insT]
  | s :: S, hs, hm => by
    simp only [List.map_cons, List.mem_cons, not_or] at hm
    rw [List.pairwise_cons] at hs
    unfold insT
    cases hst : ltB s t with
    | true =>
      simp only [List.takeWhile_cons, List.dropWhile_cons, hst, if_true, List.cons_append, List.pairwise_cons]
      refine ⟨fun y hy => ?_, insT_sorted hs.2 hm.2⟩
      have : y ∈ t :: S := (insT_perm t S).mem_iff.2 hy
      rcases List.mem_cons.1 this with rfl | h
      · exact hst
      · exact hs.1 y h
    | false =>
      simp only [List.takeWhile_cons, List.dropWhile_cons, hst, Bool.false_eq_true, if_false, List.nil_append, List.pairwise_cons]
      have hts : ltB t s = true := by
        rw [ltB_iff]
        have h2 : ¬ (s.1 < t.1 ∨ (s.1 = t.1 ∧ s.2 < t.2)) := by rw [← ltB_iff, hst]; simp
        have h3 : t.2 ≠ s.2 := hm.1
        omega
      refine ⟨fun y hy => ?_, hs⟩
      rcases List.mem_cons.1 hy with rfl | h
      · exact hts
      · exact ltB_trans hts (hs.1 y h)
/-- all but an Id -/
def outT (x : Int) (S : List (Int × Int)) : List (Int × Int) := S.filter fun t => t.2 != x
theorem outT_none {x : Int} {S : List (Int × Int)} (h : x ∉ S.map (·.2)) : outT x S = S := by
  unfold outT
  rw [List.filter_eq_self]
  intro t ht
  simp only [bne_iff_ne, ne_eq]
  intro h4
  exact h (List.mem_map.2 ⟨t, ht, h4⟩)
theorem outT_not (x : Int) (S : List (Int × Int)) : x ∉ (outT x S).map (·.2) := by
  intro h
  obtain ⟨t, h1, h2⟩ := List.mem_map.1 h
  have := (List.mem_filter.1 h1).2
  simp only [bne_iff_ne, ne_eq] at this
  exact this h2
theorem K.del {m : GM} {S : List (Int × Int)} (h : K m S) (x : Int) : K (mdel (k := .int .i64) (v := .int .i64) m x) (outT x S) := by
  have hsub : ∀ (l : List ((Int × Int) × Nat)), (mdelL (k := .int .i64) (v := .int .i64) l x).Sublist l := fun l => by
    induction l with
    | nil => exact .slnil
    | cons e l ih =>
      obtain ⟨⟨a, b⟩, n⟩ := e
      show (bif (x == a) then l else ((a, b), n) :: mdelL (k := .int .i64) (v := .int .i64) l x).Sublist _
      cases x == a with
      | true => exact List.sublist_cons_self _ _
      | false => exact ih.cons₂ _
  refine ⟨h.st.sublist ((hsub m.1).map _), fun e he => h.lo e ((hsub m.1).subset he), h.ky.sublist ((hsub m.1).map _), ?_, h.so.sublist List.filter_sublist⟩
  show ((mdelL (k := .int .i64) (v := .int .i64) m.1 x).map tmr).Perm _
  rw [mdel_tmr _ _ h.ky]
  exact h.pm.filter _
theorem K.put {m : GM} {S : List (Int × Int)} (h : K m S) (x a : Int) : K (mput (k := .int .i64) (v := .int .i64) m x a) (insT (a, x) (outT x S)) := by
  have hso : (insT (a, x) (outT x S)).Pairwise fun x y => ltB x y = true := insT_sorted (h.so.sublist List.filter_sublist) (outT_not x S)
  unfold mput
  cases e : mfind (k := .int .i64) (v := .int .i64) m.1 x with
  | some e0 =>
    have hkeys := mset_keys (keyEq_int .i64) m.1 x a (v := .int .i64)
    have hst : ∀ (l : List ((Int × Int) × Nat)), (mset (k := .int .i64) (v := .int .i64) l x a).map (·.2) = l.map (·.2) := fun l => by
      induction l with
      | nil => rfl
      | cons e l ih =>
        obtain ⟨⟨b, c⟩, n⟩ := e
        show (bif (x == b) then ((x, a), n) :: l else ((b, c), n) :: mset (k := .int .i64) (v := .int .i64) l x a).map (·.2) = _
        cases x == b with
        | true => rfl
        | false => simp only [cond_false, List.map_cons, ih]
    refine ⟨?_, fun e he => ?_, ?_, ?_, hso⟩
    · show ((mset (k := .int .i64) (v := .int .i64) m.1 x a).map (·.2)).Nodup
      rw [hst]; exact h.st
    · have : e.2 ∈ (mset (k := .int .i64) (v := .int .i64) m.1 x a).map (·.2) := List.mem_map.2 ⟨e, he, rfl⟩
      rw [hst] at this
      obtain ⟨e', h1, h2⟩ := List.mem_map.1 this
      have := h.lo e' h1
      show e.2 < m.2
      omega
    · show ((mset (k := .int .i64) (v := .int .i64) m.1 x a).map fun e => e.1.1).Nodup
      rw [hkeys]; exact h.ky
    · show ((mset (k := .int .i64) (v := .int .i64) m.1 x a).map tmr).Perm _
      exact (mset_tmr m.1 x a h.ky ⟨e0, e⟩).trans (((h.pm.filter _).cons _).trans (insT_perm _ _))
  | none =>
    have hno : x ∉ m.1.map fun e => e.1.1 := (mfind_nokey (keyEq_int .i64)).1 e
    have hg : x ∉ S.map (·.2) := fun hm => by
      obtain ⟨t, h1, h2⟩ := List.mem_map.1 hm
      obtain ⟨e', h3, h4⟩ := List.mem_map.1 (h.pm.mem_iff.2 h1)
      exact hno (List.mem_map.2 ⟨e', h3, by rw [← h2, ← h4]; rfl⟩)
    refine ⟨?_, fun e he => ?_, ?_, ?_, hso⟩
    · show ((m.1 ++ [((x, a), m.2)]).map (·.2)).Nodup
      rw [List.map_append, List.nodup_append]
      refine ⟨h.st, by simp, fun p hp r hr hpr => ?_⟩
      obtain ⟨e', h1, h2⟩ := List.mem_map.1 hp
      have := h.lo e' h1
      simp only [List.map_cons, List.map_nil, List.mem_singleton] at hr
      omega
    · rcases List.mem_append.1 he with h1 | h1
      · have := h.lo e h1
        show e.2 < m.2 + 1
        omega
      · rw [List.mem_singleton] at h1
        subst h1
        show m.2 < m.2 + 1
        omega
    · show ((m.1 ++ [((x, a), m.2)]).map fun e => e.1.1).Nodup
      rw [List.map_append, List.nodup_append]
      refine ⟨h.ky, by simp, fun p hp r hr hpr => ?_⟩
      simp only [List.map_cons, List.map_nil, List.mem_singleton] at hr
      subst hr; subst hpr
      exact hno hp
    · show ((m.1 ++ [((x, a), m.2)]).map tmr).Perm _
      rw [outT_none hg, List.map_append]
      refine List.Perm.trans ?_ (insT_perm _ _)
      exact (List.perm_append_comm (l₁ := m.1.map tmr) (l₂ := [(a, x)])).trans (h.pm.cons _)
end Go.Ab.D

/- Layer 8, clock: what each call does to the timers in order. -/
namespace Go.Ab.D
open Go Go.Ab

theorem tw_spec {α : Type} (p : α → Bool) : ∀ (S : List α), ∃ q, S.takeWhile p = S.take q ∧ S.dropWhile p = S.drop q ∧ q ≤ S.length ∧ (∀ (i : Nat) t, i < q → S[i]? = some t → p t = true) ∧ (∀ t, S[q]? = some t → p t = false)
  | [] => ⟨0, rfl, rfl, Nat.le_refl _, fun i t h => absurd h (Nat.not_lt_zero _), fun t h => by simp at h⟩
  | s :: S => by
    cases hs : p s with
    | false => exact ⟨0, by simp [hs], by simp [hs], Nat.zero_le _, fun i t h => absurd h (Nat.not_lt_zero _), fun t h => by simp at h; subst h; exact hs⟩
    | true =>
      obtain ⟨q, h1, h2, h3, h4, h5⟩ := tw_spec p S
      refine ⟨q + 1, by simp [hs, h1], by simp [hs, h2], by simp; omega, fun i t hi ht => ?_, fun t ht => h5 t (by simpa using ht)⟩
      cases i with
      | zero => simp at ht; subst ht; exact hs
      | succ i => exact h4 i t (by omega) (by simpa using ht)
theorem outT_cons {t : Int × Int} {S : List (Int × Int)} (h : (((t :: S)).map (·.2)).Nodup) : outT t.2 (t :: S) = S := by
  simp only [List.map_cons, List.nodup_cons] at h
  have h1 := outT_none h.1
  unfold outT at h1 ⊢
  rw [List.filter_cons]
  simp only [bne_self_eq_false, Bool.false_eq_true, if_false]
  exact h1
def isDue (now : Int) (t : Int × Int) : Bool := decide (t.1 ≤ now)
theorem told_ok {m : GM} {S : List (Int × Int)} (hK : K m S) (hl : S.length ≤ 70000) (now h h1 : Int) :
    ∃ m', clock_Clock_told__cm fuel now h h1 m = some (S.takeWhile (isDue now), (now, (h1, m'))) ∧ K m' (S.dropWhile (isDue now)) := by
  obtain ⟨q, w1, w2, w3, w4, w5⟩ := tw_spec (isDue now) S
  unfold clock_Clock_told__cm
  rw [All_ok hK hl, Option.bind_some]
  have loop : ∃ o, clock_Clock_told__cm_l0_it fuel (S, (now, (h1, m))) now (0, (now, (h1, m))) = some o ∧ ∃ m', o = ((q : Int), (now, (h1, m'))) ∧ K m' (S.drop q) := by
    unfold clock_Clock_told__cm_l0_it
    refine iter_ex (fun n s => ∃ (i : Nat) (mi : GM), s = ((i : Int), (now, (h1, mi))) ∧ i + n = q ∧ K mi (S.drop i)) _ (fun n s hI => ?_) (fun s hI => ?_) q _ (by omega) ⟨0, m, rfl, by omega, by simpa using hK⟩
    · obtain ⟨i, mi, rfl, hi, hKi⟩ := hI
      left
      have hlt : i < S.length := by omega
      have hget := List.getElem?_eq_getElem hlt
      have hdue := w4 i _ (by omega) hget
      unfold isDue at hdue
      refine ⟨_, ?_, i + 1, mdel (k := .int .i64) (v := .int .i64) mi (S[i]).2, rfl, by omega, ?_⟩
      · unfold clock_Clock_told__cm_l0
        have hd : decide ((i : Int) < ((S.length : Nat) : Int)) = true := by simp; omega
        simp only [hd, cond_true]
        rw [idx_nat hlt, Option.bind_some, hget, Option.bind_some]
        simp only [hdue, Option.bind_some, cond_true]
        rw [w64 (by omega), hget, Option.bind_some]
        rfl
      · have hdr : S.drop i = S[i] :: S.drop (i + 1) := List.drop_eq_getElem_cons hlt
        have hK2 := hKi.del (S[i]).2
        rw [hdr] at hK2
        rw [outT_cons (by rw [← hdr]; exact hKi.ids)] at hK2
        exact hK2
    · obtain ⟨i, mi, rfl, hi, hKi⟩ := hI
      have hiq : i = q := by omega
      subst hiq
      refine ⟨_, ?_, mi, rfl, hKi⟩
      unfold clock_Clock_told__cm_l0
      by_cases hlt : i < S.length
      · have hget := List.getElem?_eq_getElem hlt
        have hnd := w5 _ hget
        unfold isDue at hnd
        have hd : decide ((i : Int) < ((S.length : Nat) : Int)) = true := by simp; omega
        simp only [hd, cond_true]
        rw [idx_nat hlt, Option.bind_some, hget, Option.bind_some]
        simp only [hnd, Option.bind_some, cond_false]
      · have hd : decide ((i : Int) < ((S.length : Nat) : Int)) = false := by simp; omega
        simp only [hd, cond_false, Option.bind_some]
  obtain ⟨o, ho, m', rfl, hK'⟩ := loop
  refine ⟨m', ?_, by rw [w2]; exact hK'⟩
  rw [ho, Option.bind_some]
  simp only []
  rw [upto_nat w3, Option.bind_some, upto_nat (Nat.le_refl _), Option.bind_some, w1]
def maxT : Int := 1152921504606846976
theorem Tick_ok {m : GM} {S : List (Int × Int)} (hK : K m S) (hl : S.length ≤ 70000) {h : Int} (h0 : 0 ≤ h ∧ h ≤ maxT) (h1 : Int) :
    ∃ m', clock_Clock_Tick__cm fuel h h1 m = some (S.takeWhile (isDue (if maxT < h + 1 then maxT else h + 1)), ((if maxT < h + 1 then maxT else h + 1), (h1, m'))) ∧ K m' (S.dropWhile (isDue (if maxT < h + 1 then maxT else h + 1))) := by
  unfold maxT at h0
  obtain ⟨m', e1, e2⟩ := told_ok hK hl (if maxT < h + 1 then maxT else h + 1) h h1
  refine ⟨m', ?_, e2⟩
  unfold clock_Clock_Tick__cm clock_Clock_none__cm
  rw [Option.bind_some]
  simp only [cond_false]
  rw [w64 (by omega)]
  unfold maxT at e1 ⊢
  rw [e1, Option.bind_some]
theorem Next_ok {m : GM} {S : List (Int × Int)} (hK : K m S) (hl : S.length ≤ 70000) (h h1 : Int) :
    clock_Clock_Next__cm fuel h h1 m = some ((S.headD (0, 0)).1, ((S.headD (0, 0)).2, (!S.isEmpty, (h, (h1, m))))) := by
  unfold clock_Clock_Next__cm
  rw [All_ok hK hl, Option.bind_some]
  cases S with
  | nil => rfl
  | cons t S =>
    have e : ((((t :: S).length : Nat) : Int) == 0) = false := by simp; omega
    simp only [e, cond_false]
    rw [show (0 : Int) = ((0 : Nat) : Int) from rfl, idx_nat (by simp : 0 < (t :: S).length), Option.bind_some]
    rfl
theorem Skip_nil {m : GM} (hK : K m []) (h h1 : Int) : clock_Clock_Skip__cm fuel h h1 m = some ([], (h, (h1, m))) := by
  unfold clock_Clock_Skip__cm
  rw [Next_ok hK (by simp), Option.bind_some]
  rfl
theorem Skip_cons {m : GM} {t : Int × Int} {S : List (Int × Int)} (hK : K m (t :: S)) (hl : (t :: S).length ≤ 70000) (h h1 : Int) :
    ∃ m', clock_Clock_Skip__cm fuel h h1 m = some ((t :: S).takeWhile (isDue t.1), (t.1, (h1, m'))) ∧ K m' ((t :: S).dropWhile (isDue t.1)) := by
  obtain ⟨m', e1, e2⟩ := told_ok hK hl t.1 h h1
  refine ⟨m', ?_, e2⟩
  unfold clock_Clock_Skip__cm
  rw [Next_ok hK hl, Option.bind_some]
  show (clock_Clock_told__cm fuel t.1 h h1 m).bind _ = _
  rw [e1, Option.bind_some]
theorem Now_ok (m : GM) (h h1 : Int) : clock_Clock_Now__cm fuel h h1 m = some (h, (h, (h1, m))) := rfl
def dueOf (S : List (Int × Int)) (x : Int) : Option Int := (S.find? fun t => t.2 == x).map (·.1)
theorem K.due {m : GM} {S : List (Int × Int)} (h : K m S) (x : Int) : mget (k := .int .i64) (v := .int .i64) m x = dueOf S x := by
  unfold dueOf
  cases e : S.find? fun t => t.2 == x with
  | none =>
    rw [List.find?_eq_none] at e
    exact (h.get_none x).2 fun hm => by
      obtain ⟨t, h1, h2⟩ := List.mem_map.1 hm
      exact e t h1 (by simpa using h2)
  | some t =>
    have h1 := List.mem_of_find?_eq_some e
    have h2 := List.find?_some e
    simp only [beq_iff_eq] at h2
    exact (h.get x t.1).2 (by rw [← h2]; exact h1)
theorem Due_ok {m : GM} {S : List (Int × Int)} (h : K m S) (x t h1 : Int) : clock_Clock_Due__cm fuel x t h1 m = some ((dueOf S x).getD 0, ((dueOf S x).isSome, (t, (h1, m)))) := by
  unfold clock_Clock_Due__cm clock_Clock_none__cm
  rw [Option.bind_some]
  simp only [cond_false]
  rw [h.due x]
theorem dueOf_some {S : List (Int × Int)} {x : Int} : (dueOf S x).isSome = true ↔ x ∈ S.map (·.2) := by
  unfold dueOf
  rw [Option.isSome_map, List.find?_isSome]
  constructor
  · rintro ⟨t, h1, h2⟩
    exact List.mem_map.2 ⟨t, h1, by simpa using h2⟩
  · intro h
    obtain ⟨t, h1, h2⟩ := List.mem_map.1 h
    exact ⟨t, h1, by simpa using h2⟩
theorem Unset_ok {m : GM} {S : List (Int × Int)} (h : K m S) (x t h1 : Int) : ∃ m', clock_Clock_Unset__cm fuel x t h1 m = some ((dueOf S x).isSome, (t, (h1, m'))) ∧ K m' (outT x S) := by
  refine ⟨_, ?_, h.del x⟩
  unfold clock_Clock_Unset__cm clock_Clock_none__cm
  rw [Option.bind_some]
  simp only [cond_false]
  rw [h.due x]
/-- What setting a timer tells, and leaves. -/
def setT (now most : Int) (S : List (Int × Int)) (x d : Int) : Int × List (Int × Int) :=
  if d < 1 ∨ d > maxT - now then (2, S) else if (dueOf S x).isSome = false ∧ (S.length : Int) ≥ most then (71, S) else (0, insT (now + d, x) (outT x S))
theorem Set_ok {m : GM} {S : List (Int × Int)} (h : K m S) {now : Int} (h0 : 0 ≤ now ∧ now ≤ maxT) (most x d : Int) :
    ∃ m', clock_Clock_Set__cm fuel x d now most m = some ((setT now most S x d).1, (now, (most, m'))) ∧ K m' (setT now most S x d).2 := by
  unfold maxT at h0
  unfold clock_Clock_Set__cm clock_Clock_none__cm
  rw [Option.bind_some]
  simp only [cond_false]
  have hlen : ((m.1.length : Nat) : Int) = (S.length : Int) := by rw [h.len]
  rw [h.due x, w64 (x := 1152921504606846976 - now) (by omega)]
  unfold setT maxT
  by_cases c1 : d < 1
  · refine ⟨m, ?_, ?_⟩
    · simp [c1]
    · simp [c1]; exact h
  · have c1' : decide (d < 1) = false := by simpa using c1
    by_cases c2 : d > 1152921504606846976 - now
    · refine ⟨m, ?_, ?_⟩
      · simp [c1', c2]
      · simp [c2]; exact h
    · have c2' : decide (d > 1152921504606846976 - now) = false := by simpa using c2
      have c3 : ¬ (d < 1 ∨ d > 1152921504606846976 - now) := by omega
      rw [if_neg c3]
      simp only [c1', c2', cond_false, Option.bind_some]
      cases hs : (dueOf S x).isSome with
      | false =>
        simp only [Bool.not_false, cond_true, Option.bind_some, true_and, hlen]
        by_cases c4 : (S.length : Int) ≥ most
        · have c4' : decide ((S.length : Int) ≥ most) = true := by simpa using c4
          rw [if_pos c4]
          exact ⟨m, by simp only [c4', cond_true], h⟩
        · have c4' : decide ((S.length : Int) ≥ most) = false := by simpa using c4
          rw [if_neg c4]
          refine ⟨_, ?_, h.put x (now + d)⟩
          simp only [c4', cond_false]
          rw [w64 (by omega)]
      | true =>
        simp only [Bool.not_true, cond_false, Option.bind_some]
        rw [if_neg (by simp)]
        refine ⟨_, ?_, h.put x (now + d)⟩
        rw [w64 (by omega)]
theorem New_ok {most : Int} (h : 1 ≤ most ∧ most ≤ 65536) : clock_New fuel most = some (.inr (0, (0, (most, ([], 0))))) := by
  unfold clock_New
  have h1 : decide (most < 1) = false := by simp; omega
  have h2 : decide (most > 65536) = false := by simp; omega
  simp only [h1, h2, cond_false, Option.bind_some]
theorem New_no {most : Int} (h : most < 1 ∨ most > 65536) : clock_New fuel most = some (.inl 2) := by
  unfold clock_New
  by_cases h1 : most < 1
  · have h1 : decide (most < 1) = true := by simpa using h1
    simp only [h1, cond_true, Option.bind_some]
  · have h2 : decide (most > 65536) = true := by simp; omega
    have h1 : decide (most < 1) = false := by simpa using h1
    simp only [h1, h2, cond_false, Option.bind_some, cond_true]
end Go.Ab.D

/- Layer 8, clock: the chapter's examples. -/
namespace Go.Ab.D
open Go Go.Ab
theorem Set_is {m : GM} {S : List (Int × Int)} (h : K m S) {now : Int} (h0 : 0 ≤ now ∧ now ≤ maxT) (most x d : Int) {e : Int} {S' : List (Int × Int)} (hs : setT now most S x d = (e, S')) :
    ∃ m', clock_Clock_Set__cm fuel x d now most m = some (e, (now, (most, m'))) ∧ K m' S' := by
  have := Set_ok h h0 most x d
  rw [hs] at this
  exact this
theorem Tick_is {m : GM} {S : List (Int × Int)} (hK : K m S) (hl : S.length ≤ 70000) {h : Int} (h0 : 0 ≤ h ∧ h ≤ maxT) (h1 : Int) {n : Int} {A B : List (Int × Int)} (hn : (if maxT < h + 1 then maxT else h + 1) = n) (ha : S.takeWhile (isDue n) = A) (hb : S.dropWhile (isDue n) = B) :
    ∃ m', clock_Clock_Tick__cm fuel h h1 m = some (A, (n, (h1, m'))) ∧ K m' B := by
  have := Tick_ok hK hl h0 h1
  rw [hn, ha, hb] at this
  exact this
theorem Skip_is {m : GM} {t : Int × Int} {S : List (Int × Int)} (hK : K m (t :: S)) (hl : (t :: S).length ≤ 70000) (h h1 : Int) {A B : List (Int × Int)} (ha : (t :: S).takeWhile (isDue t.1) = A) (hb : (t :: S).dropWhile (isDue t.1) = B) :
    ∃ m', clock_Clock_Skip__cm fuel h h1 m = some (A, (t.1, (h1, m'))) ∧ K m' B := by
  have := Skip_cons hK hl h h1
  rw [ha, hb] at this
  exact this
theorem Unset_is {m : GM} {S : List (Int × Int)} (h : K m S) (x t h1 : Int) {b : Bool} {S' : List (Int × Int)} (hb : (dueOf S x).isSome = b) (hs : outT x S = S') : ∃ m', clock_Clock_Unset__cm fuel x t h1 m = some (b, (t, (h1, m'))) ∧ K m' S' := by
  have := Unset_ok h x t h1
  rw [hb, hs] at this
  exact this
theorem awake_ok : law08_awake fuel = some true := by
  obtain ⟨m1, e1, k1⟩ := Set_is K.nil (now := 0) (by decide) 3 1 5 (e := 0) (S' := [(5, 1)]) (by decide)
  obtain ⟨m2, e2, k2⟩ := Set_is k1 (now := 0) (by decide) 3 2 3 (e := 0) (S' := [(3, 2), (5, 1)]) (by decide)
  obtain ⟨m3, e3, k3⟩ := Set_is k2 (now := 0) (by decide) 3 0 5 (e := 0) (S' := [(3, 2), (5, 0), (5, 1)]) (by decide)
  have e4 := Next_ok k3 (by decide) 0 3
  obtain ⟨m5, e5, k5⟩ := Tick_is k3 (by decide) (h := 0) (by decide) 3 (n := 1) (A := []) (B := [(3, 2), (5, 0), (5, 1)]) (by decide) (by decide) (by decide)
  obtain ⟨m6, e6, k6⟩ := Tick_is k5 (by decide) (h := 1) (by decide) 3 (n := 2) (A := []) (B := [(3, 2), (5, 0), (5, 1)]) (by decide) (by decide) (by decide)
  obtain ⟨m7, e7, k7⟩ := Tick_is k6 (by decide) (h := 2) (by decide) 3 (n := 3) (A := [(3, 2)]) (B := [(5, 0), (5, 1)]) (by decide) (by decide) (by decide)
  obtain ⟨m8, e8, k8⟩ := Set_is k7 (now := 3) (by decide) 3 1 9 (e := 0) (S' := [(5, 0), (12, 1)]) (by decide)
  have e9 := Due_ok k8 1 3 3
  obtain ⟨m10, e10, k10⟩ := Skip_is k8 (by decide) 3 3 (A := [(5, 0)]) (B := [(12, 1)]) (by decide) (by decide)
  obtain ⟨m11, e11, k11⟩ := Unset_is k10 1 5 3 (b := true) (S' := []) (by decide) (by decide)
  have e12 := Skip_nil k11 5 3
  obtain ⟨m13, e13, _⟩ := Set_is k11 (now := 5) (by decide) 3 4 0 (e := 2) (S' := []) (by decide)
  have d8 : dueOf [(5, 0), (12, 1)] 1 = some 12 := by decide
  rw [d8] at e9
  have i0 : law08_ids fuel [] [] = some true := by kernel_rfl
  have i1 : law08_ids fuel [(3, 2)] [2] = some true := by kernel_rfl
  have i2 : law08_ids fuel [(5, 0)] [0] = some true := by kernel_rfl
  have w1 : (!(IntKind.wrap .i64 (IntKind.wrap .i64 ((0 : Int) + 0) + 0) == 0)) = false := by decide
  have b0 : (!((0 : Int) == 0)) = false := by decide
  simp only [List.headD_cons, List.isEmpty_cons, Bool.not_false] at e4
  simp only [Option.getD_some, Option.isSome_some] at e9
  have b1 : (!(((3 : Int) == 3) && ((2 : Int) == 2))) = false := by decide
  have b12 : ((12 : Int) == 12) = true := by decide
  have b5 : ((5 : Int) == 5) = true := by decide
  unfold law08_awake
  rw [New_ok (by omega), Option.bind_some]
  simp only [b0, cond_false, cond_true, e1, Option.bind_some, e2, e3, w1, e4, Bool.not_true, b1, e5, i0, e6, e7, i1, e8, e9, b12, e10, i2, Now_ok, b5, e11, e12, e13]
  rfl
end Go.Ab.D

/- Layer 8, clock: what a script's call does; two lists of timers; a clock that is none. -/
namespace Go.Ab.D
open Go Go.Ab
theorem law08_ClockNone_true (id in_ : Int) (_k0 : OkV (.int .i64) id) (_k1 : OkV (.int .i64) in_) : law08_ClockNone fuel id in_ = some true := by
  refine Eq.trans (b := (law08_awake fuel).bind fun r => some r) (by kernel_rfl) ?_
  rw [awake_ok]
  rfl

/-! Lengths -/
theorem insT_length (t : Int × Int) (S : List (Int × Int)) : (insT t S).length = S.length + 1 := by
  have := (insT_perm t S).length_eq
  simpa using this.symm
theorem outT_le (x : Int) (S : List (Int × Int)) : (outT x S).length ≤ S.length := List.length_filter_le _ _
theorem outT_lt {x : Int} {S : List (Int × Int)} (h : x ∈ S.map (·.2)) : (outT x S).length + 1 ≤ S.length := by
  obtain ⟨t, h1, h2⟩ := List.mem_map.1 h
  have := List.length_filter_lt_length_iff_exists (l := S) (p := fun t => t.2 != x)
  have h3 := this.2 ⟨t, h1, by simp [h2]⟩
  unfold outT
  omega
theorem setT_len {now most : Int} {S : List (Int × Int)} {x d : Int} : (setT now most S x d).2.length ≤ S.length + 1 := by
  unfold setT
  split
  · simp
  · split
    · simp
    · simp only [insT_length]
      have := outT_le x S
      omega
theorem outT_insT {x a : Int} {S : List (Int × Int)} (h : x ∉ S.map (·.2)) : outT x (insT (a, x) S) = S := by
  unfold outT insT
  have h1 : ∀ (l : List (Int × Int)), (∀ t ∈ l, t ∈ S) → l.filter (fun t => t.2 != x) = l := fun l hl => by
    rw [List.filter_eq_self]
    intro t ht
    simp only [bne_iff_ne, ne_eq]
    intro h4
    exact h (List.mem_map.2 ⟨t, hl t ht, h4⟩)
  rw [List.filter_append, List.filter_cons]
  simp only [bne_self_eq_false, Bool.false_eq_true, if_false]
  rw [h1 _ fun t ht => (List.takeWhile_sublist _).subset ht, h1 _ fun t ht => (List.dropWhile_sublist _).subset ht, List.takeWhile_append_dropWhile]
theorem insT_ids {t : Int × Int} {S : List (Int × Int)} {x : Int} : x ∈ (insT t S).map (·.2) ↔ x = t.2 ∨ x ∈ S.map (·.2) := by
  rw [← ((insT_perm t S).map (·.2)).mem_iff]
  simp
theorem outT_mem {x y : Int} {S : List (Int × Int)} : y ∈ (outT x S).map (·.2) ↔ y ≠ x ∧ y ∈ S.map (·.2) := by
  unfold outT
  constructor
  · intro h
    obtain ⟨t, h1, h2⟩ := List.mem_map.1 h
    obtain ⟨h3, h4⟩ := List.mem_filter.1 h1
    simp only [bne_iff_ne, ne_eq] at h4
    exact ⟨by rw [← h2]; exact h4, List.mem_map.2 ⟨t, h3, h2⟩⟩
  · rintro ⟨h1, h2⟩
    obtain ⟨t, h3, rfl⟩ := List.mem_map.1 h2
    exact List.mem_map.2 ⟨t, List.mem_filter.2 ⟨h3, by simpa using h1⟩, rfl⟩
theorem K.due_is {m : GM} {S : List (Int × Int)} (h : K m S) {x a : Int} (hm : (a, x) ∈ S) : dueOf S x = some a := by
  rw [← h.due]
  exact (h.get x a).2 hm
theorem insT_mem (t : Int × Int) (S : List (Int × Int)) : t ∈ insT t S := (insT_perm t S).mem_iff.1 List.mem_cons_self

/-! Two lists -/
theorem Same_ok {a b : List (Int × Int)} (ha : a.length ≤ 70000) : low_SameTimers fuel a b = some (decide (a = b)) := by
  unfold low_SameTimers
  by_cases hl : a.length = b.length
  · have e1 : (!(((a.length : Nat) : Int) == ((b.length : Nat) : Int))) = false := by simp [hl]
    simp only [e1, cond_false]
    have loop : ∃ o, low_SameTimers_l0_it fuel a b 0 = some o ∧ (match o with | .inl () => a = b | .inr r => r = false ∧ a ≠ b) := by
      unfold low_SameTimers_l0_it
      refine iter_ex (fun n s => ∃ i : Nat, s = (i : Int) ∧ i + n = a.length ∧ a.take i = b.take i) _ (fun n s hI => ?_) (fun s hI => ?_) a.length _ (by omega) ⟨0, rfl, by omega, rfl⟩
      · obtain ⟨i, rfl, hi, hp⟩ := hI
        have hia : i < a.length := by omega
        have hib : i < b.length := by omega
        unfold low_SameTimers_l0
        have hd : decide ((i : Int) < ((a.length : Nat) : Int)) = true := by simp; omega
        simp only [hd, cond_true]
        rw [idx_nat hia, Option.bind_some, List.getElem?_eq_getElem hia, Option.bind_some, idx_nat hib, Option.bind_some, List.getElem?_eq_getElem hib, Option.bind_some]
        by_cases he : a[i] = b[i]
        · left
          have e2 : (!((a[i].1 == b[i].1) && (a[i].2 == b[i].2))) = false := by rw [he]; simp
          simp only [e2, cond_false]
          refine ⟨_, rfl, i + 1, by rw [w64 (by omega)]; rfl, by omega, ?_⟩
          rw [List.take_add_one, List.take_add_one, hp, List.getElem?_eq_getElem hia, List.getElem?_eq_getElem hib, he]
        · right
          have e2 : (!((a[i].1 == b[i].1) && (a[i].2 == b[i].2))) = true := by
            cases h : ((a[i].1 == b[i].1) && (a[i].2 == b[i].2)) with
            | false => rfl
            | true =>
              simp only [Bool.and_eq_true, beq_iff_eq] at h
              exact absurd (Prod.ext h.1 h.2) he
          simp only [e2, cond_true]
          refine ⟨_, rfl, rfl, fun h => he ?_⟩
          subst h; rfl
      · obtain ⟨i, rfl, hi, hp⟩ := hI
        unfold low_SameTimers_l0
        have hd : decide ((i : Int) < ((a.length : Nat) : Int)) = false := by simp; omega
        simp only [hd, cond_false]
        refine ⟨_, rfl, ?_⟩
        have h1 : a.take i = a := List.take_of_length_le (by omega)
        have h2 : b.take i = b := List.take_of_length_le (by omega)
        rw [h1, h2] at hp
        exact hp
    obtain ⟨o, ho, hq⟩ := loop
    rw [ho, Option.bind_some]
    cases o with
    | inl u => simp only at hq; simp [hq]
    | inr r => obtain ⟨rfl, h2⟩ := hq; simp [h2]
  · have e1 : (!(((a.length : Nat) : Int) == ((b.length : Nat) : Int))) = true := by
      simp; omega
    simp only [e1, cond_true]
    have : a ≠ b := fun h => hl (by rw [h])
    simp [this]
theorem Same_self {a : List (Int × Int)} (ha : a.length ≤ 70000) : low_SameTimers fuel a a = some true := by
  rw [Same_ok ha]; simp

/-! A call that sets or unsets -/
def pick20 (x : Int) : Int := if Int.tmod (Int.tmod x 1000) 20 < 0 then Int.tmod (Int.tmod x 1000) 20 + 20 else Int.tmod (Int.tmod x 1000) 20
theorem pick20_le (x : Int) : 0 ≤ pick20 x ∧ pick20 x < 20 := by
  unfold pick20
  have h1 := Int.tmod_lt_of_pos (Int.tmod x 1000) (b := 20) (by omega)
  have h2 : -20 < Int.tmod (Int.tmod x 1000) 20 := by
    have := Int.lt_tmod_of_pos (Int.tmod x 1000) (b := 20) (by omega)
    exact this
  split <;> omega
theorem Pick20_ok (x : Int) : low_Pick fuel (Int.tmod x 1000) 20 = some (pick20 x) := by
  unfold low_Pick
  have h1 : decide ((20 : Int) ≤ 0) = false := by decide
  have h2 : (!(decide ((20 : Int) = 0))) = true := by decide
  simp only [h1, cond_false]
  rw [need_true h2]
  unfold pick20
  have hl := Int.tmod_lt_of_pos (Int.tmod x 1000) (b := 20) (by omega)
  have hg := Int.lt_tmod_of_pos (Int.tmod x 1000) (b := 20) (by omega)
  by_cases h : Int.tmod (Int.tmod x 1000) 20 < 0
  · simp only [h, decide_true, cond_true, if_true]
    rw [w64 (by omega)]
  · simp only [h, decide_false, cond_false, if_false]
abbrev OpT := Int × (Int × Int)
def doesT (now most : Int) (S : List (Int × Int)) (o : OpT) : List (Int × Int) :=
  if 1 ≤ o.1 ∧ o.1 ≤ 4 then (setT now most S o.2.1 (1 + pick20 o.2.2)).2 else if o.1 = 5 then outT o.2.1 S else S
theorem does_ok {m : GM} {S : List (Int × Int)} (h : K m S) {now : Int} (h0 : 0 ≤ now ∧ now ≤ maxT) (most : Int) (o : OpT) :
    ∃ m', law08_does__cm fuel o now most m = some (now, (most, m')) ∧ K m' (doesT now most S o) := by
  have hp := pick20_le o.2.2
  unfold law08_does__cm doesT
  by_cases h1 : o.1 ≥ 1
  · have h1' : decide (o.1 ≥ 1) = true := by simpa using h1
    by_cases h4 : o.1 ≤ 4
    · have h4' : decide (o.1 ≤ 4) = true := by simpa using h4
      simp only [h1', h4', cond_true, Option.bind_some]
      rw [if_pos ⟨h1, h4⟩, Pick20_ok, Option.bind_some, w64 (by omega)]
      obtain ⟨m', e1, k1⟩ := Set_ok h h0 most o.2.1 (1 + pick20 o.2.2)
      rw [e1, Option.bind_some]
      exact ⟨m', rfl, k1⟩
    · have h4' : decide (o.1 ≤ 4) = false := by simpa using h4
      simp only [h1', h4', cond_true, Option.bind_some, cond_false]
      rw [if_neg (by omega)]
      by_cases h5 : o.1 = 5
      · have h5' : (o.1 == 5) = true := by simpa using h5
        obtain ⟨m', e1, k1⟩ := Unset_ok h o.2.1 now most
        simp only [h5', cond_true]
        rw [e1, Option.bind_some, if_pos h5]
        exact ⟨m', rfl, k1⟩
      · have h5' : (o.1 == 5) = false := by simpa using h5
        simp only [h5', cond_false]
        rw [if_neg h5]
        exact ⟨m, rfl, h⟩
  · have h1' : decide (o.1 ≥ 1) = false := by simpa using h1
    have h5' : (o.1 == 5) = false := by simp; omega
    simp only [h1', cond_false, Option.bind_some, h5']
    rw [if_neg (by omega), if_neg (by omega)]
    exact ⟨m, rfl, h⟩
theorem doesT_len (now most : Int) (S : List (Int × Int)) (o : OpT) : (doesT now most S o).length ≤ S.length + 1 := by
  unfold doesT
  split
  · exact setT_len
  · split
    · have := outT_le o.2.1 S; omega
    · omega
end Go.Ab.D

/- Layer 8, clock: ClockSkips. -/
namespace Go.Ab.D
open Go Go.Ab
theorem drop_due {n : Int} : ∀ {S : List (Int × Int)}, (S.Pairwise fun x y => ltB x y = true) → ∀ t ∈ S.dropWhile (isDue n), n < t.1
  | [], _, t, ht => by simp at ht
  | s :: S, hs, t, ht => by
    rw [List.pairwise_cons] at hs
    cases hd : isDue n s with
    | true =>
      simp only [List.dropWhile_cons, hd, if_true] at ht
      exact drop_due hs.2 t ht
    | false =>
      simp only [List.dropWhile_cons, hd, Bool.false_eq_true, if_false] at ht
      have hsn : n < s.1 := by
        unfold isDue at hd
        simp only [decide_eq_false_iff_not] at hd
        omega
      rcases List.mem_cons.1 ht with rfl | h
      · exact hsn
      · have := hs.1 t h
        rw [ltB_iff] at this
        omega
theorem take_due {n : Int} : ∀ {S : List (Int × Int)}, ∀ t ∈ S.takeWhile (isDue n), t.1 ≤ n
  | [], t, ht => by simp at ht
  | s :: S, t, ht => by
    cases hd : isDue n s with
    | true =>
      simp only [List.takeWhile_cons, hd, if_true] at ht
      rcases List.mem_cons.1 ht with rfl | h
      · unfold isDue at hd
        simpa using hd
      · exact take_due t h
    | false =>
      simp only [List.takeWhile_cons, hd, Bool.false_eq_true, if_false] at ht
      simp at ht
theorem none_due {n : Int} {S : List (Int × Int)} (h : ∀ t ∈ S, n < t.1) : S.takeWhile (isDue n) = [] ∧ S.dropWhile (isDue n) = S := by
  cases S with
  | nil => exact ⟨rfl, rfl⟩
  | cons s S =>
    have hs : isDue n s = false := by
      unfold isDue
      have := h s List.mem_cons_self
      simp; omega
    exact ⟨by simp [hs], by simp [hs]⟩
theorem Tick_at {m : GM} {S : List (Int × Int)} (hK : K m S) (hl : S.length ≤ 70000) {h : Int} (h0 : 0 ≤ h ∧ h ≤ 1000000) (h1 : Int) :
    ∃ m', clock_Clock_Tick__cm fuel h h1 m = some (S.takeWhile (isDue (h + 1)), (h + 1, (h1, m'))) ∧ K m' (S.dropWhile (isDue (h + 1))) :=
  Tick_is hK hl (by unfold maxT; omega) h1 (n := h + 1) (by unfold maxT; rw [if_neg (by omega)]) rfl rfl
/-- Timers that are due within twenty ticks. -/
def Soon (now : Int) (S : List (Int × Int)) : Prop := ∀ t ∈ S, now < t.1 ∧ t.1 ≤ now + 20
theorem Soon.set {now most : Int} {S : List (Int × Int)} (h : Soon now S) {x d : Int} (hd : d ≤ 20) : Soon now (setT now most S x d).2 := by
  unfold setT
  split
  · exact h
  · rename_i h1
    split
    · exact h
    · intro t ht
      rcases List.mem_cons.1 ((insT_perm _ _).mem_iff.2 ht) with rfl | h2
      · simp only; omega
      · exact h t (List.mem_filter.1 h2).1
theorem Soon.does {now most : Int} {S : List (Int × Int)} (h : Soon now S) (o : OpT) : Soon now (doesT now most S o) := by
  have := pick20_le o.2.2
  unfold doesT
  split
  · exact h.set (by omega)
  · split
    · exact fun t ht => h t (List.mem_filter.1 ht).1
    · exact h
theorem Soon.tick {now : Int} {S : List (Int × Int)} (h : Soon now S) (hs : S.Pairwise fun x y => ltB x y = true) : Soon (now + 1) (S.dropWhile (isDue (now + 1))) := fun t ht => by
  have h1 := drop_due hs t ht
  have h2 := h t ((List.dropWhile_sublist _).subset ht)
  omega
theorem dropWhile_len {p : Int × Int → Bool} (S : List (Int × Int)) : (S.dropWhile p).length ≤ S.length := (List.dropWhile_sublist _).length_le

/-- Both clocks, called alike. -/
theorem skips_loop (ops : List OpT) : ∃ o, law08_ClockSkips_l9_it fuel ops (0, (0, (100, (([], 0), (0, (100, ([], 0))))))) = some o ∧
    ∃ (h : Int) (ma mb : GM) (S : List (Int × Int)), o = (h, (100, (ma, (h, (100, mb))))) ∧ K ma S ∧ K mb S ∧ Soon h S ∧ S.length ≤ 50 ∧ 0 ≤ h ∧ h ≤ 50 := by
  unfold law08_ClockSkips_l9_it
  refine iter_ex (fun n s => ∃ (i : Nat) (h : Int) (ma mb : GM) (S : List (Int × Int)), s = ((i : Int), (h, (100, (ma, (h, (100, mb)))))) ∧ K ma S ∧ K mb S ∧ Soon h S ∧ S.length ≤ i ∧ 0 ≤ h ∧ h ≤ i ∧ i + n = 50) _ (fun n s hI => ?_) (fun s hI => ?_) 50 _ (by omega)
    ⟨0, 0, _, _, [], rfl, K.nil, K.nil, (fun t ht => by simp at ht), by simp, by omega, by omega, by omega⟩
  · obtain ⟨i, h, ma, mb, S, rfl, hA, hB, hS, hl, h0, h1, hi⟩ := hI
    unfold law08_ClockSkips_l9
    have h50 : decide ((i : Int) < 50) = true := by simp; omega
    by_cases hlt : i < ops.length
    · left
      have hd : decide ((i : Int) < ((ops.length : Nat) : Int)) = true := by simp; omega
      simp only [hd, h50, cond_true, Option.bind_some]
      simp only [idx_nat hlt, Option.bind_some, List.getElem?_eq_getElem hlt]
      obtain ⟨ma', e1, k1⟩ := does_ok hA (now := h) (by unfold maxT; omega) 100 ops[i]
      obtain ⟨mb', e2, k2⟩ := does_ok hB (now := h) (by unfold maxT; omega) 100 ops[i]
      simp only [e1, e2, Option.bind_some]
      have hS1 := hS.does (most := 100) ops[i]
      have hl1 := doesT_len h 100 S ops[i]
      generalize doesT h 100 S ops[i] = S1 at *
      by_cases h6 : ops[i].1 ≥ 6
      · have h6' : decide (ops[i].1 ≥ 6) = true := by simpa using h6
        obtain ⟨ma2, e3, k3⟩ := Tick_at k1 (by omega) (h := h) (by omega) 100
        obtain ⟨mb2, e4, k4⟩ := Tick_at k2 (by omega) (h := h) (by omega) 100
        simp only [h6', cond_true, e3, e4, Option.bind_some]
        refine ⟨_, rfl, i + 1, h + 1, ma2, mb2, _, by rw [w64 (by omega)]; rfl, k3, k4, hS1.tick k1.so, ?_, by omega, by omega, by omega⟩
        have := dropWhile_len (p := isDue (h + 1)) S1
        omega
      · have h6' : decide (ops[i].1 ≥ 6) = false := by simpa using h6
        simp only [h6', cond_false, Option.bind_some]
        exact ⟨_, rfl, i + 1, h, ma', mb', S1, by rw [w64 (by omega)]; rfl, k1, k2, hS1, by omega, by omega, by omega, by omega⟩
    · right
      have hd : decide ((i : Int) < ((ops.length : Nat) : Int)) = false := by simp; omega
      simp only [hd, cond_false, Option.bind_some]
      exact ⟨_, rfl, h, ma, mb, S, rfl, hA, hB, hS, by omega, h0, by omega⟩
  · obtain ⟨i, h, ma, mb, S, rfl, hA, hB, hS, hl, h0, h1, hi⟩ := hI
    unfold law08_ClockSkips_l9
    have h50 : decide ((i : Int) < 50) = false := by simp; omega
    refine ⟨(h, (100, (ma, (h, (100, mb))))), ?_, h, ma, mb, S, rfl, hA, hB, hS, by omega, h0, by omega⟩
    cases decide ((i : Int) < ((ops.length : Nat) : Int)) <;> simp only [h50, cond_true, cond_false, Option.bind_some]
/-- As many ticks as it takes. -/
theorem skips_ticks {h : Int} {ha hb : Int} {ma mb : GM} {t : Int × Int} {S : List (Int × Int)} (hB : K mb (t :: S)) (hS : Soon h (t :: S)) (hl : (t :: S).length ≤ 50) (h0 : 0 ≤ h ∧ h ≤ 10000) :
    ∃ o, law08_ClockSkips_l10_it fuel ([], (0, (ha, (hb, (ma, (h, (100, mb))))))) = some o ∧ ∃ mb', o = ((t :: S).takeWhile (isDue t.1), (ha, (hb, (ma, (t.1, (100, mb')))))) ∧ K mb' ((t :: S).dropWhile (isDue t.1)) := by
  have ht := hS t List.mem_cons_self
  have hmin : ∀ s ∈ t :: S, t.1 ≤ s.1 := fun s hs => by
    rcases List.mem_cons.1 hs with rfl | h
    · omega
    · have := (List.pairwise_cons.1 hB.so).1 s h
      rw [ltB_iff] at this
      omega
  have hne : (t :: S).takeWhile (isDue t.1) ≠ [] := by
    have : isDue t.1 t = true := by simp [isDue]
    simp [this]
  unfold law08_ClockSkips_l10_it
  refine iter_ex (fun n s => (∃ (k : Nat) (m : GM), s = ([], ((k : Int), (ha, (hb, (ma, (h + k, (100, m))))))) ∧ K m (t :: S) ∧ 0 < n ∧ h + k + n = t.1) ∨ (n = 0 ∧ ∃ (k : Int) (m : GM), s = ((t :: S).takeWhile (isDue t.1), (k, (ha, (hb, (ma, (t.1, (100, m))))))) ∧ K m ((t :: S).dropWhile (isDue t.1)))) _ (fun n s hI => ?_) (fun s hI => ?_) (t.1 - h).toNat _ (by omega)
    (.inl ⟨0, mb, by simp, hB, by omega, by omega⟩)
  · rcases hI with ⟨k, m, rfl, hK, hn, hk⟩ | ⟨hn, _⟩
    · left
      obtain ⟨m', e1, k1⟩ := Tick_at hK (by omega) (h := h + k) (by omega) 100
      unfold law08_ClockSkips_l10
      have hd : decide ((k : Int) < 25) = true := by simp; omega
      have hz : ((((([] : List (Int × Int)).length : Nat)) : Int) == 0) = true := rfl
      simp only [hd, hz, cond_true, Option.bind_some, e1]
      refine ⟨_, rfl, ?_⟩
      by_cases hlast : n = 0
      · right
        refine ⟨hlast, IntKind.wrap .i64 ((k : Int) + 1), m', ?_, ?_⟩
        · have : h + (k : Int) + 1 = t.1 := by omega
          rw [this]
        · have : h + (k : Int) + 1 = t.1 := by omega
          rw [this] at k1
          exact k1
      · left
        have hno := none_due (n := h + (k : Int) + 1) (S := t :: S) fun s hs => by have := hmin s hs; omega
        rw [hno.2] at k1
        refine ⟨k + 1, m', ?_, k1, by omega, by omega⟩
        rw [hno.1, w64 (by omega)]
        have : h + (k : Int) + 1 = h + ((k + 1 : Nat) : Int) := by omega
        rw [this]; rfl
    · omega
  · rcases hI with ⟨_, _, _, _, hn, _⟩ | ⟨_, k, m, rfl, hK⟩
    · omega
    · refine ⟨_, ?_, m, rfl, hK⟩
      unfold law08_ClockSkips_l10
      have hz : (((((t :: S).takeWhile (isDue t.1)).length : Nat) : Int) == 0) = false := by
        have := List.length_pos_iff.2 hne
        simp only [beq_eq_false_iff_ne, ne_eq]
        omega
      cases decide ((k : Int) < 25) <;> simp only [hz, cond_true, cond_false, Option.bind_some]
theorem law08_ClockSkips_true (ops : List OpT) (_k0 : OkV (.sl (.pair (.int .i64) (.pair (.int .i64) (.int .i64)))) ops) : law08_ClockSkips fuel ops = some true := by
  obtain ⟨o, eo, h, ma, mb, S, rfl, hA, hB, hS, hl, h0, h1⟩ := skips_loop ops
  have b0 : (!((0 : Int) == 0)) = false := by decide
  have loop : ∃ o, law08_ClockSkips_l11_it fuel (0, (h, (100, (ma, (h, (100, mb)))))) = some o ∧ (o = .inl () ∨ o = .inr true) := by
    unfold law08_ClockSkips_l11_it
    refine iter_ex (fun n s => ∃ (i : Nat) (h : Int) (ma mb : GM) (S : List (Int × Int)), s = ((i : Int), (h, (100, (ma, (h, (100, mb)))))) ∧ K ma S ∧ K mb S ∧ Soon h S ∧ S.length ≤ 50 ∧ 0 ≤ h ∧ h ≤ 50 + 20 * i ∧ i + n = 60) _ (fun n s hI => ?_) (fun s hI => ?_) 60 _ (by omega)
      ⟨0, h, ma, mb, S, rfl, hA, hB, hS, hl, h0, by omega, by omega⟩
    · clear eo hA hB hS hl h0 h1 h ma mb S
      obtain ⟨i, h, ma, mb, S, rfl, hA, hB, hS, hl, h0, h1, hi⟩ := hI
      unfold law08_ClockSkips_l11
      have h60 : decide ((i : Int) < 60) = true := by simp; omega
      simp only [h60, cond_true]
      rw [Next_ok hA (by omega), Option.bind_some]
      simp only []
      cases S with
      | nil =>
        right
        rw [Skip_nil hA, Option.bind_some]
        have hh : (h == h) = true := by simp
        have hc : (!((!([] : List (Int × Int)).isEmpty) == (decide (((([] : List (Int × Int)).length : Nat) : Int) > 0)))) = false := by decide
        simp only [hc, cond_false, List.isEmpty_nil, Bool.not_true, Bool.not_false, cond_true, Now_ok, Option.bind_some, hh, awake_ok]
        exact ⟨_, rfl, .inr rfl⟩
      | cons t S =>
        left
        obtain ⟨ma', e1, k1⟩ := Skip_cons hA (by omega) h 100
        obtain ⟨o2, e2, mb', rfl, k2⟩ := skips_ticks (ha := t.1) (hb := 100) (ma := ma') hB hS hl ⟨h0, by omega⟩
        have ht := hS t List.mem_cons_self
        have hlt : ((t :: S).takeWhile (isDue t.1)).length ≤ 50 := Nat.le_trans (List.takeWhile_sublist _).length_le hl
        have hld : ((t :: S).dropWhile (isDue t.1)).length ≤ 50 := Nat.le_trans (dropWhile_len _) hl
        have hne : 0 < ((t :: S).takeWhile (isDue t.1)).length := by
          have : isDue t.1 t = true := by simp [isDue]
          simp [this]
        have hc : (!(true == (decide (((((t :: S).takeWhile (isDue t.1)).length : Nat) : Int) > 0)))) = false := by
          have : decide (((((t :: S).takeWhile (isDue t.1)).length : Nat) : Int) > 0) = true := by simp only [decide_eq_true_eq]; omega
          rw [this]; rfl
        have hh : (!(t.1 == t.1)) = false := by simp
        rw [e1, Option.bind_some]
        simp only [hc, cond_false, List.isEmpty_cons, Bool.not_false, Bool.not_true, e2, Option.bind_some, Same_self (a := (t :: S).takeWhile (isDue t.1)) (by omega), Now_ok, hh, All_ok k1 (by omega), All_ok k2 (by omega), Same_self (a := (t :: S).dropWhile (isDue t.1)) (by omega)]
        refine ⟨_, rfl, i + 1, t.1, ma', mb', _, by rw [w64 (by omega)]; rfl, k1, k2, fun s hs => ?_, hld, by omega, by omega, by omega⟩
        have q1 := drop_due hA.so s hs
        have q2 := hS s ((List.dropWhile_sublist _).subset hs)
        omega
    · obtain ⟨i, h, ma, mb, S, rfl, hA, hB, hS, hl, h0, h1, hi⟩ := hI
      unfold law08_ClockSkips_l11
      have h60 : decide ((i : Int) < 60) = false := by simp; omega
      simp only [h60, cond_false]
      exact ⟨_, rfl, .inl rfl⟩
  obtain ⟨o2, e2, hq⟩ := loop
  unfold law08_ClockSkips
  rw [New_ok (by omega), Option.bind_some]
  simp only [Option.bind_some]
  simp only [b0, cond_false, Option.bind_some, eo, e2]
  rcases hq with rfl | rfl
  · simp only [awake_ok, Option.bind_some]
  · rfl
end Go.Ab.D

/- Layer 8, clock: ClockOnce. -/
namespace Go.Ab.D
open Go Go.Ab
theorem sorted_eq {S S' : List (Int × Int)} (hp : S.Perm S') (h : S.Pairwise fun x y => ltB x y = true) (h' : S'.Pairwise fun x y => ltB x y = true) : S = S' :=
  (sort_is (.refl S) h).symm.trans (sort_is hp h')
theorem outT_perm {a x : Int} {S : List (Int × Int)} (hn : (S.map (·.2)).Nodup) (hm : (a, x) ∈ S) : ((a, x) :: outT x S).Perm S := by
  obtain ⟨A, B, rfl⟩ := List.append_of_mem hm
  rw [List.map_append, List.map_cons, List.nodup_append] at hn
  obtain ⟨h1, h2, h3⟩ := hn
  rw [List.nodup_cons] at h2
  have hA : x ∉ A.map (·.2) := fun h => h3 _ h _ List.mem_cons_self rfl
  have e : outT x (A ++ (a, x) :: B) = A ++ B := by
    have e1 := outT_none hA
    have e2 := outT_none h2.1
    unfold outT at e1 e2 ⊢
    rw [List.filter_append, List.filter_cons, e1, e2]
    simp
  rw [e]
  exact List.perm_middle.symm
theorem follow_some {md : GM} {S : List (Int × Int)} (h : K md S) {now : Int} {o : OpT} {m1 : GM} (h1 : K m1 (doesT now 200 S o)) (hn : 0 ≤ now ∧ now ≤ 1000) (hl : S.length < 200) {a : Int} (ha : dueOf (doesT now 200 S o) o.2.1 = some a) :
    K (mput (k := .int .i64) (v := .int .i64) md o.2.1 a) (doesT now 200 S o) := by
  have hp := h.put o.2.1 a
  have hd := pick20_le o.2.2
  have key : insT (a, o.2.1) (outT o.2.1 S) = doesT now 200 S o := by
    unfold doesT at ha h1 ⊢
    split at ha
    · rename_i hc
      rw [if_pos hc] at h1 ⊢
      have hs : setT now 200 S o.2.1 (1 + pick20 o.2.2) = (0, insT (now + (1 + pick20 o.2.2), o.2.1) (outT o.2.1 S)) := by
        unfold setT maxT
        rw [if_neg (by omega), if_neg (by omega)]
      rw [hs] at ha h1 ⊢
      simp only at ha h1 ⊢
      rw [h1.due_is (insT_mem _ _)] at ha
      simp only [Option.some.injEq] at ha
      rw [ha]
    · rename_i hc
      rw [if_neg hc] at h1 ⊢
      split at ha
      · have := dueOf_some.1 (show (dueOf (outT o.2.1 S) o.2.1).isSome = true by rw [ha]; rfl)
        exact absurd this (outT_not _ _)
      · rename_i hc2
        rw [if_neg hc2] at h1 ⊢
        have hm : (a, o.2.1) ∈ S := (h.get o.2.1 a).1 (by rw [h.due]; exact ha)
        exact sorted_eq (((insT_perm _ _).symm).trans (outT_perm h.ids hm)) hp.so h.so
  rw [key] at hp
  exact hp
theorem follow_none {md : GM} {S : List (Int × Int)} (h : K md S) {now : Int} {o : OpT} {m1 : GM} (h1 : K m1 (doesT now 200 S o)) (hn : 0 ≤ now ∧ now ≤ 1000) (hl : S.length < 200) (ha : dueOf (doesT now 200 S o) o.2.1 = none) :
    K (mdel (k := .int .i64) (v := .int .i64) md o.2.1) (doesT now 200 S o) := by
  have hp := h.del o.2.1
  have hd := pick20_le o.2.2
  have key : outT o.2.1 S = doesT now 200 S o := by
    unfold doesT at ha h1 ⊢
    split at ha
    · rename_i hc
      rw [if_pos hc] at h1 ⊢
      have hs : setT now 200 S o.2.1 (1 + pick20 o.2.2) = (0, insT (now + (1 + pick20 o.2.2), o.2.1) (outT o.2.1 S)) := by
        unfold setT maxT
        rw [if_neg (by omega), if_neg (by omega)]
      rw [hs] at ha h1
      simp only at ha h1
      rw [h1.due_is (insT_mem _ _)] at ha
      cases ha
    · rename_i hc
      rw [if_neg hc]
      split at ha
      · rename_i hc2
        rw [if_pos hc2]
      · rename_i hc2
        rw [if_neg hc2]
        refine outT_none fun hm => ?_
        exact absurd (dueOf_some.2 hm) (by rw [ha]; simp)
  rw [key] at hp
  exact hp
/-- What was told, looked up in what was known. -/
theorem once_told {now : Int} {A S2 : List (Int × Int)} {md m2 : GM} (hK : K md (A ++ S2)) (hA : ∀ t ∈ A, t.1 = now) (hl : A.length ≤ 1000) :
    ∃ md', law08_ClockOnce_l3_it fuel (A, (now, (200, m2))) (0, (now, (200, (m2, md)))) = some (.inl (now, (200, (m2, md')))) ∧ K md' S2 := by
  have loop : ∃ o, law08_ClockOnce_l3_it fuel (A, (now, (200, m2))) (0, (now, (200, (m2, md)))) = some o ∧ ∃ md', o = .inl (now, (200, (m2, md'))) ∧ K md' S2 := by
    unfold law08_ClockOnce_l3_it
    refine iter_ex (fun n s => ∃ (k : Nat) (mk : GM), s = ((k : Int), (now, (200, (m2, mk)))) ∧ K mk (A.drop k ++ S2) ∧ k + n = A.length) _ (fun n s hI => ?_) (fun s hI => ?_) A.length _ (by omega) ⟨0, md, rfl, by simpa using hK, by omega⟩
    · obtain ⟨k, mk, rfl, hk, hi⟩ := hI
      left
      have hlt : k < A.length := by omega
      have hdr : A.drop k = A[k] :: A.drop (k + 1) := List.drop_eq_getElem_cons hlt
      have hmem : (A[k].1, A[k].2) ∈ A.drop k ++ S2 := by rw [hdr]; exact List.mem_append_left _ List.mem_cons_self
      have hget := (hk.get A[k].2 A[k].1).2 hmem
      have hnow := hA A[k] (List.getElem_mem hlt)
      have hK2 := hk.del A[k].2
      have e2 : outT A[k].2 (A.drop k ++ S2) = A.drop (k + 1) ++ S2 := by
        rw [hdr]
        exact outT_cons (t := A[k]) (S := A.drop (k + 1) ++ S2) (by have := hk.ids; rw [hdr] at this; exact this)
      rw [e2] at hK2
      unfold law08_ClockOnce_l3
      have hd : decide ((k : Int) < ((A.length : Nat) : Int)) = true := by simp; omega
      simp only [hd, cond_true]
      rw [idx_nat hlt, Option.bind_some, List.getElem?_eq_getElem hlt, Option.bind_some]
      have c1 : (!(A[k].1 == now)) = false := by rw [hnow]; simp
      have c2 : (!(A[k].1 == A[k].1)) = false := by simp
      simp only [hget, Option.isSome_some, Bool.not_true, cond_false, Now_ok, Option.bind_some, Option.getD_some, c1, c2]
      by_cases hk0 : k = 0
      · have hz : decide ((k : Int) > 0) = false := by simp; omega
        simp only [hz, cond_false, Option.bind_some]
        exact ⟨_, rfl, k + 1, _, by rw [w64 (by omega)]; rfl, hK2, by omega⟩
      · have hz : decide ((k : Int) > 0) = true := by simp; omega
        have hlt' : k - 1 < A.length := by omega
        have hw : IntKind.wrap .i64 ((k : Int) - 1) = ((k - 1 : Nat) : Int) := by rw [w64 (by omega)]; omega
        have hso : A.Pairwise fun x y => ltB x y = true := (List.pairwise_append.1 hK.so).1
        have hord := List.pairwise_iff_getElem.1 hso (k - 1) k hlt' hlt (by omega)
        rw [ltB_iff] at hord
        have hprev := hA A[k - 1] (List.getElem_mem hlt')
        have hge : decide (A[k - 1].2 ≥ A[k].2) = false := by simp; omega
        simp only [hz, cond_true, hw, idx_nat hlt', Option.bind_some, List.getElem?_eq_getElem hlt', hge, cond_false]
        exact ⟨_, rfl, k + 1, _, by rw [w64 (by omega)]; rfl, hK2, by omega⟩
    · obtain ⟨k, mk, rfl, hk, hi⟩ := hI
      unfold law08_ClockOnce_l3
      have hd : decide ((k : Int) < ((A.length : Nat) : Int)) = false := by simp; omega
      simp only [hd, cond_false]
      refine ⟨_, rfl, mk, rfl, ?_⟩
      rw [List.drop_of_length_le (by omega)] at hk
      exact hk
  obtain ⟨o, h1, md', rfl, h2⟩ := loop
  exact ⟨md', h1, h2⟩
/-- None that is known is due. -/
theorem once_none {γ : Type} {now : Int} {m2 md : GM} {S2 : List (Int × Int)} (hK : K md S2) (hS : ∀ t ∈ S2, now < t.1)
    (F : (Int × (Int × (GM × GM))) ⊕ ((Int × (Int × (GM × GM))) ⊕ ((Int × (Int × (Int × (GM × GM)))) ⊕ ((Int × (Int × (GM × GM))) ⊕ Bool))) → Option γ) {r : γ} (hF : F (.inl (now, (200, (m2, md)))) = some r) :
    mAll (fun tt => law08_ClockOnce_l4_hd (now, (200, (m2, md))) tt.1 tt.2.1 tt.2.2.1 tt.2.2.2) (fun tt ee => law08_ClockOnce_l4 fuel tt.1 tt.2.1 tt.2.2.1 tt.2.2.2 ee) (now, (200, (m2, md))) F = some r := by
  refine mAll_inv (l0 := md.1) hK.st (fun _ t => t = (now, (200, (m2, md)))) rfl (fun d t ht => ?_) (fun d t e rest ht hp => ?_) (fun d t ht _ => by subst ht; exact hF)
  · subst ht
    unfold law08_ClockOnce_l4_hd
    exact need_true ((beq_nat _ _).2 rfl)
  · subst ht
    left
    refine ⟨_, ?_, rfl⟩
    unfold law08_ClockOnce_l4
    have he : e ∈ md.1 := hp.mem_iff.1 (by simp)
    have h1 : now < e.1.2 := hS (tmr e) (hK.pm.mem_iff.1 (List.mem_map.2 ⟨e, he, rfl⟩))
    have h2 : decide (e.1.2 ≤ now) = false := decide_eq_false (Int.not_le.2 h1)
    simp only [Now_ok, Option.bind_some, h2, cond_false]
theorem law08_ClockOnce_true (ops : List OpT) (_k0 : OkV (.sl (.pair (.int .i64) (.pair (.int .i64) (.int .i64)))) ops) : law08_ClockOnce fuel ops = some true := by
  have b0 : (!((0 : Int) == 0)) = false := by decide
  have loop : ∃ o, law08_ClockOnce_l5_it fuel ops (0, (0, (200, (([], 0), ([], 0))))) = some o ∧ ∃ (h : Int) (m md : GM) (S : List (Int × Int)), o = .inl (h, (200, (m, md))) ∧ K m S ∧ K md S ∧ S.length ≤ 130 := by
    unfold law08_ClockOnce_l5_it
    refine iter_ex (fun n s => ∃ (i : Nat) (h : Int) (m md : GM) (S : List (Int × Int)), s = ((i : Int), (h, (200, (m, md)))) ∧ K m S ∧ K md S ∧ Soon h S ∧ S.length ≤ i ∧ 0 ≤ h ∧ h ≤ i ∧ i + n = 130) _ (fun n s hI => ?_) (fun s hI => ?_) 130 _ (by omega)
      ⟨0, 0, _, _, [], rfl, K.nil, K.nil, (fun t ht => by simp at ht), by simp, by omega, by omega, by omega⟩
    · obtain ⟨i, h, m, md, S, rfl, hK, hD, hS, hl, h0, h1, hi⟩ := hI
      left
      unfold law08_ClockOnce_l5
      have h130 : decide ((i : Int) < 130) = true := by simp; omega
      simp only [h130, cond_true]
      -- is it a call, or a tick?
      have which : (∃ hlt : i < ops.length, ops[i].1 < 6 ∧ (bif decide ((i : Int) < ((ops.length : Nat) : Int)) then
          bif decide ((i : Int) < 100) then
            (idx? (i : Int) ops.length).bind fun q5 =>
            (ops)[q5]?.bind fun r18 =>
            some ((decide (r18.1 < 6)), (h, ((200 : Int), (m, md))))
          else
            some (false, (h, ((200 : Int), (m, md))))
        else
          some (false, (h, ((200 : Int), (m, md))))) = some (true, (h, ((200 : Int), (m, md))))) ∨ (bif decide ((i : Int) < ((ops.length : Nat) : Int)) then
          bif decide ((i : Int) < 100) then
            (idx? (i : Int) ops.length).bind fun q5 =>
            (ops)[q5]?.bind fun r18 =>
            some ((decide (r18.1 < 6)), (h, ((200 : Int), (m, md))))
          else
            some (false, (h, ((200 : Int), (m, md))))
        else
          some (false, (h, ((200 : Int), (m, md))))) = some (false, (h, ((200 : Int), (m, md)))) := by
        by_cases hlt : i < ops.length
        · have hd : decide ((i : Int) < ((ops.length : Nat) : Int)) = true := by simp; omega
          by_cases h100 : (i : Int) < 100
          · have h100' : decide ((i : Int) < 100) = true := by simpa using h100
            simp only [hd, h100', cond_true, idx_nat hlt, Option.bind_some, List.getElem?_eq_getElem hlt]
            by_cases h6 : ops[i].1 < 6
            · exact .inl ⟨hlt, h6, by simp [h6]⟩
            · exact .inr (by simp [h6])
          · have h100' : decide ((i : Int) < 100) = false := by simpa using h100
            right
            simp only [hd, h100', cond_true, cond_false]
        · have hd : decide ((i : Int) < ((ops.length : Nat) : Int)) = false := by simp; omega
          right
          simp only [hd, cond_false]
      rcases which with ⟨hlt, h6, ew⟩ | ew
      · rw [ew, Option.bind_some]
        simp only [cond_true, idx_nat hlt, Option.bind_some, List.getElem?_eq_getElem hlt]
        obtain ⟨m1, e1, k1⟩ := does_ok hK (now := h) (by unfold maxT; omega) 200 ops[i]
        have hS1 := hS.does (most := 200) ops[i]
        have hl1 := doesT_len h 200 S ops[i]
        simp only [e1, Option.bind_some]
        rw [Due_ok k1, Option.bind_some]
        simp only []
        cases hq : dueOf (doesT h 200 S ops[i]) ops[i].2.1 with
        | some a =>
          have kd := follow_some hD k1 (by omega) (by omega) hq
          have hm := hS1 (a, ops[i].2.1) ((k1.get _ _).1 (by rw [k1.due]; exact hq))
          have c1 : decide (a ≤ h) = false := by simp only [decide_eq_false_iff_not]; simp only at hm; omega
          have c2 : decide (a > IntKind.wrap .i64 (h + 20)) = false := by rw [w64 (by omega)]; simp only [decide_eq_false_iff_not]; simp only at hm; omega
          simp only [Option.isSome_some, cond_true, Option.getD_some, Option.bind_some, Now_ok, c1, c2, cond_false]
          exact ⟨_, rfl, i + 1, h, m1, _, _, by rw [w64 (by omega)]; rfl, k1, kd, hS1, by omega, h0, by omega, by omega⟩
        | none =>
          have kd := follow_none hD k1 (by omega) (by omega) hq
          simp only [Option.isSome_none, cond_false, Option.bind_some]
          exact ⟨_, rfl, i + 1, h, m1, _, _, by rw [w64 (by omega)]; rfl, k1, kd, hS1, by omega, h0, by omega, by omega⟩
      · rw [ew, Option.bind_some]
        obtain ⟨m1, e1, k1⟩ := Tick_at hK (by omega) (h := h) (by omega) 200
        have hsplit : S.takeWhile (isDue (h + 1)) ++ S.dropWhile (isDue (h + 1)) = S := List.takeWhile_append_dropWhile
        have hlt1 : (S.takeWhile (isDue (h + 1))).length ≤ 1000 := by have := (List.takeWhile_sublist (l := S) (isDue (h + 1))).length_le; omega
        have hA : ∀ t ∈ S.takeWhile (isDue (h + 1)), t.1 = h + 1 := fun t ht => by
          have q1 := take_due t ht
          have q2 := hS t ((List.takeWhile_sublist _).subset ht)
          omega
        obtain ⟨md1, e2, k2⟩ := once_told (now := h + 1) (m2 := m1) (by rw [hsplit]; exact hD) hA hlt1
        have hw : (!(h + 1 == IntKind.wrap .i64 (h + 1))) = false := by rw [w64 (by omega)]; simp
        simp only [cond_false, Now_ok, Option.bind_some, e1, hw, e2]
        rw [once_none (m2 := m1) (r := .inl (h + 1, (200, (m1, md1)))) k2 (drop_due hK.so) _ ?hF]
        case hF => rfl
        refine ⟨_, rfl, i + 1, h + 1, m1, md1, _, by rw [w64 (by omega)]; rfl, k1, k2, hS.tick hK.so, ?_, by omega, by omega, by omega⟩
        have := dropWhile_len (p := isDue (h + 1)) S
        omega
    · obtain ⟨i, h, m, md, S, rfl, hK, hD, hS, hl, h0, h1, hi⟩ := hI
      unfold law08_ClockOnce_l5
      have h130 : decide ((i : Int) < 130) = false := by simp; omega
      simp only [h130, cond_false]
      exact ⟨_, rfl, h, m, md, S, rfl, hK, hD, by omega⟩
  obtain ⟨o, eo, h, m, md, S, rfl, hK, hD, hl⟩ := loop
  have hlen : ((((md.1.length : Nat)) : Int) == ((S.length : Nat) : Int)) = true := by rw [hD.len]; simp
  unfold law08_ClockOnce
  rw [New_ok (by omega), Option.bind_some]
  simp only []
  simp only [b0, cond_false, eo, Option.bind_some, All_ok hK (by omega), hlen, cond_true, awake_ok]
end Go.Ab.D

/- Layer 8, clock: the document's answer. -/
namespace Go.Ab.D
open Go Go.Ab
def findT (S : List (Int × Int)) (x : Int) : Option Nat := S.findIdx? fun t => t.2 == x
theorem findT_some {S : List (Int × Int)} {x : Int} {k : Nat} (h : findT S x = some k) : ∃ hk : k < S.length, S[k].2 = x ∧ dueOf S x = some S[k].1 := by
  unfold findT at h
  rw [List.findIdx?_eq_some_iff_getElem] at h
  obtain ⟨hk, h1, h2⟩ := h
  refine ⟨hk, by simpa using h1, ?_⟩
  unfold dueOf
  have : S.find? (fun t => t.2 == x) = some S[k] := by
    rw [List.find?_eq_some_iff_getElem]
    exact ⟨h1, k, hk, rfl, fun j hj => by have := h2 j hj; simpa using this⟩
  rw [this]
  rfl
theorem findT_none {S : List (Int × Int)} {x : Int} (h : findT S x = none) : x ∉ S.map (·.2) ∧ dueOf S x = none := by
  unfold findT at h
  rw [List.findIdx?_eq_none_iff] at h
  refine ⟨fun hm => ?_, ?_⟩
  · obtain ⟨t, h1, h2⟩ := List.mem_map.1 hm
    have := h t h1
    simp [h2] at this
  · unfold dueOf
    have : S.find? (fun t => t.2 == x) = none := by
      rw [List.find?_eq_none]
      intro t ht
      have := h t ht
      simp [this]
    rw [this]
    rfl
def findI (S : List (Int × Int)) (x : Int) : Int := match findT S x with | some k => (k : Int) | none => -1
theorem Find_ok {S : List (Int × Int)} (hl : S.length ≤ 70000) (now most x : Int) : ref08_Clock_Find fuel (now, (most, S)) x = some (findI S x) := by
  have loop : ∃ o, ref08_Clock_Find_l0_it fuel x (0, (now, (most, S))) = some o ∧ (match o with | .inl () => findT S x = none | .inr r => ∃ k : Nat, findT S x = some k ∧ r = (k : Int)) := by
    unfold ref08_Clock_Find_l0_it
    refine iter_ex (fun n s => ∃ k : Nat, s = ((k : Int), (now, (most, S))) ∧ (∀ (j : Nat) t, j < k → S[j]? = some t → t.2 ≠ x) ∧ k + n = S.length) _ (fun n s hI => ?_) (fun s hI => ?_) S.length _ (by omega) ⟨0, rfl, (fun j t h => absurd h (Nat.not_lt_zero _)), by omega⟩
    · obtain ⟨k, rfl, hk, hi⟩ := hI
      have hlt : k < S.length := by omega
      unfold ref08_Clock_Find_l0
      have hd : decide ((k : Int) < ((S.length : Nat) : Int)) = true := by simp; omega
      simp only [hd, cond_true, idx_nat hlt, Option.bind_some, List.getElem?_eq_getElem hlt]
      by_cases he : S[k].2 = x
      · right
        have he' : (S[k].2 == x) = true := by simpa using he
        simp only [he', cond_true]
        refine ⟨_, rfl, k, ?_, rfl⟩
        unfold findT
        rw [List.findIdx?_eq_some_iff_getElem]
        refine ⟨hlt, he', fun j hj => ?_⟩
        have := hk j _ hj (List.getElem?_eq_getElem (by omega))
        simpa using this
      · left
        have he' : (S[k].2 == x) = false := by simpa using he
        simp only [he', cond_false]
        refine ⟨_, rfl, k + 1, by rw [w64 (by omega)]; rfl, fun j t hj ht => ?_, by omega⟩
        by_cases hjk : j = k
        · subst hjk
          rw [List.getElem?_eq_getElem hlt] at ht
          simp only [Option.some.injEq] at ht
          rw [← ht]; exact he
        · exact hk j t (by omega) ht
    · obtain ⟨k, rfl, hk, hi⟩ := hI
      unfold ref08_Clock_Find_l0
      have hd : decide ((k : Int) < ((S.length : Nat) : Int)) = false := by simp; omega
      simp only [hd, cond_false]
      refine ⟨_, rfl, ?_⟩
      show findT S x = none
      unfold findT
      rw [List.findIdx?_eq_none_iff]
      intro t ht
      obtain ⟨j, hj, rfl⟩ := List.getElem_of_mem ht
      have := hk j _ (by omega) (List.getElem?_eq_getElem hj)
      simpa using this
  obtain ⟨o, h1, h2⟩ := loop
  unfold ref08_Clock_Find findI
  simp only [h1, Option.bind_some]
  cases o with
  | inl u => rw [h2]
  | inr r =>
    obtain ⟨k, h3, rfl⟩ := h2
    rw [h3]
theorem without_ok {S : List (Int × Int)} (hl : S.length ≤ 70000) (hn : (S.map (·.2)).Nodup) {x : Int} {k : Nat} (hk : findT S x = some k) (now most : Int) : ref08_Clock_without fuel (now, (most, S)) (k : Int) = some (now, (most, outT x S)) := by
  obtain ⟨hlt, h1, _⟩ := findT_some hk
  have e : outT x S = S.take k ++ S.drop (k + 1) := by
    have e1 : S = S.take k ++ S[k] :: S.drop (k + 1) := by rw [← List.drop_eq_getElem_cons hlt, List.take_append_drop]
    have hp := outT_perm (a := S[k].1) (x := x) hn (by rw [← h1]; exact List.getElem_mem hlt)
    rw [e1] at hn
    rw [List.map_append, List.map_cons, List.nodup_append] at hn
    obtain ⟨n1, n2, n3⟩ := hn
    rw [List.nodup_cons, h1] at n2
    rw [h1] at n3
    have hA : x ∉ (S.take k).map (·.2) := fun h => n3 _ h _ List.mem_cons_self rfl
    have a1 := outT_none hA
    have a2 := outT_none n2.1
    conv => lhs; rw [e1]
    unfold outT at a1 a2 ⊢
    rw [List.filter_append, List.filter_cons, a1, a2]
    simp [h1]
  have l1 : (S.take k).length = k := by rw [List.length_take]; omega
  have l2 : (S.drop (k + 1)).length = S.length - (k + 1) := List.length_drop
  unfold ref08_Clock_without
  have hw : IntKind.wrap .i64 ((k : Int) + 1) = ((k + 1 : Nat) : Int) := by rw [w64 (by omega)]; rfl
  simp only [hw, upto_nat (show k ≤ S.length by omega), upto_nat (show k + 1 ≤ S.length by omega), Option.bind_some]
  rw [need_true (by simp only [Bool.and_eq_true, l1]; exact ⟨ble_true (by rw [roomIs]; omega), ble_true (by rw [roomIs]; omega)⟩),
    need_true (by simp only [Bool.and_eq_true, l1, l2]; exact ⟨ble_true (by rw [roomIs]; omega), ble_true (by rw [roomIs]; omega)⟩), e]
theorem told_ref {S : List (Int × Int)} (hl : S.length ≤ 70000) (now most : Int) : ref08_Clock_told fuel (now, (most, S)) = some (now, (most, (S.dropWhile (isDue now), S.takeWhile (isDue now)))) := by
  obtain ⟨q, w1, w2, w3, w4, w5⟩ := tw_spec (isDue now) S
  have loop : ref08_Clock_told_l0_it fuel (0, (now, (most, (S, (0, 0))))) = some ((q : Int), (now, (most, (S, (0, 0))))) := by
    unfold ref08_Clock_told_l0_it
    refine iter_rel (fun n s => ∃ k : Nat, s = ((k : Int), (now, (most, (S, (0, 0))))) ∧ k + n = q) (fun n s hI => ?_) (fun s hI => ?_) q _ (by omega) ⟨0, rfl, by omega⟩
    · obtain ⟨k, rfl, hk⟩ := hI
      have hlt : k < S.length := by omega
      have hdue := w4 k _ (by omega) (List.getElem?_eq_getElem hlt)
      unfold isDue at hdue
      unfold ref08_Clock_told_l0
      have hd : decide ((k : Int) < ((S.length : Nat) : Int)) = true := by simp; omega
      simp only [hd, cond_true, idx_nat hlt, Option.bind_some, List.getElem?_eq_getElem hlt, hdue]
      exact ⟨_, rfl, k + 1, by rw [w64 (by omega)]; rfl, by omega⟩
    · obtain ⟨k, rfl, hk⟩ := hI
      have hk : k = q := by omega
      subst hk
      unfold ref08_Clock_told_l0
      by_cases hlt : k < S.length
      · have hdue := w5 _ (List.getElem?_eq_getElem hlt)
        unfold isDue at hdue
        have hd : decide ((k : Int) < ((S.length : Nat) : Int)) = true := by simp; omega
        simp only [hd, cond_true, idx_nat hlt, Option.bind_some, List.getElem?_eq_getElem hlt, hdue, cond_false]
      · have hd : decide ((k : Int) < ((S.length : Nat) : Int)) = false := by simp; omega
        simp only [hd, cond_false, Option.bind_some]
  unfold ref08_Clock_told
  rw [loop, Option.bind_some]
  simp only [upto_nat w3, Option.bind_some, w1, w2]
theorem Tick_ref {S : List (Int × Int)} (hl : S.length ≤ 70000) {now : Int} (h0 : 0 ≤ now ∧ now ≤ maxT) (most : Int) :
    ref08_Clock_Tick fuel (now, (most, S)) = some ((if maxT < now + 1 then maxT else now + 1), (most, (S.dropWhile (isDue (if maxT < now + 1 then maxT else now + 1)), S.takeWhile (isDue (if maxT < now + 1 then maxT else now + 1))))) := by
  unfold maxT at *
  unfold ref08_Clock_Tick
  by_cases h : now < 1152921504606846976
  · have h' : decide (now < 1152921504606846976) = true := by simpa using h
    simp only [h', cond_true, Option.bind_some]
    rw [w64 (by omega), told_ref hl, if_neg (by omega)]
    rfl
  · have h' : decide (now < 1152921504606846976) = false := by simpa using h
    have e : now = 1152921504606846976 := by omega
    simp only [h', cond_false, Option.bind_some]
    rw [told_ref hl, if_pos (by omega), e]
    rfl
theorem Skip_ref_nil (now most : Int) : ref08_Clock_Skip fuel (now, (most, [])) = some (now, (most, ([], []))) := rfl
theorem Skip_ref_cons {t : Int × Int} {S : List (Int × Int)} (hl : (t :: S).length ≤ 70000) (now most : Int) :
    ref08_Clock_Skip fuel (now, (most, t :: S)) = some (t.1, (most, ((t :: S).dropWhile (isDue t.1), (t :: S).takeWhile (isDue t.1)))) := by
  unfold ref08_Clock_Skip
  have e : ((((t :: S).length : Nat) : Int) == 0) = false := beq_eq_false_iff_ne.2 (by simp only [List.length_cons]; omega)
  simp only [e, cond_false]
  rw [show (0 : Int) = ((0 : Nat) : Int) from rfl, idx_nat (by simp : 0 < (t :: S).length), Option.bind_some, show (t :: S)[0]? = some t from rfl, Option.bind_some]
  rw [told_ref hl]
  rfl
theorem Unset_ref {S : List (Int × Int)} (hl : S.length ≤ 70000) (hn : (S.map (·.2)).Nodup) (now most x : Int) : ref08_Clock_Unset fuel (now, (most, S)) x = some (now, (most, (outT x S, (dueOf S x).isSome))) := by
  unfold ref08_Clock_Unset
  simp only [Find_ok hl, Option.bind_some]
  unfold findI
  cases h : findT S x with
  | none =>
    obtain ⟨h1, h2⟩ := findT_none h
    have e : decide ((-1 : Int) < 0) = true := rfl
    simp only [e, cond_true, h2, Option.isSome_none, outT_none h1]
  | some k =>
    obtain ⟨hk, h1, h2⟩ := findT_some h
    have e : decide ((k : Int) < 0) = false := by simp
    simp only [e, cond_false, without_ok hl hn h, Option.bind_some, h2, Option.isSome_some]
theorem place_ref {S : List (Int × Int)} (hl : S.length ≤ 70000) (now most d x a b : Int) : ∃ q, S.takeWhile (fun s => ltB s (d, x)) = S.take q ∧ S.dropWhile (fun s => ltB s (d, x)) = S.drop q ∧ q ≤ S.length ∧
    ref08_Clock_Set_l0_it fuel (0, (now, (most, (S, (a, (b, (d, x))))))) = some ((q : Int), (now, (most, (S, (a, (b, (d, x))))))) := by
  obtain ⟨q, w1, w2, w3, w4, w5⟩ := tw_spec (fun s => ltB s (d, x)) S
  refine ⟨q, w1, w2, w3, ?_⟩
  have test : ∀ (k : Nat) (hlt : k < S.length), (bif decide ((k : Int) < ((S.length : Nat) : Int)) then
      (idx? (k : Int) S.length).bind fun q =>
      (S)[q]?.bind fun r2 =>
      bif (decide (r2.1 < d)) then
        some (true, (now, (most, (S, (a, (b, (d, x)))))))
      else
        (idx? (k : Int) S.length).bind fun q1 =>
        (S)[q1]?.bind fun r3 =>
        bif (r3.1 == d) then
          (idx? (k : Int) S.length).bind fun q2 =>
          (S)[q2]?.bind fun r4 =>
          some ((decide (r4.2 < x)), (now, (most, (S, (a, (b, (d, x)))))))
        else
          some (false, (now, (most, (S, (a, (b, (d, x)))))))
    else
      some (false, (now, (most, (S, (a, (b, (d, x)))))))) = some (ltB S[k] (d, x), (now, (most, (S, (a, (b, (d, x))))))) := fun k hlt => by
    have hd : decide ((k : Int) < ((S.length : Nat) : Int)) = true := by simp; omega
    simp only [hd, cond_true, idx_nat hlt, Option.bind_some, List.getElem?_eq_getElem hlt]
    unfold ltB
    by_cases h1 : S[k].1 < d
    · simp [h1]
    · by_cases h2 : S[k].1 = d
      · simp [h2]
      · have h2' : (S[k].1 == d) = false := beq_eq_false_iff_ne.2 h2
        simp [h1, h2, h2']
  unfold ref08_Clock_Set_l0_it
  refine iter_rel (fun n s => ∃ k : Nat, s = ((k : Int), (now, (most, (S, (a, (b, (d, x))))))) ∧ k + n = q) (fun n s hI => ?_) (fun s hI => ?_) q _ (by omega) ⟨0, rfl, by omega⟩
  · obtain ⟨k, rfl, hk⟩ := hI
    have hlt : k < S.length := by omega
    have hdue := w4 k _ (by omega) (List.getElem?_eq_getElem hlt)
    unfold ref08_Clock_Set_l0
    simp only [test k hlt, Option.bind_some, hdue, cond_true]
    exact ⟨_, rfl, k + 1, by rw [w64 (by omega)]; rfl, by omega⟩
  · obtain ⟨k, rfl, hk⟩ := hI
    have hk : k = q := by omega
    subst hk
    unfold ref08_Clock_Set_l0
    by_cases hlt : k < S.length
    · have hdue := w5 _ (List.getElem?_eq_getElem hlt)
      simp only [test k hlt, Option.bind_some, hdue, cond_false]
    · have hd : decide ((k : Int) < ((S.length : Nat) : Int)) = false := by simp; omega
      simp only [hd, cond_false, Option.bind_some]
theorem Set_ref {S : List (Int × Int)} (hl : S.length ≤ 60000) (hn : (S.map (·.2)).Nodup) {now : Int} (h0 : 0 ≤ now ∧ now ≤ maxT) (most x d : Int) :
    ref08_Clock_Set fuel (now, (most, S)) x d = some (now, (most, ((setT now most S x d).2, (setT now most S x d).1))) := by
  unfold maxT at h0
  unfold ref08_Clock_Set setT maxT
  by_cases c1 : d < 1
  · have c1' : decide (d < 1) = true := by simpa using c1
    simp only [c1', cond_true, Option.bind_some]
    rw [if_pos (by omega)]
  have c1' : decide (d < 1) = false := by simpa using c1
  by_cases c2 : d > 1152921504606846976
  · have c2' : decide (d > 1152921504606846976) = true := by simpa using c2
    simp only [c1', c2', cond_true, cond_false, Option.bind_some]
    rw [if_pos (by omega)]
  have c2' : decide (d > 1152921504606846976) = false := by simpa using c2
  have hw : IntKind.wrap .i64 (now + d) = now + d := w64 (by omega)
  by_cases c3 : now + d > 1152921504606846976
  · have c3' : decide (now + d > 1152921504606846976) = true := by simpa using c3
    simp only [c1', c2', hw, c3', cond_true, cond_false, Option.bind_some]
    rw [if_pos (by omega)]
  have c3' : decide (now + d > 1152921504606846976) = false := by simpa using c3
  simp only [c1', c2', hw, c3', cond_false, Option.bind_some]
  rw [if_neg (by omega)]
  simp only [Find_ok (show S.length ≤ 70000 by omega), Option.bind_some]
  -- where it is put
  have put : ∀ S', S'.length ≤ 70000 → ∀ (a b : Int), ((ref08_Clock_Set_l0_it fuel (0, (now, (most, (S', (a, (b, (now + d, x)))))))).bind fun o4 =>
      (upto? o4.1 o4.2.2.2.1.length).bind fun q3 =>
      need ((Nat.ble ((List.take q3 o4.2.2.2.1).length * 16) room) && (Nat.ble (List.take q3 o4.2.2.2.1).length room)) <|
      need ((Nat.ble (((List.take q3 o4.2.2.2.1).length + 1) * 16) room) && (Nat.ble ((List.take q3 o4.2.2.2.1).length + 1) room)) <|
      (upto? o4.1 o4.2.2.2.1.length).bind fun q4 =>
      need ((Nat.ble ((((List.take q3 o4.2.2.2.1) ++ [(o4.2.2.2.2.2.2.1, o4.2.2.2.2.2.2.2)]).length + (List.drop q4 o4.2.2.2.1).length) * 16) room) && (Nat.ble (((List.take q3 o4.2.2.2.1) ++ [(o4.2.2.2.2.2.2.1, o4.2.2.2.2.2.2.2)]).length + (List.drop q4 o4.2.2.2.1).length) room)) <|
      some (o4.2.1, (o4.2.2.1, ((((List.take q3 o4.2.2.2.1) ++ [(o4.2.2.2.2.2.2.1, o4.2.2.2.2.2.2.2)]) ++ (List.drop q4 o4.2.2.2.1)), (0 : Int))))) = some (now, (most, (insT (now + d, x) S', 0))) := fun S' hl' a b => by
    obtain ⟨q, w1, w2, w3, e1⟩ := place_ref hl' now most (now + d) x a b
    have l1 : (S'.take q).length = q := by rw [List.length_take]; omega
    have l2 : (S'.drop q).length = S'.length - q := List.length_drop
    rw [e1, Option.bind_some]
    simp only [upto_nat w3, Option.bind_some]
    rw [need_true (by simp only [Bool.and_eq_true, l1]; exact ⟨ble_true (by rw [roomIs]; omega), ble_true (by rw [roomIs]; omega)⟩),
      need_true (by simp only [Bool.and_eq_true, l1]; exact ⟨ble_true (by rw [roomIs]; omega), ble_true (by rw [roomIs]; omega)⟩),
      need_true (by simp only [Bool.and_eq_true, List.length_append, List.length_cons, List.length_nil, l1, l2]; exact ⟨ble_true (by rw [roomIs]; omega), ble_true (by rw [roomIs]; omega)⟩)]
    unfold insT
    rw [w1, w2]
    simp
  unfold findI
  cases h : findT S x with
  | none =>
    obtain ⟨h1, h2⟩ := findT_none h
    have e : decide ((-1 : Int) < 0) = true := rfl
    have e2 : decide ((-1 : Int) ≥ 0) = false := rfl
    simp only [e, cond_true, h2, Option.isSome_none, Option.bind_some]
    by_cases c4 : (S.length : Int) ≥ most
    · have c4' : decide ((S.length : Int) ≥ most) = true := by simpa using c4
      simp only [c4', cond_true]
      rw [if_pos ⟨trivial, c4⟩]
    · have c4' : decide ((S.length : Int) ≥ most) = false := by simpa using c4
      simp only [c4', cond_false, e2, Option.bind_some, hw]
      rw [if_neg (fun q => c4 q.2), put S (by omega), outT_none h1]
  | some k =>
    obtain ⟨hk, h1, h2⟩ := findT_some h
    have e : decide ((k : Int) < 0) = false := by simp
    have e2 : decide ((k : Int) ≥ 0) = true := by simp
    have hlo := outT_le x S
    simp only [e, cond_false, h2, Option.isSome_some, Option.bind_some, e2, cond_true, without_ok (show S.length ≤ 70000 by omega) hn h, hw]
    rw [if_neg (by simp), put _ (by omega)]
end Go.Ab.D

/- Layer 8, clock: ClockPlays. -/
namespace Go.Ab.D
open Go Go.Ab
theorem bind_some_ex8 {α β : Type} {x : Option α} {k : α → Option β} {Q : β → Prop} (P : α → Prop) (h : ∃ v, x = some v ∧ P v) (hk : ∀ v, P v → ∃ r, k v = some r ∧ Q r) : ∃ r, x.bind k = some r ∧ Q r := by
  obtain ⟨v, rfl, hv⟩ := h
  exact hk v hv
theorem bind_inl_ex8 {α τ ο : Type} {x : Option α} {k : α → Option (τ ⊕ ο)} {I : τ → Prop} (P : α → Prop) (h : ∃ v, x = some v ∧ P v) (hk : ∀ v, P v → ∃ s', k v = some (.inl s') ∧ I s') : ∃ s', x.bind k = some (.inl s') ∧ I s' := by
  obtain ⟨v, rfl, hv⟩ := h
  exact hk v hv
/-- Every timer lies within the clock's numbers. -/
def InT (h : Int) (S : List (Int × Int)) : Prop := (0 ≤ h ∧ h ≤ maxT) ∧ ∀ t ∈ S, 0 ≤ t.1 ∧ t.1 ≤ maxT
theorem InT.sub {h : Int} {S S' : List (Int × Int)} (hg : InT h S) (hs : ∀ t ∈ S', t ∈ S) : InT h S' := ⟨hg.1, fun t ht => hg.2 t (hs t ht)⟩
theorem InT.unset {h : Int} {S : List (Int × Int)} (hg : InT h S) (x : Int) : InT h (outT x S) := hg.sub fun t ht => List.filter_sublist.subset ht
theorem InT.set {h : Int} {S : List (Int × Int)} (hg : InT h S) (most x d : Int) : InT h (setT h most S x d).2 := by
  unfold setT
  split
  · exact hg
  · rename_i hc
    split
    · exact hg
    · refine ⟨hg.1, fun t ht => ?_⟩
      have h1 := ((insT_perm (h + d, x) (outT x S)).mem_iff (a := t)).2 ht
      rcases List.mem_cons.1 h1 with rfl | h2
      · have := hg.1
        simp only
        omega
      · exact (hg.unset x).2 t h2
theorem InT.tick {h : Int} {S : List (Int × Int)} (hg : InT h S) : InT (if maxT < h + 1 then maxT else h + 1) (S.dropWhile (isDue (if maxT < h + 1 then maxT else h + 1))) := by
  refine ⟨?_, fun t ht => hg.2 t ((List.dropWhile_sublist _).subset ht)⟩
  have := hg.1
  have : (0 : Int) ≤ maxT := by decide
  split <;> omega
theorem InT.skip {h : Int} {t : Int × Int} {S : List (Int × Int)} (hg : InT h (t :: S)) : InT t.1 ((t :: S).dropWhile (isDue t.1)) :=
  ⟨hg.2 t List.mem_cons_self, fun u hu => hg.2 u ((List.dropWhile_sublist _).subset hu)⟩
theorem dropWhile_len8 {p : Int × Int → Bool} (S : List (Int × Int)) : (S.dropWhile p).length ≤ S.length := (List.dropWhile_sublist p).length_le
theorem takeWhile_len8 {p : Int × Int → Bool} (S : List (Int × Int)) : (S.takeWhile p).length ≤ S.length := (List.takeWhile_sublist p).length_le
abbrev StP := Int × (Int × (Int × (GM × (Int × (Int × List (Int × Int))))))
theorem refNew_no {most : Int} (h : most < 1 ∨ most > 65536) : ref08_New fuel most = some (0, (0, 2)) := by
  unfold ref08_New
  by_cases h1 : most < 1
  · have h1 : decide (most < 1) = true := by simpa using h1
    simp only [h1, cond_true, Option.bind_some]
  · have h2 : decide (most > 65536) = true := by simp; omega
    have h1 : decide (most < 1) = false := by simpa using h1
    simp only [h1, h2, cond_true, cond_false, Option.bind_some]
theorem refNew_ok {most : Int} (h : 1 ≤ most ∧ most ≤ 65536) : ref08_New fuel most = some (0, (most, 0)) := by
  unfold ref08_New
  have h1 : decide (most < 1) = false := by simp; omega
  have h2 : decide (most > 65536) = false := by simp; omega
  simp only [h1, h2, cond_false, Option.bind_some]
set_option maxHeartbeats 2000000 in
theorem plays_loop {most : Int} (hm : 1 ≤ most ∧ most ≤ 65536) (ops : List OpT) : ∃ r, law08_ClockPlays_l1_it fuel ops (0, (0, (most, (([], 0), (0, (most, [])))))) = some r ∧ r = .inl () := by
  unfold law08_ClockPlays_l1_it
  refine iter_ex (fun n s => ∃ (i : Nat) (h : Int) (m : GM) (S : List (Int × Int)), s = ((i : Int), (h, (most, (m, (h, (most, S)))))) ∧ K m S ∧ InT h S ∧ S.length ≤ i ∧ i + n = 150) _ (fun n s hI => ?_) (fun s hI => ?_) 150 _ (by omega) ⟨0, 0, _, _, rfl, K.nil, ⟨by decide, fun t ht => by simp at ht⟩, by simp, by omega⟩
  · obtain ⟨i, h, m, S, rfl, hK, hG, hl, hi⟩ := hI
    unfold law08_ClockPlays_l1
    have h150 : decide ((i : Int) < 150) = true := by simp; omega
    by_cases hlt : i < ops.length
    · left
      have hd : decide ((i : Int) < ((ops.length : Nat) : Int)) = true := by simp; omega
      simp only [hd, h150, cond_true, Option.bind_some, idx_nat hlt, List.getElem?_eq_getElem hlt]
      generalize ops[i] = o
      obtain ⟨c, x, d⟩ := o
      simp only []
      refine bind_inl_ex8 (fun v => v = (decide (c = 1 ∨ c = 2 ∨ c = 3 ∨ c = 4), (h, (most, (m, (h, (most, (S, (c, (x, d)))))))))) ?_ ?_
      · by_cases c1 : c = 1
        · subst c1; exact ⟨_, rfl, rfl⟩
        · have z1 : (c == 1) = false := beq_eq_false_iff_ne.2 c1
          by_cases c2 : c = 2
          · subst c2; exact ⟨_, rfl, rfl⟩
          · have z2 : (c == 2) = false := beq_eq_false_iff_ne.2 c2
            by_cases c3 : c = 3
            · subst c3; exact ⟨_, rfl, rfl⟩
            · have z3 : (c == 3) = false := beq_eq_false_iff_ne.2 c3
              have z4 : (c == 4) = decide (c = 1 ∨ c = 2 ∨ c = 3 ∨ c = 4) := by
                by_cases c4 : c = 4
                · subst c4; rfl
                · rw [beq_eq_false_iff_ne.2 c4]; symm; exact decide_eq_false (by omega)
              simp only [z1, z2, z3, cond_false, Option.bind_some, z4]
              exact ⟨_, rfl, rfl⟩
      rintro v rfl
      simp only []
      refine bind_inl_ex8 (fun v => ∃ (e : Int) (A : List (Int × Int)) (b : Bool) (h' : Int) (m' : GM) (S' : List (Int × Int)), v = (e, e, A, A, b, b, h', most, m', h', most, S', c, x, d) ∧ K m' S' ∧ InT h' S' ∧ S'.length ≤ i + 1 ∧ A.length ≤ 70000) ?_ ?_
      · -- the call, and the document's
        by_cases cs : c = 1 ∨ c = 2 ∨ c = 3 ∨ c = 4
        · obtain ⟨m', e1, k1⟩ := Set_ok hK hG.1 most x d
          have e2 := Set_ref (show S.length ≤ 60000 by omega) hK.ids hG.1 most x d
          have hl1 := setT_len (now := h) (most := most) (S := S) (x := x) (d := d)
          simp only [decide_eq_true cs, cond_true, e1, e2, Option.bind_some]
          exact ⟨_, rfl, _, _, _, _, _, _, rfl, k1, hG.set most x d, by omega, by simp⟩
        simp only [decide_eq_false cs, cond_false]
        refine bind_some_ex8 (fun v => ∃ (A : List (Int × Int)) (b : Bool) (h' : Int) (m' : GM) (S' : List (Int × Int)), v = (A, A, b, b, h', most, m', h', most, S', c, x, d)  ∧ K m' S' ∧ InT h' S' ∧ S'.length ≤ i + 1 ∧ A.length ≤ 70000) ?_ ?_
        case refine_2 =>
          rintro v ⟨A, b, h', m', S', rfl, q1, q2, q3, q4⟩
          exact ⟨_, rfl, _, _, _, _, _, _, rfl, q1, q2, q3, q4⟩
        by_cases c5 : c = 5
        · have z5 : (c == 5) = true := by simpa using c5
          obtain ⟨m', e1, k1⟩ := Unset_ok hK x h most
          have e2 := Unset_ref (show S.length ≤ 70000 by omega) hK.ids h most x
          have := outT_le x S
          simp only [z5, cond_true, e1, e2, Option.bind_some]
          exact ⟨_, rfl, _, _, _, _, _, rfl, k1, hG.unset x, by omega, by simp⟩
        have z5 : (c == 5) = false := beq_eq_false_iff_ne.2 c5
        simp only [z5, cond_false]
        refine bind_some_ex8 (fun v => v = (decide (c = 6 ∨ c = 7 ∨ c = 8), (h, (most, (m, (h, (most, (S, (c, (x, d)))))))))) ?_ ?_
        · by_cases c6 : c = 6
          · subst c6; exact ⟨_, rfl, rfl⟩
          · have z6 : (c == 6) = false := beq_eq_false_iff_ne.2 c6
            by_cases c7 : c = 7
            · subst c7; exact ⟨_, rfl, rfl⟩
            · have z7 : (c == 7) = false := beq_eq_false_iff_ne.2 c7
              have z8 : (c == 8) = decide (c = 6 ∨ c = 7 ∨ c = 8) := by
                by_cases c8 : c = 8
                · subst c8; rfl
                · rw [beq_eq_false_iff_ne.2 c8]; symm; exact decide_eq_false (by omega)
              simp only [z6, z7, cond_false, Option.bind_some, z8]
              exact ⟨_, rfl, rfl⟩
        rintro v rfl
        simp only []
        refine bind_some_ex8 (fun v => ∃ (A : List (Int × Int)) (h' : Int) (m' : GM) (S' : List (Int × Int)), v = (A, A, h', most, m', h', most, S', c, x, d)  ∧ K m' S' ∧ InT h' S' ∧ S'.length ≤ i + 1 ∧ A.length ≤ 70000) ?_ ?_
        case refine_2 =>
          rintro v ⟨A, h', m', S', rfl, q1, q2, q3, q4⟩
          exact ⟨_, rfl, _, _, _, _, _, rfl, q1, q2, q3, q4⟩
        by_cases ct : c = 6 ∨ c = 7 ∨ c = 8
        · obtain ⟨m', e1, k1⟩ := Tick_ok hK (show S.length ≤ 70000 by omega) hG.1 most
          have e2 := Tick_ref (show S.length ≤ 70000 by omega) hG.1 most
          have l1 := dropWhile_len8 (p := isDue (if maxT < h + 1 then maxT else h + 1)) S
          have l2 := takeWhile_len8 (p := isDue (if maxT < h + 1 then maxT else h + 1)) S
          simp only [decide_eq_true ct, cond_true, e1, e2, Option.bind_some]
          exact ⟨_, rfl, _, _, _, _, rfl, k1, hG.tick, by omega, by omega⟩
        simp only [decide_eq_false ct, cond_false]
        by_cases c9 : c = 9
        · have z9 : (c == 9) = true := by simpa using c9
          cases S with
          | nil =>
            simp only [z9, cond_true, Skip_nil hK, Skip_ref_nil, Option.bind_some]
            exact ⟨_, rfl, _, _, _, _, rfl, hK, hG, by simp, by simp⟩
          | cons t S =>
            obtain ⟨m', e1, k1⟩ := Skip_cons hK (show (t :: S).length ≤ 70000 by omega) h most
            have e2 := Skip_ref_cons (show (t :: S).length ≤ 70000 by omega) h most
            have l1 := dropWhile_len8 (p := isDue t.1) (t :: S)
            have l2 := takeWhile_len8 (p := isDue t.1) (t :: S)
            simp only [z9, cond_true, e1, e2, Option.bind_some]
            exact ⟨_, rfl, _, _, _, _, rfl, k1, hG.skip, by omega, by omega⟩
        have z9 : (c == 9) = false := beq_eq_false_iff_ne.2 c9
        simp only [z9, cond_false, Option.bind_some]
        exact ⟨_, rfl, _, _, _, _, rfl, hK, hG, by omega, by simp⟩
      · rintro v ⟨e, A, b, h', m', S', rfl, k1, g1, l1, l2⟩
        have hS' : S'.length ≤ 70000 := by omega
        simp only [Due_ok k1, Find_ok hS', Next_ok k1 hS', Same_self l2, Same_self hS', All_ok k1 hS', Now_ok, Option.bind_some, beq_self_eq_true, Bool.not_true, cond_false]
        refine bind_inl_ex8 (fun v => v = (false, (h', (most, (m', (h', (most, S'))))))) ?_ ?_
        case refine_2 =>
          rintro v rfl
          exact ⟨_, rfl, i + 1, h', m', S', by rw [w64 (by omega)]; rfl, k1, g1, l1, by omega⟩
        unfold findI
        cases hf : findT S' x with
        | none =>
          obtain ⟨f1, f2⟩ := findT_none hf
          have e1 : decide ((-1 : Int) ≥ 0) = false := rfl
          simp only [f2, Option.isSome_none, Option.getD_none, e1, beq_self_eq_true, Bool.not_true, Bool.not_false, cond_false, cond_true]
          cases S' with
          | nil => exact ⟨_, rfl, rfl⟩
          | cons t S' =>
            have e2 : decide ((((t :: S').length : Nat) : Int) > 0) = true := by simp only [List.length_cons, decide_eq_true_eq]; omega
            have e3 : idx? 0 (t :: S').length = some 0 := by rw [show (0 : Int) = ((0 : Nat) : Int) from rfl, idx_nat (by simp : 0 < (t :: S').length)]
            simp only [List.headD_cons, List.isEmpty_cons, Bool.not_false, e2, e3, beq_self_eq_true, Bool.not_true, cond_false, cond_true, Option.bind_some, List.getElem?_cons_zero, Bool.and_self]
            exact ⟨_, rfl, rfl⟩
        | some k =>
          obtain ⟨hk, f1, f2⟩ := findT_some hf
          have e1 : decide ((k : Int) ≥ 0) = true := by simp
          simp only [f2, Option.isSome_some, Option.getD_some, e1, beq_self_eq_true, Bool.not_true, cond_false, cond_true, idx_nat hk, Option.bind_some, List.getElem?_eq_getElem hk]
          cases S' with
          | nil => exact absurd hk (by simp)
          | cons t S' =>
            have e2 : decide ((((t :: S').length : Nat) : Int) > 0) = true := by simp only [List.length_cons, decide_eq_true_eq]; omega
            have e3 : idx? 0 (t :: S').length = some 0 := by rw [show (0 : Int) = ((0 : Nat) : Int) from rfl, idx_nat (by simp : 0 < (t :: S').length)]
            simp only [List.headD_cons, List.isEmpty_cons, Bool.not_false, e2, e3, beq_self_eq_true, Bool.not_true, cond_false, cond_true, Option.bind_some, List.getElem?_cons_zero, Bool.and_self]
            exact ⟨_, rfl, rfl⟩
    · right
      have hd : decide ((i : Int) < ((ops.length : Nat) : Int)) = false := by simp; omega
      simp only [hd, cond_false, Option.bind_some]
      exact ⟨_, rfl, rfl⟩
  · obtain ⟨i, h, m, S, rfl, hK, hG, hl, hi⟩ := hI
    have h150 : decide ((i : Int) < 150) = false := by simp; omega
    unfold law08_ClockPlays_l1
    by_cases hlt : i < ops.length
    · have hd : decide ((i : Int) < ((ops.length : Nat) : Int)) = true := by simp; omega
      simp only [hd, h150, cond_true, cond_false, Option.bind_some]
      exact ⟨_, rfl, rfl⟩
    · have hd : decide ((i : Int) < ((ops.length : Nat) : Int)) = false := by simp; omega
      simp only [hd, cond_false, Option.bind_some]
      exact ⟨_, rfl, rfl⟩
theorem law08_ClockPlays_true (most : Int) (ops : List OpT) (_k0 : OkV (.int .i64) most) (_k1 : OkV (.sl (.pair (.int .i64) (.pair (.int .i64) (.int .i64)))) ops) : law08_ClockPlays fuel most ops = some true := by
  unfold law08_ClockPlays
  by_cases h : most < 1 ∨ most > 65536
  · have b1 : (!((2 : Int) == 2)) = false := by decide
    have b2 : (!((2 : Int) == 0)) = true := by decide
    have b3 : ((2 : Int) == 2) = true := by decide
    rw [New_no h, Option.bind_some]
    simp only [refNew_no h, Option.bind_some, b1, b2, b3, Bool.not_true, cond_true, cond_false, awake_ok]
  · have hm : 1 ≤ most ∧ most ≤ 65536 := by omega
    obtain ⟨r, e1, rfl⟩ := plays_loop hm ops
    have b0 : (!((0 : Int) == 0)) = false := by decide
    rw [New_ok hm, Option.bind_some]
    simp only [refNew_ok hm, Option.bind_some, b0, cond_false, e1, awake_ok]
end Go.Ab.D
