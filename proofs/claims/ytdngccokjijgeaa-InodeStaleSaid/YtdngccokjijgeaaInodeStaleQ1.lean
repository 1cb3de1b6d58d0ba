/- What the functions compute; the plain law. -/
import Derived.Test.YtdngccokjijgeaaInodeStaleD2
set_option linter.all false
/- Tools for plain proofs about decompiled functions: numbers in bounds, indexes, loops. -/
namespace Go.Ab

/-! Numbers in bounds -/
theorem w64 {x : Int} (h : -9223372036854775808 ≤ x ∧ x ≤ 9223372036854775807) : IntKind.wrap .i64 x = x := by
  simp only [IntKind.wrap, IntKind.bits, IntKind.signed]; simp; omega
theorem wu64 {x : Int} (h : 0 ≤ x ∧ x ≤ 18446744073709551615) : IntKind.wrap .u64 x = x := by
  simp only [IntKind.wrap, IntKind.bits, IntKind.signed]; simp; omega
theorem wu32 {x : Int} (h : 0 ≤ x ∧ x ≤ 4294967295) : IntKind.wrap .u32 x = x := by
  simp only [IntKind.wrap, IntKind.bits, IntKind.signed]; simp; omega
theorem wu16 {x : Int} (h : 0 ≤ x ∧ x ≤ 65535) : IntKind.wrap .u16 x = x := by
  simp only [IntKind.wrap, IntKind.bits, IntKind.signed]; simp; omega
theorem wu8 {x : Int} (h : 0 ≤ x ∧ x ≤ 255) : IntKind.wrap .u8 x = x := by
  simp only [IntKind.wrap, IntKind.bits, IntKind.signed]; simp; omega
theorem wu8_mod (x : Int) : IntKind.wrap .u8 x = x % 256 := by
  simp only [IntKind.wrap, IntKind.bits, IntKind.signed]; simp
theorem wu32_mod (x : Int) : IntKind.wrap .u32 x = x % 4294967296 := by
  simp only [IntKind.wrap, IntKind.bits, IntKind.signed]; simp
theorem wu64_mod (x : Int) : IntKind.wrap .u64 x = x % 18446744073709551616 := by
  simp only [IntKind.wrap, IntKind.bits, IntKind.signed]; simp
theorem bv_nat (n a : Nat) (h : a < 2 ^ n) : BitVec.ofInt n (a : Int) = BitVec.ofNat n a := by simp
theorem bits_xor (k : IntKind) {a b : Nat} (ha : a < 2 ^ k.bits) (hb : b < 2 ^ k.bits) (hw : ∀ x : Int, 0 ≤ x ∧ x < 2 ^ k.bits → k.wrap x = x) : bitsI .xor k a b = ((a ^^^ b : Nat) : Int) := by
  have h := Nat.xor_lt_two_pow ha hb
  simp only [bitsI, BitVec.ofInt_natCast, ← BitVec.ofNat_xor, BitVec.toNat_ofNat, Nat.mod_eq_of_lt h]
  exact hw _ ⟨by omega, by exact_mod_cast h⟩
theorem bits_or (k : IntKind) {a b : Nat} (ha : a < 2 ^ k.bits) (hb : b < 2 ^ k.bits) (hw : ∀ x : Int, 0 ≤ x ∧ x < 2 ^ k.bits → k.wrap x = x) : bitsI .or k a b = ((a ||| b : Nat) : Int) := by
  have h := Nat.or_lt_two_pow ha hb
  simp only [bitsI, BitVec.ofInt_natCast, ← BitVec.ofNat_or, BitVec.toNat_ofNat, Nat.mod_eq_of_lt h]
  exact hw _ ⟨by omega, by exact_mod_cast h⟩
theorem bits_and (k : IntKind) {a b : Nat} (ha : a < 2 ^ k.bits) (hb : b < 2 ^ k.bits) (hw : ∀ x : Int, 0 ≤ x ∧ x < 2 ^ k.bits → k.wrap x = x) : bitsI .and k a b = ((a &&& b : Nat) : Int) := by
  have h := Nat.and_lt_two_pow (y := b) a hb
  simp only [bitsI, BitVec.ofInt_natCast, ← BitVec.ofNat_and, BitVec.toNat_ofNat, Nat.mod_eq_of_lt h]
  exact hw _ ⟨by omega, by exact_mod_cast h⟩
theorem xor8 {a b : Nat} (ha : a < 256) (hb : b < 256) : bitsI .xor .u8 a b = ((a ^^^ b : Nat) : Int) := bits_xor .u8 ha hb fun x h => wu8 ⟨h.1, by have := h.2; simp [IntKind.bits] at this; omega⟩
theorem xor32 {a b : Nat} (ha : a < 4294967296) (hb : b < 4294967296) : bitsI .xor .u32 a b = ((a ^^^ b : Nat) : Int) := bits_xor .u32 ha hb fun x h => wu32 ⟨h.1, by have := h.2; simp [IntKind.bits] at this; omega⟩
theorem and32 {a b : Nat} (ha : a < 4294967296) (hb : b < 4294967296) : bitsI .and .u32 a b = ((a &&& b : Nat) : Int) := bits_and .u32 ha hb fun x h => wu32 ⟨h.1, by have := h.2; simp [IntKind.bits] at this; omega⟩
theorem fdiv_nat (a b : Nat) : Int.fdiv (a : Int) (b : Int) = ((a / b : Nat) : Int) := by
  rw [Int.fdiv_eq_ediv_of_nonneg _ (by omega)]; rfl

/-! Indexes -/
theorem idx_nat {i n : Nat} (h : i < n) : idx? (i : Int) n = some i := by simp [idx?, h]
theorem idx_int {x : Int} {n : Nat} (h0 : 0 ≤ x) (h : x < n) : idx? x n = some x.toNat := by simp [idx?, h0, h]
theorem upto_nat {i n : Nat} (h : i ≤ n) : upto? (i : Int) n = some i := by simp [upto?, h]
theorem upto_int {x : Int} {n : Nat} (h0 : 0 ≤ x) (h : x ≤ n) : upto? x n = some x.toNat := by simp [upto?, h0, h]
theorem byte_nat {n : Nat} (h : n < 256) : byte? (n : Int) = some (UInt8.ofNat n) := by
  have : (n : Int) < 256 := by omega
  simp [byte?, this]
theorem need_true {β : Type} {b : Bool} {K : Option β} (h : b = true) : need b K = K := by subst h; rfl
theorem ble_true {a b : Nat} (h : a ≤ b) : Nat.ble a b = true := Nat.ble_eq_true_of_le h
theorem nilQ_same {β : Type} {n : Nat} {K : Bool → Option β} (h : n = 0 → K true = K false) : nilQ n K = K false := by
  unfold nilQ
  rw [if_pos h]
theorem roomIs : room = 140737488355328 := rfl

/-! Loops -/
theorem fuel_big {n : Nat} (h : n < 4611686018427387904) : ∃ m, fuel = m + (n + 1) := ⟨4611686018427387903 - n, by unfold fuel; omega⟩
theorem iter_steps {τ ο : Type} {f : τ → Option (τ ⊕ ο)} (S : Nat → τ) : ∀ (n m : Nat), (∀ k, k < n → f (S k) = some (.inl (S (k + 1)))) → iter (m + n) f (S 0) = iter m f (S n)
  | 0, m, _ => rfl
  | n + 1, m, h => by
    have e : m + (n + 1) = (m + 1) + n := by omega
    rw [e, iter_steps S n (m + 1) fun k hk => h k (by omega)]
    show (f (S n)).ob _ = _
    rw [h n (by omega)]
    rfl
/-- A loop of n rounds. -/
theorem iter_range {τ ο : Type} {f : τ → Option (τ ⊕ ο)} {o : ο} (S : Nat → τ) (n : Nat) (hn : n < 4611686018427387904) (hs : ∀ k, k < n → f (S k) = some (.inl (S (k + 1)))) (he : f (S n) = some (.inr o)) : iter fuel f (S 0) = some o := by
  obtain ⟨m, hm⟩ := fuel_big hn
  have e : fuel = (m + 1) + n := by omega
  rw [e, iter_steps S n (m + 1) hs]
  show (f (S n)).ob _ = _
  rw [he]
  rfl
/-- A loop by a relation between its state and what is yet to do. -/
theorem iter_rel {τ ο : Type} {f : τ → Option (τ ⊕ ο)} {o : ο} (I : Nat → τ → Prop) (hs : ∀ n s, I (n + 1) s → ∃ s', f s = some (.inl s') ∧ I n s') (he : ∀ s, I 0 s → f s = some (.inr o)) : ∀ (n : Nat) (s : τ), n < 4611686018427387904 → I n s → iter fuel f s = some o := by
  have main : ∀ (n m : Nat) (s : τ), n < m → I n s → iter m f s = some o := fun n => by
    induction n with
    | zero =>
      intro m s hm hi
      obtain ⟨m, rfl⟩ : ∃ k, m = k + 1 := ⟨m - 1, by omega⟩
      show (f s).ob _ = _
      rw [he s hi]
      rfl
    | succ n ih =>
      intro m s hm hi
      obtain ⟨m, rfl⟩ : ∃ k, m = k + 1 := ⟨m - 1, by omega⟩
      obtain ⟨s', h1, h2⟩ := hs n s hi
      show (f s).ob _ = _
      rw [h1]
      exact ih m s' (by omega) h2
  exact fun n s hn hi => main n fuel s hn hi
/-! Loops, step by step -/
theorem iter_inl {τ ο : Type} {f : τ → Option (τ ⊕ ο)} {s s' : τ} {n : Nat} (h : f s = some (.inl s')) : iter (n + 1) f s = iter n f s' := by
  show (f s).ob _ = _
  rw [h]
  rfl
theorem iter_inr {τ ο : Type} {f : τ → Option (τ ⊕ ο)} {s : τ} {o : ο} {n : Nat} (h : f s = some (.inr o)) : iter (n + 1) f s = some o := by
  show (f s).ob _ = _
  rw [h]
  rfl
theorem fuelS (n : Nat) (h : n < 4611686018427387904) : ∃ m, fuel = m + n + 1 := ⟨4611686018427387903 - n, by unfold fuel; omega⟩
/-- A loop, by a relation; what comes out is told by a property. -/
theorem iter_ex {τ ο : Type} {f : τ → Option (τ ⊕ ο)} (I : Nat → τ → Prop) (Q : ο → Prop) (hs : ∀ n s, I (n + 1) s → (∃ s', f s = some (.inl s') ∧ I n s') ∨ ∃ o, f s = some (.inr o) ∧ Q o) (he : ∀ s, I 0 s → ∃ o, f s = some (.inr o) ∧ Q o) : ∀ (n : Nat) (s : τ), n < 4611686018427387904 → I n s → ∃ o, iter fuel f s = some o ∧ Q o := by
  have main : ∀ (n m : Nat) (s : τ), n < m → I n s → ∃ o, iter m f s = some o ∧ Q o := fun n => by
    induction n with
    | zero =>
      intro m s hm hi
      obtain ⟨m, rfl⟩ : ∃ k, m = k + 1 := ⟨m - 1, by omega⟩
      obtain ⟨o, h1, h2⟩ := he s hi
      exact ⟨o, iter_inr h1, h2⟩
    | succ n ih =>
      intro m s hm hi
      obtain ⟨m, rfl⟩ : ∃ k, m = k + 1 := ⟨m - 1, by omega⟩
      rcases hs n s hi with ⟨s', h1, h2⟩ | ⟨o, h1, h2⟩
      · rw [iter_inl h1]
        exact ih m s' (by omega) h2
      · exact ⟨o, iter_inr h1, h2⟩
  exact fun n s hn hi => main n fuel s hn hi
theorem bind_ex {α β : Type} {x : Option α} {k : α → Option β} (R : Option β → Prop) (P : α → Prop) (h : ∃ v, x = some v ∧ P v) (hk : ∀ v, P v → R (k v)) : R (x.bind k) := by
  obtain ⟨v, rfl, hv⟩ := h
  exact hk v hv
theorem iter_fuel_inr {τ ο : Type} {f : τ → Option (τ ⊕ ο)} {s : τ} {o : ο} (h : f s = some (.inr o)) : iter fuel f s = some o := by
  obtain ⟨n, hn⟩ := fuelS 0 (by omega)
  rw [hn]
  exact iter_inr h
end Go.Ab

/- Loops over maps, in plain words: what holds in whatever order the entries come. -/
namespace Go.Ab
section
variable {τ κ ο γ : Type} {hd : τ → Option (List (κ × Nat))} {f : τ → κ × Nat → Option (τ ⊕ ο)}
theorem MOk_both {Q Q' : τ ⊕ ο → Prop} : ∀ (n n' : Nat) (seen : List Nat) (t : τ), MOk hd f Q n seen t → MOk hd f Q' n' seen t → ∃ o, Q o ∧ Q' o
  | 0, _, _, _, h, _ => h.elim
  | _ + 1, 0, _, _, _, h => h.elim
  | n + 1, n' + 1, seen, t, h, h' => by
    obtain ⟨l, h1, h2, h3⟩ := h
    obtain ⟨l', h1', h2', h3'⟩ := h'
    rw [h1] at h1'
    simp only [Option.some.injEq] at h1'
    subst h1'
    cases hm : mleft seen l with
    | nil => exact ⟨_, h2 hm, h2' hm⟩
    | cons e r =>
      have he : e ∈ mleft seen l := by rw [hm]; exact List.mem_cons_self
      rcases h3 e he with ⟨t1, p1, p2⟩ | ⟨o, p1, p2⟩ <;> rcases h3' e he with ⟨t2, q1, q2⟩ | ⟨o', q1, q2⟩
      · rw [p1] at q1
        simp only [Option.some.injEq, Sum.inl.injEq] at q1
        subst q1
        exact MOk_both n n' _ _ p2 q2
      · rw [p1] at q1; simp at q1
      · rw [p1] at q1; simp at q1
      · rw [p1] at q1
        simp only [Option.some.injEq, Sum.inr.injEq] at q1
        subst q1
        exact ⟨_, p2, q2⟩
theorem mAll_eq {t0 : τ} {F : τ ⊕ ο → Option γ} {r : γ} {n : Nat} (h : MOk hd f (fun o => F o = some r) n [] t0) : mAll hd f t0 F = some r := by
  unfold mAll
  split
  · rename_i hx
    obtain ⟨n', hn'⟩ := Classical.choose_spec hx
    obtain ⟨o, h1, h2⟩ := MOk_both _ _ _ _ h hn'
    rw [h1] at h2
    exact h2.symm
  · rename_i hx
    exact absurd ⟨r, n, h⟩ hx
/-- By what holds between the rounds: d has come, in this order. -/
theorem mAll_inv {l0 : List (κ × Nat)} {t0 : τ} {F : τ ⊕ ο → Option γ} {r : γ} (hn : (l0.map (·.2)).Nodup) (I : List (κ × Nat) → τ → Prop) (h0 : I [] t0) (hhd : ∀ d t, I d t → hd t = some l0)
    (hs : ∀ d t e rest, I d t → (d ++ e :: rest).Perm l0 → (∃ t', f t e = some (.inl t') ∧ I (d ++ [e]) t') ∨ (∃ o, f t e = some (.inr o) ∧ F (.inr o) = some r))
    (hf : ∀ d t, I d t → d.Perm l0 → F (.inl t) = some r) : mAll hd f t0 F = some r := by
  have main : ∀ (n : Nat) (d rest : List (κ × Nat)) (t : τ), rest.length = n → (d ++ rest).Perm l0 → I d t → MOk hd f (fun o => F o = some r) (n + 1) (d.map (·.2)).reverse t := by
    intro n
    induction n with
    | zero =>
      intro d rest t hlen hp hi
      obtain rfl := List.eq_nil_of_length_eq_zero hlen
      rw [List.append_nil] at hp
      refine ⟨l0, hhd d t hi, fun _ => hf d t hi hp, fun e he => ?_⟩
      exfalso
      obtain ⟨h1, h2⟩ := List.mem_filter.1 he
      have h3 : e ∈ d := hp.mem_iff.2 h1
      simp only [Bool.not_eq_true'] at h2
      have h4 : memN e.2 (d.map (·.2)).reverse = true := memN_iff.2 (by simpa using ⟨e.1, h3⟩)
      rw [h4] at h2; cases h2
    | succ n ih =>
      intro d rest t hlen hp hi
      have hnd : ((d ++ rest).map (·.2)).Nodup := (hp.map _).nodup_iff.2 hn
      have hd1 : ∀ e ∈ rest, memN e.2 (d.map (·.2)).reverse = false := fun e he => by
        cases hm : memN e.2 (d.map (·.2)).reverse with
        | false => rfl
        | true =>
          have := memN_iff.1 hm
          rw [List.mem_reverse] at this
          rw [List.map_append, List.nodup_append] at hnd
          exact absurd rfl (hnd.2.2 _ this _ (List.mem_map.2 ⟨e, he, rfl⟩))
      refine ⟨l0, hhd d t hi, fun hm => ?_, fun e he => ?_⟩
      · exfalso
        cases rest with
        | nil => cases hlen
        | cons e rest =>
          have : e ∈ mleft (d.map (·.2)).reverse l0 := List.mem_filter.2 ⟨hp.mem_iff.1 (by simp), by rw [hd1 e (by simp)]; rfl⟩
          rw [hm] at this
          cases this
      · obtain ⟨h1, h2⟩ := List.mem_filter.1 he
        have h3 : e ∈ rest := by
          rcases List.mem_append.1 (hp.mem_iff.2 h1) with h | h
          · exfalso
            simp only [Bool.not_eq_true'] at h2
            have h4 : memN e.2 (d.map (·.2)).reverse = true := memN_iff.2 (by simpa using ⟨e.1, h⟩)
            rw [h4] at h2; cases h2
          · exact h
        obtain ⟨r1, r2, rfl⟩ := List.append_of_mem h3
        have hp' : (d ++ e :: (r1 ++ r2)).Perm l0 := (List.Perm.append_left d List.perm_middle.symm).trans hp
        rcases hs d t e (r1 ++ r2) hi hp' with ⟨t', p1, p2⟩ | ⟨o, p1, p2⟩
        · left
          refine ⟨t', p1, ?_⟩
          have := ih (d ++ [e]) (r1 ++ r2) t' (by simp at hlen ⊢; omega) (by simpa using hp') p2
          simpa using this
        · exact .inr ⟨o, p1, p2⟩
  have := main l0.length [] l0 t0 rfl (List.Perm.refl _) h0
  exact mAll_eq this
end
end Go.Ab

/- Maps in plain words (as in C7a). -/
namespace Go.Ab

/-! Maps whose keys are told apart -/
section
variable {k v : Ty}
def KeyEq (k : Ty) : Prop := ∀ x a : k.den, k.eqb x a = true ↔ x = a
theorem keyEq_int (i : IntKind) : KeyEq (.int i) := fun x a => by
  show ((x : Int) == a) = true ↔ _
  exact beq_iff_eq
theorem KeyEq.ne (h : KeyEq k) {x a : k.den} (hn : x ≠ a) : k.eqb x a = false := by
  cases e : k.eqb x a with
  | false => rfl
  | true => exact absurd ((h x a).1 e) hn
theorem KeyEq.self (h : KeyEq k) (x : k.den) : k.eqb x x = true := (h x x).2 rfl
theorem mfind_snoc (h : KeyEq k) : ∀ (l : List ((k.den × v.den) × Nat)) (x : k.den) (y : v.den) (n : Nat) (z : k.den), mfind (l ++ [((x, y), n)]) z = match mfind l z with | some e => some e | none => bif k.eqb z x then some (y, n) else none
  | [], x, y, n, z => rfl
  | ((a, b), m) :: l, x, y, n, z => by
    show (bif k.eqb z a then some (b, m) else mfind (l ++ [((x, y), n)]) z) = match (bif k.eqb z a then some (b, m) else mfind l z) with | some e => some e | none => bif k.eqb z x then some (y, n) else none
    cases k.eqb z a with
    | true => rfl
    | false => exact mfind_snoc h l x y n z
theorem mfind_mset (h : KeyEq k) : ∀ (l : List ((k.den × v.den) × Nat)) (x : k.den) (y : v.den) (z : k.den), z ≠ x → mfind (mset l x y) z = mfind l z
  | [], x, y, z, _ => rfl
  | ((a, b), m) :: l, x, y, z, hz => by
    show mfind (bif k.eqb x a then ((x, y), m) :: l else ((a, b), m) :: mset l x y) z = bif k.eqb z a then some (b, m) else mfind l z
    cases e : k.eqb x a with
    | true =>
      have := (h x a).1 e
      subst this
      show (bif k.eqb z x then some (y, m) else mfind l z) = _
      rw [h.ne hz]
      rfl
    | false =>
      show (bif k.eqb z a then some (b, m) else mfind (mset l x y) z) = _
      rw [mfind_mset h l x y z hz]
theorem mfind_mset_self (h : KeyEq k) : ∀ (l : List ((k.den × v.den) × Nat)) (x : k.den) (y : v.den) e, mfind l x = some e → mfind (mset l x y) x = some (y, e.2)
  | [], x, y, e, he => by cases he
  | ((a, b), m) :: l, x, y, e, he => by
    have he' : (bif k.eqb x a then some (b, m) else mfind l x) = some e := he
    show mfind (bif k.eqb x a then ((x, y), m) :: l else ((a, b), m) :: mset l x y) x = _
    cases ea : k.eqb x a with
    | true =>
      rw [ea] at he'
      injection he' with he'
      subst he'
      show (bif k.eqb x x then some (y, m) else mfind l x) = _
      rw [h.self]
      rfl
    | false =>
      rw [ea] at he'
      show (bif k.eqb x a then some (b, m) else mfind (mset l x y) x) = _
      rw [ea]
      exact mfind_mset_self h l x y e he'
theorem mget_mput (h : KeyEq k) (m : GMap k v) (x : k.den) (y : v.den) : mget (mput m x y) x = some y := by
  unfold mget mput
  cases e : mfind m.1 x with
  | some e' => simp only; rw [mfind_mset_self h _ _ _ _ e]; rfl
  | none => simp only; rw [mfind_snoc h, e]; simp only; rw [h.self]; rfl
theorem mget_mput_ne (h : KeyEq k) (m : GMap k v) (x : k.den) (y : v.den) {z : k.den} (hz : z ≠ x) : mget (mput m x y) z = mget m z := by
  unfold mget mput
  cases e : mfind m.1 x with
  | some e' => simp only; rw [mfind_mset h _ _ _ _ hz]
  | none =>
    simp only
    rw [mfind_snoc h, h.ne hz]
    cases mfind m.1 z <;> rfl
def keysU (m : GMap k v) : Prop := (m.1.map fun e => e.1.1).Nodup
theorem mset_keys (h : KeyEq k) : ∀ (l : List ((k.den × v.den) × Nat)) (x : k.den) (y : v.den), (mset l x y).map (fun e => e.1.1) = l.map fun e => e.1.1
  | [], x, y => rfl
  | ((a, b), m) :: l, x, y => by
    show (bif k.eqb x a then ((x, y), m) :: l else ((a, b), m) :: mset l x y).map _ = _
    cases e : k.eqb x a with
    | true =>
      have := (h x a).1 e
      subst this
      rfl
    | false => simp [mset_keys h l x y]
theorem mfind_nokey (h : KeyEq k) : ∀ {l : List ((k.den × v.den) × Nat)} {x : k.den}, mfind l x = none ↔ x ∉ l.map fun e => e.1.1
  | [], x => by simp [mfind]
  | ((a, b), m) :: l, x => by
    show (bif k.eqb x a then some (b, m) else mfind l x) = none ↔ _
    cases e : k.eqb x a with
    | true => simp [(h x a).1 e]
    | false =>
      have hn : x ≠ a := fun q => by rw [(h x a).2 q] at e; cases e
      simp only [cond_false, List.map_cons, List.mem_cons, hn, false_or]
      exact mfind_nokey h
theorem keysU_mput (h : KeyEq k) {m : GMap k v} (hm : keysU m) (x : k.den) (y : v.den) : keysU (mput m x y) := by
  unfold keysU mput
  cases e : mfind m.1 x with
  | some e' => simp only; rw [mset_keys h]; exact hm
  | none =>
    simp only [List.map_append, List.map_cons, List.map_nil]
    rw [List.nodup_append]
    refine ⟨hm, by simp, ?_⟩
    intro a ha b hb hab
    rw [List.mem_singleton] at hb
    subst hb
    subst hab
    exact (mfind_nokey h).1 e ha
theorem mdelL_ne (h : KeyEq k) : ∀ (l : List ((k.den × v.den) × Nat)) (x z : k.den), z ≠ x → mfind (mdelL l x) z = mfind l z
  | [], x, z, _ => rfl
  | ((a, b), m) :: l, x, z, hz => by
    show mfind (bif k.eqb x a then l else ((a, b), m) :: mdelL l x) z = bif k.eqb z a then some (b, m) else mfind l z
    cases e : k.eqb x a with
    | true =>
      have := (h x a).1 e
      subst this
      rw [h.ne hz]
      rfl
    | false =>
      show (bif k.eqb z a then some (b, m) else mfind (mdelL l x) z) = _
      rw [mdelL_ne h l x z hz]
theorem mdelL_keys (h : KeyEq k) : ∀ (l : List ((k.den × v.den) × Nat)) (x : k.den), ((mdelL l x).map fun e => e.1.1) = (l.map fun e => e.1.1).eraseP fun a => k.eqb x a
  | [], x => rfl
  | ((a, b), m) :: l, x => by
    show (bif k.eqb x a then l else ((a, b), m) :: mdelL l x).map _ = _
    cases e : k.eqb x a with
    | true => simp [e]
    | false => simp [e, mdelL_keys h l x]
theorem keysU_mdel (h : KeyEq k) {m : GMap k v} (hm : keysU m) (x : k.den) : keysU (mdel m x) := by
  unfold keysU mdel
  simp only
  rw [mdelL_keys h]
  exact hm.sublist List.eraseP_sublist
theorem mdelL_self (h : KeyEq k) : ∀ (l : List ((k.den × v.den) × Nat)) (x : k.den), (l.map fun e => e.1.1).Nodup → mfind (mdelL l x) x = none
  | [], x, _ => rfl
  | ((a, b), m) :: l, x, hn => by
    simp only [List.map_cons, List.nodup_cons] at hn
    show mfind (bif k.eqb x a then l else ((a, b), m) :: mdelL l x) x = none
    cases e : k.eqb x a with
    | true =>
      have := (h x a).1 e
      subst this
      exact (mfind_nokey h).2 hn.1
    | false =>
      show (bif k.eqb x a then some (b, m) else mfind (mdelL l x) x) = none
      rw [e]
      exact mdelL_self h l x hn.2
theorem mget_mdel (h : KeyEq k) {m : GMap k v} (hm : keysU m) (x : k.den) : mget (mdel m x) x = none := by
  unfold mget mdel
  simp only
  rw [mdelL_self h _ _ hm]
  rfl
theorem mget_mdel_ne (h : KeyEq k) (m : GMap k v) (x : k.den) {z : k.den} (hz : z ≠ x) : mget (mdel m x) z = mget m z := by
  unfold mget mdel
  simp only
  rw [mdelL_ne h _ _ _ hz]
end

end Go.Ab

/- Layer 18, inode: words; copies; is. -/
namespace Go.Ab.D
open Go Go.Ab

abbrev Part := Int × Int
abbrev Ent := List UInt8 × Int
abbrev Ino := Int × Int × Bool × Bool × Int × List Part × Int × List Ent
abbrev Tree := List Ino × Int
def Ino.sm (n : Ino) : Prop := n.2.2.2.2.2.1.length ≤ 100000 ∧ n.2.2.2.2.2.2.2.length ≤ 100000
/-- A tree that is not too great to be copied. -/
structure Fit (l : List Ino) : Prop where
  n : l.length ≤ 100000
  s : ∀ n ∈ l, Ino.sm n
theorem Fit.at {l : List Ino} (h : Fit l) {i : Nat} {n : Ino} (e : l[i]? = some n) : Ino.sm n := h.s n (List.mem_of_getElem? e)

theorem clonePart {l : List Part} (h : l.length ≤ 100000) : slices_Clone__api_Part_api_Part fuel l = some l := by
  unfold slices_Clone__api_Part_api_Part
  rw [nilQ_same]
  · simp only [cond_false]
    rw [need_true]
    simp only [Bool.and_eq_true, Nat.ble_eq, roomIs]; omega
  · intro h0
    have := List.eq_nil_of_length_eq_zero h0
    subst this
    simp only [cond_true, cond_false]
    rw [need_true]
    simp only [Bool.and_eq_true, Nat.ble_eq, roomIs]; omega
theorem cloneEnt {l : List Ent} (h : l.length ≤ 100000) : slices_Clone__api_Entry_api_Entry fuel l = some l := by
  unfold slices_Clone__api_Entry_api_Entry
  rw [nilQ_same]
  · simp only [cond_false]
    rw [need_true]
    simp only [Bool.and_eq_true, Nat.ble_eq, roomIs]; omega
  · intro h0
    have := List.eq_nil_of_length_eq_zero h0
    subst this
    simp only [cond_true, cond_false]
    rw [need_true]
    simp only [Bool.and_eq_true, Nat.ble_eq, roomIs]; omega
theorem cloneIno {l : List Ino} (h : l.length ≤ 100000) : slices_Clone__api_Inode_api_Inode fuel l = some l := by
  unfold slices_Clone__api_Inode_api_Inode
  rw [nilQ_same]
  · simp only [cond_false]
    rw [need_true]
    simp only [Bool.and_eq_true, Nat.ble_eq, roomIs]; omega
  · intro h0
    have := List.eq_nil_of_length_eq_zero h0
    subst this
    simp only [cond_true, cond_false]
    rw [need_true]
    simp only [Bool.and_eq_true, Nat.ble_eq, roomIs]; omega
theorem own_ok {n : Ino} (h : n.sm) : inode_own fuel n = some (n.1, n.2.1, n.2.2.1, n.2.2.2.1, n.2.2.2.2.1, n.2.2.2.2.2.2.1, n.2.2.2.2.2.1, n.2.2.2.2.2.2.2) := by
  unfold inode_own
  rw [clonePart h.1, Option.bind_some, cloneEnt h.2, Option.bind_some]
theorem set_same {α : Type} {l : List α} {i : Nat} {x : α} (h : l[i]? = some x) : l.set i x = l := by
  obtain ⟨h1, h2⟩ := List.getElem?_eq_some_iff.1 h
  rw [← h2]
  exact List.set_getElem_self h1
theorem lt_dec {i n : Nat} (h : i < n) : decide ((i : Int) < ((n : Nat) : Int)) = true := by simp; omega
theorem nlt_dec {i n : Nat} (h : ¬ i < n) : decide ((i : Int) < ((n : Nat) : Int)) = false := by simp; omega
theorem copied_ok {t : Tree} (h : Fit t.1) : inode_copied fuel t = some (t.2, t.1) := by
  unfold inode_copied
  rw [cloneIno h.n, Option.bind_some]
  have loop : inode_copied_l0_it fuel t.1 (0, (t.2, (t.1, 0))) = some (t.2, (t.1, 0)) := by
    unfold inode_copied_l0_it
    refine iter_range (fun k => ((k : Int), (t.2, (t.1, 0)))) t.1.length (by have := h.n; omega) (fun k hk => ?_) ?_
    · unfold inode_copied_l0
      obtain ⟨n, hg⟩ : ∃ n, t.1[k]? = some n := ⟨_, List.getElem?_eq_getElem hk⟩
      simp only [lt_dec hk, cond_true]
      rw [idx_nat hk, Option.bind_some, hg, Option.bind_some, own_ok (h.at hg), Option.bind_some, Option.bind_some, hg, Option.bind_some, w64 (by have := h.n; omega)]
      rw [show t.1.set k _ = t.1 from set_same hg]
      rfl
    · unfold inode_copied_l0
      simp only [nlt_dec (Nat.lt_irrefl _), cond_false]
  rw [loop, Option.bind_some]
theorem refOwn_ok {n : Ino} (h : n.sm) : ref18_own fuel n = some (n.1, n.2.1, n.2.2.1, n.2.2.2.1, n.2.2.2.2.1, n.2.2.2.2.2.2.1, n.2.2.2.2.2.1, n.2.2.2.2.2.2.2) := by
  unfold ref18_own
  rw [need_true, need_true]
  · have := h.2; simp only [Bool.and_eq_true, Nat.ble_eq, roomIs]; omega
  · have := h.1; simp only [Bool.and_eq_true, Nat.ble_eq, roomIs]; omega
theorem refCopied_ok {t : Tree} (h : Fit t.1) : ref18_Copied fuel t = some (t.2, t.1) := by
  unfold ref18_Copied
  have loop : ref18_Copied_l0_it fuel (0, (t.1, (t.2, (0, [])))) = some (t.1, (t.2, (0, t.1))) := by
    unfold ref18_Copied_l0_it
    refine iter_range (fun k => ((k : Int), (t.1, (t.2, (0, t.1.take k))))) t.1.length (by have := h.n; omega) (fun k hk => ?_) ?_
    · unfold ref18_Copied_l0
      have hg := List.getElem?_eq_getElem hk
      simp only [lt_dec hk, cond_true]
      rw [idx_nat hk, Option.bind_some, hg, Option.bind_some, refOwn_ok (h.at hg), Option.bind_some, need_true, w64 (by have := h.n; omega)]
      · rw [List.take_succ, hg]
        rfl
      · have := h.n
        have h2 : (t.1.take k).length ≤ 100000 := by rw [List.length_take]; omega
        simp only [Bool.and_eq_true, Nat.ble_eq, roomIs]; omega
    · unfold ref18_Copied_l0
      simp only [nlt_dec (Nat.lt_irrefl _), cond_false, List.take_length]
  rw [loop, Option.bind_some]

/-! is -/
def isB (l : List Ino) (id : Int) (dir : Bool) : Bool :=
  decide (1 ≤ id) && match l[(id - 1).toNat]? with
    | some n => n.2.2.1 && n.2.2.2.1 == dir
    | none => false
theorem is_lt {l : List Ino} {id : Int} {dir : Bool} (h : isB l id dir = true) : 1 ≤ id ∧ (id - 1).toNat < l.length := by
  unfold isB at h
  simp only [Bool.and_eq_true, decide_eq_true_eq] at h
  refine ⟨h.1, ?_⟩
  cases hg : l[(id - 1).toNat]? with
  | none => rw [hg] at h; simp at h
  | some n => exact (List.getElem?_eq_some_iff.1 hg).1
theorem is_ok {t : Tree} (h : Fit t.1) (id : Int) (dir : Bool) : inode_is fuel t id dir = some (isB t.1 id dir) := by
  unfold inode_is isB
  by_cases h1 : 1 ≤ id
  · rw [show decide (id ≥ 1) = true from by simp; omega, cond_true, Bool.true_and]
    by_cases h2 : id ≤ ((t.1.length : Nat) : Int)
    · have hn := h.n
      rw [show decide (id ≤ ((t.1.length : Nat) : Int)) = true from by simp; omega, cond_true, w64 (by omega), idx_int (by omega) (by omega), Option.bind_some]
      have hlt : (id - 1).toNat < t.1.length := by omega
      obtain ⟨n, hg⟩ : ∃ n, t.1[(id - 1).toNat]? = some n := ⟨_, List.getElem?_eq_getElem hlt⟩
      rw [hg]
      simp only [Option.bind_some]
      cases n.2.2.1
      · rfl
      · simp only [cond_true, Bool.true_and]
        rw [hg]
        rfl
    · rw [show decide (id ≤ ((t.1.length : Nat) : Int)) = false from by simp; omega, cond_false]
      rw [List.getElem?_eq_none (by omega)]
  · rw [show decide (id ≥ 1) = false from by simp; omega, cond_false, Bool.false_and]
theorem refIs_ok {t : Tree} (h : Fit t.1) (id : Int) (dir : Bool) : ref18_is fuel t id dir = some (isB t.1 id dir) := is_ok h id dir
end Go.Ab.D

/- Layer 18: which tables are right. -/
namespace Go.Ab.D
open Go Go.Ab

/-! Words -/
def part0 (p : Part) : Prop := p.1 = 0 ∧ p.2 = 0
def most : Int := 1099511627776
def okPart (stripe : Int) (p : Part) : Prop := (p.1 = 0 ∧ p.2 = 0) ∨ (1 ≤ p.1 ∧ p.1 ≤ stripe ∧ 1 ≤ p.2 ∧ p.2 ≤ 1099511627776)
/-- The stripes that parts are of. -/
def stripes (l : List Part) : List Int := (l.filter fun p => p.1 != 0).map (·.1)
def okEnts (many : Int) : List UInt8 → List Ent → Prop
  | _, [] => True
  | last, e :: r => 1 ≤ e.1.length ∧ e.1.length ≤ 30 ∧ Op.bytesLess last e.1 = true ∧ 1 ≤ e.2 ∧ e.2 ≤ many ∧ okEnts many e.1 r
theorem okEnts_cons (many : Int) (last : List UInt8) (e : Ent) (r : List Ent) : okEnts many last (e :: r) = (1 ≤ e.1.length ∧ e.1.length ≤ 30 ∧ Op.bytesLess last e.1 = true ∧ 1 ≤ e.2 ∧ e.2 ≤ many ∧ okEnts many e.1 r) := rfl
structure okIno (many stripe : Int) (i : Nat) (n : Ino) : Prop where
  id : n.1 = i + 1
  gen : 1 ≤ n.2.1 ∧ n.2.1 ≤ 1099511627776
  par : n.2.2.1 = true → 1 ≤ n.2.2.2.2.2.2.1 ∧ n.2.2.2.2.2.2.1 ≤ many
  dir : n.2.2.1 = true → n.2.2.2.1 = true → n.2.2.2.2.1 = 0 ∧ n.2.2.2.2.2.1 = [] ∧ n.2.2.2.2.2.2.2.length ≤ 100 ∧ okEnts many [] n.2.2.2.2.2.2.2
  file : n.2.2.1 = true → n.2.2.2.1 = false → (0 ≤ n.2.2.2.2.1 ∧ n.2.2.2.2.1 ≤ 65536) ∧ n.2.2.2.2.2.2.2 = [] ∧ n.2.2.2.2.2.1.length ≤ 4096 ∧ ∀ p ∈ n.2.2.2.2.2.1, okPart stripe p
  bare : n.2.2.1 = false → n.2.2.2.1 = false ∧ n.2.2.2.2.1 = 0 ∧ n.2.2.2.2.2.2.1 = 0 ∧ n.2.2.2.2.2.1 = [] ∧ n.2.2.2.2.2.2.2 = []
def allStripes (l : List Ino) : List Int := l.flatMap fun n => stripes n.2.2.2.2.2.1
structure RightP (t : Tree) : Prop where
  len : 1 ≤ t.1.length ∧ t.1.length ≤ 500
  str : 0 ≤ t.2 ∧ t.2 ≤ 1099511627776
  ino : ∀ i n, t.1[i]? = some n → okIno t.1.length t.2 i n
  nod : (allStripes t.1).Nodup
  root : ∃ r, t.1[0]? = some r ∧ r.2.2.1 = true ∧ r.2.2.2.1 = true ∧ r.2.2.2.2.2.2.1 = 1
theorem stripes_append (a b : List Part) : stripes (a ++ b) = stripes a ++ stripes b := by simp [stripes]
theorem stripes_one0 {p : Part} (h : p.1 = 0) : stripes [p] = [] := by simp [stripes, h]
theorem stripes_one {p : Part} (h : p.1 ≠ 0) : stripes [p] = [p.1] := by simp [stripes, h]
theorem ok0 {s : Int} {p : Part} (h : okPart s p) : p.1 = 0 ↔ (p.1 = 0 ∧ p.2 = 0) := by
  unfold okPart at h
  constructor
  · intro h1; rcases h with h | h
    · exact h
    · omega
  · exact fun h => h.1
/-! Names in order -/
theorem bless_nil {l : List UInt8} (h : 1 ≤ l.length) : Op.bytesLess [] l = true := by
  cases l with
  | nil => simp at h
  | cons a l => rfl
theorem bless_flip : ∀ (a b : List UInt8), (Op.bytesLess a b || (a == b)) = !Op.bytesLess b a
  | [], [] => rfl
  | [], b :: l => by simp [Op.bytesLess]
  | a :: l, [] => by simp [Op.bytesLess]
  | a :: l, b :: m => by
    have ih := bless_flip l m
    have ne : (a :: l == b :: m) = (a == b && l == m) := rfl
    rw [ne]
    by_cases h : a < b
    · have h2 : ¬ b < a := by exact fun h2 => absurd (UInt8.lt_trans h h2) (UInt8.lt_irrefl _)
      have h3 : b ≠ a := fun e => by subst e; exact UInt8.lt_irrefl _ h
      simp [Op.bytesLess, h, h2, h3]
    · by_cases h2 : b < a
      · have h3 : a ≠ b := fun e => by subst e; exact UInt8.lt_irrefl _ h2
        simp [Op.bytesLess, h, h2, h3, Ne.symm h3]
      · have h3 : a = b := UInt8.le_antisymm (UInt8.not_lt.1 h2) (UInt8.not_lt.1 h)
        subst h3
        simp only [Op.bytesLess, h, beq_self_eq_true, Bool.true_and]
        simpa using ih

/-! Entries -/
theorem dir1_ok (e : Ent) (h : List UInt8) (many : Int) : ∃ w, inode_directory_1 fuel e h many = some (w, (e.1, many)) ∧ (w = true ↔ ¬(1 ≤ e.1.length ∧ e.1.length ≤ 30 ∧ Op.bytesLess h e.1 = true ∧ 1 ≤ e.2 ∧ e.2 ≤ many)) := by
  unfold inode_directory_1
  rw [bless_flip]
  by_cases h1 : e.1.length < 1
  · rw [show decide (((e.1.length : Nat) : Int) < 1) = true from by simp; omega]
    exact ⟨true, rfl, by simp; omega⟩
  rw [show decide (((e.1.length : Nat) : Int) < 1) = false from by simp; omega, cond_false]
  by_cases h2 : e.1.length > 30
  · rw [show decide (((e.1.length : Nat) : Int) > 30) = true from by simp; omega]
    exact ⟨true, rfl, by simp; omega⟩
  rw [show decide (((e.1.length : Nat) : Int) > 30) = false from by simp; omega, cond_false]
  cases h3 : Op.bytesLess h e.1 with
  | false => exact ⟨true, rfl, by simp⟩
  | true =>
    simp only [Bool.not_true, cond_false]
    by_cases h4 : e.2 < 1
    · rw [show decide (e.2 < 1) = true from by simp; omega]
      exact ⟨true, rfl, by simp; omega⟩
    rw [show decide (e.2 < 1) = false from by simp; omega, cond_false]
    exact ⟨_, rfl, by simp; omega⟩
theorem entsLoop (l : List Ent) (many : Int) (hl : l.length ≤ 100000) :
    ∃ o, slices_IndexFunc__api_Entry_api_Entry_f11_l0_it fuel l (0, ([], many)) = some o ∧ ((∃ a b, o = .inl (a, b) ∧ okEnts many [] l) ∨ (∃ (k : Nat), ∃ a b, o = .inr ((k : Int), (a, b)) ∧ ¬ okEnts many [] l)) := by
  unfold slices_IndexFunc__api_Entry_api_Entry_f11_l0_it
  refine iter_ex (fun n s => ∃ (k : Nat) (last : List UInt8), s = ((k : Int), (last, many)) ∧ k + n = l.length ∧ (okEnts many [] l ↔ okEnts many last (l.drop k))) _ (fun n s hI => ?_) (fun s hI => ?_) l.length _ (by omega) ⟨0, [], rfl, by omega, by simp⟩
  · obtain ⟨k, last, rfl, hk, hi⟩ := hI
    have hlt : k < l.length := by omega
    obtain ⟨e, hg⟩ : ∃ e, l[k]? = some e := ⟨_, List.getElem?_eq_getElem hlt⟩
    have hd : l.drop k = e :: l.drop (k + 1) := by
      rw [List.drop_eq_getElem_cons hlt]
      rw [List.getElem?_eq_getElem hlt] at hg
      simp only [Option.some.injEq] at hg
      rw [hg]
    obtain ⟨w, hw, hw2⟩ := dir1_ok e last many
    unfold slices_IndexFunc__api_Entry_api_Entry_f11_l0
    simp only [lt_dec hlt, cond_true]
    rw [idx_nat hlt, Option.bind_some, hg, Option.bind_some, hw, Option.bind_some]
    rw [hd, okEnts_cons] at hi
    cases w with
    | true =>
      right
      refine ⟨_, rfl, .inr ⟨k, _, _, rfl, fun h => ?_⟩⟩
      have h2 := hi.1 h
      exact hw2.1 rfl ⟨h2.1, h2.2.1, h2.2.2.1, h2.2.2.2.1, h2.2.2.2.2.1⟩
    | false =>
      left
      rw [w64 (by omega)]
      refine ⟨_, rfl, k + 1, e.1, by simp, by omega, ?_⟩
      have hne : ¬¬(1 ≤ e.1.length ∧ e.1.length ≤ 30 ∧ Op.bytesLess last e.1 = true ∧ 1 ≤ e.2 ∧ e.2 ≤ many) := fun h => by have := hw2.2 h; cases this
      have hy := Classical.not_not.1 hne
      constructor
      · intro h; exact (hi.1 h).2.2.2.2.2
      · intro h; exact hi.2 ⟨hy.1, hy.2.1, hy.2.2.1, hy.2.2.2.1, hy.2.2.2.2, h⟩
  · obtain ⟨k, last, rfl, hk, hi⟩ := hI
    have : k = l.length := by omega
    subst this
    unfold slices_IndexFunc__api_Entry_api_Entry_f11_l0
    simp only [nlt_dec (Nat.lt_irrefl _), cond_false]
    exact ⟨_, rfl, .inl ⟨_, _, rfl, hi.2 (by simp [okEnts])⟩⟩
theorem dir_ok (n : Ino) (many : Int) (hs : n.sm) : ∃ b, inode_directory fuel n many = some b ∧ (b = true ↔ n.2.2.2.2.1 = 0 ∧ n.2.2.2.2.2.1 = [] ∧ n.2.2.2.2.2.2.2.length ≤ 100 ∧ okEnts many [] n.2.2.2.2.2.2.2) := by
  unfold inode_directory
  by_cases h1 : n.2.2.2.2.1 = 0
  · rw [show (n.2.2.2.2.1 == 0) = true from by simp [h1], cond_true]
    by_cases h2 : n.2.2.2.2.2.1 = []
    · rw [show (((n.2.2.2.2.2.1.length : Nat) : Int) == 0) = true from by simp [h2], cond_true]
      by_cases h3 : n.2.2.2.2.2.2.2.length ≤ 100
      · rw [show decide (((n.2.2.2.2.2.2.2.length : Nat) : Int) ≤ 100) = true from by simp; omega, cond_true]
        obtain ⟨o, ho, hq⟩ := entsLoop n.2.2.2.2.2.2.2 many hs.2
        unfold slices_ContainsFunc__api_Entry_api_Entry_f11 slices_IndexFunc__api_Entry_api_Entry_f11
        rw [ho, Option.bind_some]
        rcases hq with ⟨a, b, rfl, hq⟩ | ⟨k, a, b, rfl, hq⟩
        · exact ⟨_, rfl, by simp [h1, h2, h3, hq]⟩
        · refine ⟨_, rfl, ?_⟩
          simp [h1, h2, h3, hq]
      · rw [show decide (((n.2.2.2.2.2.2.2.length : Nat) : Int) ≤ 100) = false from by simp; omega, cond_false]
        exact ⟨_, rfl, by simp [h3]⟩
    · rw [show (((n.2.2.2.2.2.1.length : Nat) : Int) == 0) = false from by simp [h2], cond_false]
      exact ⟨_, rfl, by simp [h2]⟩
  · rw [show (n.2.2.2.2.1 == 0) = false from by simp [h1], cond_false]
    exact ⟨_, rfl, by simp [h1]⟩

/-! Parts -/
abbrev GM := GMap (.int .i64) (.int .i64)
/-- The stripes that were seen. -/
def MS (M : GM) (S : List Int) : Prop := ∀ k : Int, (((Option.getD (mget (k := .int .i64) (v := .int .i64) M k) 0 : Int) == 1) = true ↔ k ∈ S)
theorem MS.nil : MS ([], 0) [] := fun k => by simp [mget, mfind]
theorem MS.put {M : GM} {S : List Int} (h : MS M S) (x : Int) : MS (mput (k := .int .i64) (v := .int .i64) M x 1) (S ++ [x]) := fun k => by
  by_cases hk : k = x
  · subst hk
    rw [mget_mput (keyEq_int .i64)]
    simp
  · rw [mget_mput_ne (keyEq_int .i64) M x 1 hk, h k]
    simp [hk]
theorem file1_ok (p : Part) (M : GM) (S : List Int) (stripe : Int) (hM : MS M S) : ∃ w M', inode_file_1__cm fuel p M stripe = some (w, (M', stripe)) ∧ (w = true ↔ ¬(okPart stripe p ∧ (p.1 ≠ 0 → p.1 ∉ S))) ∧ (w = false → MS M' (S ++ stripes [p])) := by
  unfold inode_file_1__cm
  by_cases h0 : p.1 = 0 ∧ p.2 = 0
  · rw [show ((p.1 == 0) && (p.2 == 0)) = true from by simp [h0.1, h0.2]]
    refine ⟨false, M, rfl, by simp [okPart, h0], fun _ => ?_⟩
    rw [stripes_one0 h0.1, List.append_nil]
    exact hM
  rw [show ((p.1 == 0) && (p.2 == 0)) = false from by
    cases hh : ((p.1 == 0) && (p.2 == 0)) with
    | false => rfl
    | true => simp at hh; exact absurd hh h0, cond_false]
  have hMp := hM.put p.1
  cases hq : ((Option.getD (mget (k := .int .i64) (v := .int .i64) M p.1) 0 : Int) == 1) with
  | true =>
    have := (hM p.1).1 hq
    refine ⟨true, _, rfl, ?_, fun h => by cases h⟩
    simp only [okPart, true_iff]
    intro h
    rcases h.1 with h3 | h3
    · exact h0 h3
    · exact h.2 (by omega) this
  | false =>
    have hn : p.1 ∉ S := fun h => by have := (hM p.1).2 h; rw [hq] at this; cases this
    simp only [cond_false]
    by_cases h1 : p.1 < 1
    · rw [show decide (p.1 < 1) = true from by simp; omega]
      exact ⟨true, _, rfl, by simp only [okPart, true_iff]; intro h; omega, fun h => by cases h⟩
    rw [show decide (p.1 < 1) = false from by simp; omega, cond_false]
    by_cases h2 : p.1 > stripe
    · rw [show decide (p.1 > stripe) = true from by simp; omega]
      exact ⟨true, _, rfl, by simp only [okPart, true_iff]; intro h; omega, fun h => by cases h⟩
    rw [show decide (p.1 > stripe) = false from by simp; omega, cond_false]
    by_cases h3 : p.2 < 1
    · rw [show decide (p.2 < 1) = true from by simp; omega]
      exact ⟨true, _, rfl, by simp only [okPart, true_iff]; intro h; omega, fun h => by cases h⟩
    rw [show decide (p.2 < 1) = false from by simp; omega, cond_false]
    refine ⟨_, _, rfl, ?_, fun _ => ?_⟩
    · simp only [okPart, decide_eq_true_eq]
      constructor
      · intro h5 h6; omega
      · intro h5
        exact Classical.byContradiction fun h6 => h5 ⟨.inr (by omega), fun _ => hn⟩
    · rw [stripes_one (by omega)]
      exact hMp
theorem partsLoop (l : List Part) (M : GM) (S : List Int) (stripe : Int) (hM : MS M S) (hS : S.Nodup) (hl : l.length ≤ 100000) :
    ∃ o, slices_IndexFunc__api_Part_api_Part_f11_cm_l0_it fuel l (0, (M, stripe)) = some o ∧ ((∃ M', o = .inl (M', stripe) ∧ (∀ p ∈ l, okPart stripe p) ∧ MS M' (S ++ stripes l) ∧ (S ++ stripes l).Nodup) ∨ (∃ (k : Nat), ∃ M', o = .inr ((k : Int), (M', stripe)) ∧ ¬((∀ p ∈ l, okPart stripe p) ∧ (S ++ stripes l).Nodup))) := by
  unfold slices_IndexFunc__api_Part_api_Part_f11_cm_l0_it
  refine iter_ex (fun n s => ∃ (k : Nat) (M' : GM), s = ((k : Int), (M', stripe)) ∧ k + n = l.length ∧ (∀ p ∈ l.take k, okPart stripe p) ∧ MS M' (S ++ stripes (l.take k)) ∧ (S ++ stripes (l.take k)).Nodup) _ (fun n s hI => ?_) (fun s hI => ?_) l.length _ (by omega) ⟨0, M, rfl, by omega, by simp, by simpa [stripes] using hM, by simpa [stripes] using hS⟩
  · obtain ⟨k, M', rfl, hk, h1, h2, h3⟩ := hI
    have hlt : k < l.length := by omega
    obtain ⟨p, hg⟩ : ∃ p, l[k]? = some p := ⟨_, List.getElem?_eq_getElem hlt⟩
    obtain ⟨w, M2, hw, hw2, hw3⟩ := file1_ok p M' _ stripe h2
    have ht : l.take (k + 1) = l.take k ++ [p] := by rw [List.take_succ, hg]; rfl
    unfold slices_IndexFunc__api_Part_api_Part_f11_cm_l0
    simp only [lt_dec hlt, cond_true]
    rw [idx_nat hlt, Option.bind_some, hg, Option.bind_some, hw, Option.bind_some]
    cases w with
    | true =>
      right
      refine ⟨_, rfl, .inr ⟨k, _, rfl, fun h => hw2.1 rfl ⟨h.1 p (List.mem_of_getElem? hg), fun hp0 hm => ?_⟩⟩⟩
      have h5 : (S ++ stripes (l.take (k + 1))).Nodup := by
        have : l = l.take (k + 1) ++ l.drop (k + 1) := (List.take_append_drop _ _).symm
        have h6 := h.2
        rw [this, stripes_append, ← List.append_assoc] at h6
        exact (List.nodup_append.1 h6).1
      rw [ht, stripes_append, ← List.append_assoc, stripes_one hp0] at h5
      exact (List.nodup_append.1 h5).2.2 _ hm _ (by simp) rfl
    | false =>
      left
      have hy := Classical.not_not.1 fun h => by have := hw2.2 h; cases this
      rw [w64 (by omega)]
      refine ⟨_, rfl, k + 1, M2, by simp, by omega, ?_, ?_, ?_⟩
      · rw [ht]
        intro q hq
        rcases List.mem_append.1 hq with hq | hq
        · exact h1 q hq
        · simp at hq; subst hq; exact hy.1
      · rw [ht, stripes_append, ← List.append_assoc]
        exact hw3 rfl
      · rw [ht, stripes_append, ← List.append_assoc]
        by_cases hp0 : p.1 = 0
        · rw [stripes_one0 hp0, List.append_nil]; exact h3
        · rw [stripes_one hp0]
          refine List.nodup_append.2 ⟨h3, by simp, fun a ha b hb => ?_⟩
          simp at hb; subst hb
          exact fun e => hy.2 hp0 (e ▸ ha)
  · obtain ⟨k, M', rfl, hk, h1, h2, h3⟩ := hI
    have : k = l.length := by omega
    subst this
    rw [List.take_length] at h1 h2 h3
    unfold slices_IndexFunc__api_Part_api_Part_f11_cm_l0
    simp only [nlt_dec (Nat.lt_irrefl _), cond_false]
    exact ⟨_, rfl, .inl ⟨_, rfl, h1, h2, h3⟩⟩
def okFile (stripe : Int) (n : Ino) : Prop := (0 ≤ n.2.2.2.2.1 ∧ n.2.2.2.2.1 ≤ 65536) ∧ n.2.2.2.2.2.2.2 = [] ∧ n.2.2.2.2.2.1.length ≤ 4096 ∧ ∀ p ∈ n.2.2.2.2.2.1, okPart stripe p
theorem file_ok (n : Ino) (M : GM) (S : List Int) (stripe : Int) (hs : n.sm) (hM : MS M S) (hS : S.Nodup) : ∃ b M', inode_file_m2 fuel n stripe M = some (b, M') ∧ (b = true ↔ okFile stripe n ∧ (S ++ stripes n.2.2.2.2.2.1).Nodup) ∧ (b = true → MS M' (S ++ stripes n.2.2.2.2.2.1)) := by
  unfold inode_file_m2 okFile
  by_cases h1 : n.2.2.2.2.1 ≥ 0
  · rw [show decide (n.2.2.2.2.1 ≥ 0) = true from by simp; omega, cond_true]
    by_cases h2 : n.2.2.2.2.1 ≤ 65536
    · rw [show decide (n.2.2.2.2.1 ≤ 65536) = true from by simp; omega, cond_true]
      by_cases h3 : n.2.2.2.2.2.2.2 = []
      · rw [show (((n.2.2.2.2.2.2.2.length : Nat) : Int) == 0) = true from by simp [h3], cond_true]
        by_cases h4 : n.2.2.2.2.2.1.length ≤ 4096
        · rw [show decide (((n.2.2.2.2.2.1.length : Nat) : Int) ≤ 4096) = true from by simp; omega, cond_true]
          obtain ⟨o, ho, hq⟩ := partsLoop n.2.2.2.2.2.1 M S stripe hM hS hs.1
          unfold slices_ContainsFunc__api_Part_api_Part_f11_cm slices_IndexFunc__api_Part_api_Part_f11_cm
          rw [ho, Option.bind_some]
          rcases hq with ⟨M', rfl, q1, q2, q3⟩ | ⟨k, M', rfl, hq⟩
          · exact ⟨_, _, rfl, by simp [h1, h2, h3, h4, q3]; exact fun a b hab => q1 (a, b) hab, fun _ => q2⟩
          · refine ⟨_, _, rfl, ?_, ?_⟩
            · constructor
              · intro h; simp at h
              · intro h; exact absurd ⟨h.1.2.2.2, h.2⟩ hq
            · intro h; simp at h
        · rw [show decide (((n.2.2.2.2.2.1.length : Nat) : Int) ≤ 4096) = false from by simp; omega, cond_false]
          exact ⟨_, _, rfl, by simp [h4], fun h => by cases h⟩
      · rw [show (((n.2.2.2.2.2.2.2.length : Nat) : Int) == 0) = false from by simp [h3], cond_false]
        exact ⟨_, _, rfl, by simp [h3], fun h => by cases h⟩
    · rw [show decide (n.2.2.2.2.1 ≤ 65536) = false from by simp; omega, cond_false]
      exact ⟨_, _, rfl, by simp; intro h; omega, fun h => by cases h⟩
  · rw [show decide (n.2.2.2.2.1 ≥ 0) = false from by simp; omega, cond_false]
    exact ⟨_, _, rfl, by simp; intro h; omega, fun h => by cases h⟩
end Go.Ab.D

/- Layer 18: Right is as the words say. -/
namespace Go.Ab.D
open Go Go.Ab

theorem allS_take_succ {l : List Ino} {k : Nat} {n : Ino} (h : l[k]? = some n) : allStripes (l.take (k + 1)) = allStripes (l.take k) ++ stripes n.2.2.2.2.2.1 := by
  rw [List.take_succ, h]
  simp [allStripes]
theorem allS_sub {l : List Ino} {k : Nat} (h : (allStripes l).Nodup) : (allStripes (l.take k)).Nodup := by
  have h2 : allStripes l = allStripes (l.take k) ++ allStripes (l.drop k) := by
    unfold allStripes
    rw [← List.flatMap_append, List.take_append_drop]
  rw [h2] at h
  exact (List.nodup_append.1 h).1
theorem bare_ok (n : Ino) (hs : n.sm) : ∃ b, inode_bare fuel n = some b ∧ (b = true ↔ n.2.2.1 = false ∧ n.2.2.2.1 = false ∧ n.2.2.2.2.1 = 0 ∧ n.2.2.2.2.2.2.1 = 0 ∧ n.2.2.2.2.2.1 = [] ∧ n.2.2.2.2.2.2.2 = []) := by
  unfold inode_bare
  have hs1 := hs.1
  have hs2 := hs.2
  cases h1 : n.2.2.1 with
  | true => exact ⟨false, rfl, by simp⟩
  | false =>
    cases h2 : n.2.2.2.1 with
    | true => exact ⟨false, rfl, by simp⟩
    | false =>
      simp only [Bool.not_false, cond_true]
      by_cases h3 : n.2.2.2.2.1 = 0
      · by_cases h4 : n.2.2.2.2.2.2.1 = 0
        · rw [w64 (by omega)]
          refine ⟨_, by simp only [h3, h4, beq_self_eq_true, cond_true]; rfl, ?_⟩
          simp only [h3, h4, beq_iff_eq, true_and]
          constructor
          · intro h
            exact ⟨List.eq_nil_of_length_eq_zero (by omega), List.eq_nil_of_length_eq_zero (by omega)⟩
          · intro h; rw [h.1, h.2]; rfl
        · refine ⟨false, ?_, by simp [h4]⟩
          rw [show (n.2.2.2.2.2.2.1 == 0) = false from by simp [h4]]
          simp [h3]
      · refine ⟨false, ?_, by simp [h3]⟩
        rw [show (n.2.2.2.2.1 == 0) = false from by simp [h3]]
        rfl
/-- One round. -/
theorem rightRound (t : Tree) (b : Bool) (k : Nat) (n : Ino) (M : GM) (hf : Fit t.1) (hg : t.1[k]? = some n) (hM : MS M (allStripes (t.1.take k))) (hS : (allStripes (t.1.take k)).Nodup) :
    (∃ M', inode_Right_l0 fuel (b, (t.1, t.2)) t k t.1 t.2 M = some (.inl (((k + 1 : Nat) : Int), (t.1, (t.2, M')))) ∧ okIno t.1.length t.2 k n ∧ MS M' (allStripes (t.1.take (k + 1))) ∧ (allStripes (t.1.take (k + 1))).Nodup) ∨
    (inode_Right_l0 fuel (b, (t.1, t.2)) t k t.1 t.2 M = some (.inr (.inr false)) ∧ ¬(okIno t.1.length t.2 k n ∧ (allStripes (t.1.take (k + 1))).Nodup)) := by
  have hlt : k < t.1.length := (List.getElem?_eq_some_iff.1 hg).1
  have hn := hf.n
  obtain ⟨b1, hb1, hb1'⟩ := bare_ok n (hf.at hg)
  obtain ⟨b2, hb2, hb2'⟩ := dir_ok n ((t.1.length : Nat) : Int) (hf.at hg)
  obtain ⟨b3, M3, hb3, hb3', hb3''⟩ := file_ok n M _ t.2 (hf.at hg) hM hS
  rw [← allS_take_succ hg] at hb3' hb3''
  have eid : (!(n.1 == ((k : Int) + 1))) = !decide (n.1 = (k : Int) + 1) := by simp [BEq.beq]
  -- what it comes down to
  have main : ∀ (ok : Bool) (M' : GM), (ok = true → MS M' (allStripes (t.1.take (k + 1))) ∧ (allStripes (t.1.take (k + 1))).Nodup) →
      ((okIno t.1.length t.2 k n ∧ (allStripes (t.1.take (k + 1))).Nodup) ↔ (ok = true ∧ n.1 = (k : Int) + 1 ∧ (1 ≤ n.2.1 ∧ n.2.1 ≤ 1099511627776) ∧ (n.2.2.1 = true → 1 ≤ n.2.2.2.2.2.2.1 ∧ n.2.2.2.2.2.2.1 ≤ ((t.1.length : Nat) : Int)))) →
      ∀ R, R = (Option.bind (α := (Bool × (List Ino × (Int × GM)))) (
        bif (!ok) then
          some (true, (t.1, (t.2, M')))
        else
          bif (!(n.1 == ((k : Int) + 1))) then
            some (true, (t.1, (t.2, M')))
          else
            bif (decide (n.2.1 < 1)) then
              some (true, (t.1, (t.2, M')))
            else
              bif (decide (n.2.1 > 1099511627776)) then
                some (true, (t.1, (t.2, M')))
              else
                bif n.2.2.1 then
                  bif (decide (n.2.2.2.2.2.2.1 < 1)) then
                    some (true, (t.1, (t.2, M')))
                  else
                    some ((decide (n.2.2.2.2.2.2.1 > ((t.1.length : Nat) : Int))), (t.1, (t.2, M')))
                else
                  some (false, (t.1, (t.2, M')))) fun o4 =>
      bif o4.1 then
        some (.inr (.inr false))
      else
        some (.inl (((k : Int) + 1), (o4.2.1, (o4.2.2.1, o4.2.2.2)))) : Option ((Int × (List Ino × (Int × GM))) ⊕ ((List Ino × Int) ⊕ Bool))) →
      (∃ M', R = some (.inl (((k + 1 : Nat) : Int), (t.1, (t.2, M')))) ∧ okIno t.1.length t.2 k n ∧ MS M' (allStripes (t.1.take (k + 1))) ∧ (allStripes (t.1.take (k + 1))).Nodup) ∨
      (R = some (.inr (.inr false)) ∧ ¬(okIno t.1.length t.2 k n ∧ (allStripes (t.1.take (k + 1))).Nodup)) := by
    intro ok M' hok hiff R hR
    rw [hiff]
    cases ok with
    | false => exact .inr ⟨by rw [hR]; rfl, by simp⟩
    | true =>
      by_cases h1 : n.1 = (k : Int) + 1
      · rw [show (n.1 == ((k : Int) + 1)) = true from by simp [h1]] at hR
        by_cases h2 : n.2.1 < 1
        · rw [show decide (n.2.1 < 1) = true from by simp; omega] at hR
          exact .inr ⟨by rw [hR]; rfl, by omega⟩
        rw [show decide (n.2.1 < 1) = false from by simp; omega] at hR
        by_cases h3 : n.2.1 > 1099511627776
        · rw [show decide (n.2.1 > 1099511627776) = true from by simp; omega] at hR
          exact .inr ⟨by rw [hR]; rfl, by omega⟩
        rw [show decide (n.2.1 > 1099511627776) = false from by simp; omega] at hR
        cases h4 : n.2.2.1 with
        | false =>
          rw [h4] at hR
          refine .inl ⟨M', by rw [hR]; rfl, (hiff.2 ⟨rfl, h1, by omega, fun h => by rw [h4] at h; cases h⟩).1, (hok rfl).1, (hok rfl).2⟩
        | true =>
          rw [h4] at hR
          by_cases h5 : n.2.2.2.2.2.2.1 < 1
          · rw [show decide (n.2.2.2.2.2.2.1 < 1) = true from by simp; omega] at hR
            exact .inr ⟨by rw [hR]; rfl, fun h => by have := h.2.2.2 rfl; omega⟩
          rw [show decide (n.2.2.2.2.2.2.1 < 1) = false from by simp; omega] at hR
          by_cases h6 : n.2.2.2.2.2.2.1 > ((t.1.length : Nat) : Int)
          · rw [show decide (n.2.2.2.2.2.2.1 > ((t.1.length : Nat) : Int)) = true from by simp; omega] at hR
            exact .inr ⟨by rw [hR]; rfl, fun h => by have := h.2.2.2 rfl; omega⟩
          rw [show decide (n.2.2.2.2.2.2.1 > ((t.1.length : Nat) : Int)) = false from by simp; omega] at hR
          refine .inl ⟨M', by rw [hR]; rfl, (hiff.2 ⟨rfl, h1, by omega, fun _ => by omega⟩).1, (hok rfl).1, (hok rfl).2⟩
      · rw [show (n.1 == ((k : Int) + 1)) = false from by simp [h1]] at hR
        exact .inr ⟨by rw [hR]; rfl, by simp [h1]⟩
  have hsucc := allS_take_succ hg
  have htk : n.2.2.2.2.2.1 = [] → (allStripes (t.1.take (k + 1))) = allStripes (t.1.take k) := fun h => by rw [hsucc, h]; simp [stripes]
  generalize hR : inode_Right_l0 fuel (b, (t.1, t.2)) t k t.1 t.2 M = R
  unfold inode_Right_l0 at hR
  simp only [lt_dec hlt, cond_true] at hR
  rw [idx_nat hlt, Option.bind_some, hg, Option.bind_some, w64 (by omega)] at hR
  obtain ⟨id, gen, used, dir, size, parts, parent, ents⟩ := n
  dsimp only at *
  cases used with
  | true =>
    cases dir with
    | true =>
      refine main b2 M ?_ ?_ R ?_
      · intro h
        have := (hb2'.1 h).2.1
        rw [htk this]
        exact ⟨hM, hS⟩
      · constructor
        · intro h
          exact ⟨hb2'.2 (h.1.dir rfl rfl), h.1.id, h.1.gen, h.1.par⟩
        · intro h
          have h9 := hb2'.1 h.1
          exact ⟨⟨h.2.1, h.2.2.1, h.2.2.2, fun _ _ => h9, (fun _ h => by cases h), (fun h => by cases h)⟩, by rw [htk h9.2.1]; exact hS⟩
      · rw [← hR, hb1, Option.bind_some]
        simp only [cond_true, Option.bind_some, hb2]
    | false =>
      refine main b3 M3 (fun h => ⟨hb3'' h, (hb3'.1 h).2⟩) ?_ R ?_
      · constructor
        · intro h
          exact ⟨hb3'.2 ⟨h.1.file rfl rfl, h.2⟩, h.1.id, h.1.gen, h.1.par⟩
        · intro h
          have h9 := hb3'.1 h.1
          exact ⟨⟨h.2.1, h.2.2.1, h.2.2.2, (fun _ h => by cases h), fun _ _ => h9.1, (fun h => by cases h)⟩, h9.2⟩
      · rw [← hR, hb1, Option.bind_some]
        simp only [cond_true, cond_false, Option.bind_some, hb3]
  | false =>
    refine main b1 M ?_ ?_ R ?_
    · intro h
      have := (hb1'.1 h).2.2.2.2.1
      rw [htk this]
      exact ⟨hM, hS⟩
    · constructor
      · intro h
        exact ⟨hb1'.2 ⟨rfl, h.1.bare rfl⟩, h.1.id, h.1.gen, h.1.par⟩
      · intro h
        have h9 := hb1'.1 h.1
        exact ⟨⟨h.2.1, h.2.2.1, h.2.2.2, (fun h => by cases h), (fun h => by cases h), fun _ => h9.2⟩, by rw [htk h9.2.2.2.2.1]; exact hS⟩
    · rw [← hR, hb1, Option.bind_some]
      simp only [cond_true, cond_false, Option.bind_some]
theorem right_ok {t : Tree} (hf : Fit t.1) : ∃ b, inode_Right fuel t = some b ∧ (b = true ↔ RightP t) := by
  unfold inode_Right
  have hn := hf.n
  by_cases h1 : t.1.length < 1
  · rw [show decide (((t.1.length : Nat) : Int) < 1) = true from by simp; omega]
    exact ⟨false, rfl, by simp; intro h; have := h.len; omega⟩
  rw [show decide (((t.1.length : Nat) : Int) < 1) = false from by simp; omega, cond_false]
  by_cases h2 : t.1.length > 500
  · rw [show decide (((t.1.length : Nat) : Int) > 500) = true from by simp; omega]
    exact ⟨false, rfl, by simp; intro h; have := h.len; omega⟩
  rw [show decide (((t.1.length : Nat) : Int) > 500) = false from by simp; omega, cond_false]
  by_cases h3 : t.2 < 0
  · rw [show decide (t.2 < 0) = true from by simp; omega]
    exact ⟨false, rfl, by simp; intro h; have := h.str; omega⟩
  rw [show decide (t.2 < 0) = false from by simp; omega, cond_false]
  by_cases h4 : t.2 > 1099511627776
  · rw [show decide (t.2 > 1099511627776) = true from by simp; omega]
    exact ⟨false, rfl, by simp; intro h; have := h.str; omega⟩
  rw [show decide (t.2 > 1099511627776) = false from by simp; omega, Option.bind_some]
  simp only [cond_false]
  have loop : ∃ o, inode_Right_l0_it fuel (false, (t.1, t.2)) t (0, (t.1, (t.2, ([], 0)))) = some o ∧ ((o = .inl (t.1, t.2) ∧ (∀ i n, t.1[i]? = some n → okIno t.1.length t.2 i n) ∧ (allStripes t.1).Nodup) ∨ (o = .inr false ∧ ¬((∀ i n, t.1[i]? = some n → okIno t.1.length t.2 i n) ∧ (allStripes t.1).Nodup))) := by
    unfold inode_Right_l0_it
    refine iter_ex (fun m s => ∃ (k : Nat) (M : GM), s = ((k : Int), (t.1, (t.2, M))) ∧ k + m = t.1.length ∧ (∀ i n, i < k → t.1[i]? = some n → okIno t.1.length t.2 i n) ∧ MS M (allStripes (t.1.take k)) ∧ (allStripes (t.1.take k)).Nodup) _ (fun m s hI => ?_) (fun s hI => ?_) t.1.length _ (by omega) ⟨0, ([], 0), rfl, by omega, fun i n h => absurd h (Nat.not_lt_zero _), by simpa [allStripes] using MS.nil, by simp [allStripes]⟩
    · obtain ⟨k, M, rfl, hk, g1, g2, g3⟩ := hI
      have hlt : k < t.1.length := by omega
      obtain ⟨n, hg⟩ : ∃ n, t.1[k]? = some n := ⟨_, List.getElem?_eq_getElem hlt⟩
      rcases rightRound t false k n M hf hg g2 g3 with ⟨M', r1, r2, r3, r4⟩ | ⟨r1, r2⟩
      · left
        refine ⟨_, r1, k + 1, M', rfl, by omega, fun i n' hi hgi => ?_, r3, r4⟩
        by_cases hik : i = k
        · subst hik; rw [hg] at hgi; cases hgi; exact r2
        · exact g1 i n' (by omega) hgi
      · right
        exact ⟨_, r1, .inr ⟨rfl, fun h => r2 ⟨h.1 k n hg, allS_sub h.2⟩⟩⟩
    · obtain ⟨k, M, rfl, hk, g1, g2, g3⟩ := hI
      have : k = t.1.length := by omega
      subst this
      rw [List.take_length] at g3
      unfold inode_Right_l0
      simp only [nlt_dec (Nat.lt_irrefl _), cond_false]
      exact ⟨_, rfl, .inl ⟨rfl, fun i n h => g1 i n (List.getElem?_eq_some_iff.1 h).1 h, g3⟩⟩
  obtain ⟨o, ho, hq⟩ := loop
  rw [ho, Option.bind_some]
  rcases hq with ⟨rfl, q1, q2⟩ | ⟨rfl, q1⟩
  · have hlt : 0 < t.1.length := by omega
    obtain ⟨r, hg⟩ : ∃ r, t.1[0]? = some r := ⟨_, List.getElem?_eq_getElem hlt⟩
    simp only []
    rw [show idx? 0 t.1.length = some 0 from idx_nat hlt, Option.bind_some, hg, Option.bind_some]
    have hR : RightP t ↔ (r.2.2.1 = true ∧ r.2.2.2.1 = true ∧ r.2.2.2.2.2.2.1 = 1) := by
      constructor
      · intro h; obtain ⟨r', h1, h2⟩ := h.root; rw [hg] at h1; cases h1; exact h2
      · intro h; exact ⟨by omega, by omega, q1, q2, r, hg, h⟩
    rw [hR]
    cases r.2.2.1 with
    | false => exact ⟨false, rfl, by simp⟩
    | true => cases r.2.2.2.1 with
      | false => exact ⟨false, rfl, by simp⟩
      | true => exact ⟨_, rfl, by simp⟩
  · exact ⟨false, rfl, by simp; exact fun h => q1 ⟨h.ino, h.nod⟩⟩
end Go.Ab.D

/- Layer 18: the document's Right is the same. -/
namespace Go.Ab.D
open Go Go.Ab

theorem okEnts_get (many : Int) : ∀ (l : List Ent) (last : List UInt8), okEnts many last l ↔ ((∀ e, l[0]? = some e → Op.bytesLess last e.1 = true) ∧ (∀ (i : Nat) e, l[i]? = some e → 1 ≤ e.1.length ∧ e.1.length ≤ 30 ∧ 1 ≤ e.2 ∧ e.2 ≤ many) ∧ ∀ (i : Nat) e f, l[i]? = some e → l[i + 1]? = some f → Op.bytesLess e.1 f.1 = true)
  | [], last => by simp [okEnts]
  | a :: l, last => by
    rw [okEnts_cons, okEnts_get many l a.1]
    constructor
    · rintro ⟨h1, h2, h3, h4, h5, h6, h7, h8⟩
      refine ⟨fun e he => by simp at he; subst he; exact h3, fun i e he => ?_, fun i e f he hf => ?_⟩
      · cases i with
        | zero => simp at he; subst he; exact ⟨h1, h2, h4, h5⟩
        | succ i => exact h7 i e (by simpa using he)
      · cases i with
        | zero => simp at he; subst he; exact h6 f (by simpa using hf)
        | succ i => exact h8 i e f (by simpa using he) (by simpa using hf)
    · rintro ⟨h1, h2, h3⟩
      have h4 := h2 0 a (by simp)
      exact ⟨h4.1, h4.2.1, h1 a (by simp), h4.2.2.1, h4.2.2.2, fun e he => h3 0 a e (by simp) (by simpa using he), fun i e he => h2 (i + 1) e (by simpa using he), fun i e f he hf => h3 (i + 1) e f (by simpa using he) (by simpa using hf)⟩
theorem refEnts (t : Tree) (n : Ino) (hs : n.sm) : ∃ o, ref18_one_l0_it fuel t (0, n) = some o ∧ ((o = .inl () ∧ okEnts ((t.1.length : Nat) : Int) [] n.2.2.2.2.2.2.2) ∨ (o = .inr false ∧ ¬ okEnts ((t.1.length : Nat) : Int) [] n.2.2.2.2.2.2.2)) := by
  obtain ⟨id, gen, used, dir, size, parts, parent, l⟩ := n
  have hl : l.length ≤ 100000 := hs.2
  unfold ref18_one_l0_it
  dsimp only
  refine iter_ex (fun m s => ∃ (k : Nat), s = ((k : Int), (id, gen, used, dir, size, parts, parent, l)) ∧ k + m = l.length ∧ (∀ (i : Nat) e, i < k → l[i]? = some e → 1 ≤ e.1.length ∧ e.1.length ≤ 30 ∧ 1 ≤ e.2 ∧ e.2 ≤ ((t.1.length : Nat) : Int)) ∧ (∀ (i : Nat) e f, i + 1 < k → l[i]? = some e → l[i + 1]? = some f → Op.bytesLess e.1 f.1 = true)) _ (fun m s hI => ?_) (fun s hI => ?_) l.length _ (by omega) ⟨0, rfl, by omega, fun i e h => absurd h (Nat.not_lt_zero _), fun i e f h => absurd h (Nat.not_lt_zero _)⟩
  · obtain ⟨k, rfl, hk, g1, g2⟩ := hI
    have hlt : k < l.length := by omega
    obtain ⟨e, hg⟩ : ∃ e, l[k]? = some e := ⟨_, List.getElem?_eq_getElem hlt⟩
    have bad : ∀ (P : Prop), ((1 ≤ e.1.length ∧ e.1.length ≤ 30 ∧ 1 ≤ e.2 ∧ e.2 ≤ ((t.1.length : Nat) : Int)) → P) → (okEnts ((t.1.length : Nat) : Int) [] l → P) := fun P hP h => hP (((okEnts_get _ _ _).1 h).2.1 k e hg)
    unfold ref18_one_l0
    simp only [lt_dec hlt, cond_true]
    rw [idx_nat hlt, Option.bind_some, hg, Option.bind_some]
    by_cases h1 : e.1.length < 1
    · rw [show decide (((e.1.length : Nat) : Int) < 1) = true from by simp; omega]
      exact .inr ⟨_, rfl, .inr ⟨rfl, bad _ fun h => by omega⟩⟩
    rw [show decide (((e.1.length : Nat) : Int) < 1) = false from by simp; omega, cond_false]
    by_cases h2 : e.1.length > 30
    · rw [show decide (((e.1.length : Nat) : Int) > 30) = true from by simp; omega]
      exact .inr ⟨_, rfl, .inr ⟨rfl, bad _ fun h => by omega⟩⟩
    rw [show decide (((e.1.length : Nat) : Int) > 30) = false from by simp; omega, cond_false]
    have nums : ∀ (R : Option ((Int × Ino) ⊕ (Unit ⊕ Bool))), (∀ (i : Nat) e' f, i + 1 < k + 1 → l[i]? = some e' → l[i + 1]? = some f → Op.bytesLess e'.1 f.1 = true) → R = (Option.bind (α := (Bool × Ino)) (bif (decide (e.2 < 1)) then
                some (true, (id, gen, used, dir, size, parts, parent, l))
              else
                some ((decide (e.2 > ((t.1.length : Nat) : Int))), (id, gen, used, dir, size, parts, parent, l))) fun o4 =>
    bif o4.1 then
      some (.inr (.inr false))
    else
      some (.inl ((IntKind.wrap .i64 ((k : Int) + 1)), (o4.2.1, (o4.2.2.1, (o4.2.2.2.1, (o4.2.2.2.2.1, (o4.2.2.2.2.2.1, (o4.2.2.2.2.2.2.1, (o4.2.2.2.2.2.2.2.1, o4.2.2.2.2.2.2.2.2)))))))))) → 
      (∃ s', R = some (.inl s') ∧ ∃ (k' : Nat), s' = ((k' : Int), (id, gen, used, dir, size, parts, parent, l)) ∧ k' + m = l.length ∧ (∀ (i : Nat) e, i < k' → l[i]? = some e → 1 ≤ e.1.length ∧ e.1.length ≤ 30 ∧ 1 ≤ e.2 ∧ e.2 ≤ ((t.1.length : Nat) : Int)) ∧ (∀ (i : Nat) e f, i + 1 < k' → l[i]? = some e → l[i + 1]? = some f → Op.bytesLess e.1 f.1 = true)) ∨ ∃ o, R = some (.inr o) ∧ ((o = .inl () ∧ okEnts ((t.1.length : Nat) : Int) [] l) ∨ (o = .inr false ∧ ¬ okEnts ((t.1.length : Nat) : Int) [] l)) := by
      intro R hord hR
      by_cases h4 : e.2 < 1
      · rw [show decide (e.2 < 1) = true from by simp; omega] at hR
        exact .inr ⟨_, by rw [hR]; rfl, .inr ⟨rfl, bad _ fun h => by omega⟩⟩
      rw [show decide (e.2 < 1) = false from by simp; omega] at hR
      by_cases h5 : e.2 > ((t.1.length : Nat) : Int)
      · rw [show decide (e.2 > ((t.1.length : Nat) : Int)) = true from by simp; omega] at hR
        exact .inr ⟨_, by rw [hR]; rfl, .inr ⟨rfl, bad _ fun h => by omega⟩⟩
      rw [show decide (e.2 > ((t.1.length : Nat) : Int)) = false from by simp; omega, w64 (by omega)] at hR
      refine .inl ⟨_, by rw [hR]; rfl, k + 1, by simp, by omega, fun i e' hi he => ?_, hord⟩
      by_cases hik : i = k
      · subst hik; rw [hg] at he; cases he; omega
      · exact g1 i e' (by omega) he
    by_cases hk0 : 0 < k
    · rw [show decide ((k : Int) > 0) = true from by simp; omega, cond_true]
      have hk1 : k - 1 < l.length := by omega
      obtain ⟨e1, hg1⟩ : ∃ e1, l[k - 1]? = some e1 := ⟨_, List.getElem?_eq_getElem hk1⟩
      rw [show IntKind.wrap .i64 ((k : Int) - 1) = ((k - 1 : Nat) : Int) from by rw [w64 (by omega)]; omega, idx_nat hk1, Option.bind_some, hg1, Option.bind_some]
      cases h3 : Op.bytesLess e1.1 e.1 with
      | false =>
        refine .inr ⟨_, rfl, .inr ⟨rfl, fun h => ?_⟩⟩
        have := ((okEnts_get _ _ _).1 h).2.2 (k - 1) e1 e hg1 (by rw [Nat.sub_add_cancel hk0]; exact hg)
        rw [h3] at this; cases this
      | true =>
        refine nums _ (fun i e' f hi he hf => ?_) rfl
        by_cases hik : i + 1 = k
        · have : i = k - 1 := by omega
          subst this
          rw [hg1] at he; cases he
          rw [Nat.sub_add_cancel hk0, hg] at hf; cases hf
          exact h3
        · exact g2 i e' f (by omega) he hf
    · rw [show decide ((k : Int) > 0) = false from by simp; omega, cond_false]
      exact nums _ (fun i e' f hi he hf => by omega) rfl
  · obtain ⟨k, rfl, hk, g1, g2⟩ := hI
    have : k = l.length := by omega
    subst this
    unfold ref18_one_l0
    simp only [nlt_dec (Nat.lt_irrefl _), cond_false]
    refine ⟨_, rfl, .inl ⟨rfl, (okEnts_get _ _ _).2 ⟨fun e he => ?_, fun i e he => g1 i e (List.getElem?_eq_some_iff.1 he).1 he, fun i e f he hf => g2 i e f (List.getElem?_eq_some_iff.1 hf).1 he hf⟩⟩⟩
    exact bless_nil (g1 0 e (List.getElem?_eq_some_iff.1 he).1 he).1
theorem refParts (t : Tree) (n : Ino) (hs : n.sm) : ∃ o, ref18_one_l1_it fuel (0, (t.1, (t.2, n))) = some o ∧ ((o = .inl () ∧ ∀ p ∈ n.2.2.2.2.2.1, okPart t.2 p) ∨ (o = .inr false ∧ ¬ ∀ p ∈ n.2.2.2.2.2.1, okPart t.2 p)) := by
  obtain ⟨id, gen, used, dir, size, l, parent, ents⟩ := n
  obtain ⟨ts, st⟩ := t
  have hl : l.length ≤ 100000 := hs.1
  unfold ref18_one_l1_it
  dsimp only
  refine iter_ex (fun m s => ∃ (k : Nat), s = ((k : Int), (ts, (st, (id, gen, used, dir, size, l, parent, ents)))) ∧ k + m = l.length ∧ (∀ (i : Nat) p, i < k → l[i]? = some p → okPart st p)) _ (fun m s hI => ?_) (fun s hI => ?_) l.length _ (by omega) ⟨0, rfl, by omega, fun i e h => absurd h (Nat.not_lt_zero _)⟩
  · obtain ⟨k, rfl, hk, g1⟩ := hI
    have hlt : k < l.length := by omega
    obtain ⟨p, hg⟩ : ∃ e, l[k]? = some e := ⟨_, List.getElem?_eq_getElem hlt⟩
    have hm := List.mem_of_getElem? hg
    have next : okPart st p → ∀ (i : Nat) q, i < k + 1 → l[i]? = some q → okPart st q := fun h i q hi hq => by
      by_cases hik : i = k
      · subst hik; rw [hg] at hq; cases hq; exact h
      · exact g1 i q (by omega) hq
    unfold ref18_one_l1
    simp only [lt_dec hlt, cond_true]
    rw [idx_nat hlt, Option.bind_some, hg, Option.bind_some, w64 (by omega)]
    by_cases h0 : p.1 = 0 ∧ p.2 = 0
    · rw [show ((p.1 == 0) && (p.2 == 0)) = true from by simp [h0.1, h0.2]]
      exact .inl ⟨_, rfl, k + 1, by simp, by omega, next (.inl h0)⟩
    rw [show ((p.1 == 0) && (p.2 == 0)) = false from by
      cases hh : ((p.1 == 0) && (p.2 == 0)) with
      | false => rfl
      | true => simp at hh; exact absurd hh h0, cond_false]
    have bad : ¬ (1 ≤ p.1 ∧ p.1 ≤ st ∧ 1 ≤ p.2 ∧ p.2 ≤ 1099511627776) → ¬ ∀ p ∈ l, okPart st p := fun h h2 => by
      rcases h2 p hm with h3 | h3
      · exact h0 h3
      · exact h h3
    by_cases h1 : p.1 < 1
    · rw [show decide (p.1 < 1) = true from by simp; omega]
      exact .inr ⟨_, rfl, .inr ⟨rfl, bad (by omega)⟩⟩
    rw [show decide (p.1 < 1) = false from by simp; omega, cond_false]
    by_cases h2 : p.1 > st
    · rw [show decide (p.1 > st) = true from by simp; omega]
      exact .inr ⟨_, rfl, .inr ⟨rfl, bad (by omega)⟩⟩
    rw [show decide (p.1 > st) = false from by simp; omega, cond_false]
    by_cases h3 : p.2 < 1
    · rw [show decide (p.2 < 1) = true from by simp; omega]
      exact .inr ⟨_, rfl, .inr ⟨rfl, bad (by omega)⟩⟩
    rw [show decide (p.2 < 1) = false from by simp; omega, cond_false]
    by_cases h4 : p.2 > 1099511627776
    · rw [show decide (p.2 > 1099511627776) = true from by simp; omega]
      exact .inr ⟨_, rfl, .inr ⟨rfl, bad (by omega)⟩⟩
    rw [show decide (p.2 > 1099511627776) = false from by simp; omega]
    exact .inl ⟨_, rfl, k + 1, by simp, by omega, next (.inr (by omega))⟩
  · obtain ⟨k, rfl, hk, g1⟩ := hI
    have : k = l.length := by omega
    subst this
    unfold ref18_one_l1
    simp only [nlt_dec (Nat.lt_irrefl _), cond_false]
    refine ⟨_, rfl, .inl ⟨rfl, fun p hp => ?_⟩⟩
    obtain ⟨i, hi⟩ := List.getElem?_of_mem hp
    exact g1 i p (List.getElem?_eq_some_iff.1 hi).1 hi
theorem refOne (t : Tree) (n : Ino) (i : Nat) (hs : n.sm) (hid : n.1 = i + 1) : ∃ b, ref18_one fuel t n = some b ∧ (b = true ↔ okIno t.1.length t.2 i n) := by
  obtain ⟨o1, ho1, hq1⟩ := refEnts t n hs
  obtain ⟨o2, ho2, hq2⟩ := refParts t n hs
  obtain ⟨id, gen, used, dir, size, parts, parent, ents⟩ := n
  dsimp only at *
  unfold ref18_one
  dsimp only
  by_cases h1 : gen < 1
  · rw [show decide (gen < 1) = true from by simp; omega]
    exact ⟨false, rfl, by simp; intro h; have := h.gen; dsimp only at this; omega⟩
  rw [show decide (gen < 1) = false from by simp; omega, cond_false]
  by_cases h2 : gen > 1099511627776
  · rw [show decide (gen > 1099511627776) = true from by simp; omega]
    exact ⟨false, rfl, by simp; intro h; have := h.gen; dsimp only at this; omega⟩
  rw [show decide (gen > 1099511627776) = false from by simp; omega, Option.bind_some]
  simp only [cond_false]
  cases used with
  | false =>
    simp only [Bool.not_false, cond_true]
    cases dir with
    | true => exact ⟨false, rfl, by simp; intro h; have := h.bare rfl; simp at this⟩
    | false =>
      simp only [Bool.not_false, cond_true]
      by_cases h3 : size = 0
      · rw [show (size == 0) = true from by simp [h3], cond_true]
        by_cases h4 : parts = []
        · rw [show (((parts.length : Nat) : Int) == 0) = true from by simp [h4], cond_true]
          by_cases h5 : parent = 0
          · rw [show (parent == 0) = true from by simp [h5], cond_true]
            refine ⟨_, rfl, ?_⟩
            constructor
            · intro h
              have h6 : ents = [] := by simpa using h
              exact ⟨hid, ⟨by dsimp only; omega, by dsimp only; omega⟩, (fun h => by cases h), (fun h => by cases h), (fun h => by cases h), fun _ => ⟨rfl, h3, h5, h4, h6⟩⟩
            · intro h
              have := (h.bare rfl).2.2.2.2
              dsimp only at this
              simp [this]
          · rw [show (parent == 0) = false from by simp [h5]]
            exact ⟨false, rfl, by simp; intro h; exact h5 (h.bare rfl).2.2.1⟩
        · rw [show (((parts.length : Nat) : Int) == 0) = false from by simp [h4]]
          exact ⟨false, rfl, by simp; intro h; exact h4 (h.bare rfl).2.2.2.1⟩
      · rw [show (size == 0) = false from by simp [h3]]
        exact ⟨false, rfl, by simp; intro h; exact h3 (h.bare rfl).2.1⟩
  | true =>
    simp only [Bool.not_true, cond_false]
    by_cases h3 : parent < 1
    · rw [show decide (parent < 1) = true from by simp; omega]
      exact ⟨false, rfl, by simp; intro h; have := h.par rfl; dsimp only at this; omega⟩
    rw [show decide (parent < 1) = false from by simp; omega, cond_false]
    by_cases h4 : parent > ((t.1.length : Nat) : Int)
    · rw [show decide (parent > ((t.1.length : Nat) : Int)) = true from by simp; omega]
      exact ⟨false, rfl, by simp; intro h; have := h.par rfl; dsimp only at this; omega⟩
    rw [show decide (parent > ((t.1.length : Nat) : Int)) = false from by simp; omega, Option.bind_some]
    simp only [cond_false]
    cases dir with
    | true =>
      simp only [cond_true]
      by_cases h5 : size = 0
      · rw [show (size == 0) = true from by simp [h5]]
        by_cases h6 : parts = []
        · rw [show (((parts.length : Nat) : Int) == 0) = true from by simp [h6]]
          by_cases h7 : ents.length > 100
          · rw [show decide (((ents.length : Nat) : Int) > 100) = true from by simp; omega]
            exact ⟨false, rfl, by simp; intro h; have := (h.dir rfl rfl).2.2.1; dsimp only at this; omega⟩
          rw [show decide (((ents.length : Nat) : Int) > 100) = false from by simp; omega]
          simp only [Bool.not_true, cond_false, Option.bind_some, ho1]
          rcases hq1 with ⟨rfl, hq⟩ | ⟨rfl, hq⟩
          · refine ⟨true, rfl, by simp; exact ⟨hid, ⟨by dsimp only; omega, by dsimp only; omega⟩, (fun _ => ⟨by dsimp only; omega, by dsimp only; omega⟩), (fun _ _ => ⟨h5, h6, by dsimp only; omega, hq⟩), (fun _ h => by cases h), (fun h => by cases h)⟩⟩
          · exact ⟨false, rfl, by simp; intro h; exact hq (h.dir rfl rfl).2.2.2⟩
        · rw [show (((parts.length : Nat) : Int) == 0) = false from by simp [h6]]
          exact ⟨false, rfl, by simp; intro h; exact h6 (h.dir rfl rfl).2.1⟩
      · rw [show (size == 0) = false from by simp [h5]]
        exact ⟨false, rfl, by simp; intro h; exact h5 (h.dir rfl rfl).1⟩
    | false =>
      simp only [cond_false]
      by_cases h5 : size < 0
      · rw [show decide (size < 0) = true from by simp; omega]
        exact ⟨false, rfl, by simp; intro h; have := (h.file rfl rfl).1; dsimp only at this; omega⟩
      rw [show decide (size < 0) = false from by simp; omega, cond_false]
      by_cases h6 : size > 65536
      · rw [show decide (size > 65536) = true from by simp; omega]
        exact ⟨false, rfl, by simp; intro h; have := (h.file rfl rfl).1; dsimp only at this; omega⟩
      rw [show decide (size > 65536) = false from by simp; omega, cond_false]
      by_cases h7 : parts.length > 4096
      · rw [show decide (((parts.length : Nat) : Int) > 4096) = true from by simp; omega]
        exact ⟨false, rfl, by simp; intro h; have := (h.file rfl rfl).2.2.1; dsimp only at this; omega⟩
      rw [show decide (((parts.length : Nat) : Int) > 4096) = false from by simp; omega, cond_false]
      by_cases h8 : ents = []
      · rw [show (((ents.length : Nat) : Int) == 0) = true from by simp [h8]]
        simp only [Bool.not_true, cond_false, Option.bind_some, ho2]
        rcases hq2 with ⟨rfl, hq⟩ | ⟨rfl, hq⟩
        · refine ⟨true, rfl, by simp only [true_iff]; exact ⟨hid, ⟨by dsimp only; omega, by dsimp only; omega⟩, (fun _ => ⟨by dsimp only; omega, by dsimp only; omega⟩), (fun _ h => by cases h), (fun _ _ => ⟨⟨by dsimp only; omega, by dsimp only; omega⟩, h8, by dsimp only; omega, hq⟩), (fun h => by cases h)⟩⟩
        · exact ⟨false, rfl, by simp only [Bool.false_eq_true, false_iff]; intro h; exact hq (h.file rfl rfl).2.2.2⟩
      · rw [show (((ents.length : Nat) : Int) == 0) = false from by simp [h8]]
        exact ⟨false, rfl, by simp only [Bool.false_eq_true, false_iff]; intro h; exact h8 (h.file rfl rfl).2.1⟩
end Go.Ab.D

/- Layer 18: the document's Right, whole. -/
namespace Go.Ab.D
open Go Go.Ab

abbrev RS := List Ino × Int × List Int
/-- The inner loop: is a stripe among those seen? -/
theorem refSeen (k : Nat) (l : List Ino) (st : Int) (S : List Int) (n : Ino) (p : Part) (hS : S.length ≤ 1000000000) (hp : n.2.2.2.2.2.1[k]? = some p) :
    ∃ o, ref18_Right_l0_it fuel (k : Int) (0, (l, (st, (S, n)))) = some o ∧ ((o = .inl (l, (st, (S, n))) ∧ p.1 ∉ S) ∨ (o = .inr (.inr (.inr (.inr (.inr (.inr false))))) ∧ p.1 ∈ S)) := by
  obtain ⟨id, gen, used, dir, size, parts, parent, ents⟩ := n
  dsimp only at hp
  have hk : k < parts.length := (List.getElem?_eq_some_iff.1 hp).1
  unfold ref18_Right_l0_it
  refine iter_ex (fun m s => ∃ (j : Nat), s = ((j : Int), (l, (st, (S, (id, gen, used, dir, size, parts, parent, ents))))) ∧ j + m = S.length ∧ ∀ (i : Nat) x, i < j → S[i]? = some x → x ≠ p.1) _ (fun m s hI => ?_) (fun s hI => ?_) S.length _ (by omega) ⟨0, rfl, by omega, fun i x h => absurd h (Nat.not_lt_zero _)⟩
  · obtain ⟨j, rfl, hj, g1⟩ := hI
    have hlt : j < S.length := by omega
    obtain ⟨x, hx⟩ : ∃ x, S[j]? = some x := ⟨_, List.getElem?_eq_getElem hlt⟩
    unfold ref18_Right_l0
    simp only [lt_dec hlt, cond_true]
    rw [idx_nat hlt, Option.bind_some, hx, Option.bind_some, idx_nat hk, Option.bind_some, hp, Option.bind_some, w64 (by omega)]
    by_cases hxp : x = p.1
    · rw [show (x == p.1) = true from by simp [hxp]]
      exact .inr ⟨_, rfl, .inr ⟨rfl, hxp ▸ List.mem_of_getElem? hx⟩⟩
    · rw [show (x == p.1) = false from by simp [hxp]]
      refine .inl ⟨_, rfl, j + 1, by simp, by omega, fun i y hi hy => ?_⟩
      by_cases hij : i = j
      · subst hij; rw [hx] at hy; cases hy; exact hxp
      · exact g1 i y (by omega) hy
  · obtain ⟨j, rfl, hj, g1⟩ := hI
    have : j = S.length := by omega
    subst this
    unfold ref18_Right_l0
    simp only [nlt_dec (Nat.lt_irrefl _), cond_false]
    refine ⟨_, rfl, .inl ⟨rfl, fun hm => ?_⟩⟩
    obtain ⟨i, hi⟩ := List.getElem?_of_mem hm
    exact g1 i _ (List.getElem?_eq_some_iff.1 hi).1 hi rfl
/-- The parts of one inode are looked at. -/
theorem refParts2 (l : List Ino) (st : Int) (S : List Int) (n : Ino) (hs : n.sm) (hS : S.length ≤ 500000000) (hn : S.Nodup) :
    ∃ o, ref18_Right_l1_it fuel (0, (l, (st, (S, n)))) = some o ∧ ((o = .inl (l, (st, S ++ stripes n.2.2.2.2.2.1)) ∧ (S ++ stripes n.2.2.2.2.2.1).Nodup) ∨ (o = .inr (.inr (.inr false)) ∧ ¬(S ++ stripes n.2.2.2.2.2.1).Nodup)) := by
  obtain ⟨id, gen, used, dir, size, parts, parent, ents⟩ := n
  have hl : parts.length ≤ 100000 := hs.1
  have hst : ∀ k, (stripes (parts.take k)).length ≤ 100000 := fun k => by
    unfold stripes
    rw [List.length_map]
    have h1 := List.length_filter_le (fun p : Part => p.1 != 0) (parts.take k)
    have h2 : (parts.take k).length ≤ parts.length := by rw [List.length_take]; omega
    omega
  unfold ref18_Right_l1_it
  dsimp only
  refine iter_ex (fun m s => ∃ (k : Nat), s = ((k : Int), (l, (st, (S ++ stripes (parts.take k), (id, gen, used, dir, size, parts, parent, ents))))) ∧ k + m = parts.length ∧ (S ++ stripes (parts.take k)).Nodup) _ (fun m s hI => ?_) (fun s hI => ?_) parts.length _ (by omega) ⟨0, by simp [stripes], by omega, by simpa [stripes] using hn⟩
  · obtain ⟨k, rfl, hk, g1⟩ := hI
    have hlt : k < parts.length := by omega
    obtain ⟨p, hg⟩ : ∃ p, parts[k]? = some p := ⟨_, List.getElem?_eq_getElem hlt⟩
    have ht : parts.take (k + 1) = parts.take k ++ [p] := by rw [List.take_succ, hg]; rfl
    unfold ref18_Right_l1
    simp only [lt_dec hlt, cond_true]
    rw [idx_nat hlt, Option.bind_some, hg, Option.bind_some, w64 (by omega)]
    by_cases h0 : p.1 = 0
    · rw [show (p.1 == 0) = true from by simp [h0]]
      refine .inl ⟨_, rfl, k + 1, ?_, by omega, ?_⟩
      · rw [ht, stripes_append, stripes_one0 h0, List.append_nil]
        simp
      · rw [ht, stripes_append, stripes_one0 h0, List.append_nil]
        exact g1
    · rw [show (p.1 == 0) = false from by simp [h0], cond_false]
      have hSl : (S ++ stripes (parts.take k)).length ≤ 1000000000 := by have := hst k; rw [List.length_append]; omega
      obtain ⟨o, ho, hq⟩ := refSeen k l st (S ++ stripes (parts.take k)) (id, gen, used, dir, size, parts, parent, ents) p hSl hg
      rw [ho, Option.bind_some]
      rcases hq with ⟨rfl, hq⟩ | ⟨rfl, hq⟩
      · simp only []
        rw [idx_nat hlt, Option.bind_some, hg, Option.bind_some, need_true]
        · refine .inl ⟨_, rfl, k + 1, ?_, by omega, ?_⟩
          · rw [ht, stripes_append, stripes_one h0]
            simp
          · rw [ht, stripes_append, stripes_one h0, ← List.append_assoc]
            refine List.nodup_append.2 ⟨g1, by simp, fun a ha b hb => ?_⟩
            simp at hb; subst hb
            exact fun e => hq (e ▸ ha)
        · simp only [Bool.and_eq_true, Nat.ble_eq, roomIs]; omega
      · refine .inr ⟨_, rfl, .inr ⟨rfl, fun h => ?_⟩⟩
        have h5 : (S ++ stripes (parts.take (k + 1))).Nodup := by
          have : parts = parts.take (k + 1) ++ parts.drop (k + 1) := (List.take_append_drop _ _).symm
          rw [this, stripes_append, ← List.append_assoc] at h
          exact (List.nodup_append.1 h).1
        rw [ht, stripes_append, ← List.append_assoc, stripes_one h0] at h5
        exact (List.nodup_append.1 h5).2.2 _ hq _ (by simp) rfl
  · obtain ⟨k, rfl, hk, g1⟩ := hI
    have : k = parts.length := by omega
    subst this
    rw [List.take_length] at g1
    unfold ref18_Right_l1
    simp only [nlt_dec (Nat.lt_irrefl _), cond_false, List.take_length]
    exact ⟨_, rfl, .inl ⟨rfl, g1⟩⟩
theorem allS_len : ∀ (l : List Ino), (∀ n ∈ l, Ino.sm n) → (allStripes l).length ≤ l.length * 100000
  | [], _ => by simp [allStripes]
  | n :: l, h => by
    have ih := allS_len l fun m hm => h m (by simp [hm])
    have h1 := (h n (by simp)).1
    have h2 : (stripes n.2.2.2.2.2.1).length ≤ 100000 := by
      unfold stripes
      rw [List.length_map]
      have h1 := List.length_filter_le (fun p : Part => p.1 != 0) n.2.2.2.2.2.1
      omega
    have : allStripes (n :: l) = stripes n.2.2.2.2.2.1 ++ allStripes l := by simp [allStripes]
    rw [this, List.length_append, List.length_cons, Nat.add_mul]
    omega
theorem refRight_ok {t : Tree} (hf : Fit t.1) : ∃ b, ref18_Right fuel t = some b ∧ (b = true ↔ RightP t) := by
  unfold ref18_Right
  have hn := hf.n
  by_cases h1 : t.1.length < 1
  · rw [show decide (((t.1.length : Nat) : Int) < 1) = true from by simp; omega]
    exact ⟨false, rfl, by simp; intro h; have := h.len; omega⟩
  rw [show decide (((t.1.length : Nat) : Int) < 1) = false from by simp; omega, cond_false]
  by_cases h2 : t.1.length > 500
  · rw [show decide (((t.1.length : Nat) : Int) > 500) = true from by simp; omega]
    exact ⟨false, rfl, by simp; intro h; have := h.len; omega⟩
  rw [show decide (((t.1.length : Nat) : Int) > 500) = false from by simp; omega, cond_false]
  by_cases h3 : t.2 < 0
  · rw [show decide (t.2 < 0) = true from by simp; omega]
    exact ⟨false, rfl, by simp; intro h; have := h.str; omega⟩
  rw [show decide (t.2 < 0) = false from by simp; omega, cond_false]
  by_cases h4 : t.2 > 1099511627776
  · rw [show decide (t.2 > 1099511627776) = true from by simp; omega]
    exact ⟨false, rfl, by simp; intro h; have := h.str; omega⟩
  rw [show decide (t.2 > 1099511627776) = false from by simp; omega, Option.bind_some]
  simp only [cond_false]
  have loop : ∃ o, ref18_Right_l2_it fuel (0, (t.1, (t.2, []))) = some o ∧ ((o = .inl (t.1, t.2) ∧ (∀ i n, t.1[i]? = some n → okIno t.1.length t.2 i n) ∧ (allStripes t.1).Nodup) ∨ (o = .inr false ∧ ¬((∀ i n, t.1[i]? = some n → okIno t.1.length t.2 i n) ∧ (allStripes t.1).Nodup))) := by
    unfold ref18_Right_l2_it
    refine iter_ex (fun m s => ∃ (k : Nat), s = ((k : Int), (t.1, (t.2, allStripes (t.1.take k)))) ∧ k + m = t.1.length ∧ (∀ i n, i < k → t.1[i]? = some n → okIno t.1.length t.2 i n) ∧ (allStripes (t.1.take k)).Nodup) _ (fun m s hI => ?_) (fun s hI => ?_) t.1.length _ (by omega) ⟨0, by simp [allStripes], by omega, fun i n h => absurd h (Nat.not_lt_zero _), by simp [allStripes]⟩
    · obtain ⟨k, rfl, hk, g1, g3⟩ := hI
      have hlt : k < t.1.length := by omega
      obtain ⟨n, hg⟩ : ∃ n, t.1[k]? = some n := ⟨_, List.getElem?_eq_getElem hlt⟩
      have hsm := hf.at hg
      have hSl : (allStripes (t.1.take k)).length ≤ 500000000 := by
        have h5 := allS_len (t.1.take k) fun m hm => hf.s m (List.mem_of_mem_take hm)
        have h6 : (t.1.take k).length ≤ 500 := by rw [List.length_take]; omega
        have h7 := Nat.mul_le_mul_right 100000 h6
        omega
      obtain ⟨o, ho, hq⟩ := refParts2 t.1 t.2 (allStripes (t.1.take k)) n hsm hSl g3
      unfold ref18_Right_l2
      simp only [lt_dec hlt, cond_true]
      rw [idx_nat hlt, Option.bind_some, hg, Option.bind_some, w64 (by omega)]
      by_cases hid : n.1 = (k : Int) + 1
      · rw [show (n.1 == ((k : Int) + 1)) = true from by simp [hid]]
        obtain ⟨b, hb, hb'⟩ := refOne t n k hsm hid
        simp only [Bool.not_true, cond_false]
        rw [show ref18_one fuel (t.1, t.2) (n.1, (n.2.1, (n.2.2.1, (n.2.2.2.1, (n.2.2.2.2.1, (n.2.2.2.2.2.1, (n.2.2.2.2.2.2.1, n.2.2.2.2.2.2.2))))))) = some b from hb, Option.bind_some, Option.bind_some]
        cases b with
        | false =>
          refine .inr ⟨_, rfl, .inr ⟨rfl, fun h => ?_⟩⟩
          have := hb'.2 (h.1 k n hg); cases this
        | true =>
          simp only [Bool.not_true, cond_false]
          rw [show ref18_Right_l1_it fuel (0, (t.1, (t.2, (allStripes (t.1.take k), (n.1, (n.2.1, (n.2.2.1, (n.2.2.2.1, (n.2.2.2.2.1, (n.2.2.2.2.2.1, (n.2.2.2.2.2.2.1, n.2.2.2.2.2.2.2)))))))))) ) = some o from ho, Option.bind_some]
          rw [← allS_take_succ hg] at hq
          rcases hq with ⟨rfl, hq⟩ | ⟨rfl, hq⟩
          · refine .inl ⟨_, rfl, k + 1, by simp, by omega, fun i n' hi hgi => ?_, hq⟩
            by_cases hik : i = k
            · subst hik; rw [hg] at hgi; cases hgi; exact hb'.1 rfl
            · exact g1 i n' (by omega) hgi
          · exact .inr ⟨_, rfl, .inr ⟨rfl, fun h => hq (allS_sub h.2)⟩⟩
      · rw [show (n.1 == ((k : Int) + 1)) = false from by simp [hid]]
        exact .inr ⟨_, rfl, .inr ⟨rfl, fun h => hid (h.1 k n hg).id⟩⟩
    · obtain ⟨k, rfl, hk, g1, g3⟩ := hI
      have : k = t.1.length := by omega
      subst this
      rw [List.take_length] at g3
      unfold ref18_Right_l2
      simp only [nlt_dec (Nat.lt_irrefl _), cond_false]
      exact ⟨_, rfl, .inl ⟨rfl, fun i n h => g1 i n (List.getElem?_eq_some_iff.1 h).1 h, g3⟩⟩
  obtain ⟨o, ho, hq⟩ := loop
  rw [ho, Option.bind_some]
  rcases hq with ⟨rfl, q1, q2⟩ | ⟨rfl, q1⟩
  · have hlt : 0 < t.1.length := by omega
    obtain ⟨r, hg⟩ : ∃ r, t.1[0]? = some r := ⟨_, List.getElem?_eq_getElem hlt⟩
    simp only []
    rw [show idx? 0 t.1.length = some 0 from idx_nat hlt, Option.bind_some, hg, Option.bind_some]
    have hR : RightP t ↔ (r.2.2.1 = true ∧ r.2.2.2.1 = true ∧ r.2.2.2.2.2.2.1 = 1) := by
      constructor
      · intro h; obtain ⟨r', h1, h2⟩ := h.root; rw [hg] at h1; cases h1; exact h2
      · intro h; exact ⟨by omega, by omega, q1, q2, r, hg, h⟩
    rw [hR]
    cases r.2.2.1 with
    | false => exact ⟨false, rfl, by simp⟩
    | true => cases r.2.2.2.1 with
      | false => exact ⟨false, rfl, by simp⟩
      | true => exact ⟨_, rfl, by simp⟩
  · exact ⟨false, rfl, by simp; exact fun h => q1 ⟨h.ino, h.nod⟩⟩
/-- Is a table right? -/
noncomputable def rightB (t : Tree) : Bool := @decide (RightP t) (Classical.propDecidable _)
theorem rightB_iff {t : Tree} : rightB t = true ↔ RightP t := by simp [rightB]
theorem inoRight {t : Tree} (hf : Fit t.1) : inode_Right fuel t = some (rightB t) := by
  obtain ⟨b, hb, hb'⟩ := right_ok hf
  rw [hb, show b = rightB t from Bool.eq_iff_iff.2 (hb'.trans rightB_iff.symm)]
theorem refRight {t : Tree} (hf : Fit t.1) : ref18_Right fuel t = some (rightB t) := by
  obtain ⟨b, hb, hb'⟩ := refRight_ok hf
  rw [hb, show b = rightB t from Bool.eq_iff_iff.2 (hb'.trans rightB_iff.symm)]
end Go.Ab.D

/- Plain words for the loops of slices.IndexFunc and slices.DeleteFunc. -/
namespace Go.Ab
theorem filter_snoc {α : Type} (p : α → Bool) (A : List α) (d : α) : (A ++ [d]).filter p = A.filter p ++ (if p d = true then [d] else []) := by
  rw [List.filter_append]
  cases h : p d <;> simp [h]
/-- The loop of slices.DeleteFunc, from behind the first one that goes. -/
theorem del_loop {α : Type} (p : α → Bool) (L : List α) (n : Nat) (hn : n < L.length) (hL : L.length ≤ 1000000000000) (h1 : p L[n] = true) (h2 : ∀ j (hj : j < n), p L[j] = false)
    (f : Int × (Int × List α) → Option ((Int × (Int × List α)) ⊕ (Int × List α)))
    (hs : ∀ (i j : Nat) (h : List α) x, i < j → j < h.length → h.length ≤ 1000000000000 → h[j]? = some x → f ((i : Int), ((j : Int), h)) = some (.inl (if p x = true then ((i : Int), (((j + 1 : Nat) : Int), h)) else (((i + 1 : Nat) : Int), (((j + 1 : Nat) : Int), h.set i x)))))
    (he : ∀ (i : Nat) (h : List α), f ((i : Int), (((h.length : Nat) : Int), h)) = some (.inr ((i : Int), h))) :
    ∃ h', iter fuel f ((n : Int), (((n + 1 : Nat) : Int), L)) = some ((((L.filter fun x => !p x).length : Nat) : Int), h') ∧ h'.length = L.length ∧ h'.take (L.filter fun x => !p x).length = L.filter fun x => !p x := by
  have first : (L.take (n + 1)).filter (fun x => !p x) = L.take n := by
    rw [List.take_succ_eq_append_getElem hn, filter_snoc]
    simp only [h1, Bool.not_true, Bool.false_eq_true, if_false, List.append_nil]
    rw [List.filter_eq_self]
    intro d hd
    obtain ⟨j, hj, rfl⟩ := List.getElem_of_mem hd
    have hj' : j < n := by simp at hj; omega
    have := h2 j hj'
    simpa using this
  have := iter_ex (f := f) (fun m s => ∃ (i j : Nat) (h : List α), s = ((i : Int), ((j : Int), h)) ∧ j + m = L.length ∧ i < j ∧ h.length = L.length ∧ i = ((L.take j).filter fun x => !p x).length ∧ h.take i = (L.take j).filter (fun x => !p x) ∧ ∀ k, j ≤ k → h[k]? = L[k]?)
    (fun o => ∃ h', o = ((((L.filter fun x => !p x).length : Nat) : Int), h') ∧ h'.length = L.length ∧ h'.take (L.filter fun x => !p x).length = L.filter fun x => !p x) (fun m s hI => ?_) (fun s hI => ?_) (L.length - (n + 1)) ((n : Int), (((n + 1 : Nat) : Int), L)) (by omega)
    ⟨n, n + 1, L, rfl, by omega, by omega, rfl, by rw [first, List.length_take]; omega, by rw [first], fun k _ => rfl⟩
  · obtain ⟨o, ho, h', rfl, e1, e2⟩ := this
    exact ⟨h', ho, e1, e2⟩
  · obtain ⟨i, j, h, rfl, g1, g2, g3, g4, g5, g6⟩ := hI
    have hj : j < L.length := by omega
    have hx : h[j]? = some L[j] := by rw [g6 j (Nat.le_refl _), List.getElem?_eq_getElem hj]
    left
    have ht : L.take (j + 1) = L.take j ++ [L[j]] := List.take_succ_eq_append_getElem hj
    rw [hs i j h _ g2 (by omega) (by omega) hx]
    cases hp : p L[j] with
    | true =>
      rw [if_pos rfl]
      refine ⟨_, rfl, i, j + 1, h, rfl, by omega, by omega, g3, ?_, ?_, fun k hk => g6 k (by omega)⟩
      · rw [ht, filter_snoc]; simp [hp, g4]
      · rw [ht, filter_snoc, g5]; simp [hp]
    | false =>
      rw [if_neg (by simp)]
      have hi : i < h.length := by omega
      refine ⟨_, rfl, i + 1, j + 1, h.set i L[j], rfl, by omega, by omega, by simpa using g3, ?_, ?_, fun k hk => by rw [List.getElem?_set_ne (by omega)]; exact g6 k (by omega)⟩
      · rw [ht, filter_snoc]; simp [hp, g4]
      · rw [ht, filter_snoc, List.take_succ_eq_append_getElem (by simpa using hi), List.getElem_set_self, List.take_set_of_le (Nat.le_refl _), g5]
        simp [hp]
  · obtain ⟨i, j, h, rfl, g1, g2, g3, g4, g5, g6⟩ := hI
    have hj : j = h.length := by omega
    subst hj
    have htk : L.take h.length = L := by rw [g3]; exact List.take_length
    rw [htk] at g4 g5
    subst g4
    exact ⟨_, he _ h, h, rfl, g3, g5⟩
/-- The loop of slices.IndexFunc. -/
theorem idx_loop {α : Type} (p : α → Bool) (L : List α) (hL : L.length ≤ 1000000000000) (f : Int → Option (Int ⊕ (Unit ⊕ Int)))
    (hs : ∀ (i : Nat) x, L[i]? = some x → f (i : Int) = some (if p x = true then .inr (.inr (i : Int)) else .inl ((i + 1 : Nat) : Int)))
    (he : f ((L.length : Nat) : Int) = some (.inr (.inl ()))) :
    iter fuel f 0 = some (match L.findIdx? p with | some n => .inr (n : Int) | none => .inl ()) := by
  have := iter_ex (f := f) (fun m s => ∃ (i : Nat), s = (i : Int) ∧ i + m = L.length ∧ ∀ k, k < i → ∀ x, L[k]? = some x → p x = false)
    (fun o => o = (match L.findIdx? p with | some n => .inr (n : Int) | none => .inl ())) (fun m s hI => ?_) (fun s hI => ?_) L.length 0 (by omega) ⟨0, rfl, by omega, fun k h => absurd h (Nat.not_lt_zero _)⟩
  · obtain ⟨o, ho, rfl⟩ := this; exact ho
  · obtain ⟨i, rfl, g1, g2⟩ := hI
    have hi : i < L.length := by omega
    have hx : L[i]? = some L[i] := List.getElem?_eq_getElem hi
    rw [hs i _ hx]
    cases hp : p L[i] with
    | true =>
      right
      refine ⟨_, by rw [if_pos rfl], ?_⟩
      have : L.findIdx? p = some i := List.findIdx?_eq_some_iff_getElem.2 ⟨hi, hp, fun j hj => by simpa using g2 j hj _ (List.getElem?_eq_getElem (by omega))⟩
      rw [this]
    | false =>
      left
      refine ⟨_, by rw [if_neg (by simp)], i + 1, rfl, by omega, fun k hk x hx' => ?_⟩
      by_cases hki : k = i
      · subst hki; rw [hx] at hx'; cases hx'; exact hp
      · exact g2 k (by omega) x hx'
  · obtain ⟨i, rfl, g1, g2⟩ := hI
    have : i = L.length := by omega
    subst this
    refine ⟨_, he, ?_⟩
    have : L.findIdx? p = none := List.findIdx?_eq_none_iff.2 fun x hx => by
      obtain ⟨k, hk⟩ := List.getElem?_of_mem hx
      exact g2 k (List.getElem?_eq_some_iff.1 hk).1 x hk
    rw [this]
end Go.Ab

/- Layer 18: what each call makes of a table. -/
namespace Go.Ab.D
open Go Go.Ab

def taken (n : Ino) (dir : Bool) (parent : Int) : Ino := (n.1, n.2.1 + 1, true, dir, n.2.2.2.2.1, n.2.2.2.2.2.1, parent, n.2.2.2.2.2.2.2)
def freeAt (l : List Ino) : Option Nat := l.findIdx? fun n => !n.2.2.1
/-- Alloc. -/
noncomputable def allocS (t : Tree) (dir : Bool) (parent : Int) : Tree × (Int × Int) × Int :=
  if rightB t = false then (t, (0, 0), 180) else
  if isB t.1 parent true = false then (t, (0, 0), 2) else
  match freeAt t.1 with
  | none => if 500 ≤ t.1.length then (t, (0, 0), 5) else ((t.1 ++ [taken ((t.1.length : Int) + 1, 0, false, false, 0, [], 0, []) dir parent], t.2), ((t.1.length : Int) + 1, 1), 0)
  | some i => match t.1[i]? with
    | none => (t, (0, 0), 5)
    | some n => if 1099511627776 ≤ n.2.1 then (t, (0, 0), 5) else ((t.1.set i (taken n dir parent), t.2), (n.1, n.2.1 + 1), 0)
def outA (r : Tree × (Int × Int) × Int) : Int × Int × Int × Int × List Ino := (r.1.2, r.2.1.1, r.2.1.2, r.2.2, r.1.1)
theorem freeIdx {l : List Ino} (hl : l.length ≤ 100000) : slices_IndexFunc__api_Inode_api_Inode_f11 fuel l = some (match freeAt l with | some n => (n : Int) | none => -1) := by
  unfold slices_IndexFunc__api_Inode_api_Inode_f11 slices_IndexFunc__api_Inode_api_Inode_f11_l0_it
  have e : iter fuel (fun tt => slices_IndexFunc__api_Inode_api_Inode_f11_l0 fuel l tt) 0 = _ := idx_loop (fun n : Ino => !n.2.2.1) l (by omega) (fun tt => slices_IndexFunc__api_Inode_api_Inode_f11_l0 fuel l tt) (fun i x hx => by
    unfold slices_IndexFunc__api_Inode_api_Inode_f11_l0 inode_Alloc_1
    have hlt := (List.getElem?_eq_some_iff.1 hx).1
    simp only [lt_dec hlt, cond_true]
    rw [idx_nat hlt, Option.bind_some, hx, Option.bind_some, Option.bind_some, w64 (by omega)]
    cases x.2.2.1 <;> rfl) (by
    unfold slices_IndexFunc__api_Inode_api_Inode_f11_l0
    simp only [nlt_dec (Nat.lt_irrefl _), cond_false])
  rw [e, Option.bind_some]
  unfold freeAt
  cases l.findIdx? (fun n : Ino => !n.2.2.1) <;> rfl
theorem set_get {α : Type} {l : List α} {i : Nat} (h : i < l.length) (x : α) : (l.set i x)[i]? = some x := by simp [h]
/-- The stores that take a place. -/
theorem take_ok (l : List Ino) (st : Int) (i : Nat) (n : Ino) (dir : Bool) (parent : Int) (hn : l[i]? = some n) (hg : 0 ≤ n.2.1 ∧ n.2.1 < 1099511627776) :
    ((idx? (i : Int) l.length).bind fun q1 =>
          (l)[q1]?.bind fun r5 =>
          (l)[q1]?.bind fun r6 =>
          ((List.set l q1 (r6.1, ((IntKind.wrap .i64 (r5.2.1 + 1)), r6.2.2))))[q1]?.bind fun r7 =>
          ((List.set (List.set l q1 (r6.1, ((IntKind.wrap .i64 (r5.2.1 + 1)), r6.2.2))) q1 (r7.1, (r7.2.1, (true, r7.2.2.2)))))[q1]?.bind fun r8 =>
          ((List.set (List.set (List.set l q1 (r6.1, ((IntKind.wrap .i64 (r5.2.1 + 1)), r6.2.2))) q1 (r7.1, (r7.2.1, (true, r7.2.2.2)))) q1 (r8.1, (r8.2.1, (r8.2.2.1, (dir, r8.2.2.2.2))))))[q1]?.bind fun r9 =>
          ((List.set (List.set (List.set (List.set l q1 (r6.1, ((IntKind.wrap .i64 (r5.2.1 + 1)), r6.2.2))) q1 (r7.1, (r7.2.1, (true, r7.2.2.2)))) q1 (r8.1, (r8.2.1, (r8.2.2.1, (dir, r8.2.2.2.2))))) q1 (r9.1, (r9.2.1, (r9.2.2.1, (r9.2.2.2.1, (r9.2.2.2.2.1, (r9.2.2.2.2.2.1, (parent, r9.2.2.2.2.2.2.2)))))))))[q1]?.bind fun r10 =>
          ((List.set (List.set (List.set (List.set l q1 (r6.1, ((IntKind.wrap .i64 (r5.2.1 + 1)), r6.2.2))) q1 (r7.1, (r7.2.1, (true, r7.2.2.2)))) q1 (r8.1, (r8.2.1, (r8.2.2.1, (dir, r8.2.2.2.2))))) q1 (r9.1, (r9.2.1, (r9.2.2.1, (r9.2.2.2.1, (r9.2.2.2.2.1, (r9.2.2.2.2.2.1, (parent, r9.2.2.2.2.2.2.2)))))))))[q1]?.bind fun r11 =>
          some (st, (r10.1, (r11.2.1, ((0 : Int), (List.set (List.set (List.set (List.set l q1 (r6.1, ((IntKind.wrap .i64 (r5.2.1 + 1)), r6.2.2))) q1 (r7.1, (r7.2.1, (true, r7.2.2.2)))) q1 (r8.1, (r8.2.1, (r8.2.2.1, (dir, r8.2.2.2.2))))) q1 (r9.1, (r9.2.1, (r9.2.2.1, (r9.2.2.2.1, (r9.2.2.2.2.1, (r9.2.2.2.2.2.1, (parent, r9.2.2.2.2.2.2.2)))))))))))))
      = some (st, (n.1, (n.2.1 + 1, ((0 : Int), l.set i (taken n dir parent))))) := by
  have hlt := (List.getElem?_eq_some_iff.1 hn).1
  have hw : IntKind.wrap .i64 (n.2.1 + 1) = n.2.1 + 1 := w64 (by omega)
  rw [idx_nat hlt]
  simp only [Option.bind_some, hn, hw, List.set_set, set_get hlt]
  rfl
theorem inoAlloc {t : Tree} (hf : Fit t.1) (dir : Bool) (parent : Int) : inode_Alloc fuel t dir parent = some (outA (allocS t dir parent)) := by
  have hn := hf.n
  unfold inode_Alloc allocS
  rw [show inode_copied fuel (t.1, t.2) = some (t.2, t.1) from copied_ok hf, Option.bind_some, show inode_Right fuel (t.1, t.2) = some (rightB t) from inoRight hf, Option.bind_some]
  cases hr : rightB t with
  | false => rfl
  | true =>
    have hR := rightB_iff.1 hr
    simp only [Bool.not_true, cond_false, Bool.true_eq_false, if_false]
    rw [show inode_is fuel (t.1, t.2) parent true = some (isB t.1 parent true) from is_ok hf parent true, Option.bind_some]
    cases hi : isB t.1 parent true with
    | false => rfl
    | true =>
      simp only [Bool.not_true, cond_false, Bool.true_eq_false, if_false]
      rw [freeIdx hf.n, Option.bind_some]
      cases hfr : freeAt t.1 with
      | none =>
        simp only []
        rw [show decide ((-1 : Int) < 0) = true from rfl]
        simp only [cond_true]
        by_cases h5 : 500 ≤ t.1.length
        · rw [show decide (((t.1.length : Nat) : Int) ≥ 500) = true from by simp; omega, if_pos h5]
          rfl
        · rw [show decide (((t.1.length : Nat) : Int) ≥ 500) = false from by simp; omega, if_neg h5, Option.bind_some]
          simp only [cond_false]
          rw [need_true (by simp only [Bool.and_eq_true, Nat.ble_eq, roomIs]; omega), Option.bind_some]
          simp only []
          rw [w64 (by omega)]
          have hnew : (t.1 ++ [(((t.1.length : Nat) : Int) + 1, (0 : Int), false, false, (0 : Int), ([] : List Part), (0 : Int), ([] : List Ent))])[t.1.length]? = some (((t.1.length : Nat) : Int) + 1, (0 : Int), false, false, (0 : Int), ([] : List Part), (0 : Int), ([] : List Ent)) := by simp
          have := take_ok _ t.2 t.1.length _ dir parent hnew (by simp)
          rw [this]
          unfold outA
          simp [List.set_append_right]
      | some i =>
        obtain ⟨hlt, hfree, _⟩ := List.findIdx?_eq_some_iff_getElem.1 hfr
        obtain ⟨n, hg⟩ : ∃ n, t.1[i]? = some n := ⟨_, List.getElem?_eq_getElem hlt⟩
        simp only []
        rw [show decide ((i : Int) < 0) = false from by simp]
        simp only [cond_false, Option.bind_some]
        rw [idx_nat hlt, Option.bind_some, hg, Option.bind_some]
        have hgen := (hR.ino i n hg).gen
        simp only []
        by_cases h5 : 1099511627776 ≤ n.2.1
        · rw [show decide (n.2.1 ≥ 1099511627776) = true from by simp; omega, if_pos h5]
          rfl
        · rw [show decide (n.2.1 ≥ 1099511627776) = false from by simp; omega, if_neg h5, cond_false, Option.bind_some]
          simp only []
          rw [take_ok t.1 t.2 i n dir parent hg (by omega)]
          rfl
theorem refAlloc {t : Tree} (hf : Fit t.1) (dir : Bool) (parent : Int) : ref18_Alloc fuel t dir parent = some (outA (allocS t dir parent)) := by
  have hn := hf.n
  unfold ref18_Alloc allocS
  rw [show ref18_Copied fuel (t.1, t.2) = some (t.2, t.1) from refCopied_ok hf, Option.bind_some, show ref18_Right fuel (t.1, t.2) = some (rightB t) from refRight hf, Option.bind_some]
  cases hr : rightB t with
  | false => rfl
  | true =>
    have hR := rightB_iff.1 hr
    simp only [Bool.not_true, cond_false, Bool.true_eq_false, if_false]
    rw [show ref18_is fuel (t.1, t.2) parent true = some (isB t.1 parent true) from refIs_ok hf parent true, Option.bind_some]
    cases hi : isB t.1 parent true with
    | false => rfl
    | true =>
      simp only [Bool.not_true, cond_false, Bool.true_eq_false, if_false]
      have loop : ref18_Alloc_l0_it fuel (0, (t.1, (t.2, (0, (0, (0, (t.2, t.1))))))) = some ((((match freeAt t.1 with | some n => n | none => t.1.length) : Nat) : Int), (t.1, (t.2, (0, (0, (0, (t.2, t.1))))))) := by
        unfold ref18_Alloc_l0_it
        obtain ⟨k, hk1, hk2, hk3, hk4⟩ : ∃ k, (match freeAt t.1 with | some n => n | none => t.1.length) = k ∧ k ≤ t.1.length ∧ (∀ i n, i < k → t.1[i]? = some n → n.2.2.1 = true) ∧ (∀ n, t.1[k]? = some n → n.2.2.1 = false) := by
          cases hfr : freeAt t.1 with
          | none =>
            refine ⟨_, rfl, Nat.le_refl _, fun i n hi hg => ?_, fun n hg => absurd (List.getElem?_eq_some_iff.1 hg).1 (Nat.lt_irrefl _)⟩
            have := List.findIdx?_eq_none_iff.1 hfr n (List.mem_of_getElem? hg)
            simpa using this
          | some m =>
            obtain ⟨hlt, hfree, hbef⟩ := List.findIdx?_eq_some_iff_getElem.1 hfr
            refine ⟨_, rfl, by dsimp only; omega, fun i n hi hg => ?_, fun n hg => ?_⟩
            · obtain ⟨hi2, rfl⟩ := List.getElem?_eq_some_iff.1 hg
              simpa using hbef i hi
            · obtain ⟨hi2, rfl⟩ := List.getElem?_eq_some_iff.1 hg
              simpa using hfree
        rw [hk1]
        refine iter_range (fun k => ((k : Int), (t.1, (t.2, (0, (0, (0, (t.2, t.1)))))))) k (by omega) (fun i hi => ?_) ?_
        · have hlt : i < t.1.length := by omega
          obtain ⟨n, hg⟩ : ∃ n, t.1[i]? = some n := ⟨_, List.getElem?_eq_getElem hlt⟩
          unfold ref18_Alloc_l0
          simp only [lt_dec hlt, cond_true]
          rw [idx_nat hlt, Option.bind_some, hg, Option.bind_some, Option.bind_some, w64 (by omega)]
          simp only [hk3 i n hi hg, cond_true]
          rfl
        · unfold ref18_Alloc_l0
          by_cases hlt : k < t.1.length
          · obtain ⟨n, hg⟩ : ∃ n, t.1[k]? = some n := ⟨_, List.getElem?_eq_getElem hlt⟩
            simp only [lt_dec hlt, cond_true]
            rw [idx_nat hlt, Option.bind_some, hg, Option.bind_some, Option.bind_some]
            simp only [hk4 n hg, cond_false]
          · simp only [nlt_dec hlt, cond_false, Option.bind_some]
      rw [loop, Option.bind_some]
      cases hfr : freeAt t.1 with
      | none =>
        simp only []
        rw [show (((t.1.length : Nat) : Int) == ((t.1.length : Nat) : Int)) = true from by simp]
        simp only [cond_true]
        by_cases h5 : 500 ≤ t.1.length
        · rw [show decide (((t.1.length : Nat) : Int) ≥ 500) = true from by simp; omega, if_pos h5]
          rfl
        · rw [show decide (((t.1.length : Nat) : Int) ≥ 500) = false from by simp; omega, if_neg h5]
          simp only [cond_false]
          rw [need_true (by simp only [Bool.and_eq_true, Nat.ble_eq, roomIs]; omega), Option.bind_some]
          simp only []
          rw [w64 (by omega)]
          have hnew : (t.1 ++ [(((t.1.length : Nat) : Int) + 1, (0 : Int), false, false, (0 : Int), ([] : List Part), (0 : Int), ([] : List Ent))])[t.1.length]? = some (((t.1.length : Nat) : Int) + 1, (0 : Int), false, false, (0 : Int), ([] : List Part), (0 : Int), ([] : List Ent)) := by simp
          have hlt : t.1.length < (t.1 ++ [(((t.1.length : Nat) : Int) + 1, (0 : Int), false, false, (0 : Int), ([] : List Part), (0 : Int), ([] : List Ent))]).length := by simp
          have h9 := take_ok _ t.2 t.1.length _ dir parent hnew (by simp)
          rw [idx_nat hlt, Option.bind_some] at h9 ⊢
          rw [hnew, Option.bind_some] at ⊢
          rw [show decide ((0 : Int) ≥ 1099511627776) = false from rfl, cond_false]
          rw [hnew] at h9
          refine Eq.trans h9 ?_
          unfold outA
          simp [List.set_append_right]
      | some i =>
        obtain ⟨hlt, hfree, _⟩ := List.findIdx?_eq_some_iff_getElem.1 hfr
        obtain ⟨n, hg⟩ : ∃ n, t.1[i]? = some n := ⟨_, List.getElem?_eq_getElem hlt⟩
        simp only []
        rw [show ((i : Int) == ((t.1.length : Nat) : Int)) = false from by simp; omega]
        simp only [cond_false, Option.bind_some]
        have hgen := (hR.ino i n hg).gen
        rw [idx_nat hlt, Option.bind_some]
        simp only [hg]
        rw [Option.bind_some]
        by_cases h5 : 1099511627776 ≤ n.2.1
        · rw [show decide (n.2.1 ≥ 1099511627776) = true from by simp; omega, if_pos h5, cond_true]
          rw [show ref18_Copied fuel (t.1, t.2) = some (t.2, t.1) from refCopied_ok hf]
          rfl
        · rw [show decide (n.2.1 ≥ 1099511627776) = false from by simp; omega, if_neg h5, cond_false]
          have h9 := take_ok t.1 t.2 i n dir parent hg (by omega)
          rw [idx_nat hlt, Option.bind_some, hg] at h9
          exact h9
end Go.Ab.D

/- Layer 18: Set, Fresh, Get, Drop. -/
namespace Go.Ab.D
open Go Go.Ab

/-! Set -/
def withParts (n : Ino) (size : Int) (parts : List Part) : Ino := (n.1, n.2.1, n.2.2.1, n.2.2.2.1, size, parts, n.2.2.2.2.2.2.1, n.2.2.2.2.2.2.2)
noncomputable def setS (t : Tree) (id size : Int) (parts : List Part) : Tree × Int :=
  if rightB t = false then (t, 180) else
  if isB t.1 id false = false then (t, 2) else
  match t.1[(id - 1).toNat]? with
  | none => (t, 2)
  | some n => if rightB (t.1.set (id - 1).toNat (withParts n size parts), t.2) = false then (t, 177) else ((t.1.set (id - 1).toNat (withParts n size parts), t.2), 0)
def outS (r : Tree × Int) : Int × Int × List Ino := (r.1.2, r.2, r.1.1)
theorem Fit.set {l : List Ino} (h : Fit l) (i : Nat) {n : Ino} (hn : n.sm) : Fit (l.set i n) :=
  ⟨by rw [List.length_set]; exact h.n, fun m hm => by
    rcases List.mem_or_eq_of_mem_set hm with h1 | h1
    · exact h.s m h1
    · exact h1 ▸ hn⟩
theorem inoSet {t : Tree} (hf : Fit t.1) (id size : Int) (parts : List Part) (hp : parts.length ≤ 100000) : inode_Set fuel t id size parts = some (outS (setS t id size parts)) := by
  have hn := hf.n
  unfold inode_Set setS
  rw [show inode_copied fuel (t.1, t.2) = some (t.2, t.1) from copied_ok hf, Option.bind_some, show inode_Right fuel (t.1, t.2) = some (rightB t) from inoRight hf, Option.bind_some]
  cases hr : rightB t with
  | false => rfl
  | true =>
    simp only [Bool.not_true, cond_false, Bool.true_eq_false, if_false]
    rw [show inode_is fuel (t.1, t.2) id false = some (isB t.1 id false) from is_ok hf id false, Option.bind_some]
    cases hi : isB t.1 id false with
    | false => rfl
    | true =>
      obtain ⟨h1, hlt⟩ := is_lt hi
      obtain ⟨n, hg⟩ : ∃ n, t.1[(id - 1).toNat]? = some n := ⟨_, List.getElem?_eq_getElem hlt⟩
      simp only [Bool.not_true, cond_false, Bool.true_eq_false, if_false]
      rw [clonePart hp, Option.bind_some, w64 (by omega), idx_int (by omega) (by omega), Option.bind_some, hg, Option.bind_some]
      rw [List.length_set, idx_int (by omega) (by omega), Option.bind_some, set_get hlt, Option.bind_some]
      simp only [List.set_set]
      rw [show inode_Right fuel (t.1.set (id - 1).toNat (n.1, n.2.1, n.2.2.1, n.2.2.2.1, size, parts, n.2.2.2.2.2.2), t.2) = some (rightB (t.1.set (id - 1).toNat (withParts n size parts), t.2)) from inoRight (hf.set _ ⟨hp, (hf.at hg).2⟩), Option.bind_some]
      cases rightB (t.1.set (id - 1).toNat (withParts n size parts), t.2) with
      | false =>
        simp only [Bool.not_false, cond_true, if_true]
        rfl
      | true => rfl
theorem refSet {t : Tree} (hf : Fit t.1) (id size : Int) (parts : List Part) (hp : parts.length ≤ 100000) : ref18_Set fuel t id size parts = some (outS (setS t id size parts)) := by
  have hn := hf.n
  unfold ref18_Set setS
  rw [show ref18_Copied fuel (t.1, t.2) = some (t.2, t.1) from refCopied_ok hf, Option.bind_some, show ref18_Right fuel (t.1, t.2) = some (rightB t) from refRight hf, Option.bind_some]
  cases hr : rightB t with
  | false => rfl
  | true =>
    simp only [Bool.not_true, cond_false, Bool.true_eq_false, if_false]
    rw [show ref18_is fuel (t.1, t.2) id false = some (isB t.1 id false) from refIs_ok hf id false, Option.bind_some]
    cases hi : isB t.1 id false with
    | false => rfl
    | true =>
      obtain ⟨h1, hlt⟩ := is_lt hi
      obtain ⟨n, hg⟩ : ∃ n, t.1[(id - 1).toNat]? = some n := ⟨_, List.getElem?_eq_getElem hlt⟩
      simp only [Bool.not_true, cond_false, Bool.true_eq_false, if_false]
      rw [w64 (by omega), idx_int (by omega) (by omega), Option.bind_some, hg, Option.bind_some]
      rw [need_true (by simp only [Bool.and_eq_true, Nat.ble_eq, roomIs]; omega)]
      rw [List.length_set, idx_int (by omega) (by omega), Option.bind_some, set_get hlt, Option.bind_some]
      simp only [List.set_set]
      rw [show ref18_Right fuel (t.1.set (id - 1).toNat (n.1, n.2.1, n.2.2.1, n.2.2.2.1, size, parts, n.2.2.2.2.2.2), t.2) = some (rightB (t.1.set (id - 1).toNat (withParts n size parts), t.2)) from refRight (hf.set _ ⟨hp, (hf.at hg).2⟩), Option.bind_some]
      cases rightB (t.1.set (id - 1).toNat (withParts n size parts), t.2) with
      | false =>
        simp only [Bool.not_false, cond_true, if_true]
        rfl
      | true => rfl

/-! Fresh -/
def run (s : Int) (n : Nat) : List Int := (List.range n).map fun (k : Nat) => s + 1 + (k : Int)
theorem run_succ (s : Int) (n : Nat) : run s (n + 1) = run s n ++ [s + 1 + n] := by simp [run, List.range_succ]
noncomputable def freshS (t : Tree) (n : Int) : Tree × List Int × Int :=
  if rightB t = false then (t, [], 180) else
  if n < 0 ∨ n > 4096 then (t, [], 2) else
  if n > 1099511627776 - t.2 then (t, [], 5) else
  ((t.1, t.2 + n), run t.2 n.toNat, 0)
def outF (r : Tree × List Int × Int) : Int × Int × List Ino × List Int := (r.1.2, r.2.2, r.1.1, r.2.1)
theorem inoFresh {t : Tree} (hf : Fit t.1) (n : Int) : inode_Fresh fuel t n = some (outF (freshS t n)) := by
  have hn := hf.n
  unfold inode_Fresh freshS
  rw [show inode_copied fuel (t.1, t.2) = some (t.2, t.1) from copied_ok hf, Option.bind_some, show inode_Right fuel (t.1, t.2) = some (rightB t) from inoRight hf, Option.bind_some]
  cases hr : rightB t with
  | false => rfl
  | true =>
    have hstr := (rightB_iff.1 hr).str
    simp only [Bool.not_true, cond_false, Bool.true_eq_false, if_false]
    by_cases h1 : n < 0
    · rw [show decide (n < 0) = true from by simp; omega, if_pos (.inl h1)]
      rfl
    rw [show decide (n < 0) = false from by simp; omega]
    by_cases h2 : n > 4096
    · rw [show decide (n > 4096) = true from by simp; omega, if_pos (.inr h2)]
      rfl
    rw [show decide (n > 4096) = false from by simp; omega, if_neg (by omega)]
    simp only [cond_false, Option.bind_some]
    rw [w64 (by omega)]
    by_cases h3 : n > 1099511627776 - t.2
    · rw [show decide (n > 1099511627776 - t.2) = true from by simp; omega, if_pos h3]
      rfl
    rw [show decide (n > 1099511627776 - t.2) = false from by simp; omega, if_neg h3, cond_false]
    have loop : inode_Fresh_l0_it fuel n (0, (0, (t.2, (t.1, [])))) = some (0, (t.2 + n, (t.1, run t.2 n.toNat))) := by
      unfold inode_Fresh_l0_it
      have := iter_range (f := fun (tt : Int × Int × Int × List Ino × List Int) => inode_Fresh_l0 fuel n tt.1 tt.2.1 tt.2.2.1 tt.2.2.2.1 tt.2.2.2.2) (o := ((0 : Int), (t.2 + n, (t.1, run t.2 n.toNat)))) (fun k => ((k : Int), ((0 : Int), (t.2 + k, (t.1, run t.2 k))))) n.toNat (by omega) (fun k hk => by
        have hl : (run t.2 k).length = k := by simp [run]
        show inode_Fresh_l0 fuel n (k : Int) 0 (t.2 + (k : Int)) t.1 (run t.2 k) = some (.inl (((k + 1 : Nat) : Int), ((0 : Int), (t.2 + ((k + 1 : Nat) : Int), (t.1, run t.2 (k + 1))))))
        unfold inode_Fresh_l0
        rw [show decide ((k : Int) < n) = true from by simp; omega, cond_true, need_true (by simp only [Bool.and_eq_true, Nat.ble_eq, roomIs]; omega), w64 (by omega), w64 (by omega), run_succ]
        rw [show t.2 + (k : Int) + 1 = t.2 + ((k + 1 : Nat) : Int) from by omega, show t.2 + 1 + (k : Int) = t.2 + ((k + 1 : Nat) : Int) from by omega]
        rfl) (by
        show inode_Fresh_l0 fuel n ((n.toNat : Nat) : Int) 0 (t.2 + ((n.toNat : Nat) : Int)) t.1 (run t.2 n.toNat) = _
        unfold inode_Fresh_l0
        rw [show decide (((n.toNat : Nat) : Int) < n) = false from by simp; omega, cond_false]
        rw [show t.2 + ((n.toNat : Nat) : Int) = t.2 + n from by omega])
      simpa [run] using this
    rw [loop]
    rfl
theorem refFresh {t : Tree} (hf : Fit t.1) (n : Int) : ref18_Fresh fuel t n = some (outF (freshS t n)) := by
  have hn := hf.n
  unfold ref18_Fresh freshS
  rw [show ref18_Copied fuel (t.1, t.2) = some (t.2, t.1) from refCopied_ok hf, Option.bind_some, show ref18_Right fuel (t.1, t.2) = some (rightB t) from refRight hf, Option.bind_some]
  cases hr : rightB t with
  | false => rfl
  | true =>
    have hstr := (rightB_iff.1 hr).str
    simp only [Bool.not_true, cond_false, Bool.true_eq_false, if_false]
    by_cases h1 : n < 0
    · rw [show decide (n < 0) = true from by simp; omega, if_pos (.inl h1)]
      rfl
    rw [show decide (n < 0) = false from by simp; omega]
    by_cases h2 : n > 4096
    · rw [show decide (n > 4096) = true from by simp; omega, if_pos (.inr h2)]
      rfl
    rw [show decide (n > 4096) = false from by simp; omega, if_neg (by omega)]
    simp only [cond_false, Option.bind_some]
    rw [w64 (by omega)]
    by_cases h3 : n > 1099511627776 - t.2
    · rw [show decide (n > 1099511627776 - t.2) = true from by simp; omega, if_pos h3]
      rfl
    rw [show decide (n > 1099511627776 - t.2) = false from by simp; omega, if_neg h3, cond_false]
    have loop : ref18_Fresh_l0_it fuel n (0, (0, (t.2, (t.1, [])))) = some (0, (t.2 + n, (t.1, run t.2 n.toNat))) := by
      unfold ref18_Fresh_l0_it
      have := iter_range (f := fun (tt : Int × Int × Int × List Ino × List Int) => ref18_Fresh_l0 fuel n tt.1 tt.2.1 tt.2.2.1 tt.2.2.2.1 tt.2.2.2.2) (o := ((0 : Int), (t.2 + n, (t.1, run t.2 n.toNat)))) (fun k => ((k : Int), ((0 : Int), (t.2 + k, (t.1, run t.2 k))))) n.toNat (by omega) (fun k hk => by
        have hl : (run t.2 k).length = k := by simp [run]
        show ref18_Fresh_l0 fuel n (k : Int) 0 (t.2 + (k : Int)) t.1 (run t.2 k) = some (.inl (((k + 1 : Nat) : Int), ((0 : Int), (t.2 + ((k + 1 : Nat) : Int), (t.1, run t.2 (k + 1))))))
        unfold ref18_Fresh_l0
        rw [show decide ((k : Int) < n) = true from by simp; omega, cond_true, need_true (by simp only [Bool.and_eq_true, Nat.ble_eq, roomIs]; omega), w64 (by omega), w64 (by omega), run_succ]
        rw [show t.2 + (k : Int) + 1 = t.2 + ((k + 1 : Nat) : Int) from by omega, show t.2 + 1 + (k : Int) = t.2 + ((k + 1 : Nat) : Int) from by omega]
        rfl) (by
        show ref18_Fresh_l0 fuel n ((n.toNat : Nat) : Int) 0 (t.2 + ((n.toNat : Nat) : Int)) t.1 (run t.2 n.toNat) = _
        unfold ref18_Fresh_l0
        rw [show decide (((n.toNat : Nat) : Int) < n) = false from by simp; omega, cond_false]
        rw [show t.2 + ((n.toNat : Nat) : Int) = t.2 + n from by omega])
      simpa [run] using this
    rw [loop]
    rfl

/-! Get -/
def zeroI : Ino := (0, 0, false, false, 0, [], 0, [])
def getS (t : Tree) (h : Int × Int) : Ino × Int :=
  if h.1 < 1 then (zeroI, 170) else
  match t.1[(h.1 - 1).toNat]? with
  | none => (zeroI, 170)
  | some n => if n.2.2.1 = true ∧ n.2.1 = h.2 then (n, 0) else (zeroI, 170)
def outG (r : Ino × Int) : Int × Int × Bool × Bool × Int × List Part × Int × List Ent × Int := (r.1.1, r.1.2.1, r.1.2.2.1, r.1.2.2.2.1, r.1.2.2.2.2.1, r.1.2.2.2.2.2.1, r.1.2.2.2.2.2.2.1, r.1.2.2.2.2.2.2.2, r.2)
theorem inoGet {t : Tree} (hf : Fit t.1) (h : Int × Int) : inode_Get fuel t h = some (outG (getS t h)) := by
  have hn := hf.n
  unfold inode_Get getS
  by_cases h1 : h.1 < 1
  · rw [show decide (h.1 < 1) = true from by simp; omega, if_pos h1]
    rfl
  rw [show decide (h.1 < 1) = false from by simp; omega, if_neg h1]
  by_cases h2 : h.1 > ((t.1.length : Nat) : Int)
  · rw [show decide (h.1 > ((t.1.length : Nat) : Int)) = true from by simp; omega, List.getElem?_eq_none (by omega)]
    rfl
  rw [show decide (h.1 > ((t.1.length : Nat) : Int)) = false from by simp; omega]
  simp only [cond_false, Option.bind_some]
  obtain ⟨n, hg⟩ : ∃ n, t.1[(h.1 - 1).toNat]? = some n := ⟨_, List.getElem?_eq_getElem (by omega)⟩
  rw [w64 (by omega), idx_int (by omega) (by omega), Option.bind_some, hg, Option.bind_some]
  have ho := own_ok (hf.at hg)
  obtain ⟨id, gen, used, dir, size, parts, parent, ents⟩ := n
  dsimp only at *
  cases used with
  | false => simp only [Bool.not_false, cond_true, Option.bind_some, Bool.false_eq_true, false_and, if_false]; rfl
  | true =>
    simp only [Bool.not_true, cond_false, Option.bind_some, true_and]
    by_cases h3 : gen = h.2
    · rw [show (gen == h.2) = true from by simp [h3]]
      simp only [Bool.not_true, cond_false]
      rw [if_pos h3, ho, Option.bind_some]
      rfl
    · rw [show (gen == h.2) = false from by simp [h3]]
      rw [if_neg h3]
      rfl
theorem refGet {t : Tree} (hf : Fit t.1) (h : Int × Int) (hw : -9223372036854775808 ≤ h.1 ∧ h.1 ≤ 9223372036854775807) : ref18_Get fuel t h = some (outG (getS t h)) := by
  have hn := hf.n
  unfold ref18_Get
  have hit : ∀ (i : Nat) n, t.1[i]? = some n → ((i : Int) = IntKind.wrap .i64 (h.1 - 1) ↔ (1 ≤ h.1 ∧ i = (h.1 - 1).toNat)) := fun i n hg => by
    have hlt := (List.getElem?_eq_some_iff.1 hg).1
    by_cases hm : h.1 = -9223372036854775808
    · rw [hm]
      rw [show IntKind.wrap .i64 (-9223372036854775808 - 1) = 9223372036854775807 from by rfl]
      omega
    · rw [w64 (by omega)]
      omega
  have loop : ∃ o, ref18_Get_l0_it fuel (0, (t.1, (t.2, (h.1, (h.2, (0, (0, (false, (false, (0, 0)))))))))) = some o ∧ ((o = .inl (0, (0, (false, (false, (0, 0))))) ∧ getS t h = (zeroI, 170)) ∨ (o = .inr (outG (getS t h)))) := by
    unfold ref18_Get_l0_it
    refine iter_ex (fun m s => ∃ (k : Nat), s = ((k : Int), (t.1, (t.2, (h.1, (h.2, (0, (0, (false, (false, (0, 0)))))))))) ∧ k + m = t.1.length ∧ ∀ (i : Nat) n, i < k → t.1[i]? = some n → ¬ (1 ≤ h.1 ∧ i = (h.1 - 1).toNat ∧ n.2.2.1 = true ∧ n.2.1 = h.2)) _ (fun m s hI => ?_) (fun s hI => ?_) t.1.length _ (by omega) ⟨0, rfl, by omega, fun i n h => absurd h (Nat.not_lt_zero _)⟩
    · obtain ⟨k, rfl, hk, g1⟩ := hI
      have hlt : k < t.1.length := by omega
      obtain ⟨n, hg⟩ : ∃ n, t.1[k]? = some n := ⟨_, List.getElem?_eq_getElem hlt⟩
      have hi := hit k n hg
      unfold ref18_Get_l0
      simp only [lt_dec hlt, cond_true]
      rw [idx_nat hlt, Option.bind_some, hg, Option.bind_some]
      have next : ¬ (1 ≤ h.1 ∧ k = (h.1 - 1).toNat ∧ n.2.2.1 = true ∧ n.2.1 = h.2) → ∀ (i : Nat) n, i < k + 1 → t.1[i]? = some n → ¬ (1 ≤ h.1 ∧ i = (h.1 - 1).toNat ∧ n.2.2.1 = true ∧ n.2.1 = h.2) := fun h5 i n' hi hg' => by
        by_cases hik : i = k
        · subst hik; rw [hg] at hg'; cases hg'; exact h5
        · exact g1 i n' (by omega) hg'
      by_cases h3 : (k : Int) = IntKind.wrap .i64 (h.1 - 1)
      · rw [show ((k : Int) == IntKind.wrap .i64 (h.1 - 1)) = true from by simp [h3], cond_true]
        have h4 := hi.1 h3
        obtain ⟨id, gen, used, dir, size, parts, parent, ents⟩ := n
        cases used with
        | false =>
          refine .inl ⟨_, by simp only [cond_false, Option.bind_some]; rw [w64 (by omega)], k + 1, by simp, by omega, next (by simp)⟩
        | true =>
          simp only [cond_true, Option.bind_some]
          by_cases h5 : gen = h.2
          · rw [show (gen == h.2) = true from by simp [h5], cond_true]
            rw [show ref18_own fuel (id, gen, true, dir, size, parts, parent, ents) = _ from refOwn_ok (hf.at hg), Option.bind_some]
            refine .inr ⟨_, rfl, .inr ?_⟩
            unfold getS
            rw [if_neg (by omega), ← h4.2, hg]
            simp only [h5, and_self, if_true]
            rfl
          · rw [show (gen == h.2) = false from by simp [h5], cond_false, w64 (by omega)]
            exact .inl ⟨_, rfl, k + 1, by simp, by omega, next (by simp [h5])⟩
      · rw [show ((k : Int) == IntKind.wrap .i64 (h.1 - 1)) = false from by simp [h3], cond_false]
        refine .inl ⟨_, by simp only [cond_false, Option.bind_some]; rw [w64 (by omega)], k + 1, by simp, by omega, next fun h5 => h3 (hi.2 ⟨h5.1, h5.2.1⟩)⟩
    · obtain ⟨k, rfl, hk, g1⟩ := hI
      have : k = t.1.length := by omega
      subst this
      unfold ref18_Get_l0
      simp only [nlt_dec (Nat.lt_irrefl _), cond_false]
      refine ⟨_, rfl, .inl ⟨rfl, ?_⟩⟩
      unfold getS
      by_cases h1 : h.1 < 1
      · rw [if_pos h1]
      · rw [if_neg h1]
        cases hg : t.1[(h.1 - 1).toNat]? with
        | none => rfl
        | some n =>
          have := g1 _ n (List.getElem?_eq_some_iff.1 hg).1 hg
          dsimp only
          rw [if_neg fun h5 => this ⟨by omega, rfl, h5⟩]
  obtain ⟨o, ho, hq⟩ := loop
  rw [ho, Option.bind_some]
  rcases hq with ⟨rfl, hq⟩ | rfl
  · rw [hq]; rfl
  · rfl
end Go.Ab.D

/- Layer 18: Drop. The copy's parts are memory of their own, each a member of a family. -/
namespace Go.Ab.D
open Go Go.Ab

abbrev tPart : Ty := .pair (.int .i64) (.int .i64)
abbrev tInoR : Ty := .pair (.int .i64) (.pair (.int .i64) (.pair .bool (.pair .bool (.pair (.int .i64) (.pair (.ref 0 tPart) (.pair (.int .i64) (.sl (.pair .str (.int .i64)))))))))
abbrev Ref := List Part ⊕ Option (Nat × Nat × Nat)
abbrev InoR := Int × Int × Bool × Bool × Int × Ref × Int × List Ent
def mkR (n : Ino) (r : Ref) : InoR := (n.1, n.2.1, n.2.2.1, n.2.2.2.1, n.2.2.2.2.1, r, n.2.2.2.2.2.2.1, n.2.2.2.2.2.2.2)
def refI (i : Nat) (n : Ino) : InoR := mkR n (.inr (some (i, 0, n.2.2.2.2.2.1.length)))
structure Rows (rows : List InoR) (l : List Ino) : Prop where
  len : rows.length = l.length
  at_ : ∀ (i : Nat) n, l[i]? = some n → rows[i]? = some (refI i n)
def membs (l : List Ino) : List (Nat × List Part) := l.map fun n => (1, n.2.2.2.2.2.1)
theorem fmAt_one (ms : List (Nat × List Part)) : fmAt 0 tPart [⟨0, tPart, ms⟩] = some ms := rfl
theorem memb_ok {α : Type} {ms : List (Nat × List α)} {k : Nat} {l : List α} (h : ms[k]? = some (2, l)) : memb ms k 0 l.length = some l := by
  unfold memb
  rw [h]
  have e : (Nat.ble 2 2 && Nat.ble (0 + l.length) l.length) = true := by simp
  simp only [e, bq_true, List.drop_zero, List.take_length]
theorem unref_row (ms : List (Nat × List Part)) (i : Nat) (n : Ino) (h : ms[i]? = some (2, n.2.2.2.2.2.1)) : unrefD [⟨0, tPart, ms⟩] tInoR (refI i n) = some n := by
  have e : (fmAt 0 tPart [⟨0, tPart, ms⟩]).ob (fun ms => memb ms i 0 n.2.2.2.2.2.1.length) = some n.2.2.2.2.2.1 := by
    rw [fmAt_one]
    exact memb_ok h
  show ((some n.1).bind fun y => (((some n.2.1).bind fun y => (((some n.2.2.1).bind fun y => (((some n.2.2.2.1).bind fun y => (((some n.2.2.2.2.1).bind fun y => ((((fmAt 0 tPart [⟨0, tPart, ms⟩]).ob fun ms => memb ms i 0 n.2.2.2.2.2.1.length).bind fun y => (((some n.2.2.2.2.2.2.1).bind fun y => (some n.2.2.2.2.2.2.2).map fun z => (y, z)).map fun z => (y, z))).map fun z => (y, z))).map fun z => (y, z))).map fun z => (y, z))).map fun z => (y, z))).map fun z => (y, z))) = _
  rw [e]
  rfl
theorem unref_nil (fms : List Fm) (a b : Int) (c d : Bool) (e f : Int) (g : List Ent) : unrefD fms tInoR (a, b, c, d, e, .inr none, f, g) = some (a, b, c, d, e, [], f, g) := rfl
theorem unrefL_at {α γ : Type} (g : α → Option γ) : ∀ (l : List α) (l' : List γ), l.length = l'.length → (∀ (i : Nat) x y, l[i]? = some x → l'[i]? = some y → g x = some y) → unrefL g l = some l'
  | [], [], _, _ => rfl
  | [], _ :: _, h, _ => by simp at h
  | _ :: _, [], h, _ => by simp at h
  | x :: l, y :: l', h, hp => by
    have ih := unrefL_at g l l' (by simpa using h) fun i a b ha hb => hp (i + 1) a b (by simpa using ha) (by simpa using hb)
    show (g x).bind _ = _
    rw [hp 0 x y (by simp) (by simp)]
    simp [ih]
theorem copiedP_ok {t : Tree} (hf : Fit t.1) : ∃ rows, inode_copied_P fuel t = some (t.2, rows, membs t.1) ∧ Rows rows t.1 := by
  have hn := hf.n
  unfold inode_copied_P
  rw [cloneIno hn, Option.bind_some]
  have h0 : ∀ (i : Nat) n, t.1[i]? = some n → (List.map (liftT tInoR) (show List (tInoR.unref.den) from t.1))[i]? = some (mkR n (.inl n.2.2.2.2.2.1)) := fun i n hg => by
    show (List.map (liftT tInoR) (show List (tInoR.unref.den) from t.1))[i]? = some (liftT tInoR n)
    rw [List.getElem?_map]
    show ((show List Ino from t.1)[i]?).map _ = _
    rw [hg]
    rfl
  have loop : ∃ o, inode_copied_P_l0_it fuel t.1 (0, (t.2, ((List.map (liftT tInoR) (show List (tInoR.unref.den) from t.1)), (0, [])))) = some o ∧ ∃ rows, o = (t.2, (rows, (0, membs t.1))) ∧ Rows rows t.1 := by
    unfold inode_copied_P_l0_it
    refine iter_ex (fun m s => ∃ (k : Nat) (rows : List InoR), s = ((k : Int), (t.2, (rows, (0, membs (t.1.take k))))) ∧ k + m = t.1.length ∧ rows.length = t.1.length ∧ ∀ (i : Nat) n, t.1[i]? = some n → rows[i]? = some (if i < k then refI i n else mkR n (.inl n.2.2.2.2.2.1))) _ (fun m s hI => ?_) (fun s hI => ?_) t.1.length _ (by omega) ⟨0, _, rfl, by omega, by exact List.length_map _, fun i n hg => by rw [if_neg (Nat.not_lt_zero _)]; exact h0 i n hg⟩
    · obtain ⟨k, rows, rfl, hk, g1, g2⟩ := hI
      have hlt : k < t.1.length := by omega
      obtain ⟨n, hg⟩ : ∃ n, t.1[k]? = some n := ⟨_, List.getElem?_eq_getElem hlt⟩
      have hrow := g2 k n hg
      rw [if_neg (Nat.lt_irrefl _)] at hrow
      left
      refine ⟨((k : Int) + 1, (t.2, (rows.set k (refI k n), (0, membs (t.1.take (k + 1)))))), ?_, k + 1, _, rfl, by omega, by rw [List.length_set]; exact g1, fun i n' hg' => ?_⟩
      · unfold inode_copied_P_l0
        have hml : (membs (t.1.take k)).length = k := by simp [membs]; omega
        simp only [lt_dec hlt, cond_true]
        rw [idx_nat (by omega), Option.bind_some, hrow, Option.bind_some]
        rw [show lowD (.ref 0 tPart) (mkR n (.inl n.2.2.2.2.2.1)).2.2.2.2.2.1 = some n.2.2.2.2.2.1 from rfl]
        erw [Option.bind_some]
        rw [show inode_own fuel ((mkR n (.inl n.2.2.2.2.2.1)).1, ((mkR n (.inl n.2.2.2.2.2.1)).2.1, ((mkR n (.inl n.2.2.2.2.2.1)).2.2.1, ((mkR n (.inl n.2.2.2.2.2.1)).2.2.2.1, ((mkR n (.inl n.2.2.2.2.2.1)).2.2.2.2.1, (n.2.2.2.2.2.1, ((mkR n (.inl n.2.2.2.2.2.1)).2.2.2.2.2.2.1, (mkR n (.inl n.2.2.2.2.2.1)).2.2.2.2.2.2.2))))))) = _ from own_ok (hf.at hg), Option.bind_some, Option.bind_some, hrow, Option.bind_some, w64 (by omega)]
        rw [hml]
        have : membs (t.1.take (k + 1)) = membs (t.1.take k) ++ [(1, n.2.2.2.2.2.1)] := by
          rw [List.take_succ, hg]; simp [membs]
        rw [this]
        rfl
      · by_cases hik : i = k
        · subst hik
          rw [hg] at hg'; cases hg'
          rw [if_pos (by omega), List.getElem?_set_self (by omega)]
        · rw [List.getElem?_set_ne (by omega), g2 i n' hg']
          by_cases hl : i < k
          · rw [if_pos hl, if_pos (by omega)]
          · rw [if_neg hl, if_neg (by omega)]
    · obtain ⟨k, rows, rfl, hk, g1, g2⟩ := hI
      have : k = t.1.length := by omega
      subst this
      unfold inode_copied_P_l0
      simp only [nlt_dec (Nat.lt_irrefl _), cond_false]
      rw [List.take_length]
      exact ⟨_, rfl, rows, rfl, g1, fun i n hg => by rw [g2 i n hg, if_pos (List.getElem?_eq_some_iff.1 hg).1]⟩
  obtain ⟨o, ho, rows, rfl, hr⟩ := loop
  exact ⟨rows, by rw [ho]; rfl, hr⟩
theorem unrefAll {rows : List InoR} {l : List Ino} (h : Rows rows l) : unrefL (unrefD [⟨0, tPart, (membs l).map frz1⟩] tInoR) rows = some l := by
  refine unrefL_at (α := InoR) (γ := Ino) _ _ _ h.len fun i x y hx hy => ?_
  rw [h.at_ i y hy] at hx
  cases hx
  exact unref_row _ i y (by rw [List.getElem?_map, membs, List.getElem?_map, hy]; rfl)

/-! slices.DeleteFunc -/
def isGone (p : Part) : Bool := (p.1 == 0) && (p.2 == 0)
theorem delPart {l : List Part} (hl : l.length ≤ 100000) : slices_DeleteFunc__api_Part_api_Part_o0f11 fuel l = some (.inl (l.filter fun p => !isGone p)) ∨ slices_DeleteFunc__api_Part_api_Part_o0f11 fuel l = some (.inr (l.filter fun p => !isGone p)) := by
  have hidx : slices_IndexFunc__api_Part_api_Part_f11 fuel l = some (match l.findIdx? isGone with | some n => (n : Int) | none => -1) := by
    unfold slices_IndexFunc__api_Part_api_Part_f11 slices_IndexFunc__api_Part_api_Part_f11_l0_it
    have e : iter fuel (fun tt => slices_IndexFunc__api_Part_api_Part_f11_l0 fuel l tt) 0 = _ := idx_loop isGone l (by omega) (fun tt => slices_IndexFunc__api_Part_api_Part_f11_l0 fuel l tt) (fun i x hx => by
      unfold slices_IndexFunc__api_Part_api_Part_f11_l0 inode_Drop_1
      have hlt := (List.getElem?_eq_some_iff.1 hx).1
      simp only [lt_dec hlt, cond_true]
      rw [idx_nat hlt, Option.bind_some, hx, Option.bind_some, Option.bind_some, w64 (by omega)]
      show (bif isGone x then _ else _) = _
      cases isGone x <;> rfl) (by
      unfold slices_IndexFunc__api_Part_api_Part_f11_l0
      simp only [nlt_dec (Nat.lt_irrefl _), cond_false])
    rw [e, Option.bind_some]
    cases l.findIdx? isGone <;> rfl
  unfold slices_DeleteFunc__api_Part_api_Part_o0f11
  rw [hidx, Option.bind_some]
  cases hf : l.findIdx? isGone with
  | none =>
    left
    have : l.filter (fun p => !isGone p) = l := List.filter_eq_self.2 fun x hx => by
      have := List.findIdx?_eq_none_iff.1 hf x hx
      simpa using this
    rw [this]
    rfl
  | some n =>
    right
    obtain ⟨hn, h1, h2⟩ := List.findIdx?_eq_some_iff_getElem.1 hf
    simp only []
    rw [show ((n : Int) == -1) = false from by simp, cond_false, w64 (by omega)]
    obtain ⟨h', e1, e2, e3⟩ := del_loop isGone l n hn (by omega) h1 (fun j hj => by simpa using h2 j hj)
      (fun (tt : Int × Int × List Part) => slices_DeleteFunc__api_Part_api_Part_o0f11_l0 fuel tt.1 tt.2.1 tt.2.2) (fun i j (h : List Part) x hij hj hh hx => by
        show slices_DeleteFunc__api_Part_api_Part_o0f11_l0 fuel (i : Int) (j : Int) h = _
        unfold slices_DeleteFunc__api_Part_api_Part_o0f11_l0 inode_Drop_1
        have hi : i < h.length := by omega
        obtain ⟨y, hy⟩ : ∃ y, h[i]? = some y := ⟨_, List.getElem?_eq_getElem hi⟩
        simp only [lt_dec hj, cond_true]
        rw [idx_nat hj, Option.bind_some, hx, Option.bind_some, Option.bind_some, idx_nat hi]
        simp only [Option.bind_some, hy]
        rw [w64 (by omega), w64 (by omega)]
        show (Option.bind (bif !isGone x then _ else _) _) = _
        cases isGone x <;> rfl) (fun i (h : List Part) => by
        show slices_DeleteFunc__api_Part_api_Part_o0f11_l0 fuel (i : Int) ((h.length : Nat) : Int) h = _
        unfold slices_DeleteFunc__api_Part_api_Part_o0f11_l0
        simp only [nlt_dec (Nat.lt_irrefl _), cond_false])
    rw [show slices_DeleteFunc__api_Part_api_Part_o0f11_l0_it fuel ((n : Int), ((n : Int) + 1, l)) = _ from e1, Option.bind_some]
    have hle : (l.filter fun p => !isGone p).length ≤ h'.length := by rw [e2]; exact List.length_filter_le _ _
    rw [upto_nat hle, Option.bind_some, need_true (ble_true (by dsimp only; omega))]
    have hsl : (splice h' (l.filter fun p => !isGone p).length (List.replicate (h'.length - (l.filter fun p => !isGone p).length) ((0 : Int), (0 : Int)))).length = h'.length := by
      unfold splice; simp; omega
    dsimp only
    rw [hsl, upto_nat hle, Option.bind_some, need_true (ble_true hle)]
    have : (splice h' (l.filter fun p => !isGone p).length (List.replicate (h'.length - (l.filter fun p => !isGone p).length) ((0 : Int), (0 : Int)))).take (l.filter fun p => !isGone p).length = l.filter fun p => !isGone p := by
      unfold splice
      rw [List.append_assoc, List.take_append_of_le_length (by rw [e3]; exact Nat.le_refl _), List.take_take, Nat.min_self, e3]
    rw [this]

/-! Drop -/
def emptied (n : Ino) (id : Int) : Ino := (id, n.2.1, false, false, 0, [], 0, [])
noncomputable def dropS (t : Tree) (id : Int) : Tree × List Part × Int :=
  if rightB t = false then (t, [], 180) else
  if id = 1 ∨ (isB t.1 id true = false ∧ isB t.1 id false = false) then (t, [], 2) else
  match t.1[(id - 1).toNat]? with
  | none => (t, [], 2)
  | some n => ((t.1.set (id - 1).toNat (emptied n id), t.2), n.2.2.2.2.2.1.filter (fun p => !isGone p), 0)
theorem inoDrop {t : Tree} (hf : Fit t.1) (id : Int) : inode_Drop fuel t id = some ((dropS t id).1.1, ((dropS t id).1.2, ((dropS t id).2.1, (dropS t id).2.2))) := by
  have hn := hf.n
  obtain ⟨rows, hc, hR⟩ := copiedP_ok hf
  unfold inode_Drop dropS
  rw [show inode_copied_P fuel (t.1, t.2) = _ from hc, Option.bind_some, show inode_Right fuel (t.1, t.2) = some (rightB t) from inoRight hf, Option.bind_some]
  dsimp only
  have hall := unrefAll hR
  cases hr : rightB t with
  | false =>
    simp only [Bool.not_false, cond_true, if_true]
    rw [hall]
    rfl
  | true =>
    simp only [Bool.not_true, cond_false, Bool.true_eq_false, if_false]
    rw [show inode_is fuel (t.1, t.2) id true = some (isB t.1 id true) from is_ok hf id true, show inode_is fuel (t.1, t.2) id false = some (isB t.1 id false) from is_ok hf id false]
    have key : ∀ (b : Bool), (b = true ↔ (id = 1 ∨ (isB t.1 id true = false ∧ isB t.1 id false = false))) → (bif (id == 1) then some (true, ((0 : Int), (t.2, (rows, membs t.1)))) else
        (some (isB t.1 id true)).bind fun r2 => bif (!r2) then (some (isB t.1 id false)).bind fun r3 => some ((!r3), ((0 : Int), (t.2, (rows, membs t.1)))) else some (false, ((0 : Int), (t.2, (rows, membs t.1))))) = some (b, ((0 : Int), (t.2, (rows, membs t.1)))) := fun b hb => by
      by_cases h1 : id = 1
      · rw [show (id == 1) = true from by simp [h1], cond_true, hb.2 (.inl h1)]
      · rw [show (id == 1) = false from by simp [h1], cond_false, Option.bind_some]
        cases h2 : isB t.1 id true <;> cases h3 : isB t.1 id false <;> cases b <;> simp_all
    by_cases hq : id = 1 ∨ (isB t.1 id true = false ∧ isB t.1 id false = false)
    · rw [key true (by simp [hq]), Option.bind_some, if_pos hq]
      simp only [cond_true]
      rw [hall]
      rfl
    · rw [key false (by simp only [Bool.false_eq_true, false_iff]; exact hq), Option.bind_some, if_neg hq]
      simp only [cond_false]
      have hb : ∃ d, isB t.1 id d = true := by
        cases h2 : isB t.1 id true with
        | true => exact ⟨_, h2⟩
        | false => cases h3 : isB t.1 id false with
          | true => exact ⟨_, h3⟩
          | false => exact absurd (.inr ⟨h2, h3⟩) hq
      obtain ⟨d, hb⟩ := hb
      obtain ⟨h1, hlt⟩ := is_lt hb
      obtain ⟨n, hg⟩ : ∃ n, t.1[(id - 1).toNat]? = some n := ⟨_, List.getElem?_eq_getElem hlt⟩
      have hrow := hR.at_ _ n hg
      have hrl := hR.len
      rw [w64 (by omega), idx_int (by omega) (by omega), Option.bind_some, hrow]
      simp only [Option.bind_some, hg]
      generalize hi : (id - 1).toNat = i at *
      have hmi : (membs t.1)[i]? = some (1, n.2.2.2.2.2.1) := by simp [membs, hg]
      have hop : openM (membs t.1) (refI i n).2.2.2.2.2.1 = some (n.2.2.2.2.2.1, (membs t.1).set i (0, n.2.2.2.2.2.1)) := by
        show ((membs t.1)[i]?).bind _ = _
        rw [hmi, Option.bind_some, need_true (by simp)]
        rw [List.take_length]
      rw [hop, Option.bind_some]
      dsimp only
      have hfin : unrefL (unrefD [⟨0, tPart, ((membs t.1).set i (0, n.2.2.2.2.2.1)).map frz1⟩] tInoR) (rows.set i (id, ((refI i n).2.1, (false, (false, ((0 : Int), ((Sum.inr none : Ref), ((0 : Int), ([] : List Ent))))))))) = some (t.1.set i (emptied n id)) := by
        refine unrefL_at (α := InoR) (γ := Ino) _ _ _ (by rw [List.length_set, List.length_set]; exact hrl) fun j x y hx hy => ?_
        by_cases hij : i = j
        · subst hij
          rw [List.getElem?_set_self (by omega)] at hx
          rw [List.getElem?_set_self hlt] at hy
          cases hx; cases hy
          rfl
        · rw [List.getElem?_set_ne hij] at hx hy
          rw [hR.at_ j y hy] at hx
          cases hx
          refine unref_row _ j y ?_
          rw [List.getElem?_map, List.getElem?_set_ne hij, membs, List.getElem?_map, hy]
          rfl
      rcases delPart (hf.at hg).1 with hd | hd <;> rw [hd] <;> simp only [Option.bind_some, hrow]
      · rw [show (unrefL (unrefD [⟨0, (.pair (.int .i64) (.int .i64)), (List.map frz1 ((membs t.1).set i (0, n.2.2.2.2.2.1)))⟩] tInoR) (List.set rows i (id, ((refI i n).2.1, (false, (false, (0, ((.inr none), (0, []))))))))) = _ from hfin]
        rfl
      · rw [show (unrefL (unrefD [⟨0, (.pair (.int .i64) (.int .i64)), (List.map frz1 ((membs t.1).set i (0, n.2.2.2.2.2.1)))⟩] tInoR) (List.set rows i (id, ((refI i n).2.1, (false, (false, (0, ((.inr none), (0, []))))))))) = _ from hfin]
        rfl
theorem refDrop {t : Tree} (hf : Fit t.1) (id : Int) : ref18_Drop fuel t id = some ((dropS t id).1.2, ((dropS t id).2.2, ((dropS t id).1.1, (dropS t id).2.1))) := by
  have hn := hf.n
  unfold ref18_Drop dropS
  rw [show ref18_Copied fuel (t.1, t.2) = some (t.2, t.1) from refCopied_ok hf, Option.bind_some, show ref18_Right fuel (t.1, t.2) = some (rightB t) from refRight hf, Option.bind_some]
  dsimp only
  cases hr : rightB t with
  | false => rfl
  | true =>
    simp only [Bool.not_true, cond_false, Bool.true_eq_false, if_false]
    rw [show ref18_is fuel (t.1, t.2) id true = some (isB t.1 id true) from refIs_ok hf id true, show ref18_is fuel (t.1, t.2) id false = some (isB t.1 id false) from refIs_ok hf id false]
    have key : ∀ (b : Bool), (b = true ↔ (id = 1 ∨ (isB t.1 id true = false ∧ isB t.1 id false = false))) → (bif (id == 1) then some (true, ((0 : Int), (t.2, t.1))) else
        (some (isB t.1 id true)).bind fun r2 => bif (!r2) then (some (isB t.1 id false)).bind fun r3 => some ((!r3), ((0 : Int), (t.2, t.1))) else some (false, ((0 : Int), (t.2, t.1)))) = some (b, ((0 : Int), (t.2, t.1))) := fun b hb => by
      by_cases h1 : id = 1
      · rw [show (id == 1) = true from by simp [h1], cond_true, hb.2 (.inl h1)]
      · rw [show (id == 1) = false from by simp [h1], cond_false, Option.bind_some]
        cases h2 : isB t.1 id true <;> cases h3 : isB t.1 id false <;> cases b <;> simp_all
    by_cases hq : id = 1 ∨ (isB t.1 id true = false ∧ isB t.1 id false = false)
    · rw [key true (by simp [hq]), Option.bind_some, if_pos hq]
      rfl
    · rw [key false (by simp only [Bool.false_eq_true, false_iff]; exact hq), Option.bind_some, if_neg hq]
      simp only [cond_false]
      have hb : ∃ d, isB t.1 id d = true := by
        cases h2 : isB t.1 id true with
        | true => exact ⟨_, h2⟩
        | false => cases h3 : isB t.1 id false with
          | true => exact ⟨_, h3⟩
          | false => exact absurd (.inr ⟨h2, h3⟩) hq
      obtain ⟨d, hb⟩ := hb
      obtain ⟨h1, hlt⟩ := is_lt hb
      obtain ⟨n, hg⟩ : ∃ n, t.1[(id - 1).toNat]? = some n := ⟨_, List.getElem?_eq_getElem hlt⟩
      have hsm := (hf.at hg).1
      have loop : ref18_Drop_l0_it fuel id (0, ((0 : Int), (t.2, (t.1, [])))) = some ((0 : Int), (t.2, (t.1, n.2.2.2.2.2.1.filter (fun p => !isGone p)))) := by
        unfold ref18_Drop_l0_it
        have := iter_range (f := fun (tt : Int × Int × Int × List Ino × List Part) => ref18_Drop_l0 fuel id tt.1 tt.2.1 tt.2.2.1 tt.2.2.2.1 tt.2.2.2.2) (o := ((0 : Int), (t.2, (t.1, n.2.2.2.2.2.1.filter (fun p => !isGone p))))) (fun k => ((k : Int), ((0 : Int), (t.2, (t.1, (n.2.2.2.2.2.1.take k).filter fun p => !isGone p))))) n.2.2.2.2.2.1.length (by omega) (fun k hk => by
          show ref18_Drop_l0 fuel id (k : Int) 0 t.2 t.1 ((n.2.2.2.2.2.1.take k).filter fun p => !isGone p) = some (.inl (((k + 1 : Nat) : Int), ((0 : Int), (t.2, (t.1, (n.2.2.2.2.2.1.take (k + 1)).filter fun p => !isGone p)))))
          obtain ⟨p, hp⟩ : ∃ p, n.2.2.2.2.2.1[k]? = some p := ⟨_, List.getElem?_eq_getElem hk⟩
          have hle : ((n.2.2.2.2.2.1.take k).filter fun p => !isGone p).length ≤ 100000 := by
            have h5 := List.length_filter_le (fun p => !isGone p) (n.2.2.2.2.2.1.take k)
            have h6 : (n.2.2.2.2.2.1.take k).length ≤ n.2.2.2.2.2.1.length := by rw [List.length_take]; omega
            omega
          rw [show n.2.2.2.2.2.1.take (k + 1) = n.2.2.2.2.2.1.take k ++ [p] from by rw [List.take_succ, hp]; rfl, filter_snoc]
          generalize (n.2.2.2.2.2.1.take k).filter (fun p => !isGone p) = G at hle ⊢
          unfold ref18_Drop_l0
          rw [w64 (by omega), idx_int (by omega) (by omega), Option.bind_some, hg]
          simp only [Option.bind_some, lt_dec hk, cond_true, hg]
          rw [idx_nat hk, Option.bind_some, hp]
          simp only [Option.bind_some]
          rw [need_true (by simp only [Bool.and_eq_true, Nat.ble_eq, roomIs]; omega), w64 (by omega)]
          show (Option.bind (bif !isGone p then _ else _) _) = _
          cases isGone p
          · rfl
          · simp only [Bool.not_true, cond_false, Option.bind_some, Bool.false_eq_true, if_false, List.append_nil]
            rfl) (by
          show ref18_Drop_l0 fuel id ((n.2.2.2.2.2.1.length : Nat) : Int) 0 t.2 t.1 ((n.2.2.2.2.2.1.take n.2.2.2.2.2.1.length).filter fun p => !isGone p) = _
          unfold ref18_Drop_l0
          rw [w64 (by omega), idx_int (by omega) (by omega), Option.bind_some, hg]
          simp only [Option.bind_some, nlt_dec (Nat.lt_irrefl _), cond_false, List.take_length])
        simpa using this
      rw [loop]
      simp only [Option.bind_some]
      rw [w64 (by omega), idx_int (by omega) (by omega)]
      simp only [Option.bind_some, hg]
      rfl
end Go.Ab.D

/- Layer 18: the same; not great; what stays small; right, reckoned; the chapter's examples. -/
namespace Go.Ab.D
open Go Go.Ab

/-! The same -/
theorem sameParts_refl {l : List Part} (h : l.length ≤ 100000) : kit_SameParts fuel l l = some true := by
  unfold kit_SameParts
  rw [show (((l.length : Nat) : Int) == ((l.length : Nat) : Int)) = true from by simp]
  simp only [Bool.not_true, cond_false]
  have loop : kit_SameParts_l0_it fuel l l 0 = some (.inl ()) := by
    unfold kit_SameParts_l0_it
    refine iter_range (f := fun tt => kit_SameParts_l0 fuel l l tt) (fun k => (k : Int)) l.length (by omega) (fun k hk => ?_) ?_
    · unfold kit_SameParts_l0
      obtain ⟨x, hx⟩ : ∃ x, l[k]? = some x := ⟨_, List.getElem?_eq_getElem hk⟩
      simp only [lt_dec hk, cond_true]
      rw [idx_nat hk]
      simp only [Option.bind_some, hx]
      rw [show ((x.1 == x.1) && (x.2 == x.2)) = true from by simp, w64 (by omega)]
      rfl
    · unfold kit_SameParts_l0
      simp only [nlt_dec (Nat.lt_irrefl _), cond_false]
  rw [loop]
  rfl
theorem sameEntries_refl {l : List Ent} (h : l.length ≤ 100000) : kit_SameEntries fuel l l = some true := by
  unfold kit_SameEntries
  rw [show (((l.length : Nat) : Int) == ((l.length : Nat) : Int)) = true from by simp]
  simp only [Bool.not_true, cond_false]
  have loop : kit_SameEntries_l0_it fuel l l 0 = some (.inl ()) := by
    unfold kit_SameEntries_l0_it
    refine iter_range (f := fun tt => kit_SameEntries_l0 fuel l l tt) (fun k => (k : Int)) l.length (by omega) (fun k hk => ?_) ?_
    · unfold kit_SameEntries_l0
      obtain ⟨x, hx⟩ : ∃ x, l[k]? = some x := ⟨_, List.getElem?_eq_getElem hk⟩
      simp only [lt_dec hk, cond_true]
      rw [idx_nat hk]
      simp only [Option.bind_some, hx]
      rw [show ((x.1 == x.1) && (x.2 == x.2)) = true from by simp, w64 (by omega)]
      rfl
    · unfold kit_SameEntries_l0
      simp only [nlt_dec (Nat.lt_irrefl _), cond_false]
  rw [loop]
  rfl
theorem sameInts_refl {l : List Int} (h : l.length ≤ 100000) : low_SameInts fuel l l = some true := by
  unfold low_SameInts
  rw [show (((l.length : Nat) : Int) == ((l.length : Nat) : Int)) = true from by simp]
  simp only [Bool.not_true, cond_false]
  have loop : low_SameInts_l0_it fuel l l 0 = some (.inl ()) := by
    unfold low_SameInts_l0_it
    refine iter_range (f := fun tt => low_SameInts_l0 fuel l l tt) (fun k => (k : Int)) l.length (by omega) (fun k hk => ?_) ?_
    · unfold low_SameInts_l0
      obtain ⟨x, hx⟩ : ∃ x, l[k]? = some x := ⟨_, List.getElem?_eq_getElem hk⟩
      simp only [lt_dec hk, cond_true]
      rw [idx_nat hk]
      simp only [Option.bind_some, hx]
      rw [show (x == x) = true from by simp, w64 (by omega)]
      rfl
    · unfold low_SameInts_l0
      simp only [nlt_dec (Nat.lt_irrefl _), cond_false]
  rw [loop]
  rfl
theorem sameInode_refl {n : Ino} (h : n.sm) : kit_SameInode fuel n n = some true := by
  unfold kit_SameInode
  simp only [beq_self_eq_true, cond_true]
  rw [sameParts_refl h.1]
  simp only [Option.bind_some, cond_true]
  rw [sameEntries_refl h.2]
  rfl
theorem sameTree_refl {t : Tree} (h : Fit t.1) : kit_SameTree fuel t t = some true := by
  have hn := h.n
  unfold kit_SameTree
  rw [show (t.2 == t.2) = true from by simp, show (((t.1.length : Nat) : Int) == ((t.1.length : Nat) : Int)) = true from by simp]
  simp only [Bool.not_true, cond_false, Option.bind_some]
  have loop : kit_SameTree_l0_it fuel (false, (t.1, (t.2, (t.1, t.2)))) (0, (t.1, (t.2, (t.1, t.2)))) = some (.inl ()) := by
    unfold kit_SameTree_l0_it
    refine iter_range (fun k => ((k : Int), (t.1, (t.2, (t.1, t.2))))) t.1.length (by omega) (fun k hk => ?_) ?_
    · dsimp only
      unfold kit_SameTree_l0
      obtain ⟨x, hx⟩ : ∃ x, t.1[k]? = some x := ⟨_, List.getElem?_eq_getElem hk⟩
      simp only [lt_dec hk, cond_true]
      rw [idx_nat hk]
      simp only [Option.bind_some, hx]
      rw [sameInode_refl (h.at hx), Option.bind_some, w64 (by omega)]
      rfl
    · dsimp only
      unfold kit_SameTree_l0
      simp only [nlt_dec (Nat.lt_irrefl _), cond_false]
  rw [loop]
  rfl

/-! Not great -/
theorem great_ok (t : Tree) : ∃ b, kit_Great fuel t = some b ∧ (b = false → t.1.length ≤ 40 ∧ ∀ n ∈ t.1, n.2.2.2.2.2.1.length ≤ 120 ∧ n.2.2.2.2.2.2.2.length ≤ 120) := by
  unfold kit_Great
  by_cases h0 : t.1.length > 40
  · rw [show decide (((t.1.length : Nat) : Int) > 40) = true from by simp; omega]
    exact ⟨true, rfl, by simp⟩
  rw [show decide (((t.1.length : Nat) : Int) > 40) = false from by simp; omega, cond_false]
  have loop : ∃ o, kit_Great_l1_it fuel t (0, (t.1, t.2)) = some o ∧ ((o = .inl () ∧ ∀ n ∈ t.1, n.2.2.2.2.2.1.length ≤ 120 ∧ n.2.2.2.2.2.2.2.length ≤ 120) ∨ o = .inr true) := by
    unfold kit_Great_l1_it
    refine iter_ex (fun m s => ∃ (k : Nat), s = ((k : Int), (t.1, t.2)) ∧ k + m = t.1.length ∧ ∀ (i : Nat) n, i < k → t.1[i]? = some n → n.2.2.2.2.2.1.length ≤ 120 ∧ n.2.2.2.2.2.2.2.length ≤ 120) _ (fun m s hI => ?_) (fun s hI => ?_) t.1.length _ (by omega) ⟨0, rfl, by omega, fun i n h => absurd h (Nat.not_lt_zero _)⟩
    · obtain ⟨k, rfl, hk, g1⟩ := hI
      have hlt : k < t.1.length := by omega
      obtain ⟨n, hg⟩ : ∃ n, t.1[k]? = some n := ⟨_, List.getElem?_eq_getElem hlt⟩
      unfold kit_Great_l1
      simp only [lt_dec hlt, cond_true]
      rw [idx_nat hlt]
      simp only [Option.bind_some, hg]
      by_cases h1 : n.2.2.2.2.2.1.length > 120
      · rw [show decide (((n.2.2.2.2.2.1.length : Nat) : Int) > 120) = true from by simp; omega]
        exact .inr ⟨_, rfl, .inr rfl⟩
      rw [show decide (((n.2.2.2.2.2.1.length : Nat) : Int) > 120) = false from by simp; omega, cond_false, Option.bind_some]
      by_cases h2 : n.2.2.2.2.2.2.2.length > 120
      · rw [show decide (((n.2.2.2.2.2.2.2.length : Nat) : Int) > 120) = true from by simp; omega]
        exact .inr ⟨_, rfl, .inr rfl⟩
      rw [show decide (((n.2.2.2.2.2.2.2.length : Nat) : Int) > 120) = false from by simp; omega]
      simp only [cond_false]
      rw [idx_nat hlt]
      simp only [Option.bind_some, hg]
      have inner : ∃ o, kit_Great_l0_it fuel n (k : Int) (0, (t.1, t.2)) = some o ∧ (o = .inl (t.1, t.2) ∨ o = .inr (.inr (.inr true))) := by
        unfold kit_Great_l0_it
        refine iter_ex (fun m s => ∃ (j : Nat), s = ((j : Int), (t.1, t.2)) ∧ j + m = n.2.2.2.2.2.2.2.length) _ (fun m s hI => ?_) (fun s hI => ?_) n.2.2.2.2.2.2.2.length _ (by omega) ⟨0, rfl, by omega⟩
        · obtain ⟨j, rfl, hj⟩ := hI
          have hjl : j < n.2.2.2.2.2.2.2.length := by omega
          obtain ⟨e, he⟩ : ∃ e, n.2.2.2.2.2.2.2[j]? = some e := ⟨_, List.getElem?_eq_getElem hjl⟩
          unfold kit_Great_l0
          simp only [lt_dec hjl, cond_true]
          rw [idx_nat hlt]
          simp only [Option.bind_some, hg]
          rw [idx_nat hjl]
          simp only [Option.bind_some, he]
          by_cases h3 : e.1.length > 3000
          · rw [show decide (((e.1.length : Nat) : Int) > 3000) = true from by simp; omega]
            exact .inr ⟨_, rfl, .inr rfl⟩
          · rw [show decide (((e.1.length : Nat) : Int) > 3000) = false from by simp; omega, w64 (by omega)]
            exact .inl ⟨_, rfl, j + 1, by simp, by omega⟩
        · obtain ⟨j, rfl, hj⟩ := hI
          have : j = n.2.2.2.2.2.2.2.length := by omega
          subst this
          unfold kit_Great_l0
          simp only [nlt_dec (Nat.lt_irrefl _), cond_false]
          exact ⟨_, rfl, .inl rfl⟩
      obtain ⟨o, ho, hq⟩ := inner
      rw [ho, Option.bind_some]
      rcases hq with rfl | rfl
      · rw [w64 (by omega)]
        refine .inl ⟨_, rfl, k + 1, by simp, by omega, fun i n' hi hg' => ?_⟩
        by_cases hik : i = k
        · subst hik; rw [hg] at hg'; cases hg'; omega
        · exact g1 i n' (by omega) hg'
      · exact .inr ⟨_, rfl, .inr rfl⟩
    · obtain ⟨k, rfl, hk, g1⟩ := hI
      have : k = t.1.length := by omega
      subst this
      unfold kit_Great_l1
      simp only [nlt_dec (Nat.lt_irrefl _), cond_false]
      refine ⟨_, rfl, .inl ⟨rfl, fun n hn => ?_⟩⟩
      obtain ⟨i, hi⟩ := List.getElem?_of_mem hn
      exact g1 i n (List.getElem?_eq_some_iff.1 hi).1 hi
  obtain ⟨o, ho, hq⟩ := loop
  rw [ho, Option.bind_some]
  rcases hq with ⟨rfl, hq⟩ | rfl
  · exact ⟨false, rfl, fun _ => ⟨by omega, hq⟩⟩
  · exact ⟨true, rfl, by simp⟩

/-! What stays small -/
theorem Fit.append {l : List Ino} (h : Fit l) (hl : l.length < 100000) {n : Ino} (hn : n.sm) : Fit (l ++ [n]) :=
  ⟨by simp; omega, fun m hm => by
    rcases List.mem_append.1 hm with h1 | h1
    · exact h.s m h1
    · simp at h1; exact h1 ▸ hn⟩
theorem fitAlloc {t : Tree} (h : Fit t.1) (hl : t.1.length < 100000) (d : Bool) (p : Int) : Fit (allocS t d p).1.1 := by
  unfold allocS
  split
  · exact h
  · split
    · exact h
    · split
      · split
        · exact h
        · exact h.append hl ⟨by simp [taken], by simp [taken]⟩
      · split
        · exact h
        · rename_i i _ _ n hg
          split
          · exact h
          · exact h.set i ⟨(h.at hg).1, (h.at hg).2⟩
theorem lenAlloc (t : Tree) (d : Bool) (p : Int) : (allocS t d p).1.1.length ≤ t.1.length + 1 := by
  unfold allocS
  split
  · simp
  · split
    · simp
    · split
      · split
        · simp
        · simp
      · split
        · simp
        · split
          · simp
          · simp
theorem fitDrop {t : Tree} (h : Fit t.1) (id : Int) : Fit (dropS t id).1.1 := by
  unfold dropS
  split
  · exact h
  · split
    · exact h
    · split
      · exact h
      · exact h.set _ ⟨by simp [emptied], by simp [emptied]⟩
theorem lenDrop (t : Tree) (id : Int) : (dropS t id).1.1.length = t.1.length := by
  unfold dropS
  split
  · rfl
  · split
    · rfl
    · split
      · rfl
      · simp
theorem fitSet {t : Tree} (h : Fit t.1) (id size : Int) (parts : List Part) (hp : parts.length ≤ 100000) : Fit (setS t id size parts).1.1 := by
  unfold setS
  split
  · exact h
  · split
    · exact h
    · split
      · exact h
      · rename_i n hg
        split
        · exact h
        · exact h.set _ ⟨hp, (h.at hg).2⟩
theorem lenSet (t : Tree) (id size : Int) (parts : List Part) : (setS t id size parts).1.1.length = t.1.length := by
  unfold setS
  split
  · rfl
  · split
    · rfl
    · split
      · rfl
      · split
        · rfl
        · simp
theorem freshList (t : Tree) (n : Int) : (freshS t n).1.1 = t.1 := by
  unfold freshS
  split
  · rfl
  · split
    · rfl
    · split <;> rfl
theorem freshLen (t : Tree) (n : Int) : (freshS t n).2.1.length ≤ 4096 := by
  unfold freshS
  split
  · simp
  · split
    · simp
    · split
      · simp
      · simp [run]; omega

/-! Right, reckoned -/
def okPartB (stripe : Int) (p : Part) : Bool := (decide (p.1 = 0) && decide (p.2 = 0)) || (decide (1 ≤ p.1) && decide (p.1 ≤ stripe) && decide (1 ≤ p.2) && decide (p.2 ≤ 1099511627776))
theorem okPartB_iff {s : Int} {p : Part} : okPartB s p = true ↔ okPart s p := by
  simp only [okPartB, okPart, Bool.or_eq_true, Bool.and_eq_true, decide_eq_true_eq, and_assoc]
def okEntsB (many : Int) : List UInt8 → List Ent → Bool
  | _, [] => true
  | last, e :: r => decide (1 ≤ e.1.length) && decide (e.1.length ≤ 30) && Op.bytesLess last e.1 && decide (1 ≤ e.2) && decide (e.2 ≤ many) && okEntsB many e.1 r
theorem okEntsB_iff {many : Int} : ∀ {l : List Ent} {last : List UInt8}, okEntsB many last l = true ↔ okEnts many last l
  | [], last => by simp [okEntsB, okEnts]
  | e :: r, last => by
    rw [okEnts_cons, ← okEntsB_iff]
    simp only [okEntsB, Bool.and_eq_true, decide_eq_true_eq, and_assoc]
def okInoB (many stripe : Int) (i : Nat) (n : Ino) : Bool :=
  decide (n.1 = i + 1) && decide (1 ≤ n.2.1) && decide (n.2.1 ≤ 1099511627776) &&
  (if n.2.2.1 = true then
    decide (1 ≤ n.2.2.2.2.2.2.1) && decide (n.2.2.2.2.2.2.1 ≤ many) &&
    (if n.2.2.2.1 = true then decide (n.2.2.2.2.1 = 0) && decide (n.2.2.2.2.2.1 = []) && decide (n.2.2.2.2.2.2.2.length ≤ 100) && okEntsB many [] n.2.2.2.2.2.2.2
     else decide (0 ≤ n.2.2.2.2.1) && decide (n.2.2.2.2.1 ≤ 65536) && decide (n.2.2.2.2.2.2.2 = []) && decide (n.2.2.2.2.2.1.length ≤ 4096) && n.2.2.2.2.2.1.all (okPartB stripe))
   else !n.2.2.2.1 && decide (n.2.2.2.2.1 = 0) && decide (n.2.2.2.2.2.2.1 = 0) && decide (n.2.2.2.2.2.1 = []) && decide (n.2.2.2.2.2.2.2 = []))
theorem okInoB_iff {many stripe : Int} {i : Nat} {n : Ino} : okInoB many stripe i n = true ↔ okIno many stripe i n := by
  obtain ⟨id, gen, used, dir, size, parts, parent, ents⟩ := n
  unfold okInoB
  constructor
  · intro h
    cases used <;> cases dir <;> simp [okEntsB_iff, okPartB_iff] at h
    · exact ⟨h.1.1.1, ⟨h.1.1.2, h.1.2⟩, by simp, by simp, by simp, fun _ => ⟨rfl, h.2.1.1.1, h.2.1.1.2, h.2.1.2, h.2.2⟩⟩
    · exact ⟨h.1.1.1, ⟨h.1.1.2, h.1.2⟩, fun _ => ⟨h.2.1.1, h.2.1.2⟩, by simp, fun _ _ => ⟨⟨h.2.2.1.1.1.1, h.2.2.1.1.1.2⟩, h.2.2.1.1.2, h.2.2.1.2, fun p hp => h.2.2.2 p.1 p.2 hp⟩, by simp⟩
    · exact ⟨h.1.1.1, ⟨h.1.1.2, h.1.2⟩, fun _ => ⟨h.2.1.1, h.2.1.2⟩, fun _ _ => ⟨h.2.2.1.1.1, h.2.2.1.1.2, h.2.2.1.2, h.2.2.2⟩, by simp, by simp⟩
  · intro h
    obtain ⟨h1, h2, h3, h4, h5, h6⟩ := h
    cases used <;> cases dir <;> simp [okEntsB_iff, okPartB_iff] at h1 h2 h3 h4 h5 h6 ⊢
    · exact ⟨⟨⟨h1, h2.1⟩, h2.2⟩, ⟨⟨⟨h6.1, h6.2.1⟩, h6.2.2.1⟩, h6.2.2.2⟩⟩
    · exact ⟨⟨⟨h1, h2.1⟩, h2.2⟩, ⟨h3.1, h3.2⟩, ⟨⟨⟨h5.1.1, h5.1.2⟩, h5.2.1⟩, h5.2.2.1⟩, h5.2.2.2⟩
    · exact ⟨⟨⟨h1, h2.1⟩, h2.2⟩, ⟨h3.1, h3.2⟩, ⟨⟨h4.1, h4.2.1⟩, h4.2.2.1⟩, h4.2.2.2⟩
def rightC (t : Tree) : Bool :=
  decide (1 ≤ t.1.length) && decide (t.1.length ≤ 500) && decide (0 ≤ t.2) && decide (t.2 ≤ 1099511627776) &&
  ((List.range t.1.length).all fun i => match t.1[i]? with | some n => okInoB t.1.length t.2 i n | none => true) &&
  decide (allStripes t.1).Nodup && (match t.1[0]? with | some r => r.2.2.1 && r.2.2.2.1 && decide (r.2.2.2.2.2.2.1 = 1) | none => false)
theorem rightC_iff {t : Tree} : rightC t = true ↔ RightP t := by
  unfold rightC
  simp only [Bool.and_eq_true, decide_eq_true_eq, List.all_eq_true, List.mem_range]
  constructor
  · rintro ⟨⟨⟨⟨⟨⟨h1, h2⟩, h3⟩, h4⟩, h5⟩, h6⟩, h7⟩
    refine ⟨⟨h1, h2⟩, ⟨h3, h4⟩, fun i n hg => ?_, h6, ?_⟩
    · have := h5 i (List.getElem?_eq_some_iff.1 hg).1
      rw [hg] at this
      exact okInoB_iff.1 this
    · cases hg : t.1[0]? with
      | none => rw [hg] at h7; simp at h7
      | some r =>
        rw [hg] at h7
        simp only [Bool.and_eq_true, decide_eq_true_eq] at h7
        exact ⟨r, rfl, h7.1.1, h7.1.2, h7.2⟩
  · intro h
    refine ⟨⟨⟨⟨⟨⟨h.len.1, h.len.2⟩, h.str.1⟩, h.str.2⟩, fun i hi => ?_⟩, h.nod⟩, ?_⟩
    · rw [List.getElem?_eq_getElem hi]
      exact okInoB_iff.2 (h.ino i _ (List.getElem?_eq_getElem hi))
    · obtain ⟨r, hg, h1, h2, h3⟩ := h.root
      rw [hg]
      simp [h1, h2, h3]
theorem rightB_eq (t : Tree) : rightB t = rightC t := Bool.eq_iff_iff.2 (rightB_iff.trans rightC_iff.symm)
end Go.Ab.D

/- Layer 18: the chapter's examples; InodeTells. -/
namespace Go.Ab.D
open Go Go.Ab

def root1 : Ino := (1, 1, true, true, 0, [], 1, [])
def fileN (id gen : Int) : Ino := (id, gen, true, false, 0, [], 1, [])
theorem ex1 : allocS ([root1], 0) false 1 = (([root1, fileN 2 1], 0), (2, 1), 0) := by unfold allocS; simp only [rightB_eq]; rfl
theorem ex2 : dropS ([root1, fileN 2 1], 0) 2 = (([root1, (2, 1, false, false, 0, [], 0, [])], 0), [], 0) := by unfold dropS; simp only [rightB_eq]; rfl
theorem ex3 : getS ([root1, (2, 1, false, false, 0, [], 0, [])], 0) (2, 1) = (zeroI, 170) := by rfl
theorem ex4 : allocS ([root1, (2, 1, false, false, 0, [], 0, [])], 0) false 1 = (([root1, fileN 2 2], 0), (2, 2), 0) := by unfold allocS; simp only [rightB_eq]; rfl
theorem ex5 : freshS ([root1, fileN 2 2], 0) 3 = (([root1, fileN 2 2], 3), [1, 2, 3], 0) := by unfold freshS; simp only [rightB_eq]; rfl
theorem ex6 : freshS ([root1, fileN 2 2], 3) 1 = (([root1, fileN 2 2], 4), [4], 0) := by unfold freshS; simp only [rightB_eq]; rfl
theorem fitC {l : List Ino} (h : (decide (l.length ≤ 100000) && l.all fun n => decide (n.2.2.2.2.2.1.length ≤ 100000) && decide (n.2.2.2.2.2.2.2.length ≤ 100000)) = true) : Fit l := by
  simp only [Bool.and_eq_true, decide_eq_true_eq, List.all_eq_true] at h
  exact ⟨h.1, fun n hn => h.2 n hn⟩
theorem awake18_ok : law18_awake fuel = some true := by
  unfold law18_awake inode_New
  rw [Option.bind_some]
  rw [show inode_Alloc fuel ([(1, (1, (true, (true, (0, ([], (1, [])))))))], 0) false 1 = _ from (inoAlloc (t := ([root1], 0)) (fitC rfl) false 1).trans (by rw [ex1]), Option.bind_some]
  rw [show inode_Drop fuel ((outA (([root1, fileN 2 1], 0), (2, 1), 0)).2.2.2.2, (outA (([root1, fileN 2 1], 0), (2, 1), 0)).1) 2 = _ from (inoDrop (t := ([root1, fileN 2 1], 0)) (fitC rfl) 2).trans (by rw [ex2]), Option.bind_some]
  dsimp only
  rw [show inode_Get fuel ([root1, (2, 1, false, false, 0, [], 0, [])], 0) ((outA (([root1, fileN 2 1], 0), (2, 1), 0)).2.1, (outA (([root1, fileN 2 1], 0), (2, 1), 0)).2.2.1) = _ from (inoGet (t := ([root1, (2, 1, false, false, 0, [], 0, [])], 0)) (fitC rfl) (2, 1)).trans (by rw [ex3]), Option.bind_some]
  rw [show inode_Alloc fuel ([root1, (2, 1, false, false, 0, [], 0, [])], 0) false 1 = _ from (inoAlloc (t := ([root1, (2, 1, false, false, 0, [], 0, [])], 0)) (fitC rfl) false 1).trans (by rw [ex4]), Option.bind_some]
  rw [show inode_Fresh fuel ((outA (([root1, fileN 2 2], 0), (2, 2), 0)).2.2.2.2, (outA (([root1, fileN 2 2], 0), (2, 2), 0)).1) 3 = _ from (inoFresh (t := ([root1, fileN 2 2], 0)) (fitC rfl) 3).trans (by rw [ex5]), Option.bind_some]
  rw [show inode_Fresh fuel ((outF (([root1, fileN 2 2], 3), [1, 2, 3], 0)).2.2.1, (outF (([root1, fileN 2 2], 3), [1, 2, 3], 0)).1) 1 = _ from (inoFresh (t := ([root1, fileN 2 2], 3)) (fitC rfl) 1).trans (by rw [ex6]), Option.bind_some]
  rw [show low_SameInts fuel (outF (([root1, fileN 2 2], 3), [1, 2, 3], 0)).2.2.2 [1, 2, 3] = some true from sameInts_refl (by decide), show low_SameInts fuel (outF (([root1, fileN 2 2], 4), [4], 0)).2.2.2 [4] = some true from sameInts_refl (by decide)]
  rfl
theorem getSm {t : Tree} (h : Fit t.1) (x : Int × Int) : (getS t x).1.sm := by
  unfold getS
  split
  · exact ⟨by simp [zeroI], by simp [zeroI]⟩
  · split
    · exact ⟨by simp [zeroI], by simp [zeroI]⟩
    · rename_i n hg
      split
      · exact h.at hg
      · exact ⟨by simp [zeroI], by simp [zeroI]⟩
theorem dropLen {t : Tree} (h : Fit t.1) (id : Int) : (dropS t id).2.1.length ≤ 100000 := by
  unfold dropS
  split
  · simp
  · split
    · simp
    · split
      · simp
      · rename_i n hg
        have h1 := (h.at hg).1
        have h2 := List.length_filter_le (fun p => !isGone p) n.2.2.2.2.2.1
        dsimp only
        omega
theorem law18_InodeTells_true (t : Tree) (x : ((Int × Int) × (Int × (Bool × (Int × (List Part × Int))))))
    (k1 : OkV (.pair (.sl (.pair (.int .i64) (.pair (.int .i64) (.pair .bool (.pair .bool (.pair (.int .i64) (.pair (.sl (.pair (.int .i64) (.int .i64))) (.pair (.int .i64) (.sl (.pair .str (.int .i64))))))))))) (.int .i64)) t)
    (k2 : OkV (.pair (.pair (.int .i64) (.int .i64)) (.pair (.int .i64) (.pair .bool (.pair (.int .i64) (.pair (.sl (.pair (.int .i64) (.int .i64))) (.int .i64)))))) x) :
    law18_InodeTells fuel t x = some true := by
  unfold law18_InodeTells
  obtain ⟨b, hb, hb'⟩ := great_ok t
  rw [show kit_Great fuel (t.1, t.2) = some b from hb, Option.bind_some]
  cases b with
  | true =>
    simp only [cond_true, Option.bind_some]
    rw [awake18_ok]
    rfl
  | false =>
    obtain ⟨hlen, hsm⟩ := hb' rfl
    have hf : Fit t.1 := ⟨by omega, fun n hn => ⟨by have := (hsm n hn).1; omega, by have := (hsm n hn).2; omega⟩⟩
    simp only [cond_false, Option.bind_some]
    cases hN : decide (x.2.2.2.2.2 > 8192) with
    | true =>
      simp only [cond_true]
      rw [awake18_ok]
      rfl
    | false =>
      simp only [cond_false]
      have hup : upto? (if 120 < ((x.2.2.2.2.1.length : Nat) : Int) then 120 else ((x.2.2.2.2.1.length : Nat) : Int)) x.2.2.2.2.1.length = some (min 120 x.2.2.2.2.1.length) := by
        by_cases h : 120 < x.2.2.2.2.1.length
        · rw [if_pos (by omega), show (120 : Int) = ((120 : Nat) : Int) from rfl, upto_nat (by omega), Nat.min_eq_left (by omega)]
        · rw [if_neg (by omega), upto_nat (Nat.le_refl _), Nat.min_eq_right (by omega)]
      rw [hup, Option.bind_some]
      have hpl : (List.take (min 120 x.2.2.2.2.1.length) x.2.2.2.2.1).length ≤ 100000 := by rw [List.length_take]; omega
      have hx : -9223372036854775808 ≤ x.1.1 ∧ x.1.1 ≤ 9223372036854775807 := k2.1.1
      rw [show inode_Get fuel (t.1, t.2) (x.1.1, x.1.2) = _ from inoGet hf x.1, Option.bind_some, show ref18_Get fuel (t.1, t.2) (x.1.1, x.1.2) = _ from refGet hf x.1 hx, Option.bind_some]
      rw [show inode_Alloc fuel (t.1, t.2) x.2.2.1 x.2.1 = _ from inoAlloc hf _ _, Option.bind_some, show ref18_Alloc fuel (t.1, t.2) x.2.2.1 x.2.1 = _ from refAlloc hf _ _, Option.bind_some]
      rw [show kit_SameInode fuel ((outG (getS t x.1)).1, ((outG (getS t x.1)).2.1, ((outG (getS t x.1)).2.2.1, ((outG (getS t x.1)).2.2.2.1, ((outG (getS t x.1)).2.2.2.2.1, ((outG (getS t x.1)).2.2.2.2.2.1, ((outG (getS t x.1)).2.2.2.2.2.2.1, (outG (getS t x.1)).2.2.2.2.2.2.2.1))))))) ((outG (getS t x.1)).1, ((outG (getS t x.1)).2.1, ((outG (getS t x.1)).2.2.1, ((outG (getS t x.1)).2.2.2.1, ((outG (getS t x.1)).2.2.2.2.1, ((outG (getS t x.1)).2.2.2.2.2.1, ((outG (getS t x.1)).2.2.2.2.2.2.1, (outG (getS t x.1)).2.2.2.2.2.2.2.1))))))) = some true from sameInode_refl (getSm hf x.1)]
      simp only [Option.bind_some, Bool.not_true, cond_false, beq_self_eq_true, Bool.and_self]
      rw [show kit_SameTree fuel ((outA (allocS t x.2.2.1 x.2.1)).2.2.2.2, (outA (allocS t x.2.2.1 x.2.1)).1) ((outA (allocS t x.2.2.1 x.2.1)).2.2.2.2, (outA (allocS t x.2.2.1 x.2.1)).1) = some true from sameTree_refl (fitAlloc hf (by omega) _ _)]
      simp only [Option.bind_some, Bool.not_true, cond_false]
      rw [show inode_Right fuel (t.1, t.2) = _ from inoRight hf, show ref18_Right fuel (t.1, t.2) = _ from refRight hf]
      simp only [Option.bind_some, beq_self_eq_true, Bool.not_true, cond_false]
      unfold inode_New ref18_New
      simp only [Option.bind_some]
      rw [show kit_SameTree fuel ([(1, (1, (true, (true, (0, ([], (1, [])))))))], 0) ([(1, (1, (true, (true, (0, ([], (1, [])))))))], 0) = some true from sameTree_refl (t := ([root1], 0)) (fitC rfl)]
      simp only [Option.bind_some, Bool.not_true, cond_false]
      rw [show inode_Drop fuel (t.1, t.2) x.2.1 = _ from inoDrop hf _, Option.bind_some, show ref18_Drop fuel (t.1, t.2) x.2.1 = _ from refDrop hf _, Option.bind_some]
      rw [show inode_Set fuel (t.1, t.2) x.2.1 x.2.2.2.1 (List.take (min 120 x.2.2.2.2.1.length) x.2.2.2.2.1) = _ from inoSet hf _ _ _ hpl, Option.bind_some, show ref18_Set fuel (t.1, t.2) x.2.1 x.2.2.2.1 (List.take (min 120 x.2.2.2.2.1.length) x.2.2.2.2.1) = _ from refSet hf _ _ _ hpl, Option.bind_some]
      rw [show kit_SameTree fuel ((dropS t x.2.1).1.1, (dropS t x.2.1).1.2) ((dropS t x.2.1).1.1, (dropS t x.2.1).1.2) = some true from sameTree_refl (fitDrop hf _)]
      simp only [Option.bind_some, Bool.not_true, cond_false]
      rw [sameParts_refl (dropLen hf _)]
      simp only [Option.bind_some, Bool.not_true, cond_false, beq_self_eq_true]
      rw [show kit_SameTree fuel ((outS (setS t x.2.1 x.2.2.2.1 (List.take (min 120 x.2.2.2.2.1.length) x.2.2.2.2.1))).2.2, (outS (setS t x.2.1 x.2.2.2.1 (List.take (min 120 x.2.2.2.2.1.length) x.2.2.2.2.1))).1) ((outS (setS t x.2.1 x.2.2.2.1 (List.take (min 120 x.2.2.2.2.1.length) x.2.2.2.2.1))).2.2, (outS (setS t x.2.1 x.2.2.2.1 (List.take (min 120 x.2.2.2.2.1.length) x.2.2.2.2.1))).1) = some true from sameTree_refl (fitSet hf _ _ _ hpl)]
      simp only [Option.bind_some, Bool.not_true, cond_false]
      rw [show inode_Fresh fuel (t.1, t.2) x.2.2.2.2.2 = _ from inoFresh hf _, Option.bind_some, show ref18_Fresh fuel (t.1, t.2) x.2.2.2.2.2 = _ from refFresh hf _, Option.bind_some]
      rw [show kit_SameTree fuel ((outF (freshS t x.2.2.2.2.2)).2.2.1, (outF (freshS t x.2.2.2.2.2)).1) ((outF (freshS t x.2.2.2.2.2)).2.2.1, (outF (freshS t x.2.2.2.2.2)).1) = some true from sameTree_refl (by show Fit (freshS t x.2.2.2.2.2).1.1; rw [freshList]; exact hf)]
      simp only [Option.bind_some, cond_true]
      rw [show low_SameInts fuel (outF (freshS t x.2.2.2.2.2)).2.2.2 (outF (freshS t x.2.2.2.2.2)).2.2.2 = some true from sameInts_refl (by have := freshLen t x.2.2.2.2.2; show (freshS t x.2.2.2.2.2).2.1.length ≤ _; omega)]
      simp only [Option.bind_some, cond_true]
      rw [awake18_ok]
      simp only [beq_self_eq_true, cond_true, Option.bind_some]
end Go.Ab.D

/- Layer 18: InodeFresh. -/
namespace Go.Ab.D
open Go Go.Ab

def fileP (id size : Int) (p : List Part) : Ino := (id, 1, true, false, size, p, 1, [])
def L3 (z2 z3 : Int) (p2 p3 : List Part) : List Ino := [root1, fileP 2 z2 p2, fileP 3 z3 p3]
theorem right3 {s z2 z3 : Int} {p2 p3 : List Part} (hs : 0 ≤ s ∧ s ≤ 1099511627776) (h2 : 0 ≤ z2 ∧ z2 ≤ 65536) (h3 : 0 ≤ z3 ∧ z3 ≤ 65536) (l2 : p2.length ≤ 4096) (l3 : p3.length ≤ 4096) :
    RightP (L3 z2 z3 p2 p3, s) ↔ (∀ p ∈ p2, okPart s p) ∧ (∀ p ∈ p3, okPart s p) ∧ (stripes p2 ++ stripes p3).Nodup := by
  have hall : allStripes (L3 z2 z3 p2 p3) = stripes p2 ++ stripes p3 := by
    simp [allStripes, L3, root1, fileP, stripes]
  constructor
  · intro h
    have a2 := ((h.ino 1 (fileP 2 z2 p2) rfl).file rfl rfl).2.2.2
    have a3 := ((h.ino 2 (fileP 3 z3 p3) rfl).file rfl rfl).2.2.2
    have hn := h.nod
    rw [hall] at hn
    exact ⟨a2, a3, hn⟩
  · rintro ⟨a2, a3, hn⟩
    refine ⟨⟨by simp [L3], by simp [L3]⟩, hs, fun i n hg => ?_, by rw [hall]; exact hn, root1, rfl, rfl, rfl, rfl⟩
    match i, hg with
    | 0, hg =>
      simp [L3] at hg; subst hg
      exact ⟨rfl, by simp [root1], by simp [root1, L3], fun _ _ => ⟨rfl, rfl, by simp [root1], by simp [root1, okEnts]⟩, by simp [root1], by simp [root1]⟩
    | 1, hg =>
      simp [L3] at hg; subst hg
      exact ⟨rfl, by simp [fileP], by simp [fileP, L3], by simp [fileP], fun _ _ => ⟨h2, rfl, l2, a2⟩, by simp [fileP]⟩
    | 2, hg =>
      simp [L3] at hg; subst hg
      exact ⟨rfl, by simp [fileP], by simp [fileP, L3], by simp [fileP], fun _ _ => ⟨h3, rfl, l3, a3⟩, by simp [fileP]⟩
    | i + 3, hg => simp [L3] at hg
theorem fit3 {z2 z3 : Int} {p2 p3 : List Part} (l2 : p2.length ≤ 100000) (l3 : p3.length ≤ 100000) : Fit (L3 z2 z3 p2 p3) :=
  ⟨by simp [L3], fun n hn => by
    simp [L3] at hn
    rcases hn with rfl | rfl | rfl
    · exact ⟨by simp [root1], by simp [root1]⟩
    · exact ⟨l2, by simp [fileP]⟩
    · exact ⟨l3, by simp [fileP]⟩⟩
theorem ex7 : allocS ([root1, fileN 2 1], 0) false 1 = (([root1, fileN 2 1, fileN 3 1], 0), (3, 1), 0) := by unfold allocS; simp only [rightB_eq]; rfl
theorem isB2 (z2 z3 : Int) (p2 p3 : List Part) : isB (L3 z2 z3 p2 p3) 2 false = true := rfl
theorem isB3 (z2 z3 : Int) (p2 p3 : List Part) : isB (L3 z2 z3 p2 p3) 3 false = true := rfl
/-- What Set makes of such a table. -/
theorem set2 {s z2 z3 : Int} {p2 p3 : List Part} (h : rightB (L3 z2 z3 p2 p3, s) = true) (z : Int) (p : List Part) :
    setS (L3 z2 z3 p2 p3, s) 2 z p = if rightB (L3 z z3 p p3, s) = false then ((L3 z2 z3 p2 p3, s), 177) else ((L3 z z3 p p3, s), 0) := by
  unfold setS
  rw [h, isB2]
  rfl
theorem set3 {s z2 z3 : Int} {p2 p3 : List Part} (h : rightB (L3 z2 z3 p2 p3, s) = true) (z : Int) (p : List Part) :
    setS (L3 z2 z3 p2 p3, s) 3 z p = if rightB (L3 z2 z p2 p, s) = false then ((L3 z2 z3 p2 p3, s), 177) else ((L3 z2 z p2 p, s), 0) := by
  unfold setS
  rw [h, isB3]
  rfl
theorem rightF {t : Tree} (h : ¬ RightP t) : rightB t = false := by
  cases hb : rightB t with
  | false => rfl
  | true => exact absurd (rightB_iff.1 hb) h
theorem right30 {s : Int} (hs : 0 ≤ s ∧ s ≤ 1099511627776) : rightB (L3 0 0 [] [], s) = true := rightB_iff.2 ((right3 hs (by omega) (by omega) (by simp) (by simp)).2 ⟨by simp, by simp, by simp [stripes]⟩)
theorem run_get (s : Int) {n k : Nat} (h : k < n) : (run s n)[k]? = some (s + 1 + k) := by simp [run, h]
theorem run_len (s : Int) (n : Nat) : (run s n).length = n := by simp [run]
theorem law18_InodeFresh_true (l : List UInt8) (_k1 : OkV (.sl .byte) l) : law18_InodeFresh fuel l = some true := by
  unfold law18_InodeFresh inode_New
  rw [Option.bind_some]
  rw [show inode_Alloc fuel ([(1, (1, (true, (true, (0, ([], (1, [])))))))], 0) false 1 = _ from (inoAlloc (t := ([root1], 0)) (fitC rfl) false 1).trans (by rw [ex1]), Option.bind_some]
  rw [show inode_Alloc fuel ((outA (([root1, fileN 2 1], 0), (2, 1), 0)).2.2.2.2, (outA (([root1, fileN 2 1], 0), (2, 1), 0)).1) false 1 = _ from (inoAlloc (t := ([root1, fileN 2 1], 0)) (fitC rfl) false 1).trans (by rw [ex7]), Option.bind_some]
  rw [show (bif (!((outA (([root1, fileN 2 1], 0), (2, 1), 0)).2.2.2.1 == 0)) then
      some (true, ((outA (([root1, fileN 2 1, fileN 3 1], 0), (3, 1), 0)).1, ((outA (([root1, fileN 2 1, fileN 3 1], 0), (3, 1), 0)).2.2.2.2, ((outA (([root1, fileN 2 1], 0), (2, 1), 0)).2.1, ((outA (([root1, fileN 2 1], 0), (2, 1), 0)).2.2.1, ((outA (([root1, fileN 2 1, fileN 3 1], 0), (3, 1), 0)).2.1, (outA (([root1, fileN 2 1, fileN 3 1], 0), (3, 1), 0)).2.2.1))))))
    else
      some ((!((outA (([root1, fileN 2 1, fileN 3 1], 0), (3, 1), 0)).2.2.2.1 == 0)), ((outA (([root1, fileN 2 1, fileN 3 1], 0), (3, 1), 0)).1, ((outA (([root1, fileN 2 1, fileN 3 1], 0), (3, 1), 0)).2.2.2.2, ((outA (([root1, fileN 2 1], 0), (2, 1), 0)).2.1, ((outA (([root1, fileN 2 1], 0), (2, 1), 0)).2.2.1, ((outA (([root1, fileN 2 1, fileN 3 1], 0), (3, 1), 0)).2.1, (outA (([root1, fileN 2 1, fileN 3 1], 0), (3, 1), 0)).2.2.1))))))) = some (false, ((0 : Int), (L3 0 0 [] [], ((2 : Int), ((1 : Int), ((3 : Int), (1 : Int))))))) from rfl, Option.bind_some]
  simp only [cond_false]
  have loop : ∃ o, law18_InodeFresh_l1_it fuel l (0, (0, ((0 : Int), (L3 0 0 [] [], ((2 : Int), ((1 : Int), ((3 : Int), (1 : Int)))))))) = some o ∧ ∃ s : Int, (0 ≤ s ∧ s ≤ 1000) ∧ o = .inl (s, (s, (L3 0 0 [] [], ((2 : Int), ((1 : Int), ((3 : Int), (1 : Int))))))) := by
    unfold law18_InodeFresh_l1_it
    refine iter_ex (fun m st => ∃ (i : Nat) (s : Int), st = (s, ((i : Int), (s, (L3 0 0 [] [], ((2 : Int), ((1 : Int), ((3 : Int), (1 : Int)))))))) ∧ i + m = 20 ∧ 0 ≤ s ∧ s ≤ 10 * i) _ (fun m st hI => ?_) (fun st hI => ?_) 20 _ (by omega) ⟨0, 0, rfl, by omega, by omega, by omega⟩
    · obtain ⟨i, s, rfl, hi, hs0, hs1⟩ := hI
      have hd20 : decide ((i : Int) < 20) = true := by simp; omega
      by_cases hlt : i < l.length
      · left
        obtain ⟨b, hb⟩ : ∃ b, l[i]? = some b := ⟨_, List.getElem?_eq_getElem hlt⟩
        have hN : (IntKind.wrap .i64 (Int.tmod ((b.toNat : Nat) : Int) 10)) = ((b.toNat % 10 : Nat) : Int) := by
          rw [show (10 : Int) = ((10 : Nat) : Int) from rfl, ← Int.ofNat_tmod]
          exact w64 (by omega)
        generalize hk : b.toNat % 10 = n at hN
        have hn10 : n < 10 := by omega
        refine ⟨(s + n, (((i : Int) + 1), (s + n, (L3 0 0 [] [], ((2 : Int), ((1 : Int), ((3 : Int), (1 : Int)))))))), ?_, i + 1, s + n, by simp, by omega, by omega, by omega⟩
        unfold law18_InodeFresh_l1
        simp only [lt_dec hlt, hd20, cond_true, Option.bind_some]
        rw [idx_nat hlt]
        simp only [Option.bind_some, hb]
        rw [hN]
        have hfr : freshS (L3 0 0 [] [], s) (n : Int) = ((L3 0 0 [] [], s + n), run s n, 0) := by
          unfold freshS
          rw [right30 (by omega), if_neg (by simp), if_neg (by omega), if_neg (by dsimp only; omega)]
          rfl
        rw [show inode_Fresh fuel (L3 0 0 [] [], s) (n : Int) = _ from (inoFresh (t := (L3 0 0 [] [], s)) (fit3 (by simp) (by simp)) (n : Int)).trans (by rw [hfr])]
        simp only [Option.bind_some]
        rw [show ((outF ((L3 0 0 [] [], s + n), run s n, 0)).2.1 == 0) = true from rfl, show (((outF ((L3 0 0 [] [], s + (n : Int)), run s n, 0)).2.2.2.length : Nat) : Int) = (n : Int) from by show (((run s n).length : Nat) : Int) = _; rw [run_len]]
        simp only [Bool.not_true, cond_false, beq_self_eq_true, Option.bind_some]
        have inner : law18_InodeFresh_l0_it fuel (false, (s, (L3 0 0 [] [], ((2 : Int), ((1 : Int), ((3 : Int), ((1 : Int), (s + (n : Int), (L3 0 0 [] [], run s n))))))))) (s, (0, (s, (L3 0 0 [] [], ((2 : Int), ((1 : Int), ((3 : Int), ((1 : Int), (s + (n : Int), (L3 0 0 [] [], run s n)))))))))) = some (.inl (s + (n : Int), (s, (L3 0 0 [] [], ((2 : Int), ((1 : Int), ((3 : Int), ((1 : Int), (s + (n : Int), L3 0 0 [] [])))))))))  := by
          unfold law18_InodeFresh_l0_it
          refine iter_rel (fun m st => ∃ (k : Nat), st = (s + (k : Int), ((k : Int), (s, (L3 0 0 [] [], ((2 : Int), ((1 : Int), ((3 : Int), ((1 : Int), (s + (n : Int), (L3 0 0 [] [], run s n)))))))))) ∧ k + m = n) (fun m st hI => ?_) (fun st hI => ?_) n _ (by omega) ⟨0, by simp, by omega⟩
          · obtain ⟨k, rfl, hk2⟩ := hI
            have hkn : k < n := by omega
            have hkl : k < (run s n).length := by rw [run_len]; exact hkn
            refine ⟨(s + ((k + 1 : Nat) : Int), (((k + 1 : Nat) : Int), _)), ?_, k + 1, rfl, by omega⟩
            unfold law18_InodeFresh_l0
            simp only [lt_dec hkl, cond_true]
            rw [idx_nat hkl]
            simp only [Option.bind_some, run_get s hkn]
            rw [w64 (by omega), w64 (by omega), show s + 1 + (k : Int) = s + (k : Int) + 1 from by omega]
            rw [show (s + (k : Int) + 1 == s + (k : Int) + 1) = true from by simp]
            simp only [Bool.not_true, cond_false]
            rw [show s + (k : Int) + 1 = s + ((k + 1 : Nat) : Int) from by omega]
            rfl
          · obtain ⟨k, rfl, hk2⟩ := hI
            have : k = n := by omega
            subst this
            unfold law18_InodeFresh_l0
            simp only [run_len]
            simp only [nlt_dec (Nat.lt_irrefl _), cond_false]
        rw [show law18_InodeFresh_l0_it fuel (false, (s, (L3 0 0 [] [], ((2 : Int), ((1 : Int), ((3 : Int), ((1 : Int), ((outF ((L3 0 0 [] [], s + (n : Int)), run s n, 0)).1, ((outF ((L3 0 0 [] [], s + (n : Int)), run s n, 0)).2.2.1, (outF ((L3 0 0 [] [], s + (n : Int)), run s n, 0)).2.2.2))))))))) (s, (0, (s, (L3 0 0 [] [], ((2 : Int), ((1 : Int), ((3 : Int), ((1 : Int), ((outF ((L3 0 0 [] [], s + (n : Int)), run s n, 0)).1, ((outF ((L3 0 0 [] [], s + (n : Int)), run s n, 0)).2.2.1, (outF ((L3 0 0 [] [], s + (n : Int)), run s n, 0)).2.2.2)))))))))) = _ from inner]
        simp only [Option.bind_some]
        rw [w64 (by omega)]
      · right
        refine ⟨_, ?_, s, by omega, rfl⟩
        unfold law18_InodeFresh_l1
        simp only [nlt_dec hlt, cond_false, Option.bind_some]
    · obtain ⟨i, s, rfl, hi, hs0, hs1⟩ := hI
      have hd20 : decide ((i : Int) < 20) = false := by simp; omega
      refine ⟨_, ?_, s, by omega, rfl⟩
      unfold law18_InodeFresh_l1
      by_cases hlt : i < l.length
      · simp only [lt_dec hlt, hd20, cond_true, cond_false, Option.bind_some]
      · simp only [nlt_dec hlt, cond_false, Option.bind_some]
  obtain ⟨o, ho, s, hs, rfl⟩ := loop
  rw [ho, Option.bind_some]
  simp only []
  have hb := right30 (s := s) (by omega)
  have hs30 := fun (z : Int) (p : List Part) (hp : p.length ≤ 100000) => inoSet (t := (L3 0 0 [] [], s)) (fit3 (by simp) (by simp)) 2 z p hp
  have hw : IntKind.wrap .i64 (s + 1) = s + 1 := w64 (by omega)
  rw [hw]
  -- a stripe that nobody has
  have c1 : setS (L3 0 0 [] [], s) 2 5 [(s + 1, 1)] = ((L3 0 0 [] [], s), 177) := by
    rw [set2 hb, rightF fun h => ?_, if_pos rfl]
    have := ((right3 (by omega) (by omega) (by omega) (by simp) (by simp)).1 h).1 (s + 1, 1) (by simp)
    unfold okPart at this
    dsimp only at this
    omega
  rw [show inode_Set fuel (L3 0 0 [] [], s) 2 5 [(s + 1, 1)] = _ from (hs30 5 [(s + 1, 1)] (by simp)).trans (by rw [c1]), Option.bind_some]
  by_cases h0 : s = 0
  · rw [show (s == 0) = true from by simp [h0], cond_true]
    rw [show ((outS ((L3 0 0 [] [], s), 177)).2.1 == 177) = true from rfl, cond_true, awake18_ok]
    rfl
  · rw [show (s == 0) = false from by simp [h0], cond_false]
    have g2 : rightB (L3 5 0 [(s, 1)] [], s) = true := rightB_iff.2 ((right3 (by omega) (by omega) (by omega) (by simp) (by simp)).2 ⟨by simp [okPart]; omega, by simp, by simp [stripes, h0]⟩)
    have c2 : setS (L3 0 0 [] [], s) 2 5 [(s, 1)] = ((L3 5 0 [(s, 1)] [], s), 0) := by rw [set2 hb, g2]; rfl
    have c3 : setS (L3 5 0 [(s, 1)] [], s) 3 5 [(s, 1)] = ((L3 5 0 [(s, 1)] [], s), 177) := by
      rw [set3 g2, rightF fun h => ?_, if_pos rfl]
      have := ((right3 (by omega) (by omega) (by omega) (by simp) (by simp)).1 h).2.2
      simp [stripes, h0] at this
    have c4 : setS (L3 5 0 [(s, 1)] [], s) 3 5 [(0, 0), (0, 0)] = ((L3 5 5 [(s, 1)] [(0, 0), (0, 0)], s), 0) := by
      rw [set3 g2, rightB_iff.2 ((right3 (by omega) (by omega) (by omega) (by simp) (by simp)).2 ⟨by simp [okPart]; omega, by simp [okPart], by simp [stripes, h0]⟩)]
      rfl
    have hs31 := fun (z : Int) (p : List Part) (hp : p.length ≤ 100000) => inoSet (t := (L3 5 0 [(s, 1)] [], s)) (fit3 (by simp) (by simp)) 3 z p hp
    rw [show inode_Set fuel (L3 0 0 [] [], s) 2 5 [(s, 1)] = _ from (hs30 5 [(s, 1)] (by simp)).trans (by rw [c2]), Option.bind_some]
    rw [show inode_Set fuel ((outS ((L3 5 0 [(s, 1)] [], s), 0)).2.2, (outS ((L3 5 0 [(s, 1)] [], s), 0)).1) 3 5 [(s, 1)] = _ from (hs31 5 [(s, 1)] (by simp)).trans (by rw [c3]), Option.bind_some]
    rw [show inode_Set fuel ((outS ((L3 5 0 [(s, 1)] [], s), 0)).2.2, (outS ((L3 5 0 [(s, 1)] [], s), 0)).1) 3 5 [(0, 0), (0, 0)] = _ from (hs31 5 [(0, 0), (0, 0)] (by simp)).trans (by rw [c4]), Option.bind_some]
    rw [show ((outS ((L3 0 0 [] [], s), 177)).2.1 == 177) = true from rfl, show ((outS ((L3 5 0 [(s, 1)] [], s), 0)).2.1 == 0) = true from rfl, show ((outS ((L3 5 0 [(s, 1)] [], s), 177)).2.1 == 177) = true from rfl, show ((outS ((L3 5 5 [(s, 1)] [(0, 0), (0, 0)], s), 0)).2.1 == 0) = true from rfl]
    simp only [cond_true]
    rw [awake18_ok]
    rfl
end Go.Ab.D

/- Loops over maps that lose entries as the rounds go. -/
namespace Go.Ab
section
variable {τ κ ο γ : Type} {hd : τ → Option (List (κ × Nat))} {f : τ → κ × Nat → Option (τ ⊕ ο)}
theorem mAll_del {l0 : List (κ × Nat)} {t0 : τ} {F : τ ⊕ ο → Option γ} {r : γ} (I : List Nat → τ → Prop) (h0 : I [] t0)
    (hhd : ∀ d t, I d t → ∃ l, hd t = some l ∧ ∀ e, e.2 ∉ d → (e ∈ l ↔ e ∈ l0))
    (hs : ∀ d t e, I d t → e ∈ l0 → e.2 ∉ d → ∃ t', f t e = some (.inl t') ∧ I (e.2 :: d) t')
    (hf : ∀ d t, I d t → (∀ e ∈ l0, e.2 ∈ d) → F (.inl t) = some r) : mAll hd f t0 F = some r := by
  classical
  have main : ∀ (n : Nat) (d : List Nat) (t : τ), (l0.filter fun e => decide (e.2 ∉ d)).length ≤ n → I d t → MOk hd f (fun o => F o = some r) (n + 1) d t := by
    intro n
    induction n with
    | zero =>
      intro d t hn hi
      have hnil : l0.filter (fun e => decide (e.2 ∉ d)) = [] := List.eq_nil_of_length_eq_zero (by omega)
      have hall : ∀ e ∈ l0, e.2 ∈ d := fun e he => Classical.byContradiction fun hc => by
        have : e ∈ l0.filter (fun e => decide (e.2 ∉ d)) := List.mem_filter.2 ⟨he, by simpa using hc⟩
        rw [hnil] at this; cases this
      obtain ⟨l, hl, hl2⟩ := hhd d t hi
      refine ⟨l, hl, fun _ => hf d t hi hall, fun e he => ?_⟩
      exfalso
      obtain ⟨h1, h2⟩ := List.mem_filter.1 he
      have h3 : e.2 ∉ d := fun hc => by simp [memN_iff.2 hc] at h2
      exact h3 (hall e ((hl2 e h3).1 h1))
    | succ n ih =>
      intro d t hn hi
      obtain ⟨l, hl, hl2⟩ := hhd d t hi
      refine ⟨l, hl, fun hm => hf d t hi fun e he => Classical.byContradiction fun hc => ?_, fun e he => ?_⟩
      · have : e ∈ mleft d l := List.mem_filter.2 ⟨(hl2 e hc).2 he, by
          cases hq : memN e.2 d with
          | false => rfl
          | true => exact absurd (memN_iff.1 hq) hc⟩
        rw [hm] at this; cases this
      · obtain ⟨h1, h2⟩ := List.mem_filter.1 he
        have h3 : e.2 ∉ d := fun hc => by simp [memN_iff.2 hc] at h2
        have h4 := (hl2 e h3).1 h1
        obtain ⟨t', ht, hi'⟩ := hs d t e hi h4 h3
        refine .inl ⟨t', ht, ih (e.2 :: d) t' ?_ hi'⟩
        have hlt : (l0.filter fun x => decide (x.2 ∉ e.2 :: d)).length < (l0.filter fun x => decide (x.2 ∉ d)).length := by
          have e1 : l0.filter (fun x => decide (x.2 ∉ e.2 :: d)) = (l0.filter fun x => decide (x.2 ∉ d)).filter fun x => decide (x.2 ≠ e.2) := by
            rw [List.filter_filter]
            congr 1
            funext x
            by_cases hx : x.2 = e.2 <;> by_cases hx2 : x.2 ∈ d <;> simp [hx, hx2]
          rw [e1]
          refine List.length_filter_lt_length_iff_exists.2 ⟨e, List.mem_filter.2 ⟨h4, by simpa using h3⟩, by simp⟩
        omega
  exact mAll_eq (main _ [] t0 (Nat.le_refl _) h0)
/-- Nothing changes from round to round. -/
theorem mAll_same {l0 : List (κ × Nat)} {t0 : τ} {F : τ ⊕ ο → Option γ} {r : γ} (hhd : hd t0 = some l0) (hs : ∀ e ∈ l0, f t0 e = some (.inl t0)) (hf : F (.inl t0) = some r) : mAll hd f t0 F = some r :=
  mAll_del (l0 := l0) (fun _ t => t = t0) rfl (fun d t h => ⟨l0, by rw [h]; exact hhd, fun e _ => Iff.rfl⟩) (fun d t e h he _ => ⟨t0, by rw [h]; exact hs e he, rfl⟩) (fun d t h _ => by rw [h]; exact hf)
end
section
variable {k v : Ty}
theorem keyEq_pair {a b : Ty} (ha : KeyEq a) (hb : KeyEq b) : KeyEq (.pair a b) := fun x y => by
  show (a.eqb x.1 y.1 && b.eqb x.2 y.2) = true ↔ _
  rw [Bool.and_eq_true, ha, hb]
  constructor
  · rintro ⟨h1, h2⟩; exact Prod.ext h1 h2
  · rintro rfl; exact ⟨rfl, rfl⟩
/-- A map whose keys, and entries' numbers, are each there once. -/
structure MW (m : GMap k v) : Prop where
  ks : keysU m
  ns : (m.1.map (·.2)).Nodup
  lo : ∀ e ∈ m.1, e.2 < m.2
theorem mput_new {m : GMap k v} {x : k.den} {y : v.den} (h : mfind m.1 x = none) : mput m x y = (m.1 ++ [((x, y), m.2)], m.2 + 1) := by
  unfold mput
  rw [h]
theorem MW.put (hk : KeyEq k) {m : GMap k v} (hm : MW m) {x : k.den} {y : v.den} (h : mfind m.1 x = none) : MW (mput m x y) := by
  refine ⟨keysU_mput hk hm.ks x y, ?_, ?_⟩
  · rw [mput_new h]
    simp only [List.map_append, List.map_cons, List.map_nil]
    refine List.nodup_append.2 ⟨hm.ns, by simp, fun a ha b hb => ?_⟩
    simp at hb; subst hb
    obtain ⟨e, he, rfl⟩ := List.mem_map.1 ha
    have := hm.lo e he
    omega
  · rw [mput_new h]
    intro e he
    rcases List.mem_append.1 he with h1 | h1
    · have := hm.lo e h1; simp only; omega
    · simp at h1; subst h1; simp
theorem mdelL_sub : ∀ (l : List ((k.den × v.den) × Nat)) (x : k.den), (mdelL l x).Sublist l
  | [], x => .slnil
  | ((a, b), n) :: l, x => by
    show (bif k.eqb x a then l else ((a, b), n) :: mdelL l x).Sublist _
    cases k.eqb x a with
    | true => exact List.sublist_cons_self _ _
    | false => exact (mdelL_sub l x).cons_cons _
theorem MW.del (hk : KeyEq k) {m : GMap k v} (hm : MW m) (x : k.den) : MW (mdel m x) :=
  ⟨keysU_mdel hk hm.ks x, hm.ns.sublist ((mdelL_sub m.1 x).map _), fun e he => hm.lo e ((mdelL_sub m.1 x).subset he)⟩
theorem mdelL_mem (hk : KeyEq k) : ∀ (l : List ((k.den × v.den) × Nat)) (x : k.den) (e : (k.den × v.den) × Nat), (l.map fun e => e.1.1).Nodup → (e ∈ mdelL l x ↔ e ∈ l ∧ e.1.1 ≠ x)
  | [], x, e, _ => by simp [mdelL]
  | ((a, b), n) :: l, x, e, hn => by
    simp only [List.map_cons, List.nodup_cons] at hn
    show e ∈ (bif k.eqb x a then l else ((a, b), n) :: mdelL l x) ↔ _
    cases hq : k.eqb x a with
    | true =>
      have := (hk x a).1 hq
      subst this
      simp only [cond_true, List.mem_cons]
      constructor
      · intro h
        exact ⟨.inr h, fun hc => hn.1 (List.mem_map.2 ⟨e, h, hc⟩)⟩
      · rintro ⟨h | h, h2⟩
        · subst h; exact absurd rfl h2
        · exact h
    | false =>
      have hx : x ≠ a := fun hc => by rw [(hk x a).2 hc] at hq; cases hq
      simp only [cond_false, List.mem_cons]
      rw [mdelL_mem hk l x e hn.2]
      constructor
      · rintro (h | h)
        · subst h; exact ⟨.inl rfl, fun hc => hx hc.symm⟩
        · exact ⟨.inr h.1, h.2⟩
      · rintro ⟨h | h, h2⟩
        · exact .inl h
        · exact .inr ⟨h, h2⟩
end
end Go.Ab

/- Layer 18: InodeStale, first half: what each call keeps of right tables and of handles. -/
namespace Go.Ab.D
open Go Go.Ab

theorem okIno.sm {many stripe : Int} {i : Nat} {n : Ino} (h : okIno many stripe i n) : n.sm := by
  obtain ⟨id, gen, used, dir, size, parts, parent, ents⟩ := n
  cases used with
  | false =>
    have := h.bare rfl
    dsimp only at this
    exact ⟨by rw [this.2.2.2.1]; simp, by rw [this.2.2.2.2]; simp⟩
  | true =>
    cases dir with
    | true =>
      have := h.dir rfl rfl
      dsimp only at this
      exact ⟨by rw [this.2.1]; simp, by have := this.2.2.1; dsimp only; omega⟩
    | false =>
      have := h.file rfl rfl
      dsimp only at this
      exact ⟨by have := this.2.2.1; dsimp only; omega, by rw [this.2.1]; simp⟩
theorem RightP.fit {t : Tree} (h : RightP t) : Fit t.1 := ⟨by have := h.len; omega, fun n hn => by
  obtain ⟨i, hi⟩ := List.getElem?_of_mem hn
  exact (h.ino i n hi).sm⟩
theorem okEnts_mono {a b : Int} (h : a ≤ b) : ∀ {l : List Ent} {last : List UInt8}, okEnts a last l → okEnts b last l
  | [], last, _ => trivial
  | e :: r, last, hl => by
    rw [okEnts_cons] at hl ⊢
    exact ⟨hl.1, hl.2.1, hl.2.2.1, hl.2.2.2.1, by omega, okEnts_mono h hl.2.2.2.2.2⟩
theorem okIno.mono {a b s s' : Int} {i : Nat} {n : Ino} (h : okIno a s i n) (hab : a ≤ b) (hs : s ≤ s') : okIno b s' i n :=
  ⟨h.id, h.gen, fun q => by have := h.par q; omega, fun q1 q2 => by
    have := h.dir q1 q2
    exact ⟨this.1, this.2.1, this.2.2.1, okEnts_mono hab this.2.2.2⟩, fun q1 q2 => by
    have := h.file q1 q2
    exact ⟨this.1, this.2.1, this.2.2.1, fun p hp => by
      rcases this.2.2.2 p hp with h5 | h5
      · exact .inl h5
      · exact .inr (by omega)⟩, h.bare⟩
/-- An inode's parts make way for none, or stay. -/
theorem allS_set {l : List Ino} {i : Nat} {n m : Ino} (hg : l[i]? = some n) (hp : m.2.2.2.2.2.1 = n.2.2.2.2.2.1 ∨ m.2.2.2.2.2.1 = []) (h : (allStripes l).Nodup) : (allStripes (l.set i m)).Nodup := by
  obtain ⟨hi, hx⟩ := List.getElem?_eq_some_iff.1 hg
  have e1 : l = l.take i ++ n :: l.drop (i + 1) := by
    rw [← hx, ← List.drop_eq_getElem_cons hi, List.take_append_drop]
  have e2 : l.set i m = l.take i ++ m :: l.drop (i + 1) := List.set_eq_take_append_cons_drop.trans (by rw [if_pos hi])
  have f : ∀ x : Ino, allStripes (l.take i ++ x :: l.drop (i + 1)) = allStripes (l.take i) ++ (stripes x.2.2.2.2.2.1 ++ allStripes (l.drop (i + 1))) := fun x => by simp [allStripes]
  rw [e1, f] at h
  rw [e2, f]
  rcases hp with hp | hp
  · rw [hp]; exact h
  · rw [hp]
    exact h.sublist ((List.Sublist.refl _).append (by simp [stripes]))
theorem right_set {t : Tree} (h : RightP t) {i : Nat} {n m : Ino} (hg : t.1[i]? = some n) (hp : m.2.2.2.2.2.1 = n.2.2.2.2.2.1 ∨ m.2.2.2.2.2.1 = []) (hm : okIno t.1.length t.2 i m) (h0 : i ≠ 0) : RightP (t.1.set i m, t.2) := by
  have hi := (List.getElem?_eq_some_iff.1 hg).1
  refine ⟨by simpa using h.len, h.str, fun j x hx => ?_, allS_set hg hp h.nod, ?_⟩
  · simp only [List.length_set]
    by_cases hij : i = j
    · subst hij
      rw [List.getElem?_set_self hi] at hx
      cases hx; exact hm
    · rw [List.getElem?_set_ne hij] at hx
      exact h.ino j x hx
  · obtain ⟨r, hr, h1⟩ := h.root
    exact ⟨r, by rw [List.getElem?_set_ne h0]; exact hr, h1⟩
/-- An inode's count, and whether it is used. -/
def gu (l : List Ino) (i : Nat) : Option (Int × Bool) := (l[i]?).map fun n => (n.2.1, n.2.2.1)
theorem gu_set {l : List Ino} {i j : Nat} {n : Ino} (h : i ≠ j) : gu (l.set i n) j = gu l j := by
  unfold gu
  rw [List.getElem?_set_ne h]
theorem gu_self {l : List Ino} {i : Nat} {n : Ino} (h : i < l.length) : gu (l.set i n) i = some (n.2.1, n.2.2.1) := by
  unfold gu
  rw [List.getElem?_set_self h]
  rfl
/-- What a call does. -/
structure AllocOk (t N : Tree) (h : Int × Int) (e : Int) : Prop where
  r : RightP N
  s : t.2 ≤ N.2
  bad : e ≠ 0 → N = t
  /-- a place was free, or is new -/
  ok : e = 0 → 1 ≤ h.1 ∧ (gu t.1 (h.1 - 1).toNat = some (h.2 - 1, false) ∨ (gu t.1 (h.1 - 1).toNat = none ∧ h.2 = 1)) ∧ gu N.1 (h.1 - 1).toNat = some (h.2, true) ∧ ∀ j, j ≠ (h.1 - 1).toNat → gu N.1 j = gu t.1 j
theorem alloc_keeps {t : Tree} (h : RightP t) (dir : Bool) (parent : Int) : AllocOk t (allocS t dir parent).1 (allocS t dir parent).2.1 (allocS t dir parent).2.2 := by
  have hsame : ∀ (e : Int), e ≠ 0 → AllocOk t t (0, 0) e := fun e he => ⟨h, Int.le_refl _, fun _ => rfl, fun h => absurd h he⟩
  unfold allocS
  split
  · exact hsame _ (by simp)
  split
  · exact hsame _ (by simp)
  rename_i hr hi
  have hi : isB t.1 parent true = true := by simpa using hi
  obtain ⟨hp1, hp2⟩ := is_lt hi
  have hlen := h.len
  split
  · rename_i hfr
    split
    · exact hsame _ (by simp)
    · rename_i hl
      have hnew : okIno ((t.1.length + 1 : Nat) : Int) t.2 t.1.length (taken ((t.1.length : Int) + 1, 0, false, false, 0, [], 0, []) dir parent) := by
        refine ⟨rfl, by simp [taken], fun _ => by simp [taken]; omega, fun _ _ => ⟨rfl, rfl, by simp [taken], by simp [taken, okEnts]⟩, fun _ _ => ⟨by simp [taken], rfl, by simp [taken], by simp [taken]⟩, by simp [taken]⟩
      refine ⟨⟨by simp; omega, h.str, fun j x hx => ?_, ?_, ?_⟩, Int.le_refl _, fun h => absurd rfl h, fun _ => ⟨by dsimp only; omega, .inr ⟨?_, rfl⟩, ?_, fun j hj => ?_⟩⟩
      · simp only [List.length_append, List.length_cons, List.length_nil, Nat.zero_add]
        by_cases hj : j < t.1.length
        · rw [List.getElem?_append_left hj] at hx
          exact (h.ino j x hx).mono (by omega) (Int.le_refl _)
        · have : j < (t.1 ++ [taken ((t.1.length : Int) + 1, 0, false, false, 0, [], 0, []) dir parent]).length := (List.getElem?_eq_some_iff.1 hx).1
          have hj2 : j = t.1.length := by simp at this; omega
          subst hj2
          simp at hx
          subst hx
          exact hnew
      · have e : allStripes (t.1 ++ [taken ((t.1.length : Int) + 1, 0, false, false, 0, [], 0, []) dir parent]) = allStripes t.1 := by simp [allStripes, taken, stripes]
        rw [e]; exact h.nod
      · obtain ⟨r, hr, h1⟩ := h.root
        exact ⟨r, by rw [List.getElem?_append_left (by omega)]; exact hr, h1⟩
      · unfold gu
        rw [List.getElem?_eq_none (by dsimp only; omega)]
        rfl
      · unfold gu
        dsimp only
        rw [show ((t.1.length : Int) + 1 - 1).toNat = t.1.length from by omega]
        simp [taken]
      · have hj : j ≠ t.1.length := fun hc => hj (by dsimp only; omega)
        unfold gu
        by_cases hjl : j < t.1.length
        · rw [List.getElem?_append_left hjl]
        · rw [List.getElem?_eq_none (by simp; omega), List.getElem?_eq_none (by omega)]
  · rename_i i hfr
    split
    · exact hsame _ (by simp)
    · rename_i n hg
      split
      · exact hsame _ (by simp)
      · rename_i hgen
        obtain ⟨hlt, hfree, _⟩ := List.findIdx?_eq_some_iff_getElem.1 hfr
        have hu : n.2.2.1 = false := by
          rw [(List.getElem?_eq_some_iff.1 hg).2] at hfree
          simpa using hfree
        have hok := h.ino i n hg
        have hbare := hok.bare hu
        have h0 : i ≠ 0 := fun hc => by
          subst hc
          obtain ⟨r, hr, h1, _⟩ := h.root
          rw [hg] at hr; cases hr
          rw [hu] at h1; cases h1
        have hid := hok.id
        have htk : okIno t.1.length t.2 i (taken n dir parent) := by
          have hgg := hok.gen
          refine ⟨hok.id, by simp only [taken]; omega, fun _ => by simp only [taken]; omega, fun _ _ => ⟨hbare.2.1, hbare.2.2.2.1, by simp only [taken]; rw [hbare.2.2.2.2]; simp, by simp only [taken]; rw [hbare.2.2.2.2]; trivial⟩, fun _ _ => ⟨by simp only [taken]; rw [hbare.2.1]; omega, hbare.2.2.2.2, by simp only [taken]; rw [hbare.2.2.2.1]; simp, by simp only [taken]; rw [hbare.2.2.2.1]; simp⟩, fun hc => by simp [taken] at hc⟩
        have e : (n.1 - 1).toNat = i := by omega
        refine ⟨right_set h hg (.inl rfl) htk h0, Int.le_refl _, fun h => absurd rfl h, fun _ => ⟨by dsimp only; omega, .inl ?_, ?_, fun j hj => ?_⟩⟩
        · dsimp only
          rw [e]
          unfold gu
          rw [hg]
          show some (n.2.1, n.2.2.1) = some (n.2.1 + 1 - 1, false)
          rw [hu, Int.add_sub_cancel]
        · dsimp only
          rw [e, gu_self hlt]
          rfl
        · exact gu_set fun hc => hj (by dsimp only; omega)
structure DropOk (t N : Tree) (id : Int) (e : Int) : Prop where
  r : RightP N
  s : t.2 ≤ N.2
  bad : e ≠ 0 → N = t
  ok : e = 0 → 1 ≤ id ∧ (∃ g, gu t.1 (id - 1).toNat = some (g, true) ∧ gu N.1 (id - 1).toNat = some (g, false)) ∧ ∀ j, j ≠ (id - 1).toNat → gu N.1 j = gu t.1 j
theorem drop_keeps {t : Tree} (h : RightP t) (id : Int) : DropOk t (dropS t id).1 id (dropS t id).2.2 := by
  have hsame : ∀ (e : Int), e ≠ 0 → DropOk t t id e := fun e he => ⟨h, Int.le_refl _, fun _ => rfl, fun h => absurd h he⟩
  unfold dropS
  split
  · exact hsame _ (by simp)
  split
  · exact hsame _ (by simp)
  rename_i hr hq
  have hb : ∃ d, isB t.1 id d = true := by
    cases h2 : isB t.1 id true with
    | true => exact ⟨_, h2⟩
    | false => cases h3 : isB t.1 id false with
      | true => exact ⟨_, h3⟩
      | false => exact absurd (.inr ⟨h2, h3⟩) hq
  obtain ⟨d, hb⟩ := hb
  obtain ⟨h1, hlt⟩ := is_lt hb
  have hlen := h.len
  split
  · exact hsame _ (by simp)
  · rename_i n hg
    have hu : n.2.2.1 = true := by
      unfold isB at hb
      rw [hg] at hb
      simp only [Bool.and_eq_true] at hb
      exact hb.2.1
    have hok := h.ino _ n hg
    have h0 : (id - 1).toNat ≠ 0 := fun hc => hq (.inl (by omega))
    have hm : okIno t.1.length t.2 (id - 1).toNat (emptied n id) := ⟨by simp only [emptied]; omega, hok.gen, fun hc => by simp [emptied] at hc, fun hc => by simp [emptied] at hc, fun hc => by simp [emptied] at hc, fun _ => ⟨rfl, rfl, rfl, rfl, rfl⟩⟩
    refine ⟨right_set h hg (.inr rfl) hm h0, Int.le_refl _, fun h => absurd rfl h, fun _ => ⟨h1, ⟨n.2.1, ?_, ?_⟩, fun j hj => gu_set fun hc => hj hc.symm⟩⟩
    · unfold gu
      rw [hg, Option.map_some, hu]
    · rw [gu_self hlt]
      rfl
structure KeepOk (t N : Tree) (e : Int) : Prop where
  r : RightP N
  s : t.2 ≤ N.2
  bad : e ≠ 0 → N = t
  all : ∀ j, gu N.1 j = gu t.1 j
theorem set_keeps {t : Tree} (h : RightP t) (id size : Int) (parts : List Part) : KeepOk t (setS t id size parts).1 (setS t id size parts).2 := by
  have hsame : ∀ (e : Int), e ≠ 0 → KeepOk t t e := fun e he => ⟨h, Int.le_refl _, fun _ => rfl, fun _ => rfl⟩
  unfold setS
  split
  · exact hsame _ (by simp)
  split
  · exact hsame _ (by simp)
  split
  · exact hsame _ (by simp)
  · rename_i n hg
    split
    · exact hsame _ (by simp)
    · rename_i hr
      refine ⟨rightB_iff.1 (by simpa using hr), Int.le_refl _, fun h => absurd rfl h, fun j => ?_⟩
      by_cases hj : (id - 1).toNat = j
      · subst hj
        rw [gu_self (List.getElem?_eq_some_iff.1 hg).1]
        unfold gu
        rw [hg]
        rfl
      · exact gu_set hj
theorem fresh_keeps {t : Tree} (h : RightP t) (n : Int) : KeepOk t (freshS t n).1 (freshS t n).2.2 := by
  have hsame : ∀ (e : Int), e ≠ 0 → KeepOk t t e := fun e he => ⟨h, Int.le_refl _, fun _ => rfl, fun _ => rfl⟩
  unfold freshS
  split
  · exact hsame _ (by simp)
  split
  · exact hsame _ (by simp)
  rename_i h1
  split
  · exact hsame _ (by simp)
  rename_i h2
  have hstr := h.str
  refine ⟨⟨h.len, by dsimp only; omega, fun j x hx => (h.ino j x hx).mono (Int.le_refl _) (by dsimp only; omega), h.nod, h.root⟩, by dsimp only; omega, fun h => absurd rfl h, fun j => rfl⟩

/-! Handles -/
def live (l : List Ino) (h : Int × Int) : Prop := 1 ≤ h.1 ∧ gu l (h.1 - 1).toNat = some (h.2, true)
def dead (l : List Ino) (h : Int × Int) : Prop := 1 ≤ h.1 ∧ ∃ g u, gu l (h.1 - 1).toNat = some (g, u) ∧ (h.2 < g ∨ (h.2 = g ∧ u = false))
theorem live_get {t : Tree} (hr : RightP t) {h : Int × Int} (hl : live t.1 h) : ∃ n, getS t h = (n, 0) ∧ n.1 = h.1 ∧ n.2.2.1 = true := by
  obtain ⟨h1, h2⟩ := hl
  unfold gu at h2
  cases hg : t.1[(h.1 - 1).toNat]? with
  | none => rw [hg] at h2; cases h2
  | some n =>
    rw [hg] at h2
    simp only [Option.map_some, Option.some.injEq, Prod.mk.injEq] at h2
    have hid := (hr.ino _ n hg).id
    refine ⟨n, ?_, by omega, h2.2⟩
    unfold getS
    rw [if_neg (by omega), hg]
    dsimp only
    rw [if_pos ⟨h2.2, h2.1⟩]
theorem dead_get {t : Tree} {h : Int × Int} (hl : dead t.1 h) : getS t h = (zeroI, 170) := by
  obtain ⟨h1, g, u, h2, h3⟩ := hl
  unfold gu at h2
  unfold getS
  rw [if_neg (by omega)]
  cases hg : t.1[(h.1 - 1).toNat]? with
  | none => rfl
  | some n =>
    rw [hg] at h2
    simp only [Option.map_some, Option.some.injEq, Prod.mk.injEq] at h2
    dsimp only
    rw [if_neg]
    rintro ⟨q1, q2⟩
    rcases h3 with h3 | h3
    · omega
    · rw [← h2.2, q1] at h3; cases h3.2
theorem live_dead {l : List Ino} {h : Int × Int} (h1 : live l h) (h2 : dead l h) : False := by
  obtain ⟨_, a⟩ := h1
  obtain ⟨_, g, u, b, c⟩ := h2
  rw [a] at b
  cases b
  rcases c with c | c
  · omega
  · cases c.2
end Go.Ab.D

/- Layer 18: InodeStale, second half. -/
namespace Go.Ab.D
open Go Go.Ab

abbrev KH : Ty := .pair (.int .i64) (.int .i64)
abbrev GMH := GMap KH (.int .i64)
theorem kh : KeyEq KH := keyEq_pair (keyEq_int .i64) (keyEq_int .i64)
theorem inj_nodup {α β : Type} {f : α → β} : ∀ {l : List α} {x y : α}, (l.map f).Nodup → x ∈ l → y ∈ l → f x = f y → x = y
  | [], _, _, _, h, _, _ => by cases h
  | a :: l, x, y, hn, hx, hy, he => by
    simp only [List.map_cons, List.nodup_cons] at hn
    rcases List.mem_cons.1 hx with h1 | h1 <;> rcases List.mem_cons.1 hy with h2 | h2
    · rw [h1, h2]
    · exact absurd (List.mem_map.2 ⟨y, h2, by rw [← he, h1]⟩) hn.1
    · exact absurd (List.mem_map.2 ⟨x, h1, by rw [he, h2]⟩) hn.1
    · exact inj_nodup hn.2 h1 h2 he
structure Stl (t : Tree) (L D : GMH) : Prop where
  r : RightP t
  lw : MW L
  dw : MW D
  ll : ∀ e ∈ L.1, live t.1 e.1.1
  dd : ∀ e ∈ D.1, dead t.1 e.1.1
def pickV (x n : Int) : Int := if Int.tmod x n < 0 then IntKind.wrap .i64 (Int.tmod x n + n) else Int.tmod x n
theorem pick_ok (x n : Int) (hn : 1 ≤ n) : kit_Pick fuel x n = some (pickV x n) := by
  unfold kit_Pick pickV
  rw [show decide (n < 1) = false from by simp; omega, cond_false, need_true (by simp; omega)]
  by_cases h : Int.tmod x n < 0
  · rw [show decide (Int.tmod x n < 0) = true from by simp [h], if_pos h]; rfl
  · rw [show decide (Int.tmod x n < 0) = false from by simp; omega, if_neg h]; rfl
noncomputable def doS (t : Tree) (o : Int × (Int × (Bool × (Int × List Part)))) : Tree × (Int × Int) × Int :=
  if pickV o.1 4 = 0 then allocS t o.2.2.1 o.2.1 else
  if pickV o.1 4 = 1 then ((dropS t o.2.1).1, (0, 0), (dropS t o.2.1).2.2) else
  if pickV o.1 4 = 2 then ((setS t o.2.1 o.2.2.2.1 (o.2.2.2.2.take (min 60 o.2.2.2.2.length))).1, (0, 0), (setS t o.2.1 o.2.2.2.1 (o.2.2.2.2.take (min 60 o.2.2.2.2.length))).2) else
  ((freshS t (pickV o.2.2.2.1 5)).1, (0, 0), (freshS t (pickV o.2.2.2.1 5)).2.2)
theorem do_ok {t : Tree} (hf : Fit t.1) (o : Int × (Int × (Bool × (Int × List Part)))) : law18_do fuel t o = some ((doS t o).1.1, ((doS t o).1.2, ((doS t o).2.1.1, ((doS t o).2.1.2, (doS t o).2.2)))) := by
  unfold law18_do doS
  rw [pick_ok _ 4 (by omega), Option.bind_some]
  by_cases h0 : pickV o.1 4 = 0
  · rw [show (pickV o.1 4 == 0) = true from by simp [h0], cond_true, if_pos h0]
    rw [show inode_Alloc fuel (t.1, t.2) o.2.2.1 o.2.1 = _ from inoAlloc hf _ _]
    rfl
  rw [show (pickV o.1 4 == 0) = false from by simp [h0], cond_false, if_neg h0]
  by_cases h1 : pickV o.1 4 = 1
  · rw [show (pickV o.1 4 == 1) = true from by simp [h1], cond_true, if_pos h1]
    rw [show inode_Drop fuel (t.1, t.2) o.2.1 = _ from inoDrop hf _]
    rfl
  rw [show (pickV o.1 4 == 1) = false from by simp [h1], cond_false, if_neg h1]
  by_cases h2 : pickV o.1 4 = 2
  · rw [show (pickV o.1 4 == 2) = true from by simp [h2], cond_true, if_pos h2]
    have hup : upto? (if 60 < ((o.2.2.2.2.length : Nat) : Int) then 60 else ((o.2.2.2.2.length : Nat) : Int)) o.2.2.2.2.length = some (min 60 o.2.2.2.2.length) := by
      by_cases h : 60 < o.2.2.2.2.length
      · rw [if_pos (by omega), show (60 : Int) = ((60 : Nat) : Int) from rfl, upto_nat (by omega), Nat.min_eq_left (by omega)]
      · rw [if_neg (by omega), upto_nat (Nat.le_refl _), Nat.min_eq_right (by omega)]
    rw [hup, Option.bind_some]
    rw [show inode_Set fuel (t.1, t.2) o.2.1 o.2.2.2.1 (List.take (min 60 o.2.2.2.2.length) o.2.2.2.2) = _ from inoSet hf _ _ _ (by rw [List.length_take]; omega)]
    rfl
  rw [show (pickV o.1 4 == 2) = false from by simp [h2], cond_false, if_neg h2]
  rw [pick_ok _ 5 (by omega), Option.bind_some]
  rw [show inode_Fresh fuel (t.1, t.2) (pickV o.2.2.2.1 5) = _ from inoFresh hf _]
  rfl
theorem do_base {t : Tree} (h : RightP t) (o : Int × (Int × (Bool × (Int × List Part)))) : RightP (doS t o).1 ∧ t.2 ≤ (doS t o).1.2 ∧ ((doS t o).2.2 ≠ 0 → (doS t o).1 = t) := by
  unfold doS
  split
  · have := alloc_keeps h o.2.2.1 o.2.1; exact ⟨this.r, this.s, this.bad⟩
  split
  · have := drop_keeps h o.2.1; exact ⟨this.r, this.s, this.bad⟩
  split
  · have := set_keeps h o.2.1 o.2.2.2.1 (o.2.2.2.2.take (min 60 o.2.2.2.2.length)); exact ⟨this.r, this.s, this.bad⟩
  · have := fresh_keeps h (pickV o.2.2.2.1 5); exact ⟨this.r, this.s, this.bad⟩
theorem Stl.keep {t N : Tree} {L D : GMH} (h : Stl t L D) (hr : RightP N) (hg : ∀ j, gu N.1 j = gu t.1 j) : Stl N L D :=
  ⟨hr, h.lw, h.dw, fun e he => by have := h.ll e he; unfold live at this ⊢; rw [hg]; exact this, fun e he => by have := h.dd e he; unfold dead at this ⊢; rw [hg]; exact this⟩
theorem nokey {m : GMH} {x : Int × Int} (h : ∀ e ∈ m.1, e.1.1 ≠ x) : mfind (k := KH) (v := .int .i64) m.1 x = none := (mfind_nokey kh).2 fun hm => by
  obtain ⟨e, he, hx⟩ := List.mem_map.1 hm
  exact h e he hx
theorem mget_no {m : GMH} {x : Int × Int} (h : ∀ e ∈ m.1, e.1.1 ≠ x) : ((Option.getD (mget (k := KH) (v := .int .i64) m x) 0 : Int) == 1) = false := by
  unfold mget
  rw [nokey h]
  rfl
theorem Stl.alloc {t N : Tree} {L D : GMH} {h : Int × Int} {e : Int} (hs : Stl t L D) (ha : AllocOk t N h e) (he : e = 0) :
    (∀ x ∈ L.1, x.1.1 ≠ h) ∧ (∀ x ∈ D.1, x.1.1 ≠ h) ∧ Stl N (mput (k := KH) (v := .int .i64) L h 1) D := by
  obtain ⟨h1, h2, h3, h4⟩ := ha.ok he
  have nl : ∀ x ∈ L.1, x.1.1 ≠ h := fun x hx hc => by
    have := (hs.ll x hx).2
    rw [hc] at this
    rcases h2 with h2 | h2
    · rw [h2] at this; simp at this
    · rw [h2.1] at this; cases this
  have nd : ∀ x ∈ D.1, x.1.1 ≠ h := fun x hx hc => by
    obtain ⟨_, g, u, a, b⟩ := hs.dd x hx
    rw [hc] at a b
    rcases h2 with h2 | h2
    · rw [h2] at a; cases a; omega
    · rw [h2.1] at a; cases a
  refine ⟨nl, nd, ha.r, hs.lw.put kh (nokey nl), hs.dw, fun x hx => ?_, fun x hx => ?_⟩
  · rw [mput_new (nokey nl)] at hx
    rcases List.mem_append.1 hx with hx | hx
    · obtain ⟨q1, q2⟩ := hs.ll x hx
      refine ⟨q1, ?_⟩
      by_cases hj : (x.1.1.1 - 1).toNat = (h.1 - 1).toNat
      · exfalso
        rw [hj] at q2
        rcases h2 with h2 | h2
        · rw [h2] at q2; simp at q2
        · rw [h2.1] at q2; cases q2
      · rw [h4 _ hj]; exact q2
    · simp at hx; subst hx
      exact ⟨h1, h3⟩
  · obtain ⟨q1, g, u, a, b⟩ := hs.dd x hx
    by_cases hj : (x.1.1.1 - 1).toNat = (h.1 - 1).toNat
    · refine ⟨q1, h.2, true, by rw [hj]; exact h3, .inl ?_⟩
      rw [hj] at a
      rcases h2 with h2 | h2
      · rw [h2] at a; cases a; omega
      · rw [h2.1] at a; cases a
    · exact ⟨q1, g, u, by rw [h4 _ hj]; exact a, b⟩
/-- The loop that moves a dropped handle from the living to the dead. -/
theorem dropLoop {t N : Tree} {L D : GMH} {id e : Int} (hs : Stl t L D) (ha : DropOk t N id e) (he : e = 0) (b : Bool) (r8 : Int) (r10 : Bool) (r11 : Int) (r12 : List Part) :
    ∃ L' D', Stl N L' D' ∧ ∀ {γ : Type} (F : (List Ino × (Int × (GMH × (GMH × (Int × (Int × (Bool × (Int × (List Part × (List Ino × Int)))))))))) ⊕ Empty → Option γ) (r : γ), F (.inl (t.1, (t.2, (L', (D', (r8, (id, (r10, (r11, (r12, (N.1, N.2))))))))))) = some r → mAll (fun (tt : (List Ino × (Int × (GMH × (GMH × (Int × (Int × (Bool × (Int × (List Part × (List Ino × Int))))))))))) => law18_InodeStale_l0_hd (b, (t.1, (t.2, (L, (D, (r8, (id, (r10, (r11, (r12, (N.1, N.2))))))))))) tt.1 tt.2.1 tt.2.2.1 tt.2.2.2.1 tt.2.2.2.2.1 tt.2.2.2.2.2.1 tt.2.2.2.2.2.2.1 tt.2.2.2.2.2.2.2.1 tt.2.2.2.2.2.2.2.2.1 tt.2.2.2.2.2.2.2.2.2.1 tt.2.2.2.2.2.2.2.2.2.2)
      (fun (tt : (List Ino × (Int × (GMH × (GMH × (Int × (Int × (Bool × (Int × (List Part × (List Ino × Int))))))))))) (ee : (((Int × Int) × Int) × Nat)) => law18_InodeStale_l0 fuel tt.1 tt.2.1 tt.2.2.1 tt.2.2.2.1 tt.2.2.2.2.1 tt.2.2.2.2.2.1 tt.2.2.2.2.2.2.1 tt.2.2.2.2.2.2.2.1 tt.2.2.2.2.2.2.2.2.1 tt.2.2.2.2.2.2.2.2.2.1 tt.2.2.2.2.2.2.2.2.2.2 ee)
      (t.1, (t.2, (L, (D, (r8, (id, (r10, (r11, (r12, (N.1, N.2)))))))))) F = some r := by
  obtain ⟨h1, ⟨g, hg1, hg2⟩, h4⟩ := ha.ok he
  have key : ∀ x ∈ L.1, x.1.1.1 = id → x.1.1 = (id, g) := fun x hx hc => by
    have := (hs.ll x hx).2
    rw [hc, hg1] at this
    simp only [Option.some.injEq, Prod.mk.injEq, and_true] at this
    exact Prod.ext hc this.symm
  have other : ∀ x : Int × Int, 1 ≤ x.1 → x.1 ≠ id → gu N.1 (x.1 - 1).toNat = gu t.1 (x.1 - 1).toNat := fun x hx hc => h4 _ (by omega)
  have ddN : ∀ x ∈ D.1, dead N.1 x.1.1 := fun x hx => by
    obtain ⟨q1, g', u, a, c⟩ := hs.dd x hx
    by_cases hc : x.1.1.1 = id
    · refine ⟨q1, g, false, by rw [hc]; exact hg2, ?_⟩
      rw [hc, hg1] at a
      cases a
      rcases c with c | c
      · exact .inl c
      · cases c.2
    · exact ⟨q1, g', u, by rw [other _ q1 hc]; exact a, c⟩
  by_cases hex : ∃ e0 ∈ L.1, e0.1.1 = (id, g)
  · obtain ⟨e0, he0, hk0⟩ := hex
    have uniq : ∀ x ∈ L.1, x.1.1 = (id, g) → x = e0 := fun x hx hc => by
      have hnd := hs.lw.ks
      unfold keysU at hnd
      exact inj_nodup hnd hx he0 (by rw [hc, hk0])
    have nD : ∀ x ∈ D.1, x.1.1 ≠ (id, g) := fun x hx hc => live_dead (hs.ll e0 he0) (by rw [hk0, ← hc]; exact hs.dd x hx)
    refine ⟨mdel (k := KH) (v := .int .i64) L (id, g), mput (k := KH) (v := .int .i64) D (id, g) 1, ⟨ha.r, hs.lw.del kh _, hs.dw.put kh (nokey nD), fun x hx => ?_, fun x hx => ?_⟩, ?_⟩
    · have hx2 := (mdelL_mem kh L.1 (id, g) x hs.lw.ks).1 hx
      obtain ⟨q1, q2⟩ := hs.ll x hx2.1
      exact ⟨q1, by rw [other _ q1 fun hc => hx2.2 (key x hx2.1 hc)]; exact q2⟩
    · rw [mput_new (nokey nD)] at hx
      rcases List.mem_append.1 hx with hx | hx
      · exact ddN x hx
      · simp at hx; subst hx
        exact ⟨h1, g, false, hg2, .inr ⟨rfl, rfl⟩⟩
    · intro γ F r hF
      refine mAll_del (l0 := L.1) (fun d st => st = if e0.2 ∈ d then (t.1, (t.2, (mdel (k := KH) (v := .int .i64) L (id, g), (mput (k := KH) (v := .int .i64) D (id, g) 1, (r8, (id, (r10, (r11, (r12, (N.1, N.2)))))))))) else (t.1, (t.2, (L, (D, (r8, (id, (r10, (r11, (r12, (N.1, N.2))))))))))) (by rw [if_neg (by simp)]) (fun d st hI => ?_) (fun d st x hI hx hd => ?_) (fun d st hI hall => ?_)
      · subst hI
        by_cases hd : e0.2 ∈ d
        · rw [if_pos hd]
          refine ⟨(mdelL (k := KH) (v := .int .i64) L.1 (id, g)), ?_, fun x hx => ?_⟩
          · show need (Nat.beq L.2 L.2) _ = _
            rw [need_true (by simp)]
            rfl
          · rw [mdelL_mem kh L.1 (id, g) x hs.lw.ks]
            exact ⟨fun h => h.1, fun h => ⟨h, fun hc => hx (uniq x h hc ▸ hd)⟩⟩
        · rw [if_neg hd]
          refine ⟨L.1, ?_, fun x _ => Iff.rfl⟩
          show need (Nat.beq L.2 L.2) _ = _
          rw [need_true (by simp)]
      · subst hI
        by_cases hc : x.1.1.1 = id
        · have hxe := uniq x hx (key x hx hc)
          subst hxe
          rw [if_neg hd]
          refine ⟨_, ?_, by rw [if_pos (by simp)]⟩
          unfold law18_InodeStale_l0
          rw [show (x.1.1.1 == id) = true from by simp [hc]]
          have : x.1.1 = (id, g) := hk0
          simp only [cond_true, Option.bind_some]
          rw [show ((x.1.1.1, x.1.1.2) : Int × Int) = (id, g) from this]
        · have hne : e0.2 ≠ x.2 := fun hq => hc (by
            have : e0 = x := inj_nodup hs.lw.ns he0 hx hq
            rw [← this, hk0])
          by_cases hd2 : e0.2 ∈ d
          · rw [if_pos hd2, if_pos (List.mem_cons_of_mem _ hd2)]
            refine ⟨_, ?_, rfl⟩
            unfold law18_InodeStale_l0
            simp only [show (x.1.1.1 == id) = false from by simp [hc], cond_false, Option.bind_some]
          · rw [if_neg hd2, if_neg (by simp [hne, hd2])]
            refine ⟨_, ?_, rfl⟩
            unfold law18_InodeStale_l0
            simp only [show (x.1.1.1 == id) = false from by simp [hc], cond_false, Option.bind_some]
      · subst hI
        rw [if_pos (hall e0 he0)]
        exact hF
  · refine ⟨L, D, ⟨ha.r, hs.lw, hs.dw, fun x hx => ?_, ddN⟩, ?_⟩
    · obtain ⟨q1, q2⟩ := hs.ll x hx
      exact ⟨q1, by rw [other _ q1 fun hc => hex ⟨x, hx, key x hx hc⟩]; exact q2⟩
    · intro γ F r hF
      refine mAll_same (l0 := L.1) ?_ (fun x hx => ?_) hF
      · show need (Nat.beq L.2 L.2) _ = _
        rw [need_true (by simp)]
      · have hc : ¬ x.1.1.1 = id := fun hc => hex ⟨x, hx, key x hx hc⟩
        unfold law18_InodeStale_l0
        simp only [show (x.1.1.1 == id) = false from by simp [hc], cond_false, Option.bind_some]
end Go.Ab.D

/- Layer 18: InodeStale. -/
namespace Go.Ab.D
open Go Go.Ab

/-- One round. -/
theorem staleRound {l : List (Int × (Int × (Bool × (Int × List Part))))} {i : Nat} {t : Tree} {L D : GMH} (hs : Stl t L D) (hi : i < l.length) (h50 : i < 50) :
    ∃ N L' D', Stl N L' D' ∧ law18_InodeStale_l3 fuel l (i : Int) t.1 t.2 L D = some (.inl (((i + 1 : Nat) : Int), (N.1, (N.2, (L', D'))))) := by
  obtain ⟨r1, hg⟩ : ∃ r1, l[i]? = some r1 := ⟨_, List.getElem?_eq_getElem hi⟩
  have hf := hs.r.fit
  generalize ho : ((r1.1, (pickV r1.2.1 21, (r1.2.2.1, (r1.2.2.2.1, r1.2.2.2.2)))) : Int × (Int × (Bool × (Int × List Part)))) = o
  have e1 : r1.1 = o.1 := by rw [← ho]
  have e2 : pickV r1.2.1 21 = o.2.1 := by rw [← ho]
  have e3 : r1.2.2.1 = o.2.2.1 := by rw [← ho]
  have e4 : r1.2.2.2.1 = o.2.2.2.1 := by rw [← ho]
  have e5 : r1.2.2.2.2 = o.2.2.2.2 := by rw [← ho]
  generalize hN : (doS t o).1 = N
  generalize hh : (doS t o).2.1 = h
  generalize he : (doS t o).2.2 = e
  have hdo : law18_do fuel t o = some (N.1, (N.2, (h.1, (h.2, e)))) := by rw [do_ok hf, hN, hh, he]
  have hb := do_base hs.r o
  rw [hN, he] at hb
  obtain ⟨hR, hstr, hbad⟩ := hb
  have hfN := hR.fit
  -- the handles behind the call
  have mid : ∃ L1 D1 L2 D2, Stl N L2 D2 ∧
      ((e = 0 ∧ pickV o.1 4 = 0 ∧ (∀ x ∈ L.1, x.1.1 ≠ h) ∧ (∀ x ∈ D.1, x.1.1 ≠ h) ∧ L1 = mput (k := KH) (v := .int .i64) L h 1 ∧ D1 = D ∧ L2 = L1 ∧ D2 = D1) ∨
       (e = 0 ∧ pickV o.1 4 ≠ 0 ∧ pickV o.1 4 = 1 ∧ L1 = L ∧ D1 = D ∧ DropOk t N o.2.1 e ∧ ∀ (b : Bool) {γ : Type} (F : (List Ino × (Int × (GMH × (GMH × (Int × (Int × (Bool × (Int × (List Part × (List Ino × Int)))))))))) ⊕ Empty → Option γ) (r : γ), F (.inl (t.1, (t.2, (L2, (D2, (o.1, (o.2.1, (o.2.2.1, (o.2.2.2.1, (o.2.2.2.2, (N.1, N.2))))))))))) = some r → mAll (fun (tt : (List Ino × (Int × (GMH × (GMH × (Int × (Int × (Bool × (Int × (List Part × (List Ino × Int))))))))))) => law18_InodeStale_l0_hd (b, (t.1, (t.2, (L, (D, (o.1, (o.2.1, (o.2.2.1, (o.2.2.2.1, (o.2.2.2.2, (N.1, N.2))))))))))) tt.1 tt.2.1 tt.2.2.1 tt.2.2.2.1 tt.2.2.2.2.1 tt.2.2.2.2.2.1 tt.2.2.2.2.2.2.1 tt.2.2.2.2.2.2.2.1 tt.2.2.2.2.2.2.2.2.1 tt.2.2.2.2.2.2.2.2.2.1 tt.2.2.2.2.2.2.2.2.2.2)
      (fun (tt : (List Ino × (Int × (GMH × (GMH × (Int × (Int × (Bool × (Int × (List Part × (List Ino × Int))))))))))) (ee : (((Int × Int) × Int) × Nat)) => law18_InodeStale_l0 fuel tt.1 tt.2.1 tt.2.2.1 tt.2.2.2.1 tt.2.2.2.2.1 tt.2.2.2.2.2.1 tt.2.2.2.2.2.2.1 tt.2.2.2.2.2.2.2.1 tt.2.2.2.2.2.2.2.2.1 tt.2.2.2.2.2.2.2.2.2.1 tt.2.2.2.2.2.2.2.2.2.2 ee)
      (t.1, (t.2, (L, (D, (o.1, (o.2.1, (o.2.2.1, (o.2.2.2.1, (o.2.2.2.2, (N.1, N.2)))))))))) F = some r) ∨
       ((e ≠ 0 ∨ (pickV o.1 4 ≠ 0 ∧ pickV o.1 4 ≠ 1)) ∧ L1 = L ∧ D1 = D ∧ L2 = L ∧ D2 = D)) := by
    by_cases he0 : e = 0
    · by_cases hp0 : pickV o.1 4 = 0
      · have ha : AllocOk t N h e := by
          have := alloc_keeps hs.r o.2.2.1 o.2.1
          rw [← hN, ← hh, ← he]
          unfold doS
          rw [if_pos hp0]
          exact this
        obtain ⟨q1, q2, q3⟩ := hs.alloc ha he0
        exact ⟨_, _, _, _, q3, .inl ⟨he0, hp0, q1, q2, rfl, rfl, rfl, rfl⟩⟩
      · by_cases hp1 : pickV o.1 4 = 1
        · have ha : DropOk t N o.2.1 e := by
            have := drop_keeps hs.r o.2.1
            rw [← hN, ← he]
            unfold doS
            rw [if_neg hp0, if_pos hp1]
            exact this
          obtain ⟨L', D', q1, q2⟩ := dropLoop hs ha he0 true o.1 o.2.2.1 o.2.2.2.1 o.2.2.2.2
          refine ⟨_, _, L', D', q1, .inr (.inl ⟨he0, hp0, hp1, rfl, rfl, ha, fun b γ F r hF => ?_⟩)⟩
          exact q2 F r hF
        · refine ⟨_, _, _, _, hs.keep hR ?_, .inr (.inr ⟨.inr ⟨hp0, hp1⟩, rfl, rfl, rfl, rfl⟩)⟩
          rw [← hN]
          unfold doS
          rw [if_neg hp0, if_neg hp1]
          split
          · exact (set_keeps hs.r _ _ _).all
          · exact (fresh_keeps hs.r _).all
    · exact ⟨_, _, _, _, hs.keep hR (by rw [hbad he0]; exact fun _ => rfl), .inr (.inr ⟨.inl he0, rfl, rfl, rfl, rfl⟩)⟩
  obtain ⟨L1, D1, L2, D2, hS2, hmid⟩ := mid
  refine ⟨N, L2, D2, hS2, ?_⟩
  -- the two loops that ask
  have ask : ∀ (F : Option ((Int × (List Ino × (Int × (GMH × GMH)))) ⊕ (Unit ⊕ Bool))), F =
      (mAll (fun (tt : (List Ino × (Int × (GMH × GMH)))) => law18_InodeStale_l1_hd (t.1, (t.2, (L2, (D2, (N.1, N.2))))) tt.1 tt.2.1 tt.2.2.1 tt.2.2.2) (fun (tt : (List Ino × (Int × (GMH × GMH)))) (ee : (((Int × Int) × Int) × Nat)) => law18_InodeStale_l1 fuel tt.1 tt.2.1 tt.2.2.1 tt.2.2.2 ee) (N.1, (N.2, (L2, D2))) fun o12 =>
        match o12 with
        | .inl s2 =>
          mAll (fun (tt : (List Ino × (Int × (GMH × GMH)))) => law18_InodeStale_l2_hd s2 tt.1 tt.2.1 tt.2.2.1 tt.2.2.2) (fun (tt : (List Ino × (Int × (GMH × GMH)))) (ee : (((Int × Int) × Int) × Nat)) => law18_InodeStale_l2 fuel tt.1 tt.2.1 tt.2.2.1 tt.2.2.2 ee) (s2.1, (s2.2.1, (s2.2.2.1, s2.2.2.2))) fun o14 =>
          match o14 with
          | .inl s3 =>
            some (.inl ((IntKind.wrap .i64 ((i : Int) + 1)), (s3.1, (s3.2.1, (s3.2.2.1, s3.2.2.2)))))
          | .inr o15 =>
            some o15
        | .inr o13 =>
          some o13) → F = some (.inl (((i + 1 : Nat) : Int), (N.1, (N.2, (L2, D2))))) := by
    intro F hF
    rw [hF]
    refine mAll_same (l0 := L2.1) ?_ (fun x hx => ?_) ?_
    · show need (Nat.beq L2.2 L2.2) _ = _
      rw [need_true (by simp)]
    · obtain ⟨n, q1, q2, q3⟩ := live_get hR (hS2.ll x hx)
      unfold law18_InodeStale_l1
      rw [show inode_Get fuel (N.1, N.2) (x.1.1.1, x.1.1.2) = _ from (inoGet hfN x.1.1).trans (by rw [q1]), Option.bind_some]
      rw [show ((outG (n, 0)).2.2.2.2.2.2.2.2 == 0) = true from rfl, show ((outG (n, 0)).1 == x.1.1.1) = true from by show (n.1 == _) = true; simp [q2], show (outG (n, 0)).2.2.1 = true from q3]
      rfl
    · refine mAll_same (l0 := D2.1) ?_ (fun x hx => ?_) ?_
      · show need (Nat.beq D2.2 D2.2) _ = _
        rw [need_true (by simp)]
      · unfold law18_InodeStale_l2
        rw [show inode_Get fuel (N.1, N.2) (x.1.1.1, x.1.1.2) = _ from (inoGet hfN x.1.1).trans (by rw [dead_get (hS2.dd x hx)])]
        rfl
      · simp only []
        rw [w64 (by omega)]
        rfl
  unfold law18_InodeStale_l3
  rw [show decide ((i : Int) < ((l.length : Nat) : Int)) = true from lt_dec hi, show decide ((i : Int) < 50) = true from by simp; omega]
  simp only [cond_true, Option.bind_some]
  rw [idx_nat hi, Option.bind_some, hg, Option.bind_some, pick_ok _ 21 (by omega), Option.bind_some]
  rw [show law18_do fuel (t.1, t.2) (r1.1, (pickV r1.2.1 21, (r1.2.2.1, (r1.2.2.2.1, r1.2.2.2.2)))) = some (N.1, (N.2, (h.1, (h.2, e)))) from by rw [ho]; exact hdo, Option.bind_some]
  rw [e1, e2, e3, e4, e5]
  dsimp only
  rw [show inode_Right fuel (N.1, N.2) = some true from by rw [show inode_Right fuel (N.1, N.2) = _ from inoRight hfN, rightB_iff.2 hR]]
  rw [show decide (N.2 < t.2) = false from by simp; omega]
  simp only [Option.bind_some, Bool.not_true, cond_false]
  have same : (bif (!(e == 0)) then
          (kit_SameTree fuel (t.1, t.2) (N.1, N.2)).bind fun r5 =>
          bif (!r5) then
            some (true, (t.1, (t.2, (L, (D, (o.1, (o.2.1, (o.2.2.1, (o.2.2.2.1, (o.2.2.2.2, (N.1, (N.2, (h.1, h.2)))))))))))))
          else
            some (false, (t.1, (t.2, (L, (D, (o.1, (o.2.1, (o.2.2.1, (o.2.2.2.1, (o.2.2.2.2, (N.1, (N.2, (h.1, h.2)))))))))))))
        else
          some (false, (t.1, (t.2, (L, (D, (o.1, (o.2.1, (o.2.2.1, (o.2.2.2.1, (o.2.2.2.2, (N.1, (N.2, (h.1, h.2)))))))))))))) = some (false, (t.1, (t.2, (L, (D, (o.1, (o.2.1, (o.2.2.1, (o.2.2.2.1, (o.2.2.2.2, (N.1, (N.2, (h.1, h.2)))))))))))))  := by
    by_cases he0 : e = 0
    · rw [show (e == 0) = true from by simp [he0]]; rfl
    · rw [show (e == 0) = false from by simp [he0]]
      have : N = t := hbad he0
      subst this
      rw [show kit_SameTree fuel (N.1, N.2) (N.1, N.2) = some true from sameTree_refl hfN]
      rfl
  rw [same]
  simp only [Option.bind_some, cond_false]
  rw [pick_ok _ 4 (by omega)]
  rcases hmid with ⟨he0, hp0, q1, q2, rfl, rfl, rfl, rfl⟩ | ⟨he0, hp0, hp1, rfl, rfl, ha, q⟩ | ⟨hor, rfl, rfl, rfl, rfl⟩
  · rw [show (e == 0) = true from by simp [he0]]
    simp only [cond_true, Option.bind_some]
    rw [show (pickV o.1 4 == 0) = true from by simp [hp0]]
    simp only [cond_true, Option.bind_some]
    rw [show ((Option.getD (mget (k := (.pair (.int .i64) (.int .i64))) (v := (.int .i64)) L (h.1, h.2)) 0 : Int) == 1) = false from mget_no q1, show ((Option.getD (mget (k := (.pair (.int .i64) (.int .i64))) (v := (.int .i64)) D2 (h.1, h.2)) 0 : Int) == 1) = false from mget_no q2]
    simp only [cond_false, Option.bind_some]
    rw [pick_ok _ 4 (by omega)]
    simp only [Option.bind_some]
    rw [show (pickV o.1 4 == 1) = false from by rw [hp0]; rfl]
    simp only [cond_false, Option.bind_some]
    exact ask _ rfl
  · rw [show (e == 0) = true from by simp [he0]]
    simp only [cond_true, Option.bind_some]
    rw [show (pickV o.1 4 == 0) = false from by simp [hp0]]
    simp only [cond_true, cond_false, Option.bind_some]
    rw [pick_ok _ 4 (by omega)]
    simp only [Option.bind_some]
    rw [show (pickV o.1 4 == 1) = true from by simp [hp1]]
    simp only [cond_true]
    rw [q true _ (t.1, (t.2, (L2, (D2, (N.1, N.2))))) ?_]
    · exact ask _ rfl
    · rfl
  · by_cases he0 : e = 0
    · have hp : pickV o.1 4 ≠ 0 ∧ pickV o.1 4 ≠ 1 := by
        rcases hor with h1 | h1
        · exact absurd he0 h1
        · exact h1
      rw [show (e == 0) = true from by simp [he0]]
      simp only [cond_true, Option.bind_some]
      rw [show (pickV o.1 4 == 0) = false from by simp [hp.1]]
      simp only [cond_true, cond_false, Option.bind_some]
      rw [pick_ok _ 4 (by omega)]
      simp only [Option.bind_some]
      rw [show (pickV o.1 4 == 1) = false from by simp [hp.2]]
      simp only [cond_false, Option.bind_some]
      exact ask _ rfl
    · rw [show (e == 0) = false from by simp [he0]]
      simp only [cond_false, Option.bind_some]
      exact ask _ rfl
theorem law18_InodeStale_true (l : List (Int × (Int × (Bool × (Int × List Part))))) (_k1 : OkV (.sl (.pair (.int .i64) (.pair (.int .i64) (.pair .bool (.pair (.int .i64) (.sl (.pair (.int .i64) (.int .i64)))))))) l) : law18_InodeStale fuel l = some true := by
  unfold law18_InodeStale inode_New
  rw [Option.bind_some]
  have hs0 : Stl ([root1], 0) (([(((1, 1), 1), 0)], 1) : GMH) (([], 0) : GMH) := by
    refine ⟨rightC_iff.1 rfl, ⟨by simp [keysU], by simp, by simp⟩, ⟨by simp [keysU], by simp, by simp⟩, fun e he => ?_, fun e he => by cases he⟩
    have he : e ∈ [((((1, 1), 1), 0) : ((Int × Int) × Int) × Nat)] := he
    simp at he
    subst he
    exact ⟨by decide, rfl⟩
  have loop : ∃ o, law18_InodeStale_l3_it fuel l (0, ([(1, (1, (true, (true, (0, ([], (1, [])))))))], (0, (([(((1, 1), 1), 0)], 1), ([], 0))))) = some o ∧ o = .inl () := by
    unfold law18_InodeStale_l3_it
    refine iter_ex (fun m st => ∃ (i : Nat) (t : Tree) (L D : GMH), st = ((i : Int), (t.1, (t.2, (L, D)))) ∧ i + m = 50 ∧ Stl t L D) _ (fun m st hI => ?_) (fun st hI => ?_) 50 _ (by omega) ⟨0, ([root1], 0), _, _, rfl, by omega, hs0⟩
    · obtain ⟨i, t, L, D, rfl, hi, hs⟩ := hI
      by_cases hlt : i < l.length
      · left
        obtain ⟨N, L', D', h1, h2⟩ := staleRound hs hlt (by omega)
        exact ⟨_, h2, i + 1, N, L', D', rfl, by omega, h1⟩
      · right
        refine ⟨_, ?_, rfl⟩
        unfold law18_InodeStale_l3
        rw [show decide ((i : Int) < ((l.length : Nat) : Int)) = false from nlt_dec hlt]
        rfl
    · obtain ⟨i, t, L, D, rfl, hi, hs⟩ := hI
      refine ⟨_, ?_, rfl⟩
      have h5 : decide ((i : Int) < 50) = false := by simp; omega
      unfold law18_InodeStale_l3
      cases decide ((i : Int) < ((l.length : Nat) : Int)) with
      | true => simp only [cond_true, h5, Option.bind_some, cond_false]
      | false => rfl
  obtain ⟨o, ho, rfl⟩ := loop
  rw [ho, Option.bind_some]
  simp only []
  rw [awake18_ok]
  rfl
end Go.Ab.D
