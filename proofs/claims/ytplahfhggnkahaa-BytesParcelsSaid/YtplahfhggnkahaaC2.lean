/- BytesPairs: the plain law. -/
import Derived.Test.YtplahfhggnkahaaC1
set_option linter.all false
namespace Go.Ab.D
open Go.P1
attribute [local irreducible] Go.P1.crcT tabI

theorem awake_is : law01_awake = some true := by kernel_rfl
theorem tmod_nat (a b : Nat) : Int.tmod (a : Int) (b : Int) = ((a % b : Nat) : Int) := rfl
theorem tdiv_nat (a b : Nat) : Int.tdiv (a : Int) (b : Int) = ((a / b : Nat) : Int) := rfl
theorem turned_is {b : List UInt8} (h0 : 0 < b.length) (hb : b.length ≤ 1000000) (ks : List Nat) (hk : ∀ k ∈ ks, k < 65536) (hl : ks.length < 1000000) : law01_turned b (ks.map fun (k : Nat) => (k : Int)) = some (P1.turned b ks) := by
  unfold law01_turned law01_turned_l0_it
  rw [copy_is (by unfold room; omega)]
  simp only [Option.bind_some]
  have := iter_range (f := fun (tt : Int × List UInt8) => law01_turned_l0 (ks.map fun (k : Nat) => (k : Int)) tt.1 tt.2) (o := P1.turned b ks) (fun k => ((k : Int), P1.turned b (ks.take k))) ks.length (by omega)
    (fun k hkl => by
      show law01_turned_l0 _ (k : Int) (P1.turned b (ks.take k)) = _
      have hlen : (P1.turned b (ks.take k)).length = b.length := P1.turned_len _ _
      obtain ⟨m, hm⟩ : ∃ m, ks[k] = m := ⟨_, rfl⟩
      have hm65 : m < 65536 := hm ▸ hk _ (List.getElem_mem hkl)
      have g1 : (ks.map fun (k : Nat) => (k : Int))[k]? = some (m : Int) := by simp [hkl, hm]
      obtain ⟨N, hN⟩ : ∃ N, N = 8 * b.length := ⟨_, rfl⟩
      have hN0 : 0 < N := by omega
      have hi : m % N < N := Nat.mod_lt _ hN0
      obtain ⟨i, hi'⟩ : ∃ i, i = m % N := ⟨_, rfl⟩
      rw [← hi'] at hi
      have e8 : IntKind.wrap .i64 (8 * ((b.length : Nat) : Int)) = (N : Int) := by rw [w64 ⟨by omega, by omega⟩]; omega
      have em : IntKind.wrap .i64 (m : Int) = (m : Int) := w64 ⟨by omega, by omega⟩
      have et : Int.tmod (m : Int) (N : Int) = (i : Int) := by rw [tmod_nat, hi']
      have ed : Int.tdiv (i : Int) 8 = ((i / 8 : Nat) : Int) := tdiv_nat i 8
      have er : Int.tmod (i : Int) 8 = ((i % 8 : Nat) : Int) := tmod_nat i 8
      have ei : IntKind.wrap .i64 ((i / 8 : Nat) : Int) = ((i / 8 : Nat) : Int) := w64 ⟨by omega, by omega⟩
      have en : IntKind.wrap .i64 (((b.length : Nat) : Int) - 1) = ((b.length - 1 : Nat) : Int) := by rw [w64 ⟨by omega, by omega⟩]; omega
      have eq : IntKind.wrap .i64 (((b.length - 1 : Nat) : Int) - ((i / 8 : Nat) : Int)) = ((b.length - 1 - i / 8 : Nat) : Int) := by rw [w64 ⟨by omega, by omega⟩]; omega
      have hq : b.length - 1 - i / 8 < b.length := by omega
      have e2 : (2 : Int) ^ (min ((i % 8 : Nat) : Int).toNat 8) = ((2 ^ (i % 8) : Nat) : Int) := by
        have : min ((i % 8 : Nat) : Int).toNat 8 = i % 8 := by omega
        rw [this]; simp
      have h2 : 2 ^ (i % 8) < 256 := by
        have : i % 8 ≤ 7 := by omega
        exact Nat.lt_of_le_of_lt (Nat.pow_le_pow_right (by omega) this) (by decide)
      have e30 : ∀ p : Nat, p < 256 → IntKind.wrap .u8 (1 * (p : Int)) = (p : Int) := fun p hp => by rw [Int.one_mul, wu8 ⟨by omega, by omega⟩]
      have e3 := e30 _ h2
      have hg : (P1.turned b (ks.take k))[b.length - 1 - i / 8]? = some ((P1.turned b (ks.take k)).getD (b.length - 1 - i / 8) 0) := by
        rw [List.getD_eq_getElem?_getD, List.getElem?_eq_getElem (by omega)]; rfl
      have hc := ((P1.turned b (ks.take k)).getD (b.length - 1 - i / 8) 0).toNat_lt
      unfold law01_turned_l0
      rw [List.length_map, decide_eq_true (show (k : Int) < (ks.length : Nat) by omega), idx_nat hkl]
      simp only [cond_true, Option.bind_some, g1, hlen, e8, em, et, ed, er, ei, en, eq]
      rw [need_true (by simp; omega), idx_nat hq]
      simp only [Option.bind_some, hg, e2, e3, xor8 hc h2]
      rw [need_true (decide_eq_true (by omega)), byte_nat (P1.xor_lt8 hc h2)]
      simp only [Option.bind_some]
      rw [w64 ⟨by omega, by omega⟩, List.take_succ_eq_append_getElem hkl, hm, P1.turned_snoc, ← hN, ← hi']
      congr 3
      unfold P1.flip
      rw [hlen]
      congr 1
      apply UInt8.toNat_inj.1
      rw [UInt8.toNat_ofNat', UInt8.toNat_xor, UInt8.toNat_ofNat', Nat.mod_eq_of_lt (P1.xor_lt8 hc h2), Nat.mod_eq_of_lt h2])
    (by
      show law01_turned_l0 _ ((ks.length : Nat) : Int) _ = _
      unfold law01_turned_l0
      rw [List.length_map, decide_eq_false (by omega), List.take_length]
      rfl)
  have this' : iter fuel (fun (tt : Int × List UInt8) => law01_turned_l0 (ks.map fun (k : Nat) => (k : Int)) tt.1 tt.2) ((0 : Int), b) = some (P1.turned b ks) := this
  rw [this']
  rfl
theorem pick_is {x : Int} {n : Nat} (hx : -9223372036854775808 ≤ x ∧ x ≤ 9223372036854775807) (h0 : 0 < n) (hn : n ≤ 1000000) : ∃ k : Nat, k < n ∧ low_Pick x (n : Int) = some (k : Int) := by
  have h1 := Int.tmod_lt_of_pos x (show (0 : Int) < n by omega)
  have h2 := Int.lt_tmod_of_pos x (show (0 : Int) < n by omega)
  unfold low_Pick
  rw [decide_eq_false (by omega), need_true (by simp; omega)]
  simp only [cond_false]
  by_cases hneg : Int.tmod x n < 0
  · rw [decide_eq_true hneg]
    refine ⟨(Int.tmod x n + n).toNat, by omega, ?_⟩
    simp only [cond_true]
    rw [w64 ⟨by omega, by omega⟩]
    congr 1
    omega
  · rw [decide_eq_false hneg]
    refine ⟨(Int.tmod x n).toNat, by omega, ?_⟩
    simp only [cond_false]
    congr 1
    omega
/-- The burst's loop. -/
theorem burst_is' {b : List UInt8} {k f : Nat} (hb : b.length ≤ 400) (hk : k < b.length) (hf : f < 4294967296) (T : List Int) (s : List UInt8) :
    law01_BytesPairs_l0_it (k : Int) (f : Int) (0, (T, (s, b))) = some (T, (s, P1.burst b k f (min 4 (b.length - k)))) := by
  unfold law01_BytesPairs_l0_it
  obtain ⟨n, hn⟩ : ∃ n, n = min 4 (b.length - k) := ⟨_, rfl⟩
  rw [← hn]
  have := iter_range (f := fun (tt : Int × (List Int × (List UInt8 × List UInt8))) => law01_BytesPairs_l0 (k : Int) (f : Int) tt.1 tt.2.1 tt.2.2.1 tt.2.2.2) (o := (T, (s, P1.burst b k f n))) (fun i => ((i : Int), (T, (s, P1.burst b k f i)))) n (by omega)
    (fun i hi => by
      show law01_BytesPairs_l0 (k : Int) (f : Int) (i : Int) T s (P1.burst b k f i) = _
      have hlen := P1.burst_len b k f i
      have e1 : IntKind.wrap .i64 ((k : Int) + (i : Int)) = ((k + i : Nat) : Int) := by rw [w64 ⟨by omega, by omega⟩]; omega
      have e2 : IntKind.wrap .i64 (8 * (i : Int)) = ((8 * i : Nat) : Int) := by rw [w64 ⟨by omega, by omega⟩]; omega
      have hq : k + i < b.length := by omega
      have e3 : (2 : Int) ^ (min ((8 * i : Nat) : Int).toNat 32) = ((2 ^ (8 * i) : Nat) : Int) := by
        have : min ((8 * i : Nat) : Int).toNat 32 = 8 * i := by omega
        rw [this]; simp
      have e4 : IntKind.wrap .u8 (Int.fdiv (f : Int) ((2 ^ (8 * i) : Nat) : Int)) = ((f / 2 ^ (8 * i) % 256 : Nat) : Int) := by rw [fdiv_nat, wu8_mod]; omega
      have hg : (P1.burst b k f i)[k + i]? = some ((P1.burst b k f i).getD (k + i) 0) := by
        rw [List.getD_eq_getElem?_getD, List.getElem?_eq_getElem (by omega)]; rfl
      have hc := ((P1.burst b k f i).getD (k + i) 0).toNat_lt
      have hx := P1.xor_lt8 hc (Nat.mod_lt (f / 2 ^ (8 * i)) (show 0 < 256 by omega))
      unfold law01_BytesPairs_l0
      rw [decide_eq_true (show (i : Int) < 4 by omega)]
      simp only [cond_true, Option.bind_some, e1, hlen]
      rw [decide_eq_true (show ((k + i : Nat) : Int) < ((b.length : Nat) : Int) by omega), idx_nat hq]
      simp only [cond_true, Option.bind_some, hg, e2, e3, e4, xor8 hc (Nat.mod_lt (f / 2 ^ (8 * i)) (show 0 < 256 by omega))]
      rw [need_true (decide_eq_true (by omega)), byte_nat hx]
      simp only [Option.bind_some]
      rw [w64 ⟨by omega, by omega⟩]
      have hb8 : UInt8.ofNat (((P1.burst b k f i).getD (k + i) 0).toNat ^^^ f / 2 ^ (8 * i) % 256) = (P1.burst b k f i).getD (k + i) 0 ^^^ UInt8.ofNat (f / 2 ^ (8 * i)) := by
        apply UInt8.toNat_inj.1
        rw [UInt8.toNat_ofNat', UInt8.toNat_xor, UInt8.toNat_ofNat', Nat.mod_eq_of_lt hx]
      rw [hb8]
      rfl)
    (by
      show law01_BytesPairs_l0 (k : Int) (f : Int) (n : Int) T s (P1.burst b k f n) = _
      have hlen := P1.burst_len b k f n
      unfold law01_BytesPairs_l0
      by_cases h4 : n < 4
      · have e1 : IntKind.wrap .i64 ((k : Int) + (n : Int)) = ((k + n : Nat) : Int) := by rw [w64 ⟨by omega, by omega⟩]; omega
        rw [decide_eq_true (show (n : Int) < 4 by omega)]
        simp only [cond_true, Option.bind_some, e1, hlen]
        rw [decide_eq_false (by omega)]
        rfl
      · rw [decide_eq_false (by omega)]
        rfl)
  exact this
theorem pairs_round {b x : List UInt8} (hb : b.length ≤ 400) (ht : P1.Told b x) (r7 r8 : List UInt8) (o2 : List Int × (List UInt8 × List UInt8)) (k : Nat) (hk : k < 3) (hx : [r7, r8, o2.2.2][k]? = some x) :
    law01_BytesPairs_l1 r7 r8 o2 b (k : Int) (tabI crcT) (sealed (P1.sum crcT) b) = some (.inl (((k + 1 : Nat) : Int), (tabI crcT, sealed (P1.sum crcT) b))) := by
  have hlx := ht.1
  have hsl : (sealed (P1.sum crcT) b).length = b.length + 4 := by simp [sealed, be4]
  have htd : List.take (b.length + 4 - b.length) (List.drop b.length (sealed (P1.sum crcT) b)) = be4 (P1.sum crcT b) := by
    unfold sealed
    rw [List.drop_left]
    have : b.length + 4 - b.length = 4 := by omega
    rw [this]
    rfl
  have hun := unseal_is crcT_tab (b := x ++ be4 (P1.sum crcT b)) (by simp [be4]; omega)
  rw [told_unsealed ht] at hun
  unfold law01_BytesPairs_l1
  rw [decide_eq_true (show (k : Int) < 3 by omega), idx_nat hk]
  simp only [cond_true, Option.bind_some, hx]
  rw [copy_is (by unfold room; omega), hsl, upto_nat (by omega)]
  simp only [Option.bind_some]
  rw [need_true (ble_true (by omega)), htd, need_true (by
    have : x.length + (be4 (P1.sum crcT b)).length ≤ 404 := by simp [be4]; omega
    rw [ble_true (by unfold room; omega), ble_true (by unfold room; omega)]; rfl), hun]
  simp only [Option.bind_some]
  rw [sum_is crcT_tab (by omega), sum_is crcT_tab (by omega), w64 ⟨by omega, by omega⟩]
  simp only [Option.bind_some]
  by_cases he : x = b
  · subst he
    simp
  · have h1 : (x == b) = false := by simpa using he
    have h2 : (((P1.sum crcT x : Nat) : Int) == ((P1.sum crcT b : Nat) : Int)) = false := by
      have : ¬ P1.sum crcT x = P1.sum crcT b := fun h => he (ht.2 h)
      rw [beq_eq_false_iff_ne]
      omega
    rw [if_neg he, h1, h2]
    rfl
theorem law01_BytesPairs_true (b : List UInt8) (one two at_ four : Int) (k0 : OkV (.sl .byte) b) (k1 : OkV (.int .u16) one) (k2 : OkV (.int .u16) two) (k3 : OkV (.int .i64) at_) (k4 : OkV (.int .u32) four) : law01_BytesPairs b one two at_ four = some true := by
  have b1 : 0 ≤ one ∧ one ≤ 65535 := k1
  have b2 : 0 ≤ two ∧ two ≤ 65535 := k2
  have b3 : -9223372036854775808 ≤ at_ ∧ at_ ≤ 9223372036854775807 := k3
  have b4 : 0 ≤ four ∧ four ≤ 4294967295 := k4
  clear k0 k1 k2 k3 k4
  unfold law01_BytesPairs
  by_cases h0 : b.length = 0
  · have e : (((b.length : Nat) : Int) == 0) = true := by simp [h0]
    rw [e]
    simp only [cond_true, Option.bind_some, awake_is]
  by_cases h4 : 400 < b.length
  · have e : (((b.length : Nat) : Int) == 0) = false := by simp; intro h; simp [h] at h0
    rw [e, decide_eq_true (show ((b.length : Nat) : Int) > 400 by omega)]
    simp only [cond_true, cond_false, Option.bind_some, awake_is]
  have e : (((b.length : Nat) : Int) == 0) = false := by simp; intro h; simp [h] at h0
  rw [e, decide_eq_false (show ¬ ((b.length : Nat) : Int) > 400 by omega)]
  have hsl : (sealed (P1.sum crcT) b).length = b.length + 4 := by simp [sealed, be4]
  obtain ⟨k, hk, hp⟩ := pick_is (n := b.length) b3 (by omega) (by omega)
  obtain ⟨o, rfl⟩ : ∃ o : Nat, one = o := ⟨one.toNat, by omega⟩
  obtain ⟨t, rfl⟩ : ∃ t : Nat, two = t := ⟨two.toNat, by omega⟩
  obtain ⟨f, rfl⟩ : ∃ f : Nat, four = f := ⟨four.toNat, by omega⟩
  have t1 := turned_is (b := b) (by omega) (by omega) [o] (by intro k hk; simp at hk; omega) (by simp)
  have t2 := turned_is (b := b) (by omega) (by omega) [o, t] (by intro k hk; simp at hk; omega) (by simp)
  simp only [List.map_cons, List.map_nil] at t1 t2
  have hw : (((sealed (P1.sum crcT) b).length : Nat) : Int) == IntKind.wrap .i64 (((b.length : Nat) : Int) + 4) := by
    rw [hsl, w64 ⟨by omega, by omega⟩]; simp
  have hb8 := burst_is' (b := b) (k := k) (f := f) (by omega) hk (by omega) (tabI crcT) (sealed (P1.sum crcT) b)
  have hT : (tabI crcT).length = 256 := by rw [tabI_len]; exact crcT_tab.1
  simp only [cond_false, Option.bind_some, table_is, hT]
  simp only [List.length_replicate]
  rw [need_true (by rfl), need_true (by rfl), seal_is crcT_tab (by omega)]
  simp only [Option.bind_some, hw, Bool.not_true, cond_false, hp]
  rw [copy_is (by unfold room; omega)]
  simp only [Option.bind_some, hb8, t1, t2]
  have hl := iter_range (f := fun (tt : Int × (List Int × List UInt8)) => law01_BytesPairs_l1 (P1.turned b [o]) (P1.turned b [o, t]) (tabI crcT, (sealed (P1.sum crcT) b, P1.burst b k f (min 4 (b.length - k)))) b tt.1 tt.2.1 tt.2.2) (o := .inl ()) (fun i => ((i : Int), (tabI crcT, sealed (P1.sum crcT) b))) 3 (by decide)
    (fun i hi => by
      have : i = 0 ∨ i = 1 ∨ i = 2 := by omega
      rcases this with rfl | rfl | rfl
      · exact pairs_round (by omega) (told_one b o (by omega)) _ _ _ 0 (by omega) rfl
      · exact pairs_round (by omega) (told_two b o t (by omega) (by omega)) _ _ _ 1 (by omega) rfl
      · exact pairs_round (by omega) (told_burst b k f (min 4 (b.length - k)) (by omega) (by omega)) _ _ _ 2 (by omega) rfl)
    (by rfl)
  unfold law01_BytesPairs_l1_it
  rw [show ((0 : Int), (tabI crcT, sealed (P1.sum crcT) b)) = (((0 : Nat) : Int), (tabI crcT, sealed (P1.sum crcT) b)) from rfl, hl]
  simp only [Option.bind_some, awake_is]
end Go.Ab.D
