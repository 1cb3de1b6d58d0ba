/- BytesParcels: the plain law. -/
import Derived.Test.YtplahfhggnkahaaC3
import Derived.Test.YtplahfhggnkahaaC2
set_option linter.all false
namespace Go.Ab.D
open Go.P1
attribute [local irreducible] Go.P1.crcT tabI

theorem num_varint : ∀ (n k m : Nat) (post : List UInt8), (0 < k → n ≠ 0) → k ≤ 9 → n * 2 ^ (7 * k) < 18446744073709551616 → num (varint n ++ post) k m = (m + n * 2 ^ (7 * k), k + (varint n).length, 0) := fun n => by
  induction n using Nat.strongRecOn with
  | _ n ih =>
    intro k m post h0 hk hn
    by_cases h : n < 128
    · rw [varint_lt h]
      have hc : (UInt8.ofNat n).toNat = n := by rw [UInt8.toNat_ofNat']; omega
      have h9 : 8 < k → n ≤ 1 := fun h8 => by
        obtain rfl : k = 9 := by omega
        have : (2 : Nat) ^ (7 * 9) = 9223372036854775808 := by decide
        rw [this] at hn
        omega
      show num (UInt8.ofNat n :: post) k m = _
      rw [num_end (by rw [hc]; rintro (⟨a, b⟩ | ⟨a, b⟩); exact h0 a b; have := h9 a; omega) (by rw [hc]; exact h), hc, Nat.mod_eq_of_lt h]
      rfl
    · have h' : 128 ≤ n := by omega
      rw [varint_ge h']
      have hc : (UInt8.ofNat (n % 128 + 128)).toNat = n % 128 + 128 := by rw [UInt8.toNat_ofNat']; omega
      have hk8 : k ≤ 8 := by
        by_cases h8 : k ≤ 8
        · exact h8
        · exfalso
          obtain rfl : k = 9 := by omega
          have : (2 : Nat) ^ (7 * 9) = 9223372036854775808 := by decide
          rw [this] at hn
          omega
      show num (UInt8.ofNat (n % 128 + 128) :: (varint (n / 128) ++ post)) k m = _
      have hm : (n % 128 + 128) % 128 = n % 128 := by omega
      have hp := pow7 k
      have hsplit : n % 128 * 2 ^ (7 * k) + n / 128 * (128 * 2 ^ (7 * k)) = n * 2 ^ (7 * k) := by
        rw [← Nat.mul_assoc, Nat.mul_comm (n / 128) 128, ← Nat.add_mul, Nat.mod_add_div]
      rw [num_step (by rw [hc]; omega) (by rw [hc]; omega), hc, hm, ih (n / 128) (by omega) (k + 1) _ post (by omega) (by omega) (by rw [hp]; omega), hp]
      simp only [List.length_cons, Prod.mk.injEq, and_true]
      omega
theorem getUint_at {n : Nat} (hn : n < 18446744073709551616) (pre post : List UInt8) : getUint (pre ++ (varint n ++ post)) (pre.length : Int) = (n, pre.length + (varint n).length, 0) := by
  have := num_varint n 0 0 post (by omega) (by omega) (by simpa using hn)
  refine getUint_of (by simp) ?_
  rw [List.drop_left]
  simpa using this
theorem getBlob_at {s : List UInt8} {most : Int} (hs : s.length < 18446744073709551616) (hm : (s.length : Int) ≤ most) (pre post : List UInt8) :
    getBlob (pre ++ (varint s.length ++ (s ++ post))) (pre.length : Int) most = (s, pre.length + (varint s.length).length + s.length, 0) := by
  have hu := getUint_at hs pre (s ++ post)
  have hlen : (pre ++ (varint s.length ++ (s ++ post))).length = pre.length + (varint s.length).length + s.length + post.length := by simp; omega
  rw [getBlob_ok hu (by omega) (by omega)]
  have : (pre ++ (varint s.length ++ (s ++ post))).drop (pre.length + (varint s.length).length) = s ++ post := by
    rw [← List.append_assoc]
    exact List.drop_left' (by simp)
  rw [this, List.take_left]

/-! Parcels -/
def bodyP (n : Nat) (b : List UInt8) : List UInt8 := varint n ++ (varint b.length ++ b)
def pk (n : Nat) (b : List UInt8) (s : Bool) : List UInt8 := if s then varint (sealed (P1.sum crcT) (bodyP n b)).length ++ sealed (P1.sum crcT) (bodyP n b) else bodyP n b
theorem bodyP_len {n : Nat} {b : List UInt8} (hn : n < 18446744073709551616) (hb : b.length ≤ 100) : (bodyP n b).length ≤ 120 := by
  have h1 := varint_len10 hn
  have h2 := varint_len10 (n := b.length) (by omega)
  simp [bodyP]
  omega
theorem sealed_len (b : List UInt8) : (sealed (P1.sum crcT) b).length = b.length + 4 := by simp [sealed, be4]
theorem pk_len {n : Nat} {b : List UInt8} {s : Bool} (hn : n < 18446744073709551616) (hb : b.length ≤ 100) : (pk n b s).length ≤ 134 := by
  have h0 := bodyP_len hn hb
  have h1 := sealed_len (bodyP n b)
  have h2 := varint_len10 (n := (sealed (P1.sum crcT) (bodyP n b)).length) (by omega)
  cases s
  · simp [pk]; omega
  · simp only [pk, if_true, List.length_append]; omega
abbrev Pc := Int × (List UInt8 × Bool)
def Pc.ok (p : Pc) : Prop := 0 ≤ p.1 ∧ p.1 < 18446744073709551616 ∧ p.2.1.length ≤ 100
def Pc.pk (p : Pc) : List UInt8 := D.pk p.1.toNat p.2.1 p.2.2
theorem got_is {p : Pc} (hp : p.ok) (pre post : List UInt8) (hl : pre.length + post.length ≤ 1000000) : law01_got (tabI crcT) (pre ++ (p.pk ++ post)) (pre.length : Int) p = some (((pre.length + p.pk.length : Nat) : Int), true) := by
  obtain ⟨N, B, S⟩ := p
  obtain ⟨h1, h2, h3⟩ := hp
  simp only at h1 h2 h3
  obtain ⟨n, rfl⟩ : ∃ n : Nat, N = n := ⟨N.toNat, by omega⟩
  have hn : n < 18446744073709551616 := by omega
  have hbl := bodyP_len hn h3
  have hpk := pk_len (s := S) hn h3
  have hv := varint_len10 hn
  have hvb := varint_len10 (n := B.length) (by omega)
  show law01_got (tabI crcT) (pre ++ (pk n B S ++ post)) (pre.length : Int) ((n : Int), (B, S)) = some (((pre.length + (pk n B S).length : Nat) : Int), true)
  unfold law01_got
  cases S with
  | true =>
    obtain ⟨s, hs⟩ : ∃ s, s = sealed (P1.sum crcT) (bodyP n B) := ⟨_, rfl⟩
    have hsl : s.length = (bodyP n B).length + 4 := by rw [hs]; exact sealed_len _
    have hpke : pk n B true = varint s.length ++ s := by simp [pk, hs]
    rw [hpke, List.append_assoc]
    have hvs := varint_len10 (n := s.length) (by omega)
    have g1 := getBlob_is (b := pre ++ (varint s.length ++ (s ++ post))) (at_ := (pre.length : Int)) (most := 1048576) (by simp; omega) (by omega)
    rw [getBlob_at (by omega) (by omega)] at g1
    have g2 := unseal_is crcT_tab (b := s) (by omega)
    rw [hs, unsealed_sealed, ← hs] at g2
    simp only [cond_true, Option.bind_some, g1, g2]
    have z0 : (((0 : Nat) : Int) == 0) = true := rfl
    simp only [z0, Bool.not_true, cond_false, Option.bind_some]
    have g3 := getUint_is (b := bodyP n B) (at_ := 0) (by omega)
    have g3' := getUint_at hn [] (varint B.length ++ B)
    simp only [List.nil_append, List.length_nil, Nat.zero_add] at g3'
    have g3'' : getUint (bodyP n B) 0 = (n, (varint n).length, 0) := g3'
    rw [g3''] at g3
    have g4 := getBlob_is (b := bodyP n B) (at_ := ((varint n).length : Int)) (most := (B.length : Int)) (by omega) (by omega)
    have g4' := getBlob_at (s := B) (most := (B.length : Int)) (by omega) (by omega) (varint n) []
    rw [List.append_nil] at g4'
    have g4'' : getBlob (bodyP n B) ((varint n).length : Int) (B.length : Int) = (B, (varint n).length + (varint B.length).length + B.length, 0) := g4'
    rw [g4''] at g4
    have hbody : (bodyP n B).length = (varint n).length + (varint B.length).length + B.length := by simp [bodyP]; omega
    simp only [g3, g4, Option.bind_some, beq_self_eq_true, Bool.not_true, cond_false, cond_true, Int.natCast_zero, hbody]
    simp
    omega
  | false =>
    have hpke : pk n B false = bodyP n B := rfl
    rw [hpke]
    have hbody : (bodyP n B).length = (varint n).length + (varint B.length).length + B.length := by simp [bodyP]; omega
    have e1 : pre ++ (bodyP n B ++ post) = pre ++ (varint n ++ (varint B.length ++ (B ++ post))) := by simp [bodyP]
    have g3 := getUint_is (b := pre ++ (bodyP n B ++ post)) (at_ := (pre.length : Int)) (by simp; omega)
    have g3' : getUint (pre ++ (bodyP n B ++ post)) (pre.length : Int) = (n, pre.length + (varint n).length, 0) := by rw [e1]; exact getUint_at hn pre _
    rw [g3'] at g3
    have g4 := getBlob_is (b := pre ++ (bodyP n B ++ post)) (at_ := ((pre.length + (varint n).length : Nat) : Int)) (most := (B.length : Int)) (by simp; omega) (by omega)
    have g4' : getBlob (pre ++ (bodyP n B ++ post)) ((pre.length + (varint n).length : Nat) : Int) (B.length : Int) = (B, pre.length + (varint n).length + (varint B.length).length + B.length, 0) := by
      have := getBlob_at (s := B) (most := (B.length : Int)) (by omega) (by omega) (pre ++ varint n) post
      rw [List.length_append] at this
      rw [e1, ← List.append_assoc]
      exact this
    rw [g4'] at g4
    simp only [cond_false, Option.bind_some, g3, g4, beq_self_eq_true, Bool.not_true, Bool.not_false, cond_true, Int.natCast_zero, hbody]
    congr 2
    omega
def flatP (l : List Pc) : List UInt8 := (l.map Pc.pk).flatten
theorem flatP_succ {l : List Pc} {k : Nat} (h : k < l.length) : flatP (l.take (k + 1)) = flatP (l.take k) ++ l[k].pk := by
  unfold flatP
  rw [List.take_succ_eq_append_getElem h, List.map_append, List.flatten_append]
  simp
theorem flatP_split {l : List Pc} {k : Nat} (h : k < l.length) : flatP l = flatP (l.take k) ++ (l[k].pk ++ flatP (l.drop (k + 1))) := by
  have : l = l.take k ++ (l[k] :: l.drop (k + 1)) := by rw [← List.drop_eq_getElem_cons h, List.take_append_drop]
  have e : flatP l = flatP (l.take k ++ (l[k] :: l.drop (k + 1))) := by rw [← this]
  rw [e]
  unfold flatP
  rw [List.map_append, List.flatten_append, List.map_cons, List.flatten_cons]
theorem flatP_len : ∀ {l : List Pc}, (∀ p ∈ l, p.ok) → (flatP l).length ≤ 134 * l.length
  | [], _ => by simp [flatP]
  | p :: l, h => by
    have h1 := flatP_len (l := l) fun q hq => h q (List.mem_cons_of_mem _ hq)
    have hp := h p List.mem_cons_self
    have h2 : p.pk.length ≤ 134 := pk_len (by have := hp.1; have := hp.2.1; omega) hp.2.2
    have : flatP (p :: l) = p.pk ++ flatP l := by simp [flatP]
    rw [this, List.length_append, List.length_cons]
    omega
theorem sent_is {l : List Pc} (hl : l.length ≤ 20) (hp : ∀ p ∈ l, p.ok) {h : List UInt8} (hh : h.length ≤ 100) : law01_sent (tabI crcT) l h = some (h ++ flatP l) := by
  unfold law01_sent law01_sent_l0_it
  have := iter_range (f := fun (tt : Int × List UInt8) => law01_sent_l0 l (tabI crcT) tt.1 tt.2) (o := h ++ flatP l) (fun k => ((k : Int), h ++ flatP (l.take k))) l.length (by omega)
    (fun k hk => by
      have hpre := flatP_len (l := l.take k) fun p hm => hp p (List.mem_of_mem_take hm)
      have hkl : (l.take k).length ≤ 20 := by rw [List.length_take]; omega
      have hok := hp l[k] (List.getElem_mem hk)
      obtain ⟨p, hpk⟩ : ∃ p, l[k] = p := ⟨_, rfl⟩
      rw [hpk] at hok
      show law01_sent_l0 l (tabI crcT) (k : Int) (h ++ flatP (l.take k)) = _
      unfold law01_sent_l0
      rw [decide_eq_true (by omega), idx_nat hk]
      simp only [cond_true, Option.bind_some, List.getElem?_eq_getElem hk, hpk]
      rw [flatP_succ hk, hpk]
      obtain ⟨N, B, S⟩ := p
      obtain ⟨h1, h2, h3⟩ := hok
      simp only at h1 h2 h3
      obtain ⟨n, rfl⟩ : ∃ n : Nat, N = n := ⟨N.toNat, by omega⟩
      have hn : n < 18446744073709551616 := by omega
      have hv := varint_len10 hn
      have hbl := bodyP_len hn h3
      have e : Pc.pk ((n : Int), (B, S)) = pk n B S := rfl
      rw [e]
      have hw : IntKind.wrap .i64 ((k : Int) + 1) = ((k + 1 : Nat) : Int) := by rw [w64 ⟨by omega, by omega⟩]; omega
      cases S with
      | true =>
        have hsl := sealed_len (bodyP n B)
        simp only [cond_true]
        rw [uint_is hn]
        simp only [Option.bind_some]
        rw [blob_v1_is (by omega)]
        have eb : varint n ++ varint B.length ++ B = bodyP n B := by simp [bodyP]
        simp only [Option.bind_some, eb]
        rw [seal_is crcT_tab (by omega)]
        simp only [Option.bind_some]
        rw [blob_v1_is (by rw [List.length_append]; omega), hw]
        simp [pk]
      | false =>
        simp only [cond_false]
        rw [uint_v1_is hn (by rw [List.length_append]; omega)]
        simp only [Option.bind_some]
        rw [blob_v1_is (by simp only [List.length_append]; omega), hw]
        simp [pk, bodyP])
    (by
      show law01_sent_l0 l (tabI crcT) ((l.length : Nat) : Int) _ = _
      unfold law01_sent_l0
      rw [decide_eq_false (by omega), List.take_length]
      rfl)
  have this' : iter fuel (fun (tt : Int × List UInt8) => law01_sent_l0 l (tabI crcT) tt.1 tt.2) ((0 : Int), h) = some (h ++ flatP l) := by
    have e0 : h ++ flatP (l.take 0) = h := by simp [flatP]
    simp only [e0] at this
    exact this
  rw [this']
  rfl
theorem law01_BytesParcels_true (l : List (Int × (List UInt8 × Bool))) (a b : List UInt8) (k0 : OkV (.sl (.pair (.int .u64) (.pair (.sl .byte) .bool))) l) (k1 : OkV (.sl .byte) a) (k2 : OkV (.sl .byte) b) : law01_BytesParcels l a b = some true := by
  have b1 : a.length ≤ maxLen := k1.1
  have b2 : b.length ≤ maxLen := k2.1
  have b0 : l.length ≤ maxLen := k0.1
  unfold maxLen at b0 b1 b2
  have hN : ∀ p ∈ l, 0 ≤ p.1 ∧ p.1 < 18446744073709551616 := fun p hp => by
    have h : 0 ≤ p.1 ∧ p.1 ≤ 18446744073709551615 := (k0.2 p hp).1
    omega
  clear k0 k1 k2
  unfold law01_BytesParcels
  obtain ⟨q, hq⟩ : ∃ q, q = min 20 l.length := ⟨_, rfl⟩
  have e0 : (if 20 < ((l.length : Nat) : Int) then (20 : Int) else ((l.length : Nat) : Int)) = (q : Int) := by split <;> omega
  rw [e0, upto_nat (by omega)]
  simp only [Option.bind_some]
  obtain ⟨L, hL⟩ : ∃ L : List Pc, L = l.take q := ⟨_, rfl⟩
  have hLl : L.length = q := by rw [hL, List.length_take]; omega
  by_cases hall : ∀ p ∈ L, p.2.1.length ≤ 100
  · have hok : ∀ p ∈ L, Pc.ok p := fun p hp => ⟨(hN p (List.mem_of_mem_take (hL ▸ hp))).1, (hN p (List.mem_of_mem_take (hL ▸ hp))).2, hall p hp⟩
    have l0 := iter_range (f := fun (tt : Int) => law01_BytesParcels_l0 q l tt) (o := .inl ()) (fun k => (k : Int)) q (by omega)
      (fun k hk => by
        have hk' : k < (List.take q l).length := by rw [← hL]; omega
        show law01_BytesParcels_l0 q l (k : Int) = _
        unfold law01_BytesParcels_l0
        rw [decide_eq_true (by omega), idx_nat hk']
        simp only [cond_true, Option.bind_some, List.getElem?_eq_getElem hk']
        have := hall ((List.take q l)[k]) (by rw [hL]; exact List.getElem_mem hk')
        rw [decide_eq_false (by omega), w64 ⟨by omega, by omega⟩]
        rfl)
      (by
        show law01_BytesParcels_l0 q l (q : Int) = _
        unfold law01_BytesParcels_l0
        rw [← hL, decide_eq_false (by omega)]
        rfl)
    have l0' : law01_BytesParcels_l0_it q l 0 = some (.inl ()) := l0
    rw [l0']
    simp only [Option.bind_some]
    by_cases hA : 100 < a.length
    · rw [decide_eq_true (show ((a.length : Nat) : Int) > 100 by omega)]
      simp only [cond_true, Option.bind_some, awake_is]
    by_cases hB : 100 < b.length
    · rw [decide_eq_false (show ¬ ((a.length : Nat) : Int) > 100 by omega), decide_eq_true (show ((b.length : Nat) : Int) > 100 by omega)]
      simp only [cond_true, cond_false, Option.bind_some, awake_is]
    rw [decide_eq_false (show ¬ ((a.length : Nat) : Int) > 100 by omega), decide_eq_false (show ¬ ((b.length : Nat) : Int) > 100 by omega)]
    have hT : (tabI crcT).length = 256 := by rw [tabI_len]; exact crcT_tab.1
    simp only [cond_false, Option.bind_some, table_is, hT, List.length_replicate]
    rw [need_true (by rfl), need_true (by rfl), copy_is (by unfold room; omega)]
    simp only [Option.bind_some]
    rw [← hL, sent_is (l := L) (by omega) hok (by omega)]
    simp only [Option.bind_some]
    have hfl := flatP_len hok
    rw [need_true (by
      have : (a ++ flatP L).length + b.length ≤ 10000 := by rw [List.length_append]; omega
      rw [Nat.mul_one, ble_true (by unfold room; omega)]; rfl)]
    have l1 := iter_range (f := fun (tt : Int × (Int × (List Int × List UInt8))) => law01_BytesParcels_l1 q l tt.1 tt.2.1 tt.2.2.1 tt.2.2.2) (o := .inl (((a ++ flatP L).length : Nat) : Int)) (fun k => (((((a ++ flatP (L.take k)).length : Nat) : Int)), ((k : Int), (tabI crcT, a ++ flatP L ++ b)))) q (by omega)
      (fun k hk => by
        have hkL : k < L.length := by omega
        show law01_BytesParcels_l1 q l (((a ++ flatP (L.take k)).length : Nat) : Int) (k : Int) (tabI crcT) (a ++ flatP L ++ b) = _
        unfold law01_BytesParcels_l1
        rw [← hL, decide_eq_true (by omega), idx_nat hkL]
        simp only [cond_true, Option.bind_some, List.getElem?_eq_getElem hkL]
        have hg := got_is (p := L[k]) (hok _ (List.getElem_mem hkL)) (a ++ flatP (L.take k)) (flatP (L.drop (k + 1)) ++ b) (by
          have := flatP_split hkL
          have h2 := congrArg List.length this
          simp only [List.length_append] at h2 ⊢
          omega)
        have e : a ++ flatP (L.take k) ++ ((Pc.pk L[k]) ++ (flatP (L.drop (k + 1)) ++ b)) = a ++ flatP L ++ b := by
          rw [flatP_split hkL]; simp
        rw [e] at hg
        have hg' : law01_got (tabI crcT) (a ++ flatP L ++ b) (((a ++ flatP (L.take k)).length : Nat) : Int) (L[k].1, (L[k].2.1, L[k].2.2)) = some ((((a ++ flatP (L.take k)).length + (Pc.pk L[k]).length : Nat) : Int), true) := hg
        rw [hg']
        simp only [Option.bind_some, Bool.not_true, cond_false]
        rw [w64 ⟨by omega, by omega⟩, flatP_succ hkL]
        congr 3
        simp only [List.length_append]
        omega)
      (by
        show law01_BytesParcels_l1 q l (((a ++ flatP (L.take q)).length : Nat) : Int) (q : Int) (tabI crcT) (a ++ flatP L ++ b) = _
        unfold law01_BytesParcels_l1
        have : L.take q = L := List.take_of_length_le (by omega)
        rw [← hL, decide_eq_false (by omega), this]
        rfl)
    have l1' : law01_BytesParcels_l1_it q l (((a.length : Nat) : Int), ((0 : Int), (tabI crcT, a ++ flatP L ++ b))) = some (.inl (((a ++ flatP L).length : Nat) : Int)) := by
      have e0 : a ++ flatP (L.take 0) = a := by simp [flatP]
      simp only [e0] at l1
      exact l1
    rw [l1']
    simp only [Option.bind_some, beq_self_eq_true, cond_true, awake_is]
  · -- one that is too long
    have hex : ∃ k, k < q ∧ ∃ p, (List.take q l)[k]? = some p ∧ 100 < p.2.1.length := by
      simp only [Classical.not_forall] at hall
      obtain ⟨p, hp, hlt⟩ := hall
      obtain ⟨k, hk⟩ := List.getElem?_of_mem hp
      exact ⟨k, by have := (List.getElem?_eq_some_iff.1 hk).1; omega, p, by rw [← hL]; exact hk, by omega⟩
    obtain ⟨k, ⟨hkq, p, hkp, hlong⟩, hleast⟩ := least hex
    have l0 := iter_range (f := fun (tt : Int) => law01_BytesParcels_l0 q l tt) (o := .inr true) (fun k => (k : Int)) k (by omega)
      (fun j hj => by
        have hj' : j < (List.take q l).length := by rw [← hL]; omega
        show law01_BytesParcels_l0 q l (j : Int) = _
        unfold law01_BytesParcels_l0
        rw [decide_eq_true (by omega), idx_nat hj']
        simp only [cond_true, Option.bind_some, List.getElem?_eq_getElem hj']
        have : ¬ 100 < ((List.take q l)[j]).2.1.length := fun h => by
          have := hleast j ⟨by omega, _, List.getElem?_eq_getElem hj', h⟩
          omega
        rw [decide_eq_false (by omega), w64 ⟨by omega, by omega⟩]
        rfl)
      (by
        have hk' : k < (List.take q l).length := by rw [← hL]; omega
        show law01_BytesParcels_l0 q l (k : Int) = _
        unfold law01_BytesParcels_l0
        rw [decide_eq_true (by omega), idx_nat hk']
        simp only [cond_true, Option.bind_some, hkp]
        rw [decide_eq_true (by omega)]
        simp only [cond_true, Option.bind_some, awake_is])
    have l0' : law01_BytesParcels_l0_it q l 0 = some (.inr true) := l0
    rw [l0']
    rfl
end Go.Ab.D
