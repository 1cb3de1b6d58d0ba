/- Plain laws of layer 1: what BytesPairs asks. -/
import Derived.Test.YtplahfhggnkahaaB07
set_option linter.all false
namespace Go.P1

/-- x is as long as b, and has b's sum only if it is b. -/
def Told (b x : List UInt8) : Prop := x.length = b.length ∧ (sum crcT x = sum crcT b → x = b)

theorem flip_flip (l : List UInt8) (i : Nat) (h : i < 8 * l.length) : flip (flip l i) i = l := by
  have hj : l.length - 1 - i / 8 < l.length := by omega
  unfold flip
  rw [List.length_set, List.set_set]
  have e : (l.set (l.length - 1 - i / 8) (l.getD (l.length - 1 - i / 8) 0 ^^^ UInt8.ofNat (2 ^ (i % 8)))).getD (l.length - 1 - i / 8) 0 = l.getD (l.length - 1 - i / 8) 0 ^^^ UInt8.ofNat (2 ^ (i % 8)) := by
    rw [List.getD_eq_getElem?_getD, List.getElem?_set_self hj]
    rfl
  rw [e, UInt8.xor_assoc, UInt8.xor_self, UInt8.xor_zero, List.getD_eq_getElem?_getD, List.getElem?_eq_getElem hj]
  simp

theorem told_one (b : List UInt8) (k : Nat) (hb : 0 < b.length) : Told b (turned b [k]) := by
  have hk : k % (8 * b.length) < 8 * b.length := Nat.mod_lt _ (by omega)
  refine ⟨turned_len _ _, fun h => ?_⟩
  exfalso
  have e : turned b [k] = turned b [k % (8 * b.length)] := by
    show flip b _ = flip b _
    rw [Nat.mod_mod]
  have h1 := turned_sum [k % (8 * b.length)] b (fun x hx => by simp at hx; omega)
  rw [← e, h, Nat.xor_self] at h1
  have h2 : Ds [k % (8 * b.length)] = D (k % (8 * b.length)) := by unfold Ds; simp
  rw [h2] at h1
  exact D_pos _ h1.symm

theorem turned2 (b : List UInt8) (k m : Nat) : turned b [k, m] = flip (flip b (k % (8 * b.length))) (m % (8 * b.length)) := by
  unfold turned
  simp [flip_len]
theorem xor_zero_eq {a b : Nat} (h : a ^^^ b = 0) : a = b := by
  have h3 : a = (a ^^^ b) ^^^ b := by rw [Nat.xor_assoc, Nat.xor_self, Nat.xor_zero]
  rw [h3, h, Nat.zero_xor]

theorem told_two (b : List UInt8) (k m : Nat) (hb : 0 < b.length) (hb4 : b.length ≤ 400) : Told b (turned b [k, m]) := by
  have hk : k % (8 * b.length) < 8 * b.length := Nat.mod_lt _ (by omega)
  have hm : m % (8 * b.length) < 8 * b.length := Nat.mod_lt _ (by omega)
  refine ⟨turned_len _ _, fun h => ?_⟩
  have e : turned b [k, m] = turned b [k % (8 * b.length), m % (8 * b.length)] := by
    rw [turned2, turned2, Nat.mod_mod, Nat.mod_mod]
  have h1 := turned_sum [k % (8 * b.length), m % (8 * b.length)] b (fun x hx => by simp at hx; omega)
  rw [← e, h, Nat.xor_self] at h1
  have h2 : Ds [k % (8 * b.length), m % (8 * b.length)] = D (k % (8 * b.length)) ^^^ D (m % (8 * b.length)) := by unfold Ds; simp
  rw [h2] at h1
  have h3 : D (k % (8 * b.length)) = D (m % (8 * b.length)) := xor_zero_eq h1.symm
  have h4 := D_ne (by omega) (by omega) h3
  rw [e, h4]
  rw [turned2, Nat.mod_mod]
  exact flip_flip b _ hm

/-- The bytes from k on are turned by those of f, t of them. -/
def burst (b : List UInt8) (k f : Nat) : Nat → List UInt8
  | 0 => b
  | t + 1 => (burst b k f t).set (k + t) ((burst b k f t).getD (k + t) 0 ^^^ UInt8.ofNat (f / 2 ^ (8 * t)))
theorem burst_len (b : List UInt8) (k f : Nat) : ∀ t, (burst b k f t).length = b.length
  | 0 => rfl
  | t + 1 => by simp [burst, burst_len b k f t]
/-- What it is turned by. -/
def fs (f : Nat) : Nat → List UInt8
  | 0 => []
  | t + 1 => fs f t ++ [UInt8.ofNat (f / 2 ^ (8 * t))]
theorem fs_len (f : Nat) : ∀ t, (fs f t).length = t
  | 0 => rfl
  | t + 1 => by simp [fs, fs_len f t]

theorem xorL_len : ∀ (l r : List UInt8), l.length = r.length → (xorL l r).length = l.length
  | [], [], _ => rfl
  | a :: l, b :: r, h => by
    show (xorL l r).length + 1 = l.length + 1
    rw [xorL_len l r (by simpa using h)]
  | [], _ :: _, h => by simp at h
  | _ :: _, [], h => by simp at h
theorem xorL_get : ∀ (l r : List UInt8) (i : Nat), l.length = r.length → (xorL l r)[i]? = (l[i]?).bind fun a => (r[i]?).map fun b => a ^^^ b
  | [], [], i, _ => by simp [xorL]
  | a :: l, b :: r, 0, _ => rfl
  | a :: l, b :: r, i + 1, h => by
    show (xorL l r)[i]? = _
    rw [xorL_get l r i (by simpa using h)]
    simp
  | [], _ :: _, _, h => by simp at h
  | _ :: _, [], _, h => by simp at h
theorem xorL_append : ∀ (l r l2 r2 : List UInt8), l.length = r.length → xorL (l ++ l2) (r ++ r2) = xorL l r ++ xorL l2 r2
  | [], [], _, _, _ => rfl
  | a :: l, b :: r, l2, r2, h => by
    show (a ^^^ b) :: xorL (l ++ l2) (r ++ r2) = (a ^^^ b) :: (xorL l r ++ xorL l2 r2)
    rw [xorL_append l r l2 r2 (by simpa using h)]
  | [], _ :: _, _, _, h => by simp at h
  | _ :: _, [], _, _, h => by simp at h
theorem xorL_back : ∀ (l r : List UInt8), l.length = r.length → xorL l r = List.replicate l.length 0 → r = l
  | [], [], _, _ => rfl
  | a :: l, b :: r, h, h2 => by
    have h3 : (a ^^^ b) :: xorL l r = 0 :: List.replicate l.length 0 := by
      have : List.replicate (a :: l).length (0 : UInt8) = 0 :: List.replicate l.length 0 := by rw [List.length_cons, List.replicate_succ]
      rw [← this]
      exact h2
    injection h3 with h4 h5
    rw [xorL_back l r (by simpa using h) h5, UInt8.xor_eq_zero_iff.1 h4]
  | [], _ :: _, h, _ => by simp at h
  | _ :: _, [], h, _ => by simp at h

theorem burst_is (b : List UInt8) (k f : Nat) : ∀ t, k + t ≤ b.length → burst b k f t = b.take k ++ (xorL ((b.drop k).take t) (fs f t) ++ b.drop (k + t))
  | 0, _ => by simp [burst, fs, xorL]
  | t + 1, h => by
    have ih := burst_is b k f t (by omega)
    have hx : (xorL ((b.drop k).take t) (fs f t)).length = t := by rw [xorL_len _ _ (by rw [fs_len, List.length_take, List.length_drop]; omega), List.length_take, List.length_drop]; omega
    have hlt : k + t < b.length := by omega
    show (burst b k f t).set (k + t) ((burst b k f t).getD (k + t) 0 ^^^ _) = _
    have hd : b.drop (k + t) = b[k + t] :: b.drop (k + t + 1) := List.drop_eq_getElem_cons hlt
    have htk : (b.take k).length = k := by rw [List.length_take]; omega
    have hg : (burst b k f t).getD (k + t) 0 = b[k + t] := by
      rw [ih, List.getD_eq_getElem?_getD, List.getElem?_append_right (by omega), List.getElem?_append_right (by omega), hd]
      simp [htk, hx]
      rw [List.getElem?_eq_getElem hlt]
      rfl
    have hdt : (b.drop k).take (t + 1) = (b.drop k).take t ++ [b[k + t]] := by
      rw [List.take_succ_eq_append_getElem (by rw [List.length_drop]; omega)]
      simp
    rw [hg, ih, List.set_append_right _ _ (by omega), List.set_append_right _ _ (by omega), htk, hx, show k + t - k - t = 0 by omega, hd, List.set_cons_zero, hdt]
    show b.take k ++ (xorL ((b.drop k).take t) (fs f t) ++ (b[k + t] ^^^ UInt8.ofNat (f / 2 ^ (8 * t))) :: b.drop (k + t + 1)) = b.take k ++ (xorL ((b.drop k).take t ++ [b[k + t]]) (fs f t ++ [UInt8.ofNat (f / 2 ^ (8 * t))]) ++ b.drop (k + (t + 1)))
    rw [xorL_append _ _ _ _ (by rw [fs_len, List.length_take, List.length_drop]; omega)]
    simp [xorL, Nat.add_assoc]

theorem told_burst (b : List UInt8) (k f t : Nat) (ht : t ≤ 4) (hk : k + t ≤ b.length) : Told b (burst b k f t) := by
  refine ⟨burst_len _ _ _ _, fun h => ?_⟩
  have hl : ((b.drop k).take t).length = t := by rw [List.length_take, List.length_drop]; omega
  have hb : b = b.take k ++ ((b.drop k).take t ++ b.drop (k + t)) := by rw [← List.drop_drop, List.take_append_drop, List.take_append_drop]
  have hx := burst_is b k f t hk
  have h1 : run crcT 4294967295 b ^^^ run crcT 4294967295 (burst b k f t) = 0 := by rw [← sum_xor crcT_tab, h, Nat.xor_self]
  rw [← run_xor _ _ _ _ (burst_len b k f t).symm, Nat.xor_self] at h1
  have h2 : xorL b (burst b k f t) = List.replicate (b.take k).length 0 ++ (xorL ((b.drop k).take t) (xorL ((b.drop k).take t) (fs f t)) ++ List.replicate (b.drop (k + t)).length 0) := by
    conv => lhs; rw [hx]; arg 1; rw [hb]
    rw [xorL_append _ _ _ _ rfl, xorL_self, xorL_append _ _ _ _ (by rw [xorL_len _ _ (by rw [hl, fs_len])]), xorL_self]
  rw [h2] at h1
  have h3 := burst_run _ _ _ (by rw [xorL_len _ _ (by rw [xorL_len _ _ (by rw [hl, fs_len])]), hl]; exact ht) h1
  rw [xorL_len _ _ (by rw [xorL_len _ _ (by rw [hl, fs_len])])] at h3
  have h4 := xorL_back _ _ (by rw [xorL_len _ _ (by rw [hl, fs_len])]) h3
  rw [hx, h4]
  exact hb.symm

theorem be4_inj {a b : Nat} (ha : a < 4294967296) (hb : b < 4294967296) (h : be4 a = be4 b) : a = b := by
  unfold be4 at h
  simp only [List.cons.injEq, and_true] at h
  obtain ⟨h1, h2, h3, h4⟩ := h
  have e1 := congrArg UInt8.toNat h1
  have e2 := congrArg UInt8.toNat h2
  have e3 := congrArg UInt8.toNat h3
  have e4 := congrArg UInt8.toNat h4
  simp only [UInt8.toNat_ofNat'] at e1 e2 e3 e4
  omega

/-- What is told of b, with another string in its place. -/
theorem told_unsealed {b x : List UInt8} (h : Told b x) : unsealed (sum crcT) (x ++ be4 (sum crcT b)) = if x = b then (x, 0) else ([], 12) := by
  have hl : (x ++ be4 (sum crcT b)).length = x.length + 4 := by simp [be4]
  have ht : (x ++ be4 (sum crcT b)).take ((x ++ be4 (sum crcT b)).length - 4) = x := by rw [hl]; simp
  rw [unsealed_is _ (by omega), ht]
  by_cases hx : x = b
  · rw [if_pos hx, if_pos (by rw [sealed, hx])]
  · rw [if_neg hx, if_neg]
    intro he
    unfold sealed at he
    have := List.append_cancel_left he
    exact hx (h.2 (be4_inj (sum_lt _ _) (sum_lt _ _) this))
theorem told_sum {b x : List UInt8} (h : Told b x) : sum crcT x = sum crcT b ↔ x = b := ⟨h.2, fun e => by rw [e]⟩

end Go.P1
