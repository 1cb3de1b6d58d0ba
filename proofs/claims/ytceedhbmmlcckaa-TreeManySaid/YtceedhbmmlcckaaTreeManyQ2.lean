/- What the functions compute; the plain law. -/
import Derived.Test.YtceedhbmmlcckaaTreeManyQ1
import Derived.KernelRfl
set_option linter.all false
namespace Go.Ab.D
open Go Go.Ab
section
variable {t : Tree} {a b : Int × Int} {na nb x z : Ino} {old name : List UInt8} {id other : Int}
theorem rename_dir1 (h : TreeOK t) (hb : dirE t.1 a ≠ 0) : tRen fuel t a old b name = some (t.1, (t.2, ([], dirE t.1 a))) := by
  unfold tRen
  rw [show ((t.1, t.2) : Tree) = t from rfl, show ((a.1, a.2) : Int × Int) = a from rfl, show ((b.1, b.2) : Int × Int) = b from rfl, asked2_bad1 h hb, Option.bind_some]
  simp only [beq_eq_false_iff_ne.2 hb, Bool.not_false, cond_true]
  rw [tcopied_ok h.r.fit, Option.bind_some]
theorem rename_dir2 (h : TreeOK t) (ha : IsD t.1 a na) (hb : dirE t.1 b ≠ 0) : tRen fuel t a old b name = some (t.1, (t.2, ([], dirE t.1 b))) := by
  unfold tRen
  rw [show ((t.1, t.2) : Tree) = t from rfl, show ((a.1, a.2) : Int × Int) = a from rfl, show ((b.1, b.2) : Int × Int) = b from rfl, asked2_bad2 h ha hb, Option.bind_some]
  simp only [beq_eq_false_iff_ne.2 hb, Bool.not_false, cond_true]
  rw [tcopied_ok h.r.fit, Option.bind_some]
theorem rename_name (h : TreeOK t) (ha : IsD t.1 a na) (hb : IsD t.1 b nb) (hs : (namedB old && namedB name) = false) : tRen fuel t a old b name = some (t.1, (t.2, ([], 176))) := by
  unfold tRen
  rw [show ((t.1, t.2) : Tree) = t from rfl, show ((a.1, a.2) : Int × Int) = a from rfl, show ((b.1, b.2) : Int × Int) = b from rfl, asked2_some h ha hb, Option.bind_some]
  simp only [beq_self_eq_true, Bool.not_true, cond_false]
  rw [named_ok, Option.bind_some]
  cases h1 : namedB old with
  | false =>
    simp only [Bool.not_false, cond_true, Option.bind_some]
    rw [show ((t.1, t.2) : Tree) = t from rfl, tcopied_ok h.r.fit, Option.bind_some]
  | true =>
    rw [h1, Bool.true_and] at hs
    simp only [Bool.not_true, cond_false]
    rw [named_ok, Option.bind_some, hs]
    simp only [Bool.not_false, cond_true, Option.bind_some]
    rw [show ((t.1, t.2) : Tree) = t from rfl, tcopied_ok h.r.fit, Option.bind_some]
theorem rename_none (h : TreeOK t) (ha : IsD t.1 a na) (hb : IsD t.1 b nb) (h1 : namedB old = true) (hs : namedB name = true) (hh : hasN na.2.2.2.2.2.2.2 old = false) : tRen fuel t a old b name = some (t.1, (t.2, ([], 171))) := by
  unfold tRen
  rw [show ((t.1, t.2) : Tree) = t from rfl, show ((a.1, a.2) : Int × Int) = a from rfl, show ((b.1, b.2) : Int × Int) = b from rfl, asked2_some h ha hb, Option.bind_some]
  simp only [beq_self_eq_true, Bool.not_true, cond_false]
  rw [named_ok, Option.bind_some, h1]
  simp only [Bool.not_true, cond_false]
  rw [named_ok, Option.bind_some, hs]
  simp only [Bool.not_true, cond_false, Option.bind_some]
  rw [show idx? 0 [na, nb].length = some 0 from rfl, Option.bind_some, show [na, nb][0]? = some na from rfl, Option.bind_some, h.ent_ok ha, Option.bind_some, hh]
  simp only [Bool.not_false, cond_true]
  rw [show ((t.1, t.2) : Tree) = t from rfl, tcopied_ok h.r.fit, Option.bind_some]
theorem rename_loop (h : TreeOK t) (ha : IsD t.1 a na) (hb : IsD t.1 b nb) (hs : namedB name = true) (hea : (old, id) ∈ na.2.2.2.2.2.2.2) (hx : t.1[(id - 1).toNat]? = some x) (hd : x.2.2.2.1 = true) (hanc : Anc t.1 id b.1) : tRen fuel t a old b name = some (t.1, (t.2, ([], 178))) := by
  obtain ⟨g1, g2, g3, y, g4, g5, g6⟩ := h.ent ha hea
  rw [hx] at g4; cases g4
  have hlen := h.r.len
  have hpa := pos_at (h.srt ha.1) hea
  have hpal := (List.getElem?_eq_some_iff.1 hpa).1
  unfold tRen
  rw [show ((t.1, t.2) : Tree) = t from rfl, show ((a.1, a.2) : Int × Int) = a from rfl, show ((b.1, b.2) : Int × Int) = b from rfl, asked2_some h ha hb, Option.bind_some]
  simp only [beq_self_eq_true, Bool.not_true, cond_false]
  rw [named_ok, Option.bind_some, g1]
  simp only [Bool.not_true, cond_false]
  rw [named_ok, Option.bind_some, hs]
  simp only [Bool.not_true, cond_false, Option.bind_some]
  rw [show idx? 0 [na, nb].length = some 0 from rfl, Option.bind_some, show [na, nb][0]? = some na from rfl, Option.bind_some, h.ent_ok ha, Option.bind_some, hasN_iff.2 ⟨id, hea⟩]
  simp only [Bool.not_true, cond_false, Option.bind_some]
  rw [show [na, nb][0]? = some na from rfl, Option.bind_some, idx_nat hpal, Option.bind_some, hpa, Option.bind_some, w64 (by omega), idx_int (by omega) (by omega), Option.bind_some, hx, Option.bind_some]
  rw [hd]
  simp only [cond_true]
  obtain ⟨r, hr, hq⟩ := below_ok h hb id
  rw [show ((t.1, t.2) : Tree) = t from rfl, hr, hq.2 hanc, Option.bind_some, Option.bind_some]
  simp only [cond_true]
  rw [show ((t.1, t.2) : Tree) = t from rfl, tcopied_ok h.r.fit, Option.bind_some]
theorem rename_same (h : TreeOK t) (ha : IsD t.1 a na) (hb : IsD t.1 b nb) (hs : namedB name = true) (hea : (old, id) ∈ na.2.2.2.2.2.2.2) (hx : t.1[(id - 1).toNat]? = some x) (hanc : x.2.2.2.1 = true → ¬ Anc t.1 id b.1) (heb : (name, id) ∈ nb.2.2.2.2.2.2.2) : tRen fuel t a old b name = some (t.1, (t.2, ([], 0))) := by
  obtain ⟨g1, g2, g3, y, g4, g5, g6⟩ := h.ent ha hea
  rw [hx] at g4; cases g4
  have hlen := h.r.len
  have hpa := pos_at (h.srt ha.1) hea
  have hpal := (List.getElem?_eq_some_iff.1 hpa).1
  unfold tRen
  rw [show ((t.1, t.2) : Tree) = t from rfl, show ((a.1, a.2) : Int × Int) = a from rfl, show ((b.1, b.2) : Int × Int) = b from rfl, asked2_some h ha hb, Option.bind_some]
  simp only [beq_self_eq_true, Bool.not_true, cond_false]
  rw [named_ok, Option.bind_some, g1]
  simp only [Bool.not_true, cond_false]
  rw [named_ok, Option.bind_some, hs]
  simp only [Bool.not_true, cond_false, Option.bind_some]
  rw [show idx? 0 [na, nb].length = some 0 from rfl, Option.bind_some, show [na, nb][0]? = some na from rfl, Option.bind_some, h.ent_ok ha, Option.bind_some, hasN_iff.2 ⟨id, hea⟩]
  simp only [Bool.not_true, cond_false, Option.bind_some]
  rw [show [na, nb][0]? = some na from rfl, Option.bind_some, idx_nat hpal, Option.bind_some, hpa, Option.bind_some, w64 (by omega), idx_int (by omega) (by omega), Option.bind_some, hx, Option.bind_some]
  have hbel : (bif x.2.2.2.1 then (tbel fuel (t.1, t.2) b.1 id).bind fun r11 => some (r11, (t.1, (t.2, (a.1, (a.2, (b.1, (b.2, ((0 : Int), [na, nb]))))))))
      else some (false, (t.1, (t.2, (a.1, (a.2, (b.1, (b.2, (0, [na, nb]))))))))) = some (false, (t.1, (t.2, (a.1, (a.2, (b.1, (b.2, (0, [na, nb])))))))) := by
    cases hd : x.2.2.2.1 with
    | false => rfl
    | true =>
      simp only [cond_true]
      obtain ⟨r, hr, hq⟩ := below_ok h hb id
      have : r = false := by
        cases r with
        | false => rfl
        | true => exact absurd (hq.1 rfl) (hanc hd)
      rw [show ((t.1, t.2) : Tree) = t from rfl, hr, this]
      rfl
  rw [hbel, Option.bind_some]
  simp only [cond_false]
  obtain ⟨rows, ms, hc, hF⟩ := copiedE_ok h.r.fit
  rw [show idx? 1 [na, nb].length = some 1 from rfl, Option.bind_some, show [na, nb][1]? = some nb from rfl, Option.bind_some, h.ent_ok hb, Option.bind_some, show ((t.1, t.2) : Tree) = t from rfl, hc, Option.bind_some]
  have hpb := pos_at (h.srt hb.1) heb
  have hpbl := (List.getElem?_eq_some_iff.1 hpb).1
  simp only [hasN_iff.2 ⟨_, heb⟩, cond_true]
  rw [Option.bind_some, show [na, nb][1]? = some nb from rfl, Option.bind_some, idx_nat hpbl, Option.bind_some, hpb, Option.bind_some, Option.bind_some]
  simp only [beq_self_eq_true, cond_true]
  erw [bind_of hF.pure1]
theorem rename_mis (h : TreeOK t) (ha : IsD t.1 a na) (hb : IsD t.1 b nb) (hs : namedB name = true) (hea : (old, id) ∈ na.2.2.2.2.2.2.2) (hx : t.1[(id - 1).toNat]? = some x) (hanc : x.2.2.2.1 = true → ¬ Anc t.1 id b.1) (heb : (name, other) ∈ nb.2.2.2.2.2.2.2) (hne : other ≠ id) (hz : t.1[(other - 1).toNat]? = some z) (hm : misE x.2.2.2.1 z ≠ 0) : tRen fuel t a old b name = some (t.1, (t.2, ([], misE x.2.2.2.1 z))) := by
  obtain ⟨g1, g2, g3, y, g4, g5, g6⟩ := h.ent ha hea
  rw [hx] at g4; cases g4
  have hlen := h.r.len
  have hpa := pos_at (h.srt ha.1) hea
  have hpal := (List.getElem?_eq_some_iff.1 hpa).1
  unfold tRen
  rw [show ((t.1, t.2) : Tree) = t from rfl, show ((a.1, a.2) : Int × Int) = a from rfl, show ((b.1, b.2) : Int × Int) = b from rfl, asked2_some h ha hb, Option.bind_some]
  simp only [beq_self_eq_true, Bool.not_true, cond_false]
  rw [named_ok, Option.bind_some, g1]
  simp only [Bool.not_true, cond_false]
  rw [named_ok, Option.bind_some, hs]
  simp only [Bool.not_true, cond_false, Option.bind_some]
  rw [show idx? 0 [na, nb].length = some 0 from rfl, Option.bind_some, show [na, nb][0]? = some na from rfl, Option.bind_some, h.ent_ok ha, Option.bind_some, hasN_iff.2 ⟨id, hea⟩]
  simp only [Bool.not_true, cond_false, Option.bind_some]
  rw [show [na, nb][0]? = some na from rfl, Option.bind_some, idx_nat hpal, Option.bind_some, hpa, Option.bind_some, w64 (by omega), idx_int (by omega) (by omega), Option.bind_some, hx, Option.bind_some]
  have hbel : (bif x.2.2.2.1 then (tbel fuel (t.1, t.2) b.1 id).bind fun r11 => some (r11, (t.1, (t.2, (a.1, (a.2, (b.1, (b.2, ((0 : Int), [na, nb]))))))))
      else some (false, (t.1, (t.2, (a.1, (a.2, (b.1, (b.2, (0, [na, nb]))))))))) = some (false, (t.1, (t.2, (a.1, (a.2, (b.1, (b.2, (0, [na, nb])))))))) := by
    cases hd : x.2.2.2.1 with
    | false => rfl
    | true =>
      simp only [cond_true]
      obtain ⟨r, hr, hq⟩ := below_ok h hb id
      have : r = false := by
        cases r with
        | false => rfl
        | true => exact absurd (hq.1 rfl) (hanc hd)
      rw [show ((t.1, t.2) : Tree) = t from rfl, hr, this]
      rfl
  rw [hbel, Option.bind_some]
  simp only [cond_false]
  obtain ⟨rows, ms, hc, hF⟩ := copiedE_ok h.r.fit
  rw [show idx? 1 [na, nb].length = some 1 from rfl, Option.bind_some, show [na, nb][1]? = some nb from rfl, Option.bind_some, h.ent_ok hb, Option.bind_some, show ((t.1, t.2) : Tree) = t from rfl, hc, Option.bind_some]
  obtain ⟨q1, q2, q3, z', q4, q5, q6⟩ := h.ent hb heb
  rw [hz] at q4; cases q4
  have hpb := pos_at (h.srt hb.1) heb
  have hpbl := (List.getElem?_eq_some_iff.1 hpb).1
  simp only [hasN_iff.2 ⟨_, heb⟩, cond_true]
  rw [Option.bind_some, show [na, nb][1]? = some nb from rfl, Option.bind_some, idx_nat hpbl, Option.bind_some, hpb, Option.bind_some, Option.bind_some]
  simp only [beq_eq_false_iff_ne.2 hne, cond_false]
  rw [show idx? 1 [na, nb].length = some 1 from rfl, Option.bind_some, show [na, nb][1]? = some nb from rfl, Option.bind_some, idx_nat hpbl, Option.bind_some, hpb, Option.bind_some, w64 (by omega), idx_int (by omega) (by omega), Option.bind_some, hz, Option.bind_some, mismatch_ok, Option.bind_some]
  simp only [beq_eq_false_iff_ne.2 hm, Bool.not_false, cond_true]
  erw [bind_of hF.pure1]
theorem rename_full (h : TreeOK t) (ha : IsD t.1 a na) (hb : IsD t.1 b nb) (hs : namedB name = true) (hea : (old, id) ∈ na.2.2.2.2.2.2.2) (hx : t.1[(id - 1).toNat]? = some x) (hanc : x.2.2.2.1 = true → ¬ Anc t.1 id b.1) (hno : hasN nb.2.2.2.2.2.2.2 name = false) (hab : a.1 ≠ b.1) (hl : 100 ≤ nb.2.2.2.2.2.2.2.length) : tRen fuel t a old b name = some (t.1, (t.2, ([], 5))) := by
  obtain ⟨g1, g2, g3, y, g4, g5, g6⟩ := h.ent ha hea
  rw [hx] at g4; cases g4
  have hlen := h.r.len
  have hpa := pos_at (h.srt ha.1) hea
  have hpal := (List.getElem?_eq_some_iff.1 hpa).1
  unfold tRen
  rw [show ((t.1, t.2) : Tree) = t from rfl, show ((a.1, a.2) : Int × Int) = a from rfl, show ((b.1, b.2) : Int × Int) = b from rfl, asked2_some h ha hb, Option.bind_some]
  simp only [beq_self_eq_true, Bool.not_true, cond_false]
  rw [named_ok, Option.bind_some, g1]
  simp only [Bool.not_true, cond_false]
  rw [named_ok, Option.bind_some, hs]
  simp only [Bool.not_true, cond_false, Option.bind_some]
  rw [show idx? 0 [na, nb].length = some 0 from rfl, Option.bind_some, show [na, nb][0]? = some na from rfl, Option.bind_some, h.ent_ok ha, Option.bind_some, hasN_iff.2 ⟨id, hea⟩]
  simp only [Bool.not_true, cond_false, Option.bind_some]
  rw [show [na, nb][0]? = some na from rfl, Option.bind_some, idx_nat hpal, Option.bind_some, hpa, Option.bind_some, w64 (by omega), idx_int (by omega) (by omega), Option.bind_some, hx, Option.bind_some]
  have hbel : (bif x.2.2.2.1 then (tbel fuel (t.1, t.2) b.1 id).bind fun r11 => some (r11, (t.1, (t.2, (a.1, (a.2, (b.1, (b.2, ((0 : Int), [na, nb]))))))))
      else some (false, (t.1, (t.2, (a.1, (a.2, (b.1, (b.2, (0, [na, nb]))))))))) = some (false, (t.1, (t.2, (a.1, (a.2, (b.1, (b.2, (0, [na, nb])))))))) := by
    cases hd : x.2.2.2.1 with
    | false => rfl
    | true =>
      simp only [cond_true]
      obtain ⟨r, hr, hq⟩ := below_ok h hb id
      have : r = false := by
        cases r with
        | false => rfl
        | true => exact absurd (hq.1 rfl) (hanc hd)
      rw [show ((t.1, t.2) : Tree) = t from rfl, hr, this]
      rfl
  rw [hbel, Option.bind_some]
  simp only [cond_false]
  obtain ⟨rows, ms, hc, hF⟩ := copiedE_ok h.r.fit
  rw [show idx? 1 [na, nb].length = some 1 from rfl, Option.bind_some, show [na, nb][1]? = some nb from rfl, Option.bind_some, h.ent_ok hb, Option.bind_some, show ((t.1, t.2) : Tree) = t from rfl, hc, Option.bind_some]
  simp only [hno, cond_false, Option.bind_some, beq_eq_false_iff_ne.2 hab, Bool.not_false, cond_true]
  rw [show idx? 1 [na, nb].length = some 1 from rfl, Option.bind_some, show [na, nb][1]? = some nb from rfl, Option.bind_some, Option.bind_some, decide_eq_true (show ((nb.2.2.2.2.2.2.2.length : Nat) : Int) ≥ 100 by omega)]
  simp only [cond_true]
  erw [bind_of hF.pure1]
theorem mv_parts (h : TreeOK t) (m : MvOk t a old b name id na nb x) : ∃ b1 x1, (takeL t.1 a.1 old)[(b.1 - 1).toNat]? = some b1 ∧ Srt b1.2.2.2.2.2.2.2 ∧ b1.2.2.2.2.2.2.2.length ≤ 100 ∧ (putL (takeL t.1 a.1 old) b.1 name id)[(id - 1).toNat]? = some x1 := by
  obtain ⟨k1, k2, hid2, hidl, hxu, hxp⟩ := m.ne h
  have hfa := h.few m.da.1
  have hfb := h.few m.db.1
  have hb1 : ∃ b1, (takeL t.1 a.1 old)[(b.1 - 1).toNat]? = some b1 ∧ Srt b1.2.2.2.2.2.2.2 ∧ b1.2.2.2.2.2.2.2.length ≤ 100 := by
    unfold takeL
    rw [modL_get, m.db.1.2.1]
    split
    · refine ⟨_, rfl, srt_delE old (h.srt m.db.1), ?_⟩
      have : (delE nb.2.2.2.2.2.2.2 old).length ≤ nb.2.2.2.2.2.2.2.length := List.length_filter_le _ _
      show (delE _ _).length ≤ 100
      omega
    · exact ⟨_, rfl, h.srt m.db.1, hfb⟩
  obtain ⟨b1, h1, h2, h3⟩ := hb1
  refine ⟨b1, x, h1, h2, h3, ?_⟩
  unfold putL takeL
  rw [modL_get, modL_get, if_neg k2, if_neg k1]
  exact m.x
theorem rename_move (h : TreeOK t) (m : MvOk t a old b name id na nb x) (hanc : x.2.2.2.1 = true → ¬ Anc t.1 id b.1) : tRen fuel t a old b name = some (mvL t.1 a.1 old b.1 name id, (t.2, ([], 0))) := by
  have ha := m.da
  have hb := m.db
  have hs := m.nm
  have hea := m.ea
  have hx := m.x
  have hno := m.no
  obtain ⟨g1, g2, g3, y, g4, g5, g6⟩ := h.ent ha hea
  rw [hx] at g4; cases g4
  have hlen := h.r.len
  have hpa := pos_at (h.srt ha.1) hea
  have hpal := (List.getElem?_eq_some_iff.1 hpa).1
  unfold tRen
  rw [show ((t.1, t.2) : Tree) = t from rfl, show ((a.1, a.2) : Int × Int) = a from rfl, show ((b.1, b.2) : Int × Int) = b from rfl, asked2_some h ha hb, Option.bind_some]
  simp only [beq_self_eq_true, Bool.not_true, cond_false]
  rw [named_ok, Option.bind_some, g1]
  simp only [Bool.not_true, cond_false]
  rw [named_ok, Option.bind_some, hs]
  simp only [Bool.not_true, cond_false, Option.bind_some]
  rw [show idx? 0 [na, nb].length = some 0 from rfl, Option.bind_some, show [na, nb][0]? = some na from rfl, Option.bind_some, h.ent_ok ha, Option.bind_some, hasN_iff.2 ⟨id, hea⟩]
  simp only [Bool.not_true, cond_false, Option.bind_some]
  rw [show [na, nb][0]? = some na from rfl, Option.bind_some, idx_nat hpal, Option.bind_some, hpa, Option.bind_some, w64 (by omega), idx_int (by omega) (by omega), Option.bind_some, hx, Option.bind_some]
  have hbel : (bif x.2.2.2.1 then (tbel fuel (t.1, t.2) b.1 id).bind fun r11 => some (r11, (t.1, (t.2, (a.1, (a.2, (b.1, (b.2, ((0 : Int), [na, nb]))))))))
      else some (false, (t.1, (t.2, (a.1, (a.2, (b.1, (b.2, (0, [na, nb]))))))))) = some (false, (t.1, (t.2, (a.1, (a.2, (b.1, (b.2, (0, [na, nb])))))))) := by
    cases hd : x.2.2.2.1 with
    | false => rfl
    | true =>
      simp only [cond_true]
      obtain ⟨r, hr, hq⟩ := below_ok h hb id
      have : r = false := by
        cases r with
        | false => rfl
        | true => exact absurd (hq.1 rfl) (hanc hd)
      rw [show ((t.1, t.2) : Tree) = t from rfl, hr, this]
      rfl
  rw [hbel, Option.bind_some]
  simp only [cond_false]
  obtain ⟨rows, ms, hc, hF⟩ := copiedE_ok h.r.fit
  rw [show idx? 1 [na, nb].length = some 1 from rfl, Option.bind_some, show [na, nb][1]? = some nb from rfl, Option.bind_some, h.ent_ok hb, Option.bind_some, show ((t.1, t.2) : Tree) = t from rfl, hc, Option.bind_some]
  simp only [hno, cond_false, Option.bind_some]
  have hfull : (bif !(a.1 == b.1) then
        (idx? 1 [na, nb].length).bind fun q10 => ([na, nb])[q10]?.bind fun r24 => some ((decide (((r24.2.2.2.2.2.2.2.length : Nat) : Int) ≥ 100)), (a.1, (a.2, (b.1, (b.2, ((0 : Int), (t.2, (rows, ms))))))))
      else some (false, (a.1, (a.2, (b.1, (b.2, (0, (t.2, (rows, ms))))))))) = some (false, (a.1, (a.2, (b.1, (b.2, (0, (t.2, (rows, ms)))))))) := by
    by_cases hab : a.1 = b.1
    · rw [show (a.1 == b.1) = true from by simp [hab]]
      rfl
    · rw [beq_eq_false_iff_ne.2 hab]
      have := m.few hab
      simp only [Bool.not_false, cond_true]
      rw [show idx? 1 [na, nb].length = some 1 from rfl, Option.bind_some, show [na, nb][1]? = some nb from rfl, Option.bind_some, decide_eq_false (show ¬ ((nb.2.2.2.2.2.2.2.length : Nat) : Int) ≥ 100 by omega)]
  rw [hfull, Option.bind_some]
  simp only [cond_false]
  obtain ⟨b1, x1, p1, p2, p3, p4⟩ := mv_parts h m
  obtain ⟨rows1, ms1, ht, hF1⟩ := take_put_ok t.2 old hF (by omega) ha.1.1 ha.1.2.1 (by have := h.few ha.1; omega)
  rw [← takeL_some ha] at hF1
  have hl1 : (takeL t.1 a.1 old).length = t.1.length := modL_len ..
  obtain ⟨rows2, ms2, hp2, hF2⟩ := put_ok t.2 name id hF1 (by omega) hb.1.1 p1 p2 (by omega)
  have e2 : putL (takeL t.1 a.1 old) b.1 name id = (takeL t.1 a.1 old).set (b.1 - 1).toNat (wE b1 (insE b1.2.2.2.2.2.2.2 name id)) := modL_some _ p1
  rw [← e2] at hF2
  have hl2 : (putL (takeL t.1 a.1 old) b.1 name id).length = t.1.length := (modL_len ..).trans hl1
  have hrl := hF2.len
  rw [ht, Option.bind_some]
  simp only
  rw [hp2, Option.bind_some]
  simp only
  obtain ⟨row, hr, ⟨y, hry⟩, _⟩ := hF2.row p4
  have hF3 := hF2.keep (row' := toE (wP x1 b.1) y) (k' := wP x1 b.1) hr p4 ⟨y, rfl⟩ (by rw [hry]; rfl) rfl
  have e3 : parL (putL (takeL t.1 a.1 old) b.1 name id) id b.1 = (putL (takeL t.1 a.1 old) b.1 name id).set (id - 1).toNat (wP x1 b.1) := modL_some _ p4
  rw [← e3] at hF3
  rw [idx_int (by omega) (by omega), Option.bind_some, hr, Option.bind_some]
  have e4 : (row.1, (row.2.1, (row.2.2.1, (row.2.2.2.1, (row.2.2.2.2.1, (row.2.2.2.2.2.1, (b.1, row.2.2.2.2.2.2.2))))))) = toE (wP x1 b.1) y := by rw [hry]; rfl
  rw [e4]
  erw [bind_of (FamE.pure1 hF3)]
  rfl
theorem rename_over (h : TreeOK t) (ha : IsD t.1 a na) (hb : IsD t.1 b nb) (hs : namedB name = true) (hea : (old, id) ∈ na.2.2.2.2.2.2.2) (hx : t.1[(id - 1).toNat]? = some x) (hanc : x.2.2.2.1 = true → ¬ Anc t.1 id b.1) (heb : (name, other) ∈ nb.2.2.2.2.2.2.2) (hne : other ≠ id) (hz : t.1[(other - 1).toNat]? = some z) (hm : misE x.2.2.2.1 z = 0)
    {na' nb' x' : Ino} (h0 : TreeOK (dropL (takeL t.1 b.1 name) other, t.2)) (m : MvOk (dropL (takeL t.1 b.1 name) other, t.2) a old b name id na' nb' x') :
    tRen fuel t a old b name = some (mvL (dropL (takeL t.1 b.1 name) other) a.1 old b.1 name id, (t.2, (keptP z.2.2.2.2.2.1, 0))) := by
  obtain ⟨q1, q2, q3, z', q4, q5, q6⟩ := h.ent hb heb
  rw [hz] at q4; cases q4
  obtain ⟨g1, g2, g3, y, g4, g5, g6⟩ := h.ent ha hea
  rw [hx] at g4; cases g4
  have hlen := h.r.len
  have hpa := pos_at (h.srt ha.1) hea
  have hpal := (List.getElem?_eq_some_iff.1 hpa).1
  unfold tRen
  rw [show ((t.1, t.2) : Tree) = t from rfl, show ((a.1, a.2) : Int × Int) = a from rfl, show ((b.1, b.2) : Int × Int) = b from rfl, asked2_some h ha hb, Option.bind_some]
  simp only [beq_self_eq_true, Bool.not_true, cond_false]
  rw [named_ok, Option.bind_some, g1]
  simp only [Bool.not_true, cond_false]
  rw [named_ok, Option.bind_some, hs]
  simp only [Bool.not_true, cond_false, Option.bind_some]
  rw [show idx? 0 [na, nb].length = some 0 from rfl, Option.bind_some, show [na, nb][0]? = some na from rfl, Option.bind_some, h.ent_ok ha, Option.bind_some, hasN_iff.2 ⟨id, hea⟩]
  simp only [Bool.not_true, cond_false, Option.bind_some]
  rw [show [na, nb][0]? = some na from rfl, Option.bind_some, idx_nat hpal, Option.bind_some, hpa, Option.bind_some, w64 (by omega), idx_int (by omega) (by omega), Option.bind_some, hx, Option.bind_some]
  have hbel : (bif x.2.2.2.1 then (tbel fuel (t.1, t.2) b.1 id).bind fun r11 => some (r11, (t.1, (t.2, (a.1, (a.2, (b.1, (b.2, ((0 : Int), [na, nb]))))))))
      else some (false, (t.1, (t.2, (a.1, (a.2, (b.1, (b.2, (0, [na, nb]))))))))) = some (false, (t.1, (t.2, (a.1, (a.2, (b.1, (b.2, (0, [na, nb])))))))) := by
    cases hd : x.2.2.2.1 with
    | false => rfl
    | true =>
      simp only [cond_true]
      obtain ⟨r, hr, hq⟩ := below_ok h hb id
      have : r = false := by
        cases r with
        | false => rfl
        | true => exact absurd (hq.1 rfl) (hanc hd)
      rw [show ((t.1, t.2) : Tree) = t from rfl, hr, this]
      rfl
  rw [hbel, Option.bind_some]
  simp only [cond_false]
  obtain ⟨rows, ms, hc, hF⟩ := copiedE_ok h.r.fit
  rw [show idx? 1 [na, nb].length = some 1 from rfl, Option.bind_some, show [na, nb][1]? = some nb from rfl, Option.bind_some, h.ent_ok hb, Option.bind_some, show ((t.1, t.2) : Tree) = t from rfl, hc, Option.bind_some]
  have hpb := pos_at (h.srt hb.1) heb
  have hpbl := (List.getElem?_eq_some_iff.1 hpb).1
  simp only [hasN_iff.2 ⟨_, heb⟩, cond_true]
  rw [Option.bind_some, show [na, nb][1]? = some nb from rfl, Option.bind_some, idx_nat hpbl, Option.bind_some, hpb, Option.bind_some, Option.bind_some]
  simp only [beq_eq_false_iff_ne.2 hne, cond_false]
  rw [show idx? 1 [na, nb].length = some 1 from rfl, Option.bind_some, show [na, nb][1]? = some nb from rfl, Option.bind_some, idx_nat hpbl, Option.bind_some, hpb, Option.bind_some, w64 (by omega), idx_int (by omega) (by omega), Option.bind_some, hz, Option.bind_some, mismatch_ok, Option.bind_some, hm]
  simp only [beq_self_eq_true, Bool.not_true, cond_false]
  have hze : z.2.2.2.2.2.2.2 = [] := by
    unfold misE at hm
    split at hm
    · cases hm
    · split at hm
      · cases hm
      · split at hm
        · assumption
        · cases hm
  obtain ⟨rows0, mp, me, hw, hP0, hE0⟩ := without2_ok h hb heb hz hze
  rw [show ((t.1, t.2) : Tree) = t from rfl, hw, Option.bind_some]
  simp only [beq_self_eq_true, Bool.not_true, cond_false]
  obtain ⟨b1, x1, p1, p2, p3, p4⟩ := mv_parts h0 m
  simp only at p1 p4
  have hl0 : (dropL (takeL t.1 b.1 name) other).length = t.1.length := (modL_len ..).trans (modL_len ..)
  have hna' := h0.few m.da.1
  obtain ⟨rows1, me1, ht, hP1, hE1⟩ := take2_ok t.2 old hP0 hE0 (by omega) m.da.1.1 m.da.1.2.1 (by omega)
  rw [← takeL_some (t := (dropL (takeL t.1 b.1 name) other, t.2)) m.da] at hP1 hE1
  simp only at hP1 hE1
  have hl1 : (takeL (dropL (takeL t.1 b.1 name) other) a.1 old).length = t.1.length := (modL_len ..).trans hl0
  obtain ⟨rows2, me2, hp2, hP2, hE2⟩ := put2_ok t.2 name id hP1 hE1 (by omega) hb.1.1 p1 p2 (by omega)
  have e2 : putL (takeL (dropL (takeL t.1 b.1 name) other) a.1 old) b.1 name id = (takeL (dropL (takeL t.1 b.1 name) other) a.1 old).set (b.1 - 1).toNat (wE b1 (insE b1.2.2.2.2.2.2.2 name id)) := modL_some _ p1
  rw [← e2] at hP2 hE2
  have hl2 : (putL (takeL (dropL (takeL t.1 b.1 name) other) a.1 old) b.1 name id).length = t.1.length := (modL_len ..).trans hl1
  have hrl := hP2.len
  rw [ht, Option.bind_some]
  simp only
  rw [hp2, Option.bind_some]
  simp only
  obtain ⟨row, hr, ⟨y, w, hry⟩, _⟩ := hP2.row p4
  have hP3 := hP2.keep (row' := to2 (wP x1 b.1) y w) (k' := wP x1 b.1) hr p4 ⟨y, w, rfl⟩ (by rw [hry]; rfl) rfl
  have hE3 := hE2.keep (row' := to2 (wP x1 b.1) y w) (k' := wP x1 b.1) hr p4 ⟨y, w, rfl⟩ (by rw [hry]; rfl) rfl
  have e3 : parL (putL (takeL (dropL (takeL t.1 b.1 name) other) a.1 old) b.1 name id) id b.1 = (putL (takeL (dropL (takeL t.1 b.1 name) other) a.1 old) b.1 name id).set (id - 1).toNat (wP x1 b.1) := modL_some _ p4
  rw [← e3] at hP3 hE3
  rw [idx_int (by omega) (by omega), Option.bind_some, hr, Option.bind_some]
  have e4 : (row.1, (row.2.1, (row.2.2.1, (row.2.2.2.1, (row.2.2.2.2.1, (row.2.2.2.2.2.1, (b.1, row.2.2.2.2.2.2.2))))))) = to2 (wP x1 b.1) y w := by rw [hry]; rfl
  rw [e4]
  erw [bind_of (fam2_pure (ms.map frz1) hP3 hE3)]
  rfl
end
end Go.Ab.D
namespace Go.Ab.D
open Go Go.Ab
theorem misE_ents {dir : Bool} {x : Ino} (h : misE dir x = 0) : x.2.2.2.2.2.2.2 = [] ∧ x.2.2.2.1 = dir := by
  unfold misE at h
  split at h
  · cases h
  · rename_i h1
    split at h
    · cases h
    · rename_i h2
      split at h
      · rename_i h3
        refine ⟨h3, ?_⟩
        cases dir <;> cases hd : x.2.2.2.1 <;> simp_all
      · cases h
section
variable {t : Tree} {a b d : Int × Int} {na nb n x z : Ino} {old name s : List UInt8} {id other : Int}
def Found (t : Tree) (d : Int × Int) (s : List UInt8) (h : Int × Int) : Prop := ∃ n x, IsD t.1 d n ∧ (s, h.1) ∈ n.2.2.2.2.2.2.2 ∧ t.1[(h.1 - 1).toNat]? = some x ∧ x.2.1 = h.2 ∧ x.2.2.1 = true
structure MadeOk (t : Tree) (d : Int × Int) (s : List UInt8) (is : Bool) (T : Tree) (f : Int × Int) (n : Ino) (l' : List Ino) (i : Nat) : Prop where
  dir : IsD t.1 d n
  nm : namedB s = true
  no : hasN n.2.2.2.2.2.2.2 s = false
  few : n.2.2.2.2.2.2.2.length < 100
  alc : Alc t.1 is d.1 l' i f.2
  T : T = (putL l' d.1 s ((i : Int) + 1), t.2)
  f : f.1 = (i : Int) + 1
theorem madeL_eq {l' : List Ino} {i : Nat} {g : Int} {is : Bool} (hn : IsD t.1 d n) (hA : Alc t.1 is d.1 l' i g) (id : Int) : madeL l' d.1 n s id = putL l' d.1 s id := by
  have hne : (d.1 - 1).toNat ≠ i := fun hc => by
    have := hA.was n (by rw [← hc]; exact hn.1.2.1)
    rw [hn.1.2.2.1] at this; cases this
  unfold madeL putL
  rw [modL_some _ (by rw [hA.old _ hne]; exact hn.1.2.1)]
structure RmOk (t : Tree) (d : Int × Int) (s : List UInt8) (is : Bool) (T : Tree) (gone : List Part) (n : Ino) (id : Int) (x : Ino) : Prop where
  dir : IsD t.1 d n
  e : (s, id) ∈ n.2.2.2.2.2.2.2
  at_ : t.1[(id - 1).toNat]? = some x
  mis : misE is x = 0
  T : T = (dropL (takeL t.1 d.1 s) id, t.2)
  gone : gone = keptP x.2.2.2.2.2.1
theorem noanc (h : TreeOK t) (ha : IsD t.1 a na) (hb : IsD t.1 b nb) (hea : (old, id) ∈ na.2.2.2.2.2.2.2) (hx : t.1[(id - 1).toNat]? = some x) (hanc : x.2.2.2.1 = true → ¬ Anc t.1 id b.1) : ¬ Anc t.1 id b.1 := by
  cases hd : x.2.2.2.1 with
  | true => exact hanc hd
  | false =>
    intro hc
    obtain ⟨_, h2, _, y, hy, hu, _⟩ := h.ent ha hea
    rw [hx] at hy; cases hy
    have hxe : x.2.2.2.2.2.2.2 = [] := ((h.r.ino _ x hx).file hu hd).2.1
    have := anc_leaf h hx h2 hxe hc hb.1.1
    have hn := hb.1.2.1
    rw [this, hx] at hn
    cases hn
    rw [hb.2] at hd; cases hd
theorem over_ok (h : TreeOK t) (ha : IsD t.1 a na) (hb : IsD t.1 b nb) (hs : namedB name = true) (hea : (old, id) ∈ na.2.2.2.2.2.2.2) (hx : t.1[(id - 1).toNat]? = some x) (hanc : ¬ Anc t.1 id b.1) (heb : (name, other) ∈ nb.2.2.2.2.2.2.2) (hne : other ≠ id) (hz : t.1[(other - 1).toNat]? = some z) (hze : z.2.2.2.2.2.2.2 = []) :
    ∃ na' nb', MvOk (dropL (takeL t.1 b.1 name) other, t.2) a old b name id na' nb' x ∧ nb' = wE nb (delE nb.2.2.2.2.2.2.2 name) := by
  obtain ⟨_, i2, i3, y, hy, hu, hp⟩ := h.ent ha hea
  rw [hx] at hy; cases hy
  obtain ⟨_, o2, o3, w, hw, hzu, hzp⟩ := h.ent hb heb
  rw [hz] at hw; cases hw
  have hk := rm_ne heb hb hz hze
  have hka : (other - 1).toNat ≠ (a.1 - 1).toNat := fun hc => by
    have := ha.1.2.1
    rw [← hc, hz] at this
    cases this
    rw [hze] at hea
    cases hea
  have hat := fun j => rm_at (s := name) hk hb hz j
  have hb1 := hb.1.1
  have hfb := h.few hb.1
  have hdl := delE_len (h.srt hb.1) heb
  have hkb : (id - 1).toNat ≠ (b.1 - 1).toNat := fun hc => by
    have : id = b.1 := by omega
    exact hanc (by rw [this]; exact .refl)
  have hno : hasN (delE nb.2.2.2.2.2.2.2 name) name = false := by
    cases hh : hasN (delE nb.2.2.2.2.2.2.2 name) name with
    | false => rfl
    | true => obtain ⟨i, hi⟩ := hasN_iff.1 hh; exact absurd rfl (mem_delE.1 hi).2
  have hdb : IsD (dropL (takeL t.1 b.1 name) other) b (wE nb (delE nb.2.2.2.2.2.2.2 name)) := ⟨⟨hb1, by rw [hat, if_neg (by omega), if_pos rfl], hb.1.2.2.1, hb.1.2.2.2⟩, hb.2⟩
  have hda : ∃ na', IsD (dropL (takeL t.1 b.1 name) other) a na' ∧ (old, id) ∈ na'.2.2.2.2.2.2.2 := by
    by_cases hab : (a.1 - 1).toNat = (b.1 - 1).toNat
    · have hnn : na = nb := by
        have := ha.1.2.1
        rw [hab, hb.1.2.1] at this
        injection this with this; exact this.symm
      subst hnn
      refine ⟨wE na (delE na.2.2.2.2.2.2.2 name), ⟨⟨ha.1.1, by rw [hat, if_neg (by omega), if_pos hab], ha.1.2.2.1, ha.1.2.2.2⟩, ha.2⟩, mem_delE.2 ⟨hea, fun hc => ?_⟩⟩
      have hc : old = name := hc
      subst hc
      exact hne (srt_uniq (h.srt hb.1) heb hea)
    · exact ⟨na, ⟨⟨ha.1.1, by rw [hat, if_neg (by omega), if_neg hab]; exact ha.1.2.1, ha.1.2.2.1, ha.1.2.2.2⟩, ha.2⟩, hea⟩
  obtain ⟨na', hda, hea'⟩ := hda
  refine ⟨na', _, ⟨hda, hdb, hea', ?_, hs, hno, fun _ => ?_, fun hc => hanc ?_⟩, rfl⟩
  · show (dropL (takeL t.1 b.1 name) other)[(id - 1).toNat]? = _
    rw [hat, if_neg (by omega), if_neg hkb]; exact hx
  · show (delE _ _).length < 100
    omega
  · have go : ∀ i, Anc (dropL (takeL t.1 b.1 name) other) id i → 1 ≤ i → Anc t.1 id i := fun i hi => by
      induction hi with
      | refl => intro _; exact .refl
      | @step i y h1 hy hyu _ ih =>
        intro hi1
        rw [hat] at hy
        by_cases c1 : (i - 1).toNat = (other - 1).toNat
        · rw [if_pos c1] at hy; cases hy; cases hyu
        · rw [if_neg c1] at hy
          by_cases c2 : (i - 1).toNat = (b.1 - 1).toNat
          · rw [if_pos c2] at hy
            cases hy
            exact .step h1 (by rw [c2]; exact hb.1.2.1) hb.1.2.2.1 (ih ((h.r.ino _ nb hb.1.2.1).par hb.1.2.2.1).1)
          · rw [if_neg c2] at hy
            exact .step h1 hy hyu (ih ((h.r.ino _ y hy).par hyu).1)
    exact go _ hc hb1
inductive Moved (t : Tree) (a : Int × Int) (old : List UInt8) (b : Int × Int) (name : List UInt8) (T : Tree) (gone : List Part) (id : Int) (x : Ino) : Prop
  | same {na nb : Ino} : T = t → gone = [] → IsD t.1 a na → IsD t.1 b nb → (old, id) ∈ na.2.2.2.2.2.2.2 → (name, id) ∈ nb.2.2.2.2.2.2.2 → t.1[(id - 1).toNat]? = some x → Moved t a old b name T gone id x
  | move {na nb : Ino} : T = (mvL t.1 a.1 old b.1 name id, t.2) → gone = [] → MvOk t a old b name id na nb x → Moved t a old b name T gone id x
  | over {na nb na' nb' z : Ino} {other : Int} : T = (mvL (dropL (takeL t.1 b.1 name) other) a.1 old b.1 name id, t.2) → gone = keptP z.2.2.2.2.2.1 → IsD t.1 a na → IsD t.1 b nb → (old, id) ∈ na.2.2.2.2.2.2.2 → t.1[(id - 1).toNat]? = some x → (name, other) ∈ nb.2.2.2.2.2.2.2 → other ≠ id → t.1[(other - 1).toNat]? = some z → misE x.2.2.2.1 z = 0 → TreeOK (dropL (takeL t.1 b.1 name) other, t.2) → MvOk (dropL (takeL t.1 b.1 name) other, t.2) a old b name id na' nb' x → Moved t a old b name T gone id x
end
end Go.Ab.D
namespace Go.Ab.D
open Go Go.Ab
section
variable {t T : Tree} {a b : Int × Int} {old name : List UInt8} {gone : List Part} {id : Int} {x : Ino}
end
theorem new_ok : TreeOK ([(1, 1, true, true, 0, [], 1, [])], 0) := by
  refine ⟨⟨by simp, by simp, fun i n hn => ?_, by simp [allStripes, stripes], _, rfl, rfl, rfl, rfl⟩, fun i n hn s id he => ?_, fun j x hx hu hj => ?_, fun j x hx hu => ?_⟩
  · cases i with
    | zero => simp at hn; subst hn; exact ⟨rfl, by simp, by simp, fun _ _ => ⟨rfl, rfl, by simp, trivial⟩, by simp, by simp⟩
    | succ i => simp at hn
  · cases i with
    | zero => simp at hn; subst hn; cases he
    | succ i => simp at hn
  · cases j with
    | zero => exact absurd rfl hj
    | succ i => simp at hx
  · cases j with
    | zero => exact .root
    | succ i => simp at hx
end Go.Ab.D
namespace Go.Ab.D
open Go Go.Ab
def allocF (l : List Ino) (dir : Bool) (parent : Int) : Option (List Ino × Nat × Int) :=
  match freeAt l with
  | none => if l.length < 500 then some (l ++ [((l.length : Int) + 1, 1, true, dir, 0, [], parent, [])], l.length, 1) else none
  | some i => match l[i]? with
    | none => none
    | some n => if n.2.1 < 1099511627776 then some (l.set i ((i : Int) + 1, n.2.1 + 1, true, dir, 0, [], parent, []), i, n.2.1 + 1) else none
theorem alc_fun {l l' : List Ino} {dir : Bool} {parent g : Int} {i : Nat} (h : Alc l dir parent l' i g) : allocF l dir parent = some (l', i, g) := by
  unfold allocF
  have hs := h.slot
  have hlen := h.len
  cases hf : freeAt l with
  | none =>
    rw [hf] at hs
    have hs : i = l.length := hs
    rw [if_neg (by omega)] at hlen
    have := h.few
    have hg : g = 0 + 1 := by
      have := h.gen
      rw [List.getElem?_eq_none (by omega)] at this
      exact this
    rw [if_pos (by omega)]
    subst hs hg
    show some (l ++ [((l.length : Int) + 1, 1, true, dir, 0, [], parent, [])], l.length, (1 : Int)) = some (l', l.length, 0 + 1)
    have e : l ++ [((l.length : Int) + 1, 1, true, dir, 0, [], parent, [])] = l' := ?_
    · rw [e]; rfl
    refine List.ext_getElem? fun j => ?_
    by_cases hj : j = l.length
    · subst hj; rw [h.new]; simp
    · rw [h.old j hj]
      by_cases hj2 : j < l.length
      · rw [List.getElem?_append_left hj2]
      · rw [List.getElem?_eq_none (by simp; omega), List.getElem?_eq_none (by omega)]
  | some k =>
    rw [hf] at hs
    have hs : i = k := hs
    subst hs
    obtain ⟨hk, _, _⟩ := List.findIdx?_eq_some_iff_getElem.1 hf
    have hg : l[i]? = some l[i] := List.getElem?_eq_getElem hk
    have hgen := h.gen
    rw [hg] at hgen
    have hgen : g = l[i].2.1 + 1 := hgen
    have := h.top
    simp only [hg]
    rw [if_pos (by omega), ← hgen]
    congr 2
    refine List.ext_getElem? fun j => ?_
    by_cases hj : j = i
    · subst hj; rw [h.new, List.getElem?_set_self hk]
    · rw [h.old j hj, List.getElem?_set_ne (by omega)]
theorem noRoom_fun {l : List Ino} (h : noRoom l) (dir : Bool) (parent : Int) : allocF l dir parent = none := by
  unfold noRoom at h
  unfold allocF
  cases hf : freeAt l with
  | none => rw [hf] at h; exact if_neg (by omega)
  | some i =>
    rw [hf] at h
    obtain ⟨n, hn, hg⟩ := h
    simp only [hn]
    exact if_neg (by omega)
def findE (l : List Ent) (s : List UInt8) : Option Int := (l.find? fun e => e.1 == s).map (·.2)
theorem findE_some {l : List Ent} (h : Srt l) {s : List UInt8} {id : Int} (hm : (s, id) ∈ l) : findE l s = some id := by
  unfold findE
  cases hf : l.find? (fun e => e.1 == s) with
  | none => have := List.find?_eq_none.1 hf _ hm; simp at this
  | some e =>
    have h1 := List.mem_of_find?_eq_some hf
    have h2 := List.find?_some hf
    have h2 : e.1 = s := by simpa using h2
    have : (s, e.2) ∈ l := by rw [← h2]; exact h1
    rw [srt_uniq h hm this]
    rfl
theorem findE_none {l : List Ent} {s : List UInt8} (h : hasN l s = false) : findE l s = none := by
  unfold findE
  rw [List.find?_eq_none.2]
  · rfl
  · intro e he hh
    have h2 : e.1 = s := by simpa using hh
    have := (hasN_iff (l := l) (s := s)).2 ⟨e.2, by rw [← h2]; exact he⟩
    rw [h] at this; cases this
def ancB (l : List Ino) (top : Int) : Nat → Int → Bool
  | 0, id => id == top
  | k + 1, id => bif id == top then true else bif id == 1 then false else match l[(id - 1).toNat]? with
    | some n => n.2.2.1 && ancB l top k n.2.2.2.2.2.2.1
    | none => false
theorem ancB_ok {l : List Ino} (top : Int) : ∀ (k : Nat) (id : Int), reachN l k id = true → (ancB l top k id = true ↔ Anc l top id)
  | 0, id, h => by
    have h : id = 1 := by unfold reachN at h; simpa using h
    unfold ancB
    rw [beq_iff_eq]
    constructor
    · rintro rfl; exact .refl
    · intro ha
      cases ha with
      | refl => rfl
      | step h1 => exact absurd h h1
  | k + 1, id, h => by
    unfold ancB
    cases h1 : (id == top) with
    | true => rw [beq_iff_eq] at h1; subst h1; simp; exact .refl
    | false =>
      cases h2 : (id == 1) with
      | true =>
        simp only [cond_false, cond_true]
        constructor
        · intro hc; cases hc
        · intro ha
          cases ha with
          | refl => rw [beq_self_eq_true] at h1; cases h1
          | step h3 => rw [beq_iff_eq] at h2; exact absurd h2 h3
      | false =>
        unfold reachN at h
        rw [h2] at h
        simp only [cond_false] at h ⊢
        cases hg : l[(id - 1).toNat]? with
        | none => rw [hg] at h; cases h
        | some n =>
          rw [hg] at h
          simp only [Bool.and_eq_true] at h ⊢
          rw [ancB_ok top k _ h.2]
          constructor
          · rintro ⟨h3, h4⟩; exact .step (by simpa using h2) hg h3 h4
          · intro ha
            cases ha with
            | refl => rw [beq_self_eq_true] at h1; cases h1
            | step _ h4 h5 h6 => rw [hg] at h4; cases h4; exact ⟨h5, h6⟩
theorem ancB_iff {t : Tree} (h : TreeOK t) {b : Int × Int} {nb : Ino} (hb : IsD t.1 b nb) (top : Int) : ancB t.1 top t.1.length b.1 = true ↔ Anc t.1 top b.1 := by
  have hlt := (List.getElem?_eq_some_iff.1 hb.1.2.1).1
  have hdb := isD_idx hb
  have hb1 := hb.1.1
  exact ancB_ok top _ _ (rch_reachN h.r.len.1 (fun j x hx hxu => (h.r.ino j x hx).par hxu) hb1 (by omega) (by have := h.a _ nb hb.1.2.1 hb.1.2.2.1; rw [hdb] at this; exact this))
def makeF (t : Tree) (d : Int × Int) (s : List UInt8) (is : Bool) : Tree × (Int × Int) × Int :=
  if dirE t.1 d = 0 then
    if namedB s = true then
      match t.1[(d.1 - 1).toNat]? with
      | none => (t, (0, 0), 170)
      | some n => if hasN n.2.2.2.2.2.2.2 s = true then (t, (0, 0), 172) else if 100 ≤ n.2.2.2.2.2.2.2.length then (t, (0, 0), 5) else
        match allocF t.1 is d.1 with
        | none => (t, (0, 0), 5)
        | some (l', i, g) => ((putL l' d.1 s ((i : Int) + 1), t.2), ((i : Int) + 1, g), 0)
    else (t, (0, 0), 176)
  else (t, (0, 0), dirE t.1 d)
theorem make_eq {t : Tree} (h : TreeOK t) (d : Int × Int) (s : List UInt8) (is : Bool) : tree_Make fuel t d s is = some ((makeF t d s is).1.1, ((makeF t d s is).1.2, ((makeF t d s is).2.1.1, ((makeF t d s is).2.1.2, (makeF t d s is).2.2)))) ∧ TreeOK (makeF t d s is).1 := by
  unfold makeF
  rcases dirE_cases t.1 d with ⟨n, hn⟩ | ⟨hb, _⟩
  · rw [if_pos (dirE_some hn), hn.1.2.1]
    simp only
    cases hs : namedB s with
    | false => rw [if_neg (by simp)]; exact ⟨make_name h is hn hs, h⟩
    | true =>
      rw [if_pos rfl]
      cases hh : hasN n.2.2.2.2.2.2.2 s with
      | true => rw [if_pos rfl]; exact ⟨make_there h is hn hs hh, h⟩
      | false =>
        rw [if_neg (by simp)]
        by_cases hl : 100 ≤ n.2.2.2.2.2.2.2.length
        · rw [if_pos hl]; exact ⟨make_full h is hn hs hh hl, h⟩
        · rw [if_neg hl]
          rcases make_alloc h is hn hs hh (by omega) with ⟨hno, hm⟩ | ⟨l', i, g, hA, hm⟩
          · rw [noRoom_fun hno]; exact ⟨hm, h⟩
          · rw [alc_fun hA, hm, madeL_eq hn hA]
            exact ⟨rfl, mk_keeps h hn hs hh (by omega) hA⟩
  · rw [if_neg hb]; exact ⟨make_dir h s is hb, h⟩
def removeF (t : Tree) (d : Int × Int) (s : List UInt8) (is : Bool) : Tree × List Part × Int :=
  if dirE t.1 d = 0 then
    if namedB s = true then
      match t.1[(d.1 - 1).toNat]? with
      | none => (t, [], 170)
      | some n => match findE n.2.2.2.2.2.2.2 s with
        | none => (t, [], 171)
        | some id => match t.1[(id - 1).toNat]? with
          | none => (t, [], 170)
          | some x => if misE is x = 0 then ((dropL (takeL t.1 d.1 s) id, t.2), keptP x.2.2.2.2.2.1, 0) else (t, [], misE is x)
    else (t, [], 176)
  else (t, [], dirE t.1 d)
theorem remove_eq {t : Tree} (h : TreeOK t) (d : Int × Int) (s : List UInt8) (is : Bool) : tRem fuel t d s is = some ((removeF t d s is).1.1, ((removeF t d s is).1.2, ((removeF t d s is).2.1, (removeF t d s is).2.2))) ∧ TreeOK (removeF t d s is).1 := by
  unfold removeF
  rcases dirE_cases t.1 d with ⟨n, hn⟩ | ⟨hb, _⟩
  · rw [if_pos (dirE_some hn), hn.1.2.1]
    simp only
    cases hs : namedB s with
    | false => rw [if_neg (by simp)]; exact ⟨remove_name h is hn hs, h⟩
    | true =>
      rw [if_pos rfl]
      cases hh : hasN n.2.2.2.2.2.2.2 s with
      | false => rw [findE_none hh]; exact ⟨remove_none h is hn hs hh, h⟩
      | true =>
        obtain ⟨id, he⟩ := hasN_iff.1 hh
        obtain ⟨_, _, _, x, hx, hu, _⟩ := h.ent hn he
        rw [findE_some (h.srt hn.1) he]
        simp only [hx]
        have hr := remove_some h is hn he hx
        by_cases hm : misE is x = 0
        · rw [if_pos hm] at hr ⊢
          exact ⟨hr, rm_keeps h hn he hx (misE_ents hm).1⟩
        · rw [if_neg hm] at hr ⊢
          exact ⟨hr, h⟩
  · rw [if_neg hb]; exact ⟨remove_dir h s is hb, h⟩
def renameF (t : Tree) (a : Int × Int) (old : List UInt8) (b : Int × Int) (name : List UInt8) : Tree × List Part × Int :=
  if dirE t.1 a = 0 then
    if dirE t.1 b = 0 then
      if (namedB old && namedB name) = true then
        match t.1[(a.1 - 1).toNat]? with
        | none => (t, [], 170)
        | some na => match t.1[(b.1 - 1).toNat]? with
          | none => (t, [], 170)
          | some nb => match findE na.2.2.2.2.2.2.2 old with
            | none => (t, [], 171)
            | some id => match t.1[(id - 1).toNat]? with
              | none => (t, [], 170)
              | some x => if (x.2.2.2.1 && ancB t.1 id t.1.length b.1) = true then (t, [], 178) else
                match findE nb.2.2.2.2.2.2.2 name with
                | none => if a.1 ≠ b.1 ∧ 100 ≤ nb.2.2.2.2.2.2.2.length then (t, [], 5) else ((mvL t.1 a.1 old b.1 name id, t.2), [], 0)
                | some other => if other = id then (t, [], 0) else match t.1[(other - 1).toNat]? with
                  | none => (t, [], 170)
                  | some z => if misE x.2.2.2.1 z = 0 then ((mvL (dropL (takeL t.1 b.1 name) other) a.1 old b.1 name id, t.2), keptP z.2.2.2.2.2.1, 0) else (t, [], misE x.2.2.2.1 z)
      else (t, [], 176)
    else (t, [], dirE t.1 b)
  else (t, [], dirE t.1 a)
theorem rename_eq {t : Tree} (h : TreeOK t) (a : Int × Int) (old : List UInt8) (b : Int × Int) (name : List UInt8) : tRen fuel t a old b name = some ((renameF t a old b name).1.1, ((renameF t a old b name).1.2, ((renameF t a old b name).2.1, (renameF t a old b name).2.2))) ∧ TreeOK (renameF t a old b name).1 := by
  unfold renameF
  rcases dirE_cases t.1 a with ⟨na, ha⟩ | ⟨hb, _⟩
  · rw [if_pos (dirE_some ha)]
    rcases dirE_cases t.1 b with ⟨nb, hb⟩ | ⟨hb, _⟩
    · rw [if_pos (dirE_some hb)]
      cases hsn : (namedB old && namedB name) with
      | false => rw [if_neg (by simp)]; exact ⟨rename_name h ha hb hsn, h⟩
      | true =>
        rw [if_pos rfl, ha.1.2.1, hb.1.2.1]
        simp only
        rw [Bool.and_eq_true] at hsn
        obtain ⟨hso, hs⟩ := hsn
        cases hh : hasN na.2.2.2.2.2.2.2 old with
        | false => rw [findE_none hh]; exact ⟨rename_none h ha hb hso hs hh, h⟩
        | true =>
          obtain ⟨id, hea⟩ := hasN_iff.1 hh
          obtain ⟨_, _, _, x, hx, hu, hp⟩ := h.ent ha hea
          rw [findE_some (h.srt ha.1) hea]
          simp only [hx]
          by_cases hl : (x.2.2.2.1 && ancB t.1 id t.1.length b.1) = true
          · rw [if_pos hl]
            rw [Bool.and_eq_true] at hl
            exact ⟨rename_loop h ha hb hs hea hx hl.1 ((ancB_iff h hb id).1 hl.2), h⟩
          · rw [if_neg hl]
            have hanc : x.2.2.2.1 = true → ¬ Anc t.1 id b.1 := fun h1 h2 => hl (by rw [h1, (ancB_iff h hb id).2 h2]; rfl)
            have hanc' := noanc h ha hb hea hx hanc
            cases hhb : hasN nb.2.2.2.2.2.2.2 name with
            | false =>
              rw [findE_none hhb]
              simp only
              by_cases hfull : a.1 ≠ b.1 ∧ 100 ≤ nb.2.2.2.2.2.2.2.length
              · rw [if_pos hfull]; exact ⟨rename_full h ha hb hs hea hx hanc hhb hfull.1 hfull.2, h⟩
              · rw [if_neg hfull]
                have hfw : a.1 ≠ b.1 → nb.2.2.2.2.2.2.2.length < 100 := fun hc => by
                  have : ¬ 100 ≤ nb.2.2.2.2.2.2.2.length := fun hh => hfull ⟨hc, hh⟩
                  omega
                have m : MvOk t a old b name id na nb x := ⟨ha, hb, hea, hx, hs, hhb, hfw, hanc'⟩
                exact ⟨rename_move h m hanc, mv_keeps h m⟩
            | true =>
              obtain ⟨other, heb⟩ := hasN_iff.1 hhb
              obtain ⟨_, _, _, z, hz, hzu, hzp⟩ := h.ent hb heb
              rw [findE_some (h.srt hb.1) heb]
              simp only
              by_cases hne : other = id
              · subst hne
                rw [if_pos rfl]
                exact ⟨rename_same h ha hb hs hea hx hanc heb, h⟩
              · rw [if_neg hne, hz]
                simp only
                by_cases hm : misE x.2.2.2.1 z = 0
                · rw [if_pos hm]
                  have hze := (misE_ents hm).1
                  have h0 := rm_keeps h hb heb hz hze
                  obtain ⟨na', nb', m, _⟩ := over_ok h ha hb hs hea hx hanc' heb hne hz hze
                  exact ⟨rename_over h ha hb hs hea hx hanc heb hne hz hm h0 m, mv_keeps h0 m⟩
                · rw [if_neg hm]
                  exact ⟨rename_mis h ha hb hs hea hx hanc heb hne hz hm, h⟩
    · rw [if_neg hb]; exact ⟨rename_dir2 h ha hb, h⟩
  · rw [if_neg hb]; exact ⟨rename_dir1 h hb, h⟩
def T0 : Tree := ([(1, 1, true, true, 0, [], 1, [])], 0)
def T1 : Tree := ([(1, 1, true, true, 0, [], 1, [([97], 2)]), (2, 1, true, true, 0, [], 1, [])], 0)
def T2' : Tree := ([(1, 1, true, true, 0, [], 1, [([97], 2)]), (2, 1, true, true, 0, [], 1, [([98], 3)]), (3, 1, true, true, 0, [], 2, [])], 0)
def T3 : Tree := ([(1, 1, true, true, 0, [], 1, [([97], 2), ([120], 4)]), (2, 1, true, true, 0, [], 1, [([98], 3)]), (3, 1, true, true, 0, [], 2, []), (4, 1, true, false, 0, [], 1, [])], 0)
def T4 : Tree := ([(1, 1, true, true, 0, [], 1, [([97], 2)]), (2, 1, true, true, 0, [], 1, [([98], 3), ([120], 4)]), (3, 1, true, true, 0, [], 2, []), (4, 1, true, false, 0, [], 2, [])], 0)
theorem e1 : makeF T0 (1, 1) [97] true = (T1, (2, 1), 0) := by kernel_rfl
theorem e2 : makeF T1 (2, 1) [98] true = (T2', (3, 1), 0) := by kernel_rfl
theorem e3 : renameF T2' (1, 1) [97] (3, 1) [99] = (T2', [], 178) := by kernel_rfl
theorem e4 : makeF T2' (1, 1) [120] false = (T3, (4, 1), 0) := by kernel_rfl
theorem e5 : renameF T3 (1, 1) [120] (2, 1) [120] = (T4, [], 0) := by kernel_rfl
theorem e6 : removeF T4 (1, 1) [97] true = (T4, [], 175) := by kernel_rfl
theorem awakeU : law19_awake fuel = some true := by
  have h0 : TreeOK T0 := new_ok
  obtain ⟨m1, h1⟩ := make_eq h0 (1, 1) [97] true
  rw [e1] at m1 h1
  obtain ⟨m2, h2⟩ := make_eq h1 (2, 1) [98] true
  rw [e2] at m2 h2
  obtain ⟨m3, _⟩ := rename_eq h2 (1, 1) [97] (3, 1) [99]
  rw [e3] at m3
  obtain ⟨m4, h4⟩ := make_eq h2 (1, 1) [120] false
  rw [e4] at m4 h4
  obtain ⟨m5, h5⟩ := rename_eq h4 (1, 1) [120] (2, 1) [120]
  rw [e5] at m5 h5
  obtain ⟨m6, _⟩ := remove_eq h5 (1, 1) [97] true
  rw [e6] at m6
  have l1 : tLoo fuel T4 (2, 1) [120] = some (4, 1, 0) := lookup_some h5 (n := (2, 1, true, true, 0, [], 1, [([98], 3), ([120], 4)])) (x := (4, 1, true, false, 0, [], 2, [])) ⟨⟨by decide, rfl, rfl, rfl⟩, rfl⟩ (by simp) rfl
  unfold law19_awake
  rw [show inode_New fuel = some (T0.2, T0.1) from rfl, Option.bind_some, show law19_root fuel = some (1, 1) from rfl]
  simp only [Option.bind_some]
  rw [show ((T0.1, T0.2) : Tree) = T0 from rfl, m1, Option.bind_some]
  simp only
  rw [show ((T1.1, T1.2) : Tree) = T1 from rfl, m2, Option.bind_some]
  simp only
  rw [show ((T2'.1, T2'.2) : Tree) = T2' from rfl, m3, Option.bind_some, m4, Option.bind_some]
  simp only
  rw [show ((T3.1, T3.2) : Tree) = T3 from rfl, m5, Option.bind_some]
  simp only
  rw [show ((T4.1, T4.2) : Tree) = T4 from rfl, l1, Option.bind_some, m6, Option.bind_some]
  rfl
end Go.Ab.D
namespace Go.Ab.D
open Go Go.Ab
theorem behind_nil {l : List Ent} (h : ∀ e ∈ l, 1 ≤ e.1.length) : behind l [] = l := by
  have h1 : pos l [] = 0 := by
    unfold pos
    cases l with
    | nil => rfl
    | cons a r =>
      rw [List.takeWhile_cons]
      have : blt a.1 [] = false := by unfold blt; cases a.1 <;> rfl
      rw [this]; rfl
  have h2 : hasN l [] = false := by
    cases hh : hasN l [] with
    | false => rfl
    | true => obtain ⟨i, hi⟩ := hasN_iff.1 hh; have := h _ hi; simp at this
  unfold behind
  rw [h1, h2]
  simp
end Go.Ab.D
namespace Go.Ab.D
open Go Go.Ab
def nm (k : Nat) : List UInt8 := [110, UInt8.ofNat (48 + k / 10), UInt8.ofNat (48 + k % 10)]
theorem nm_ok {k : Nat} (hk : k < 100) : law19_TreeMany_1 fuel (k : Int) = some (nm k) := by
  have h1 : Int.tdiv (k : Int) 10 = ((k / 10 : Nat) : Int) := rfl
  have h2 : Int.tmod (k : Int) 10 = ((k % 10 : Nat) : Int) := rfl
  unfold law19_TreeMany_1
  rw [h1, h2, w64 (show -9223372036854775808 ≤ ((k / 10 : Nat) : Int) ∧ _ by omega), w64 (show -9223372036854775808 ≤ 48 + ((k / 10 : Nat) : Int) ∧ _ by omega), w64 (show -9223372036854775808 ≤ 48 + ((k % 10 : Nat) : Int) ∧ _ by omega), wu8 (by omega), wu8 (by omega),
    show (48 + ((k / 10 : Nat) : Int)) = ((48 + k / 10 : Nat) : Int) from by simp, show (48 + ((k % 10 : Nat) : Int)) = ((48 + k % 10 : Nat) : Int) from by simp, byte_nat (by omega), byte_nat (by omega)]
  rfl
theorem names_ok : ((List.range 100).all fun k => namedB (nm k)) = true := by kernel_rfl
theorem order_ok : ((List.range 100).all fun j => (List.range j).all fun i => blt (nm i) (nm j)) = true := by kernel_rfl
theorem named_nm {k : Nat} (hk : k < 100) : namedB (nm k) = true := List.all_eq_true.1 names_ok k (List.mem_range.2 hk)
theorem nm_lt {i j : Nat} (h : i < j) (hj : j < 100) : blt (nm i) (nm j) = true := List.all_eq_true.1 (List.all_eq_true.1 order_ok j (List.mem_range.2 hj)) i (List.mem_range.2 h)
theorem nm_inj {i j : Nat} (hi : i < 100) (hj : j < 100) (h : nm i = nm j) : i = j := by
  rcases Nat.lt_trichotomy i j with h1 | h1 | h1
  · exact absurd h (blt_ne (nm_lt h1 hj))
  · exact h1
  · exact absurd h.symm (blt_ne (nm_lt h1 hi))
def entsK (k : Nat) : List Ent := (List.range k).map fun i => (nm i, (i : Int) + 4)
def dirK (k : Nat) : Ino := (2, 1, true, true, 0, [], 1, entsK k)
def rootK : Ino := (1, 1, true, true, 0, [], 1, [([100], 2), ([120], 3)])
def fileX : Ino := (3, 1, true, false, 0, [], 1, [])
def fileK (i : Nat) : Ino := ((i : Int) + 4, 1, true, false, 0, [], 2, [])
def TK (k : Nat) : Tree := (rootK :: dirK k :: fileX :: (List.range k).map fileK, 0)
theorem entsK_mem {k : Nat} {e : Ent} : e ∈ entsK k ↔ ∃ i, i < k ∧ e = (nm i, (i : Int) + 4) := by
  unfold entsK
  rw [List.mem_map]
  constructor
  · rintro ⟨i, hi, rfl⟩; exact ⟨i, List.mem_range.1 hi, rfl⟩
  · rintro ⟨i, hi, rfl⟩; exact ⟨i, List.mem_range.2 hi, rfl⟩
theorem entsK_len (k : Nat) : (entsK k).length = k := by simp [entsK]
theorem isD2 (k : Nat) : IsD (TK k).1 (2, 1) (dirK k) := ⟨⟨by decide, rfl, rfl, rfl⟩, rfl⟩
theorem isD1 (k : Nat) : IsD (TK k).1 (1, 1) rootK := ⟨⟨by decide, rfl, rfl, rfl⟩, rfl⟩
theorem at_file {k i : Nat} (h : i < k) : (TK k).1[((i : Int) + 4 - 1).toNat]? = some (fileK i) := by
  rw [show ((i : Int) + 4 - 1).toNat = i + 3 from by omega]
  show ((List.range k).map fileK)[i]? = _
  rw [List.getElem?_map, List.getElem?_range h]
  rfl
theorem all_used (k : Nat) : freeAt (TK k).1 = none := by
  unfold freeAt
  refine List.findIdx?_eq_none_iff.2 fun x hx => ?_
  unfold TK at hx
  simp only [List.mem_cons, List.mem_map] at hx
  rcases hx with rfl | rfl | rfl | ⟨i, _, rfl⟩ <;> rfl
theorem has_nm {k j : Nat} (hj : j < 100) (hk : k ≤ 100) : hasN (entsK k) (nm j) = decide (j < k) := by
  rw [Bool.eq_iff_iff, hasN_iff, decide_eq_true_eq]
  constructor
  · rintro ⟨id, h⟩
    obtain ⟨i, hi, he⟩ := entsK_mem.1 h
    injection he with h1 _
    rw [nm_inj hj (by omega) h1]; exact hi
  · intro h; exact ⟨_, entsK_mem.2 ⟨j, h, rfl⟩⟩
theorem has_other {k : Nat} {s : List UInt8} (hs : s.length ≠ 3) : hasN (entsK k) s = false := by
  cases hh : hasN (entsK k) s with
  | false => rfl
  | true =>
    obtain ⟨id, h⟩ := hasN_iff.1 hh
    obtain ⟨i, _, he⟩ := entsK_mem.1 h
    injection he with h1 _
    rw [h1] at hs; exact absurd rfl hs
theorem make_step {k : Nat} (hk : k < 100) (hT : TreeOK (TK k)) : makeF (TK k) (2, 1) (nm k) false = (TK (k + 1), ((k : Int) + 4, 1), 0) := by
  have hS : Srt (entsK k) := hT.srt (isD2 k).1
  have hins : insE (entsK k) (nm k) ((k : Int) + 4) = entsK (k + 1) := by
    have hp : pos (entsK k) (nm k) = (entsK k).length := by
      have h1 := pos_le (entsK k) (nm k)
      by_cases h2 : pos (entsK k) (nm k) < (entsK k).length
      · obtain ⟨e, he⟩ : ∃ e, (entsK k)[pos (entsK k) (nm k)]? = some e := ⟨_, List.getElem?_eq_getElem h2⟩
        obtain ⟨i, hi, hei⟩ := entsK_mem.1 (List.mem_of_getElem? he)
        have := (lt_pos (s := nm k) hS _ e he).2 (by rw [hei]; exact nm_lt hi hk)
        omega
      · omega
    unfold insE
    rw [hp, List.take_length, List.drop_length, List.append_nil]
    unfold entsK
    rw [List.range_succ, List.map_append]
    rfl
  unfold makeF
  rw [if_pos (dirE_some (isD2 k)), if_pos (named_nm hk), show (TK k).1[((2 : Int) - 1).toNat]? = some (dirK k) from rfl]
  simp only
  rw [show (dirK k).2.2.2.2.2.2.2 = entsK k from rfl, has_nm hk (by omega), decide_eq_false (Nat.lt_irrefl _), if_neg (by simp), entsK_len, if_neg (by omega)]
  have hl : (TK k).1.length = k + 3 := by simp [TK]
  have ha : allocF (TK k).1 false 2 = some ((TK k).1 ++ [fileK k], k + 3, 1) := by
    unfold allocF
    rw [all_used]
    simp only
    rw [if_pos (by omega), hl, show (((k + 3 : Nat) : Int) + 1) = (k : Int) + 4 from by omega]
    rfl
  rw [ha]
  simp only
  have hput : putL ((TK k).1 ++ [fileK k]) 2 (nm k) (((k + 3 : Nat) : Int) + 1) = (TK (k + 1)).1 := by
    unfold putL
    rw [show (((k + 3 : Nat) : Int) + 1) = (k : Int) + 4 from by omega, modL_some (n := dirK k) _ rfl]
    rw [show (dirK k).2.2.2.2.2.2.2 = entsK k from rfl, hins]
    show rootK :: dirK (k + 1) :: fileX :: ((List.range k).map fileK ++ [fileK k]) = _
    unfold TK
    rw [List.range_succ, List.map_append]
    rfl
  rw [hput, show (((k + 3 : Nat) : Int) + 1) = (k : Int) + 4 from by omega]
  rfl
def oneMore : List UInt8 := [111, 110, 101, 32, 109, 111, 114, 101]
def anotherN : List UInt8 := [97, 110, 111, 116, 104, 101, 114]
theorem t0d : makeF T0 (1, 1) [100] true = (([(1, 1, true, true, 0, [], 1, [([100], 2)]), (2, 1, true, true, 0, [], 1, [])], 0), (2, 1), 0) := by kernel_rfl
theorem t0x : makeF ([(1, 1, true, true, 0, [], 1, [([100], 2)]), (2, 1, true, true, 0, [], 1, [])], 0) (1, 1) [120] false = (TK 0, (3, 1), 0) := by kernel_rfl
theorem one_named : namedB oneMore = true := by kernel_rfl
theorem another_named : namedB anotherN = true := by kernel_rfl
theorem x_named : namedB [120] = true := by kernel_rfl
theorem many_loop (h0 : TreeOK (TK 0)) : ∃ o, law19_TreeMany_l0_it fuel (0, ((TK 0).1, ((TK 0).2, ((2 : Int), (1 : Int))))) = some o ∧ (o = .inl ((TK 100).1, ((TK 100).2, (2, 1))) ∧ TreeOK (TK 100)) := by
  unfold law19_TreeMany_l0_it
  refine iter_ex (fun n s => ∃ k : Nat, s = ((k : Int), ((TK k).1, ((TK k).2, ((2 : Int), (1 : Int))))) ∧ k + n = 100 ∧ TreeOK (TK k)) _ (fun n s hI => ?_) (fun s hI => ?_) 100 _ (by omega) ⟨0, rfl, rfl, h0⟩
  · obtain ⟨k, rfl, hk, hT⟩ := hI
    left
    have hk' : k < 100 := by omega
    obtain ⟨hm, hT'⟩ := make_eq hT (2, 1) (nm k) false
    rw [make_step hk' hT] at hm hT'
    refine ⟨_, ?_, k + 1, rfl, by omega, hT'⟩
    show law19_TreeMany_l0 fuel (k : Int) (TK k).1 (TK k).2 2 1 = _
    unfold law19_TreeMany_l0
    rw [decide_eq_true (show (k : Int) < 100 by omega)]
    simp only [cond_true]
    rw [nm_ok hk', Option.bind_some, show (((TK k).1, (TK k).2) : Tree) = TK k from rfl, hm, Option.bind_some, w64 (by omega)]
    rfl
  · obtain ⟨k, rfl, hk, hT⟩ := hI
    have : k = 100 := by omega
    subst this
    refine ⟨_, ?_, rfl, hT⟩
    show law19_TreeMany_l0 fuel ((100 : Nat) : Int) (TK 100).1 (TK 100).2 2 1 = _
    unfold law19_TreeMany_l0
    rfl
theorem find_nm {k w : Nat} (hk : k ≤ 100) (hw : w < k) (hS : Srt (entsK k)) : findE (entsK k) (nm w) = some ((w : Int) + 4) := findE_some hS (entsK_mem.2 ⟨w, hw, rfl⟩)
section
variable {N : Nat}
theorem full_make (hN : N = 100) : makeF (TK N) (2, 1) oneMore false = (TK N, (0, 0), 5) := by
  unfold makeF
  rw [if_pos (dirE_some (isD2 N)), if_pos one_named, show (TK N).1[((2 : Int) - 1).toNat]? = some (dirK N) from rfl]
  simp only
  rw [show (dirK N).2.2.2.2.2.2.2 = entsK N from rfl, has_other (by decide), if_neg (by simp), entsK_len, if_pos (by omega)]
theorem full_rename (hN : N = 100) : renameF (TK N) (1, 1) [120] (2, 1) oneMore = (TK N, [], 5) := by
  unfold renameF
  rw [if_pos (dirE_some (isD1 N)), if_pos (dirE_some (isD2 N)), if_pos (by rw [x_named, one_named]; rfl), show (TK N).1[((2 : Int) - 1).toNat]? = some (dirK N) from rfl, show (TK N).1[((1 : Int) - 1).toNat]? = some rootK from rfl]
  simp only
  rw [show findE rootK.2.2.2.2.2.2.2 [120] = some 3 from rfl]
  simp only
  rw [show (TK N).1[((3 : Int) - 1).toNat]? = some fileX from rfl]
  simp only
  rw [if_neg (by simp [fileX]), show (dirK N).2.2.2.2.2.2.2 = entsK N from rfl, findE_none (has_other (by decide)), entsK_len]
  exact if_pos ⟨by decide, by omega⟩
theorem within (hN : N = 100) (hT : TreeOK (TK N)) {w : Nat} (hw : w < N) : renameF (TK N) (2, 1) (nm w) (2, 1) anotherN = ((mvL (TK N).1 2 (nm w) 2 anotherN ((w : Int) + 4), (TK N).2), [], 0) := by
  have hS : Srt (entsK N) := hT.srt (isD2 N).1
  unfold renameF
  rw [if_pos (dirE_some (isD2 N)), if_pos (dirE_some (isD2 N)), if_pos (by rw [named_nm (by omega), another_named]; rfl), show (TK N).1[((2 : Int) - 1).toNat]? = some (dirK N) from rfl]
  simp only
  rw [show (dirK N).2.2.2.2.2.2.2 = entsK N from rfl, find_nm (by omega) hw hS]
  simp only
  rw [at_file hw]
  simp only
  rw [if_neg (by simp [fileK]), findE_none (has_other (by decide))]
  exact if_neg (fun h => h.1 rfl)
theorem over_one (hN : N = 100) (hT : TreeOK (TK N)) {w : Nat} (hw : w < N) : ∃ Z gone, renameF (TK N) (1, 1) [120] (2, 1) (nm w) = (Z, gone, 0) := by
  have hS : Srt (entsK N) := hT.srt (isD2 N).1
  unfold renameF
  rw [if_pos (dirE_some (isD1 N)), if_pos (dirE_some (isD2 N)), if_pos (by rw [x_named, named_nm (by omega)]; rfl), show (TK N).1[((2 : Int) - 1).toNat]? = some (dirK N) from rfl, show (TK N).1[((1 : Int) - 1).toNat]? = some rootK from rfl]
  simp only
  rw [show findE rootK.2.2.2.2.2.2.2 [120] = some 3 from rfl]
  simp only
  rw [show (TK N).1[((3 : Int) - 1).toNat]? = some fileX from rfl]
  simp only
  rw [if_neg (by simp [fileX]), show (dirK N).2.2.2.2.2.2.2 = entsK N from rfl, find_nm (by omega) hw hS]
  simp only
  rw [if_neg (by omega), at_file hw]
  exact ⟨_, _, if_pos rfl⟩
theorem listed (hN : N = 100) (hT : TreeOK (TK N)) {w : Nat} (hw : w < N) (hY : TreeOK (mvL (TK N).1 2 (nm w) 2 anotherN ((w : Int) + 4), (TK N).2)) :
    ∃ r, tree_List fuel (mvL (TK N).1 2 (nm w) 2 anotherN ((w : Int) + 4), (TK N).2) (2, 1) [] 4096 = some (false, 0, (anotherN, (w : Int) + 4) :: r) ∧ r.length = 99 := by
  have hS : Srt (entsK N) := hT.srt (isD2 N).1
  have hdl := delE_len hS (entsK_mem.2 ⟨w, hw, rfl⟩)
  rw [entsK_len] at hdl
  have hp : pos (delE (entsK N) (nm w)) anotherN = 0 := by
    unfold pos
    cases hd : delE (entsK N) (nm w) with
    | nil => rfl
    | cons e r =>
      rw [List.takeWhile_cons]
      have he : e ∈ delE (entsK N) (nm w) := by rw [hd]; simp
      obtain ⟨i, _, hei⟩ := entsK_mem.1 (mem_delE.1 he).1
      have : blt e.1 anotherN = false := by rw [hei]; rfl
      rw [this]
      rfl
  have hins : insE (delE (entsK N) (nm w)) anotherN ((w : Int) + 4) = (anotherN, (w : Int) + 4) :: delE (entsK N) (nm w) := by
    unfold insE
    rw [hp]
    rfl
  have hD : IsD (mvL (TK N).1 2 (nm w) 2 anotherN ((w : Int) + 4)) (2, 1) (wE (dirK N) (insE (delE (entsK N) (nm w)) anotherN ((w : Int) + 4))) := by
    refine ⟨⟨by decide, ?_, rfl, rfl⟩, rfl⟩
    unfold mvL parL putL takeL
    rw [modL_get, if_neg (by simp; omega), modL_get, if_pos rfl, modL_get, if_pos rfl, show (TK N).1[((2 : Int) - 1).toNat]? = some (dirK N) from rfl]
    rfl
  have := list_some hY [] (most := 4096) hD (Nat.le_refl _)
  have hen : (wE (dirK N) (insE (delE (entsK N) (nm w)) anotherN ((w : Int) + 4))).2.2.2.2.2.2.2 = (anotherN, (w : Int) + 4) :: delE (entsK N) (nm w) := hins
  rw [hen, behind_nil (fun e he => (hY.ents_ok hD.1.2.1 e (by rw [hen]; exact he)).1)] at this
  refine ⟨delE (entsK N) (nm w), ?_, by omega⟩
  rw [show (4096 : Int) = ((4096 : Nat) : Int) from rfl, this, List.take_of_length_le (by simp; omega)]
  congr 2
  rw [decide_eq_false]
  simp
  omega
end
theorem law19_TreeMany_true (which : Int) (k0 : OkV (.int .u8) which) : law19_TreeMany fuel which = some true := by
  have h : IntKind.u8.min ≤ which ∧ which ≤ IntKind.u8.max := k0
  have h0 : IntKind.u8.min = 0 := rfl
  have h2 : IntKind.u8.max = 255 := rfl
  rw [h0, h2] at h
  have hm1 := Int.tmod_lt_of_pos which (show (0 : Int) < 100 by omega)
  have hm0 := Int.tmod_nonneg 100 h.1
  obtain ⟨w, hw⟩ : ∃ w : Nat, Int.tmod which 100 = (w : Int) := ⟨(Int.tmod which 100).toNat, by omega⟩
  have hw' : w < 100 := by omega
  obtain ⟨m1, k1⟩ := make_eq (t := T0) new_ok (1, 1) [100] true
  rw [t0d] at m1 k1
  obtain ⟨m2, k2⟩ := make_eq k1 (1, 1) [120] false
  rw [t0x] at m2 k2
  obtain ⟨o, ho, hq, hT⟩ := many_loop k2
  obtain ⟨N, hN⟩ : ∃ N, N = 100 := ⟨100, rfl⟩
  rw [← hN] at hq hT hw'
  obtain ⟨m3, _⟩ := make_eq hT (2, 1) oneMore false
  rw [full_make hN] at m3
  obtain ⟨m4, _⟩ := rename_eq hT (1, 1) [120] (2, 1) oneMore
  rw [full_rename hN] at m4
  obtain ⟨m5, k5⟩ := rename_eq hT (2, 1) (nm w) (2, 1) anotherN
  rw [within hN hT hw'] at m5 k5
  obtain ⟨m6, k6⟩ := rename_eq hT (1, 1) [120] (2, 1) (nm w)
  obtain ⟨Z, gone, hZ⟩ := over_one hN hT hw'
  rw [hZ] at m6 k6
  obtain ⟨r, hr, hrl⟩ := listed hN hT hw' k5
  unfold law19_TreeMany
  rw [show inode_New fuel = some (T0.2, T0.1) from rfl, Option.bind_some, show law19_root fuel = some (1, 1) from rfl]
  simp only [Option.bind_some]
  rw [show ((T0.1, T0.2) : Tree) = T0 from rfl, m1, Option.bind_some]
  simp only
  rw [m2, Option.bind_some]
  simp only [beq_self_eq_true, Bool.not_true, cond_false, Option.bind_some]
  rw [ho, hq, Option.bind_some]
  simp only
  rw [show (((TK N).1, (TK N).2) : Tree) = TK N from rfl, show tree_Make fuel (TK N) (2, 1) [111, 110, 101, 32, 109, 111, 114, 101] false = _ from m3, Option.bind_some, show tRen fuel (TK N) (1, 1) [120] (2, 1) [111, 110, 101, 32, 109, 111, 114, 101] = _ from m4, Option.bind_some,
    w64 (by omega), hw, nm_ok (by omega), Option.bind_some, show tRen fuel (TK N) (2, 1) (nm w) (2, 1) [97, 110, 111, 116, 104, 101, 114] = _ from m5, Option.bind_some, Option.bind_some, m6, Option.bind_some]
  simp only
  rw [hr, Option.bind_some]
  simp only [beq_self_eq_true, cond_true]
  rw [right_true k5, Option.bind_some]
  simp only [cond_true]
  rw [show ((Z.1, Z.2) : Tree) = Z from rfl, right_true k6, Option.bind_some]
  simp only [cond_true, List.length_cons, hrl]
  rw [show ((((99 + 1 : Nat) : Int)) == 100) = true from rfl]
  simp only [cond_true, Bool.not_false]
  rw [show idx? 0 (99 + 1) = some 0 from rfl]
  simp only [Option.bind_some]
  rw [show ((anotherN, (w : Int) + 4) :: r)[0]? = some (anotherN, (w : Int) + 4) from rfl, Option.bind_some, show (anotherN == [97, 110, 111, 116, 104, 101, 114]) = true from rfl]
  simp only [cond_true]
  rw [awakeU, Option.bind_some]
end Go.Ab.D
