/- What the functions compute; the plain law. -/
import Derived.Test.YtceedhbmmlcckaaTreeListsQ1
import Derived.KernelRfl
set_option linter.all false
namespace Go.Ab.D
open Go Go.Ab
section
variable {t : Tree} {a b : Int × Int} {na nb x z : Ino} {old name : List UInt8} {id other : Int}
theorem rename_dir1 (h : TreeOK t) (hb : dirE t.1 a ≠ 0) : tRen fuel t a old b name = some (t.1, (t.2, ([], dirE t.1 a))) := by
  unfold tRen
  rw [show ((t.1, t.2) : Tree) = t from rfl, show ((a.1, a.2) : Int × Int) = a from rfl, show ((b.1, b.2) : Int × Int) = b from rfl, asked2_bad1 h hb, Option.bind_some]
  simp only [beq_eq_false_iff_ne.2 hb, Bool.not_false, cond_true]
  rw [tcopied_ok h.r.fit, Option.bind_some]
theorem rename_dir2 (h : TreeOK t) (ha : IsD t.1 a na) (hb : dirE t.1 b ≠ 0) : tRen fuel t a old b name = some (t.1, (t.2, ([], dirE t.1 b))) := by
  unfold tRen
  rw [show ((t.1, t.2) : Tree) = t from rfl, show ((a.1, a.2) : Int × Int) = a from rfl, show ((b.1, b.2) : Int × Int) = b from rfl, asked2_bad2 h ha hb, Option.bind_some]
  simp only [beq_eq_false_iff_ne.2 hb, Bool.not_false, cond_true]
  rw [tcopied_ok h.r.fit, Option.bind_some]
theorem rename_name (h : TreeOK t) (ha : IsD t.1 a na) (hb : IsD t.1 b nb) (hs : (namedB old && namedB name) = false) : tRen fuel t a old b name = some (t.1, (t.2, ([], 176))) := by
  unfold tRen
  rw [show ((t.1, t.2) : Tree) = t from rfl, show ((a.1, a.2) : Int × Int) = a from rfl, show ((b.1, b.2) : Int × Int) = b from rfl, asked2_some h ha hb, Option.bind_some]
  simp only [beq_self_eq_true, Bool.not_true, cond_false]
  rw [named_ok, Option.bind_some]
  cases h1 : namedB old with
  | false =>
    simp only [Bool.not_false, cond_true, Option.bind_some]
    rw [show ((t.1, t.2) : Tree) = t from rfl, tcopied_ok h.r.fit, Option.bind_some]
  | true =>
    rw [h1, Bool.true_and] at hs
    simp only [Bool.not_true, cond_false]
    rw [named_ok, Option.bind_some, hs]
    simp only [Bool.not_false, cond_true, Option.bind_some]
    rw [show ((t.1, t.2) : Tree) = t from rfl, tcopied_ok h.r.fit, Option.bind_some]
theorem rename_none (h : TreeOK t) (ha : IsD t.1 a na) (hb : IsD t.1 b nb) (h1 : namedB old = true) (hs : namedB name = true) (hh : hasN na.2.2.2.2.2.2.2 old = false) : tRen fuel t a old b name = some (t.1, (t.2, ([], 171))) := by
  unfold tRen
  rw [show ((t.1, t.2) : Tree) = t from rfl, show ((a.1, a.2) : Int × Int) = a from rfl, show ((b.1, b.2) : Int × Int) = b from rfl, asked2_some h ha hb, Option.bind_some]
  simp only [beq_self_eq_true, Bool.not_true, cond_false]
  rw [named_ok, Option.bind_some, h1]
  simp only [Bool.not_true, cond_false]
  rw [named_ok, Option.bind_some, hs]
  simp only [Bool.not_true, cond_false, Option.bind_some]
  rw [show idx? 0 [na, nb].length = some 0 from rfl, Option.bind_some, show [na, nb][0]? = some na from rfl, Option.bind_some, h.ent_ok ha, Option.bind_some, hh]
  simp only [Bool.not_false, cond_true]
  rw [show ((t.1, t.2) : Tree) = t from rfl, tcopied_ok h.r.fit, Option.bind_some]
theorem rename_loop (h : TreeOK t) (ha : IsD t.1 a na) (hb : IsD t.1 b nb) (hs : namedB name = true) (hea : (old, id) ∈ na.2.2.2.2.2.2.2) (hx : t.1[(id - 1).toNat]? = some x) (hd : x.2.2.2.1 = true) (hanc : Anc t.1 id b.1) : tRen fuel t a old b name = some (t.1, (t.2, ([], 178))) := by
  obtain ⟨g1, g2, g3, y, g4, g5, g6⟩ := h.ent ha hea
  rw [hx] at g4; cases g4
  have hlen := h.r.len
  have hpa := pos_at (h.srt ha.1) hea
  have hpal := (List.getElem?_eq_some_iff.1 hpa).1
  unfold tRen
  rw [show ((t.1, t.2) : Tree) = t from rfl, show ((a.1, a.2) : Int × Int) = a from rfl, show ((b.1, b.2) : Int × Int) = b from rfl, asked2_some h ha hb, Option.bind_some]
  simp only [beq_self_eq_true, Bool.not_true, cond_false]
  rw [named_ok, Option.bind_some, g1]
  simp only [Bool.not_true, cond_false]
  rw [named_ok, Option.bind_some, hs]
  simp only [Bool.not_true, cond_false, Option.bind_some]
  rw [show idx? 0 [na, nb].length = some 0 from rfl, Option.bind_some, show [na, nb][0]? = some na from rfl, Option.bind_some, h.ent_ok ha, Option.bind_some, hasN_iff.2 ⟨id, hea⟩]
  simp only [Bool.not_true, cond_false, Option.bind_some]
  rw [show [na, nb][0]? = some na from rfl, Option.bind_some, idx_nat hpal, Option.bind_some, hpa, Option.bind_some, w64 (by omega), idx_int (by omega) (by omega), Option.bind_some, hx, Option.bind_some]
  rw [hd]
  simp only [cond_true]
  obtain ⟨r, hr, hq⟩ := below_ok h hb id
  rw [show ((t.1, t.2) : Tree) = t from rfl, hr, hq.2 hanc, Option.bind_some, Option.bind_some]
  simp only [cond_true]
  rw [show ((t.1, t.2) : Tree) = t from rfl, tcopied_ok h.r.fit, Option.bind_some]
theorem rename_same (h : TreeOK t) (ha : IsD t.1 a na) (hb : IsD t.1 b nb) (hs : namedB name = true) (hea : (old, id) ∈ na.2.2.2.2.2.2.2) (hx : t.1[(id - 1).toNat]? = some x) (hanc : x.2.2.2.1 = true → ¬ Anc t.1 id b.1) (heb : (name, id) ∈ nb.2.2.2.2.2.2.2) : tRen fuel t a old b name = some (t.1, (t.2, ([], 0))) := by
  obtain ⟨g1, g2, g3, y, g4, g5, g6⟩ := h.ent ha hea
  rw [hx] at g4; cases g4
  have hlen := h.r.len
  have hpa := pos_at (h.srt ha.1) hea
  have hpal := (List.getElem?_eq_some_iff.1 hpa).1
  unfold tRen
  rw [show ((t.1, t.2) : Tree) = t from rfl, show ((a.1, a.2) : Int × Int) = a from rfl, show ((b.1, b.2) : Int × Int) = b from rfl, asked2_some h ha hb, Option.bind_some]
  simp only [beq_self_eq_true, Bool.not_true, cond_false]
  rw [named_ok, Option.bind_some, g1]
  simp only [Bool.not_true, cond_false]
  rw [named_ok, Option.bind_some, hs]
  simp only [Bool.not_true, cond_false, Option.bind_some]
  rw [show idx? 0 [na, nb].length = some 0 from rfl, Option.bind_some, show [na, nb][0]? = some na from rfl, Option.bind_some, h.ent_ok ha, Option.bind_some, hasN_iff.2 ⟨id, hea⟩]
  simp only [Bool.not_true, cond_false, Option.bind_some]
  rw [show [na, nb][0]? = some na from rfl, Option.bind_some, idx_nat hpal, Option.bind_some, hpa, Option.bind_some, w64 (by omega), idx_int (by omega) (by omega), Option.bind_some, hx, Option.bind_some]
  have hbel : (bif x.2.2.2.1 then (tbel fuel (t.1, t.2) b.1 id).bind fun r11 => some (r11, (t.1, (t.2, (a.1, (a.2, (b.1, (b.2, ((0 : Int), [na, nb]))))))))
      else some (false, (t.1, (t.2, (a.1, (a.2, (b.1, (b.2, (0, [na, nb]))))))))) = some (false, (t.1, (t.2, (a.1, (a.2, (b.1, (b.2, (0, [na, nb])))))))) := by
    cases hd : x.2.2.2.1 with
    | false => rfl
    | true =>
      simp only [cond_true]
      obtain ⟨r, hr, hq⟩ := below_ok h hb id
      have : r = false := by
        cases r with
        | false => rfl
        | true => exact absurd (hq.1 rfl) (hanc hd)
      rw [show ((t.1, t.2) : Tree) = t from rfl, hr, this]
      rfl
  rw [hbel, Option.bind_some]
  simp only [cond_false]
  obtain ⟨rows, ms, hc, hF⟩ := copiedE_ok h.r.fit
  rw [show idx? 1 [na, nb].length = some 1 from rfl, Option.bind_some, show [na, nb][1]? = some nb from rfl, Option.bind_some, h.ent_ok hb, Option.bind_some, show ((t.1, t.2) : Tree) = t from rfl, hc, Option.bind_some]
  have hpb := pos_at (h.srt hb.1) heb
  have hpbl := (List.getElem?_eq_some_iff.1 hpb).1
  simp only [hasN_iff.2 ⟨_, heb⟩, cond_true]
  rw [Option.bind_some, show [na, nb][1]? = some nb from rfl, Option.bind_some, idx_nat hpbl, Option.bind_some, hpb, Option.bind_some, Option.bind_some]
  simp only [beq_self_eq_true, cond_true]
  erw [bind_of hF.pure1]
theorem rename_mis (h : TreeOK t) (ha : IsD t.1 a na) (hb : IsD t.1 b nb) (hs : namedB name = true) (hea : (old, id) ∈ na.2.2.2.2.2.2.2) (hx : t.1[(id - 1).toNat]? = some x) (hanc : x.2.2.2.1 = true → ¬ Anc t.1 id b.1) (heb : (name, other) ∈ nb.2.2.2.2.2.2.2) (hne : other ≠ id) (hz : t.1[(other - 1).toNat]? = some z) (hm : misE x.2.2.2.1 z ≠ 0) : tRen fuel t a old b name = some (t.1, (t.2, ([], misE x.2.2.2.1 z))) := by
  obtain ⟨g1, g2, g3, y, g4, g5, g6⟩ := h.ent ha hea
  rw [hx] at g4; cases g4
  have hlen := h.r.len
  have hpa := pos_at (h.srt ha.1) hea
  have hpal := (List.getElem?_eq_some_iff.1 hpa).1
  unfold tRen
  rw [show ((t.1, t.2) : Tree) = t from rfl, show ((a.1, a.2) : Int × Int) = a from rfl, show ((b.1, b.2) : Int × Int) = b from rfl, asked2_some h ha hb, Option.bind_some]
  simp only [beq_self_eq_true, Bool.not_true, cond_false]
  rw [named_ok, Option.bind_some, g1]
  simp only [Bool.not_true, cond_false]
  rw [named_ok, Option.bind_some, hs]
  simp only [Bool.not_true, cond_false, Option.bind_some]
  rw [show idx? 0 [na, nb].length = some 0 from rfl, Option.bind_some, show [na, nb][0]? = some na from rfl, Option.bind_some, h.ent_ok ha, Option.bind_some, hasN_iff.2 ⟨id, hea⟩]
  simp only [Bool.not_true, cond_false, Option.bind_some]
  rw [show [na, nb][0]? = some na from rfl, Option.bind_some, idx_nat hpal, Option.bind_some, hpa, Option.bind_some, w64 (by omega), idx_int (by omega) (by omega), Option.bind_some, hx, Option.bind_some]
  have hbel : (bif x.2.2.2.1 then (tbel fuel (t.1, t.2) b.1 id).bind fun r11 => some (r11, (t.1, (t.2, (a.1, (a.2, (b.1, (b.2, ((0 : Int), [na, nb]))))))))
      else some (false, (t.1, (t.2, (a.1, (a.2, (b.1, (b.2, (0, [na, nb]))))))))) = some (false, (t.1, (t.2, (a.1, (a.2, (b.1, (b.2, (0, [na, nb])))))))) := by
    cases hd : x.2.2.2.1 with
    | false => rfl
    | true =>
      simp only [cond_true]
      obtain ⟨r, hr, hq⟩ := below_ok h hb id
      have : r = false := by
        cases r with
        | false => rfl
        | true => exact absurd (hq.1 rfl) (hanc hd)
      rw [show ((t.1, t.2) : Tree) = t from rfl, hr, this]
      rfl
  rw [hbel, Option.bind_some]
  simp only [cond_false]
  obtain ⟨rows, ms, hc, hF⟩ := copiedE_ok h.r.fit
  rw [show idx? 1 [na, nb].length = some 1 from rfl, Option.bind_some, show [na, nb][1]? = some nb from rfl, Option.bind_some, h.ent_ok hb, Option.bind_some, show ((t.1, t.2) : Tree) = t from rfl, hc, Option.bind_some]
  obtain ⟨q1, q2, q3, z', q4, q5, q6⟩ := h.ent hb heb
  rw [hz] at q4; cases q4
  have hpb := pos_at (h.srt hb.1) heb
  have hpbl := (List.getElem?_eq_some_iff.1 hpb).1
  simp only [hasN_iff.2 ⟨_, heb⟩, cond_true]
  rw [Option.bind_some, show [na, nb][1]? = some nb from rfl, Option.bind_some, idx_nat hpbl, Option.bind_some, hpb, Option.bind_some, Option.bind_some]
  simp only [beq_eq_false_iff_ne.2 hne, cond_false]
  rw [show idx? 1 [na, nb].length = some 1 from rfl, Option.bind_some, show [na, nb][1]? = some nb from rfl, Option.bind_some, idx_nat hpbl, Option.bind_some, hpb, Option.bind_some, w64 (by omega), idx_int (by omega) (by omega), Option.bind_some, hz, Option.bind_some, mismatch_ok, Option.bind_some]
  simp only [beq_eq_false_iff_ne.2 hm, Bool.not_false, cond_true]
  erw [bind_of hF.pure1]
theorem rename_full (h : TreeOK t) (ha : IsD t.1 a na) (hb : IsD t.1 b nb) (hs : namedB name = true) (hea : (old, id) ∈ na.2.2.2.2.2.2.2) (hx : t.1[(id - 1).toNat]? = some x) (hanc : x.2.2.2.1 = true → ¬ Anc t.1 id b.1) (hno : hasN nb.2.2.2.2.2.2.2 name = false) (hab : a.1 ≠ b.1) (hl : 100 ≤ nb.2.2.2.2.2.2.2.length) : tRen fuel t a old b name = some (t.1, (t.2, ([], 5))) := by
  obtain ⟨g1, g2, g3, y, g4, g5, g6⟩ := h.ent ha hea
  rw [hx] at g4; cases g4
  have hlen := h.r.len
  have hpa := pos_at (h.srt ha.1) hea
  have hpal := (List.getElem?_eq_some_iff.1 hpa).1
  unfold tRen
  rw [show ((t.1, t.2) : Tree) = t from rfl, show ((a.1, a.2) : Int × Int) = a from rfl, show ((b.1, b.2) : Int × Int) = b from rfl, asked2_some h ha hb, Option.bind_some]
  simp only [beq_self_eq_true, Bool.not_true, cond_false]
  rw [named_ok, Option.bind_some, g1]
  simp only [Bool.not_true, cond_false]
  rw [named_ok, Option.bind_some, hs]
  simp only [Bool.not_true, cond_false, Option.bind_some]
  rw [show idx? 0 [na, nb].length = some 0 from rfl, Option.bind_some, show [na, nb][0]? = some na from rfl, Option.bind_some, h.ent_ok ha, Option.bind_some, hasN_iff.2 ⟨id, hea⟩]
  simp only [Bool.not_true, cond_false, Option.bind_some]
  rw [show [na, nb][0]? = some na from rfl, Option.bind_some, idx_nat hpal, Option.bind_some, hpa, Option.bind_some, w64 (by omega), idx_int (by omega) (by omega), Option.bind_some, hx, Option.bind_some]
  have hbel : (bif x.2.2.2.1 then (tbel fuel (t.1, t.2) b.1 id).bind fun r11 => some (r11, (t.1, (t.2, (a.1, (a.2, (b.1, (b.2, ((0 : Int), [na, nb]))))))))
      else some (false, (t.1, (t.2, (a.1, (a.2, (b.1, (b.2, (0, [na, nb]))))))))) = some (false, (t.1, (t.2, (a.1, (a.2, (b.1, (b.2, (0, [na, nb])))))))) := by
    cases hd : x.2.2.2.1 with
    | false => rfl
    | true =>
      simp only [cond_true]
      obtain ⟨r, hr, hq⟩ := below_ok h hb id
      have : r = false := by
        cases r with
        | false => rfl
        | true => exact absurd (hq.1 rfl) (hanc hd)
      rw [show ((t.1, t.2) : Tree) = t from rfl, hr, this]
      rfl
  rw [hbel, Option.bind_some]
  simp only [cond_false]
  obtain ⟨rows, ms, hc, hF⟩ := copiedE_ok h.r.fit
  rw [show idx? 1 [na, nb].length = some 1 from rfl, Option.bind_some, show [na, nb][1]? = some nb from rfl, Option.bind_some, h.ent_ok hb, Option.bind_some, show ((t.1, t.2) : Tree) = t from rfl, hc, Option.bind_some]
  simp only [hno, cond_false, Option.bind_some, beq_eq_false_iff_ne.2 hab, Bool.not_false, cond_true]
  rw [show idx? 1 [na, nb].length = some 1 from rfl, Option.bind_some, show [na, nb][1]? = some nb from rfl, Option.bind_some, Option.bind_some, decide_eq_true (show ((nb.2.2.2.2.2.2.2.length : Nat) : Int) ≥ 100 by omega)]
  simp only [cond_true]
  erw [bind_of hF.pure1]
theorem mv_parts (h : TreeOK t) (m : MvOk t a old b name id na nb x) : ∃ b1 x1, (takeL t.1 a.1 old)[(b.1 - 1).toNat]? = some b1 ∧ Srt b1.2.2.2.2.2.2.2 ∧ b1.2.2.2.2.2.2.2.length ≤ 100 ∧ (putL (takeL t.1 a.1 old) b.1 name id)[(id - 1).toNat]? = some x1 := by
  obtain ⟨k1, k2, hid2, hidl, hxu, hxp⟩ := m.ne h
  have hfa := h.few m.da.1
  have hfb := h.few m.db.1
  have hb1 : ∃ b1, (takeL t.1 a.1 old)[(b.1 - 1).toNat]? = some b1 ∧ Srt b1.2.2.2.2.2.2.2 ∧ b1.2.2.2.2.2.2.2.length ≤ 100 := by
    unfold takeL
    rw [modL_get, m.db.1.2.1]
    split
    · refine ⟨_, rfl, srt_delE old (h.srt m.db.1), ?_⟩
      have : (delE nb.2.2.2.2.2.2.2 old).length ≤ nb.2.2.2.2.2.2.2.length := List.length_filter_le _ _
      show (delE _ _).length ≤ 100
      omega
    · exact ⟨_, rfl, h.srt m.db.1, hfb⟩
  obtain ⟨b1, h1, h2, h3⟩ := hb1
  refine ⟨b1, x, h1, h2, h3, ?_⟩
  unfold putL takeL
  rw [modL_get, modL_get, if_neg k2, if_neg k1]
  exact m.x
theorem rename_move (h : TreeOK t) (m : MvOk t a old b name id na nb x) (hanc : x.2.2.2.1 = true → ¬ Anc t.1 id b.1) : tRen fuel t a old b name = some (mvL t.1 a.1 old b.1 name id, (t.2, ([], 0))) := by
  have ha := m.da
  have hb := m.db
  have hs := m.nm
  have hea := m.ea
  have hx := m.x
  have hno := m.no
  obtain ⟨g1, g2, g3, y, g4, g5, g6⟩ := h.ent ha hea
  rw [hx] at g4; cases g4
  have hlen := h.r.len
  have hpa := pos_at (h.srt ha.1) hea
  have hpal := (List.getElem?_eq_some_iff.1 hpa).1
  unfold tRen
  rw [show ((t.1, t.2) : Tree) = t from rfl, show ((a.1, a.2) : Int × Int) = a from rfl, show ((b.1, b.2) : Int × Int) = b from rfl, asked2_some h ha hb, Option.bind_some]
  simp only [beq_self_eq_true, Bool.not_true, cond_false]
  rw [named_ok, Option.bind_some, g1]
  simp only [Bool.not_true, cond_false]
  rw [named_ok, Option.bind_some, hs]
  simp only [Bool.not_true, cond_false, Option.bind_some]
  rw [show idx? 0 [na, nb].length = some 0 from rfl, Option.bind_some, show [na, nb][0]? = some na from rfl, Option.bind_some, h.ent_ok ha, Option.bind_some, hasN_iff.2 ⟨id, hea⟩]
  simp only [Bool.not_true, cond_false, Option.bind_some]
  rw [show [na, nb][0]? = some na from rfl, Option.bind_some, idx_nat hpal, Option.bind_some, hpa, Option.bind_some, w64 (by omega), idx_int (by omega) (by omega), Option.bind_some, hx, Option.bind_some]
  have hbel : (bif x.2.2.2.1 then (tbel fuel (t.1, t.2) b.1 id).bind fun r11 => some (r11, (t.1, (t.2, (a.1, (a.2, (b.1, (b.2, ((0 : Int), [na, nb]))))))))
      else some (false, (t.1, (t.2, (a.1, (a.2, (b.1, (b.2, (0, [na, nb]))))))))) = some (false, (t.1, (t.2, (a.1, (a.2, (b.1, (b.2, (0, [na, nb])))))))) := by
    cases hd : x.2.2.2.1 with
    | false => rfl
    | true =>
      simp only [cond_true]
      obtain ⟨r, hr, hq⟩ := below_ok h hb id
      have : r = false := by
        cases r with
        | false => rfl
        | true => exact absurd (hq.1 rfl) (hanc hd)
      rw [show ((t.1, t.2) : Tree) = t from rfl, hr, this]
      rfl
  rw [hbel, Option.bind_some]
  simp only [cond_false]
  obtain ⟨rows, ms, hc, hF⟩ := copiedE_ok h.r.fit
  rw [show idx? 1 [na, nb].length = some 1 from rfl, Option.bind_some, show [na, nb][1]? = some nb from rfl, Option.bind_some, h.ent_ok hb, Option.bind_some, show ((t.1, t.2) : Tree) = t from rfl, hc, Option.bind_some]
  simp only [hno, cond_false, Option.bind_some]
  have hfull : (bif !(a.1 == b.1) then
        (idx? 1 [na, nb].length).bind fun q10 => ([na, nb])[q10]?.bind fun r24 => some ((decide (((r24.2.2.2.2.2.2.2.length : Nat) : Int) ≥ 100)), (a.1, (a.2, (b.1, (b.2, ((0 : Int), (t.2, (rows, ms))))))))
      else some (false, (a.1, (a.2, (b.1, (b.2, (0, (t.2, (rows, ms))))))))) = some (false, (a.1, (a.2, (b.1, (b.2, (0, (t.2, (rows, ms)))))))) := by
    by_cases hab : a.1 = b.1
    · rw [show (a.1 == b.1) = true from by simp [hab]]
      rfl
    · rw [beq_eq_false_iff_ne.2 hab]
      have := m.few hab
      simp only [Bool.not_false, cond_true]
      rw [show idx? 1 [na, nb].length = some 1 from rfl, Option.bind_some, show [na, nb][1]? = some nb from rfl, Option.bind_some, decide_eq_false (show ¬ ((nb.2.2.2.2.2.2.2.length : Nat) : Int) ≥ 100 by omega)]
  rw [hfull, Option.bind_some]
  simp only [cond_false]
  obtain ⟨b1, x1, p1, p2, p3, p4⟩ := mv_parts h m
  obtain ⟨rows1, ms1, ht, hF1⟩ := take_put_ok t.2 old hF (by omega) ha.1.1 ha.1.2.1 (by have := h.few ha.1; omega)
  rw [← takeL_some ha] at hF1
  have hl1 : (takeL t.1 a.1 old).length = t.1.length := modL_len ..
  obtain ⟨rows2, ms2, hp2, hF2⟩ := put_ok t.2 name id hF1 (by omega) hb.1.1 p1 p2 (by omega)
  have e2 : putL (takeL t.1 a.1 old) b.1 name id = (takeL t.1 a.1 old).set (b.1 - 1).toNat (wE b1 (insE b1.2.2.2.2.2.2.2 name id)) := modL_some _ p1
  rw [← e2] at hF2
  have hl2 : (putL (takeL t.1 a.1 old) b.1 name id).length = t.1.length := (modL_len ..).trans hl1
  have hrl := hF2.len
  rw [ht, Option.bind_some]
  simp only
  rw [hp2, Option.bind_some]
  simp only
  obtain ⟨row, hr, ⟨y, hry⟩, _⟩ := hF2.row p4
  have hF3 := hF2.keep (row' := toE (wP x1 b.1) y) (k' := wP x1 b.1) hr p4 ⟨y, rfl⟩ (by rw [hry]; rfl) rfl
  have e3 : parL (putL (takeL t.1 a.1 old) b.1 name id) id b.1 = (putL (takeL t.1 a.1 old) b.1 name id).set (id - 1).toNat (wP x1 b.1) := modL_some _ p4
  rw [← e3] at hF3
  rw [idx_int (by omega) (by omega), Option.bind_some, hr, Option.bind_some]
  have e4 : (row.1, (row.2.1, (row.2.2.1, (row.2.2.2.1, (row.2.2.2.2.1, (row.2.2.2.2.2.1, (b.1, row.2.2.2.2.2.2.2))))))) = toE (wP x1 b.1) y := by rw [hry]; rfl
  rw [e4]
  erw [bind_of (FamE.pure1 hF3)]
  rfl
theorem rename_over (h : TreeOK t) (ha : IsD t.1 a na) (hb : IsD t.1 b nb) (hs : namedB name = true) (hea : (old, id) ∈ na.2.2.2.2.2.2.2) (hx : t.1[(id - 1).toNat]? = some x) (hanc : x.2.2.2.1 = true → ¬ Anc t.1 id b.1) (heb : (name, other) ∈ nb.2.2.2.2.2.2.2) (hne : other ≠ id) (hz : t.1[(other - 1).toNat]? = some z) (hm : misE x.2.2.2.1 z = 0)
    {na' nb' x' : Ino} (h0 : TreeOK (dropL (takeL t.1 b.1 name) other, t.2)) (m : MvOk (dropL (takeL t.1 b.1 name) other, t.2) a old b name id na' nb' x') :
    tRen fuel t a old b name = some (mvL (dropL (takeL t.1 b.1 name) other) a.1 old b.1 name id, (t.2, (keptP z.2.2.2.2.2.1, 0))) := by
  obtain ⟨q1, q2, q3, z', q4, q5, q6⟩ := h.ent hb heb
  rw [hz] at q4; cases q4
  obtain ⟨g1, g2, g3, y, g4, g5, g6⟩ := h.ent ha hea
  rw [hx] at g4; cases g4
  have hlen := h.r.len
  have hpa := pos_at (h.srt ha.1) hea
  have hpal := (List.getElem?_eq_some_iff.1 hpa).1
  unfold tRen
  rw [show ((t.1, t.2) : Tree) = t from rfl, show ((a.1, a.2) : Int × Int) = a from rfl, show ((b.1, b.2) : Int × Int) = b from rfl, asked2_some h ha hb, Option.bind_some]
  simp only [beq_self_eq_true, Bool.not_true, cond_false]
  rw [named_ok, Option.bind_some, g1]
  simp only [Bool.not_true, cond_false]
  rw [named_ok, Option.bind_some, hs]
  simp only [Bool.not_true, cond_false, Option.bind_some]
  rw [show idx? 0 [na, nb].length = some 0 from rfl, Option.bind_some, show [na, nb][0]? = some na from rfl, Option.bind_some, h.ent_ok ha, Option.bind_some, hasN_iff.2 ⟨id, hea⟩]
  simp only [Bool.not_true, cond_false, Option.bind_some]
  rw [show [na, nb][0]? = some na from rfl, Option.bind_some, idx_nat hpal, Option.bind_some, hpa, Option.bind_some, w64 (by omega), idx_int (by omega) (by omega), Option.bind_some, hx, Option.bind_some]
  have hbel : (bif x.2.2.2.1 then (tbel fuel (t.1, t.2) b.1 id).bind fun r11 => some (r11, (t.1, (t.2, (a.1, (a.2, (b.1, (b.2, ((0 : Int), [na, nb]))))))))
      else some (false, (t.1, (t.2, (a.1, (a.2, (b.1, (b.2, (0, [na, nb]))))))))) = some (false, (t.1, (t.2, (a.1, (a.2, (b.1, (b.2, (0, [na, nb])))))))) := by
    cases hd : x.2.2.2.1 with
    | false => rfl
    | true =>
      simp only [cond_true]
      obtain ⟨r, hr, hq⟩ := below_ok h hb id
      have : r = false := by
        cases r with
        | false => rfl
        | true => exact absurd (hq.1 rfl) (hanc hd)
      rw [show ((t.1, t.2) : Tree) = t from rfl, hr, this]
      rfl
  rw [hbel, Option.bind_some]
  simp only [cond_false]
  obtain ⟨rows, ms, hc, hF⟩ := copiedE_ok h.r.fit
  rw [show idx? 1 [na, nb].length = some 1 from rfl, Option.bind_some, show [na, nb][1]? = some nb from rfl, Option.bind_some, h.ent_ok hb, Option.bind_some, show ((t.1, t.2) : Tree) = t from rfl, hc, Option.bind_some]
  have hpb := pos_at (h.srt hb.1) heb
  have hpbl := (List.getElem?_eq_some_iff.1 hpb).1
  simp only [hasN_iff.2 ⟨_, heb⟩, cond_true]
  rw [Option.bind_some, show [na, nb][1]? = some nb from rfl, Option.bind_some, idx_nat hpbl, Option.bind_some, hpb, Option.bind_some, Option.bind_some]
  simp only [beq_eq_false_iff_ne.2 hne, cond_false]
  rw [show idx? 1 [na, nb].length = some 1 from rfl, Option.bind_some, show [na, nb][1]? = some nb from rfl, Option.bind_some, idx_nat hpbl, Option.bind_some, hpb, Option.bind_some, w64 (by omega), idx_int (by omega) (by omega), Option.bind_some, hz, Option.bind_some, mismatch_ok, Option.bind_some, hm]
  simp only [beq_self_eq_true, Bool.not_true, cond_false]
  have hze : z.2.2.2.2.2.2.2 = [] := by
    unfold misE at hm
    split at hm
    · cases hm
    · split at hm
      · cases hm
      · split at hm
        · assumption
        · cases hm
  obtain ⟨rows0, mp, me, hw, hP0, hE0⟩ := without2_ok h hb heb hz hze
  rw [show ((t.1, t.2) : Tree) = t from rfl, hw, Option.bind_some]
  simp only [beq_self_eq_true, Bool.not_true, cond_false]
  obtain ⟨b1, x1, p1, p2, p3, p4⟩ := mv_parts h0 m
  simp only at p1 p4
  have hl0 : (dropL (takeL t.1 b.1 name) other).length = t.1.length := (modL_len ..).trans (modL_len ..)
  have hna' := h0.few m.da.1
  obtain ⟨rows1, me1, ht, hP1, hE1⟩ := take2_ok t.2 old hP0 hE0 (by omega) m.da.1.1 m.da.1.2.1 (by omega)
  rw [← takeL_some (t := (dropL (takeL t.1 b.1 name) other, t.2)) m.da] at hP1 hE1
  simp only at hP1 hE1
  have hl1 : (takeL (dropL (takeL t.1 b.1 name) other) a.1 old).length = t.1.length := (modL_len ..).trans hl0
  obtain ⟨rows2, me2, hp2, hP2, hE2⟩ := put2_ok t.2 name id hP1 hE1 (by omega) hb.1.1 p1 p2 (by omega)
  have e2 : putL (takeL (dropL (takeL t.1 b.1 name) other) a.1 old) b.1 name id = (takeL (dropL (takeL t.1 b.1 name) other) a.1 old).set (b.1 - 1).toNat (wE b1 (insE b1.2.2.2.2.2.2.2 name id)) := modL_some _ p1
  rw [← e2] at hP2 hE2
  have hl2 : (putL (takeL (dropL (takeL t.1 b.1 name) other) a.1 old) b.1 name id).length = t.1.length := (modL_len ..).trans hl1
  have hrl := hP2.len
  rw [ht, Option.bind_some]
  simp only
  rw [hp2, Option.bind_some]
  simp only
  obtain ⟨row, hr, ⟨y, w, hry⟩, _⟩ := hP2.row p4
  have hP3 := hP2.keep (row' := to2 (wP x1 b.1) y w) (k' := wP x1 b.1) hr p4 ⟨y, w, rfl⟩ (by rw [hry]; rfl) rfl
  have hE3 := hE2.keep (row' := to2 (wP x1 b.1) y w) (k' := wP x1 b.1) hr p4 ⟨y, w, rfl⟩ (by rw [hry]; rfl) rfl
  have e3 : parL (putL (takeL (dropL (takeL t.1 b.1 name) other) a.1 old) b.1 name id) id b.1 = (putL (takeL (dropL (takeL t.1 b.1 name) other) a.1 old) b.1 name id).set (id - 1).toNat (wP x1 b.1) := modL_some _ p4
  rw [← e3] at hP3 hE3
  rw [idx_int (by omega) (by omega), Option.bind_some, hr, Option.bind_some]
  have e4 : (row.1, (row.2.1, (row.2.2.1, (row.2.2.2.1, (row.2.2.2.2.1, (row.2.2.2.2.2.1, (b.1, row.2.2.2.2.2.2.2))))))) = to2 (wP x1 b.1) y w := by rw [hry]; rfl
  rw [e4]
  erw [bind_of (fam2_pure (ms.map frz1) hP3 hE3)]
  rfl
end
end Go.Ab.D
namespace Go.Ab.D
open Go Go.Ab
theorem sameEntries_self (l : List Ent) (hl : l.length ≤ 100000) : kSamEnt fuel l l = some true := by
  unfold kSamEnt kSamEnt_l0_it
  rw [beq_self_eq_true]
  simp only [Bool.not_true, cond_false]
  have e : iter fuel (fun tt => kSamEnt_l0 fuel l l tt) 0 = some (.inl ()) := by
    refine iter_range (f := fun tt => kSamEnt_l0 fuel l l tt) (fun k => (k : Int)) l.length (by omega) (fun k hk => ?_) ?_
    · show kSamEnt_l0 fuel l l (k : Int) = _
      unfold kSamEnt_l0
      obtain ⟨x, hg⟩ : ∃ x, l[k]? = some x := ⟨_, List.getElem?_eq_getElem hk⟩
      rw [lt_dec hk, cond_true, idx_nat hk, Option.bind_some, hg, Option.bind_some, Option.bind_some, hg, Option.bind_some, w64 (by omega)]
      simp
    · show kSamEnt_l0 fuel l l ((l.length : Nat) : Int) = _
      unfold kSamEnt_l0
      rw [nlt_dec (Nat.lt_irrefl _), cond_false]
  rw [e]
  rfl
def pickI (x n : Int) : Int := if Int.tmod x n < 0 then IntKind.wrap .i64 (Int.tmod x n + n) else Int.tmod x n
theorem pickI_ok (x n : Int) (hn : 1 ≤ n) : kit_Pick fuel x n = some (pickI x n) := by
  unfold kit_Pick pickI
  rw [show decide (n < 1) = false from by simp; omega, cond_false, need_true (by simp; omega)]
  by_cases h : Int.tmod x n < 0
  · rw [decide_eq_true h, cond_true, if_pos h]
  · rw [decide_eq_false h, cond_false, if_neg h]
theorem pickI_lt (x : Int) {n : Int} (hn : 1 ≤ n) (hn2 : n ≤ 1000000) : 0 ≤ pickI x n ∧ pickI x n < n := by
  unfold pickI
  have h1 := Int.tmod_lt_of_pos x (show 0 < n by omega)
  have h2 : -n < Int.tmod x n := by
    have := Int.tmod_lt_of_pos (-x) (show 0 < n by omega)
    rw [Int.neg_tmod] at this
    omega
  split
  · rw [w64 (by omega)]; omega
  · omega
theorem misE_ents {dir : Bool} {x : Ino} (h : misE dir x = 0) : x.2.2.2.2.2.2.2 = [] ∧ x.2.2.2.1 = dir := by
  unfold misE at h
  split at h
  · cases h
  · rename_i h1
    split at h
    · cases h
    · rename_i h2
      split at h
      · rename_i h3
        refine ⟨h3, ?_⟩
        cases dir <;> cases hd : x.2.2.2.1 <;> simp_all
      · cases h
section
variable {t : Tree} {a b d : Int × Int} {na nb n x z : Ino} {old name s : List UInt8} {id other : Int}
def Found (t : Tree) (d : Int × Int) (s : List UInt8) (h : Int × Int) : Prop := ∃ n x, IsD t.1 d n ∧ (s, h.1) ∈ n.2.2.2.2.2.2.2 ∧ t.1[(h.1 - 1).toNat]? = some x ∧ x.2.1 = h.2 ∧ x.2.2.1 = true
theorem lookup_cases (h : TreeOK t) (d : Int × Int) (s : List UInt8) : (∃ f, Found t d s f ∧ tLoo fuel t d s = some (f.1, f.2, 0)) ∨ ∃ e, e ≠ 0 ∧ tLoo fuel t d s = some (0, 0, e) ∧ (e = 171 → ∃ n, IsD t.1 d n ∧ namedB s = true ∧ hasN n.2.2.2.2.2.2.2 s = false) := by
  rcases dirE_cases t.1 d with ⟨n, hn⟩ | ⟨hb, hb'⟩
  · cases hs : namedB s with
    | false => exact .inr ⟨176, by decide, lookup_name h hn hs, fun h => by cases h⟩
    | true =>
      cases hh : hasN n.2.2.2.2.2.2.2 s with
      | false => exact .inr ⟨171, by decide, lookup_none h hn hs hh, fun _ => ⟨n, hn, rfl, hh⟩⟩
      | true =>
        obtain ⟨id, he⟩ := hasN_iff.1 hh
        obtain ⟨_, _, _, x, hx, hu, _⟩ := h.ent hn he
        exact .inl ⟨(id, x.2.1), ⟨n, x, hn, he, hx, rfl, hu⟩, lookup_some h hn he hx⟩
  · refine .inr ⟨_, hb, lookup_bad h s hb, fun h171 => ?_⟩
    rcases hb' with ⟨_, hb'⟩ | ⟨_, _, _, hb'⟩ <;> rw [hb'] at h171 <;> cases h171
structure MadeOk (t : Tree) (d : Int × Int) (s : List UInt8) (is : Bool) (T : Tree) (f : Int × Int) (n : Ino) (l' : List Ino) (i : Nat) : Prop where
  dir : IsD t.1 d n
  nm : namedB s = true
  no : hasN n.2.2.2.2.2.2.2 s = false
  few : n.2.2.2.2.2.2.2.length < 100
  alc : Alc t.1 is d.1 l' i f.2
  T : T = (putL l' d.1 s ((i : Int) + 1), t.2)
  f : f.1 = (i : Int) + 1
theorem madeL_eq {l' : List Ino} {i : Nat} {g : Int} {is : Bool} (hn : IsD t.1 d n) (hA : Alc t.1 is d.1 l' i g) (id : Int) : madeL l' d.1 n s id = putL l' d.1 s id := by
  have hne : (d.1 - 1).toNat ≠ i := fun hc => by
    have := hA.was n (by rw [← hc]; exact hn.1.2.1)
    rw [hn.1.2.2.1] at this; cases this
  unfold madeL putL
  rw [modL_some _ (by rw [hA.old _ hne]; exact hn.1.2.1)]
theorem make_cases (h : TreeOK t) (d : Int × Int) (s : List UInt8) (is : Bool) : (∃ e, e ≠ 0 ∧ tree_Make fuel t d s is = some (t.1, (t.2, (0, (0, e))))) ∨ ∃ T f n l' i, tree_Make fuel t d s is = some (T.1, (T.2, (f.1, (f.2, 0)))) ∧ MadeOk t d s is T f n l' i := by
  rcases dirE_cases t.1 d with ⟨n, hn⟩ | ⟨hb, hb'⟩
  · cases hs : namedB s with
    | false => exact .inl ⟨176, by decide, make_name h is hn hs⟩
    | true =>
      cases hh : hasN n.2.2.2.2.2.2.2 s with
      | true => exact .inl ⟨172, by decide, make_there h is hn hs hh⟩
      | false =>
        by_cases hl : n.2.2.2.2.2.2.2.length < 100
        · rcases make_alloc h is hn hs hh hl with ⟨_, hm⟩ | ⟨l', i, g, hA, hm⟩
          · exact .inl ⟨5, by decide, hm⟩
          · refine .inr ⟨(putL l' d.1 s ((i : Int) + 1), t.2), ((i : Int) + 1, g), n, l', i, ?_, ⟨hn, hs, hh, hl, hA, rfl, rfl⟩⟩
            rw [hm, madeL_eq hn hA]
        · exact .inl ⟨5, by decide, make_full h is hn hs hh (by omega)⟩
  · exact .inl ⟨_, hb, make_dir h s is hb⟩
theorem MadeOk.tree {is : Bool} {T : Tree} {f : Int × Int} {l' : List Ino} {i : Nat} (h : TreeOK t) (m : MadeOk t d s is T f n l' i) : TreeOK T := by
  rw [m.T]; exact mk_keeps h m.dir m.nm m.no m.few m.alc
structure RmOk (t : Tree) (d : Int × Int) (s : List UInt8) (is : Bool) (T : Tree) (gone : List Part) (n : Ino) (id : Int) (x : Ino) : Prop where
  dir : IsD t.1 d n
  e : (s, id) ∈ n.2.2.2.2.2.2.2
  at_ : t.1[(id - 1).toNat]? = some x
  mis : misE is x = 0
  T : T = (dropL (takeL t.1 d.1 s) id, t.2)
  gone : gone = keptP x.2.2.2.2.2.1
theorem remove_cases (h : TreeOK t) (d : Int × Int) (s : List UInt8) (is : Bool) : (∃ e, e ≠ 0 ∧ tRem fuel t d s is = some (t.1, (t.2, ([], e)))) ∨ ∃ T gone n id x, tRem fuel t d s is = some (T.1, (T.2, (gone, 0))) ∧ RmOk t d s is T gone n id x := by
  rcases dirE_cases t.1 d with ⟨n, hn⟩ | ⟨hb, hb'⟩
  · cases hs : namedB s with
    | false => exact .inl ⟨176, by decide, remove_name h is hn hs⟩
    | true =>
      cases hh : hasN n.2.2.2.2.2.2.2 s with
      | false => exact .inl ⟨171, by decide, remove_none h is hn hs hh⟩
      | true =>
        obtain ⟨id, he⟩ := hasN_iff.1 hh
        obtain ⟨_, _, _, x, hx, hu, _⟩ := h.ent hn he
        have hr := remove_some h is hn he hx
        by_cases hm : misE is x = 0
        · rw [if_pos hm] at hr
          exact .inr ⟨(dropL (takeL t.1 d.1 s) id, t.2), _, n, id, x, hr, ⟨hn, he, hx, hm, rfl, rfl⟩⟩
        · rw [if_neg hm] at hr
          exact .inl ⟨_, hm, hr⟩
  · exact .inl ⟨_, hb, remove_dir h s is hb⟩
theorem RmOk.tree {is : Bool} {T : Tree} {gone : List Part} (h : TreeOK t) (m : RmOk t d s is T gone n id x) : TreeOK T := by
  rw [m.T]; exact rm_keeps h m.dir m.e m.at_ (misE_ents m.mis).1
theorem noanc (h : TreeOK t) (ha : IsD t.1 a na) (hb : IsD t.1 b nb) (hea : (old, id) ∈ na.2.2.2.2.2.2.2) (hx : t.1[(id - 1).toNat]? = some x) (hanc : x.2.2.2.1 = true → ¬ Anc t.1 id b.1) : ¬ Anc t.1 id b.1 := by
  cases hd : x.2.2.2.1 with
  | true => exact hanc hd
  | false =>
    intro hc
    obtain ⟨_, h2, _, y, hy, hu, _⟩ := h.ent ha hea
    rw [hx] at hy; cases hy
    have hxe : x.2.2.2.2.2.2.2 = [] := ((h.r.ino _ x hx).file hu hd).2.1
    have := anc_leaf h hx h2 hxe hc hb.1.1
    have hn := hb.1.2.1
    rw [this, hx] at hn
    cases hn
    rw [hb.2] at hd; cases hd
theorem over_ok (h : TreeOK t) (ha : IsD t.1 a na) (hb : IsD t.1 b nb) (hs : namedB name = true) (hea : (old, id) ∈ na.2.2.2.2.2.2.2) (hx : t.1[(id - 1).toNat]? = some x) (hanc : ¬ Anc t.1 id b.1) (heb : (name, other) ∈ nb.2.2.2.2.2.2.2) (hne : other ≠ id) (hz : t.1[(other - 1).toNat]? = some z) (hze : z.2.2.2.2.2.2.2 = []) :
    ∃ na' nb', MvOk (dropL (takeL t.1 b.1 name) other, t.2) a old b name id na' nb' x ∧ nb' = wE nb (delE nb.2.2.2.2.2.2.2 name) := by
  obtain ⟨_, i2, i3, y, hy, hu, hp⟩ := h.ent ha hea
  rw [hx] at hy; cases hy
  obtain ⟨_, o2, o3, w, hw, hzu, hzp⟩ := h.ent hb heb
  rw [hz] at hw; cases hw
  have hk := rm_ne heb hb hz hze
  have hka : (other - 1).toNat ≠ (a.1 - 1).toNat := fun hc => by
    have := ha.1.2.1
    rw [← hc, hz] at this
    cases this
    rw [hze] at hea
    cases hea
  have hat := fun j => rm_at (s := name) hk hb hz j
  have hb1 := hb.1.1
  have hfb := h.few hb.1
  have hdl := delE_len (h.srt hb.1) heb
  have hkb : (id - 1).toNat ≠ (b.1 - 1).toNat := fun hc => by
    have : id = b.1 := by omega
    exact hanc (by rw [this]; exact .refl)
  have hno : hasN (delE nb.2.2.2.2.2.2.2 name) name = false := by
    cases hh : hasN (delE nb.2.2.2.2.2.2.2 name) name with
    | false => rfl
    | true => obtain ⟨i, hi⟩ := hasN_iff.1 hh; exact absurd rfl (mem_delE.1 hi).2
  have hdb : IsD (dropL (takeL t.1 b.1 name) other) b (wE nb (delE nb.2.2.2.2.2.2.2 name)) := ⟨⟨hb1, by rw [hat, if_neg (by omega), if_pos rfl], hb.1.2.2.1, hb.1.2.2.2⟩, hb.2⟩
  have hda : ∃ na', IsD (dropL (takeL t.1 b.1 name) other) a na' ∧ (old, id) ∈ na'.2.2.2.2.2.2.2 := by
    by_cases hab : (a.1 - 1).toNat = (b.1 - 1).toNat
    · have hnn : na = nb := by
        have := ha.1.2.1
        rw [hab, hb.1.2.1] at this
        injection this with this; exact this.symm
      subst hnn
      refine ⟨wE na (delE na.2.2.2.2.2.2.2 name), ⟨⟨ha.1.1, by rw [hat, if_neg (by omega), if_pos hab], ha.1.2.2.1, ha.1.2.2.2⟩, ha.2⟩, mem_delE.2 ⟨hea, fun hc => ?_⟩⟩
      have hc : old = name := hc
      subst hc
      exact hne (srt_uniq (h.srt hb.1) heb hea)
    · exact ⟨na, ⟨⟨ha.1.1, by rw [hat, if_neg (by omega), if_neg hab]; exact ha.1.2.1, ha.1.2.2.1, ha.1.2.2.2⟩, ha.2⟩, hea⟩
  obtain ⟨na', hda, hea'⟩ := hda
  refine ⟨na', _, ⟨hda, hdb, hea', ?_, hs, hno, fun _ => ?_, fun hc => hanc ?_⟩, rfl⟩
  · show (dropL (takeL t.1 b.1 name) other)[(id - 1).toNat]? = _
    rw [hat, if_neg (by omega), if_neg hkb]; exact hx
  · show (delE _ _).length < 100
    omega
  · have go : ∀ i, Anc (dropL (takeL t.1 b.1 name) other) id i → 1 ≤ i → Anc t.1 id i := fun i hi => by
      induction hi with
      | refl => intro _; exact .refl
      | @step i y h1 hy hyu _ ih =>
        intro hi1
        rw [hat] at hy
        by_cases c1 : (i - 1).toNat = (other - 1).toNat
        · rw [if_pos c1] at hy; cases hy; cases hyu
        · rw [if_neg c1] at hy
          by_cases c2 : (i - 1).toNat = (b.1 - 1).toNat
          · rw [if_pos c2] at hy
            cases hy
            exact .step h1 (by rw [c2]; exact hb.1.2.1) hb.1.2.2.1 (ih ((h.r.ino _ nb hb.1.2.1).par hb.1.2.2.1).1)
          · rw [if_neg c2] at hy
            exact .step h1 hy hyu (ih ((h.r.ino _ y hy).par hyu).1)
    exact go _ hc hb1
inductive Moved (t : Tree) (a : Int × Int) (old : List UInt8) (b : Int × Int) (name : List UInt8) (T : Tree) (gone : List Part) (id : Int) (x : Ino) : Prop
  | same {na nb : Ino} : T = t → gone = [] → IsD t.1 a na → IsD t.1 b nb → (old, id) ∈ na.2.2.2.2.2.2.2 → (name, id) ∈ nb.2.2.2.2.2.2.2 → t.1[(id - 1).toNat]? = some x → Moved t a old b name T gone id x
  | move {na nb : Ino} : T = (mvL t.1 a.1 old b.1 name id, t.2) → gone = [] → MvOk t a old b name id na nb x → Moved t a old b name T gone id x
  | over {na nb na' nb' z : Ino} {other : Int} : T = (mvL (dropL (takeL t.1 b.1 name) other) a.1 old b.1 name id, t.2) → gone = keptP z.2.2.2.2.2.1 → IsD t.1 a na → IsD t.1 b nb → (old, id) ∈ na.2.2.2.2.2.2.2 → t.1[(id - 1).toNat]? = some x → (name, other) ∈ nb.2.2.2.2.2.2.2 → other ≠ id → t.1[(other - 1).toNat]? = some z → misE x.2.2.2.1 z = 0 → TreeOK (dropL (takeL t.1 b.1 name) other, t.2) → MvOk (dropL (takeL t.1 b.1 name) other, t.2) a old b name id na' nb' x → Moved t a old b name T gone id x
theorem rename_cases (h : TreeOK t) (a : Int × Int) (old : List UInt8) (b : Int × Int) (name : List UInt8) : (∃ e, e ≠ 0 ∧ tRen fuel t a old b name = some (t.1, (t.2, ([], e)))) ∨ ∃ T gone id x, tRen fuel t a old b name = some (T.1, (T.2, (gone, 0))) ∧ Moved t a old b name T gone id x := by
  rcases dirE_cases t.1 a with ⟨na, ha⟩ | ⟨hb, _⟩
  · rcases dirE_cases t.1 b with ⟨nb, hb⟩ | ⟨hb, _⟩
    · cases hsn : (namedB old && namedB name) with
      | false => exact .inl ⟨176, by decide, rename_name h ha hb hsn⟩
      | true =>
        rw [Bool.and_eq_true] at hsn
        obtain ⟨hso, hs⟩ := hsn
        cases hh : hasN na.2.2.2.2.2.2.2 old with
        | false => exact .inl ⟨171, by decide, rename_none h ha hb hso hs hh⟩
        | true =>
          obtain ⟨id, hea⟩ := hasN_iff.1 hh
          obtain ⟨_, _, _, x, hx, hu, hp⟩ := h.ent ha hea
          by_cases hl : x.2.2.2.1 = true ∧ Anc t.1 id b.1
          · exact .inl ⟨178, by decide, rename_loop h ha hb hs hea hx hl.1 hl.2⟩
          · have hanc : x.2.2.2.1 = true → ¬ Anc t.1 id b.1 := fun h1 h2 => hl ⟨h1, h2⟩
            have hanc' := noanc h ha hb hea hx hanc
            cases hhb : hasN nb.2.2.2.2.2.2.2 name with
            | false =>
              by_cases hfull : a.1 ≠ b.1 ∧ 100 ≤ nb.2.2.2.2.2.2.2.length
              · exact .inl ⟨5, by decide, rename_full h ha hb hs hea hx hanc hhb hfull.1 hfull.2⟩
              · have hfw : a.1 ≠ b.1 → nb.2.2.2.2.2.2.2.length < 100 := fun hc => by
                  have : ¬ 100 ≤ nb.2.2.2.2.2.2.2.length := fun hh => hfull ⟨hc, hh⟩
                  omega
                have m : MvOk t a old b name id na nb x := ⟨ha, hb, hea, hx, hs, hhb, hfw, hanc'⟩
                exact .inr ⟨(mvL t.1 a.1 old b.1 name id, t.2), [], id, x, rename_move h m hanc, .move rfl rfl m⟩
            | true =>
              obtain ⟨other, heb⟩ := hasN_iff.1 hhb
              obtain ⟨_, _, _, z, hz, hzu, hzp⟩ := h.ent hb heb
              by_cases hne : other = id
              · subst hne
                exact .inr ⟨t, [], other, x, rename_same h ha hb hs hea hx hanc heb, .same rfl rfl ha hb hea heb hx⟩
              · by_cases hm : misE x.2.2.2.1 z = 0
                · have hze := (misE_ents hm).1
                  have h0 := rm_keeps h hb heb hz hze
                  obtain ⟨na', nb', m, _⟩ := over_ok h ha hb hs hea hx hanc' heb hne hz hze
                  exact .inr ⟨(mvL (dropL (takeL t.1 b.1 name) other) a.1 old b.1 name id, t.2), _, id, x, rename_over h ha hb hs hea hx hanc heb hne hz hm h0 m, .over rfl rfl ha hb hea hx heb hne hz hm h0 m⟩
                · exact .inl ⟨_, hm, rename_mis h ha hb hs hea hx hanc heb hne hz hm⟩
    · exact .inl ⟨_, hb, rename_dir2 h ha hb⟩
  · exact .inl ⟨_, hb, rename_dir1 h hb⟩
theorem Moved.tree {T : Tree} {gone : List Part} (h : TreeOK t) (m : Moved t a old b name T gone id x) : TreeOK T := by
  cases m with
  | same e _ _ _ _ _ _ => rw [e]; exact h
  | move e _ m => rw [e]; exact mv_keeps h m
  | over e _ _ _ _ _ _ _ _ _ h0 m => rw [e]; exact mv_keeps h0 m
end
end Go.Ab.D
namespace Go.Ab.D
open Go Go.Ab
abbrev OpT := Int × (Int × (Int × (List UInt8 × (List UInt8 × Bool))))
def Step (was : Tree) (o : OpT) (a b : Int × Int) (t : Tree) (h : Int × Int) (e : Int) : Prop :=
  (e ≠ 0 ∧ t = was) ∨ (e = 0 ∧ ((pickI o.1 4 = 0 ∧ ∃ n l' i, MadeOk was a o.2.2.2.1 o.2.2.2.2.2 t h n l' i) ∨ (pickI o.1 4 = 1 ∧ ∃ gone n id x, RmOk was a o.2.2.2.1 o.2.2.2.2.2 t gone n id x) ∨ (pickI o.1 4 = 2 ∧ ∃ gone id x, Moved was a o.2.2.2.1 b o.2.2.2.2.1 t gone id x) ∨ (pickI o.1 4 = 3 ∧ t = was)))
theorem Step.tree {was t : Tree} {o : OpT} {a b h : Int × Int} {e : Int} (hw : TreeOK was) (hs : Step was o a b t h e) : TreeOK t := by
  rcases hs with ⟨_, rfl⟩ | ⟨_, ⟨_, n, l', i, m⟩ | ⟨_, gone, n, id, x, m⟩ | ⟨_, gone, id, x, m⟩ | ⟨_, rfl⟩⟩
  · exact hw
  · exact m.tree hw
  · exact m.tree hw
  · exact m.tree hw
  · exact hw
section
variable {t T : Tree} {a b : Int × Int} {old name : List UInt8} {gone : List Part} {id : Int} {x : Ino}
end
theorem new_ok : TreeOK ([(1, 1, true, true, 0, [], 1, [])], 0) := by
  refine ⟨⟨by simp, by simp, fun i n hn => ?_, by simp [allStripes, stripes], _, rfl, rfl, rfl, rfl⟩, fun i n hn s id he => ?_, fun j x hx hu hj => ?_, fun j x hx hu => ?_⟩
  · cases i with
    | zero => simp at hn; subst hn; exact ⟨rfl, by simp, by simp, fun _ _ => ⟨rfl, rfl, by simp, trivial⟩, by simp, by simp⟩
    | succ i => simp at hn
  · cases i with
    | zero => simp at hn; subst hn; cases he
    | succ i => simp at hn
  · cases j with
    | zero => exact absurd rfl hj
    | succ i => simp at hx
  · cases j with
    | zero => exact .root
    | succ i => simp at hx
end Go.Ab.D
namespace Go.Ab.D
open Go Go.Ab
def allocF (l : List Ino) (dir : Bool) (parent : Int) : Option (List Ino × Nat × Int) :=
  match freeAt l with
  | none => if l.length < 500 then some (l ++ [((l.length : Int) + 1, 1, true, dir, 0, [], parent, [])], l.length, 1) else none
  | some i => match l[i]? with
    | none => none
    | some n => if n.2.1 < 1099511627776 then some (l.set i ((i : Int) + 1, n.2.1 + 1, true, dir, 0, [], parent, []), i, n.2.1 + 1) else none
theorem alc_fun {l l' : List Ino} {dir : Bool} {parent g : Int} {i : Nat} (h : Alc l dir parent l' i g) : allocF l dir parent = some (l', i, g) := by
  unfold allocF
  have hs := h.slot
  have hlen := h.len
  cases hf : freeAt l with
  | none =>
    rw [hf] at hs
    have hs : i = l.length := hs
    rw [if_neg (by omega)] at hlen
    have := h.few
    have hg : g = 0 + 1 := by
      have := h.gen
      rw [List.getElem?_eq_none (by omega)] at this
      exact this
    rw [if_pos (by omega)]
    subst hs hg
    show some (l ++ [((l.length : Int) + 1, 1, true, dir, 0, [], parent, [])], l.length, (1 : Int)) = some (l', l.length, 0 + 1)
    have e : l ++ [((l.length : Int) + 1, 1, true, dir, 0, [], parent, [])] = l' := ?_
    · rw [e]; rfl
    refine List.ext_getElem? fun j => ?_
    by_cases hj : j = l.length
    · subst hj; rw [h.new]; simp
    · rw [h.old j hj]
      by_cases hj2 : j < l.length
      · rw [List.getElem?_append_left hj2]
      · rw [List.getElem?_eq_none (by simp; omega), List.getElem?_eq_none (by omega)]
  | some k =>
    rw [hf] at hs
    have hs : i = k := hs
    subst hs
    obtain ⟨hk, _, _⟩ := List.findIdx?_eq_some_iff_getElem.1 hf
    have hg : l[i]? = some l[i] := List.getElem?_eq_getElem hk
    have hgen := h.gen
    rw [hg] at hgen
    have hgen : g = l[i].2.1 + 1 := hgen
    have := h.top
    simp only [hg]
    rw [if_pos (by omega), ← hgen]
    congr 2
    refine List.ext_getElem? fun j => ?_
    by_cases hj : j = i
    · subst hj; rw [h.new, List.getElem?_set_self hk]
    · rw [h.old j hj, List.getElem?_set_ne (by omega)]
theorem noRoom_fun {l : List Ino} (h : noRoom l) (dir : Bool) (parent : Int) : allocF l dir parent = none := by
  unfold noRoom at h
  unfold allocF
  cases hf : freeAt l with
  | none => rw [hf] at h; exact if_neg (by omega)
  | some i =>
    rw [hf] at h
    obtain ⟨n, hn, hg⟩ := h
    simp only [hn]
    exact if_neg (by omega)
def findE (l : List Ent) (s : List UInt8) : Option Int := (l.find? fun e => e.1 == s).map (·.2)
theorem findE_some {l : List Ent} (h : Srt l) {s : List UInt8} {id : Int} (hm : (s, id) ∈ l) : findE l s = some id := by
  unfold findE
  cases hf : l.find? (fun e => e.1 == s) with
  | none => have := List.find?_eq_none.1 hf _ hm; simp at this
  | some e =>
    have h1 := List.mem_of_find?_eq_some hf
    have h2 := List.find?_some hf
    have h2 : e.1 = s := by simpa using h2
    have : (s, e.2) ∈ l := by rw [← h2]; exact h1
    rw [srt_uniq h hm this]
    rfl
theorem findE_none {l : List Ent} {s : List UInt8} (h : hasN l s = false) : findE l s = none := by
  unfold findE
  rw [List.find?_eq_none.2]
  · rfl
  · intro e he hh
    have h2 : e.1 = s := by simpa using hh
    have := (hasN_iff (l := l) (s := s)).2 ⟨e.2, by rw [← h2]; exact he⟩
    rw [h] at this; cases this
def ancB (l : List Ino) (top : Int) : Nat → Int → Bool
  | 0, id => id == top
  | k + 1, id => bif id == top then true else bif id == 1 then false else match l[(id - 1).toNat]? with
    | some n => n.2.2.1 && ancB l top k n.2.2.2.2.2.2.1
    | none => false
theorem ancB_ok {l : List Ino} (top : Int) : ∀ (k : Nat) (id : Int), reachN l k id = true → (ancB l top k id = true ↔ Anc l top id)
  | 0, id, h => by
    have h : id = 1 := by unfold reachN at h; simpa using h
    unfold ancB
    rw [beq_iff_eq]
    constructor
    · rintro rfl; exact .refl
    · intro ha
      cases ha with
      | refl => rfl
      | step h1 => exact absurd h h1
  | k + 1, id, h => by
    unfold ancB
    cases h1 : (id == top) with
    | true => rw [beq_iff_eq] at h1; subst h1; simp; exact .refl
    | false =>
      cases h2 : (id == 1) with
      | true =>
        simp only [cond_false, cond_true]
        constructor
        · intro hc; cases hc
        · intro ha
          cases ha with
          | refl => rw [beq_self_eq_true] at h1; cases h1
          | step h3 => rw [beq_iff_eq] at h2; exact absurd h2 h3
      | false =>
        unfold reachN at h
        rw [h2] at h
        simp only [cond_false] at h ⊢
        cases hg : l[(id - 1).toNat]? with
        | none => rw [hg] at h; cases h
        | some n =>
          rw [hg] at h
          simp only [Bool.and_eq_true] at h ⊢
          rw [ancB_ok top k _ h.2]
          constructor
          · rintro ⟨h3, h4⟩; exact .step (by simpa using h2) hg h3 h4
          · intro ha
            cases ha with
            | refl => rw [beq_self_eq_true] at h1; cases h1
            | step _ h4 h5 h6 => rw [hg] at h4; cases h4; exact ⟨h5, h6⟩
theorem ancB_iff {t : Tree} (h : TreeOK t) {b : Int × Int} {nb : Ino} (hb : IsD t.1 b nb) (top : Int) : ancB t.1 top t.1.length b.1 = true ↔ Anc t.1 top b.1 := by
  have hlt := (List.getElem?_eq_some_iff.1 hb.1.2.1).1
  have hdb := isD_idx hb
  have hb1 := hb.1.1
  exact ancB_ok top _ _ (rch_reachN h.r.len.1 (fun j x hx hxu => (h.r.ino j x hx).par hxu) hb1 (by omega) (by have := h.a _ nb hb.1.2.1 hb.1.2.2.1; rw [hdb] at this; exact this))
def makeF (t : Tree) (d : Int × Int) (s : List UInt8) (is : Bool) : Tree × (Int × Int) × Int :=
  if dirE t.1 d = 0 then
    if namedB s = true then
      match t.1[(d.1 - 1).toNat]? with
      | none => (t, (0, 0), 170)
      | some n => if hasN n.2.2.2.2.2.2.2 s = true then (t, (0, 0), 172) else if 100 ≤ n.2.2.2.2.2.2.2.length then (t, (0, 0), 5) else
        match allocF t.1 is d.1 with
        | none => (t, (0, 0), 5)
        | some (l', i, g) => ((putL l' d.1 s ((i : Int) + 1), t.2), ((i : Int) + 1, g), 0)
    else (t, (0, 0), 176)
  else (t, (0, 0), dirE t.1 d)
theorem make_eq {t : Tree} (h : TreeOK t) (d : Int × Int) (s : List UInt8) (is : Bool) : tree_Make fuel t d s is = some ((makeF t d s is).1.1, ((makeF t d s is).1.2, ((makeF t d s is).2.1.1, ((makeF t d s is).2.1.2, (makeF t d s is).2.2)))) ∧ TreeOK (makeF t d s is).1 := by
  unfold makeF
  rcases dirE_cases t.1 d with ⟨n, hn⟩ | ⟨hb, _⟩
  · rw [if_pos (dirE_some hn), hn.1.2.1]
    simp only
    cases hs : namedB s with
    | false => rw [if_neg (by simp)]; exact ⟨make_name h is hn hs, h⟩
    | true =>
      rw [if_pos rfl]
      cases hh : hasN n.2.2.2.2.2.2.2 s with
      | true => rw [if_pos rfl]; exact ⟨make_there h is hn hs hh, h⟩
      | false =>
        rw [if_neg (by simp)]
        by_cases hl : 100 ≤ n.2.2.2.2.2.2.2.length
        · rw [if_pos hl]; exact ⟨make_full h is hn hs hh hl, h⟩
        · rw [if_neg hl]
          rcases make_alloc h is hn hs hh (by omega) with ⟨hno, hm⟩ | ⟨l', i, g, hA, hm⟩
          · rw [noRoom_fun hno]; exact ⟨hm, h⟩
          · rw [alc_fun hA, hm, madeL_eq hn hA]
            exact ⟨rfl, mk_keeps h hn hs hh (by omega) hA⟩
  · rw [if_neg hb]; exact ⟨make_dir h s is hb, h⟩
def removeF (t : Tree) (d : Int × Int) (s : List UInt8) (is : Bool) : Tree × List Part × Int :=
  if dirE t.1 d = 0 then
    if namedB s = true then
      match t.1[(d.1 - 1).toNat]? with
      | none => (t, [], 170)
      | some n => match findE n.2.2.2.2.2.2.2 s with
        | none => (t, [], 171)
        | some id => match t.1[(id - 1).toNat]? with
          | none => (t, [], 170)
          | some x => if misE is x = 0 then ((dropL (takeL t.1 d.1 s) id, t.2), keptP x.2.2.2.2.2.1, 0) else (t, [], misE is x)
    else (t, [], 176)
  else (t, [], dirE t.1 d)
theorem remove_eq {t : Tree} (h : TreeOK t) (d : Int × Int) (s : List UInt8) (is : Bool) : tRem fuel t d s is = some ((removeF t d s is).1.1, ((removeF t d s is).1.2, ((removeF t d s is).2.1, (removeF t d s is).2.2))) ∧ TreeOK (removeF t d s is).1 := by
  unfold removeF
  rcases dirE_cases t.1 d with ⟨n, hn⟩ | ⟨hb, _⟩
  · rw [if_pos (dirE_some hn), hn.1.2.1]
    simp only
    cases hs : namedB s with
    | false => rw [if_neg (by simp)]; exact ⟨remove_name h is hn hs, h⟩
    | true =>
      rw [if_pos rfl]
      cases hh : hasN n.2.2.2.2.2.2.2 s with
      | false => rw [findE_none hh]; exact ⟨remove_none h is hn hs hh, h⟩
      | true =>
        obtain ⟨id, he⟩ := hasN_iff.1 hh
        obtain ⟨_, _, _, x, hx, hu, _⟩ := h.ent hn he
        rw [findE_some (h.srt hn.1) he]
        simp only [hx]
        have hr := remove_some h is hn he hx
        by_cases hm : misE is x = 0
        · rw [if_pos hm] at hr ⊢
          exact ⟨hr, rm_keeps h hn he hx (misE_ents hm).1⟩
        · rw [if_neg hm] at hr ⊢
          exact ⟨hr, h⟩
  · rw [if_neg hb]; exact ⟨remove_dir h s is hb, h⟩
def renameF (t : Tree) (a : Int × Int) (old : List UInt8) (b : Int × Int) (name : List UInt8) : Tree × List Part × Int :=
  if dirE t.1 a = 0 then
    if dirE t.1 b = 0 then
      if (namedB old && namedB name) = true then
        match t.1[(a.1 - 1).toNat]? with
        | none => (t, [], 170)
        | some na => match t.1[(b.1 - 1).toNat]? with
          | none => (t, [], 170)
          | some nb => match findE na.2.2.2.2.2.2.2 old with
            | none => (t, [], 171)
            | some id => match t.1[(id - 1).toNat]? with
              | none => (t, [], 170)
              | some x => if (x.2.2.2.1 && ancB t.1 id t.1.length b.1) = true then (t, [], 178) else
                match findE nb.2.2.2.2.2.2.2 name with
                | none => if a.1 ≠ b.1 ∧ 100 ≤ nb.2.2.2.2.2.2.2.length then (t, [], 5) else ((mvL t.1 a.1 old b.1 name id, t.2), [], 0)
                | some other => if other = id then (t, [], 0) else match t.1[(other - 1).toNat]? with
                  | none => (t, [], 170)
                  | some z => if misE x.2.2.2.1 z = 0 then ((mvL (dropL (takeL t.1 b.1 name) other) a.1 old b.1 name id, t.2), keptP z.2.2.2.2.2.1, 0) else (t, [], misE x.2.2.2.1 z)
      else (t, [], 176)
    else (t, [], dirE t.1 b)
  else (t, [], dirE t.1 a)
theorem rename_eq {t : Tree} (h : TreeOK t) (a : Int × Int) (old : List UInt8) (b : Int × Int) (name : List UInt8) : tRen fuel t a old b name = some ((renameF t a old b name).1.1, ((renameF t a old b name).1.2, ((renameF t a old b name).2.1, (renameF t a old b name).2.2))) ∧ TreeOK (renameF t a old b name).1 := by
  unfold renameF
  rcases dirE_cases t.1 a with ⟨na, ha⟩ | ⟨hb, _⟩
  · rw [if_pos (dirE_some ha)]
    rcases dirE_cases t.1 b with ⟨nb, hb⟩ | ⟨hb, _⟩
    · rw [if_pos (dirE_some hb)]
      cases hsn : (namedB old && namedB name) with
      | false => rw [if_neg (by simp)]; exact ⟨rename_name h ha hb hsn, h⟩
      | true =>
        rw [if_pos rfl, ha.1.2.1, hb.1.2.1]
        simp only
        rw [Bool.and_eq_true] at hsn
        obtain ⟨hso, hs⟩ := hsn
        cases hh : hasN na.2.2.2.2.2.2.2 old with
        | false => rw [findE_none hh]; exact ⟨rename_none h ha hb hso hs hh, h⟩
        | true =>
          obtain ⟨id, hea⟩ := hasN_iff.1 hh
          obtain ⟨_, _, _, x, hx, hu, hp⟩ := h.ent ha hea
          rw [findE_some (h.srt ha.1) hea]
          simp only [hx]
          by_cases hl : (x.2.2.2.1 && ancB t.1 id t.1.length b.1) = true
          · rw [if_pos hl]
            rw [Bool.and_eq_true] at hl
            exact ⟨rename_loop h ha hb hs hea hx hl.1 ((ancB_iff h hb id).1 hl.2), h⟩
          · rw [if_neg hl]
            have hanc : x.2.2.2.1 = true → ¬ Anc t.1 id b.1 := fun h1 h2 => hl (by rw [h1, (ancB_iff h hb id).2 h2]; rfl)
            have hanc' := noanc h ha hb hea hx hanc
            cases hhb : hasN nb.2.2.2.2.2.2.2 name with
            | false =>
              rw [findE_none hhb]
              simp only
              by_cases hfull : a.1 ≠ b.1 ∧ 100 ≤ nb.2.2.2.2.2.2.2.length
              · rw [if_pos hfull]; exact ⟨rename_full h ha hb hs hea hx hanc hhb hfull.1 hfull.2, h⟩
              · rw [if_neg hfull]
                have hfw : a.1 ≠ b.1 → nb.2.2.2.2.2.2.2.length < 100 := fun hc => by
                  have : ¬ 100 ≤ nb.2.2.2.2.2.2.2.length := fun hh => hfull ⟨hc, hh⟩
                  omega
                have m : MvOk t a old b name id na nb x := ⟨ha, hb, hea, hx, hs, hhb, hfw, hanc'⟩
                exact ⟨rename_move h m hanc, mv_keeps h m⟩
            | true =>
              obtain ⟨other, heb⟩ := hasN_iff.1 hhb
              obtain ⟨_, _, _, z, hz, hzu, hzp⟩ := h.ent hb heb
              rw [findE_some (h.srt hb.1) heb]
              simp only
              by_cases hne : other = id
              · subst hne
                rw [if_pos rfl]
                exact ⟨rename_same h ha hb hs hea hx hanc heb, h⟩
              · rw [if_neg hne, hz]
                simp only
                by_cases hm : misE x.2.2.2.1 z = 0
                · rw [if_pos hm]
                  have hze := (misE_ents hm).1
                  have h0 := rm_keeps h hb heb hz hze
                  obtain ⟨na', nb', m, _⟩ := over_ok h ha hb hs hea hx hanc' heb hne hz hze
                  exact ⟨rename_over h ha hb hs hea hx hanc heb hne hz hm h0 m, mv_keeps h0 m⟩
                · rw [if_neg hm]
                  exact ⟨rename_mis h ha hb hs hea hx hanc heb hne hz hm, h⟩
    · rw [if_neg hb]; exact ⟨rename_dir2 h ha hb, h⟩
  · rw [if_neg hb]; exact ⟨rename_dir1 h hb, h⟩
def T0 : Tree := ([(1, 1, true, true, 0, [], 1, [])], 0)
def T1 : Tree := ([(1, 1, true, true, 0, [], 1, [([97], 2)]), (2, 1, true, true, 0, [], 1, [])], 0)
def T2' : Tree := ([(1, 1, true, true, 0, [], 1, [([97], 2)]), (2, 1, true, true, 0, [], 1, [([98], 3)]), (3, 1, true, true, 0, [], 2, [])], 0)
def T3 : Tree := ([(1, 1, true, true, 0, [], 1, [([97], 2), ([120], 4)]), (2, 1, true, true, 0, [], 1, [([98], 3)]), (3, 1, true, true, 0, [], 2, []), (4, 1, true, false, 0, [], 1, [])], 0)
def T4 : Tree := ([(1, 1, true, true, 0, [], 1, [([97], 2)]), (2, 1, true, true, 0, [], 1, [([98], 3), ([120], 4)]), (3, 1, true, true, 0, [], 2, []), (4, 1, true, false, 0, [], 2, [])], 0)
theorem e1 : makeF T0 (1, 1) [97] true = (T1, (2, 1), 0) := by kernel_rfl
theorem e2 : makeF T1 (2, 1) [98] true = (T2', (3, 1), 0) := by kernel_rfl
theorem e3 : renameF T2' (1, 1) [97] (3, 1) [99] = (T2', [], 178) := by kernel_rfl
theorem e4 : makeF T2' (1, 1) [120] false = (T3, (4, 1), 0) := by kernel_rfl
theorem e5 : renameF T3 (1, 1) [120] (2, 1) [120] = (T4, [], 0) := by kernel_rfl
theorem e6 : removeF T4 (1, 1) [97] true = (T4, [], 175) := by kernel_rfl
theorem awakeU : law19_awake fuel = some true := by
  have h0 : TreeOK T0 := new_ok
  obtain ⟨m1, h1⟩ := make_eq h0 (1, 1) [97] true
  rw [e1] at m1 h1
  obtain ⟨m2, h2⟩ := make_eq h1 (2, 1) [98] true
  rw [e2] at m2 h2
  obtain ⟨m3, _⟩ := rename_eq h2 (1, 1) [97] (3, 1) [99]
  rw [e3] at m3
  obtain ⟨m4, h4⟩ := make_eq h2 (1, 1) [120] false
  rw [e4] at m4 h4
  obtain ⟨m5, h5⟩ := rename_eq h4 (1, 1) [120] (2, 1) [120]
  rw [e5] at m5 h5
  obtain ⟨m6, _⟩ := remove_eq h5 (1, 1) [97] true
  rw [e6] at m6
  have l1 : tLoo fuel T4 (2, 1) [120] = some (4, 1, 0) := lookup_some h5 (n := (2, 1, true, true, 0, [], 1, [([98], 3), ([120], 4)])) (x := (4, 1, true, false, 0, [], 2, [])) ⟨⟨by decide, rfl, rfl, rfl⟩, rfl⟩ (by simp) rfl
  unfold law19_awake
  rw [show inode_New fuel = some (T0.2, T0.1) from rfl, Option.bind_some, show law19_root fuel = some (1, 1) from rfl]
  simp only [Option.bind_some]
  rw [show ((T0.1, T0.2) : Tree) = T0 from rfl, m1, Option.bind_some]
  simp only
  rw [show ((T1.1, T1.2) : Tree) = T1 from rfl, m2, Option.bind_some]
  simp only
  rw [show ((T2'.1, T2'.2) : Tree) = T2' from rfl, m3, Option.bind_some, m4, Option.bind_some]
  simp only
  rw [show ((T3.1, T3.2) : Tree) = T3 from rfl, m5, Option.bind_some]
  simp only
  rw [show ((T4.1, T4.2) : Tree) = T4 from rfl, l1, Option.bind_some, m6, Option.bind_some]
  rfl
end Go.Ab.D
namespace Go.Ab.D
open Go Go.Ab
theorem pos_of {l : List Ent} (h : Srt l) {i : Nat} {e : Ent} (hi : l[i]? = some e) : pos l e.1 = i := by
  have h1 := lt_pos (s := e.1) h i e hi
  rw [blt_irrefl] at h1
  have hil := (List.getElem?_eq_some_iff.1 hi).1
  have h2 : ¬ i < pos l e.1 := fun hc => by have := h1.1 hc; cases this
  have h3 : ¬ pos l e.1 < i := fun hlt => by
    have hg : l[pos l e.1]? = some (l[pos l e.1]'(by omega)) := List.getElem?_eq_getElem (by omega)
    have h4 := lt_pos (s := e.1) h _ _ hg
    have h5 : blt (l[pos l e.1]'(by omega)).1 e.1 = true := by
      have := List.pairwise_iff_getElem.1 h (pos l e.1) i (by omega) hil hlt
      rw [(List.getElem?_eq_some_iff.1 hi).2] at this
      exact this
    exact absurd (h4.2 h5) (Nat.lt_irrefl _)
  omega
theorem behind_of {l : List Ent} (h : Srt l) {i : Nat} {e : Ent} (hi : l[i]? = some e) : behind l e.1 = l.drop (i + 1) := by
  unfold behind
  rw [pos_of h hi, if_pos (hasN_iff.2 ⟨e.2, List.mem_of_getElem? hi⟩)]
theorem behind_nil {l : List Ent} (h : ∀ e ∈ l, 1 ≤ e.1.length) : behind l [] = l := by
  have h1 : pos l [] = 0 := by
    unfold pos
    cases l with
    | nil => rfl
    | cons a r =>
      rw [List.takeWhile_cons]
      have : blt a.1 [] = false := by unfold blt; cases a.1 <;> rfl
      rw [this]; rfl
  have h2 : hasN l [] = false := by
    cases hh : hasN l [] with
    | false => rfl
    | true => obtain ⟨i, hi⟩ := hasN_iff.1 hh; have := h _ hi; simp at this
  unfold behind
  rw [h1, h2]
  simp
theorem lists_loop {t : Tree} (ht : TreeOK t) {a : Int × Int} {n : Ino} (hn : IsD t.1 a n) {p : Int} (hp : 0 ≤ p ∧ p ≤ 255) :
    ∃ o, law19_TreeLists_1_l0_it fuel ([], (0, (p, (t.1, (t.2, (a.1, (a.2, (n.1, (n.2.1, (n.2.2.1, (n.2.2.2.1, (n.2.2.2.2.1, (n.2.2.2.2.2.1, (n.2.2.2.2.2.2.1, (n.2.2.2.2.2.2.2, []))))))))))))))) = some o ∧
      o = .inl (p, (n.1, (n.2.1, (n.2.2.1, (n.2.2.2.1, (n.2.2.2.2.1, (n.2.2.2.2.2.1, (n.2.2.2.2.2.2.1, (n.2.2.2.2.2.2.2, n.2.2.2.2.2.2.2))))))))) := by
  have hS := ht.srt hn.1
  have hfew := ht.few hn.1
  have hm1 := Int.tmod_lt_of_pos p (show (0 : Int) < 3 by omega)
  have hm0 := Int.tmod_nonneg 3 hp.1
  obtain ⟨m, hm⟩ : ∃ m : Nat, (m : Int) = 1 + Int.tmod p 3 := ⟨(1 + Int.tmod p 3).toNat, by omega⟩
  have hm' : 1 ≤ m ∧ m ≤ 3 := by omega
  unfold law19_TreeLists_1_l0_it
  refine iter_ex (fun k s => ∃ (x : Nat) (after : List UInt8) (all : List Ent), s = (after, ((x : Int), (p, (t.1, (t.2, (a.1, (a.2, (n.1, (n.2.1, (n.2.2.1, (n.2.2.2.1, (n.2.2.2.2.1, (n.2.2.2.2.2.1, (n.2.2.2.2.2.2.1, (n.2.2.2.2.2.2.2, all))))))))))))))) ∧ x + k = 120 ∧ x ≤ all.length ∧ n.2.2.2.2.2.2.2 = all ++ behind n.2.2.2.2.2.2.2 after) _ (fun k s hI => ?_) (fun s hI => ?_) 120 _ (by omega) ⟨0, [], [], rfl, rfl, Nat.zero_le _, by rw [behind_nil fun e he => (ht.ents_ok hn.1.2.1 e he).1]; rfl⟩
  · obtain ⟨x, after, all, rfl, hx, hal, he⟩ := hI
    have hlen : n.2.2.2.2.2.2.2.length = all.length + (behind n.2.2.2.2.2.2.2 after).length := by
      conv => lhs; rw [he]
      exact List.length_append
    unfold law19_TreeLists_1_l0
    rw [decide_eq_true (show (x : Int) < 120 by omega)]
    simp only [cond_true]
    rw [show IntKind.wrap .i64 (1 + IntKind.wrap .i64 (Int.tmod p 3)) = (m : Int) from by rw [w64 (show -9223372036854775808 ≤ Int.tmod p 3 ∧ _ by omega), ← hm, w64 (by omega)], show ((t.1, t.2) : Tree) = t from rfl, show ((a.1, a.2) : Int × Int) = a from rfl, list_some ht after hn (by omega), Option.bind_some]
    simp only [beq_self_eq_true, Bool.not_true, cond_false]
    by_cases hmore : (behind n.2.2.2.2.2.2.2 after).length > m
    · left
      have htl : ((behind n.2.2.2.2.2.2.2 after).take m).length = m := by rw [List.length_take]; omega
      rw [decide_eq_true hmore]
      simp only [cond_true, htl, beq_self_eq_true, Bool.not_true, Option.bind_some, cond_false]
      rw [need_true (by simp only [Bool.and_eq_true, Nat.ble_eq, roomIs]; omega)]
      have hlt : m - 1 < ((behind n.2.2.2.2.2.2.2 after).take m).length := by omega
      obtain ⟨e, hel⟩ : ∃ e, ((behind n.2.2.2.2.2.2.2 after).take m)[m - 1]? = some e := ⟨_, List.getElem?_eq_getElem hlt⟩
      rw [show IntKind.wrap .i64 ((m : Int) - 1) = ((m - 1 : Nat) : Int) from by rw [w64 (by omega)]; omega, idx_nat (by omega), Option.bind_some, hel, Option.bind_some, w64 (by omega)]
      have hat : n.2.2.2.2.2.2.2[all.length + (m - 1)]? = some e := by
        rw [he, List.getElem?_append_right (by omega), ← hel, List.getElem?_take, if_pos (by omega)]
        congr 1
        omega
      refine ⟨_, rfl, x + 1, e.1, all ++ (behind n.2.2.2.2.2.2.2 after).take m, by simp, by omega, by rw [List.length_append, htl]; omega, ?_⟩
      rw [behind_of hS hat, show all.length + (m - 1) + 1 = all.length + m from by omega]
      conv => lhs; rw [he]
      rw [List.append_assoc]
      congr 1
      have : n.2.2.2.2.2.2.2.drop (all.length + m) = (behind n.2.2.2.2.2.2.2 after).drop m := by
        conv => lhs; rw [he]
        rw [List.drop_append, List.drop_eq_nil_of_le (by omega), List.nil_append]
        congr 1
        omega
      rw [this, List.take_append_drop]
    · right
      rw [decide_eq_false hmore]
      simp only [cond_false, Option.bind_some, Bool.not_false, cond_true]
      have htk : (behind n.2.2.2.2.2.2.2 after).take m = behind n.2.2.2.2.2.2.2 after := List.take_of_length_le (by omega)
      rw [need_true (by simp only [Bool.and_eq_true, Nat.ble_eq, roomIs]; rw [htk]; omega), htk, ← he]
      exact ⟨_, rfl, rfl⟩
  · obtain ⟨x, after, all, rfl, hx, hal, he⟩ := hI
    have hlen : n.2.2.2.2.2.2.2.length = all.length + (behind n.2.2.2.2.2.2.2 after).length := by
      conv => lhs; rw [he]
      exact List.length_append
    omega
theorem tell_lists {was t : Tree} {o : OpT} {a b h : Int × Int} {e p : Int} (ht : TreeOK t) (hp : 0 ≤ p ∧ p ≤ 255) : law19_TreeLists_1 fuel was t o a b h e p = some (true, p) := by
  unfold law19_TreeLists_1
  rw [show ((t.1, t.2) : Tree) = t from rfl, show ((a.1, a.2) : Int × Int) = a from rfl]
  rcases isH_em t.1 a with ⟨n, hn⟩ | hn
  · rw [get_some ht.r.fit hn]
    simp only [Option.bind_some, beq_self_eq_true, Bool.not_true, cond_false]
    cases hd : n.2.2.2.1 with
    | false => simp only [Bool.not_false, cond_true]
    | true =>
      simp only [Bool.not_true, cond_false]
      obtain ⟨o', ho, hq⟩ := lists_loop ht ⟨hn, hd⟩ hp
      rw [hd] at ho hq
      rw [ho, hq, Option.bind_some]
      simp only
      rw [sameEntries_self _ (by have := ht.few hn; omega), Option.bind_some]
  · rw [get_none ht.r.fit hn]
    rfl
theorem round_lists {l : List OpT} {k : Nat} {T : Tree} {hs : List (Int × Int)} {p : Int} (hp : 0 ≤ p ∧ p ≤ 255) (hk : k < l.length) (hk40 : k < 40) (hT : TreeOK T) (h1 : 1 ≤ hs.length) (h2 : hs.length ≤ k + 1) :
    ∃ T' hs', law19_played_f11_v2_l0 fuel l (k : Int) p T.1 T.2 hs = some (.inl (((k + 1 : Nat) : Int), (p, (T'.1, (T'.2, hs'))))) ∧ TreeOK T' ∧ 1 ≤ hs'.length ∧ hs'.length ≤ k + 2 := by
  obtain ⟨o, hg⟩ : ∃ o, l[k]? = some o := ⟨_, List.getElem?_eq_getElem hk⟩
  unfold law19_played_f11_v2_l0
  rw [lt_dec hk]
  simp only [cond_true, Option.bind_some]
  rw [decide_eq_true (show (k : Int) < 40 by omega)]
  simp only [cond_true]
  rw [idx_nat hk, Option.bind_some, hg, Option.bind_some, w64 (by omega)]
  by_cases hX : o.2.2.2.1.length > 40
  · rw [decide_eq_true (show ((o.2.2.2.1.length : Nat) : Int) > 40 by omega)]
    exact ⟨T, hs, rfl, hT, h1, by omega⟩
  rw [decide_eq_false (show ¬ ((o.2.2.2.1.length : Nat) : Int) > 40 by omega)]
  by_cases hY : o.2.2.2.2.1.length > 40
  · rw [decide_eq_true (show ((o.2.2.2.2.1.length : Nat) : Int) > 40 by omega)]
    exact ⟨T, hs, rfl, hT, h1, by omega⟩
  rw [decide_eq_false (show ¬ ((o.2.2.2.2.1.length : Nat) : Int) > 40 by omega)]
  simp only [cond_false, Option.bind_some]
  have pa := pickI_lt o.2.1 (n := hs.length) (by omega) (by omega)
  have pb := pickI_lt o.2.2.1 (n := hs.length) (by omega) (by omega)
  have pk := pickI_lt o.1 (n := 4) (by omega) (by omega)
  obtain ⟨a, hga⟩ : ∃ a, hs[(pickI o.2.1 hs.length).toNat]? = some a := ⟨_, List.getElem?_eq_getElem (by omega)⟩
  obtain ⟨b, hgb⟩ : ∃ b, hs[(pickI o.2.2.1 hs.length).toNat]? = some b := ⟨_, List.getElem?_eq_getElem (by omega)⟩
  rw [pickI_ok _ _ (by omega), Option.bind_some, idx_int (by omega) (by omega), Option.bind_some, hga, Option.bind_some, pickI_ok _ _ (by omega), Option.bind_some, idx_int (by omega) (by omega), Option.bind_some, hgb, Option.bind_some, pickI_ok _ _ (by omega), Option.bind_some]
  refine bind_ex (fun r : Option ((Int × (Int × (List Ino × (Int × List (Int × Int))))) ⊕ (Int ⊕ (Bool × Int))) => ∃ T' hs', r = some (.inl (((k + 1 : Nat) : Int), (p, (T'.1, (T'.2, hs'))))) ∧ TreeOK T' ∧ 1 ≤ hs'.length ∧ hs'.length ≤ k + 2)
    (fun v : (Int × (List Ino × (Int × List (Int × Int)))) ⊕ ((Int × (Int × (List Ino × (Int × List (Int × Int))))) ⊕ (Int ⊕ (Bool × Int))) => ∃ T' hs', v = .inl (p, (T'.1, (T'.2, hs'))) ∧ TreeOK T' ∧ 1 ≤ hs'.length ∧ hs'.length ≤ k + 2) ?_ ?_
  rotate_left
  · rintro v ⟨T', hs', rfl, q1, q2, q3⟩
    exact ⟨T', hs', rfl, q1, q2, q3⟩
  refine bind_ex (fun r : Option ((Int × (List Ino × (Int × List (Int × Int)))) ⊕ ((Int × (Int × (List Ino × (Int × List (Int × Int))))) ⊕ (Int ⊕ (Bool × Int)))) => ∃ v, r = some v ∧ ∃ T' hs', v = .inl (p, (T'.1, (T'.2, hs'))) ∧ TreeOK T' ∧ 1 ≤ hs'.length ∧ hs'.length ≤ k + 2)
    (fun v => ∃ t' h e, v = (e, (p, (T.1, (T.2, (hs, (o.1, (o.2.1, (o.2.2.1, (o.2.2.2.1, (o.2.2.2.2.1, (o.2.2.2.2.2, (a.1, (a.2, (b.1, (b.2, (t'.1, (t'.2, (h.1, h.2)))))))))))))))))) ∧ Step T o a b t' h e) ?_ ?_
  · rw [show ((T.1, T.2) : Tree) = T from rfl, show ((a.1, a.2) : Int × Int) = a from rfl, show ((b.1, b.2) : Int × Int) = b from rfl]
    have hpk : pickI o.1 4 = 0 ∨ pickI o.1 4 = 1 ∨ pickI o.1 4 = 2 ∨ pickI o.1 4 = 3 := by omega
    rcases hpk with hk | hk | hk | hk
    · rw [hk, show ((0 : Int) == 0) = true from rfl, cond_true]
      rcases make_cases hT a o.2.2.2.1 o.2.2.2.2.2 with ⟨e, he, hm⟩ | ⟨T', f, n, l', i, hm, m⟩
      · rw [hm]; exact ⟨_, rfl, T, (0, 0), e, rfl, .inl ⟨he, rfl⟩⟩
      · rw [hm]; exact ⟨_, rfl, T', f, 0, rfl, .inr ⟨rfl, .inl ⟨hk, n, l', i, m⟩⟩⟩
    · rw [hk, show ((1 : Int) == 0) = false from rfl, cond_false, show ((1 : Int) == 1) = true from rfl, cond_true]
      rcases remove_cases hT a o.2.2.2.1 o.2.2.2.2.2 with ⟨e, he, hm⟩ | ⟨T', gone, n, id, x, hm, m⟩
      · rw [hm]; exact ⟨_, rfl, T, (0, 0), e, rfl, .inl ⟨he, rfl⟩⟩
      · rw [hm]; exact ⟨_, rfl, T', (0, 0), 0, rfl, .inr ⟨rfl, .inr (.inl ⟨hk, gone, n, id, x, m⟩)⟩⟩
    · rw [hk, show ((2 : Int) == 0) = false from rfl, cond_false, show ((2 : Int) == 1) = false from rfl, cond_false, show ((2 : Int) == 2) = true from rfl, cond_true]
      rcases rename_cases hT a o.2.2.2.1 b o.2.2.2.2.1 with ⟨e, he, hm⟩ | ⟨T', gone, id, x, hm, m⟩
      · rw [hm]; exact ⟨_, rfl, T, (0, 0), e, rfl, .inl ⟨he, rfl⟩⟩
      · rw [hm]; exact ⟨_, rfl, T', (0, 0), 0, rfl, .inr ⟨rfl, .inr (.inr (.inl ⟨hk, gone, id, x, m⟩))⟩⟩
    · rw [hk, show ((3 : Int) == 0) = false from rfl, cond_false, show ((3 : Int) == 1) = false from rfl, cond_false, show ((3 : Int) == 2) = false from rfl, cond_false]
      rcases lookup_cases hT a o.2.2.2.1 with ⟨f, _, hm⟩ | ⟨e, he, hm, _⟩
      · rw [hm]; exact ⟨_, rfl, T, f, 0, rfl, .inr ⟨rfl, .inr (.inr (.inr ⟨hk, rfl⟩))⟩⟩
      · rw [hm]; exact ⟨_, rfl, T, (0, 0), e, rfl, .inl ⟨he, rfl⟩⟩
  · rintro v ⟨t', h, e, rfl, hs'⟩
    simp only
    have e0 : law19_TreeLists_1 fuel (T.1, T.2) (t'.1, t'.2) (o.1, (o.2.1, (o.2.2.1, (o.2.2.2.1, (o.2.2.2.2.1, o.2.2.2.2.2))))) (a.1, a.2) (b.1, b.2) (h.1, h.2) e p = some (true, p) := tell_lists (hs'.tree hT) hp
    rw [e0, Option.bind_some]
    simp only [Bool.not_true, cond_false]
    have hlast : ∀ c : Bool, ∃ T' hs'', (Option.bind (α := (Int × (List Ino × (Int × (List (Int × Int) × (List Ino × Int)))))) (bif c then need ((Nat.ble ((hs.length + 1) * 16) room) && (Nat.ble (hs.length + 1) room)) (some (p, (T.1, (T.2, ((hs ++ [(h.1, h.2)]), (t'.1, t'.2)))))) else some (p, (T.1, (T.2, (hs, (t'.1, t'.2)))))) fun o6 =>
        some ((.inl (o6.1, (o6.2.2.2.2.1, (o6.2.2.2.2.2, o6.2.2.2.1))) : (Int × (List Ino × (Int × List (Int × Int)))) ⊕ ((Int × (Int × (List Ino × (Int × List (Int × Int))))) ⊕ (Int ⊕ (Bool × Int))))) ) = some (.inl (p, (T'.1, (T'.2, hs'')))) ∧ TreeOK T' ∧ 1 ≤ hs''.length ∧ hs''.length ≤ k + 2 := by
      intro c
      cases c with
      | false => exact ⟨t', hs, rfl, hs'.tree hT, h1, by omega⟩
      | true =>
        simp only [cond_true]
        rw [need_true (by simp only [Bool.and_eq_true, Nat.ble_eq, roomIs]; omega)]
        exact ⟨t', hs ++ [(h.1, h.2)], rfl, hs'.tree hT, by simp, by simp; omega⟩
    cases he : (e == 0) with
    | true =>
      simp only [cond_true, Option.bind_some]
      obtain ⟨T', hs'', q1, q2, q3, q4⟩ := hlast (decide (h.1 > 0))
      rw [q1]
      exact ⟨_, rfl, T', hs'', rfl, q2, q3, q4⟩
    | false =>
      simp only [cond_false, Option.bind_some]
      exact ⟨_, rfl, t', hs, rfl, hs'.tree hT, h1, by omega⟩
theorem played_lists (l : List OpT) {p : Int} (hp : 0 ≤ p ∧ p ≤ 255) : law19_played_f11_v2 fuel l p = some (true, p) := by
  unfold law19_played_f11_v2 law19_played_f11_v2_l0_it
  obtain ⟨o, ho, hq⟩ : ∃ o, iter fuel (fun tt => law19_played_f11_v2_l0 fuel l tt.1 tt.2.1 tt.2.2.1 tt.2.2.2.1 tt.2.2.2.2) (0, (p, (([(1, 1, true, true, 0, [], 1, [])] : List Ino), ((0 : Int), [((1 : Int), (1 : Int))])))) = some o ∧ o = .inl p := by
    refine iter_ex (fun n s => ∃ (k : Nat) (T : Tree) (hs : List (Int × Int)), s = ((k : Int), (p, (T.1, (T.2, hs)))) ∧ k + n = 40 ∧ TreeOK T ∧ 1 ≤ hs.length ∧ hs.length ≤ k + 1) _ (fun n s hI => ?_) (fun s hI => ?_) 40 _ (by omega) ⟨0, _, _, rfl, by omega, new_ok, by simp, by simp⟩
    · obtain ⟨k, T, hs, rfl, hk, hT, h1, h2⟩ := hI
      by_cases hkl : k < l.length
      · left
        obtain ⟨T', hs', q1, q2, q3, q4⟩ := round_lists hp hkl (by omega) hT h1 h2
        exact ⟨_, q1, k + 1, T', hs', rfl, by omega, q2, q3, q4⟩
      · right
        refine ⟨_, ?_, rfl⟩
        show law19_played_f11_v2_l0 fuel l (k : Int) p T.1 T.2 hs = _
        unfold law19_played_f11_v2_l0
        rw [nlt_dec hkl]
        simp only [cond_false, Option.bind_some]
    · obtain ⟨k, T, hs, rfl, hk, hT, h1, h2⟩ := hI
      refine ⟨_, ?_, rfl⟩
      show law19_played_f11_v2_l0 fuel l (k : Int) p T.1 T.2 hs = _
      unfold law19_played_f11_v2_l0
      by_cases hkl : k < l.length
      · rw [lt_dec hkl]
        simp only [cond_true, Option.bind_some]
        rw [decide_eq_false (show ¬ (k : Int) < 40 by omega)]
        simp only [cond_false]
      · rw [nlt_dec hkl]
        simp only [cond_false, Option.bind_some]
  rw [show inode_New fuel = some (0, [(1, 1, true, true, 0, [], 1, [])]) from rfl, Option.bind_some, show law19_root fuel = some (1, 1) from rfl, Option.bind_some]
  simp only
  rw [ho, hq]
  rfl
theorem law19_TreeLists_true (l : List OpT) (piece : Int) (_k0 : OkV (.sl qY26) l) (k1 : OkV (.int .u8) piece) : law19_TreeLists fuel l piece = some true := by
  have h : IntKind.u8.min ≤ piece ∧ piece ≤ IntKind.u8.max := k1
  have h0 : IntKind.u8.min = 0 := rfl
  have h2 : IntKind.u8.max = 255 := rfl
  rw [h0, h2] at h
  unfold law19_TreeLists
  rw [played_lists l h, Option.bind_some]
  simp only [cond_true]
  rw [awakeU, Option.bind_some]
end Go.Ab.D
