/- Arguments: what can be read as data stands for a typed value. -/
import Derived.Test.YtplahfhggnkahaaA34
import Derived.DataReads
set_option linter.all false
namespace Go.Ab

/-- In its kind's bounds; no list too long. -/
def OkV : (t : Ty) → t.den → Prop
  | .int k, n => k.min ≤ n ∧ n ≤ k.max
  | .byte, _ => True
  | .bool, _ => True
  | .str, l => List.length (α := UInt8) l ≤ maxLen
  | .opq, _ => False
  | .nat, _ => False
  | .sl t, l => List.length (α := t.den) l ≤ maxLen ∧ ∀ x ∈ (show List t.den from l), OkV t x
  | .one t, x => OkV t x
  | .pair a b, x => OkV a x.1 ∧ OkV b x.2
  | .arr n t, l => List.length (α := t.den) l = n ∧ ∀ x ∈ (show List t.den from l), OkV t x

section
variable (P : Program)
def readFs (f : TypeId → Ty → Bool) : List Field → Nat → Ty → Bool
  | [x], o, u => Nat.beq x.offset o && Nat.beq (P.cellsOf x.type) u.cells && f x.type u
  | x :: r, o, .pair a b => Nat.beq x.offset o && Nat.beq (P.cellsOf x.type) a.cells && f x.type a && readFs f r (o + a.cells) b
  | _, _, _ => false
/-- Do readings of type t stand for values of u? -/
def readT : Nat → TypeId → Ty → Bool
  | 0, _, _ => false
  | n + 1, t, u => match P.underlying t, u with
    | some (.int k), .int k' => decide (k = k')
    | some (.int k), .byte => decide (k = .u8)
    | some .bool, .bool => true
    | some .string, .str => true
    | some (.slice e), .sl v => Nat.beq (P.cellsOf e) v.cells && Nat.blt 0 v.cells && readT n e v
    | some (.struct fs), .one v => Nat.beq (P.cellsOf t) v.cells && readFs P (readT n) fs.toList 0 v
    | some (.struct fs), .pair a b => Nat.beq (P.cellsOf t) (Ty.pair a b).cells && readFs P (readT n) fs.toList 0 (.pair a b)
    | some (.array m e), .arr m' v => Nat.beq m m' && Nat.beq (P.cellsOf t) (m * v.cells) && Nat.beq (P.cellsOf e) v.cells && readT n e v
    | _, _ => false
end

theorem pieces_flatten {α : Type} (k : Nat) : ∀ (n : Nat) (cs : List α), cs.length = n * k → ((List.range n).map fun i => (cs.drop (i * k)).take k).flatten = cs
  | 0, cs, h => by
    have : cs = [] := List.eq_nil_of_length_eq_zero (by simpa using h)
    simp [this]
  | n + 1, cs, h => by
    rw [List.range_succ_eq_map, List.map_cons, List.flatten_cons, List.map_map]
    have e : ((List.range n).map ((fun i => (cs.drop (i * k)).take k) ∘ Nat.succ)) = (List.range n).map fun i => ((cs.drop k).drop (i * k)).take k := by
      refine List.map_congr_left fun i _ => ?_
      simp only [Function.comp, List.drop_drop]
      congr 2
      rw [Nat.succ_mul, Nat.add_comm]
    rw [e, pieces_flatten k n (cs.drop k) (by rw [List.length_drop, h, Nat.succ_mul]; omega)]
    simp
theorem choose_list {α : Type} {Q : Nat → α → Prop} : ∀ (n : Nat), (∀ i, i < n → ∃ x, Q i x) → ∃ l : List α, l.length = n ∧ ∀ (i : Nat) x, l[i]? = some x → Q i x
  | 0, _ => ⟨[], rfl, fun i x h => by simp at h⟩
  | n + 1, h => by
    obtain ⟨l, h1, h2⟩ := choose_list n fun i hi => h i (by omega)
    obtain ⟨x, hx⟩ := h n (by omega)
    refine ⟨l ++ [x], by simp [h1], fun i y hy => ?_⟩
    rw [List.getElem?_append] at hy
    split at hy
    · exact h2 i y hy
    · rename_i hlt
      have : i = n := by
        have := (List.getElem?_eq_some_iff.1 hy).1
        simp at this
        omega
      subst this
      simp [h1] at hy
      rw [← hy]
      exact hx
section
variable {P : Program} {H : Type} {enc : TypeId × Value → H} {w : World} {sp : Nat → Bool} {held : Bool}
theorem readFs_ok {f : TypeId → Ty → Bool} {n : Nat} {cs : List Value} (hf : ∀ (x : Field) u, f x.type u = true → P.cellsOf x.type = u.cells → (∃ y, DataW.trod enc P w 0 sp held n x.type ((cs.drop x.offset).take (P.cellsOf x.type)) = some y) →
      ∃ v : u.den, Cl w (fun _ => False) u v ((cs.drop x.offset).take (P.cellsOf x.type)) ∧ OkV u v) :
    ∀ (fs : List Field) (o : Nat) (u : Ty), readFs P f fs o u = true → (∀ x ∈ fs, ∃ y, DataW.trod enc P w 0 sp held n x.type ((cs.drop x.offset).take (P.cellsOf x.type)) = some y) → ∃ v : u.den, Cl w (fun _ => False) u v ((cs.drop o).take u.cells) ∧ OkV u v
  | [], o, u, h, _ => by cases u <;> cases h
  | [x], o, u, h, hs => by
    have h : (Nat.beq x.offset o && Nat.beq (P.cellsOf x.type) u.cells && f x.type u) = true := by cases u <;> exact h
    simp only [Bool.and_eq_true, beq_nat] at h
    obtain ⟨⟨rfl, h2⟩, h3⟩ := h
    have := hf x u h3 h2 (hs x List.mem_cons_self)
    rwa [h2] at this
  | x :: y :: r, o, u, h, hs => by
    cases u with
    | pair a b =>
      have h : (Nat.beq x.offset o && Nat.beq (P.cellsOf x.type) a.cells && f x.type a && readFs P f (y :: r) (o + a.cells) b) = true := h
      simp only [Bool.and_eq_true, beq_nat] at h
      obtain ⟨⟨⟨rfl, h2⟩, h3⟩, h4⟩ := h
      obtain ⟨v1, c1, k1⟩ := hf x a h3 h2 (hs x List.mem_cons_self)
      obtain ⟨v2, c2, k2⟩ := readFs_ok hf (y :: r) (x.offset + a.cells) b h4 fun z hz => hs z (List.mem_cons_of_mem _ hz)
      refine ⟨(v1, v2), ⟨_, _, ?_, c1, c2⟩, k1, k2⟩
      rw [h2, show (Ty.pair a b).cells = a.cells + b.cells from rfl, List.take_add, List.drop_drop]
    | _ => cases h
theorem cells_get {a : Addr} {n : Nat} {cs : List Value} (h : w.cells? 0 a n = some cs) : cs.length = n ∧ ∀ (j : Nat) v, cs[j]? = some v → w.cell? (a.add j) = some v := by
  unfold World.cells? at h
  rw [if_pos (Nat.zero_le _)] at h
  have hl := mapM_some_length h
  simp only [List.length_range] at hl
  refine ⟨hl, fun j v hj => ?_⟩
  have hlt : j < n := by have := (List.getElem?_eq_some_iff.1 hj).1; omega
  have := mapM_some_get h j j (by simp [hlt])
  rw [this, hj]
theorem cell_spot {a : Addr} {v : Value} (h : w.cell? a = some v) : a.spot = none ∧ a.block < w.heap.size := by
  unfold World.cell? at h
  split at h
  · rename_i c _ _ hb
    split at h
    · cases h
    · rename_i hs
      refine ⟨by cases hsp : a.spot <;> simp [hsp] at hs ⊢, (Array.getElem?_eq_some_iff.1 hb).1⟩
  · cases h
theorem trod_one {fuel : Nat} {t : TypeId} {cs : List Value} {y : DataW H × List MemPlace} {d : TypeDesc} (hu : P.underlying t = some d) (hd : DataW.trod enc P w 0 sp held (fuel + 1) t cs = some y) (hr : d.isRow = false) : ∃ v, cs = [v] := by
  unfold DataW.trod at hd
  rw [hu] at hd
  rcases cs with _ | ⟨v, _ | ⟨v2, cs⟩⟩
  · cases d <;> first | (cases hd; done) | cases hr
  · exact ⟨v, rfl⟩
  · cases d <;> cases v <;> first | (cases hd; done) | (cases hr; done) | (simp at hd; done) | (split at hd <;> first | (cases hd; done) | (simp_all; done))
/-- What is read is a typed value's cells. -/
theorem trod_cl : ∀ (n : Nat) (t : TypeId) (u : Ty), readT P n t u = true → ∀ (fuel : Nat) (cs : List Value) (d : DataW H) (ps : List MemPlace), DataW.trod enc P w 0 sp held fuel t cs = some (d, ps) →
    ∃ x : u.den, Cl w (fun _ => False) u x cs ∧ OkV u x
  | 0, t, u, h, fuel, cs, d, ps, hd => by cases h
  | n + 1, t, u, h, 0, cs, d, ps, hd => by cases hd
  | n + 1, t, u, h, fuel + 1, cs, d, ps, hd => by
    unfold readT at h
    split at h
    · rename_i k k' hu
      simp only [decide_eq_true_eq] at h
      subst h
      obtain ⟨v, rfl⟩ := trod_one hu hd rfl
      unfold DataW.trod at hd
      rw [hu] at hd
      cases v <;> first | (cases hd; done) | skip
      rename_i k' m
      simp only at hd
      split at hd
      · rename_i hw
        obtain ⟨rfl, hw⟩ := hw
        have hb : k'.min ≤ m ∧ m ≤ k'.max := by simpa [Lit.wf] using hw
        exact ⟨m, rfl, hb⟩
      · cases hd
    · rename_i k hu
      simp only [decide_eq_true_eq] at h
      subst h
      obtain ⟨v, rfl⟩ := trod_one hu hd rfl
      unfold DataW.trod at hd
      rw [hu] at hd
      cases v <;> first | (cases hd; done) | skip
      rename_i k' m
      simp only at hd
      split at hd
      · rename_i hw
        obtain ⟨rfl, hw⟩ := hw
        have hb : 0 ≤ m ∧ m ≤ 255 := by simpa [Lit.wf, IntKind.min, IntKind.max, IntKind.signed, IntKind.bits] using hw
        refine ⟨UInt8.ofNat m.toNat, ?_, trivial⟩
        show [Value.int .u8 m] = [Value.int .u8 ((UInt8.ofNat m.toNat).toNat : Int)]
        have : ((UInt8.ofNat m.toNat).toNat : Int) = m := by
          rw [UInt8.toNat_ofNat']
          omega
        rw [this]
      · cases hd
    · rename_i hu
      obtain ⟨v, rfl⟩ := trod_one hu hd rfl
      unfold DataW.trod at hd
      rw [hu] at hd
      cases v <;> first | (cases hd; done) | skip
      rename_i b
      exact ⟨b, rfl, trivial⟩
    · rename_i hu
      obtain ⟨v, rfl⟩ := trod_one hu hd rfl
      unfold DataW.trod at hd
      rw [hu] at hd
      cases v <;> first | (cases hd; done) | skip
      rename_i s
      simp only at hd
      split at hd
      · rename_i hs
        have hb : s.data.toList.length ≤ maxLen := hs
        exact ⟨s.data.toList, rfl, hb⟩
      · cases hd
    · rename_i e v hu
      simp only [Bool.and_eq_true, beq_nat, Nat.blt_eq] at h
      obtain ⟨⟨h1, h2⟩, h3⟩ := h
      obtain ⟨x, rfl⟩ := trod_one hu hd rfl
      unfold DataW.trod at hd
      rw [hu] at hd
      cases x <;> first | (cases hd; done) | skip
      rename_i A len cap
      cases A with
      | none =>
        cases len with
        | succ k => cases hd
        | zero => cases cap with
          | succ k => cases hd
          | zero => exact ⟨([] : List v.den), ⟨none, 0, rfl, by simp, by unfold maxLen; omega, fun _ => rfl, fun h => absurd rfl h⟩, by simp, fun x hx => by cases hx⟩
      | some a =>
        simp only at hd
        split at hd
        · rename_i hb
          obtain ⟨_, hb1, hb2⟩ := hb
          obtain ⟨elems, he, _⟩ := Option.bind_eq_some_iff.1 hd
          have hlen := mapM_some_length he
          simp only [List.length_range] at hlen
          have hel : ∀ i, i < len → ∃ cs, w.cells? 0 (a.add (i * P.cellsOf e)) (P.cellsOf e) = some cs ∧ ∃ x : v.den, Cl w (fun _ => False) v x cs ∧ OkV v x := fun i hi => by
            have := mapM_some_get he i i (by simp [hi])
            rw [List.getElem?_eq_getElem (by omega)] at this
            obtain ⟨cs, c1, c2⟩ := Option.bind_eq_some_iff.1 this
            exact ⟨cs, c1, trod_cl n e v h3 fuel cs _ _ c2⟩
          obtain ⟨l, l1, l2⟩ := choose_list (Q := fun i (x : v.den) => ∃ cs, w.cells? 0 (a.add (i * P.cellsOf e)) (P.cellsOf e) = some cs ∧ Cl w (fun _ => False) v x cs ∧ OkV v x) len fun i hi => by
            obtain ⟨cs, c1, x, c2, c3⟩ := hel i hi
            exact ⟨x, cs, c1, c2, c3⟩
          have hl : List.length (α := v.den) l = len := l1
          refine ⟨(show (Ty.sl v).den from l), ⟨some a, cap, by show [Value.slice (some a) len cap] = [Value.slice (some a) (List.length (α := v.den) l) cap]; rw [hl], by show List.length (α := v.den) l ≤ cap; rw [hl]; exact hb1, hb2, (fun h => by cases h), fun hne => ?_⟩, by show List.length (α := v.den) l ≤ maxLen; rw [hl]; omega, fun x hx => ?_⟩
          · have hpos : 0 < len := by
              have : List.length (α := v.den) l ≠ 0 := hne
              omega
            obtain ⟨cs, c1, _⟩ := hel 0 hpos
            rw [Nat.zero_mul] at c1
            obtain ⟨g1, g2⟩ := cells_get c1
            have hcs : ∃ y, cs[0]? = some y := ⟨_, List.getElem?_eq_getElem (by omega)⟩
            obtain ⟨y, hy⟩ := hcs
            have hc := cell_spot (g2 0 y hy)
            have ha0 : ((a.add 0).add 0) = a := rfl
            rw [ha0] at hc
            obtain ⟨b, off, spot⟩ := a
            simp only at hc
            obtain ⟨rfl, hblk⟩ := hc
            refine ⟨b, off, rfl, fun h => h, hblk, fun i x hx => ?_⟩
            obtain ⟨cs, c1, c2, c3⟩ := l2 i x hx
            refine ⟨cs, c2, fun j y hj => ?_⟩
            have := (cells_get c1).2 j y hj
            rw [Addr.add_mid, Addr.add_mid] at this
            rw [← h1]
            exact this
          · obtain ⟨i, hi⟩ := List.getElem?_of_mem hx
            obtain ⟨cs, _, _, c3⟩ := l2 i x hi
            exact c3
        · cases hd
    · rename_i fs v hu
      simp only [Bool.and_eq_true, beq_nat] at h
      unfold DataW.trod at hd
      rw [hu] at hd
      simp only at hd
      split at hd
      · rename_i hl
        obtain ⟨xs, hx, _⟩ := Option.map_eq_some_iff.1 hd
        obtain ⟨y, c1, c2⟩ := readFs_ok (n := fuel) (f := readT P n) (fun x u hf _ hz => by obtain ⟨z, hz⟩ := hz; exact trod_cl n x.type u hf fuel _ z.1 z.2 hz) fs.toList 0 v h.2 fun x hx' => by
          obtain ⟨i, hi⟩ := List.getElem?_of_mem hx'
          have := mapM_some_get hx i x hi
          rw [List.getElem?_eq_getElem (by rw [mapM_some_length hx]; exact (List.getElem?_eq_some_iff.1 hi).1)] at this
          exact ⟨_, this⟩
        refine ⟨y, ?_, c2⟩
        rw [List.drop_zero, List.take_of_length_le (by omega)] at c1
        exact c1
      · cases hd
    · rename_i fs a b hu
      simp only [Bool.and_eq_true, beq_nat] at h
      unfold DataW.trod at hd
      rw [hu] at hd
      simp only at hd
      split at hd
      · rename_i hl
        obtain ⟨xs, hx, _⟩ := Option.map_eq_some_iff.1 hd
        obtain ⟨y, c1, c2⟩ := readFs_ok (n := fuel) (f := readT P n) (fun x u hf _ hz => by obtain ⟨z, hz⟩ := hz; exact trod_cl n x.type u hf fuel _ z.1 z.2 hz) fs.toList 0 (.pair a b) h.2 fun x hx' => by
          obtain ⟨i, hi⟩ := List.getElem?_of_mem hx'
          have := mapM_some_get hx i x hi
          rw [List.getElem?_eq_getElem (by rw [mapM_some_length hx]; exact (List.getElem?_eq_some_iff.1 hi).1)] at this
          exact ⟨_, this⟩
        refine ⟨y, ?_, c2⟩
        rw [List.drop_zero, List.take_of_length_le (by omega)] at c1
        exact c1
      · cases hd
    · rename_i m e m' v hu
      simp only [Bool.and_eq_true, beq_nat] at h
      obtain ⟨⟨⟨rfl, h1⟩, h2⟩, h3⟩ := h
      unfold DataW.trod at hd
      rw [hu] at hd
      simp only at hd
      split at hd
      · rename_i hl
        obtain ⟨xs, hx, _⟩ := Option.map_eq_some_iff.1 hd
        have hlen := mapM_some_length hx
        simp only [List.length_range] at hlen
        obtain ⟨l, l1, l2⟩ := choose_list (Q := fun i (x : v.den) => Cl w (fun _ => False) v x ((cs.drop (i * v.cells)).take v.cells) ∧ OkV v x) m fun i hi => by
          have := mapM_some_get hx i i (by simp [hi])
          rw [List.getElem?_eq_getElem (by omega)] at this
          obtain ⟨x, c1, c2⟩ := trod_cl n e v h3 fuel _ _ _ this
          rw [h2] at c1
          exact ⟨x, c1, c2⟩
        refine ⟨(show (Ty.arr m v).den from l), ⟨l1, (List.range m).map fun i => (cs.drop (i * v.cells)).take v.cells, by simp, (pieces_flatten v.cells m cs (by rw [hl, h1])).symm, fun i x c hx hc => ?_⟩, l1, fun x hx => ?_⟩
        · have hi : i < m := by have := (List.getElem?_eq_some_iff.1 hc).1; simpa using this
          rw [List.getElem?_map, List.getElem?_range hi] at hc
          simp only [Option.map_some, Option.some.injEq] at hc
          rw [← hc]
          exact (l2 i x hx).1
        · obtain ⟨i, hi⟩ := List.getElem?_of_mem hx
          exact (l2 i x hi).2
      · cases hd
    · cases h

/-- A value that is read is a typed one. -/
theorem trod_v {n : Nat} {t : TypeId} {u : Ty} (h : readT P n t u = true) (hf : formOk P t u = true) {base : Nat} {v : Value} {d : DataW H} {ps : List MemPlace} (hw : Value.okWide P w .any base t v) (hd : DataW.Trod enc P w 0 sp held t v d ps) :
    ∃ x : u.den, VRep w (fun _ => False) u x v ∧ OkV u x := by
  obtain ⟨fuel, hd⟩ := hd
  obtain ⟨x, h1, h2⟩ := trod_cl n t u h fuel _ d ps hd
  refine ⟨x, ⟨v.cells.toList, h1, ?_⟩, h2⟩
  unfold formOk at hf
  simp only [Bool.and_eq_true, Bool.not_eq_true'] at hf
  obtain ⟨_, hf⟩ := hf
  unfold Value.okWide at hw
  cases hg : u.isAgg <;> rw [hg] at hf
  · simp only [bq_false] at hf
    have hlen := h1.len
    obtain ⟨dd, hdd, hrow⟩ := isScal_row hf
    cases v with
    | agg cs =>
      exfalso
      unfold isScal at hf
      rw [hdd] at hf hw
      cases dd <;> first | (cases hf; done) | (simp [Cell.okWide, Cell.ok, hdd] at hw; done)
    | tuple cs =>
      exfalso
      unfold isScal at hf
      rw [hdd] at hf hw
      cases dd <;> first | (cases hf; done) | (simp [Cell.okWide, Cell.ok, hdd] at hw; done)
    | _ => rfl
  · simp only [bq_true] at hf
    obtain ⟨dd, hdd, hrow⟩ := isAggT_row hf
    unfold isAggT at hf
    rw [hdd] at hf hw
    cases dd <;> first | (cases hf; done) | skip
    · obtain ⟨cs, rfl, _⟩ := hw; rfl
    · obtain ⟨cs, rfl, _⟩ := hw; rfl
/-- A law that is told: it yields true, and what was there is as it was. -/
theorem law_of_told {f : FuncId} {ks : KdL} {spec : Shp.D ⟨ks, []⟩ → Option (OutS [⟨.cons (.p .bool) .nil, []⟩])} (hT : Told P ⟨f, ⟨ks, []⟩, [⟨.cons (.p .bool) .nil, []⟩], spec⟩) {t : Shp.D ⟨ks, []⟩} (hs : spec t = some true) {vals : List Value}
    (hv : AReps ⟨w, fun _ => False, fun _ => False, fun _ => .no, fun _ => False⟩ (Shp.emb ⟨ks, []⟩ t).1 vals) : Calls P f vals.toArray w fun e w' => e = .returned (.bool true) ∧ RowKit.Below w.heap.size w w' := by
  refine (hT.spec t true hs ⟨w, fun _ => False, fun _ => False, fun _ => .no, fun _ => False⟩ vals ⟨fun id e h => by simp [Shp.emb, embH, hget] at h, fun i i' e e' g sz n g' sz' n' _ h => by simp [Shp.emb, embH, hget] at h, fun id _ => .inl rfl, fun g h => h⟩ hv fun _ h => h).mono ?_
  rintro en w' ⟨v, z', rfl, rfl, hn, _, ho⟩
  obtain ⟨_, ho⟩ := ho
  have ho : ARep z' (.p .bool true) v := ho
  refine ⟨by rw [ho.v.bool], ⟨hn.os, hn.tape, hn.output, hn.size, fun b hb => hn.block b hb fun h => h⟩⟩
end
end Go.Ab
