/- Regions that draw their order: what the run in the order of the text says of each operation. -/
import Derived.Test.YtplahfhggnkahaaA29
import Derived.Orders
set_option linter.all false
namespace Go.Ab

section
variable {P : Program} {T : Tbl} {z : Z} {H : Hp} {β : Type} {all : List Oper} {ops : Array Oper}
theorem map_congr' {α β : Type} {f g : α → β} {l : List α} (h : ∀ x ∈ l, f x = g x) : l.map f = l.map g := List.map_congr_left h
theorem evR_congr {o : Oper} {r r' : Operand → AV} {K : AV → Option β} (h : ∀ x ∈ o.op.operands, r x = r' x) : evR P o r H K = evR P o r' H K := by
  obtain ⟨dst, op, type, pos, after, guard⟩ := o
  cases op <;> simp only [Op.operands] at h <;> simp only [evR]
  case build t ps =>
    have e : (ps.toList.map fun x => (x.1, r x.2)) = ps.toList.map fun x => (x.1, r' x.2) := map_congr' fun x hx => by
      rw [h x.2 (by simp only [List.mem_toArray, List.mem_map]; exact ⟨x, hx, rfl⟩)]
    rw [e]
  case makeFunc f a c =>
    have e1 : a.toList.map r = a.toList.map r' := map_congr' fun x hx => h x (by simp [Array.mem_toList_iff.1 hx])
    have e2 : c.toList.map r = c.toList.map r' := map_congr' fun x hx => h x (by simp [Array.mem_toList_iff.1 hx])
    cases f <;> simp only [e1, e2]
  case slice t x lo hi mx => cases lo <;> cases hi <;> cases mx <;> simp_all
  case call c =>
    have e1 : c.args.toList.map r = c.args.toList.map r' := map_congr' fun x hx => h x (by simp [Call.operands, Array.mem_toList_iff.1 hx])
    have e2 : ∀ a, c.args.toList = [a] → r a = r' a := fun a ha => by
      rw [ha] at e1
      simpa using e1
    rw [e1]
    split
    · split
      · rename_i a t ha _; rw [e2 a ha]
      · rfl
    · split
      · rename_i a t ha _; rw [e2 a ha]
      · rfl
    · rfl
    · rfl
    · rfl
  all_goals (first | rfl | (simp_all; done) | (split <;> simp_all; done))
theorem evW_congr {o : Oper} {an : Ann} {r r' : Operand → AV} {K : AV → Hp → Option β} (h : ∀ x ∈ o.op.operands, r x = r' x) : evW P T o an r H K = evW P T o an r' H K := by
  obtain ⟨dst, op, type, pos, after, guard⟩ := o
  cases op <;> simp only [Op.operands] at h <;> simp only [evW]
  case buildSlice t n ps =>
    have e : (ps.toList.map fun x => (x.1, r x.2)) = ps.toList.map fun x => (x.1, r' x.2) := map_congr' fun x hx => by
      rw [h x.2 (by simp only [List.mem_toArray, List.mem_map]; exact ⟨x, hx, rfl⟩)]
    rw [e]
  case makeMap t q => cases q <;> simp_all
  case call c =>
    have e1 : c.args.toList.map r = c.args.toList.map r' := map_congr' fun x hx => h x (by simp [Call.operands, Array.mem_toList_iff.1 hx])
    have e2 : ∀ a b, c.args.toList = [a, b] → r a = r' a ∧ r b = r' b := fun a b ha => by
      rw [ha] at e1
      simpa using e1
    split
    · split
      · rename_i a b t u ha _; rw [(e2 a b ha).1, (e2 a b ha).2]
      · rfl
    · split
      · rename_i a b t _ ha _; rw [(e2 a b ha).1, (e2 a b ha).2]
      · rfl
    · split
      · rename_i a b t _ ha _; rw [(e2 a b ha).1, (e2 a b ha).2]
      · rfl
    · rename_i f hc
      rw [e1, h f (by simp [Call.operands, hc])]
    · rfl
  all_goals (first | rfl | (simp_all; done) | (split <;> simp_all; done))
theorem foot_congr {o : Oper} {an : Ann} {r r' : Operand → AV} (h : ∀ x ∈ o.op.operands, r x = r' x) : foot o an r = foot o an r' := by
  unfold foot
  rw [map_congr' (f := r) (g := r') (l := o.op.operands.toList) fun x hx => h x (Array.mem_toList_iff.1 hx)]

/-! Records -/
structure Rc where
  i : Nat
  o : Oper
  an : Ann
  /-- the slots ahead of it -/
  pre : Nat → AV
  /-- the state ahead of it, its guard looked at -/
  st : St
  go : Bool
  x : AV
  H2 : Option Hp
def Rc.ft (r : Rc) : List Nat := foot r.o r.an r.st.opnd
def Rc.tmE (t : Nat) (r : Rc) : Option AV := if r.o.dst = some t then some r.x else none
def Rc.hpE (id : Nat) (r : Rc) : Option (Bool × Option Ent) :=
  match r.H2 with
  | some H2 => if memN id r.ft = true then some (true, if hkey H2 id = true then hget H2 id else none) else none
  | none => none
def layF {ν : Type} (f : Rc → Option ν) : List Rc → ν → ν
  | [], b => b
  | r :: l, b => layF f l ((f r).getD b)
def hpAt (H : Hp) (id : Nat) : Bool × Option Ent := (hkey H id, hget H id)
structure Rc.Ok (P : Program) (T : Tbl) (all : List Oper) (r : Rc) : Prop where
  dst : dstOk r.st.nt r.o.dst = true
  grd : GuardIs all r.o r.pre r.go
  le : ∀ t, Le (r.pre t) (r.st.tm.get t)
  no : r.go = false → r.x = .tup [] ∧ r.H2 = none
  yes : r.go = true → (isR P r.o = true ∧ evR P r.o r.st.opnd (hsub r.st.hp r.ft) some = some r.x ∧ r.H2 = none) ∨
    (isR P r.o = false ∧ (mkOp P r.o = true → r.an.ids ≠ []) ∧ ltAll 3 r.an.md = true ∧ ∃ Hr, r.H2 = some Hr ∧ evW P T r.o r.an r.st.opnd (hsub r.st.hp r.ft) (fun x H => some (x, H)) = some (r.x, Hr) ∧ allIn (hkeys Hr) r.ft = true)
def fpsOf (P : Program) : List Rc → List Fp
  | [] => []
  | r :: l => if r.go = true then ⟨r.i, r.ft, !isR P r.o⟩ :: fpsOf P l else fpsOf P l

theorem layF_le {t : Nat} : ∀ {l : List Rc} {a b : AV}, Le a b → Le (layF (Rc.tmE t) l a) (layF (Rc.tmE t) l b)
  | [], a, b, h => h
  | r :: l, a, b, h => layF_le (l := l) (by
      cases r.tmE t with
      | none => exact h
      | some x => exact .refl _)
/-- The run in the order of the text. -/
theorem trace_ok : ∀ (l : List (Nat × Oper × Ann)) (st : St) (fs : List Fp) {K : St → List Fp → Option β} {res : β}, evOpsD P T l all st fs K = some res →
    ∃ (recs : List Rc) (st' : St), recs.map (fun r => (r.i, r.o, r.an)) = l ∧ (∀ r ∈ recs, r.Ok P T all) ∧ K st' ((fpsOf P recs).reverse ++ fs) = some res ∧
      (∀ l1 r l2, recs = l1 ++ r :: l2 → (∀ t, Le (layF (Rc.tmE t) l1 (st.tm.get t)) (r.pre t)) ∧ (∀ id, layF (Rc.hpE id) l1 (hpAt st.hp id) = hpAt r.st.hp id) ∧ r.st.nt = st.nt) ∧
      (∀ t, Le (layF (Rc.tmE t) recs (st.tm.get t)) (st'.tm.get t)) ∧ (∀ id, layF (Rc.hpE id) recs (hpAt st.hp id) = hpAt st'.hp id) ∧ st'.nt = st.nt ∧ st'.n0 = st.n0
  | [], st, fs, K, res, h => ⟨[], st, rfl, fun r h => (by cases h), h, fun l1 r l2 h => (by cases l1 <;> cases h), fun t => .refl _, fun id => rfl, rfl, rfl⟩
  | (i, o, an) :: l, st, fs, K, res, h => by
    simp only [evOpsD] at h
    obtain ⟨hd, st1, b, e1, e2, e3, e4, hg, hb⟩ := evG_ok h
    -- one step: the record, the state behind it
    have step : ∃ (r : Rc) (st2 : St) (fs2 : List Fp), r.i = i ∧ r.o = o ∧ r.an = an ∧ r.pre = st.tm.get ∧ r.st = st1 ∧ r.Ok P T all ∧ evOpsD P T l all st2 fs2 K = some res ∧ (∀ t, Le ((r.tmE t).getD (st.tm.get t)) (st2.tm.get t)) ∧
        (∀ id, (r.hpE id).getD (hpAt st.hp id) = hpAt st2.hp id) ∧ st2.nt = st.nt ∧ st2.n0 = st.n0 ∧ fs2 = fpsOf P [r] ++ fs := by
      have slots : ∀ (x : AV) t, Le ((if o.dst = some t then some x else none : Option AV).getD (st.tm.get t)) ((st1.putO o.dst x).tm.get t) := fun x t => by
        cases ho : o.dst with
        | none => simp only [reduceCtorEq, if_false, Option.getD_none, St.putO]; exact e4 t
        | some d =>
          simp only [Option.some.injEq, St.putO]
          by_cases hdt : d = t
          · subst hdt
            rw [if_pos rfl]
            rcases (Tr.get_put st1.tm d x d).2 with e | e <;> rw [e]
            · exact .refl _
            · exact .junk _
          · rw [if_neg hdt, (Tr.get_put st1.tm d x t).1 (Ne.symm hdt)]
            exact e4 t
      rcases hb with ⟨rfl, hgo⟩ | ⟨rfl, hsk⟩
      · unfold ev1D at hgo
        cases hR : isR P o <;> rw [hR] at hgo <;> simp only [bq_true, bq_false] at hgo
        · obtain ⟨h1, h2⟩ := need_iff.1 hgo
          obtain ⟨x, Hr, h3, h4⟩ := evW_ret h2
          obtain ⟨h5, h6⟩ := need_iff.1 h4
          simp only [Bool.and_eq_true, Bool.or_eq_true, Bool.not_eq_true'] at h1
          let r : Rc := ⟨i, o, an, st.tm.get, st1, true, x, some Hr⟩
          have hok : r.Ok P T all := ⟨by show dstOk st1.nt o.dst = true; rw [e2]; exact hd, hg, e4, fun h => (by cases h), fun _ => .inr ⟨hR, fun hm hid => (by
            rcases h1.1 with h | h
            · rw [hm] at h; cases h
            · rw [show an.ids = [] from hid] at h; cases h), h1.2, Hr, rfl, h3, h5⟩⟩
          refine ⟨r, _, _, rfl, rfl, rfl, rfl, rfl, hok, h6, fun t => slots x t, fun id => ?_, ?_, ?_, ?_⟩
          · show (Rc.hpE id r).getD (hpAt st.hp id) = hpAt (setAll (killAll st1.hp (foot o an st1.opnd)) Hr) id
            unfold hpAt
            rw [hkey_setAll, hget_setAll, hkey_killAll, hget_killAll, e1]
            simp only [Rc.hpE, Rc.ft, r]
            by_cases hm : memN id (foot o an st1.opnd) = true
            · simp [hm]
            · have hk : hkey Hr id = false := by
                cases hk : hkey Hr id
                · rfl
                · exact absurd (memN_iff.2 (allIn_iff.1 h5 id (hkey_mem.1 hk))) hm
              simp [hm, hk]
          · show (st1.putO o.dst x).nt = st.nt
            rw [(putO_tm st1 o.dst x).2.1, e2]
          · show (st1.putO o.dst x).n0 = st.n0
            rw [(putO_tm st1 o.dst x).2.2.1, e3]
          · simp [fpsOf, r, Rc.ft, hR]
        · obtain ⟨h1, h2⟩ := need_iff.1 hgo
          obtain ⟨x, h3, h4⟩ := evR_ret h1 h2
          let r : Rc := ⟨i, o, an, st.tm.get, st1, true, x, none⟩
          have hok : r.Ok P T all := ⟨by show dstOk st1.nt o.dst = true; rw [e2]; exact hd, hg, e4, fun h => (by cases h), fun _ => .inl ⟨hR, h3, rfl⟩⟩
          refine ⟨r, _, _, rfl, rfl, rfl, rfl, rfl, hok, h4, fun t => slots x t, fun id => ?_, ?_, ?_, ?_⟩
          · show hpAt st.hp id = hpAt (st1.putO o.dst x).hp id
            rw [(putO_tm st1 o.dst x).2.2.2, e1]
          · rw [(putO_tm st1 o.dst x).2.1, e2]
          · rw [(putO_tm st1 o.dst x).2.2.1, e3]
          · simp [fpsOf, r, Rc.ft, hR]
      · let r : Rc := ⟨i, o, an, st.tm.get, st1, false, .tup [], none⟩
        have hok : r.Ok P T all := ⟨by show dstOk st1.nt o.dst = true; rw [e2]; exact hd, hg, e4, fun _ => ⟨rfl, rfl⟩, fun h => (by cases h)⟩
        refine ⟨r, _, _, rfl, rfl, rfl, rfl, rfl, hok, hsk, fun t => slots (.tup []) t, fun id => ?_, ?_, ?_, ?_⟩
        · show hpAt st.hp id = hpAt (st1.putO o.dst (.tup [])).hp id
          rw [(putO_tm st1 o.dst (.tup [])).2.2.2, e1]
        · show (st1.putO o.dst (.tup [])).nt = st.nt
          rw [(putO_tm st1 o.dst (.tup [])).2.1, e2]
        · show (st1.putO o.dst (.tup [])).n0 = st.n0
          rw [(putO_tm st1 o.dst (.tup [])).2.2.1, e3]
        · simp [fpsOf, r]
    obtain ⟨r, st2, fs2, r1, r2, r3, r4, r5, r6, r7, r8, r9, r10, r11, r12⟩ := step
    obtain ⟨recs, st', q1, q2, q3, q4, q5, q6, q7, q8⟩ := trace_ok l st2 fs2 r7
    refine ⟨r :: recs, st', by simp [r1, r2, r3, q1], fun x hx => ?_, ?_, fun l1 r' l2 he => ?_, fun t => ?_, fun id => ?_, q7.trans r10, q8.trans r11⟩
    · rcases List.mem_cons.1 hx with rfl | hx
      · exact r6
      · exact q2 x hx
    · rw [r12] at q3
      have : (fpsOf P (r :: recs)).reverse ++ fs = (fpsOf P recs).reverse ++ (fpsOf P [r] ++ fs) := by
        simp only [fpsOf]
        split <;> simp
      rw [this]
      exact q3
    · cases l1 with
      | nil =>
        simp only [List.nil_append, List.cons.injEq] at he
        obtain ⟨rfl, rfl⟩ := he
        exact ⟨fun t => by rw [r4]; exact .refl _, fun id => by rw [r5, e1]; rfl, by rw [r5]; exact e2⟩
      | cons r0 l1 =>
        simp only [List.cons_append, List.cons.injEq] at he
        obtain ⟨rfl, he⟩ := he
        obtain ⟨a1, a2, a3⟩ := q4 l1 r' l2 he
        refine ⟨fun t => ?_, fun id => ?_, a3.trans r10⟩
        · exact (layF_le (r8 t)).trans (a1 t)
        · simp only [layF]; rw [r9]; exact a2 id
    · exact (layF_le (r8 t)).trans (q5 t)
    · simp only [layF]; rw [r9]; exact q6 id

/-! Which operations come first -/
theorem pairsOk_iff {cl : List (Nat × List Nat)} : ∀ {l : List Fp}, pairsOk cl l = true → l.Pairwise fun b a => pairOk cl a b = true
  | [], _ => .nil
  | b :: l, h => by
    simp only [pairsOk, Bool.and_eq_true, List.all_eq_true] at h
    exact .cons h.1 (pairsOk_iff h.2)
theorem nmAll_iff {a : Nm} : ∀ {l : List Nm}, nmAll a l = true → ∀ b ∈ l, memN a.i b.cl = true ∨ apartN a b = true
  | [], _, b, h => by cases h
  | c :: l, h, b, hb => by
    simp only [nmAll, Bool.and_eq_true, Bool.or_eq_true] at h
    rcases List.mem_cons.1 hb with rfl | hb
    · exact h.1
    · exact nmAll_iff h.2 b hb
theorem nmsOk_iff : ∀ {l : List Nm}, nmsOk l = true → l.Pairwise fun a b => memN a.i b.cl = true ∨ apartN a b = true
  | [], _ => .nil
  | a :: l, h => by
    simp only [nmsOk, Bool.and_eq_true] at h
    exact .cons (nmAll_iff h.1) (nmsOk_iff h.2)
def Rc.nm (cl : List (Nat × List Nat)) (all : List Oper) (r : Rc) : Nm := ⟨r.i, (cl.lookup r.i).getD [], guardOf all r.o ++ tmpsOf r.o.op.operands.toList, r.o.dst⟩
theorem nms_eq {cl : List (Nat × List Nat)} : ∀ {recs : List Rc} {l : List (Oper × Ann)} {k : Nat}, recs.map (fun r => (r.i, r.o, r.an)) = numb k l → nms cl all k (l.map (·.1)) = recs.map (Rc.nm cl all)
  | [], [], k, _ => rfl
  | [], _ :: _, k, h => by simp [numb] at h
  | _ :: _, [], k, h => by simp [numb] at h
  | r :: recs, (o, an) :: l, k, h => by
    simp only [List.map_cons, numb, List.cons.injEq, Prod.mk.injEq] at h
    obtain ⟨⟨rfl, rfl, rfl⟩, h⟩ := h
    simp only [List.map_cons, nms, nms_eq h]
    rfl
theorem numb_lt {α : Type} : ∀ {l : List α} {k : Nat}, (numb k l).Pairwise fun a b => a.1 < b.1
  | [], k => .nil
  | a :: l, k => .cons (fun b hb => by
      have : ∀ {l : List α} {k : Nat} {b : Nat × α}, b ∈ numb k l → k ≤ b.1 := fun {l} => by
        induction l with
        | nil => intro k b h; cases h
        | cons a l ih =>
          intro k b h
          rcases List.mem_cons.1 h with rfl | h
          · exact Nat.le_refl _
          · exact Nat.le_of_succ_le (ih h)
      exact this hb) numb_lt
theorem numb_get {α : Type} : ∀ {l : List α} {k i : Nat}, (numb k l)[i]? = (l[i]?).map fun a => (k + i, a)
  | [], k, i => by simp [numb]
  | a :: l, k, 0 => by simp [numb]
  | a :: l, k, i + 1 => by
    simp only [numb, List.getElem?_cons_succ, numb_get]
    congr 1
    funext a
    rw [show k + 1 + i = k + (i + 1) by omega]
/-- All that must come ahead is there. -/
def edgesIn (all : List Oper) (S : Nat → Prop) (j : Nat) : Prop := ∀ o, all[j]? = some o → ∀ e ∈ o.after, Region.binds .any e = true → S e.on
theorem closN_ok {done : List (Nat × List Nat)} : ∀ {es : List Edge} {k : Nat}, k ∈ closN done es → ∃ e ∈ es, Region.binds .any e = true ∧ (k = e.on ∨ k ∈ (done.lookup e.on).getD [])
  | [], k, h => by cases h
  | e :: es, k, h => by
    simp only [closN] at h
    cases hb : Region.binds .any e <;> rw [hb] at h <;> simp only [bq_true, bq_false] at h
    · obtain ⟨e', h1, h2⟩ := closN_ok h
      exact ⟨e', List.mem_cons_of_mem _ h1, h2⟩
    · rcases List.mem_cons.1 h with rfl | h
      · exact ⟨e, List.mem_cons_self, hb, .inl rfl⟩
      · rcases List.mem_append.1 h with h | h
        · exact ⟨e, List.mem_cons_self, hb, .inr h⟩
        · obtain ⟨e', h1, h2⟩ := closN_ok h
          exact ⟨e', List.mem_cons_of_mem _ h1, h2⟩
theorem clos_ok {S : Nat → Prop} (hc : ∀ j, S j → edgesIn all S j) : ∀ (l : List Oper) (k : Nat) (done : List (Nat × List Nat)), (∀ i, l[i]? = all[k + i]?) → (∀ j, edgesIn all S j → ∀ m ∈ (done.lookup j).getD [], S m) →
    ∀ j, edgesIn all S j → ∀ m ∈ ((clos k l done).lookup j).getD [], S m
  | [], k, done, _, hd => hd
  | o :: l, k, done, hl, hd => by
    simp only [clos]
    refine clos_ok hc l (k + 1) _ (fun i => by have := hl (i + 1); rw [List.getElem?_cons_succ] at this; rw [this]; congr 1; omega) fun j hj m hm => ?_
    simp only [List.lookup_cons] at hm
    cases hk : (j == k)
    · rw [hk] at hm; exact hd j hj m hm
    · rw [hk] at hm
      have : j = k := by simpa using hk
      subst this
      simp only [Option.getD_some, nubN_mem] at hm
      obtain ⟨e, h1, h2, h3⟩ := closN_ok hm
      have he : S e.on := hj o (by have := hl 0; simpa using this.symm) e (Array.mem_toList_iff.1 h1) h2
      rcases h3 with rfl | h3
      · exact he
      · exact hd e.on (hc _ he) m h3
end
end Go.Ab
