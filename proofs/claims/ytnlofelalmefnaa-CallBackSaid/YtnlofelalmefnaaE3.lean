/- An evaluator of the model's code over plain values, and its soundness; of no program. -/
import Derived.Test.YtnlofelalmefnaaE2
import Derived.Orders
import Derived.LoopN
import Derived.DataReads
import Derived.WalkKit
import Derived.ProofKit
import Derived.OpenShut
import Derived.JoinedTies
import GoSem.Claim
set_option linter.all false
/- Regions that draw their order: what the run in the order of the text says of each operation. -/
namespace Go.Ab

section
variable {P : Program} {T : Tbl} {z : Z} {H : Hp} {β : Type} {all : List Oper} {ops : Array Oper}
theorem map_congr' {α β : Type} {f g : α → β} {l : List α} (h : ∀ x ∈ l, f x = g x) : l.map f = l.map g := List.map_congr_left h
theorem evR_congr {o : Oper} {r r' : Operand → AV} {K : AV → Option β} (h : ∀ x ∈ o.op.operands, r x = r' x) : evR P o r H K = evR P o r' H K := by
  obtain ⟨dst, op, type, pos, after, guard⟩ := o
  cases op <;> simp only [Op.operands] at h <;> simp only [evR]
  case build t ps =>
    have e : (ps.toList.map fun x => (x.1, r x.2)) = ps.toList.map fun x => (x.1, r' x.2) := map_congr' fun x hx => by
      rw [h x.2 (by simp only [List.mem_toArray, List.mem_map]; exact ⟨x, hx, rfl⟩)]
    rw [e]
  case makeFunc f a c =>
    have e1 : a.toList.map r = a.toList.map r' := map_congr' fun x hx => h x (by simp [Array.mem_toList_iff.1 hx])
    have e2 : c.toList.map r = c.toList.map r' := map_congr' fun x hx => h x (by simp [Array.mem_toList_iff.1 hx])
    cases f <;> simp only [e1, e2]
  case slice t x lo hi mx => cases lo <;> cases hi <;> cases mx <;> simp_all
  case call c =>
    have e1 : c.args.toList.map r = c.args.toList.map r' := map_congr' fun x hx => h x (by simp [Call.operands, Array.mem_toList_iff.1 hx])
    have e2 : ∀ a, c.args.toList = [a] → r a = r' a := fun a ha => by
      rw [ha] at e1
      simpa using e1
    rw [e1]
    split
    · split
      · rename_i a t ha _; rw [e2 a ha]
      · rfl
    · split
      · rename_i a t ha _; rw [e2 a ha]
      · rfl
    · rfl
    · rfl
    · rfl
  all_goals (first | rfl | (simp_all; done) | (split <;> simp_all; done))
theorem evW_congr {o : Oper} {an : Ann} {r r' : Operand → AV} {K : AV → Hp → Option β} (h : ∀ x ∈ o.op.operands, r x = r' x) : evW P T o an r H K = evW P T o an r' H K := by
  obtain ⟨dst, op, type, pos, after, guard⟩ := o
  cases op <;> simp only [Op.operands] at h <;> simp only [evW]
  case buildSlice t n ps =>
    have e : (ps.toList.map fun x => (x.1, r x.2)) = ps.toList.map fun x => (x.1, r' x.2) := map_congr' fun x hx => by
      rw [h x.2 (by simp only [List.mem_toArray, List.mem_map]; exact ⟨x, hx, rfl⟩)]
    rw [e]
  case makeMap t q => cases q <;> simp_all
  case call c =>
    have e1 : c.args.toList.map r = c.args.toList.map r' := map_congr' fun x hx => h x (by simp [Call.operands, Array.mem_toList_iff.1 hx])
    have e2 : ∀ a b, c.args.toList = [a, b] → r a = r' a ∧ r b = r' b := fun a b ha => by
      rw [ha] at e1
      simpa using e1
    split
    · split
      · rename_i a b t u ha _; rw [(e2 a b ha).1, (e2 a b ha).2]
      · rfl
    · split
      · rename_i a b t _ ha _; rw [(e2 a b ha).1, (e2 a b ha).2]
      · rfl
    · split
      · rename_i a t ha _
        have : r a = r' a := by rw [ha] at e1; simpa using e1
        rw [this]
      · rfl
    · split
      · rename_i a b t _ ha _; rw [(e2 a b ha).1, (e2 a b ha).2]
      · rfl
    · rename_i f hc
      rw [e1, h f (by simp [Call.operands, hc])]
    · rfl
  all_goals (first | rfl | (simp_all; done) | (split <;> simp_all; done))
theorem foot_congr {o : Oper} {an : Ann} {r r' : Operand → AV} (h : ∀ x ∈ o.op.operands, r x = r' x) : foot o an r = foot o an r' := by
  unfold foot footIds
  rw [map_congr' (f := r) (g := r') (l := o.op.operands.toList) fun x hx => h x (Array.mem_toList_iff.1 hx)]

/-! Records -/
structure Rc where
  i : Nat
  o : Oper
  an : Ann
  /-- the slots ahead of it -/
  pre : Nat → AV
  /-- the state ahead of it, its guard looked at -/
  st : St
  go : Bool
  x : AV
  H2 : Option Hp
def Rc.ft (r : Rc) : List Nat := foot r.o r.an r.st.opnd
def Rc.tmE (t : Nat) (r : Rc) : Option AV := if r.o.dst = some t then some r.x else none
def Rc.hpE (id : Nat) (r : Rc) : Option (Bool × Option Ent) :=
  match r.H2 with
  | some H2 => if memN id r.ft = true then some (true, if hkey H2 id = true then hget H2 id else none) else none
  | none => none
def layF {ν : Type} (f : Rc → Option ν) : List Rc → ν → ν
  | [], b => b
  | r :: l, b => layF f l ((f r).getD b)
def hpAt (H : Hp) (id : Nat) : Bool × Option Ent := (hkey H id, hget H id)
structure Rc.Ok (P : Program) (T : Tbl) (all : List Oper) (r : Rc) : Prop where
  dst : dstOk r.st.nt r.o.dst = true
  grd : GuardIs all r.o r.pre r.go
  le : ∀ t, Le (r.pre t) (r.st.tm.get t)
  no : r.go = false → r.x = .tup [] ∧ r.H2 = none
  yes : r.go = true → (isR P r.o = true ∧ evR P r.o r.st.opnd (hsub r.st.hp r.ft) some = some r.x ∧ r.H2 = none) ∨
    (isR P r.o = false ∧ (mkOp P r.o = true → r.an.ids ≠ []) ∧ ltAll 3 r.an.md = true ∧ ∃ Hr, r.H2 = some Hr ∧ evW P T r.o r.an r.st.opnd (hsub r.st.hp r.ft) (fun x H => some (x, H)) = some (r.x, Hr) ∧ allIn (hkeys Hr) r.ft = true)
def fpsOf (P : Program) : List Rc → List Fp
  | [] => []
  | r :: l => if r.go = true then ⟨r.i, r.ft, !isR P r.o⟩ :: fpsOf P l else fpsOf P l

theorem layF_le {t : Nat} : ∀ {l : List Rc} {a b : AV}, Le a b → Le (layF (Rc.tmE t) l a) (layF (Rc.tmE t) l b)
  | [], a, b, h => h
  | r :: l, a, b, h => layF_le (l := l) (by
      cases r.tmE t with
      | none => exact h
      | some x => exact .refl _)
/-- The run in the order of the text. -/
theorem trace_ok : ∀ (l : List (Nat × Oper × Ann)) (st : St) (fs : List Fp) {K : St → List Fp → Option β} {res : β}, evOpsD P T l all st fs K = some res →
    ∃ (recs : List Rc) (st' : St), recs.map (fun r => (r.i, r.o)) = l.map (fun x => (x.1, x.2.1)) ∧ (∀ r ∈ recs, r.Ok P T all) ∧ K st' ((fpsOf P recs).reverse ++ fs) = some res ∧
      (∀ l1 r l2, recs = l1 ++ r :: l2 → (∀ t, Le (layF (Rc.tmE t) l1 (st.tm.get t)) (r.pre t)) ∧ (∀ id, layF (Rc.hpE id) l1 (hpAt st.hp id) = hpAt r.st.hp id) ∧ r.st.nt = st.nt) ∧
      (∀ t, Le (layF (Rc.tmE t) recs (st.tm.get t)) (st'.tm.get t)) ∧ (∀ id, layF (Rc.hpE id) recs (hpAt st.hp id) = hpAt st'.hp id) ∧ st'.nt = st.nt ∧ st'.n0 = st.n0
  | [], st, fs, K, res, h => ⟨[], st, rfl, fun r h => (by cases h), h, fun l1 r l2 h => (by cases l1 <;> cases h), fun t => .refl _, fun id => rfl, rfl, rfl⟩
  | (i, o, an) :: l, st, fs, K, res, h => by
    simp only [evOpsD] at h
    obtain ⟨hd, st1, b, e1, e2, e3, e4, hg, hb⟩ := evG_ok h
    generalize hA : an.at st1.hp = an' at hb
    -- one step: the record, the state behind it
    have step : ∃ (r : Rc) (st2 : St) (fs2 : List Fp), r.i = i ∧ r.o = o ∧ r.pre = st.tm.get ∧ r.st = st1 ∧ r.Ok P T all ∧ evOpsD P T l all st2 fs2 K = some res ∧ (∀ t, Le ((r.tmE t).getD (st.tm.get t)) (st2.tm.get t)) ∧
        (∀ id, (r.hpE id).getD (hpAt st.hp id) = hpAt st2.hp id) ∧ st2.nt = st.nt ∧ st2.n0 = st.n0 ∧ fs2 = fpsOf P [r] ++ fs := by
      have slots : ∀ (x : AV) t, Le ((if o.dst = some t then some x else none : Option AV).getD (st.tm.get t)) ((st1.putO o.dst x).tm.get t) := fun x t => by
        cases ho : o.dst with
        | none => simp only [reduceCtorEq, if_false, Option.getD_none, St.putO]; exact e4 t
        | some d =>
          simp only [Option.some.injEq, St.putO]
          by_cases hdt : d = t
          · subst hdt
            rw [if_pos rfl]
            rcases (Tr.get_put st1.tm d x d).2 with e | e <;> rw [e]
            · exact .refl _
            · exact .junk _
          · rw [if_neg hdt, (Tr.get_put st1.tm d x t).1 (Ne.symm hdt)]
            exact e4 t
      rcases hb with ⟨rfl, hgo⟩ | ⟨rfl, hsk⟩
      · unfold ev1D at hgo
        cases hR : isR P o <;> rw [hR] at hgo <;> simp only [bq_true, bq_false] at hgo
        · obtain ⟨h1, h2⟩ := need_iff.1 hgo
          obtain ⟨x, Hr, h3, h4⟩ := evW_ret h2
          obtain ⟨h5, h6⟩ := need_iff.1 h4
          simp only [Bool.and_eq_true, Bool.or_eq_true, Bool.not_eq_true'] at h1
          let r : Rc := ⟨i, o, an', st.tm.get, st1, true, x, some Hr⟩
          have hok : r.Ok P T all := ⟨by show dstOk st1.nt o.dst = true; rw [e2]; exact hd, hg, e4, fun h => (by cases h), fun _ => .inr ⟨hR, fun hm hid => (by
            rcases h1.1 with h | h
            · rw [hm] at h; cases h
            · rw [show an'.ids = [] from hid] at h; cases h), h1.2, Hr, rfl, h3, h5⟩⟩
          refine ⟨r, _, _, rfl, rfl, rfl, rfl, hok, h6, fun t => slots x t, fun id => ?_, ?_, ?_, ?_⟩
          · show (Rc.hpE id r).getD (hpAt st.hp id) = hpAt (setAll (killAll st1.hp (foot o an' st1.opnd)) Hr) id
            unfold hpAt
            rw [hkey_setAll, hget_setAll, hkey_killAll, hget_killAll, e1]
            simp only [Rc.hpE, Rc.ft, r]
            by_cases hm : memN id (foot o an' st1.opnd) = true
            · simp [hm]
            · have hk : hkey Hr id = false := by
                cases hk : hkey Hr id
                · rfl
                · exact absurd (memN_iff.2 (allIn_iff.1 h5 id (hkey_mem.1 hk))) hm
              simp [hm, hk]
          · show (st1.putO o.dst x).nt = st.nt
            rw [(putO_tm st1 o.dst x).2.1, e2]
          · show (st1.putO o.dst x).n0 = st.n0
            rw [(putO_tm st1 o.dst x).2.2.1, e3]
          · simp [fpsOf, r, Rc.ft, hR]
        · obtain ⟨h1, h2⟩ := need_iff.1 hgo
          obtain ⟨x, h3, h4⟩ := evR_ret h1 h2
          let r : Rc := ⟨i, o, an', st.tm.get, st1, true, x, none⟩
          have hok : r.Ok P T all := ⟨by show dstOk st1.nt o.dst = true; rw [e2]; exact hd, hg, e4, fun h => (by cases h), fun _ => .inl ⟨hR, h3, rfl⟩⟩
          refine ⟨r, _, _, rfl, rfl, rfl, rfl, hok, h4, fun t => slots x t, fun id => ?_, ?_, ?_, ?_⟩
          · show hpAt st.hp id = hpAt (st1.putO o.dst x).hp id
            rw [(putO_tm st1 o.dst x).2.2.2, e1]
          · rw [(putO_tm st1 o.dst x).2.1, e2]
          · rw [(putO_tm st1 o.dst x).2.2.1, e3]
          · simp [fpsOf, r, Rc.ft, hR]
      · let r : Rc := ⟨i, o, an', st.tm.get, st1, false, .tup [], none⟩
        have hok : r.Ok P T all := ⟨by show dstOk st1.nt o.dst = true; rw [e2]; exact hd, hg, e4, fun _ => ⟨rfl, rfl⟩, fun h => (by cases h)⟩
        refine ⟨r, _, _, rfl, rfl, rfl, rfl, hok, hsk, fun t => slots (.tup []) t, fun id => ?_, ?_, ?_, ?_⟩
        · show hpAt st.hp id = hpAt (st1.putO o.dst (.tup [])).hp id
          rw [(putO_tm st1 o.dst (.tup [])).2.2.2, e1]
        · show (st1.putO o.dst (.tup [])).nt = st.nt
          rw [(putO_tm st1 o.dst (.tup [])).2.1, e2]
        · show (st1.putO o.dst (.tup [])).n0 = st.n0
          rw [(putO_tm st1 o.dst (.tup [])).2.2.1, e3]
        · simp [fpsOf, r]
    obtain ⟨r, st2, fs2, r1, r2, r4, r5, r6, r7, r8, r9, r10, r11, r12⟩ := step
    obtain ⟨recs, st', q1, q2, q3, q4, q5, q6, q7, q8⟩ := trace_ok l st2 fs2 r7
    refine ⟨r :: recs, st', by simp [r1, r2, q1], fun x hx => ?_, ?_, fun l1 r' l2 he => ?_, fun t => ?_, fun id => ?_, q7.trans r10, q8.trans r11⟩
    · rcases List.mem_cons.1 hx with rfl | hx
      · exact r6
      · exact q2 x hx
    · rw [r12] at q3
      have : (fpsOf P (r :: recs)).reverse ++ fs = (fpsOf P recs).reverse ++ (fpsOf P [r] ++ fs) := by
        simp only [fpsOf]
        split <;> simp
      rw [this]
      exact q3
    · cases l1 with
      | nil =>
        simp only [List.nil_append, List.cons.injEq] at he
        obtain ⟨rfl, rfl⟩ := he
        exact ⟨fun t => by rw [r4]; exact .refl _, fun id => by rw [r5, e1]; rfl, by rw [r5]; exact e2⟩
      | cons r0 l1 =>
        simp only [List.cons_append, List.cons.injEq] at he
        obtain ⟨rfl, he⟩ := he
        obtain ⟨a1, a2, a3⟩ := q4 l1 r' l2 he
        refine ⟨fun t => ?_, fun id => ?_, a3.trans r10⟩
        · exact (layF_le (r8 t)).trans (a1 t)
        · simp only [layF]; rw [r9]; exact a2 id
    · exact (layF_le (r8 t)).trans (q5 t)
    · simp only [layF]; rw [r9]; exact q6 id

/-! Which operations come first -/
theorem pairsOk_iff {cl : List (Nat × List Nat)} : ∀ {l : List Fp}, pairsOk cl l = true → l.Pairwise fun b a => pairOk cl a b = true
  | [], _ => .nil
  | b :: l, h => by
    simp only [pairsOk, Bool.and_eq_true, List.all_eq_true] at h
    exact .cons h.1 (pairsOk_iff h.2)
theorem nmAll_iff {a : Nm} : ∀ {l : List Nm}, nmAll a l = true → ∀ b ∈ l, memN a.i b.cl = true ∨ apartN a b = true
  | [], _, b, h => by cases h
  | c :: l, h, b, hb => by
    simp only [nmAll, Bool.and_eq_true, Bool.or_eq_true] at h
    rcases List.mem_cons.1 hb with rfl | hb
    · exact h.1
    · exact nmAll_iff h.2 b hb
theorem nmsOk_iff : ∀ {l : List Nm}, nmsOk l = true → l.Pairwise fun a b => memN a.i b.cl = true ∨ apartN a b = true
  | [], _ => .nil
  | a :: l, h => by
    simp only [nmsOk, Bool.and_eq_true] at h
    exact .cons (nmAll_iff h.1) (nmsOk_iff h.2)
def Rc.nm (cl : List (Nat × List Nat)) (all : List Oper) (r : Rc) : Nm := ⟨r.i, (cl.lookup r.i).getD [], guardOf all r.o ++ tmpsOf r.o.op.operands.toList, r.o.dst⟩
theorem nms_eq {cl : List (Nat × List Nat)} : ∀ {recs : List Rc} {l : List (Oper × Ann)} {k : Nat}, recs.map (fun r => (r.i, r.o)) = (numb k l).map (fun x => (x.1, x.2.1)) → nms cl all k (l.map (·.1)) = recs.map (Rc.nm cl all)
  | [], [], k, _ => rfl
  | [], _ :: _, k, h => by simp [numb] at h
  | _ :: _, [], k, h => by simp [numb] at h
  | r :: recs, (o, an) :: l, k, h => by
    simp only [List.map_cons, numb, List.cons.injEq, Prod.mk.injEq] at h
    obtain ⟨⟨rfl, rfl⟩, h⟩ := h
    simp only [List.map_cons, nms, nms_eq h]
    rfl
theorem numb_lt {α : Type} : ∀ {l : List α} {k : Nat}, (numb k l).Pairwise fun a b => a.1 < b.1
  | [], k => .nil
  | a :: l, k => .cons (fun b hb => by
      have : ∀ {l : List α} {k : Nat} {b : Nat × α}, b ∈ numb k l → k ≤ b.1 := fun {l} => by
        induction l with
        | nil => intro k b h; cases h
        | cons a l ih =>
          intro k b h
          rcases List.mem_cons.1 h with rfl | h
          · exact Nat.le_refl _
          · exact Nat.le_of_succ_le (ih h)
      exact this hb) numb_lt
theorem numb_get {α : Type} : ∀ {l : List α} {k i : Nat}, (numb k l)[i]? = (l[i]?).map fun a => (k + i, a)
  | [], k, i => by simp [numb]
  | a :: l, k, 0 => by simp [numb]
  | a :: l, k, i + 1 => by
    simp only [numb, List.getElem?_cons_succ, numb_get]
    congr 1
    funext a
    rw [show k + 1 + i = k + (i + 1) by omega]
/-- All that must come ahead is there. -/
def edgesIn (all : List Oper) (S : Nat → Prop) (j : Nat) : Prop := ∀ o, all[j]? = some o → ∀ e ∈ o.after, Region.binds .any e = true → S e.on
theorem closN_ok {done : List (Nat × List Nat)} : ∀ {es : List Edge} {k : Nat}, k ∈ closN done es → ∃ e ∈ es, Region.binds .any e = true ∧ (k = e.on ∨ k ∈ (done.lookup e.on).getD [])
  | [], k, h => by cases h
  | e :: es, k, h => by
    simp only [closN] at h
    cases hb : Region.binds .any e <;> rw [hb] at h <;> simp only [bq_true, bq_false] at h
    · obtain ⟨e', h1, h2⟩ := closN_ok h
      exact ⟨e', List.mem_cons_of_mem _ h1, h2⟩
    · rcases List.mem_cons.1 h with rfl | h
      · exact ⟨e, List.mem_cons_self, hb, .inl rfl⟩
      · rcases List.mem_append.1 h with h | h
        · exact ⟨e, List.mem_cons_self, hb, .inr h⟩
        · obtain ⟨e', h1, h2⟩ := closN_ok h
          exact ⟨e', List.mem_cons_of_mem _ h1, h2⟩
theorem clos_ok {S : Nat → Prop} (hc : ∀ j, S j → edgesIn all S j) : ∀ (l : List Oper) (k : Nat) (done : List (Nat × List Nat)), (∀ i, l[i]? = all[k + i]?) → (∀ j, edgesIn all S j → ∀ m ∈ (done.lookup j).getD [], S m) →
    ∀ j, edgesIn all S j → ∀ m ∈ ((clos k l done).lookup j).getD [], S m
  | [], k, done, _, hd => hd
  | o :: l, k, done, hl, hd => by
    simp only [clos]
    refine clos_ok hc l (k + 1) _ (fun i => by have := hl (i + 1); rw [List.getElem?_cons_succ] at this; rw [this]; congr 1; omega) fun j hj m hm => ?_
    simp only [List.lookup_cons] at hm
    cases hk : (j == k)
    · rw [hk] at hm; exact hd j hj m hm
    · rw [hk] at hm
      have : j = k := by simpa using hk
      subst this
      simp only [Option.getD_some, nubN_mem] at hm
      obtain ⟨e, h1, h2, h3⟩ := closN_ok hm
      have he : S e.on := hj o (by have := hl 0; simpa using this.symm) e (Array.mem_toList_iff.1 h1) h2
      rcases h3 with rfl | h3
      · exact he
      · exact hd e.on (hc _ he) m h3
end
end Go.Ab

/- Regions that draw their order: in whatever order, what the text's order yields. -/
namespace Go.Ab

section
variable {P : Program} {T : Tbl} {β : Type} {ops : Array Oper}
theorem layF_filter {ν : Type} {f : Rc → Option ν} {S : Nat → Bool} : ∀ {l : List Rc} {b : ν}, (∀ r ∈ l, (f r).isSome = true → S r.i = true) → layF f (l.filter fun r => S r.i) b = layF f l b
  | [], b, _ => rfl
  | r :: l, b, h => by
    have h' : ∀ r ∈ l, (f r).isSome = true → S r.i = true := fun x hx => h x (List.mem_cons_of_mem _ hx)
    cases hs : S r.i
    · rw [List.filter_cons_of_neg (by simp [hs])]
      have hn : f r = none := by
        cases hf : f r with
        | none => rfl
        | some v => have := h r List.mem_cons_self (by rw [hf]; rfl); rw [hs] at this; cases this
      rw [layF_filter h']
      simp [layF, hn]
    · rw [List.filter_cons_of_pos (by simp [hs])]
      simp only [layF]
      exact layF_filter h'
theorem layF_none {ν : Type} {f : Rc → Option ν} {S : Nat → Bool} : ∀ {l : List Rc} {b : ν}, (∀ r ∈ l, (f r).isSome = true → S r.i = false) → layF f (l.filter fun r => S r.i) b = b
  | [], b, _ => rfl
  | r :: l, b, h => by
    have h' : ∀ r ∈ l, (f r).isSome = true → S r.i = false := fun x hx => h x (List.mem_cons_of_mem _ hx)
    cases hs : S r.i
    · rw [List.filter_cons_of_neg (by simp [hs])]; exact layF_none h'
    · rw [List.filter_cons_of_pos (by simp [hs])]
      have hn : f r = none := by
        cases hf : f r with
        | none => rfl
        | some v => have := h r List.mem_cons_self (by rw [hf]; rfl); rw [hs] at this; cases this
      simp only [layF, hn, Option.getD_none]
      exact layF_none h'
theorem layF_append {ν : Type} {f : Rc → Option ν} : ∀ {l m : List Rc} {b : ν}, layF f (l ++ m) b = layF f m (layF f l b)
  | [], m, b => rfl
  | r :: l, m, b => by simp only [List.cons_append, layF]; exact layF_append
theorem lay_agree {ν : Type} {f : Rc → Option ν} {S : Nat → Bool} {l1 l2 : List Rc} {r : Rc} {b : ν} (hr : S r.i = false) (h1 : ∀ x ∈ l1, (f x).isSome = true → S x.i = true) (h2 : ∀ x ∈ l2, (f x).isSome = true → S x.i = false) :
    layF f ((l1 ++ r :: l2).filter fun r => S r.i) b = layF f l1 b := by
  rw [List.filter_append, List.filter_cons_of_neg (by simp [hr]), layF_append, layF_filter h1, layF_none h2]
theorem lay_put {ν : Type} {f : Rc → Option ν} {S S' : Nat → Bool} {l1 l2 : List Rc} {r : Rc} {b : ν} (hr : S r.i = false) (hS : S' r.i = true) (hS1 : ∀ x ∈ l1, S' x.i = S x.i) (hS2 : ∀ x ∈ l2, S' x.i = S x.i) :
    (∀ v, f r = some v → (∀ x ∈ l2, (f x).isSome = true → S x.i = false) → layF f ((l1 ++ r :: l2).filter fun r => S' r.i) b = v) ∧
    (f r = none → layF f ((l1 ++ r :: l2).filter fun r => S' r.i) b = layF f ((l1 ++ r :: l2).filter fun r => S r.i) b) := by
  have e1 : (l1.filter fun r => S' r.i) = l1.filter fun r => S r.i := List.filter_congr fun x hx => by rw [hS1 x hx]
  have e2 : (l2.filter fun r => S' r.i) = l2.filter fun r => S r.i := List.filter_congr fun x hx => by rw [hS2 x hx]
  refine ⟨fun v hv h2 => ?_, fun hv => ?_⟩
  · rw [List.filter_append, List.filter_cons_of_pos (by simp [hS]), layF_append, e1, e2]
    simp only [layF, hv, Option.getD_some]
    exact layF_none h2
  · rw [List.filter_append, List.filter_cons_of_pos (by simp [hS]), layF_append, e1, e2, List.filter_append, List.filter_cons_of_neg (by simp [hr]), layF_append]
    simp only [layF, hv, Option.getD_none]

theorem edgesOk_iff : ∀ {l : List Oper} {k : Nat}, edgesOk k l = true → ∀ (i : Nat) o, l[i]? = some o → (∀ e ∈ o.after, Region.binds .any e = true → e.on < k + i) ∧ ∀ cs b, o.op ≠ .select cs b
  | [], k, _, i, o, h => by simp at h
  | x :: l, k, h, i, o, ho => by
    simp only [edgesOk, Bool.and_eq_true] at h
    obtain ⟨⟨h1, h2⟩, h3⟩ := h
    cases i with
    | zero =>
      simp only [List.getElem?_cons_zero, Option.some.injEq] at ho
      subst ho
      refine ⟨fun e he hb => ?_, fun cs b hs => by rw [hs] at h2; cases h2⟩
      have : ∀ {es : List Edge}, edgesLt k es = true → ∀ e ∈ es, Region.binds .any e = true → e.on < k := fun {es} => by
        induction es with
        | nil => intro _ e he; cases he
        | cons e0 es ih =>
          intro h e he hb
          simp only [edgesLt, Bool.and_eq_true, Bool.or_eq_true, Bool.not_eq_true', Nat.blt_eq] at h
          rcases List.mem_cons.1 he with rfl | he
          · exact h.1.resolve_left (by rw [hb]; simp)
          · exact ih h.2 e he hb
      exact this h1 e (Array.mem_toList_iff.2 he) hb
    | succ i =>
      have := edgesOk_iff h3 i o (by simpa using ho)
      rwa [show k + 1 + i = k + (i + 1) by omega] at this
theorem tmpsOf_mem {t : Nat} : ∀ {l : List Operand}, Operand.tmp t ∈ l → t ∈ tmpsOf l
  | [], h => by cases h
  | x :: l, h => by
    cases x with
    | tmp u =>
      simp only [tmpsOf, List.mem_cons]
      rcases List.mem_cons.1 h with h | h
      · injection h with h; exact .inl h
      · exact .inr (tmpsOf_mem h)
    | _ =>
      simp only [tmpsOf]
      rcases List.mem_cons.1 h with h | h
      · cases h
      · exact tmpsOf_mem h
theorem opnd_one {z : Z} {st : St} {a : Act} (x : Operand) (h : ∀ t, x = .tmp t → ARep z (st.tm.get t) (a.eval x)) : ARep z (st.opnd x) (a.eval x) := by
  cases x with
  | tmp t => exact h t rfl
  | const v =>
    have e : st.opnd (.const v) = ({ st with tm := .lf } : St).opnd (.const v) := by cases v <;> rfl
    rw [e]
    exact opnd_ok (z := z) (st := { st with tm := .lf }) (a := a) (fun t => .junk _) (.const v)
  | global g => exact .junk _
  | func f => exact opnd_ok (z := z) (st := { st with tm := .lf }) (a := a) (fun t => .junk _) (.func f)
theorem unlisted_count {n : Nat} {listed : Array Bool} {i : Nat} (hs : listed.size = n) (hi : listed.getD i true = false) :
    ((List.range n).filter fun j => !listed.getD j true).length = ((List.range n).filter fun j => !(listed.setIfInBounds i true).getD j true).length + 1 := by
  have hlt : i < n := by
    rcases Nat.lt_or_ge i listed.size with h | h
    · omega
    · simp [Array.getElem?_eq_none h] at hi
  have hmem : i ∈ (List.range n).filter fun j => !listed.getD j true := by
    rw [List.mem_filter]
    exact ⟨List.mem_range.2 hlt, by rw [hi]; rfl⟩
  have hnd : ((List.range n).filter fun j => !listed.getD j true).Nodup := List.Pairwise.sublist List.filter_sublist List.nodup_range
  have he : ((List.range n).filter fun j => !(listed.setIfInBounds i true).getD j true) = ((List.range n).filter fun j => !listed.getD j true).erase i := by
    rw [List.Nodup.erase_eq_filter hnd, List.filter_filter]
    refine List.filter_congr fun j hj => ?_
    by_cases hij : i = j
    · subst hij
      simp [show i < listed.size by omega]
    · have : (j != i) = true := by simp; exact fun h => hij h.symm
      rw [this, getD_set_ne true hij]
      simp
  rw [he, List.length_erase_of_mem hmem]
  have := List.length_pos_of_mem hmem
  omega

/-- What holds behind a set of the operations. -/
def J (z0 : Z) (N : Nat) (L : List (Nat × AV)) (ops : Array Oper) (recs : List Rc) (st : St) (listed : Array Bool) (a : Act) (w : World) : Prop :=
  ∃ z H, z.w = w ∧ Nx z0 z ∧ (∀ id, ¬ z.D id) ∧ HRep z H ∧ (∀ id, layF (Rc.hpE id) (recs.filter fun r => listed.getD r.i false) (hpAt st.hp id) = hpAt H id) ∧
    (∀ t, ARep z (layF (Rc.tmE t) (recs.filter fun r => listed.getD r.i false) (st.tm.get t)) (a.eval (.tmp t))) ∧ (∀ p ∈ L, ARep z p.2 (a.eval (.tmp p.1))) ∧ a.defers = [] ∧ (st.nt ≤ N ∧ a.tmps.size = N) ∧
    listed.size = ops.size ∧ (∀ j, listed.getD j false = true → edgesIn ops.toList (fun j => listed.getD j false = true) j)

theorem drawn_ok {z0 : Z} {N : Nat} {L : List (Nat × AV)} {st : St} {a : Act} {w : World} {K : St → Option β} {res : β} {Q : Exit → Act → World → Prop} {opsA : List (Oper × Ann)} (hT : ∀ e ∈ T, Told P e) (hops : opsA.map (·.1) = ops.toList)
    (hL : ∀ x ∈ opsA, ∀ p ∈ L, x.1.dst ≠ some p.1) (hk : ∀ st' a' w', K st' = some res → Inv z0 N L st' a' w' → Q .normal a' w')
    (hed : edgesOk 0 ops.toList = true) (hnm : nmsOk (nms (clos 0 ops.toList []) ops.toList 0 ops.toList) = true)
    (h : evOpsD P T (numb 0 opsA) ops.toList st [] (fun st' fs => need (pairsOk (clos 0 ops.toList []) fs) (K st')) = some res) (hi : Inv z0 N L st a w) :
    wpAny P .any ops Q ops.size (Array.replicate ops.size false) a w := by
  obtain ⟨recs, st', t1, t2, t3, t4, t5, t6, t7, t8⟩ := trace_ok _ _ _ h
  obtain ⟨hpair, hK⟩ := need_iff.1 t3
  have hi0 := hi
  obtain ⟨_, _, _, _, _, _, _, _, _, hn0⟩ := hi0
  rw [List.append_nil] at hpair
  generalize hcl : clos 0 ops.toList [] = cl at *
  have hnames : recs.Pairwise fun a b => memN a.i ((cl.lookup b.i).getD []) = true ∨ apartN (a.nm cl ops.toList) (b.nm cl ops.toList) = true := by
    have := nmsOk_iff hnm
    have e := nms_eq (cl := cl) (all := ops.toList) t1
    rw [hops] at e
    rw [e, List.pairwise_map] at this
    exact this
  have hfp : (fpsOf P recs).Pairwise fun a b => pairOk cl a b = true := by
    have := pairsOk_iff hpair
    rwa [List.pairwise_reverse] at this
  have hrec : recs.Pairwise fun r1 r2 => r1.go = true → r2.go = true → memN r1.i ((cl.lookup r2.i).getD []) = true ∨ clash ⟨r1.i, r1.ft, !isR P r1.o⟩ ⟨r2.i, r2.ft, !isR P r2.o⟩ = false := by
    clear t1 t2 t3 t4 t5 t6 hpair hnames
    have mem : ∀ {l : List Rc} {r : Rc}, r ∈ l → r.go = true → (⟨r.i, r.ft, !isR P r.o⟩ : Fp) ∈ fpsOf P l := fun {l} => by
      induction l with
      | nil => intro r h; cases h
      | cons x l ih =>
        intro r h hg
        simp only [fpsOf]
        rcases List.mem_cons.1 h with rfl | h
        · rw [if_pos hg]; exact List.mem_cons_self
        · split
          · exact List.mem_cons_of_mem _ (ih h hg)
          · exact ih h hg
    induction recs with
    | nil => exact .nil
    | cons x l ih =>
      simp only [fpsOf] at hfp
      refine .cons (fun y hy hx hy' => ?_) (ih ?_)
      · rw [if_pos hx] at hfp
        have := (List.pairwise_cons.1 hfp).1 _ (mem hy hy')
        simp only [pairOk, Bool.or_eq_true, Bool.not_eq_true'] at this
        exact this
      · split at hfp
        · exact (List.pairwise_cons.1 hfp).2
        · exact hfp
  have hat : ∀ (i : Nat) r, recs[i]? = some r → r.i = i ∧ ops[i]? = some r.o := fun i r hr => by
    have e : (recs.map fun r => (r.i, r.o))[i]? = some (r.i, r.o) := by rw [List.getElem?_map, hr]; rfl
    rw [t1, List.getElem?_map, numb_get, Option.map_map] at e
    obtain ⟨x, hx, hxe⟩ := Option.map_eq_some_iff.1 e
    simp only [Function.comp, Prod.mk.injEq] at hxe
    obtain ⟨h1, h2⟩ := hxe
    refine ⟨by omega, ?_⟩
    have h3 : (opsA.map (·.1))[i]? = some r.o := by rw [List.getElem?_map, hx, ← h2]; rfl
    rw [hops] at h3
    rwa [← Array.getElem?_toList]
  have hlen : recs.length = ops.size := by
    have h1 : (recs.map fun r => (r.i, r.o)).length = opsA.length := by
      rw [t1, List.length_map]
      have : ∀ {α : Type} (l : List α) k, (numb k l).length = l.length := fun l => by
        induction l with
        | nil => intro k; rfl
        | cons a l ih => intro k; simp [numb, ih]
      exact this _ _
    have h2 := congrArg List.length hops
    simp at h1 h2
    omega
  have hlt : ∀ {l1 : List Rc} {r l2}, recs = l1 ++ r :: l2 → (∀ x ∈ l1, x.i ≠ r.i) ∧ (∀ x ∈ l2, x.i ≠ r.i) := fun {l1 r l2} he => by
    have hp : recs.Pairwise fun a b => a.i < b.i := by
      have := numb_lt (l := opsA) (k := 0)
      have h2 : ((numb 0 opsA).map fun x => (x.1, x.2.1)).Pairwise fun a b => a.1 < b.1 := List.pairwise_map.2 this
      rw [← t1, List.pairwise_map] at h2
      exact h2
    rw [he, List.pairwise_append] at hp
    exact ⟨fun x hx => Nat.ne_of_lt (hp.2.2 x hx r List.mem_cons_self), fun x hx => (Nat.ne_of_lt ((List.pairwise_cons.1 hp.2.1).1 x hx)).symm⟩
  -- the main induction
  have main : ∀ (fuel : Nat) (listed : Array Bool) (a : Act) (w : World), fuel = ((List.range ops.size).filter fun j => !listed.getD j true).length → J z0 N L ops recs st listed a w → wpAny P .any ops Q fuel listed a w := by
    -- the end
    have fin : ∀ (listed : Array Bool) (a : Act) (w : World), Region.ready .any ops listed = [] → J z0 N L ops recs st listed a w → Q .normal a w := by
      rintro listed a w hr ⟨z, H, rfl, hn, hD, hH, hhp, htm, hLs, hdf, hnt, hsz, hcs⟩
      have hall : ∀ i, i < ops.size → listed.getD i false = true := by
        intro i
        induction i using Nat.strongRecOn with
        | _ i ih =>
          intro hi
          cases hb : listed.getD i false
          · exfalso
            have hb' : listed.getD i true = false := by
              have : i < listed.size := by omega
              simp [this] at hb ⊢
              exact hb
            have : i ∈ Region.ready .any ops listed := by
              rw [mem_ready]
              refine ⟨hb', ops[i], Array.getElem?_eq_getElem hi, fun e he hbd => ?_⟩
              have := (edgesOk_iff hed i ops[i] (by rw [Array.getElem?_toList]; exact Array.getElem?_eq_getElem hi)).1 e he hbd
              rw [Nat.zero_add] at this
              exact ih e.on this (by omega)
            rw [hr] at this
            cases this
          · rfl
      have hfil : (recs.filter fun r => listed.getD r.i false) = recs := by
        rw [List.filter_eq_self]
        intro r hr'
        obtain ⟨i, hi⟩ := List.getElem?_of_mem hr'
        obtain ⟨h1, h2⟩ := hat i r hi
        rw [h1]
        exact hall i (Array.getElem?_eq_some_iff.1 h2).1
      rw [hfil] at hhp htm
      refine hk st' a z.w hK ⟨z, rfl, hn, hD, hH.same (fun id => ?_) (fun id => ?_), fun t => t5 t _ _ (htm t), hLs, hdf, by rw [t7]; exact hnt, by rw [t8]; exact hn0⟩
      · have := (t6 id).symm.trans (hhp id)
        exact congrArg Prod.snd this
      · have := (t6 id).symm.trans (hhp id)
        exact congrArg Prod.fst this
    -- a step
    have step : ∀ (listed : Array Bool) (a : Act) (w : World) (i : Nat) (next : Act → World → Prop), i ∈ Region.ready .any ops listed → J z0 N L ops recs st listed a w →
        (∀ a' w', J z0 N L ops recs st (listed.setIfInBounds i true) a' w' → next a' w') → wpOp P ops Q i next a w := by
      rintro listed a w i next hr ⟨z, H, rfl, hn, hD, hH, hhp, htm, hLs, hdf, hnt, hsz, hcs⟩ hnext
      obtain ⟨hun, o, ho, hedge⟩ := mem_ready.1 hr
      have hilt : i < ops.size := (Array.getElem?_eq_some_iff.1 ho).1
      obtain ⟨r, hri⟩ : ∃ r, recs[i]? = some r := ⟨_, List.getElem?_eq_getElem (by omega)⟩
      obtain ⟨hr1, hr2⟩ := hat i r hri
      rw [ho] at hr2
      simp only [Option.some.injEq] at hr2
      subst hr2
      obtain ⟨l1, l2, hsplit⟩ := List.append_of_mem (List.mem_of_getElem? hri)
      have hmem := List.mem_of_getElem? hri
      have hok := t2 r hmem
      obtain ⟨u1, u2, u3⟩ := t4 l1 r l2 hsplit
      have hSi : listed.getD r.i false = false := by
        rw [hr1]
        have : i < listed.size := by omega
        simp [this] at hun ⊢
        exact hun
      -- those ahead are there; those that have it ahead are not
      have hclS : ∀ j, edgesIn ops.toList (fun j => listed.getD j false = true) j → ∀ m ∈ (cl.lookup j).getD [], listed.getD m false = true := fun j hj m hm => by
        rw [← hcl] at hm
        exact clos_ok (S := fun j => listed.getD j false = true) hcs ops.toList 0 [] (fun i => by rw [Nat.zero_add]) (fun j _ m hm => by simp at hm) j hj m hm
      have hA : ∀ m ∈ (cl.lookup r.i).getD [], listed.getD m false = true := hclS r.i fun o' ho' e he hb => by
        rw [hr1, Array.getElem?_toList, ho] at ho'
        simp only [Option.some.injEq] at ho'
        subst ho'
        exact hedge e he hb
      have hB : ∀ x, r.i ∈ (cl.lookup x).getD [] → listed.getD x false = false := fun x hx => by
        cases hb : listed.getD x false
        · rfl
        · have := hclS x (hcs x hb) r.i hx
          rw [hSi] at this
          cases this
      rw [hsplit] at hnames hrec
      have hn1 := List.pairwise_append.1 hnames
      have hf1 := List.pairwise_append.1 hrec
      -- slots
      have slot1 : ∀ t, (t ∈ (r.nm cl ops.toList).rd ∨ r.o.dst = some t) → ∀ x ∈ l1, (x.tmE t).isSome = true → listed.getD x.i false = true := fun t ht x hx hs => by
        rcases hn1.2.2 x hx r List.mem_cons_self with h | h
        · exact hA _ (memN_iff.1 h)
        · exfalso
          have hxd : x.o.dst = some t := by
            unfold Rc.tmE at hs
            split at hs
            · assumption
            · cases hs
          simp only [apartN, Bool.and_eq_true, Bool.not_eq_true', Rc.nm, hxd, hasN, sameO] at h
          rcases ht with ht | ht
          · have ht' : memN t (guardOf ops.toList r.o ++ tmpsOf r.o.op.operands.toList) = true := memN_iff.2 ht
            rw [ht'] at h; exact absurd h.1.1 (by simp)
          · rw [ht] at h; simp [Nat.beq_refl, beq_nat] at h
      have slot2 : ∀ t, (t ∈ (r.nm cl ops.toList).rd ∨ r.o.dst = some t) → ∀ x ∈ l2, (x.tmE t).isSome = true → listed.getD x.i false = false := fun t ht x hx hs => by
        rcases (List.pairwise_cons.1 hn1.2.1).1 x hx with h | h
        · exact hB _ (memN_iff.1 h)
        · exfalso
          have hxd : x.o.dst = some t := by
            unfold Rc.tmE at hs
            split at hs
            · assumption
            · cases hs
          simp only [apartN, Bool.and_eq_true, Bool.not_eq_true', Rc.nm, hxd, hasN, sameO] at h
          rcases ht with ht | ht
          · have ht' : memN t (guardOf ops.toList r.o ++ tmpsOf r.o.op.operands.toList) = true := memN_iff.2 ht
            rw [ht'] at h; exact absurd h.1.2 (by simp)
          · rw [ht] at h; simp [beq_nat] at h
      have hslot : ∀ t ∈ (r.nm cl ops.toList).rd, ARep z (r.pre t) (a.eval (.tmp t)) := fun t ht => by
        have := htm t
        rw [hsplit, lay_agree (f := Rc.tmE t) (S := fun i => listed.getD i false) hSi (slot1 t (.inl ht)) (slot2 t (.inl ht))] at this
        exact u1 t _ _ this
      have hwant : Region.wanted r.o (yielded ops a.tmps) = r.go := hok.grd.wanted fun j want d h1 h2 => hslot d (by
        obtain ⟨x, h3, h4⟩ := Option.bind_eq_some_iff.1 h2
        simp [Rc.nm, guardOf, h1, h3, h4])
      have hopn : ∀ x ∈ r.o.op.operands, ARep z (r.st.opnd x) (a.eval x) := fun x hx => opnd_one x fun t ht => by
        subst ht
        exact hok.le t _ _ (hslot t (by
          simp only [Rc.nm, List.mem_append]
          exact .inr (tmpsOf_mem (Array.mem_toList_iff.2 hx))))
      -- the new set
      have hS' : (listed.setIfInBounds i true).getD r.i false = true := by rw [hr1]; simp [show i < listed.size by omega]
      have hSo : ∀ x, x ≠ i → (listed.setIfInBounds i true).getD x false = listed.getD x false := fun x hx => getD_set_ne false (Ne.symm hx)
      obtain ⟨v1, v2⟩ := hlt hsplit
      have hS1 : ∀ x ∈ l1, (listed.setIfInBounds i true).getD x.i false = listed.getD x.i false := fun x hx => hSo _ (by rw [← hr1]; exact v1 x hx)
      have hS2 : ∀ x ∈ l2, (listed.setIfInBounds i true).getD x.i false = listed.getD x.i false := fun x hx => hSo _ (by rw [← hr1]; exact v2 x hx)
      have hcs' : ∀ j, (listed.setIfInBounds i true).getD j false = true → edgesIn ops.toList (fun j => (listed.setIfInBounds i true).getD j false = true) j := fun j hj o' ho' e he hb => by
        refine getD_set_true ?_
        by_cases hji : j = i
        · subst hji
          rw [Array.getElem?_toList, ho] at ho'
          simp only [Option.some.injEq] at ho'
          subst ho'
          exact hedge e he hb
        · rw [hSo j hji] at hj
          exact hcs j hj o' ho' e he hb
      have hLr : ∀ p ∈ L, r.o.dst ≠ some p.1 := by
        have h3 : (recs.map fun r => (r.i, r.o))[i]? = some (r.i, r.o) := by rw [List.getElem?_map, hri]; rfl
        rw [t1, List.getElem?_map, numb_get, Option.map_map] at h3
        obtain ⟨x, hx, hxe⟩ := Option.map_eq_some_iff.1 h3
        simp only [Function.comp, Prod.mk.injEq] at hxe
        have := hL x (List.mem_of_getElem? hx)
        rw [hxe.2] at this
        exact this
      have hdst := hok.dst
      rw [u3] at hdst
      -- what is laid down
      have put : ∀ (z3 : Z) (H3 : Hp) (v : Value), Nx z z3 → HRep z3 H3 → ARep z3 r.x v → (∀ id, layF (Rc.hpE id) (recs.filter fun r => (listed.setIfInBounds i true).getD r.i false) (hpAt st.hp id) = hpAt H3 id) →
          J z0 N L ops recs st (listed.setIfInBounds i true) (a.put r.o.dst v) z3.w := fun z3 H3 v k1 k2 k3 k4 => by
        have kp := k1.kp hH.sub
        refine ⟨z3, H3, rfl, hn.trans k1, fun id => by rw [k1.dom]; exact hD id, k2, k4, fun t => ?_, fun p hp => ?_, (put_size _ _ _).2.trans hdf, by rw [(put_size _ _ _).1]; exact hnt, by simpa using hsz, hcs'⟩
        · by_cases ht : r.o.dst = some t
          · rw [hsplit, (lay_put (f := Rc.tmE t) (S := fun i => listed.getD i false) (S' := fun j => (listed.setIfInBounds i true).getD j false) hSi hS' hS1 hS2).1 r.x (by simp [Rc.tmE, ht]) (slot2 t (.inr ht)), ht, eval_put_same (by
              rw [ht] at hdst
              simp only [dstOk, Nat.blt_eq] at hdst
              omega)]
            exact k3
          · rw [hsplit, (lay_put (f := Rc.tmE t) (S := fun i => listed.getD i false) (S' := fun j => (listed.setIfInBounds i true).getD j false) hSi hS' hS1 hS2).2 (by simp [Rc.tmE, ht]), eval_put_ne ht, ← hsplit]
            exact (htm t).kp kp
        · rw [eval_put_ne (hLr p hp)]
          exact (hLs p hp).kp kp
      have same : r.H2 = none → ∀ id, layF (Rc.hpE id) (recs.filter fun r => (listed.setIfInBounds i true).getD r.i false) (hpAt st.hp id) = hpAt H id := fun h2 id => by
        rw [hsplit, (lay_put (f := Rc.hpE id) (S := fun i => listed.getD i false) (S' := fun j => (listed.setIfInBounds i true).getD j false) hSi hS' hS1 hS2).2 (by simp [Rc.hpE, h2]), ← hsplit]
        exact hhp id
      unfold wpOp
      simp only [ho, hwant]
      cases hgo : r.go
      · simp only [Bool.false_eq_true, if_false]
        obtain ⟨x1, x2⟩ := hok.no hgo
        exact hnext _ _ (put z H undef (Nx.refl z) hH (by rw [x1]; exact undef_ok) (same x2))
      · simp only [if_true]
        refine .inl ?_
        -- the footprint
        have foot1 : ∀ id ∈ r.ft, ∀ x ∈ l1, (x.hpE id).isSome = true → listed.getD x.i false = true := fun id hid x hx hs => by
          have hxt := t2 x (by rw [hsplit]; exact List.mem_append_left _ hx)
          have hxg : x.go = true := by
            cases hxg : x.go
            · have := (hxt.no hxg).2; simp [Rc.hpE, this] at hs
            · rfl
          have hxw : isR P x.o = false ∧ memN id x.ft = true := by
            rcases hxt.yes hxg with ⟨_, _, y⟩ | ⟨y, _⟩
            · simp [Rc.hpE, y] at hs
            · refine ⟨y, ?_⟩
              unfold Rc.hpE at hs
              split at hs
              · split at hs
                · assumption
                · cases hs
              · cases hs
          rcases hf1.2.2 x hx r List.mem_cons_self hxg hgo with h | h
          · exact hA _ (memN_iff.1 h)
          · exfalso
            have hmt : meetN x.ft r.ft = true := by
              have : ∀ {l : List Nat}, id ∈ l → meetN l r.ft = true := fun {l} => by
                induction l with
                | nil => intro h; cases h
                | cons y l ih =>
                  intro h
                  simp only [meetN, Bool.or_eq_true]
                  rcases List.mem_cons.1 h with rfl | h
                  · exact .inl (memN_iff.2 hid)
                  · exact .inr (ih h)
              exact this (memN_iff.1 hxw.2)
            simp [clash, hxw.1, hmt] at h
        have foot2 : ∀ id ∈ r.ft, ∀ x ∈ l2, (x.hpE id).isSome = true → listed.getD x.i false = false := fun id hid x hx hs => by
          have hxt := t2 x (by rw [hsplit]; exact List.mem_append_right _ (List.mem_cons_of_mem _ hx))
          have hxg : x.go = true := by
            cases hxg : x.go
            · have := (hxt.no hxg).2; simp [Rc.hpE, this] at hs
            · rfl
          have hxw : isR P x.o = false ∧ memN id x.ft = true := by
            rcases hxt.yes hxg with ⟨_, _, y⟩ | ⟨y, _⟩
            · simp [Rc.hpE, y] at hs
            · refine ⟨y, ?_⟩
              unfold Rc.hpE at hs
              split at hs
              · split at hs
                · assumption
                · cases hs
              · cases hs
          rcases (List.pairwise_cons.1 hf1.2.1).1 x hx hgo hxg with h | h
          · exact hB _ (memN_iff.1 h)
          · exfalso
            have hmt : meetN r.ft x.ft = true := by
              have : ∀ {l : List Nat}, id ∈ l → meetN l x.ft = true := fun {l} => by
                induction l with
                | nil => intro h; cases h
                | cons y l ih =>
                  intro h
                  simp only [meetN, Bool.or_eq_true]
                  rcases List.mem_cons.1 h with rfl | h
                  · exact .inl hxw.2
                  · exact .inr (ih h)
              exact this hid
            simp [clash, hxw.1, hmt] at h
        have hfoot : ∀ id ∈ r.ft, hpAt H id = hpAt r.st.hp id := fun id hid => by
          rw [← hhp id, hsplit, lay_agree (f := Rc.hpE id) (S := fun i => listed.getD i false) hSi (foot1 id hid) (foot2 id hid)]
          exact u2 id
        let F : Nat → Bool := fun id => memN id r.ft
        have hfoc : HRep (z.foc H F) (hsub r.st.hp r.ft) := foc_ok hH (fun id => by
            rw [(hsub_get _ _ id).1]
            show _ = if memN id r.ft = true then _ else _
            split
            · rename_i hm; exact (congrArg Prod.snd (hfoot id (memN_iff.1 hm))).symm
            · rfl) (fun id => by
            rw [(hsub_get _ _ id).2]
            show _ = (memN id r.ft && _)
            cases hm : memN id r.ft
            · rfl
            · rw [show hkey r.st.hp id = hkey H id from (congrArg Prod.fst (hfoot id (memN_iff.1 hm))).symm])
        classical
        let r' : Operand → AV := fun x => if x ∈ r.o.op.operands then r.st.opnd x else .junk
        have hr' : ∀ x ∈ r.o.op.operands, r.st.opnd x = r' x := fun x hx => (if_pos hx).symm
        have hrep : ∀ x, ARep (z.foc H F) (r' x) (a.eval x) := fun x => by
          by_cases hx : x ∈ r.o.op.operands
          · rw [← hr' x hx]; exact (hopn x hx).less rfl rfl fun g h => h
          · show ARep _ (if x ∈ r.o.op.operands then r.st.opnd x else .junk) _
            rw [if_neg hx]; exact .junk _
        rcases hok.yes hgo with ⟨_, y1, y2⟩ | ⟨_, y1, y2, Hr, y3, y4, y5⟩
        · rw [evR_congr hr'] at y1
          refine evR_wp (z := z.foc H F) y1 hfoc hrep fun x v q1 q2 => ?_
          simp only [Option.some.injEq] at q2
          subst q2
          exact hnext _ _ (put z H v (Nx.refl z) hH (q1.less rfl rfl fun g h => h) (same y2))
        · rw [evW_congr hr'] at y4
          have hidF : ∀ id ∈ r.an.ids, ¬ (z.foc H F).D id := fun id hid hd => by
            rcases hd with hd | ⟨_, hd⟩
            · exact hD id hd
            · have : F id = true := memN_iff.2 (by
                unfold Rc.ft foot
                rw [nubN_mem]
                exact List.mem_append_left _ (List.mem_append_right _ hid))
              rw [this] at hd
              cases hd
          refine evW_wp (z := z.foc H F) hT y4 hfoc hidF (fun hm => hidF _ (by
              cases hids : r.an.ids with
              | nil => exact absurd hids (y1 hm)
              | cons x l => simp)) (.inl y2) hrep fun x v H' z' q1 q2 q3 q4 => ?_
          simp only [Option.some.injEq, Prod.mk.injEq] at q4
          obtain ⟨rfl, rfl⟩ := q4
          have hkF : ∀ id, hkey H' id = true → F id = true := fun id hkk => memN_iff.2 (allIn_iff.1 y5 id (hkey_mem.1 hkk))
          obtain ⟨z3, m1, m2, m3, m4, m5⟩ := merge_ok (H3 := setAll (killAll H r.ft) H') hH q2 q1 hkF (fun id => by
              rw [hget_setAll, hget_killAll]) (fun id hh => by
              rw [hkey_setAll, hkey_killAll]
              rcases hh with hh | hh <;> simp [hh])
          rw [← m1]
          refine hnext _ _ (put z3 _ v m5 m4 (q3.less m1 m3 fun g h => by rw [← m2]; exact h) fun id => ?_)
          by_cases hm : memN id r.ft = true
          · rw [hsplit, (lay_put (f := Rc.hpE id) (S := fun i => listed.getD i false) (S' := fun j => (listed.setIfInBounds i true).getD j false) hSi hS' hS1 hS2).1 (true, if hkey H' id = true then hget H' id else none) (by simp [Rc.hpE, y3, hm]) (foot2 id (memN_iff.1 hm))]
            unfold hpAt
            rw [hkey_setAll, hget_setAll, hkey_killAll, hget_killAll]
            simp [hm]
          · have hk0 : hkey H' id = false := by
              cases hk0 : hkey H' id
              · rfl
              · exact absurd (hkF id hk0) hm
            rw [hsplit, (lay_put (f := Rc.hpE id) (S := fun i => listed.getD i false) (S' := fun j => (listed.setIfInBounds i true).getD j false) hSi hS' hS1 hS2).2 (by simp [Rc.hpE, y3, hm]), ← hsplit]
            rw [hhp id]
            unfold hpAt
            rw [hkey_setAll, hget_setAll, hkey_killAll, hget_killAll]
            simp [hm, hk0]
    intro fuel
    induction fuel with
    | zero =>
      intro listed a w hf hj
      have hr : Region.ready .any ops listed = [] := by
        cases hr : Region.ready .any ops listed with
        | nil => rfl
        | cons i l =>
          have hi : i ∈ Region.ready .any ops listed := by rw [hr]; exact List.mem_cons_self
          obtain ⟨h1, o, h2, _⟩ := mem_ready.1 hi
          have : i ∈ (List.range ops.size).filter fun j => !listed.getD j true := by
            rw [List.mem_filter]
            exact ⟨List.mem_range.2 (Array.getElem?_eq_some_iff.1 h2).1, by rw [h1]; rfl⟩
          have := List.length_pos_of_mem this
          omega
      exact ⟨hr, fin listed a w hr hj⟩
    | succ fuel ih =>
      intro listed a w hf hj
      refine ⟨fun hr => fin listed a w hr hj, fun i hi => ?_⟩
      refine step listed a w i _ hi hj fun a' w' hj' => ih _ a' w' ?_ hj'
      obtain ⟨_, _, _, _, _, _, _, _, _, _, _, hsz, _⟩ := hj
      have := unlisted_count hsz (mem_ready.1 hi).1
      omega
  obtain ⟨z, rfl, hn, hD, hH, hs, hLs, hdf, hnt, _⟩ := hi
  have hempty : (recs.filter fun r => (Array.replicate ops.size false).getD r.i false) = [] := by
    rw [List.filter_eq_nil_iff]
    intro r _
    simp [Array.getElem?_replicate]
    split <;> rfl
  refine main ops.size _ a z.w ?_ ⟨z, st.hp, rfl, hn, hD, hH, fun id => by rw [hempty]; rfl, fun t => by rw [hempty]; exact hs t, hLs, hdf, hnt, by simp, fun j hj => ?_⟩
  · have : ((List.range ops.size).filter fun j => !(Array.replicate ops.size false).getD j true) = List.range ops.size := by
      rw [List.filter_eq_self]
      intro j hj
      simp [List.mem_range.1 hj]
    rw [this]
    simp
  · exfalso
    simp [Array.getElem?_replicate] at hj
    split at hj <;> simp at hj
end
end Go.Ab

/- Code: what the evaluator says of it holds. -/
namespace Go.Ab

theorem hget_fillN (H : Hp) : ∀ (n id : Nat), hget (fillN H n) id = hget H id ∧ hkey (fillN H n) id = (hkey H id || decide (id < n))
  | 0, id => by simp [fillN]
  | n + 1, id => by
    obtain ⟨q1, q2⟩ := hget_fillN H n id
    simp only [fillN]
    cases hk : hkey H n
    · simp only [cond_false, hget, hkey]
      by_cases h : n = id
      · subst h
        simp only [(beq_nat n n).2 rfl, cond_true, hk]
        refine ⟨(hget_none_of_hkey hk).symm, ?_⟩
        simp
      · simp only [beq_nat_ff h, cond_false, q1, q2]
        refine ⟨trivial, ?_⟩
        congr 1
        by_cases h2 : id < n
        · simp [h2, show id < n + 1 by omega]
        · simp [h2, show ¬ id < n + 1 by omega]
    · simp only [cond_true, q1, q2]
      refine ⟨trivial, ?_⟩
      by_cases h : id = n
      · subst h; simp [hk]
      · congr 1
        by_cases h2 : id < n
        · simp [h2, show id < n + 1 by omega]
        · simp [h2, show ¬ id < n + 1 by omega]
theorem fixN_ok {n : Nat} : ∀ {ps : List (Nat × Nat)}, fixN n ps = true → ∀ i k, (i, k) ∈ ps → i = k ∨ (n ≤ i ∧ n ≤ k)
  | [], _, i, k, h => by cases h
  | (a, b) :: ps, h, i, k, hm => by
    simp only [fixN, Bool.and_eq_true, Bool.or_eq_true, beq_nat, Nat.ble_eq] at h
    rcases List.mem_cons.1 hm with hm | hm
    · injection hm with h1 h2
      subst h1; subst h2
      exact h.1
    · exact fixN_ok h.2 i k hm
theorem unTm_ok {z : Z} {f : Nat → Value} : ∀ {ks : List Nat} {vs : List AV} {t : Tr}, (∀ k, ARep z (t.get k) (f k)) → AReps z vs (ks.map f) → ∀ k, ARep z ((unTm ks vs t).get k) (f k)
  | [], vs, t, h, _, k => by cases vs <;> exact h k
  | k0 :: ks, [], t, h, _, k => h k
  | k0 :: ks, a :: vs, t, h, hv, k => by
    simp only [unTm]
    refine unTm_ok (fun j => ?_) hv.tail k
    by_cases hj : j = k0
    · subst hj
      rcases (Tr.get_put t j a j).2 with e | e <;> rw [e]
      · exact hv.head
      · exact .junk _
    · rw [(Tr.get_put t k0 a j).1 hj]; exact h j
theorem keep_get : ∀ (t : Tr) (k : Nat), t.keep.get k = .junk ∨ (t.keep.get k = t.get k ∧ (t.get k).noRef = true)
  | .lf, k => .inl rfl
  | .nd l v r, k => by
    simp only [Tr.keep, Tr.get]
    by_cases h0 : k = 0
    · subst h0
      simp only [(beq_nat 0 0).2 rfl, cond_true]
      cases hv : v.noRef
      · exact .inl rfl
      · exact .inr ⟨rfl, rfl⟩
    · simp only [beq_nat_ff h0, cond_false]
      by_cases h1 : k % 2 = 1
      · simp only [(beq_nat _ _).2 h1, cond_true]; exact keep_get l _
      · simp only [beq_nat_ff h1, cond_false]; exact keep_get r _
theorem junk_get : ∀ (l : List Nat) (t : Tr) (k : Nat), (k ∈ l → (t.junk l).get k = .junk) ∧ (k ∉ l → (t.junk l).get k = t.get k)
  | [], t, k => ⟨fun h => (by cases h), fun _ => rfl⟩
  | i :: l, t, k => by
    obtain ⟨h1, h2⟩ := junk_get l (t.put i .junk) k
    simp only [Tr.junk]
    refine ⟨fun h => ?_, fun h => ?_⟩
    · by_cases hk : k ∈ l
      · exact h1 hk
      · rw [h2 hk]
        have : k = i := (List.mem_cons.1 h).resolve_right hk
        subst this
        rcases (Tr.get_put t k .junk k).2 with e | e <;> exact e
    · rw [List.mem_cons, not_or] at h
      rw [h2 h.2, (Tr.get_put t i .junk k).1 h.1]
theorem tr_bound : ∀ (t : Tr), ∃ n, ∀ k, n ≤ k → t.get k = .junk
  | .lf => ⟨0, fun _ _ => rfl⟩
  | .nd l v r => by
    obtain ⟨nl, hl⟩ := tr_bound l
    obtain ⟨nr, hr⟩ := tr_bound r
    refine ⟨2 * (nl + nr) + 3, fun k hk => ?_⟩
    have h0 : k ≠ 0 := by omega
    simp only [Tr.get, beq_nat_ff h0, cond_false]
    by_cases h1 : k % 2 = 1
    · simp only [(beq_nat _ _).2 h1, cond_true]; exact hl _ (by omega)
    · simp only [beq_nat_ff h1, cond_false]; exact hr _ (by omega)
theorem noRef_ids {a : AV} (h : a.noRef = true) : AV.ids a = [] := by
  cases a <;> first | rfl | (simp only [AV.noRef, List.isEmpty_iff] at h; exact h)
theorem least {p : Nat → Prop} (h : ∃ n, p n) : ∃ n, p n ∧ ∀ m, p m → n ≤ m := by
  obtain ⟨n, hn⟩ := h
  induction n using Nat.strongRecOn with
  | _ n ih =>
    by_cases hm : ∃ m, m < n ∧ p m
    · obtain ⟨m, h1, h2⟩ := hm
      exact ih m h1 h2
    · exact ⟨n, hn, fun m h => Nat.le_of_not_lt fun hlt => hm ⟨m, hlt, h⟩⟩

section
variable {P : Program} {T : Tbl} {β : Type} {z0 : Z} {N : Nat} {L : List (Nat × AV)}
theorem Inv.sub {L' : List (Nat × AV)} {st : St} {a : Act} {w : World} (hi : Inv z0 N L' st a w) (h : ∀ p ∈ L, p ∈ L') : Inv z0 N L st a w := by
  obtain ⟨z, rfl, hn, hD, hH, hs, hLs, hdf, hnt, h0⟩ := hi
  exact ⟨z, rfl, hn, hD, hH, hs, fun p hp => hLs p (h p hp), hdf, hnt, h0⟩
/-- A state's shape, and back. -/
theorem prj_ok {st : St} {sh : LShp} {K : sh.D → Option β} {r : β} {a : Act} {w : World} {base : Tr} {nt n0 : Nat} (h : st.prj sh K = some r) (hi : Inv z0 N L st a w) (hLn : ∀ p ∈ L, AV.ids p.2 = [])
    (hb : ∀ k, base.get k = .junk ∨ (k, base.get k) ∈ L) (hnt : nt ≤ N) (h0 : ∀ id, z0.ρ id ≠ .no → id < n0) : ∃ t, K t = some r ∧ Inv z0 N L (sh.inj base nt n0 t) a w := by
  obtain ⟨z, rfl, hn, hD, hH, hs, hLs, hdf, hnt', h0'⟩ := hi
  unfold St.prj at h
  obtain ⟨h1, h2⟩ := need_iff.1 h
  have hfix := fixN_ok h1
  obtain ⟨t, z', k1, k2, k3, k4, k5, k6, k7, k8, k9, k10, k11⟩ := Shp.rco_ok (vals := sh.live.map fun k => a.eval (.tmp k)) (fun k => if k < n0 then z.ρ k else .no) h2 hH ⟨by simp, fun i x v e1 e2 => by
    rw [List.getElem?_map] at e1 e2
    obtain ⟨k, e3, rfl⟩ := Option.map_eq_some_iff.1 e1
    rw [e3] at e2
    simp at e2
    subst e2
    exact hs k⟩
  have hρ : ∀ id, z0.ρ id ≠ .no → z'.ρ id = z0.ρ id := fun id hid => by
    cases hk : memN id (hkKeys sh.s.hs)
    · rw [k7 id hk]
      simp only [if_pos (h0 id hid)]
      exact hn.ext id hid
    · obtain ⟨id', q1, q2⟩ := k6 id hk
      rcases hfix id' id q1 with rfl | ⟨_, q4⟩
      · rw [q2]; exact hn.ext id' hid
      · have := h0' id hid; omega
  let z2 : Z := { z' with D := fun _ => False }
  have hn2 : Nx z0 z2 := ⟨by show z'.w.os = _; rw [k2]; exact hn.os, by show z'.w.tape = _; rw [k2]; exact hn.tape, by show z'.w.output = _; rw [k2]; exact hn.output, by show _ ≤ z'.w.heap.size; rw [k2]; exact hn.size,
    fun b hb hc => by show z'.w.heap[b]? = _; rw [k2]; exact hn.block b hb hc, fun g hg => hn.subM g (by rw [← k3]; exact hg), fun g hg => hn.subC g (k8 g hg), fun g hg hm hc => by show z'.M g; rw [k3]; exact hn.keepM g hg hm hc, hρ, by
      funext id
      have h1 : ¬ z.D id := hD id
      rw [hn.dom] at h1
      exact propext ⟨fun h => h.elim, fun h => h1 h⟩⟩
  have hL2 : ∀ p ∈ L, ARep z2 p.2 (a.eval (.tmp p.1)) := fun p hp => (hLs p hp).rho (z' := z2) k2 k3 fun id hid => by rw [hLn p hp] at hid; cases hid
  refine ⟨t, k1, ?_⟩
  rw [LShp.inj_eq]
  refine ⟨z2, k2, hn2, fun _ h => h, ?_, ?_, hL2, hdf, ⟨hnt, hnt'.2⟩, h0⟩
  · have eq := hget_fillN (sh.s.emb t).2 n0
    refine ⟨fun id e' he => ?_, fun i i' e e' g sz n g' sz' n' hii p1 p2 m1 m2 p3 p4 => ?_, fun id hid => ?_, k4.sub⟩
    · rw [(eq id).1] at he
      exact (k4.ent id e' he).rho rfl rfl rfl (fun _ _ => rfl) fun _ _ _ _ _ h => h
    · rw [(eq i).1] at p1
      rw [(eq i').1] at p2
      exact k4.inj i i' _ _ g sz n g' sz' n' hii p1 p2 m1 m2 p3 p4
    · rw [(eq id).2] at hid
      simp only [Bool.or_eq_false_iff, decide_eq_false_iff_not] at hid
      rw [k11] at hid
      left
      show z'.ρ id = .no
      rw [k7 id hid.1, if_neg hid.2]
  · refine unTm_ok (z := z2) (f := fun k => a.eval (.tmp k)) (fun k => ?_) (k5.less rfl rfl fun g h => h)
    rcases hb k with e | e
    · rw [e]; exact .junk _
    · exact hL2 _ e

theorem Out.on_inl {γ : Type} {base : Tr} {nt n0 : Nat} : ∀ {rt : Bool} {l : List (Nat × LShp)} {i : Nat} {st : St} {K : Out rt l β → Option γ} {r : γ} {a : Act} {w : World}, Out.mk st rt l i K = some r → Inv z0 N L st a w → (∀ p ∈ L, AV.ids p.2 = []) →
    (∀ k, base.get k = .junk ∨ (k, base.get k) ∈ L) → nt ≤ N → (∀ id, z0.ρ id ≠ .no → id < n0) → ∃ o, K o = some r ∧ ∀ (X : Nat → St → Option β) (R : β → Option β), ∃ st1, Inv z0 N L st1 a w ∧ Out.on base nt n0 rt l o X R = X i st1
  | rt, [], i, st, K, r, a, w, h, _, _, _, _, _ => by cases rt <;> cases h
  | true, [(j, s)], i, st, K, r, a, w, h, hi, hLn, hb, hnt, h0 => by
    simp only [Out.mk] at h
    cases hj : Nat.beq j i <;> rw [hj] at h <;> simp only [bq_true, bq_false] at h
    · cases h
    rw [beq_nat] at hj
    subst hj
    obtain ⟨t, h1, h2⟩ := prj_ok h hi hLn hb hnt h0
    exact ⟨.inl t, h1, fun X R => ⟨_, h2, rfl⟩⟩
  | false, [(j, s)], i, st, K, r, a, w, h, hi, hLn, hb, hnt, h0 => by
    simp only [Out.mk] at h
    cases hj : Nat.beq j i <;> rw [hj] at h <;> simp only [bq_true, bq_false] at h
    · cases h
    rw [beq_nat] at hj
    subst hj
    obtain ⟨t, h1, h2⟩ := prj_ok h hi hLn hb hnt h0
    exact ⟨t, h1, fun X R => ⟨_, h2, rfl⟩⟩
  | rt, (j, s) :: o :: l, i, st, K, r, a, w, h, hi, hLn, hb, hnt, h0 => by
    have h' : bq (Nat.beq j i) (st.prj s fun t => K (.inl t)) (Out.mk st rt (o :: l) i fun x => K (.inr x)) = some r := by cases rt <;> exact h
    clear h
    cases hj : Nat.beq j i <;> rw [hj] at h' <;> simp only [bq_true, bq_false] at h'
    · obtain ⟨x, h1, h2⟩ := Out.on_inl h' hi hLn hb hnt h0
      refine ⟨.inr x, h1, fun X R => ?_⟩
      obtain ⟨st1, h3, h4⟩ := h2 X R
      exact ⟨st1, h3, by cases rt <;> exact h4⟩
    · rw [beq_nat] at hj
      subst hj
      obtain ⟨t, h1, h2⟩ := prj_ok h' hi hLn hb hnt h0
      exact ⟨.inl t, h1, fun X R => ⟨_, h2, by cases rt <;> rfl⟩⟩
theorem Out.on_ret {base : Tr} {nt n0 : Nat} {b : β} {X : Nat → St → Option β} {R : β → Option β} : ∀ {l : List (Nat × LShp)}, Out.on base nt n0 true l (Out.ret l b) X R = R b
  | [] => rfl
  | [(_, _)] => rfl
  | (_, _) :: o :: l => Out.on_ret (l := o :: l)

theorem Tr.ren_get (f : Nat → Option Nat) : ∀ (t : Tr) (k : Nat), (t.ren f).get k = AV.ren f (t.get k)
  | .lf, k => rfl
  | .nd l v r, k => by
    simp only [Tr.ren, Tr.get]
    cases Nat.beq k 0
    · cases Nat.beq (k % 2) 1
      · exact Tr.ren_get f r _
      · exact Tr.ren_get f l _
    · rfl
theorem mapHp_get (f : Nat → Option Nat) : ∀ (H : Hp) (id : Nat), hget (mapHp f H) id = (hget H id).map (Ent.ren f) ∧ hkey (mapHp f H) id = hkey H id
  | [], id => ⟨rfl, rfl⟩
  | (i, none) :: H, id => by
    obtain ⟨h1, h2⟩ := mapHp_get f H id
    simp only [mapHp, hget, hkey]
    cases Nat.beq i id
    · exact ⟨h1, h2⟩
    · exact ⟨rfl, rfl⟩
  | (i, some e) :: H, id => by
    obtain ⟨h1, h2⟩ := mapHp_get f H id
    simp only [mapHp, hget, hkey]
    cases Nat.beq i id
    · exact ⟨h1, h2⟩
    · exact ⟨rfl, rfl⟩
theorem renF_eq {old new id k : Nat} (h : renF old new id = some k) : (id = old ∧ k = new) ∨ (id ≠ old ∧ k = id) := by
  unfold renF at h
  by_cases hi : id = old
  · rw [(beq_nat id old).2 hi, bq_true] at h
    exact .inl ⟨hi, (Option.some.inj h).symm⟩
  · rw [beq_nat_ff hi, bq_false] at h
    exact .inr ⟨hi, (Option.some.inj h).symm⟩
theorem renum_ok {z : Z} {H : Hp} {old new : Nat} {e : Ent} (hH : HRep z H) (hg : hget H old = some e) (hk : hkey H new = false) (hd : ¬ z.D new) :
    ∃ z', z'.w = z.w ∧ HRep z' (hset (hset (mapHp (renF old new) H) old none) new (some (e.ren (renF old new)))) ∧ Nx z z' ∧ ∀ a v, ARep z a v → ARep z' (AV.ren (renF old new) a) v := by
  have hno := (hH.fresh new hk).resolve_right hd
  have hne : new ≠ old := fun h => by rw [h, hkey_of_hget hg] at hk; cases hk
  let z' : Z := { z with ρ := fun i => if i = new then z.ρ old else z.ρ i }
  have e1 : ∀ i, i ≠ new → z'.ρ i = z.ρ i := fun i hi => if_neg hi
  have e2 : z'.ρ new = z.ρ old := if_pos rfl
  have hn : Nx z z' := ⟨rfl, rfl, rfl, Nat.le_refl _, fun _ _ _ => rfl, fun _ h => .inl h, fun _ h => .inl h, fun _ _ h _ => h, fun i hi => e1 i (by rintro rfl; exact hi hno), rfl⟩
  have hf : ∀ {id k : Nat}, z.ρ id ≠ .no → renF old new id = some k → z'.ρ k = z.ρ id := fun {id k} hl h => by
    rcases renF_eq h with ⟨rfl, rfl⟩ | ⟨h1, rfl⟩
    · exact e2
    · exact e1 _ (by rintro rfl; exact hl hno)
  have hid : ∀ i ee, hget H i = some ee → i ≠ new := fun i ee h hi => by rw [← hi, hkey_of_hget h] at hk; cases hk
  have hent : ∀ i ee, ERep z i ee → ∀ k, z'.ρ k = z.ρ i → ERep z' k (ee.ren (renF old new)) := fun i ee h k hki => by
    unfold ERep at h ⊢
    rw [hki]
    cases hr : z.ρ i with
    | no => rw [hr] at h; exact h
    | virt =>
      rw [hr] at h
      obtain ⟨fz, b⟩ := ee
      cases b <;> first | exact h.elim | exact h
    | real g sz n =>
      rw [hr] at h
      obtain ⟨a1, a2, a3, a4⟩ := h
      refine ⟨a1, a2, a3, a4.ren' ?_⟩
      exact hf
  have key : ∀ i ee, hget (hset (hset (mapHp (renF old new) H) old none) new (some (e.ren (renF old new)))) i = some ee → ∃ j e0, hget H j = some e0 ∧ ee = e0.ren (renF old new) ∧ ((i = new ∧ j = old) ∨ (i ≠ new ∧ i ≠ old ∧ j = i)) := fun i ee h => by
    rw [hget_hset] at h
    by_cases hi : i = new
    · rw [if_pos hi] at h
      exact ⟨old, e, hg, (Option.some.inj h).symm, .inl ⟨hi, rfl⟩⟩
    · rw [if_neg hi, hget_hset] at h
      by_cases ho : i = old
      · rw [if_pos ho] at h; cases h
      · rw [if_neg ho, (mapHp_get _ H i).1] at h
        obtain ⟨e0, h1, h2⟩ := Option.map_eq_some_iff.1 h
        exact ⟨i, e0, h1, h2.symm, .inr ⟨hi, ho, rfl⟩⟩
  have hρj : ∀ i j, ((i = new ∧ j = old) ∨ (i ≠ new ∧ i ≠ old ∧ j = i)) → z'.ρ i = z.ρ j := fun i j h => by
    rcases h with ⟨rfl, rfl⟩ | ⟨h1, _, rfl⟩
    · exact e2
    · exact e1 _ h1
  refine ⟨z', rfl, ⟨fun i ee h => ?_, fun i i' ee ee' g sz n g' sz' n' hii p1 p2 m1 m2 p3 p4 => ?_, fun i h => ?_, hH.sub⟩, hn, fun a v h => h.ren rfl rfl fun id k hi hk => hf (h.live id hi) hk⟩
  · obtain ⟨j, e0, q1, rfl, q3⟩ := key i ee h
    exact hent j e0 (hH.ent _ _ q1) i (hρj i j q3)
  · obtain ⟨j, e0, q1, rfl, q3⟩ := key i ee p1
    obtain ⟨j', e0', q1', rfl, q3'⟩ := key i' ee' p2
    rw [hρj i j q3] at p3
    rw [hρj i' j' q3'] at p4
    have hjj : j ≠ j' := by
      rcases q3 with ⟨rfl, rfl⟩ | ⟨h1, h2, rfl⟩ <;> rcases q3' with ⟨rfl, rfl⟩ | ⟨h1', h2', rfl⟩
      · exact absurd rfl hii
      · exact Ne.symm h2'
      · exact h2
      · exact hii
    exact hH.inj j j' e0 e0' g sz n g' sz' n' hjj q1 q1' m1 m2 p3 p4
  · rw [hkey_hset, hkey_hset, (mapHp_get _ H i).2] at h
    simp only [Bool.or_eq_false_iff, decide_eq_false_iff_not] at h
    rw [e1 i h.1]
    exact hH.fresh i h.2.2
theorem ghost_ok {g : Gh} {st st' : St} {a : Act} {w : World} (h : ghost P g st = some st') (hi : Inv z0 N L st a w) (_hL : ∀ k, ((∃ e id, g = .ownNil k e id) ∨ g = .pure k) → ∀ p ∈ L, p.1 ≠ k) (hLn : ∀ p ∈ L, AV.ids p.2 = []) : Inv z0 N L st' a w := by
  obtain ⟨z, rfl, hn, hD, hH, hs, hLs, hdf, hnt, h0⟩ := hi
  unfold ghost at h
  split at h
  · rename_i old new
    split at h
    · rename_i e hg
      cases hk : hkey st.hp new <;> rw [hk] at h <;> simp only [bq_true, bq_false] at h
      · simp only [Option.some.injEq] at h
        subst h
        obtain ⟨z', q1, q2, q3, q4⟩ := renum_ok hH hg hk (hD new)
        have kp := q3.kp hH.sub
        refine ⟨z', q1, hn.trans q3, fun id => by rw [q3.dom]; exact hD id, q2, fun t => ?_, fun p hp => (hLs p hp).kp kp, hdf, hnt, h0⟩
        show ARep z' ((st.tm.ren (renF old new)).get t) _
        rw [Tr.ren_get]
        exact q4 _ _ (hs t)
      · cases h
    · cases h
  · rename_i k
    obtain ⟨⟨x, H'⟩, h1, h2⟩ := Option.map_eq_some_iff.1 h
    subst h2
    obtain ⟨z', q1, q2, q3, q4, q5⟩ := pureA_ok hH h1 (hs k)
    have kp := q3.kp hH.sub
    refine ⟨z', q1, hn.trans q3, fun id => by rw [q3.dom]; exact hD id, q2, fun t => ?_, fun p hp => (hLs p hp).kp kp, hdf, hnt, h0⟩
    show ARep z' ((st.tm.put k x).get t) _
    by_cases ht : t = k
    · subst ht
      rcases (Tr.get_put st.tm t x t).2 with e | e <;> rw [e]
      · exact q5
      · exact .junk _
    · rw [(Tr.get_put st.tm k x t).1 ht]
      exact (hs t).kp kp
  · rename_i k
    simp only [Option.some.injEq] at h
    subst h
    obtain ⟨z', q1, q2, q3, q4⟩ := frzA_ok (st.tm.get k) hH
    have kp := q3.kp hH.sub
    exact ⟨z', q1, hn.trans q3, fun id => by rw [q3.dom]; exact hD id, q2, fun t => (hs t).kp kp, fun p hp => (hLs p hp).kp kp, hdf, hnt, h0⟩
  · rename_i id
    simp only [Option.some.injEq] at h
    subst h
    obtain ⟨z', q1, q2, q3, q4⟩ := frz_ok id hH
    have kp := q3.kp hH.sub
    exact ⟨z', q1, hn.trans q3, fun id => by rw [q3.dom]; exact hD id, q2, fun t => (hs t).kp kp, fun p hp => (hLs p hp).kp kp, hdf, hnt, h0⟩
  · rename_i b o
    split at h
    · rename_i c hg
      split at h
      · rename_i x hc
        split at h
        · rename_i y H' hp
          split at h
          · rename_i c' hg'
            simp only [Option.some.injEq] at h
            subst h
            have hb0 := hH.ent b _ hg
            unfold ERep at hb0
            cases hρ : z.ρ b with
            | no => rw [hρ] at hb0; exact hb0.elim
            | virt => rw [hρ] at hb0; exact hb0.elim
            | real g sz n =>
              rw [hρ] at hb0
              obtain ⟨_, _, _, cs, e', fr, a1, a2, a3, ⟨a4, an⟩, a5, a6⟩ := hb0
              have ho : o < c.length := (List.getElem?_eq_some_iff.1 hc).1
              obtain ⟨v, hv⟩ : ∃ v, cs[o]? = some v := ⟨_, Array.getElem?_eq_getElem (by omega)⟩
              obtain ⟨z1, p1, p2, p3, p4, p5⟩ := pureA_ok hH hp (a5 o x v hc hv)
              have kp := p3.kp hH.sub
              have hρ1 : z1.ρ b = .real g sz n := by rw [p4]; exact hρ
              obtain ⟨r1, r2⟩ := p2.write (w' := z1.w) (b := .vars (c.set o y)) hg' hρ1 rfl rfl rfl rfl (fun _ _ => rfl) (fun _ => by
                refine ⟨cs, e', fr, by rw [p1]; exact a1, a2, a3, ⟨by simpa using a4, an⟩, fun i x' v' q1 q2 => ?_, a6⟩
                rw [List.getElem?_set] at q1
                split at q1
                · rename_i hoi
                  subst hoi
                  rw [hv] at q2
                  simp only [Option.some.injEq] at q2
                  subst q2
                  have : y = x' := by simpa [ho] using q1
                  subst this
                  exact p5
                · exact (a5 i x' v' q1 q2).kp kp)
              exact ⟨z1, p1, hn.trans p3, fun id => by rw [p3.dom]; exact hD id, r1, fun t => (hs t).kp kp, fun p hp => (hLs p hp).kp kp, hdf, hnt, h0⟩
          · cases h
        · simp only [Option.some.injEq] at h
          subst h
          exact ⟨z, rfl, hn, hD, hH, hs, hLs, hdf, hnt, h0⟩
      · simp only [Option.some.injEq] at h
        subst h
        exact ⟨z, rfl, hn, hD, hH, hs, hLs, hdf, hnt, h0⟩
    · simp only [Option.some.injEq] at h
      subst h
      exact ⟨z, rfl, hn, hD, hH, hs, hLs, hdf, hnt, h0⟩
  · rename_i k e id
    split at h
    · rename_i hq
      obtain ⟨u, h1, h2⟩ := ob_iff.1 h
      cases hk : hkey st.hp id <;> rw [hk] at h2 <;> simp only [bq_true, bq_false] at h2
      · simp only [Option.some.injEq] at h2
        subst h2
        obtain ⟨z1, p1, p2, p3, p4⟩ := hH.newV hk (hD id) (b := .rows e u []) ⟨rfl, (ty_ok h1).2.1⟩
        have kp := p3.kp hH.sub
        have hv := hs k
        rw [hq] at hv
        have hv := hv.v.opq.1
        refine ⟨z1, p1, hn.trans p3, fun id => by rw [p3.dom]; exact hD id, p2, fun t => ?_, fun p hp => (hLs p hp).kp kp, hdf, hnt, h0⟩
        by_cases ht : t = k
        · subst ht
          show ARep z1 ((st.tm.put t (.slf u.cells id)).get t) _
          rcases (Tr.get_put st.tm t (.slf u.cells id) t).2 with e | e <;> rw [e]
          · rw [hv]; exact .slfV _ _ _ p4
          · exact .junk _
        · show ARep z1 ((st.tm.put k (.slf u.cells id)).get t) _
          rw [(Tr.get_put st.tm k (.slf u.cells id) t).1 ht]
          exact (hs t).kp kp
      · cases h2
    · simp only [Option.some.injEq] at h
      subst h
      exact ⟨z, rfl, hn, hD, hH, hs, hLs, hdf, hnt, h0⟩
  · rename_i b o e id
    split at h
    · rename_i c hg
      split at h
      · rename_i hc
        obtain ⟨u, h1, h2⟩ := ob_iff.1 h
        cases hk : hkey st.hp id <;> rw [hk] at h2 <;> simp only [bq_true, bq_false] at h2
        · simp only [Option.some.injEq] at h2
          subst h2
          obtain ⟨z1, p1, p2, p3, p4⟩ := hH.newV hk (hD id) (b := .rows e u []) ⟨rfl, (ty_ok h1).2.1⟩
          have kp := p3.kp hH.sub
          have hbi : b ≠ id := fun h => by subst h; rw [hkey_of_hget hg] at hk; cases hk
          have hg1 : hget (hset st.hp id (some ⟨false, .rows e u []⟩)) b = some ⟨false, .vars c⟩ := by rw [hget_hset, if_neg hbi]; exact hg
          have hb0 := p2.ent b _ hg1
          have hsame : ∀ H1 H2 : Hp, H1 = hset (hset st.hp b (some ⟨false, .vars (c.set o (.slf u.cells id))⟩)) id (some ⟨false, .rows e u []⟩) → H2 = hset (hset st.hp id (some ⟨false, .rows e u []⟩)) b (some ⟨false, .vars (c.set o (.slf u.cells id))⟩) →
              (∀ i, hget H1 i = hget H2 i) ∧ ∀ i, hkey H1 i = hkey H2 i := by
            rintro _ _ rfl rfl
            refine ⟨fun i => ?_, fun i => ?_⟩
            · simp only [hget_hset]
              by_cases h1 : i = id
              · subst h1; simp [Ne.symm hbi]
              · simp [h1]
            · simp only [hkey_hset]
              cases decide (i = id) <;> cases decide (i = b) <;> rfl
          obtain ⟨s1, s2⟩ := hsame _ _ rfl rfl
          unfold ERep at hb0
          cases hρ : z1.ρ b with
          | no => rw [hρ] at hb0; exact hb0.elim
          | virt => rw [hρ] at hb0; exact hb0.elim
          | real g sz n =>
            rw [hρ] at hb0
            obtain ⟨_, _, _, cs, e', fr, a1, a2, a3, ⟨a4, an⟩, a5, a6⟩ := hb0
            obtain ⟨r1, r2⟩ := p2.write (w' := z1.w) (b := .vars (c.set o (.slf u.cells id))) hg1 hρ rfl rfl rfl rfl (fun _ _ => rfl) (fun _ => by
              refine ⟨cs, e', fr, a1, a2, a3, ⟨by simpa using a4, an⟩, fun i x v q1 q2 => ?_, a6⟩
              rw [List.getElem?_set] at q1
              split at q1
              · rename_i hoi
                subst hoi
                split at q1
                · simp only [Option.some.injEq] at q1
                  subst q1
                  have := a5 o _ v hc q2
                  obtain rfl := this.v.opq.1
                  exact .slfV _ _ _ p4
                · cases q1
              · exact a5 i x v q1 q2)
            exact ⟨z1, p1, hn.trans p3, fun id => by rw [p3.dom]; exact hD id, r1.same s1 s2, fun t => (hs t).kp kp, fun p hp => (hLs p hp).kp kp, hdf, hnt, h0⟩
        · cases h2
      · simp only [Option.some.injEq] at h
        subst h
        exact ⟨z, rfl, hn, hD, hH, hs, hLs, hdf, hnt, h0⟩
    · simp only [Option.some.injEq] at h
      subst h
      exact ⟨z, rfl, hn, hD, hH, hs, hLs, hdf, hnt, h0⟩

/-! Annotated code and the code -/
def AC.of : AC → Code → Prop
  | .skip, c => c = .skip
  | .ret, c => c = .ret
  | .exit i, c => c = .exit i
  | .seq a b, c => ∃ x y, c = .seq x y ∧ a.of x ∧ b.of y
  | .cond o a b, c => ∃ x y, c = .cond o x y ∧ a.of x ∧ b.of y
  | .block i a, c => ∃ x, c = .block i x ∧ a.of x
  | .loop _ _ _ a, c => ∃ x, c = .loop x ∧ a.of x
  | .region i ops d, c => ∃ arr, c = .region i arr d ∧ ops.map (·.1) = arr.toList
  | .join _ _ _ a, c => a.of c
  | .pre _ a, c => a.of c
  | .sel _ a b, c => a.of c ∧ b.of c
  | .post _ a, c => a.of c
  | .round a r, c => ∃ x, c = .loop x ∧ a.of x ∧ r.of c
  | .bad _, _ => True
theorem annOps_fst (l : List (Nat × Ann)) : ∀ (k : Nat) (ops : List Oper), (annOps l k ops).map (·.1) = ops
  | _, [] => rfl
  | k, o :: r => by simp [annOps, annOps_fst l (k + 1) r]
theorem plain_of : (c : Code) → (plain c).of c
  | .ret => rfl
  | .exit i => rfl
  | .seq a b => ⟨a, b, rfl, plain_of a, plain_of b⟩
  | .cond o a b => ⟨a, b, rfl, plain_of a, plain_of b⟩
  | .block i a => ⟨a, rfl, plain_of a⟩
  | .region i ops d => ⟨ops, rfl, annOps_fst _ _ _⟩
  | .skip => rfl
  | .loop _ | .rangeFunc _ _ _ _ | .scope _ | .label _ | .goto _ | .refuse _ => trivial
theorem build_of : (ov : Ov) → (c : Code) → (build ov c).of c
  | .join sh rt outs x, c => build_of x c
  | .pre g x, c => build_of x c
  | .sel q x y, c => ⟨build_of x c, build_of y c⟩
  | .post g x, c => build_of x c
  | .round x y, c => by cases c <;> first | exact ⟨_, rfl, build_of x _, build_of y _⟩ | exact plain_of _
  | .one x, c => by cases c <;> first | exact ⟨_, rfl, build_of x _⟩ | exact plain_of _
  | .two x y, c => by cases c <;> first | exact ⟨_, _, rfl, build_of x _, build_of y _⟩ | exact plain_of _
  | .loop sh rt outs x, c => by cases c <;> first | exact ⟨_, rfl, build_of x _⟩ | exact plain_of _
  | .reg l, c => by cases c <;> first | exact ⟨_, rfl, annOps_fst _ _ _⟩ | exact plain_of _
  | .leaf, c => plain_of c
theorem Inv.drew {st : St} {a : Act} {w : World} (hi : Inv z0 N L st a w) : Inv z0 N L st a { w with drawn := w.drawn + 1 } := by
  obtain ⟨z, rfl, hn, hD, hH, hs, hLs, hdf, hnt, h0⟩ := hi
  let z1 : Z := { z with w := { z.w with drawn := z.w.drawn + 1 } }
  have hn1 : Nx z z1 := ⟨rfl, rfl, rfl, Nat.le_refl _, fun _ _ _ => rfl, fun _ h => .inl h, fun _ h => .inl h, fun _ _ h _ => h, fun _ _ => rfl, rfl⟩
  have kp := hn1.kp hH.sub
  exact ⟨z1, rfl, hn.trans hn1, hD, ⟨fun id e he => (hH.ent id e he).kp kp fun _ _ _ _ => ⟨rfl, fun h => h⟩, hH.inj, hH.fresh, hH.sub⟩, fun t => (hs t).kp kp, fun p hp => (hLs p hp).kp kp, hdf, hnt, h0⟩
/-- What a base keeps. -/
def baseL (L : List (Nat × AV)) (base : Tr) (n : Nat) : List (Nat × AV) := L ++ (List.range n).map fun k => (k, base.get k)
end
end Go.Ab

/- Code: what the evaluator says of it holds. -/
namespace Go.Ab

section
variable {P : Program} {T : Tbl} {z0 : Z} {N fu : Nat}
theorem base_ok {L : List (Nat × AV)} {st : St} {a : Act} {w : World} (hi : Inv z0 N L st a w) (hLn : ∀ p ∈ L, AV.ids p.2 = []) (wr : List Nat) (hLw : ∀ p ∈ L, p.1 ∉ wr) :
    ∃ L', (∀ p ∈ L, p ∈ L') ∧ Inv z0 N L' st a w ∧ (∀ p ∈ L', AV.ids p.2 = []) ∧ (∀ k, ((st.tm.keep).junk wr).get k = .junk ∨ (k, ((st.tm.keep).junk wr).get k) ∈ L') ∧ ∀ p ∈ L', p.1 ∉ wr := by
  obtain ⟨n, hn⟩ := tr_bound ((st.tm.keep).junk wr)
  have hget : ∀ k, k ∉ wr → ((st.tm.keep).junk wr).get k = .junk ∨ (((st.tm.keep).junk wr).get k = st.tm.get k ∧ (st.tm.get k).noRef = true) := fun k hk => by
    rw [(junk_get wr st.tm.keep k).2 hk]
    exact keep_get st.tm k
  let ex : List (Nat × AV) := (List.range n).filterMap fun k => if memN k wr = true then none else some (k, ((st.tm.keep).junk wr).get k)
  have hex : ∀ p ∈ ex, p.1 ∉ wr ∧ p.2 = ((st.tm.keep).junk wr).get p.1 := fun p hp => by
    obtain ⟨k, _, h⟩ := List.mem_filterMap.1 hp
    split at h
    · cases h
    · rename_i hm
      simp only [Option.some.injEq] at h
      subst h
      exact ⟨fun h => hm (memN_iff.2 h), rfl⟩
  refine ⟨L ++ ex, fun p hp => List.mem_append_left _ hp, ?_, fun p hp => ?_, fun k => ?_, fun p hp => ?_⟩
  · obtain ⟨z, rfl, hn', hD, hH, hs, hLs, hdf, hnt, h0⟩ := hi
    refine ⟨z, rfl, hn', hD, hH, hs, fun p hp => ?_, hdf, hnt, h0⟩
    rcases List.mem_append.1 hp with hp | hp
    · exact hLs p hp
    · obtain ⟨h1, h2⟩ := hex p hp
      rw [h2]
      rcases hget p.1 h1 with e | ⟨e, _⟩ <;> rw [e]
      · exact .junk _
      · exact hs p.1
  · rcases List.mem_append.1 hp with hp | hp
    · exact hLn p hp
    · obtain ⟨h1, h2⟩ := hex p hp
      rw [h2]
      rcases hget p.1 h1 with e | ⟨e, h3⟩ <;> rw [e]
      · rfl
      · exact noRef_ids h3
  · by_cases hk : k ∈ wr
    · exact .inl ((junk_get wr st.tm.keep k).1 hk)
    · by_cases hlt : k < n
      · right
        refine List.mem_append_right _ (List.mem_filterMap.2 ⟨k, List.mem_range.2 hlt, ?_⟩)
        rw [if_neg fun h => hk (memN_iff.1 h)]
      · exact .inl (hn k (by omega))
  · rcases List.mem_append.1 hp with hp | hp
    · exact hLw p hp
    · exact (hex p hp).1

theorem retO_ok {β γ : Type} {rt : Bool} {outs : List (Nat × LShp)} {b : β} {K : Out rt outs β → Option γ} {r : γ} (h : Out.retO rt outs b K = some r) :
    ∃ o, K o = some r ∧ ∀ (base : Tr) (nt n0 : Nat) (X : Nat → St → Option β) (R : β → Option β), Out.on base nt n0 rt outs o X R = R b := by
  cases rt with
  | false => cases h
  | true => exact ⟨_, h, fun base nt n0 X R => Out.on_ret⟩

/-- How many rounds are noted. -/
def AC.nr : AC → Nat
  | .round _ r => r.nr + 1
  | _ => 0
/-- What is said of notes on code. -/
def Gl (P : Program) (ac : AC) (c : Code) (Q : Exit → Act → World → Prop) (a : Act) (w : World) : Prop :=
  match ac with
  | .round x r => ∃ cx, c = .loop cx ∧ Code.rounds P cx Q (AC.nr (.round x r)) a w
  | _ => c.wp P Q a w
theorem Gl.wp {ac : AC} {c : Code} {Q : Exit → Act → World → Prop} {a : Act} {w : World} (h : Gl P ac c Q a w) : c.wp P Q a w := by
  cases ac
  case round x y =>
    obtain ⟨cx, rfl, h⟩ := h
    exact wp_loop_rounds _ h
  all_goals exact h
theorem evC_ok (hT : ∀ e ∈ T, Told P e) (hm : P.follows .mixedOrders = true) : (ac : AC) → {β : Type} → {st : St} → {K : St → Option β} → {X : Nat → St → Option β} → {R : St → Option β} → {res : β} → {c : Code} → {L : List (Nat × AV)} → {a : Act} → {w : World} →
    {Q : Exit → Act → World → Prop} → evS P T fu ac st K X R = some res → ac.of c → Inv z0 N L st a w → (∀ p ∈ L, AV.ids p.2 = []) → (∀ p ∈ L, p.1 ∉ ac.wr) →
    (∀ st' a' w', K st' = some res → Inv z0 N L st' a' w' → Q .normal a' w') → (∀ i st' a' w', X i st' = some res → Inv z0 N L st' a' w' → Q (.exit i) a' w') →
    (∀ st' a' w', R st' = some res → Inv z0 N L st' a' w' → Q .ret a' w') → Gl P ac c Q a w
  | .skip, β, st, K, X, R, res, c, L, a, w, Q, h, hc, hi, hLn, hLw, hK, hX, hR => by
    obtain rfl := hc
    exact wp_skip (hK _ _ _ h hi)
  | .ret, β, st, K, X, R, res, c, L, a, w, Q, h, hc, hi, hLn, hLw, hK, hX, hR => by
    obtain rfl := hc
    exact wp_ret (hR _ _ _ h hi)
  | .exit i, β, st, K, X, R, res, c, L, a, w, Q, h, hc, hi, hLn, hLw, hK, hX, hR => by
    obtain rfl := hc
    exact wp_exit (hX _ _ _ _ h hi)
  | .seq x y, β, st, K, X, R, res, c, L, a, w, Q, h, hc, hi, hLn, hLw, hK, hX, hR => by
    obtain ⟨cx, cy, rfl, h1, h2⟩ := hc
    simp only [AC.wr, List.mem_append, not_or] at hLw
    refine wp_seq (Gl.wp (evC_ok hT hm x h h1 hi hLn (fun p hp => (hLw p hp).1) (fun st' a' w' h' hi' => ?_) hX hR))
    exact Gl.wp (evC_ok hT hm y h' h2 hi' hLn (fun p hp => (hLw p hp).2) hK hX hR)
  | .cond o x y, β, st, K, X, R, res, c, L, a, w, Q, h, hc, hi, hLn, hLw, hK, hX, hR => by
    obtain ⟨cx, cy, rfl, h1, h2⟩ := hc
    simp only [AC.wr, List.mem_append, not_or] at hLw
    obtain ⟨t, h3, h4⟩ := ob_iff.1 h
    have hb : a.eval o = .bool t := by
      obtain ⟨z, _, _, _, _, hs, _⟩ := hi
      exact bool?_ok h3 (opnd_ok hs o)
    cases t
    · exact wp_cond_false hb (Gl.wp (evC_ok hT hm y h4 h2 hi hLn (fun p hp => (hLw p hp).2) hK hX hR))
    · exact wp_cond_true hb (Gl.wp (evC_ok hT hm x h4 h1 hi hLn (fun p hp => (hLw p hp).1) hK hX hR))
  | .block i x, β, st, K, X, R, res, c, L, a, w, Q, h, hc, hi, hLn, hLw, hK, hX, hR => by
    obtain ⟨cx, rfl, h1⟩ := hc
    refine wp_block (Gl.wp (evC_ok hT hm x h h1 hi hLn hLw hK (fun j st' a' w' h' hi' => ?_) hR))
    show if j = i then Q .normal a' w' else Q (.exit j) a' w'
    by_cases hj : j = i
    · rw [(beq_nat j i).2 hj, bq_true] at h'
      rw [if_pos hj]
      exact hK _ _ _ h' hi'
    · rw [beq_nat_ff hj, bq_false] at h'
      rw [if_neg hj]
      exact hX _ _ _ _ h' hi'
  | .region i opsA d, β, st, K, X, R, res, c, L, a, w, Q, h, hc, hi, hLn, hLw, hK, hX, hR => by
    obtain ⟨arr, rfl, h1⟩ := hc
    have hLd : ∀ x ∈ opsA, ∀ p ∈ L, x.1.dst ≠ some p.1 := fun x hx p hp he => hLw p hp (by
      simp only [AC.wr]
      exact List.mem_filterMap.2 ⟨x, hx, he⟩)
    have hsz : opsA.length = arr.size := by
      have := congrArg List.length h1
      simpa using this
    have h : bq d (need (edgesOk 0 (opsA.map (·.1)) && nmsOk (nms (clos 0 (opsA.map (·.1)) []) (opsA.map (·.1)) 0 (opsA.map (·.1)))) <| evOpsD P T (numb 0 opsA) (opsA.map (·.1)) st [] fun st' fs => need (pairsOk (clos 0 (opsA.map (·.1)) []) fs) <| K st') (evOps P T opsA (opsA.map (·.1)) st K) = some res := h
    rw [h1] at h
    cases d
    · rw [bq_false] at h
      refine wp_region ?_
      have := evOps_ok hT hK opsA 0 (fun i x hx => by
        have e : (opsA.map (·.1))[i]? = some x.1 := by rw [List.getElem?_map, hx]; rfl
        rw [h1] at e
        rw [Nat.zero_add, ← Array.getElem?_toList]
        exact e) hLd st a w h hi
      rw [List.range_eq_range', ← hsz]
      exact this
    · rw [bq_true] at h
      obtain ⟨h2, h3⟩ := need_iff.1 h
      simp only [Bool.and_eq_true] at h2
      exact wp_region_any hm (drawn_ok hT h1 hLd hK h2.1 h2.2 h3 hi.drew)
  | .join sh rt outs x, β, st, K, X, R, res, c, L, a, w, Q, h, hc, hi, hLn, hLw, hK, hX, hR => by
    obtain ⟨o, h1, h2⟩ := Option.bind_eq_some_iff.1 h
    obtain ⟨L', q1, q2, q3, q4, q5⟩ := base_ok hi hLn x.wr hLw
    obtain ⟨_, _, _, _, _, _, _, _, hnt, h0⟩ := hi
    refine Gl.wp (evC_ok hT hm x h1 hc q2 q3 q5 (fun st' a' w' h' hi' => ?_) (fun i st' a' w' h' hi' => ?_) (fun st' a' w' h' hi' => ?_))
    · obtain ⟨o', e1, e2⟩ := Out.on_inl h' hi' q3 q4 hnt.1 h0
      simp only [Option.some.injEq] at e1
      subst e1
      obtain ⟨st1, e3, e4⟩ := e2 (fun i st'' => match i with | 0 => K st'' | i + 1 => X i st'') some
      exact hK st1 a' w' (e4.symm.trans h2) (e3.sub q1)
    · obtain ⟨o', e1, e2⟩ := Out.on_inl h' hi' q3 q4 hnt.1 h0
      simp only [Option.some.injEq] at e1
      subst e1
      obtain ⟨st1, e3, e4⟩ := e2 (fun i st'' => match i with | 0 => K st'' | i + 1 => X i st'') some
      exact hX i st1 a' w' (e4.symm.trans h2) (e3.sub q1)
    · obtain ⟨b, e1, e2⟩ := ob_iff.1 h'
      obtain ⟨o', e3, e4⟩ := retO_ok e2
      simp only [Option.some.injEq] at e3
      subst e3
      have : some b = some res := (e4 _ _ _ _ _).symm.trans h2
      exact hR st' a' w' (e1.trans this) (hi'.sub q1)
  | .pre g x, β, st, K, X, R, res, c, L, a, w, Q, h, hc, hi, hLn, hLw, hK, hX, hR => by
    obtain ⟨st1, h1, h2⟩ := ob_iff.1 h
    have hg : Inv z0 N L st1 a w := ghost_ok h1 hi (fun k he p hp hk => hLw p hp (by
      rcases he with ⟨e, id, he⟩ | he
      · subst he; simp [AC.wr, hk]
      · subst he; simp [AC.wr, hk])) hLn
    refine Gl.wp (evC_ok hT hm x h2 hc hg hLn (fun p hp hmem => hLw p hp ?_) hK hX hR)
    cases g with
    | ownNil k e id => exact List.mem_cons_of_mem _ hmem
    | pure k => exact List.mem_cons_of_mem _ hmem
    | _ => exact hmem
  | .sel q x y, β, st, K, X, R, res, c, L, a, w, Q, h, hc, hi, hLn, hLw, hK, hX, hR => by
    simp only [AC.wr, List.mem_append, not_or] at hLw
    have h : bq (Cn.holds st q) (evS P T fu x st K X R) (evS P T fu y st K X R) = some res := h
    cases hf : Cn.holds st q <;> rw [hf] at h
    · exact Gl.wp (evC_ok hT hm y h hc.2 hi hLn (fun p hp => (hLw p hp).2) hK hX hR)
    · exact Gl.wp (evC_ok hT hm x h hc.1 hi hLn (fun p hp => (hLw p hp).1) hK hX hR)
  | .bad c', β, st, K, X, R, res, c, L, a, w, Q, h, hc, hi, hLn, hLw, hK, hX, hR => by cases h
  | .post g x, β, st, K, X, R, res, c, L, a, w, Q, h, hc, hi, hLn, hLw, hK, hX, hR => by
    refine Gl.wp (evC_ok hT hm x h hc hi hLn (fun p hp hmem => hLw p hp ?_) (fun st' a' w' h' hi' => ?_) hX hR)
    · cases g with
      | ownNil k e id => exact List.mem_cons_of_mem _ hmem
      | pure k => exact List.mem_cons_of_mem _ hmem
      | _ => exact hmem
    · obtain ⟨st1, h1, h2⟩ := ob_iff.1 h'
      refine hK st1 a' w' h2 (ghost_ok h1 hi' (fun k he p hp hk => hLw p hp ?_) hLn)
      rcases he with ⟨e, id, he⟩ | he
      · subst he; simp [AC.wr, hk]
      · subst he; simp [AC.wr, hk]
  | .round x y, β, st, K, X, R, res, c, L, a, w, Q, h, hc, hi, hLn, hLw, hK, hX, hR => by
    obtain ⟨cx, rfl, h1, h2⟩ := hc
    simp only [AC.wr, List.mem_append, not_or] at hLw
    obtain ⟨h3, h4⟩ := need_iff.1 h
    refine ⟨cx, rfl, Gl.wp (evC_ok hT hm x h4 h1 hi hLn (fun p hp => (hLw p hp).1) (fun st' a' w' h' hi' => ?_) (fun i st' a' w' h' hi' => hX i st' a' w' h' hi') (fun st' a' w' h' hi' => hR st' a' w' h' hi'))⟩
    have hy := evC_ok hT hm y h' h2 hi' hLn (fun p hp => (hLw p hp).2) hK hX hR
    cases y with
    | round x' y' =>
      obtain ⟨cx', e, hn⟩ := hy
      injection e with e
      subst e
      exact hn
    | bad c' => cases h'
    | _ => cases h3
  | .loop sh rt outs x, β, st, K, X, R, res, c, L, a, w, Q, h, hc, hi, hLn, hLw, hK, hX, hR => by
    obtain ⟨cx, rfl, h1⟩ := hc
    obtain ⟨L', q1, q2, q3, q4, q5⟩ := base_ok hi hLn x.wr hLw
    obtain ⟨t0, p1, p2⟩ := prj_ok (r := res) h q2 q3 q4 (nt := st.nt) (n0 := st.n0) (by obtain ⟨_, _, _, _, _, _, _, _, hnt, _⟩ := hi; exact hnt.1) (by obtain ⟨_, _, _, _, _, _, _, _, _, h0⟩ := hi; exact h0)
    obtain ⟨_, _, _, _, _, _, _, _, hnt, h0⟩ := hi
    obtain ⟨o, r1, r2⟩ := Option.bind_eq_some_iff.1 p1
    generalize hbase : (st.tm.keep).junk x.wr = base at *
    generalize hf : (fun t => evS P T fu (β := sh.D ⊕ Out rt outs β) x (sh.inj base st.nt st.n0 t) (fun st'' => st''.prj sh fun t' => some (.inl t'))
          (fun i st'' => Out.mk st'' rt outs i fun o => some (.inr o))
          (fun st'' => (R st'').ob fun b => Out.retO rt outs b fun o => some (.inr o))) = f at *
    let p : Act → World → Nat → Prop := fun a' w' n => ∃ t, iter n f t = some o ∧ Inv z0 N L' (sh.inj base st.nt st.n0 t) a' w'
    classical
    let μ : Act → World → Nat := fun a' w' => if h : ∃ n, p a' w' n then Classical.choose (least h) else 0
    have hμ : ∀ a' w' n, p a' w' n → μ a' w' ≤ n ∧ p a' w' (μ a' w') := fun a' w' n hn => by
      have hex : ∃ n, p a' w' n := ⟨n, hn⟩
      have e : μ a' w' = Classical.choose (least hex) := dif_pos hex
      have hs := Classical.choose_spec (least hex)
      rw [e]
      exact ⟨hs.2 n hn, hs.1⟩
    refine wp_loop (fun a' w' => ∃ n, p a' w' n) μ ⟨fu, t0, r1, p2⟩ fun a1 w1 ⟨n1, hn1⟩ => ?_
    obtain ⟨_, t, ht, hit⟩ := hμ a1 w1 n1 hn1
    obtain ⟨m, hm'⟩ : ∃ m, μ a1 w1 = m + 1 := by
      cases hz : μ a1 w1 with
      | zero => rw [hz] at ht; cases ht
      | succ m => exact ⟨m, rfl⟩
    rw [hm'] at ht ⊢
    obtain ⟨r, ht1, ht2⟩ := ob_iff.1 (show (f t).ob _ = some o from ht)
    have hft : evS P T fu (β := sh.D ⊕ Out rt outs β) x (sh.inj base st.nt st.n0 t) (fun st'' => st''.prj sh fun t' => some (.inl t'))
          (fun i st'' => Out.mk st'' rt outs i fun o => some (.inr o))
          (fun st'' => (R st'').ob fun b => Out.retO rt outs b fun o => some (.inr o)) = some r := by rw [← ht1, ← hf]
    refine Gl.wp (evC_ok hT hm x hft h1 hit q3 q5 (fun st' a' w' h' hi' => ?_) (fun i st' a' w' h' hi' => ?_) (fun st' a' w' h' hi' => ?_))
    · obtain ⟨t', e1, e2⟩ := prj_ok h' hi' q3 q4 (nt := st.nt) (n0 := st.n0) hnt.1 h0
      simp only [Option.some.injEq] at e1
      subst e1
      have hp : p a' w' m := ⟨t', ht2, e2⟩
      exact ⟨⟨m, hp⟩, Nat.lt_succ_of_le (hμ a' w' m hp).1⟩
    · obtain ⟨o', e1, e2⟩ := Out.on_inl h' hi' q3 q4 (nt := st.nt) (n0 := st.n0) hnt.1 h0
      simp only [Option.some.injEq] at e1
      subst e1
      simp only [Option.some.injEq] at ht2
      subst ht2
      obtain ⟨st1, e3, e4⟩ := e2 X some
      exact hX i st1 a' w' (e4.symm.trans r2) (e3.sub q1)
    · obtain ⟨b, e1, e2⟩ := ob_iff.1 h'
      obtain ⟨o', e3, e4⟩ := retO_ok e2
      simp only [Option.some.injEq] at e3
      subst e3
      simp only [Option.some.injEq] at ht2
      subst ht2
      have : some b = some res := (e4 _ _ _ _ _).symm.trans r2
      exact hR st' a' w' (e1.trans this) (hi'.sub q1)
theorem evS_ok (hT : ∀ e ∈ T, Told P e) (hm : P.follows .mixedOrders = true) (ac : AC) {β : Type} {st : St} {K : St → Option β} {X : Nat → St → Option β} {R : St → Option β} {res : β} {c : Code} {L : List (Nat × AV)} {a : Act} {w : World}
    {Q : Exit → Act → World → Prop} (h : evS P T fu ac st K X R = some res) (hc : ac.of c) (hi : Inv z0 N L st a w) (hLn : ∀ p ∈ L, AV.ids p.2 = []) (hLw : ∀ p ∈ L, p.1 ∉ ac.wr)
    (hK : ∀ st' a' w', K st' = some res → Inv z0 N L st' a' w' → Q .normal a' w') (hX : ∀ i st' a' w', X i st' = some res → Inv z0 N L st' a' w' → Q (.exit i) a' w')
    (hR : ∀ st' a' w', R st' = some res → Inv z0 N L st' a' w' → Q .ret a' w') : c.wp P Q a w := (Gl.wp (evC_ok hT hm ac h hc hi hLn hLw hK hX hR))
end
end Go.Ab

/- Functions: what the evaluator makes of one is what its call yields. -/
namespace Go.Ab

section
variable {P : Program} {T : Tbl} {β : Type} {z : Z} {H : Hp}
theorem full_get : ∀ (d k : Nat), (Tr.full d).get k = .junk
  | 0, k => rfl
  | d + 1, k => by
    simp only [Tr.full, Tr.get]
    cases Nat.beq k 0
    · cases Nat.beq (k % 2) 1
      · exact full_get d _
      · exact full_get d _
    · rfl
theorem initTm_ok {f : Nat → Value} : ∀ {vs : List AV} {k0 : Nat} {t : Tr}, (∀ k, ARep z (t.get k) (f k)) → (∀ (j : Nat) a, vs[j]? = some a → ARep z a (f (k0 + j))) → ∀ k, ARep z ((initTm t k0 vs).get k) (f k)
  | [], k0, t, h, _, k => h k
  | a :: vs, k0, t, h, hv, k => by
    simp only [initTm]
    refine initTm_ok (fun j => ?_) (fun j a' h' => by have := hv (j + 1) a' (by simpa using h'); rwa [show k0 + (j + 1) = k0 + 1 + j by omega] at this) k
    by_cases hj : j = k0
    · subst hj
      rcases (Tr.get_put t j a j).2 with e | e <;> rw [e]
      · exact hv 0 a rfl
      · exact .junk _
    · rw [(Tr.get_put t k0 a j).1 hj]; exact h j
theorem run_as_load {t : TypeId} {pv v : Value} {w w' : World} (h : (Instr.loadAt t pv).run P w = .ok v w') : ((do loadVar t (← asAddr pv)) : Sem Value).run P w = .ok v w' := by
  unfold Instr.loadAt at h
  cases pv
  case pointer x => cases x <;> first | exact h | (simp [Instr.sureAddr, Sem.run_bind] at h; done)
  all_goals (simp [Instr.sureAddr, Sem.run_bind] at h; done)
def resF (tmps : Array Value) (r : ResultVar) : Sem Value :=
  match r with
  | .tmp t => pure (tmps.getD t undef)
  | .cell a t => do loadVar t (← asAddr (tmps.getD a undef))
theorem results_eq (fn : Func) (tmps : Array Value) : results fn tmps = (do
    let vs ← fn.results.mapM (resF tmps)
    pure (if h : vs.size = 1 then vs[0] else .tuple vs)) := rfl
/-- The results, from their slots. -/
theorem loadRes_ok {st : St} {a : Act} (hH : HRep z st.hp) (hs : ∀ t, ARep z (st.tm.get t) (a.eval (.tmp t))) : ∀ {rs : List ResultVar} {K : List AV → Option β} {res : β}, loadRes P rs st K = some res →
    ∃ l vs, K l = some res ∧ AReps z l vs ∧ (rs.mapM (resF a.tmps)).run P z.w = .ok vs z.w
  | [], K, res, h => ⟨[], [], h, .nil, rfl⟩
  | .tmp t :: rs, K, res, h => by
    obtain ⟨l, vs, h1, h2, h3⟩ := loadRes_ok hH hs (rs := rs) h
    refine ⟨_, a.eval (.tmp t) :: vs, h1, .cons (hs t) h2, ?_⟩
    rw [List.mapM_cons]
    simp only [resF, Sem.run_bind, Sem.run_pure, Result.andThen_ok, h3]
    rfl
  | .cell x t :: rs, K, res, h => by
    obtain ⟨y, v, h1, h2, h3⟩ := evLoad_ok h hH (hs x)
    obtain ⟨l, vs, h4, h5, h6⟩ := loadRes_ok hH hs (rs := rs) h3
    refine ⟨_, v :: vs, h4, .cons h2 h5, ?_⟩
    rw [List.mapM_cons]
    have h1' : (resF a.tmps (.cell x t)).run P z.w = .ok v z.w := run_as_load h1
    rw [Sem.run_bind, h1', Result.andThen_ok, Sem.run_bind, h6]
    rfl
theorem results_ok {st : St} {a : Act} {fn : Func} {K : List AV → Option β} {res : β} (hH : HRep z st.hp) (hs : ∀ t, ARep z (st.tm.get t) (a.eval (.tmp t))) (h : loadRes P fn.results.toList st K = some res) :
    ∃ l v vs, K l = some res ∧ AReps z l vs ∧ (results fn a.tmps).run P z.w = .ok v z.w ∧ ∀ {z' : Z} {l' : List AV}, AReps z' l' vs → ARep z' (tupA l') v := by
  obtain ⟨l, vs, h1, h2, h3⟩ := loadRes_ok hH hs h
  refine ⟨l, if h : vs.toArray.size = 1 then vs.toArray[0] else .tuple vs.toArray, vs, h1, h2, ?_, fun {z' l'} h' => ?_⟩
  · rw [results_eq, Array.mapM_eq_mapM_toList, map_eq_pure_bind, Sem.run_bind, Sem.run_bind, h3]
    rfl
  · have hl := h'.1
    match vs, l', h', hl with
    | [], [], h', _ => exact .tup [] #[] rfl fun i x v h => by simp at h
    | [v], [b], h', _ => exact h'.head
    | u :: v :: vs, b :: c :: l', h', hl =>
      refine .tup _ _ (by simpa using hl.symm) fun i x y q1 q2 => h'.2 i x y q1 (by simpa using q2)
theorem OutS.rco_ok {vs : List AV} {ps : List (Nat × Nat)} {vals : List Value} (ρ0 : Rho) (hH : HRep z H) (hv : AReps z vs vals) : ∀ {l : List Shp} {K : OutS l → Option β} {res : β}, OutS.rco vs H ps l K = some res →
    ∃ (x : OutS l), K x = some res ∧ OutS.on l x fun o t => o ∈ l ∧ ∃ z', z'.w = z.w ∧ z'.M = z.M ∧ HRep z' (o.emb t).2 ∧ AReps z' (o.emb t).1 vals ∧ (∀ k, memN k (hkKeys o.hs) = true → ∃ id, (id, k) ∈ ps ∧ z'.ρ k = z.ρ id) ∧ (∀ k, memN k (hkKeys o.hs) = false → z'.ρ k = ρ0 k) ∧
      (∀ g, z'.C g → z.C g) ∧ z'.D = (fun k => memN k (hkKeys o.hs) = false ∧ ρ0 k ≠ .no)
  | [], K, res, h => by cases h
  | [s], K, res, h => by
    obtain ⟨t, z', k1, k2, k3, k4, k5, k6, k7, k8, k9, k10, k11⟩ := Shp.rco_ok ρ0 h hH hv
    exact ⟨t, k1, by simp, z', k2, k3, k4, k5, k6, k7, k8, k10⟩
  | s :: o :: r, K, res, h => by
    have h' : bq (s.ks.fits (AV.renL (noOf ps) vs) && hkFits s.hs (renH H (noOf ps) ps)) (s.rco vs H ps fun x => K (.inl x)) (OutS.rco vs H ps (o :: r) fun x => K (.inr x)) = some res := h
    cases hb : (s.ks.fits (AV.renL (noOf ps) vs) && hkFits s.hs (renH H (noOf ps) ps)) <;> rw [hb] at h' <;> simp only [bq_true, bq_false] at h'
    · obtain ⟨x, h1, h2⟩ := OutS.rco_ok ρ0 hH hv h'
      refine ⟨.inr x, h1, ?_⟩
      have up : ∀ {l : List Shp} {x : OutS l} {Q Q' : (s : Shp) → s.D → Prop}, (∀ o t, Q o t → Q' o t) → OutS.on l x Q → OutS.on l x Q' := fun {l} => by
        induction l with
        | nil => intro x; exact Empty.elim x
        | cons a l ih =>
          cases l with
          | nil => intro x Q Q' hq h; exact hq _ _ h
          | cons b l =>
            intro x Q Q' hq h
            cases x with
            | inl y => exact hq _ _ h
            | inr y => exact ih (x := y) hq h
      exact up (fun o t ⟨a, b⟩ => ⟨List.mem_cons_of_mem _ a, b⟩) h2
    · obtain ⟨t, z', k1, k2, k3, k4, k5, k6, k7, k8, k9, k10, k11⟩ := Shp.rco_ok ρ0 h' hH hv
      exact ⟨.inl t, k1, List.mem_cons_self, z', k2, k3, k4, k5, k6, k7, k8, k10⟩
theorem OutS.on_up : ∀ {l : List Shp} {x : OutS l} {Q Q' : (s : Shp) → s.D → Prop}, (∀ o t, Q o t → Q' o t) → OutS.on l x Q → OutS.on l x Q'
  | [], x, _, _, _, _ => Empty.elim x
  | [s], x, Q, Q', hq, h => hq _ _ h
  | s :: t :: r, .inl y, Q, Q', hq, h => hq _ _ h
  | s :: t :: r, .inr y, Q, Q', hq, h => OutS.on_up (l := t :: r) (x := y) hq h
theorem OutS.on_ex : ∀ {l : List Shp} {x : OutS l} {Q : (s : Shp) → s.D → Z → Prop}, (OutS.on l x fun o t => ∃ z', Q o t z') → ∃ z', OutS.on l x fun o t => Q o t z'
  | [], x, _, _ => Empty.elim x
  | [s], x, Q, h => h
  | s :: t :: r, .inl y, Q, h => h
  | s :: t :: r, .inr y, Q, h => OutS.on_ex (l := t :: r) (x := y) h

/-- What the evaluator makes of a function. -/
theorem told_of {fu : Nat} {f : FuncId} {fn : Func} {fa : FnA} {spec : fa.i.D → Option (OutS fa.os)} (hT : ∀ e ∈ T, Told P e) (hm : P.follows .mixedOrders = true) (hf : P.funcs[f]? = some fn) (hname : (fn.name == "runtime.NumGoroutine") = false) (hbody : fn.body.isSome = true)
    (hs : ∀ t, evF P T fu fn fa t = spec t) : Told P ⟨f, fa.i, fa.os, spec⟩ := by
  obtain ⟨c, hb⟩ := Option.isSome_iff_exists.1 hbody
  refine ⟨⟨fn, c, hf, hb, hname⟩, fun t r hr z vals hH hv hD => ?_⟩
  have h : evF P T fu fn fa t = some r := (hs t).trans hr
  unfold evF at h
  rw [Shp.embC_eq] at h
  obtain ⟨h1, h2⟩ := need_iff.1 h
  simp only [Bool.and_eq_true, eqN_iff, Bool.not_eq_true'] at h1
  obtain ⟨hkeys, hmd⟩ := h1
  obtain ⟨c', hc', h3⟩ := ob_iff.1 h2
  rw [hb] at hc'
  simp only [Option.some.injEq] at hc'
  subst hc'
  refine calls_of_wp hf hb ?_
  let a : Act := { tmps := vals.toArray ++ Array.replicate (fn.ntmps - vals.toArray.size) undef, defers := [] }
  have hkey : ∀ id, hkey (fa.i.emb t).2 id = memN id (hkKeys fa.i.hs) := fun id => (embH_get fa.i.hs (embL fa.i.ks (hkLv fa.i.hs []) (untidy fa.i.tys t)).2 id).1
  have hlow : ∀ id, z.ρ id ≠ .no → id ∈ hkKeys fa.i.hs := fun id hid => by
    cases hk : memN id (hkKeys fa.i.hs)
    · rw [← hkey id] at hk
      exact absurd ((hH.fresh id hk).resolve_right (hD id)) hid
    · exact memN_iff.1 hk
  have hi : Inv z a.tmps.size [] ⟨initTm (Tr.full (depth fn.ntmps)) 0 (fa.i.emb t).1, fn.ntmps, fa.i.hs.length, (fa.i.emb t).2⟩ a z.w := by
    refine ⟨z, rfl, Nx.refl z, hD, hH, ?_, fun p hp => (by cases hp), rfl, ⟨by simp [a]; omega, rfl⟩, fun id hid => ?_⟩
    · refine initTm_ok (f := fun k => a.eval (.tmp k)) (fun k => by rw [full_get]; exact .junk _) fun j x hx => ?_
      obtain ⟨v, hv1, hv2⟩ := hv.get hx
      rw [Nat.zero_add]
      have hlt : j < vals.length := (List.getElem?_eq_some_iff.1 hv1).1
      have : a.eval (.tmp j) = v := by
        simp only [Act.eval, a]
        have e : (vals.toArray ++ Array.replicate (fn.ntmps - vals.toArray.size) undef)[j]? = some v := by
          rw [Array.getElem?_append_left (by simpa using hlt)]
          simpa using hv1
        simp only [Array.getD_eq_getD_getElem?, e, Option.getD_some]
      rw [this]
      exact hv2
    · have := hlow id hid
      rw [hkeys] at this
      have := (rangeN_mem.1 this).2
      show id < fa.i.hs.length
      omega
  have fin : ∀ (Q : Exit → Act → World → Prop), (∀ a' w', (a'.defers = [] ∧ ∃ v, (results fn a'.tmps).run P w' = .ok v w' ∧ ∃ v' z', Ending.returned v = .returned v' ∧ z'.w = w' ∧ Nx z { z' with D := z.D } ∧ (∀ k, z'.D k → k ∈ hkKeys fa.i.hs) ∧ OutS.on fa.os r fun o x => HRep z' (o.emb x).2 ∧ ARep z' (tupA (o.emb x).1) v') → Q .normal a' w') →
      ∀ st' a' w', fin P fn fa st' = some r → Inv z a.tmps.size [] st' a' w' → Q .normal a' w' := fun Q hQ st' a' w' hfin hi' => by
    refine hQ a' w' ?_
    obtain ⟨z1, rfl, hn, hD1, hH1, hs1, _, hdf, _, h0⟩ := hi'
    unfold Ab.fin at hfin
    obtain ⟨l, v, vs, e1, e2, e3, e4⟩ := results_ok hH1 hs1 hfin
    rw [argsMK_eq] at e1
    obtain ⟨⟨l', H'⟩, e5, e6⟩ := ob_iff.1 e1
    obtain ⟨z2, Mf, g1, g2, g3, g4, g5, g6⟩ := argsM_ok hH1 (.inr hD1) e5 e2
    have hM := g6 hmd
    subst hM
    have hn2 := hn.trans g3
    obtain ⟨x, k1, k2⟩ := OutS.rco_ok (fun k => if memN k (hkKeys fa.i.hs) = true then z2.ρ k else .no) g2 g5 e6
    simp only [Option.some.injEq] at k1
    subst k1
    obtain ⟨z3, k3⟩ := OutS.on_ex (OutS.on_up (Q' := fun o t => ∃ z', _) (fun o t ⟨_, z', k⟩ => ⟨z', k⟩) k2)
    -- the facts that do not hang on the shape
    have common : z3.w = z2.w ∧ z3.M = z2.M ∧ (∀ g, z3.C g → z2.C g) ∧ (∀ k, z3.D k → k ∈ hkKeys fa.i.hs) ∧ ∀ id, z.ρ id ≠ .no → z3.ρ id = z.ρ id := by
      have pick : ∀ {l : List Shp} {x : OutS l} {Q : (s : Shp) → s.D → Prop} {G : Prop}, (OutS.on l x Q) → (∀ o t, Q o t → G) → G := fun {l} => by
        induction l with
        | nil => intro x; exact Empty.elim x
        | cons a l ih =>
          cases l with
          | nil => intro x Q G h hq; exact hq _ _ h
          | cons b l =>
            intro x Q G h hq
            cases x with
            | inl y => exact hq _ _ h
            | inr y => exact ih (x := y) h hq
      refine pick k3 fun o t k => ?_
      obtain ⟨q1, q2, q3, q4, q5, q6, q7, q8⟩ := k
      refine ⟨q1, q2, q7, fun k hk => ?_, fun id hid => ?_⟩
      · rw [q8] at hk
        have := hk.2
        cases hm : memN k (hkKeys fa.i.hs)
        · simp [hm] at this
        · exact memN_iff.1 hm
      · have hmem := hlow id hid
        cases hk : memN id (hkKeys o.hs)
        · rw [q6 id hk, if_pos (memN_iff.2 hmem)]
          exact hn2.ext id hid
        · obtain ⟨id', p1, p2⟩ := q5 id hk
          obtain ⟨m, b1, b2⟩ := zipN_at p1
          have hidlt : id < fa.i.hs.length := by
            rw [hkeys] at hmem
            have := (rangeN_mem.1 hmem).2
            omega
          have : id' = id := by
            rcases Nat.lt_or_ge m ((reach H' reachFuel (rangeN 0 fa.i.hs.length ++ AV.idsL l') []).filter fun i => Nat.blt i fa.i.hs.length).length with hlt | hge
            · rw [List.getElem?_append_left hlt] at b1 b2
              rw [b1] at b2
              exact Option.some.inj b2
            · rw [List.getElem?_append_right hge] at b2
              have := (rangeN_get b2).1
              omega
          rw [p2, this]
          exact hn2.ext id hid
    obtain ⟨c1, c2, c3, c4, c5⟩ := common
    refine ⟨hdf, v, e3, v, z3, rfl, c1.trans g1, ⟨by show z3.w.os = _; rw [c1]; exact hn2.os, by show z3.w.tape = _; rw [c1]; exact hn2.tape, by show z3.w.output = _; rw [c1]; exact hn2.output, by show _ ≤ z3.w.heap.size; rw [c1]; exact hn2.size,
      fun b hb hc => by show z3.w.heap[b]? = _; rw [c1]; exact hn2.block b hb hc, fun g hg => hn2.subM g (by rw [← c2]; exact hg), fun g hg => hn2.subC g (c3 g hg), fun g hg hm hc => by show z3.M g; rw [c2]; exact hn2.keepM g hg hm hc, c5, rfl⟩, c4, OutS.on_up (fun o t k => ?_) k3⟩
    obtain ⟨q1, q2, q3, q4, q5, q6, q7, q8⟩ := k
    exact ⟨q3, e4 q4⟩
  refine evS_ok hT hm (build fa.ov c) h3 (build_of _ _) hi (fun p hp => by cases hp) (fun p hp => by cases hp) ?_ (fun i st' a' w' h' _ => by cases h') ?_
  · exact fin (bodyPost P fn _) fun a' w' h => h
  · exact fin (fun e a' w' => bodyPost P fn _ .ret a' w') fun a' w' h => h
end
end Go.Ab
namespace Go.Ab
theorem allT_nil {P : Program} : ∀ e ∈ ([] : Tbl), Told P e := fun e h => by cases h
theorem allT_cons {P : Program} {a : FnT} {r : Tbl} (h : Told P a) (hr : ∀ e ∈ r, Told P e) : ∀ e ∈ a :: r, Told P e := fun e he => by
  rcases List.mem_cons.1 he with rfl | he
  · exact h
  · exact hr e he
end Go.Ab

/- Arguments: what can be read as data stands for a typed value. -/
namespace Go.Ab

/-- In its kind's bounds; no list too long. -/
def OkV : (t : Ty) → t.den → Prop
  | .int k, n => k.min ≤ n ∧ n ≤ k.max
  | .byte, _ => True
  | .bool, _ => True
  | .str, l => List.length (α := UInt8) l ≤ maxLen
  | .opq, _ => False
  | .nat, _ => False
  | .sl t, l => List.length (α := t.den) l ≤ maxLen ∧ ∀ x ∈ (show List t.den from l), OkV t x
  | .one t, x => OkV t x
  | .pair a b, x => OkV a x.1 ∧ OkV b x.2
  | .arr n t, l => List.length (α := t.den) l = n ∧ ∀ x ∈ (show List t.den from l), OkV t x

section
variable (P : Program)
def readFs (f : TypeId → Ty → Bool) : List Field → Nat → Ty → Bool
  | [x], o, u => Nat.beq x.offset o && Nat.beq (P.cellsOf x.type) u.cells && f x.type u
  | x :: r, o, .pair a b => Nat.beq x.offset o && Nat.beq (P.cellsOf x.type) a.cells && f x.type a && readFs f r (o + a.cells) b
  | _, _, _ => false
/-- Do readings of type t stand for values of u? -/
def readT : Nat → TypeId → Ty → Bool
  | 0, _, _ => false
  | n + 1, t, u => match P.underlying t, u with
    | some (.int k), .int k' => decide (k = k')
    | some (.int k), .byte => decide (k = .u8)
    | some .bool, .bool => true
    | some .string, .str => true
    | some (.slice e), .sl v => Nat.beq (P.cellsOf e) v.cells && Nat.blt 0 v.cells && readT n e v
    | some (.struct fs), .one v => Nat.beq (P.cellsOf t) v.cells && readFs P (readT n) fs.toList 0 v
    | some (.struct fs), .pair a b => Nat.beq (P.cellsOf t) (Ty.pair a b).cells && readFs P (readT n) fs.toList 0 (.pair a b)
    | some (.array m e), .arr m' v => Nat.beq m m' && Nat.beq (P.cellsOf t) (m * v.cells) && Nat.beq (P.cellsOf e) v.cells && readT n e v
    | _, _ => false
end

theorem pieces_flatten {α : Type} (k : Nat) : ∀ (n : Nat) (cs : List α), cs.length = n * k → ((List.range n).map fun i => (cs.drop (i * k)).take k).flatten = cs
  | 0, cs, h => by
    have : cs = [] := List.eq_nil_of_length_eq_zero (by simpa using h)
    simp [this]
  | n + 1, cs, h => by
    rw [List.range_succ_eq_map, List.map_cons, List.flatten_cons, List.map_map]
    have e : ((List.range n).map ((fun i => (cs.drop (i * k)).take k) ∘ Nat.succ)) = (List.range n).map fun i => ((cs.drop k).drop (i * k)).take k := by
      refine List.map_congr_left fun i _ => ?_
      simp only [Function.comp, List.drop_drop]
      congr 2
      rw [Nat.succ_mul, Nat.add_comm]
    rw [e, pieces_flatten k n (cs.drop k) (by rw [List.length_drop, h, Nat.succ_mul]; omega)]
    simp
theorem choose_list {α : Type} {Q : Nat → α → Prop} : ∀ (n : Nat), (∀ i, i < n → ∃ x, Q i x) → ∃ l : List α, l.length = n ∧ ∀ (i : Nat) x, l[i]? = some x → Q i x
  | 0, _ => ⟨[], rfl, fun i x h => by simp at h⟩
  | n + 1, h => by
    obtain ⟨l, h1, h2⟩ := choose_list n fun i hi => h i (by omega)
    obtain ⟨x, hx⟩ := h n (by omega)
    refine ⟨l ++ [x], by simp [h1], fun i y hy => ?_⟩
    rw [List.getElem?_append] at hy
    split at hy
    · exact h2 i y hy
    · rename_i hlt
      have : i = n := by
        have := (List.getElem?_eq_some_iff.1 hy).1
        simp at this
        omega
      subst this
      simp [h1] at hy
      rw [← hy]
      exact hx
section
variable {P : Program} {H : Type} {enc : TypeId × Value → H} {w : World} {sp : Nat → Bool} {held : Bool}
theorem readFs_ok {f : TypeId → Ty → Bool} {n : Nat} {cs : List Value} (hf : ∀ (x : Field) u, f x.type u = true → P.cellsOf x.type = u.cells → (∃ y, DataW.trod enc P w 0 sp held n x.type ((cs.drop x.offset).take (P.cellsOf x.type)) = some y) →
      ∃ v : u.den, Cl w (fun _ => False) u v ((cs.drop x.offset).take (P.cellsOf x.type)) ∧ OkV u v) :
    ∀ (fs : List Field) (o : Nat) (u : Ty), readFs P f fs o u = true → (∀ x ∈ fs, ∃ y, DataW.trod enc P w 0 sp held n x.type ((cs.drop x.offset).take (P.cellsOf x.type)) = some y) → ∃ v : u.den, Cl w (fun _ => False) u v ((cs.drop o).take u.cells) ∧ OkV u v
  | [], o, u, h, _ => by cases u <;> cases h
  | [x], o, u, h, hs => by
    have h : (Nat.beq x.offset o && Nat.beq (P.cellsOf x.type) u.cells && f x.type u) = true := by cases u <;> exact h
    simp only [Bool.and_eq_true, beq_nat] at h
    obtain ⟨⟨rfl, h2⟩, h3⟩ := h
    have := hf x u h3 h2 (hs x List.mem_cons_self)
    rwa [h2] at this
  | x :: y :: r, o, u, h, hs => by
    cases u with
    | pair a b =>
      have h : (Nat.beq x.offset o && Nat.beq (P.cellsOf x.type) a.cells && f x.type a && readFs P f (y :: r) (o + a.cells) b) = true := h
      simp only [Bool.and_eq_true, beq_nat] at h
      obtain ⟨⟨⟨rfl, h2⟩, h3⟩, h4⟩ := h
      obtain ⟨v1, c1, k1⟩ := hf x a h3 h2 (hs x List.mem_cons_self)
      obtain ⟨v2, c2, k2⟩ := readFs_ok hf (y :: r) (x.offset + a.cells) b h4 fun z hz => hs z (List.mem_cons_of_mem _ hz)
      refine ⟨(v1, v2), ⟨_, _, ?_, c1, c2⟩, k1, k2⟩
      rw [h2, show (Ty.pair a b).cells = a.cells + b.cells from rfl, List.take_add, List.drop_drop]
    | _ => cases h
theorem cells_get {a : Addr} {n : Nat} {cs : List Value} (h : w.cells? 0 a n = some cs) : cs.length = n ∧ ∀ (j : Nat) v, cs[j]? = some v → w.cell? (a.add j) = some v := by
  unfold World.cells? at h
  rw [if_pos (Nat.zero_le _)] at h
  have hl := mapM_some_length h
  simp only [List.length_range] at hl
  refine ⟨hl, fun j v hj => ?_⟩
  have hlt : j < n := by have := (List.getElem?_eq_some_iff.1 hj).1; omega
  have := mapM_some_get h j j (by simp [hlt])
  rw [this, hj]
theorem cell_spot {a : Addr} {v : Value} (h : w.cell? a = some v) : a.spot = none ∧ a.block < w.heap.size := by
  unfold World.cell? at h
  split at h
  · rename_i c _ _ hb
    split at h
    · cases h
    · rename_i hs
      refine ⟨by cases hsp : a.spot <;> simp [hsp] at hs ⊢, (Array.getElem?_eq_some_iff.1 hb).1⟩
  · cases h
theorem trod_one {fuel : Nat} {t : TypeId} {cs : List Value} {y : DataW H × List MemPlace} {d : TypeDesc} (hu : P.underlying t = some d) (hd : DataW.trod enc P w 0 sp held (fuel + 1) t cs = some y) (hr : d.isRow = false) : ∃ v, cs = [v] := by
  unfold DataW.trod at hd
  rw [hu] at hd
  rcases cs with _ | ⟨v, _ | ⟨v2, cs⟩⟩
  · cases d <;> first | (cases hd; done) | cases hr
  · exact ⟨v, rfl⟩
  · cases d <;> cases v <;> first | (cases hd; done) | (cases hr; done) | (simp at hd; done) | (split at hd <;> first | (cases hd; done) | (simp_all; done))
/-- What is read is a typed value's cells. -/
theorem trod_cl : ∀ (n : Nat) (t : TypeId) (u : Ty), readT P n t u = true → ∀ (fuel : Nat) (cs : List Value) (d : DataW H) (ps : List MemPlace), DataW.trod enc P w 0 sp held fuel t cs = some (d, ps) →
    ∃ x : u.den, Cl w (fun _ => False) u x cs ∧ OkV u x
  | 0, t, u, h, fuel, cs, d, ps, hd => by cases h
  | n + 1, t, u, h, 0, cs, d, ps, hd => by cases hd
  | n + 1, t, u, h, fuel + 1, cs, d, ps, hd => by
    unfold readT at h
    split at h
    · rename_i k k' hu
      simp only [decide_eq_true_eq] at h
      subst h
      obtain ⟨v, rfl⟩ := trod_one hu hd rfl
      unfold DataW.trod at hd
      rw [hu] at hd
      cases v <;> first | (cases hd; done) | skip
      rename_i k' m
      simp only at hd
      split at hd
      · rename_i hw
        obtain ⟨rfl, hw⟩ := hw
        have hb : k'.min ≤ m ∧ m ≤ k'.max := by simpa [Lit.wf] using hw
        exact ⟨m, rfl, hb⟩
      · cases hd
    · rename_i k hu
      simp only [decide_eq_true_eq] at h
      subst h
      obtain ⟨v, rfl⟩ := trod_one hu hd rfl
      unfold DataW.trod at hd
      rw [hu] at hd
      cases v <;> first | (cases hd; done) | skip
      rename_i k' m
      simp only at hd
      split at hd
      · rename_i hw
        obtain ⟨rfl, hw⟩ := hw
        have hb : 0 ≤ m ∧ m ≤ 255 := by simpa [Lit.wf, IntKind.min, IntKind.max, IntKind.signed, IntKind.bits] using hw
        refine ⟨UInt8.ofNat m.toNat, ?_, trivial⟩
        show [Value.int .u8 m] = [Value.int .u8 ((UInt8.ofNat m.toNat).toNat : Int)]
        have : ((UInt8.ofNat m.toNat).toNat : Int) = m := by
          rw [UInt8.toNat_ofNat']
          omega
        rw [this]
      · cases hd
    · rename_i hu
      obtain ⟨v, rfl⟩ := trod_one hu hd rfl
      unfold DataW.trod at hd
      rw [hu] at hd
      cases v <;> first | (cases hd; done) | skip
      rename_i b
      exact ⟨b, rfl, trivial⟩
    · rename_i hu
      obtain ⟨v, rfl⟩ := trod_one hu hd rfl
      unfold DataW.trod at hd
      rw [hu] at hd
      cases v <;> first | (cases hd; done) | skip
      rename_i s
      simp only at hd
      split at hd
      · rename_i hs
        have hb : s.data.toList.length ≤ maxLen := hs
        exact ⟨s.data.toList, rfl, hb⟩
      · cases hd
    · rename_i e v hu
      simp only [Bool.and_eq_true, beq_nat, Nat.blt_eq] at h
      obtain ⟨⟨h1, h2⟩, h3⟩ := h
      obtain ⟨x, rfl⟩ := trod_one hu hd rfl
      unfold DataW.trod at hd
      rw [hu] at hd
      cases x <;> first | (cases hd; done) | skip
      rename_i A len cap
      cases A with
      | none =>
        cases len with
        | succ k => cases hd
        | zero => cases cap with
          | succ k => cases hd
          | zero => exact ⟨([] : List v.den), ⟨none, 0, rfl, by simp, by unfold maxLen; omega, fun _ => rfl, fun h => absurd rfl h⟩, by simp, fun x hx => by cases hx⟩
      | some a =>
        simp only at hd
        split at hd
        · rename_i hb
          obtain ⟨_, hb1, hb2⟩ := hb
          obtain ⟨elems, he, _⟩ := Option.bind_eq_some_iff.1 hd
          have hlen := mapM_some_length he
          simp only [List.length_range] at hlen
          have hel : ∀ i, i < len → ∃ cs, w.cells? 0 (a.add (i * P.cellsOf e)) (P.cellsOf e) = some cs ∧ ∃ x : v.den, Cl w (fun _ => False) v x cs ∧ OkV v x := fun i hi => by
            have := mapM_some_get he i i (by simp [hi])
            rw [List.getElem?_eq_getElem (by omega)] at this
            obtain ⟨cs, c1, c2⟩ := Option.bind_eq_some_iff.1 this
            exact ⟨cs, c1, trod_cl n e v h3 fuel cs _ _ c2⟩
          obtain ⟨l, l1, l2⟩ := choose_list (Q := fun i (x : v.den) => ∃ cs, w.cells? 0 (a.add (i * P.cellsOf e)) (P.cellsOf e) = some cs ∧ Cl w (fun _ => False) v x cs ∧ OkV v x) len fun i hi => by
            obtain ⟨cs, c1, x, c2, c3⟩ := hel i hi
            exact ⟨x, cs, c1, c2, c3⟩
          have hl : List.length (α := v.den) l = len := l1
          refine ⟨(show (Ty.sl v).den from l), ⟨some a, cap, by show [Value.slice (some a) len cap] = [Value.slice (some a) (List.length (α := v.den) l) cap]; rw [hl], by show List.length (α := v.den) l ≤ cap; rw [hl]; exact hb1, hb2, (fun h => by cases h), fun hne => ?_⟩, by show List.length (α := v.den) l ≤ maxLen; rw [hl]; omega, fun x hx => ?_⟩
          · have hpos : 0 < len := by
              have : List.length (α := v.den) l ≠ 0 := hne
              omega
            obtain ⟨cs, c1, _⟩ := hel 0 hpos
            rw [Nat.zero_mul] at c1
            obtain ⟨g1, g2⟩ := cells_get c1
            have hcs : ∃ y, cs[0]? = some y := ⟨_, List.getElem?_eq_getElem (by omega)⟩
            obtain ⟨y, hy⟩ := hcs
            have hc := cell_spot (g2 0 y hy)
            have ha0 : ((a.add 0).add 0) = a := rfl
            rw [ha0] at hc
            obtain ⟨b, off, spot⟩ := a
            simp only at hc
            obtain ⟨rfl, hblk⟩ := hc
            refine ⟨b, off, rfl, fun h => h, hblk, fun i x hx => ?_⟩
            obtain ⟨cs, c1, c2, c3⟩ := l2 i x hx
            refine ⟨cs, c2, fun j y hj => ?_⟩
            have := (cells_get c1).2 j y hj
            rw [Addr.add_mid, Addr.add_mid] at this
            rw [← h1]
            exact this
          · obtain ⟨i, hi⟩ := List.getElem?_of_mem hx
            obtain ⟨cs, _, _, c3⟩ := l2 i x hi
            exact c3
        · cases hd
    · rename_i fs v hu
      simp only [Bool.and_eq_true, beq_nat] at h
      unfold DataW.trod at hd
      rw [hu] at hd
      simp only at hd
      split at hd
      · rename_i hl
        obtain ⟨xs, hx, _⟩ := Option.map_eq_some_iff.1 hd
        obtain ⟨y, c1, c2⟩ := readFs_ok (n := fuel) (f := readT P n) (fun x u hf _ hz => by obtain ⟨z, hz⟩ := hz; exact trod_cl n x.type u hf fuel _ z.1 z.2 hz) fs.toList 0 v h.2 fun x hx' => by
          obtain ⟨i, hi⟩ := List.getElem?_of_mem hx'
          have := mapM_some_get hx i x hi
          rw [List.getElem?_eq_getElem (by rw [mapM_some_length hx]; exact (List.getElem?_eq_some_iff.1 hi).1)] at this
          exact ⟨_, this⟩
        refine ⟨y, ?_, c2⟩
        rw [List.drop_zero, List.take_of_length_le (by omega)] at c1
        exact c1
      · cases hd
    · rename_i fs a b hu
      simp only [Bool.and_eq_true, beq_nat] at h
      unfold DataW.trod at hd
      rw [hu] at hd
      simp only at hd
      split at hd
      · rename_i hl
        obtain ⟨xs, hx, _⟩ := Option.map_eq_some_iff.1 hd
        obtain ⟨y, c1, c2⟩ := readFs_ok (n := fuel) (f := readT P n) (fun x u hf _ hz => by obtain ⟨z, hz⟩ := hz; exact trod_cl n x.type u hf fuel _ z.1 z.2 hz) fs.toList 0 (.pair a b) h.2 fun x hx' => by
          obtain ⟨i, hi⟩ := List.getElem?_of_mem hx'
          have := mapM_some_get hx i x hi
          rw [List.getElem?_eq_getElem (by rw [mapM_some_length hx]; exact (List.getElem?_eq_some_iff.1 hi).1)] at this
          exact ⟨_, this⟩
        refine ⟨y, ?_, c2⟩
        rw [List.drop_zero, List.take_of_length_le (by omega)] at c1
        exact c1
      · cases hd
    · rename_i m e m' v hu
      simp only [Bool.and_eq_true, beq_nat] at h
      obtain ⟨⟨⟨rfl, h1⟩, h2⟩, h3⟩ := h
      unfold DataW.trod at hd
      rw [hu] at hd
      simp only at hd
      split at hd
      · rename_i hl
        obtain ⟨xs, hx, _⟩ := Option.map_eq_some_iff.1 hd
        have hlen := mapM_some_length hx
        simp only [List.length_range] at hlen
        obtain ⟨l, l1, l2⟩ := choose_list (Q := fun i (x : v.den) => Cl w (fun _ => False) v x ((cs.drop (i * v.cells)).take v.cells) ∧ OkV v x) m fun i hi => by
          have := mapM_some_get hx i i (by simp [hi])
          rw [List.getElem?_eq_getElem (by omega)] at this
          obtain ⟨x, c1, c2⟩ := trod_cl n e v h3 fuel _ _ _ this
          rw [h2] at c1
          exact ⟨x, c1, c2⟩
        refine ⟨(show (Ty.arr m v).den from l), ⟨l1, (List.range m).map fun i => (cs.drop (i * v.cells)).take v.cells, by simp, (pieces_flatten v.cells m cs (by rw [hl, h1])).symm, fun i x c hx hc => ?_⟩, l1, fun x hx => ?_⟩
        · have hi : i < m := by have := (List.getElem?_eq_some_iff.1 hc).1; simpa using this
          rw [List.getElem?_map, List.getElem?_range hi] at hc
          simp only [Option.map_some, Option.some.injEq] at hc
          rw [← hc]
          exact (l2 i x hx).1
        · obtain ⟨i, hi⟩ := List.getElem?_of_mem hx
          exact (l2 i x hi).2
      · cases hd
    · cases h

/-- A value that is read is a typed one. -/
theorem trod_v {n : Nat} {t : TypeId} {u : Ty} (h : readT P n t u = true) (hf : formOk P t u = true) {base : Nat} {v : Value} {d : DataW H} {ps : List MemPlace} (hw : Value.okWide P w .any base t v) (hd : DataW.Trod enc P w 0 sp held t v d ps) :
    ∃ x : u.den, VRep w (fun _ => False) u x v ∧ OkV u x := by
  obtain ⟨fuel, hd⟩ := hd
  obtain ⟨x, h1, h2⟩ := trod_cl n t u h fuel _ d ps hd
  refine ⟨x, ⟨v.cells.toList, h1, ?_⟩, h2⟩
  unfold formOk at hf
  simp only [Bool.and_eq_true, Bool.not_eq_true'] at hf
  obtain ⟨_, hf⟩ := hf
  unfold Value.okWide at hw
  cases hg : u.isAgg <;> rw [hg] at hf
  · simp only [bq_false] at hf
    have hlen := h1.len
    obtain ⟨dd, hdd, hrow⟩ := isScal_row hf
    cases v with
    | agg cs =>
      exfalso
      unfold isScal at hf
      rw [hdd] at hf hw
      cases dd <;> first | (cases hf; done) | (simp [Cell.okWide, Cell.ok, hdd] at hw; done)
    | tuple cs =>
      exfalso
      unfold isScal at hf
      rw [hdd] at hf hw
      cases dd <;> first | (cases hf; done) | (simp [Cell.okWide, Cell.ok, hdd] at hw; done)
    | _ => rfl
  · simp only [bq_true] at hf
    obtain ⟨dd, hdd, hrow⟩ := isAggT_row hf
    unfold isAggT at hf
    rw [hdd] at hf hw
    cases dd <;> first | (cases hf; done) | skip
    · obtain ⟨cs, rfl, _⟩ := hw; rfl
    · obtain ⟨cs, rfl, _⟩ := hw; rfl
/-- A law that is told: it yields true, and what was there is as it was. -/
theorem law_of_told {f : FuncId} {ks : KdL} {spec : Shp.D ⟨ks, []⟩ → Option (OutS [⟨.cons (.p .bool) .nil, []⟩])} (hT : Told P ⟨f, ⟨ks, []⟩, [⟨.cons (.p .bool) .nil, []⟩], spec⟩) {t : Shp.D ⟨ks, []⟩} (hs : spec t = some true) {vals : List Value}
    (hv : AReps ⟨w, fun _ => False, fun _ => False, fun _ => .no, fun _ => False⟩ (Shp.emb ⟨ks, []⟩ t).1 vals) : Calls P f vals.toArray w fun e w' => e = .returned (.bool true) ∧ RowKit.Below w.heap.size w w' := by
  refine (hT.spec t true hs ⟨w, fun _ => False, fun _ => False, fun _ => .no, fun _ => False⟩ vals ⟨fun id e h => by simp [Shp.emb, embH, hget] at h, fun i i' e e' g sz n g' sz' n' _ h => by simp [Shp.emb, embH, hget] at h, fun id _ => .inl rfl, fun g h => h⟩ hv fun _ h => h).mono ?_
  rintro en w' ⟨v, z', rfl, rfl, hn, _, ho⟩
  obtain ⟨_, ho⟩ := ho
  have ho : ARep z' (.p .bool true) v := ho
  refine ⟨by rw [ho.v.bool], ⟨hn.os, hn.tape, hn.output, hn.size, fun b hb => hn.block b hb fun h => h⟩⟩
end
end Go.Ab

/- What every law's row needs: its last step where the call returned true and what was there is as it was. -/
namespace Go.Ab
open Go.ChangeShapes Go.WideShapes Go.ChangeAt Go.RowKit

section
variable {H : Type} {enc : TypeId × Value → H} {P : Program}

theorem trodAll_stays (hl : laidOutB P = true) {W W' : World} {sp : Nat → Bool} (hb : Below W.heap.size W W') :
    ∀ (ts : List TypeId) (vs : List Value) (ds : List (DataW H)) (ps : List MemPlace), DataW.TrodAll enc P W 0 (fun _ => true) true ts vs ds ps →
      (∀ t ∈ ts, P.readableRec t = true ∧ t < P.types.size) → (∀ x ∈ ps, x.block < W.heap.size ∧ sp x.block = true) → DataW.TrodAll enc P W' 0 sp true ts vs ds ps
  | [], vs, ds, ps, h, _, _ => by
    obtain ⟨rfl, rfl, rfl⟩ := trodAll_nil h
    exact trodAll_mk0
  | t :: ts, vs, ds, ps, h, hr, hp => by
    obtain ⟨v, vs', d, ds', p, q, rfl, rfl, rfl, h0, h1⟩ := trodAll_cons h
    have ht := hr t (by simp)
    exact trodAll_cons_mk (WideElems.Trod_stays hl ht.1 ht.2 h0 (fun x hx => hb.same (hp x (by simp [hx])).1) (fun x hx => (hp x (by simp [hx])).2))
      (trodAll_stays hl hb ts vs' ds' q h1 (fun t' h' => hr t' (by simp [h'])) fun x hx => hp x (by simp [hx]))

theorem post_of_below {f : Func} {s : ChangeSpec} {apart fresh handsOn again : Bool} {W W' : World} {args : Array Value} {v : Value} {ds gs : List (DataW H)} {before pa pv : List MemPlace}
    (hW : DataW.Whole enc P f.params.toList s.vars apart W args.toList ds gs before)
    (hres : ∀ (b : Nat) (sp : Nat → Bool) (hd : Bool), DataW.TrodAll enc P W' b sp hd f.resultTypes.toList (v.resultList f.resultTypes.size) (s.fn H (ds ++ gs)).results [])
    (hargs : ∀ sp : Nat → Bool, (∀ p ∈ before, sp p.block = true) → DataW.TrodAll enc P W' 0 sp true f.params.toList args.toList (s.fn H (ds ++ gs)).args pa)
    (hvars : ∀ sp : Nat → Bool, (∀ p ∈ before, sp p.block = true) → DataW.TrodVars enc P W' sp s.vars (s.fn H (ds ++ gs)).vars pv)
    (hps : before = pa ++ pv) (hb : Below W.heap.size W W')
    (hok : ∀ (j : Nat) (t : TypeId) (r : Value), f.resultTypes[j]? = some t → (v.resultList f.resultTypes.size)[j]? = some r → Value.okWide P W' .any 0 t r) :
    s.post enc P f apart fresh handsOn again W args v W' := by
  have hlt : ∀ p ∈ before, p.block < W.heap.size := fun p hp => hW.lt p hp
  have hold : ∀ p ∈ before, (fun b => decide (b < W.heap.size)) p.block = true := fun p hp => by simpa using hlt p hp
  refine ⟨ds, gs, before, [], pa, pv, hW, hres _ _ _, hargs _ hold, hvars _ hold, World.keptBut_mono (fun p hp => ⟨hp, ?_⟩) (hb.frame (· ∈ before)), fun _ => ?_⟩
  · rw [hps, List.mem_append] at hp
    exact Or.inr hp
  · obtain ⟨_, _, _, _, _, hz, hn⟩ := hW
    refine ⟨hok, _, _, ([] ++ pa) ++ pv, ⟨[] ++ pa, pv, trodAll_append (hargs _ (fun _ _ => rfl)) (hres _ _ _), hvars _ (fun _ _ => rfl), rfl, ?_, ?_⟩, ?_⟩
    · intro b off hp
      have hin : MemPlace.cell b off ∈ before := by rw [hps]; simpa using hp
      rw [hb.frozen (hlt _ hin)]
      exact hz b off hin
    · intro ha
      have := hn ha
      rw [hps] at this
      simpa using this
    · intro p hp _
      rw [hps]
      simpa using hp

/-- A law's last step. -/
theorem law_post (hl : laidOutB P = true) {f : Func} {s : ChangeSpec} {B : TypeId} {W W' : World} {args : Array Value} {ds gs : List (DataW H)} {before : List MemPlace}
    (hbool : P.underlying B = some .bool) (hres : f.resultTypes = #[B]) (hread : ∀ t ∈ f.params.toList, P.readableRec t = true ∧ t < P.types.size) (hvars : s.vars = [])
    (hfn : (s.fn H (ds ++ gs)).results = [.lit (.bool true)] ∧ (s.fn H (ds ++ gs)).args = ds ∧ (s.fn H (ds ++ gs)).vars = [])
    (hW : DataW.Whole enc P f.params.toList s.vars false W args.toList ds gs before) (hb : Below W.heap.size W W') :
    s.post enc P f false true false false W args (.bool true) W' := by
  have hlt : ∀ p ∈ before, p.block < W.heap.size := fun p hp => hW.lt p hp
  have hW' := hW
  obtain ⟨p, q, hA, hV, hbe, _, _⟩ := hW
  rw [hvars] at hV
  obtain ⟨rfl, rfl⟩ := trodVars_none hV
  rw [List.append_nil] at hbe
  subst hbe
  refine post_of_below (pa := before) (pv := []) hW' ?_ ?_ ?_ (by simp) hb ?_
  · intro b sp hd
    rw [hfn.1, hres]
    exact trodAll_mk1 (shut_bool hbool _)
  · intro sp hsp
    rw [hfn.2.1]
    exact trodAll_stays hl hb _ _ _ _ hA hread fun x hx => ⟨hlt x hx, hsp x hx⟩
  · intro sp _
    rw [hvars, hfn.2.2]
    rfl
  · exact ok_one hres rfl (okWide_bool_mk hbool _)

end


end Go.Ab
