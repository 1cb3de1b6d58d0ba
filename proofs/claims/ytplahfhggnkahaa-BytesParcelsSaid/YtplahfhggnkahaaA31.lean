/- Regions that draw their order: in whatever order, what the text's order yields. -/
import Derived.Test.YtplahfhggnkahaaA30
set_option linter.all false
namespace Go.Ab

section
variable {P : Program} {T : Tbl} {β : Type} {ops : Array Oper}
theorem layF_filter {ν : Type} {f : Rc → Option ν} {S : Nat → Bool} : ∀ {l : List Rc} {b : ν}, (∀ r ∈ l, (f r).isSome = true → S r.i = true) → layF f (l.filter fun r => S r.i) b = layF f l b
  | [], b, _ => rfl
  | r :: l, b, h => by
    have h' : ∀ r ∈ l, (f r).isSome = true → S r.i = true := fun x hx => h x (List.mem_cons_of_mem _ hx)
    cases hs : S r.i
    · rw [List.filter_cons_of_neg (by simp [hs])]
      have hn : f r = none := by
        cases hf : f r with
        | none => rfl
        | some v => have := h r List.mem_cons_self (by rw [hf]; rfl); rw [hs] at this; cases this
      rw [layF_filter h']
      simp [layF, hn]
    · rw [List.filter_cons_of_pos (by simp [hs])]
      simp only [layF]
      exact layF_filter h'
theorem layF_none {ν : Type} {f : Rc → Option ν} {S : Nat → Bool} : ∀ {l : List Rc} {b : ν}, (∀ r ∈ l, (f r).isSome = true → S r.i = false) → layF f (l.filter fun r => S r.i) b = b
  | [], b, _ => rfl
  | r :: l, b, h => by
    have h' : ∀ r ∈ l, (f r).isSome = true → S r.i = false := fun x hx => h x (List.mem_cons_of_mem _ hx)
    cases hs : S r.i
    · rw [List.filter_cons_of_neg (by simp [hs])]; exact layF_none h'
    · rw [List.filter_cons_of_pos (by simp [hs])]
      have hn : f r = none := by
        cases hf : f r with
        | none => rfl
        | some v => have := h r List.mem_cons_self (by rw [hf]; rfl); rw [hs] at this; cases this
      simp only [layF, hn, Option.getD_none]
      exact layF_none h'
theorem layF_append {ν : Type} {f : Rc → Option ν} : ∀ {l m : List Rc} {b : ν}, layF f (l ++ m) b = layF f m (layF f l b)
  | [], m, b => rfl
  | r :: l, m, b => by simp only [List.cons_append, layF]; exact layF_append
theorem lay_agree {ν : Type} {f : Rc → Option ν} {S : Nat → Bool} {l1 l2 : List Rc} {r : Rc} {b : ν} (hr : S r.i = false) (h1 : ∀ x ∈ l1, (f x).isSome = true → S x.i = true) (h2 : ∀ x ∈ l2, (f x).isSome = true → S x.i = false) :
    layF f ((l1 ++ r :: l2).filter fun r => S r.i) b = layF f l1 b := by
  rw [List.filter_append, List.filter_cons_of_neg (by simp [hr]), layF_append, layF_filter h1, layF_none h2]
theorem lay_put {ν : Type} {f : Rc → Option ν} {S S' : Nat → Bool} {l1 l2 : List Rc} {r : Rc} {b : ν} (hr : S r.i = false) (hS : S' r.i = true) (hS1 : ∀ x ∈ l1, S' x.i = S x.i) (hS2 : ∀ x ∈ l2, S' x.i = S x.i) :
    (∀ v, f r = some v → (∀ x ∈ l2, (f x).isSome = true → S x.i = false) → layF f ((l1 ++ r :: l2).filter fun r => S' r.i) b = v) ∧
    (f r = none → layF f ((l1 ++ r :: l2).filter fun r => S' r.i) b = layF f ((l1 ++ r :: l2).filter fun r => S r.i) b) := by
  have e1 : (l1.filter fun r => S' r.i) = l1.filter fun r => S r.i := List.filter_congr fun x hx => by rw [hS1 x hx]
  have e2 : (l2.filter fun r => S' r.i) = l2.filter fun r => S r.i := List.filter_congr fun x hx => by rw [hS2 x hx]
  refine ⟨fun v hv h2 => ?_, fun hv => ?_⟩
  · rw [List.filter_append, List.filter_cons_of_pos (by simp [hS]), layF_append, e1, e2]
    simp only [layF, hv, Option.getD_some]
    exact layF_none h2
  · rw [List.filter_append, List.filter_cons_of_pos (by simp [hS]), layF_append, e1, e2, List.filter_append, List.filter_cons_of_neg (by simp [hr]), layF_append]
    simp only [layF, hv, Option.getD_none]

theorem edgesOk_iff : ∀ {l : List Oper} {k : Nat}, edgesOk k l = true → ∀ (i : Nat) o, l[i]? = some o → (∀ e ∈ o.after, Region.binds .any e = true → e.on < k + i) ∧ ∀ cs b, o.op ≠ .select cs b
  | [], k, _, i, o, h => by simp at h
  | x :: l, k, h, i, o, ho => by
    simp only [edgesOk, Bool.and_eq_true] at h
    obtain ⟨⟨h1, h2⟩, h3⟩ := h
    cases i with
    | zero =>
      simp only [List.getElem?_cons_zero, Option.some.injEq] at ho
      subst ho
      refine ⟨fun e he hb => ?_, fun cs b hs => by rw [hs] at h2; cases h2⟩
      have : ∀ {es : List Edge}, edgesLt k es = true → ∀ e ∈ es, Region.binds .any e = true → e.on < k := fun {es} => by
        induction es with
        | nil => intro _ e he; cases he
        | cons e0 es ih =>
          intro h e he hb
          simp only [edgesLt, Bool.and_eq_true, Bool.or_eq_true, Bool.not_eq_true', Nat.blt_eq] at h
          rcases List.mem_cons.1 he with rfl | he
          · exact h.1.resolve_left (by rw [hb]; simp)
          · exact ih h.2 e he hb
      exact this h1 e (Array.mem_toList_iff.2 he) hb
    | succ i =>
      have := edgesOk_iff h3 i o (by simpa using ho)
      rwa [show k + 1 + i = k + (i + 1) by omega] at this
theorem tmpsOf_mem {t : Nat} : ∀ {l : List Operand}, Operand.tmp t ∈ l → t ∈ tmpsOf l
  | [], h => by cases h
  | x :: l, h => by
    cases x with
    | tmp u =>
      simp only [tmpsOf, List.mem_cons]
      rcases List.mem_cons.1 h with h | h
      · injection h with h; exact .inl h
      · exact .inr (tmpsOf_mem h)
    | _ =>
      simp only [tmpsOf]
      rcases List.mem_cons.1 h with h | h
      · cases h
      · exact tmpsOf_mem h
theorem opnd_one {z : Z} {st : St} {a : Act} (x : Operand) (h : ∀ t, x = .tmp t → ARep z (st.tm.get t) (a.eval x)) : ARep z (st.opnd x) (a.eval x) := by
  cases x with
  | tmp t => exact h t rfl
  | const v =>
    have e : st.opnd (.const v) = ({ st with tm := .lf } : St).opnd (.const v) := by cases v <;> rfl
    rw [e]
    exact opnd_ok (z := z) (st := { st with tm := .lf }) (a := a) (fun t => .junk _) (.const v)
  | global g => exact .junk _
  | func f => exact opnd_ok (z := z) (st := { st with tm := .lf }) (a := a) (fun t => .junk _) (.func f)
theorem unlisted_count {n : Nat} {listed : Array Bool} {i : Nat} (hs : listed.size = n) (hi : listed.getD i true = false) :
    ((List.range n).filter fun j => !listed.getD j true).length = ((List.range n).filter fun j => !(listed.setIfInBounds i true).getD j true).length + 1 := by
  have hlt : i < n := by
    rcases Nat.lt_or_ge i listed.size with h | h
    · omega
    · simp [Array.getElem?_eq_none h] at hi
  have hmem : i ∈ (List.range n).filter fun j => !listed.getD j true := by
    rw [List.mem_filter]
    exact ⟨List.mem_range.2 hlt, by rw [hi]; rfl⟩
  have hnd : ((List.range n).filter fun j => !listed.getD j true).Nodup := List.Pairwise.sublist List.filter_sublist List.nodup_range
  have he : ((List.range n).filter fun j => !(listed.setIfInBounds i true).getD j true) = ((List.range n).filter fun j => !listed.getD j true).erase i := by
    rw [List.Nodup.erase_eq_filter hnd, List.filter_filter]
    refine List.filter_congr fun j hj => ?_
    by_cases hij : i = j
    · subst hij
      simp [show i < listed.size by omega]
    · have : (j != i) = true := by simp; exact fun h => hij h.symm
      rw [this, getD_set_ne true hij]
      simp
  rw [he, List.length_erase_of_mem hmem]
  have := List.length_pos_of_mem hmem
  omega

/-- What holds behind a set of the operations. -/
def J (z0 : Z) (N : Nat) (L : List (Nat × AV)) (ops : Array Oper) (recs : List Rc) (st : St) (listed : Array Bool) (a : Act) (w : World) : Prop :=
  ∃ z H, z.w = w ∧ Nx z0 z ∧ (∀ id, ¬ z.D id) ∧ HRep z H ∧ (∀ id, layF (Rc.hpE id) (recs.filter fun r => listed.getD r.i false) (hpAt st.hp id) = hpAt H id) ∧
    (∀ t, ARep z (layF (Rc.tmE t) (recs.filter fun r => listed.getD r.i false) (st.tm.get t)) (a.eval (.tmp t))) ∧ (∀ p ∈ L, ARep z p.2 (a.eval (.tmp p.1))) ∧ a.defers = [] ∧ (st.nt ≤ N ∧ a.tmps.size = N) ∧
    listed.size = ops.size ∧ (∀ j, listed.getD j false = true → edgesIn ops.toList (fun j => listed.getD j false = true) j)

theorem drawn_ok {z0 : Z} {N : Nat} {L : List (Nat × AV)} {st : St} {a : Act} {w : World} {K : St → Option β} {res : β} {Q : Exit → Act → World → Prop} {opsA : List (Oper × Ann)} (hT : ∀ e ∈ T, Told P e) (hops : opsA.map (·.1) = ops.toList)
    (hL : ∀ x ∈ opsA, ∀ p ∈ L, x.1.dst ≠ some p.1) (hk : ∀ st' a' w', K st' = some res → Inv z0 N L st' a' w' → Q .normal a' w')
    (hed : edgesOk 0 ops.toList = true) (hnm : nmsOk (nms (clos 0 ops.toList []) ops.toList 0 ops.toList) = true)
    (h : evOpsD P T (numb 0 opsA) ops.toList st [] (fun st' fs => need (pairsOk (clos 0 ops.toList []) fs) (K st')) = some res) (hi : Inv z0 N L st a w) :
    wpAny P .any ops Q ops.size (Array.replicate ops.size false) a w := by
  obtain ⟨recs, st', t1, t2, t3, t4, t5, t6, t7, t8⟩ := trace_ok _ _ _ h
  obtain ⟨hpair, hK⟩ := need_iff.1 t3
  have hi0 := hi
  obtain ⟨_, _, _, _, _, _, _, _, _, hn0⟩ := hi0
  rw [List.append_nil] at hpair
  generalize hcl : clos 0 ops.toList [] = cl at *
  have hnames : recs.Pairwise fun a b => memN a.i ((cl.lookup b.i).getD []) = true ∨ apartN (a.nm cl ops.toList) (b.nm cl ops.toList) = true := by
    have := nmsOk_iff hnm
    have e := nms_eq (cl := cl) (all := ops.toList) t1
    rw [hops] at e
    rw [e, List.pairwise_map] at this
    exact this
  have hfp : (fpsOf P recs).Pairwise fun a b => pairOk cl a b = true := by
    have := pairsOk_iff hpair
    rwa [List.pairwise_reverse] at this
  have hrec : recs.Pairwise fun r1 r2 => r1.go = true → r2.go = true → memN r1.i ((cl.lookup r2.i).getD []) = true ∨ clash ⟨r1.i, r1.ft, !isR P r1.o⟩ ⟨r2.i, r2.ft, !isR P r2.o⟩ = false := by
    clear t1 t2 t3 t4 t5 t6 hpair hnames
    have mem : ∀ {l : List Rc} {r : Rc}, r ∈ l → r.go = true → (⟨r.i, r.ft, !isR P r.o⟩ : Fp) ∈ fpsOf P l := fun {l} => by
      induction l with
      | nil => intro r h; cases h
      | cons x l ih =>
        intro r h hg
        simp only [fpsOf]
        rcases List.mem_cons.1 h with rfl | h
        · rw [if_pos hg]; exact List.mem_cons_self
        · split
          · exact List.mem_cons_of_mem _ (ih h hg)
          · exact ih h hg
    induction recs with
    | nil => exact .nil
    | cons x l ih =>
      simp only [fpsOf] at hfp
      refine .cons (fun y hy hx hy' => ?_) (ih ?_)
      · rw [if_pos hx] at hfp
        have := (List.pairwise_cons.1 hfp).1 _ (mem hy hy')
        simp only [pairOk, Bool.or_eq_true, Bool.not_eq_true'] at this
        exact this
      · split at hfp
        · exact (List.pairwise_cons.1 hfp).2
        · exact hfp
  have hat : ∀ (i : Nat) r, recs[i]? = some r → r.i = i ∧ ops[i]? = some r.o := fun i r hr => by
    have e : (recs.map fun r => (r.i, r.o, r.an))[i]? = some (r.i, r.o, r.an) := by rw [List.getElem?_map, hr]; rfl
    rw [t1, numb_get] at e
    obtain ⟨x, hx, hxe⟩ := Option.map_eq_some_iff.1 e
    simp only [Prod.mk.injEq] at hxe
    obtain ⟨h1, h2⟩ := hxe
    refine ⟨by omega, ?_⟩
    have h3 : (opsA.map (·.1))[i]? = some r.o := by rw [List.getElem?_map, hx, h2]; rfl
    rw [hops] at h3
    rwa [← Array.getElem?_toList]
  have hlen : recs.length = ops.size := by
    have h1 : (recs.map fun r => (r.i, r.o, r.an)).length = opsA.length := by
      rw [t1]
      have : ∀ {α : Type} (l : List α) k, (numb k l).length = l.length := fun l => by
        induction l with
        | nil => intro k; rfl
        | cons a l ih => intro k; simp [numb, ih]
      exact this _ _
    have h2 := congrArg List.length hops
    simp at h1 h2
    omega
  have hlt : ∀ {l1 : List Rc} {r l2}, recs = l1 ++ r :: l2 → (∀ x ∈ l1, x.i ≠ r.i) ∧ (∀ x ∈ l2, x.i ≠ r.i) := fun {l1 r l2} he => by
    have hp : recs.Pairwise fun a b => a.i < b.i := by
      have := numb_lt (l := opsA) (k := 0)
      rw [← t1, List.pairwise_map] at this
      exact this
    rw [he, List.pairwise_append] at hp
    exact ⟨fun x hx => Nat.ne_of_lt (hp.2.2 x hx r List.mem_cons_self), fun x hx => (Nat.ne_of_lt ((List.pairwise_cons.1 hp.2.1).1 x hx)).symm⟩
  -- the main induction
  have main : ∀ (fuel : Nat) (listed : Array Bool) (a : Act) (w : World), fuel = ((List.range ops.size).filter fun j => !listed.getD j true).length → J z0 N L ops recs st listed a w → wpAny P .any ops Q fuel listed a w := by
    -- the end
    have fin : ∀ (listed : Array Bool) (a : Act) (w : World), Region.ready .any ops listed = [] → J z0 N L ops recs st listed a w → Q .normal a w := by
      rintro listed a w hr ⟨z, H, rfl, hn, hD, hH, hhp, htm, hLs, hdf, hnt, hsz, hcs⟩
      have hall : ∀ i, i < ops.size → listed.getD i false = true := by
        intro i
        induction i using Nat.strongRecOn with
        | _ i ih =>
          intro hi
          cases hb : listed.getD i false
          · exfalso
            have hb' : listed.getD i true = false := by
              have : i < listed.size := by omega
              simp [this] at hb ⊢
              exact hb
            have : i ∈ Region.ready .any ops listed := by
              rw [mem_ready]
              refine ⟨hb', ops[i], Array.getElem?_eq_getElem hi, fun e he hbd => ?_⟩
              have := (edgesOk_iff hed i ops[i] (by rw [Array.getElem?_toList]; exact Array.getElem?_eq_getElem hi)).1 e he hbd
              rw [Nat.zero_add] at this
              exact ih e.on this (by omega)
            rw [hr] at this
            cases this
          · rfl
      have hfil : (recs.filter fun r => listed.getD r.i false) = recs := by
        rw [List.filter_eq_self]
        intro r hr'
        obtain ⟨i, hi⟩ := List.getElem?_of_mem hr'
        obtain ⟨h1, h2⟩ := hat i r hi
        rw [h1]
        exact hall i (Array.getElem?_eq_some_iff.1 h2).1
      rw [hfil] at hhp htm
      refine hk st' a z.w hK ⟨z, rfl, hn, hD, hH.same (fun id => ?_) (fun id => ?_), fun t => t5 t _ _ (htm t), hLs, hdf, by rw [t7]; exact hnt, by rw [t8]; exact hn0⟩
      · have := (t6 id).symm.trans (hhp id)
        exact congrArg Prod.snd this
      · have := (t6 id).symm.trans (hhp id)
        exact congrArg Prod.fst this
    -- a step
    have step : ∀ (listed : Array Bool) (a : Act) (w : World) (i : Nat) (next : Act → World → Prop), i ∈ Region.ready .any ops listed → J z0 N L ops recs st listed a w →
        (∀ a' w', J z0 N L ops recs st (listed.setIfInBounds i true) a' w' → next a' w') → wpOp P ops Q i next a w := by
      rintro listed a w i next hr ⟨z, H, rfl, hn, hD, hH, hhp, htm, hLs, hdf, hnt, hsz, hcs⟩ hnext
      obtain ⟨hun, o, ho, hedge⟩ := mem_ready.1 hr
      have hilt : i < ops.size := (Array.getElem?_eq_some_iff.1 ho).1
      obtain ⟨r, hri⟩ : ∃ r, recs[i]? = some r := ⟨_, List.getElem?_eq_getElem (by omega)⟩
      obtain ⟨hr1, hr2⟩ := hat i r hri
      rw [ho] at hr2
      simp only [Option.some.injEq] at hr2
      subst hr2
      obtain ⟨l1, l2, hsplit⟩ := List.append_of_mem (List.mem_of_getElem? hri)
      have hmem := List.mem_of_getElem? hri
      have hok := t2 r hmem
      obtain ⟨u1, u2, u3⟩ := t4 l1 r l2 hsplit
      have hSi : listed.getD r.i false = false := by
        rw [hr1]
        have : i < listed.size := by omega
        simp [this] at hun ⊢
        exact hun
      -- those ahead are there; those that have it ahead are not
      have hclS : ∀ j, edgesIn ops.toList (fun j => listed.getD j false = true) j → ∀ m ∈ (cl.lookup j).getD [], listed.getD m false = true := fun j hj m hm => by
        rw [← hcl] at hm
        exact clos_ok (S := fun j => listed.getD j false = true) hcs ops.toList 0 [] (fun i => by rw [Nat.zero_add]) (fun j _ m hm => by simp at hm) j hj m hm
      have hA : ∀ m ∈ (cl.lookup r.i).getD [], listed.getD m false = true := hclS r.i fun o' ho' e he hb => by
        rw [hr1, Array.getElem?_toList, ho] at ho'
        simp only [Option.some.injEq] at ho'
        subst ho'
        exact hedge e he hb
      have hB : ∀ x, r.i ∈ (cl.lookup x).getD [] → listed.getD x false = false := fun x hx => by
        cases hb : listed.getD x false
        · rfl
        · have := hclS x (hcs x hb) r.i hx
          rw [hSi] at this
          cases this
      rw [hsplit] at hnames hrec
      have hn1 := List.pairwise_append.1 hnames
      have hf1 := List.pairwise_append.1 hrec
      -- slots
      have slot1 : ∀ t, (t ∈ (r.nm cl ops.toList).rd ∨ r.o.dst = some t) → ∀ x ∈ l1, (x.tmE t).isSome = true → listed.getD x.i false = true := fun t ht x hx hs => by
        rcases hn1.2.2 x hx r List.mem_cons_self with h | h
        · exact hA _ (memN_iff.1 h)
        · exfalso
          have hxd : x.o.dst = some t := by
            unfold Rc.tmE at hs
            split at hs
            · assumption
            · cases hs
          simp only [apartN, Bool.and_eq_true, Bool.not_eq_true', Rc.nm, hxd, hasN, sameO] at h
          rcases ht with ht | ht
          · have ht' : memN t (guardOf ops.toList r.o ++ tmpsOf r.o.op.operands.toList) = true := memN_iff.2 ht
            rw [ht'] at h; exact absurd h.1.1 (by simp)
          · rw [ht] at h; simp [Nat.beq_refl, beq_nat] at h
      have slot2 : ∀ t, (t ∈ (r.nm cl ops.toList).rd ∨ r.o.dst = some t) → ∀ x ∈ l2, (x.tmE t).isSome = true → listed.getD x.i false = false := fun t ht x hx hs => by
        rcases (List.pairwise_cons.1 hn1.2.1).1 x hx with h | h
        · exact hB _ (memN_iff.1 h)
        · exfalso
          have hxd : x.o.dst = some t := by
            unfold Rc.tmE at hs
            split at hs
            · assumption
            · cases hs
          simp only [apartN, Bool.and_eq_true, Bool.not_eq_true', Rc.nm, hxd, hasN, sameO] at h
          rcases ht with ht | ht
          · have ht' : memN t (guardOf ops.toList r.o ++ tmpsOf r.o.op.operands.toList) = true := memN_iff.2 ht
            rw [ht'] at h; exact absurd h.1.2 (by simp)
          · rw [ht] at h; simp [beq_nat] at h
      have hslot : ∀ t ∈ (r.nm cl ops.toList).rd, ARep z (r.pre t) (a.eval (.tmp t)) := fun t ht => by
        have := htm t
        rw [hsplit, lay_agree (f := Rc.tmE t) (S := fun i => listed.getD i false) hSi (slot1 t (.inl ht)) (slot2 t (.inl ht))] at this
        exact u1 t _ _ this
      have hwant : Region.wanted r.o (yielded ops a.tmps) = r.go := hok.grd.wanted fun j want d h1 h2 => hslot d (by
        obtain ⟨x, h3, h4⟩ := Option.bind_eq_some_iff.1 h2
        simp [Rc.nm, guardOf, h1, h3, h4])
      have hopn : ∀ x ∈ r.o.op.operands, ARep z (r.st.opnd x) (a.eval x) := fun x hx => opnd_one x fun t ht => by
        subst ht
        exact hok.le t _ _ (hslot t (by
          simp only [Rc.nm, List.mem_append]
          exact .inr (tmpsOf_mem (Array.mem_toList_iff.2 hx))))
      -- the new set
      have hS' : (listed.setIfInBounds i true).getD r.i false = true := by rw [hr1]; simp [show i < listed.size by omega]
      have hSo : ∀ x, x ≠ i → (listed.setIfInBounds i true).getD x false = listed.getD x false := fun x hx => getD_set_ne false (Ne.symm hx)
      obtain ⟨v1, v2⟩ := hlt hsplit
      have hS1 : ∀ x ∈ l1, (listed.setIfInBounds i true).getD x.i false = listed.getD x.i false := fun x hx => hSo _ (by rw [← hr1]; exact v1 x hx)
      have hS2 : ∀ x ∈ l2, (listed.setIfInBounds i true).getD x.i false = listed.getD x.i false := fun x hx => hSo _ (by rw [← hr1]; exact v2 x hx)
      have hcs' : ∀ j, (listed.setIfInBounds i true).getD j false = true → edgesIn ops.toList (fun j => (listed.setIfInBounds i true).getD j false = true) j := fun j hj o' ho' e he hb => by
        refine getD_set_true ?_
        by_cases hji : j = i
        · subst hji
          rw [Array.getElem?_toList, ho] at ho'
          simp only [Option.some.injEq] at ho'
          subst ho'
          exact hedge e he hb
        · rw [hSo j hji] at hj
          exact hcs j hj o' ho' e he hb
      have hLr : ∀ p ∈ L, r.o.dst ≠ some p.1 := by
        have h3 : (recs.map fun r => (r.i, r.o, r.an))[i]? = some (r.i, r.o, r.an) := by rw [List.getElem?_map, hri]; rfl
        rw [t1, numb_get] at h3
        obtain ⟨x, hx, hxe⟩ := Option.map_eq_some_iff.1 h3
        simp only [Prod.mk.injEq] at hxe
        have := hL x (List.mem_of_getElem? hx)
        rw [hxe.2] at this
        exact this
      have hdst := hok.dst
      rw [u3] at hdst
      -- what is laid down
      have put : ∀ (z3 : Z) (H3 : Hp) (v : Value), Nx z z3 → HRep z3 H3 → ARep z3 r.x v → (∀ id, layF (Rc.hpE id) (recs.filter fun r => (listed.setIfInBounds i true).getD r.i false) (hpAt st.hp id) = hpAt H3 id) →
          J z0 N L ops recs st (listed.setIfInBounds i true) (a.put r.o.dst v) z3.w := fun z3 H3 v k1 k2 k3 k4 => by
        have kp := k1.kp hH.sub
        refine ⟨z3, H3, rfl, hn.trans k1, fun id => by rw [k1.dom]; exact hD id, k2, k4, fun t => ?_, fun p hp => ?_, (put_size _ _ _).2.trans hdf, by rw [(put_size _ _ _).1]; exact hnt, by simpa using hsz, hcs'⟩
        · by_cases ht : r.o.dst = some t
          · rw [hsplit, (lay_put (f := Rc.tmE t) (S := fun i => listed.getD i false) (S' := fun j => (listed.setIfInBounds i true).getD j false) hSi hS' hS1 hS2).1 r.x (by simp [Rc.tmE, ht]) (slot2 t (.inr ht)), ht, eval_put_same (by
              rw [ht] at hdst
              simp only [dstOk, Nat.blt_eq] at hdst
              omega)]
            exact k3
          · rw [hsplit, (lay_put (f := Rc.tmE t) (S := fun i => listed.getD i false) (S' := fun j => (listed.setIfInBounds i true).getD j false) hSi hS' hS1 hS2).2 (by simp [Rc.tmE, ht]), eval_put_ne ht, ← hsplit]
            exact (htm t).kp kp
        · rw [eval_put_ne (hLr p hp)]
          exact (hLs p hp).kp kp
      have same : r.H2 = none → ∀ id, layF (Rc.hpE id) (recs.filter fun r => (listed.setIfInBounds i true).getD r.i false) (hpAt st.hp id) = hpAt H id := fun h2 id => by
        rw [hsplit, (lay_put (f := Rc.hpE id) (S := fun i => listed.getD i false) (S' := fun j => (listed.setIfInBounds i true).getD j false) hSi hS' hS1 hS2).2 (by simp [Rc.hpE, h2]), ← hsplit]
        exact hhp id
      unfold wpOp
      simp only [ho, hwant]
      cases hgo : r.go
      · simp only [Bool.false_eq_true, if_false]
        obtain ⟨x1, x2⟩ := hok.no hgo
        exact hnext _ _ (put z H undef (Nx.refl z) hH (by rw [x1]; exact undef_ok) (same x2))
      · simp only [if_true]
        refine .inl ?_
        -- the footprint
        have foot1 : ∀ id ∈ r.ft, ∀ x ∈ l1, (x.hpE id).isSome = true → listed.getD x.i false = true := fun id hid x hx hs => by
          have hxt := t2 x (by rw [hsplit]; exact List.mem_append_left _ hx)
          have hxg : x.go = true := by
            cases hxg : x.go
            · have := (hxt.no hxg).2; simp [Rc.hpE, this] at hs
            · rfl
          have hxw : isR P x.o = false ∧ memN id x.ft = true := by
            rcases hxt.yes hxg with ⟨_, _, y⟩ | ⟨y, _⟩
            · simp [Rc.hpE, y] at hs
            · refine ⟨y, ?_⟩
              unfold Rc.hpE at hs
              split at hs
              · split at hs
                · assumption
                · cases hs
              · cases hs
          rcases hf1.2.2 x hx r List.mem_cons_self hxg hgo with h | h
          · exact hA _ (memN_iff.1 h)
          · exfalso
            have hmt : meetN x.ft r.ft = true := by
              have : ∀ {l : List Nat}, id ∈ l → meetN l r.ft = true := fun {l} => by
                induction l with
                | nil => intro h; cases h
                | cons y l ih =>
                  intro h
                  simp only [meetN, Bool.or_eq_true]
                  rcases List.mem_cons.1 h with rfl | h
                  · exact .inl (memN_iff.2 hid)
                  · exact .inr (ih h)
              exact this (memN_iff.1 hxw.2)
            simp [clash, hxw.1, hmt] at h
        have foot2 : ∀ id ∈ r.ft, ∀ x ∈ l2, (x.hpE id).isSome = true → listed.getD x.i false = false := fun id hid x hx hs => by
          have hxt := t2 x (by rw [hsplit]; exact List.mem_append_right _ (List.mem_cons_of_mem _ hx))
          have hxg : x.go = true := by
            cases hxg : x.go
            · have := (hxt.no hxg).2; simp [Rc.hpE, this] at hs
            · rfl
          have hxw : isR P x.o = false ∧ memN id x.ft = true := by
            rcases hxt.yes hxg with ⟨_, _, y⟩ | ⟨y, _⟩
            · simp [Rc.hpE, y] at hs
            · refine ⟨y, ?_⟩
              unfold Rc.hpE at hs
              split at hs
              · split at hs
                · assumption
                · cases hs
              · cases hs
          rcases (List.pairwise_cons.1 hf1.2.1).1 x hx hgo hxg with h | h
          · exact hB _ (memN_iff.1 h)
          · exfalso
            have hmt : meetN r.ft x.ft = true := by
              have : ∀ {l : List Nat}, id ∈ l → meetN l x.ft = true := fun {l} => by
                induction l with
                | nil => intro h; cases h
                | cons y l ih =>
                  intro h
                  simp only [meetN, Bool.or_eq_true]
                  rcases List.mem_cons.1 h with rfl | h
                  · exact .inl hxw.2
                  · exact .inr (ih h)
              exact this hid
            simp [clash, hxw.1, hmt] at h
        have hfoot : ∀ id ∈ r.ft, hpAt H id = hpAt r.st.hp id := fun id hid => by
          rw [← hhp id, hsplit, lay_agree (f := Rc.hpE id) (S := fun i => listed.getD i false) hSi (foot1 id hid) (foot2 id hid)]
          exact u2 id
        let F : Nat → Bool := fun id => memN id r.ft
        have hfoc : HRep (z.foc H F) (hsub r.st.hp r.ft) := foc_ok hH (fun id => by
            rw [(hsub_get _ _ id).1]
            show _ = if memN id r.ft = true then _ else _
            split
            · rename_i hm; exact (congrArg Prod.snd (hfoot id (memN_iff.1 hm))).symm
            · rfl) (fun id => by
            rw [(hsub_get _ _ id).2]
            show _ = (memN id r.ft && _)
            cases hm : memN id r.ft
            · rfl
            · rw [show hkey r.st.hp id = hkey H id from (congrArg Prod.fst (hfoot id (memN_iff.1 hm))).symm])
        classical
        let r' : Operand → AV := fun x => if x ∈ r.o.op.operands then r.st.opnd x else .junk
        have hr' : ∀ x ∈ r.o.op.operands, r.st.opnd x = r' x := fun x hx => (if_pos hx).symm
        have hrep : ∀ x, ARep (z.foc H F) (r' x) (a.eval x) := fun x => by
          by_cases hx : x ∈ r.o.op.operands
          · rw [← hr' x hx]; exact (hopn x hx).less rfl rfl fun g h => h
          · show ARep _ (if x ∈ r.o.op.operands then r.st.opnd x else .junk) _
            rw [if_neg hx]; exact .junk _
        rcases hok.yes hgo with ⟨_, y1, y2⟩ | ⟨_, y1, y2, Hr, y3, y4, y5⟩
        · rw [evR_congr hr'] at y1
          refine evR_wp (z := z.foc H F) y1 hfoc hrep fun x v q1 q2 => ?_
          simp only [Option.some.injEq] at q2
          subst q2
          exact hnext _ _ (put z H v (Nx.refl z) hH (q1.less rfl rfl fun g h => h) (same y2))
        · rw [evW_congr hr'] at y4
          have hidF : ∀ id ∈ r.an.ids, ¬ (z.foc H F).D id := fun id hid hd => by
            rcases hd with hd | ⟨_, hd⟩
            · exact hD id hd
            · have : F id = true := memN_iff.2 (by
                unfold Rc.ft foot
                rw [nubN_mem]
                exact List.mem_append_left _ (List.mem_append_right _ hid))
              rw [this] at hd
              cases hd
          refine evW_wp (z := z.foc H F) hT y4 hfoc hidF (fun hm => hidF _ (by
              cases hids : r.an.ids with
              | nil => exact absurd hids (y1 hm)
              | cons x l => simp)) (.inl y2) hrep fun x v H' z' q1 q2 q3 q4 => ?_
          simp only [Option.some.injEq, Prod.mk.injEq] at q4
          obtain ⟨rfl, rfl⟩ := q4
          have hkF : ∀ id, hkey H' id = true → F id = true := fun id hkk => memN_iff.2 (allIn_iff.1 y5 id (hkey_mem.1 hkk))
          obtain ⟨z3, m1, m2, m3, m4, m5⟩ := merge_ok (H3 := setAll (killAll H r.ft) H') hH q2 q1 hkF (fun id => by
              rw [hget_setAll, hget_killAll]) (fun id hh => by
              rw [hkey_setAll, hkey_killAll]
              rcases hh with hh | hh <;> simp [hh])
          rw [← m1]
          refine hnext _ _ (put z3 _ v m5 m4 (q3.less m1 m3 fun g h => by rw [← m2]; exact h) fun id => ?_)
          by_cases hm : memN id r.ft = true
          · rw [hsplit, (lay_put (f := Rc.hpE id) (S := fun i => listed.getD i false) (S' := fun j => (listed.setIfInBounds i true).getD j false) hSi hS' hS1 hS2).1 (true, if hkey H' id = true then hget H' id else none) (by simp [Rc.hpE, y3, hm]) (foot2 id (memN_iff.1 hm))]
            unfold hpAt
            rw [hkey_setAll, hget_setAll, hkey_killAll, hget_killAll]
            simp [hm]
          · have hk0 : hkey H' id = false := by
              cases hk0 : hkey H' id
              · rfl
              · exact absurd (hkF id hk0) hm
            rw [hsplit, (lay_put (f := Rc.hpE id) (S := fun i => listed.getD i false) (S' := fun j => (listed.setIfInBounds i true).getD j false) hSi hS' hS1 hS2).2 (by simp [Rc.hpE, y3, hm]), ← hsplit]
            rw [hhp id]
            unfold hpAt
            rw [hkey_setAll, hget_setAll, hkey_killAll, hget_killAll]
            simp [hm, hk0]
    intro fuel
    induction fuel with
    | zero =>
      intro listed a w hf hj
      have hr : Region.ready .any ops listed = [] := by
        cases hr : Region.ready .any ops listed with
        | nil => rfl
        | cons i l =>
          have hi : i ∈ Region.ready .any ops listed := by rw [hr]; exact List.mem_cons_self
          obtain ⟨h1, o, h2, _⟩ := mem_ready.1 hi
          have : i ∈ (List.range ops.size).filter fun j => !listed.getD j true := by
            rw [List.mem_filter]
            exact ⟨List.mem_range.2 (Array.getElem?_eq_some_iff.1 h2).1, by rw [h1]; rfl⟩
          have := List.length_pos_of_mem this
          omega
      exact ⟨hr, fin listed a w hr hj⟩
    | succ fuel ih =>
      intro listed a w hf hj
      refine ⟨fun hr => fin listed a w hr hj, fun i hi => ?_⟩
      refine step listed a w i _ hi hj fun a' w' hj' => ih _ a' w' ?_ hj'
      obtain ⟨_, _, _, _, _, _, _, _, _, _, _, hsz, _⟩ := hj
      have := unlisted_count hsz (mem_ready.1 hi).1
      omega
  obtain ⟨z, rfl, hn, hD, hH, hs, hLs, hdf, hnt, _⟩ := hi
  have hempty : (recs.filter fun r => (Array.replicate ops.size false).getD r.i false) = [] := by
    rw [List.filter_eq_nil_iff]
    intro r _
    simp [Array.getElem?_replicate]
    split <;> rfl
  refine main ops.size _ a z.w ?_ ⟨z, st.hp, rfl, hn, hD, hH, fun id => by rw [hempty]; rfl, fun t => by rw [hempty]; exact hs t, hLs, hdf, hnt, by simp, fun j hj => ?_⟩
  · have : ((List.range ops.size).filter fun j => !(Array.replicate ops.size false).getD j true) = List.range ops.size := by
      rw [List.filter_eq_self]
      intro j hj
      simp [List.mem_range.1 hj]
    rw [this]
    simp
  · exfalso
    simp [Array.getElem?_replicate] at hj
    split at hj <;> simp at hj
end
end Go.Ab
