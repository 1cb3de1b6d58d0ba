/- What is yielded does not hang on what is done with it. -/
import Derived.Test.YtplahfhggnkahaaA23
set_option linter.all false
namespace Go.Ab

section
variable {P : Program} {β γ : Type} {H : Hp} {F : γ → Option β}
theorem nt_ob {α : Type} {x : Option α} {f : α → Option β} {g : α → Option γ} (h : ∀ a, f a = (g a).bind F) : x.ob f = (x.ob g).bind F := by
  cases x with
  | none => rfl
  | some a => exact h a
theorem nt_bind {α : Type} {x : Option α} {f : α → Option β} {g : α → Option γ} (h : ∀ a, f a = (g a).bind F) : x.bind f = (x.bind g).bind F := by
  cases x with
  | none => rfl
  | some a => exact h a
theorem nt_need {b : Bool} {f : Option β} {g : Option γ} (h : f = g.bind F) : need b f = (need b g).bind F := by
  cases b
  · rfl
  · exact h
theorem nt_bq {b : Bool} {f f' : Option β} {g g' : Option γ} (h : f = g.bind F) (h' : f' = g'.bind F) : bq b f f' = (bq b g g').bind F := by
  cases b
  · exact h'
  · exact h
theorem nt_dq {t u : Ty} {f : t = u → Option β} {f' : Option β} {g : t = u → Option γ} {g' : Option γ} (h : ∀ e, f e = (g e).bind F) (h' : f' = g'.bind F) : dq t u f f' = (dq t u g g').bind F := by
  unfold dq
  simp only
  split
  · exact h _
  · exact h'

theorem asmN_nt {δ : Type} {fa : List AV → (δ → Option β) → Option β} {fb : List AV → (δ → Option γ) → Option γ} (hf : ∀ c (k : δ → Option β) (k' : δ → Option γ), (∀ x, k x = (k' x).bind F) → fa c k = (fb c k').bind F) (c : Nat) :
    ∀ (n : Nat) (cs : List AV) {k : List δ → Option β} {k' : List δ → Option γ}, (∀ x, k x = (k' x).bind F) → asmN fa c n cs k = (asmN fb c n cs k').bind F
  | 0, cs, k, k', h => h _
  | n + 1, cs, k, k', h => hf _ _ _ fun x => asmN_nt hf c n _ fun l => h _
theorem asm_nt : (t : Ty) → {cs : List AV} → {k : t.den → Option β} → {k' : t.den → Option γ} → (∀ x, k x = (k' x).bind F) → asm t cs k = (asm t cs k').bind F
  | .byte, cs, k, k', h => nt_ob fun n => nt_bind h
  | .one t, cs, k, k', h => asm_nt t h
  | .pair a b, cs, k, k', h => asm_nt a fun x => asm_nt b fun y => h _
  | .arr n t, cs, k, k', h => asmN_nt (fa := asm t) (fb := asm t) (fun c _ _ h => asm_nt t (cs := c) h) t.cells n cs h
  | .int _, cs, k, k', h | .bool, cs, k, k', h | .str, cs, k, k', h | .opq, cs, k, k', h | .nat, cs, k, k', h | .sl _, cs, k, k', h => nt_ob h
theorem asC_nt {u : Ty} {a : AV} {k : u.den → Option β} {k' : u.den → Option γ} (h : ∀ x, k x = (k' x).bind F) : asC u a k = (asC u a k').bind F :=
  nt_ob fun _ => nt_need (asm_nt u h)
theorem asA_nt {u : Ty} {a : AV} {k : u.den → Option β} {k' : u.den → Option γ} (h : ∀ x, k x = (k' x).bind F) : asA u a k = (asA u a k').bind F := by
  unfold asA
  split
  · exact nt_dq (fun _ => h _) (asC_nt h)
  · exact asC_nt h
theorem sub_nt : (t : Ty) → {x : t.den} → {o : Nat} → {u : Ty} → {k : u.den → Option β} → {k' : u.den → Option γ} → (∀ x, k x = (k' x).bind F) → sub t x o u k = (sub t x o u k').bind F
  | .one t, x, o, u, k, k', h => nt_dq (fun _ => nt_bq (h _) rfl) (sub_nt t h)
  | .pair a b, x, o, u, k, k', h => nt_dq (fun _ => nt_bq (h _) rfl) (nt_bq (sub_nt a h) (sub_nt b h))
  | .int _, x, o, u, k, k', h | .bool, x, o, u, k, k', h | .byte, x, o, u, k, k', h | .str, x, o, u, k, k', h | .opq, x, o, u, k, k', h | .nat, x, o, u, k, k', h | .sl _, x, o, u, k, k', h | .arr _ _, x, o, u, k, k', h => nt_dq (fun _ => nt_bq (h _) rfl) rfl
theorem upd_nt : (t : Ty) → {x : t.den} → {o : Nat} → {u : Ty} → {y : u.den} → {k : t.den → Option β} → {k' : t.den → Option γ} → (∀ x, k x = (k' x).bind F) → upd t x o u y k = (upd t x o u y k').bind F
  | .one t, x, o, u, y, k, k', h => nt_dq (fun _ => nt_bq (h _) rfl) (upd_nt t h)
  | .pair a b, x, o, u, y, k, k', h => nt_dq (fun _ => nt_bq (h _) rfl) (nt_bq (upd_nt a fun _ => h _) (upd_nt b fun _ => h _))
  | .int _, x, o, u, y, k, k', h | .bool, x, o, u, y, k, k', h | .byte, x, o, u, y, k, k', h | .str, x, o, u, y, k, k', h | .opq, x, o, u, y, k, k', h | .nat, x, o, u, y, k, k', h | .sl _, x, o, u, y, k, k', h | .arr _ _, x, o, u, y, k, k', h => nt_dq (fun _ => nt_bq (h _) rfl) rfl

section
variable {k : AV → Option β} {k' : AV → Option γ}
theorem rdRow_nt {u : Ty} {t : TypeId} {x : u.den} {j : Nat} (h : ∀ x, k x = (k' x).bind F) : rdRow P u t x j k = (rdRow P u t x j k').bind F := nt_ob fun _ => sub_nt u fun _ => h _
theorem rdRows_nt {u : Ty} {t : TypeId} {l : List u.den} {i j : Nat} (h : ∀ x, k x = (k' x).bind F) : rdRows P t u l i j k = (rdRows P t u l i j k').bind F := by
  unfold rdRows
  split
  · exact nt_bq (nt_need (h _)) (nt_bind fun _ => rdRow_nt h)
  · exact nt_bind fun _ => rdRow_nt h
theorem rdVars_nt {t : TypeId} {c : List AV} {j : Nat} (h : ∀ x, k x = (k' x).bind F) : rdVars P t c j k = (rdVars P t c j k').bind F := nt_bq (nt_need (h _)) (nt_bq (nt_ob h) rfl)
theorem evLoad_nt {t : TypeId} {a : AV} (h : ∀ x, k x = (k' x).bind F) : evLoad P t a H k = (evLoad P t a H k').bind F := by
  unfold evLoad
  split
  · split
    · exact nt_bq (rdVars_nt h) rfl
    · exact nt_bq (rdRows_nt h) rfl
    · rfl
  · exact rdRows_nt h
  · rfl
theorem evPick_nt {t : TypeId} {c a b : AV} (h : ∀ x, k x = (k' x).bind F) : evPick P t c a b k = (evPick P t c a b k').bind F := by
  unfold evPick
  refine nt_ob fun q => ?_
  split
  · split
    · exact h _
    · exact nt_need (h _)
    · exact nt_need (h _)
    · rfl
  · exact nt_bq (h _) (h _)
theorem evBuild_nt {t : TypeId} {ps : List (Nat × AV)} (h : ∀ x, k x = (k' x).bind F) : evBuild P t ps k = (evBuild P t ps k').bind F := by
  unfold evBuild
  refine nt_ob fun q => ?_
  split
  · exact nt_ob fun _ => nt_ob fun _ => h _
  · exact nt_ob fun _ => nt_ob fun _ => h _
  · rfl
theorem evInt_nt {op : BinOp} {kk : IntKind} {a b : Int} (h : ∀ x, k x = (k' x).bind F) : evInt op kk a b k = (evInt op kk a b k').bind F := by
  unfold evInt
  split <;> first | exact h _ | exact nt_need (h _)
theorem evStr_nt {op : BinOp} {a b : List UInt8} (h : ∀ x, k x = (k' x).bind F) : evStr op a b k = (evStr op a b k').bind F := by
  unfold evStr
  split <;> first | exact h _ | exact nt_need (h _) | rfl
theorem evUn_nt {op : UnOp} {t : TypeId} {a : AV} (h : ∀ x, k x = (k' x).bind F) : evUn P op t a k = (evUn P op t a k').bind F := by
  unfold evUn
  split <;> first | exact nt_ob fun _ => h _ | rfl
theorem rowsOf_nt {u : Ty} {a : AV} {k : List u.den → Option β} {k' : List u.den → Option γ} (h : ∀ x, k x = (k' x).bind F) : rowsOf H u a k = (rowsOf H u a k').bind F := by
  unfold rowsOf
  split
  · exact nt_dq (fun _ => h _) (nt_dq (fun _ => nt_dq (fun _ => h _) rfl) (nt_ob h))
  · split
    · exact nt_dq (fun _ => nt_bq (h _) rfl) rfl
    · rfl
  · split
    · exact nt_dq (fun _ => nt_bq (h _) rfl) rfl
    · rfl
  · rfl
theorem evConvert_nt {s d : TypeId} {a : AV} (h : ∀ x, k x = (k' x).bind F) : evConvert P s d a H k = (evConvert P s d a H k').bind F := by
  unfold evConvert
  split
  · exact nt_ob fun _ => h _
  · exact nt_ob fun _ => h _
  · exact nt_bq (rowsOf_nt fun _ => h _) rfl
  · rfl
  · rfl
theorem ownRows_nt {es id : Nat} {k : (u : Ty) → List u.den → Option β} {k' : (u : Ty) → List u.den → Option γ} (h : ∀ u x, k u x = (k' u x).bind F) : ownRows H es id k = (ownRows H es id k').bind F := by
  unfold ownRows
  split
  · exact nt_bq (h _ _) rfl
  · rfl
theorem lenS_nt {a : AV} {k : Nat → Option β} {k' : Nat → Option γ} (h : ∀ x, k x = (k' x).bind F) : lenS H a k = (lenS H a k').bind F := by
  unfold lenS
  split
  · exact h _
  · exact ownRows_nt fun _ _ => h _
  · exact h _
  · exact h _
  · rfl
theorem lenM_nt {a : AV} {k : Nat → Option β} {k' : Nat → Option γ} (h : ∀ x, k x = (k' x).bind F) : lenM H a k = (lenM H a k').bind F := by
  unfold lenM
  split
  · exact h _
  · split
    · exact h _
    · rfl
  · rfl
theorem lenT_nt {t : TypeId} {a : AV} {k : Nat → Option β} {k' : Nat → Option γ} (h : ∀ x, k x = (k' x).bind F) : lenT P t H a k = (lenT P t H a k').bind F := by
  unfold lenT
  split
  · exact nt_ob fun _ => h _
  · exact lenS_nt h
  · exact lenM_nt h
  · exact h _
  · rfl
theorem evFieldAddr_nt {s : TypeId} {a : AV} {f : Nat} (h : ∀ x, k x = (k' x).bind F) : evFieldAddr P s a f k = (evFieldAddr P s a f k').bind F := by
  unfold evFieldAddr
  split <;> first | exact h _ | rfl
theorem optI_nt {a : Option AV} {d m : Nat} {k : Nat → Option β} {k' : Nat → Option γ} (h : ∀ x, k x = (k' x).bind F) : optI a d m k = (optI a d m k').bind F := by
  unfold optI
  split
  · exact h _
  · exact nt_ob fun _ => nt_bind h
theorem cutL_nt {α : Type} {l : List α} {lo hi : Option AV} {k : List α → Option β} {k' : List α → Option γ} (h : ∀ x, k x = (k' x).bind F) : cutL l lo hi k = (cutL l lo hi k').bind F := by
  unfold cutL
  split
  · exact h _
  · exact nt_ob fun _ => nt_bind fun _ => h _
  · exact nt_ob fun _ => nt_bind fun _ => h _
  · exact nt_ob fun _ => nt_bind fun _ => nt_ob fun _ => nt_bind fun _ => h _
theorem evSlice_nt {t : TypeId} {a : AV} {lo hi : Option AV} (h : ∀ x, k x = (k' x).bind F) : evSlice P t a lo hi H k = (evSlice P t a lo hi H k').bind F := by
  unfold evSlice
  split
  · exact nt_ob fun _ => cutL_nt fun _ => h _
  · split
    · refine nt_bq ?_ rfl
      split
      · exact h _
      · exact ownRows_nt fun _ _ => optI_nt fun _ => optI_nt fun _ => h _
    · exact nt_bq (optI_nt fun _ => optI_nt fun _ => h _) rfl
    · exact nt_bq (cutL_nt fun _ => h _) rfl
    · exact nt_need (optI_nt fun _ => optI_nt fun _ => h _)
    · rfl
  · split
    · refine nt_bq (ownRows_nt fun _ _ => nt_need ?_) rfl
      split
      · exact h _
      · exact optI_nt fun _ => optI_nt fun _ => h _
    · exact nt_bq (cutL_nt fun _ => h _) rfl
    · rfl
  · rfl
theorem evIndex_nt {t : TypeId} {a ix : AV} (h : ∀ x, k x = (k' x).bind F) : evIndex P t a ix k = (evIndex P t a ix k').bind F := by
  unfold evIndex
  refine nt_ob fun x => ?_
  split
  · exact nt_ob fun _ => nt_bind fun _ => nt_bind fun _ => h _
  · exact nt_ob fun _ => asA_nt fun _ => nt_bind fun _ => nt_bind fun _ => h _
  · rfl
theorem evIndexAddr_nt {t : TypeId} {a ix : AV} (h : ∀ x, k x = (k' x).bind F) : evIndexAddr P t a ix H k = (evIndexAddr P t a ix H k').bind F := by
  unfold evIndexAddr
  refine nt_ob fun x => ?_
  split
  · refine nt_need ?_
    split <;> first | rfl | exact nt_bq (nt_bind fun _ => h _) (nt_bind fun _ => h _)
  · refine nt_need ?_
    split
    · exact nt_bq (ownRows_nt fun _ _ => nt_bind fun _ => h _) rfl
    · exact nt_bq (nt_bind fun _ => h _) rfl
    · exact nt_bq (nt_bind fun _ => h _) rfl
    · rfl
  · rfl
theorem evField_nt {s : TypeId} {a : AV} {f : Nat} (h : ∀ x, k x = (k' x).bind F) : evField P s a f k = (evField P s a f k').bind F := by
  unfold evField
  split
  · exact nt_bq (nt_need (h _)) (nt_bq (nt_ob h) rfl)
  · exact nt_bq (rdRow_nt h) rfl
  · rfl
theorem fchain_nt {kt : Ty} {x : kt.den} {k : Option AV → Option β} {k' : Option AV → Option γ} (h : ∀ x, k x = (k' x).bind F) : ∀ l : List (kt.den × AV), fchain l x k = (fchain l x k').bind F
  | [] => h _
  | (_, _) :: r => nt_bq (h _) (fchain_nt h r)
theorem evLookup_nt {t : TypeId} {m ix : AV} {c : Bool} (h : ∀ x, k x = (k' x).bind F) : evLookup P t m ix c H k = (evLookup P t m ix c H k').bind F := by
  unfold evLookup
  split
  · split
    · exact nt_need (asA_nt fun _ => h _)
    · refine nt_need (asA_nt fun _ => fchain_nt (fun r => ?_) _)
      split <;> exact h _
    · rfl
  · split
    · exact nt_ob fun _ => nt_ob fun _ => nt_need (asA_nt fun _ => h _)
    · rfl
  · rfl
theorem evEq_nt {t : TypeId} {a b : AV} {k : Bool → Option β} {k' : Bool → Option γ} (hn : natBin P t = true) (h : ∀ x, k x = (k' x).bind F) : evEq P t a b H k = (evEq P t a b H k').bind F := by
  unfold evEq
  split
  · exact nt_ob h
  · exact nt_ob h
  · exact nt_ob h
  · rename_i e he; simp [natBin, he] at hn
  · exact nt_ob fun _ => nt_need (asA_nt fun _ => asA_nt fun _ => h _)
theorem evBin_nt {op : BinOp} {t u : TypeId} {a b : AV} (hn : natBin P t = true) (h : ∀ x, k x = (k' x).bind F) : evBin P op t u a b H k = (evBin P op t u a b H k').bind F := by
  unfold evBin
  split
  · split
    · exact nt_ob fun _ => nt_ob fun _ => nt_need (evInt_nt h)
    · rfl
  · exact nt_ob fun _ => nt_ob fun _ => evStr_nt h
  · split
    · exact evEq_nt hn fun _ => h _
    · exact evEq_nt hn fun _ => h _
    · rfl
theorem evR_nt {o : Oper} {r : Operand → AV} (hn : natR P o = true) (h : ∀ x, k x = (k' x).bind F) : evR P o r H k = (evR P o r H k').bind F := by
  unfold evR
  unfold natR at hn
  split
  · exact h _
  · exact h _
  · exact evPick_nt h
  · exact evBuild_nt h
  · exact evLoad_nt h
  · split <;> first | exact h _ | rfl
  · rename_i ho
    rw [ho] at hn
    exact evBin_nt hn h
  · exact evLookup_nt h
  · exact evUn_nt h
  · exact evConvert_nt h
  · exact h _
  · exact evSlice_nt h
  · exact evFieldAddr_nt h
  · exact evField_nt h
  · exact evIndexAddr_nt h
  · exact evIndex_nt h
  · exact nt_ob fun _ => nt_ob h
  · rename_i c ho
    rw [ho] at hn
    simp only at hn
    split
    · split
      · exact lenT_nt fun _ => h _
      · rfl
    · rename_i hc; rw [hc] at hn; cases hn
    · split
      · refine nt_ob fun l => ?_
        split
        · exact h _
        · rfl
      · rfl
    · split
      · refine nt_ob fun l => ?_
        split
        · exact h _
        · rfl
      · rfl
    · rfl
  · rfl
end

section
variable {k : AV → Hp → Option β} {k' : AV → Hp → Option γ}
theorem newAt_nt {id : Nat} {b : Blk} {k : Hp → Option β} {k' : Hp → Option γ} (h : ∀ H, k H = (k' H).bind F) : newAt H id b k = (newAt H id b k').bind F := nt_bq rfl (h _)
theorem evAlloc_nt {t : TypeId} {id : Nat} (h : ∀ x H, k x H = (k' x H).bind F) : evAlloc P t id H k = (evAlloc P t id H k').bind F := by
  unfold evAlloc
  split
  · exact nt_ob fun _ => nt_need (newAt_nt fun _ => h _ _)
  · exact nt_ob fun _ => newAt_nt fun _ => h _ _
theorem evBox_nt {t : TypeId} {v : AV} {id : Nat} (h : ∀ x H, k x H = (k' x H).bind F) : evBox P t v id H k = (evBox P t v id H k').bind F := by
  unfold evBox
  split
  · exact nt_ob fun _ => nt_ob fun _ => asA_nt fun _ => nt_need (newAt_nt fun _ => h _ _)
  · exact nt_ob fun _ => newAt_nt fun _ => h _ _
theorem wrRows_nt {t e : TypeId} {u : Ty} {l : List u.den} {i j id : Nat} {v : AV} (h : ∀ x H, k x H = (k' x H).bind F) : wrRows P t e u l i j id v H k = (wrRows P t e u l i j id v H k').bind F := by
  unfold wrRows
  split
  · exact nt_bq (nt_need (asA_nt fun _ => nt_need (h _ _))) (asA_nt fun _ => nt_bind fun _ => upd_nt _ fun _ => h _ _)
  · exact asA_nt fun _ => nt_bind fun _ => upd_nt _ fun _ => h _ _
  · rfl
theorem evStore_nt {t : TypeId} {a v : AV} (h : ∀ x H, k x H = (k' x H).bind F) : evStore P t a v H k = (evStore P t a v H k').bind F := by
  unfold evStore
  split
  · split
    · exact nt_ob fun _ => nt_need (h _ _)
    · exact nt_bq (nt_ob fun _ => nt_need (wrRows_nt h)) rfl
    · rfl
  · rfl
theorem evConvertW_nt {s d : TypeId} {a : AV} {id : Nat} (h : ∀ x H, k x H = (k' x H).bind F) : evConvertW P s d a id H k = (evConvertW P s d a id H k').bind F := by
  unfold evConvertW
  split
  · exact nt_bq (nt_ob fun _ => nt_need (newAt_nt fun _ => h _ _)) rfl
  · split
    · split
      · exact nt_bq (nt_need (h _ _)) rfl
      · rfl
    · rfl
  · rfl
theorem evMake_nt {t : TypeId} {l c : AV} {id : Nat} (h : ∀ x H, k x H = (k' x H).bind F) : evMake P t l c id H k = (evMake P t l c id H k').bind F := by
  unfold evMake
  split
  · exact nt_ob fun _ => nt_ob fun _ => nt_bind fun _ => nt_bind fun _ => nt_ob fun _ => nt_need (newAt_nt fun _ => h _ _)
  · rfl
theorem evMakeMap_nt {t : TypeId} {q : Option AV} {id : Nat} (h : ∀ x H, k x H = (k' x H).bind F) : evMakeMap P t q id H k = (evMakeMap P t q id H k').bind F := by
  unfold evMakeMap
  split
  · exact nt_ob fun _ => nt_need (nt_bq (newAt_nt fun _ => h _ _) (nt_ob fun _ => newAt_nt fun _ => h _ _))
  · rfl
theorem evMapUpd_nt {t : TypeId} {m key x : AV} (h : ∀ x H, k x H = (k' x H).bind F) : evMapUpd P t m key x H k = (evMapUpd P t m key x H k').bind F := by
  unfold evMapUpd
  split
  · split
    · exact nt_need (asA_nt fun _ => nt_need (nt_ob fun _ => nt_need (h _ _)))
    · refine nt_ob fun _ => ?_
      split
      · exact nt_need (asA_nt fun _ => asA_nt fun _ => h _ _)
      · rfl
  · rfl
theorem evMapEntry_nt {t : TypeId} {m key : AV} (h : ∀ x H, k x H = (k' x H).bind F) : evMapEntry P t m key H k = (evMapEntry P t m key H k').bind F := by
  unfold evMapEntry
  split
  · split
    · exact nt_need (asA_nt fun _ => h _ _)
    · rfl
  · rfl
theorem evEntryStore_nt {m s x : AV} (h : ∀ x H, k x H = (k' x H).bind F) : evEntryStore m s x H k = (evEntryStore m s x H k').bind F := by
  unfold evEntryStore
  split
  · refine nt_ob fun _ => ?_
    split
    · exact nt_ob fun _ => asA_nt fun _ => nt_bind fun _ => h _ _
    · rfl
  · rfl
theorem evDelete_nt {t : TypeId} {m key : AV} (h : ∀ x H, k x H = (k' x H).bind F) : evDelete P t m key H k = (evDelete P t m key H k').bind F := by
  unfold evDelete
  split
  · split
    · exact nt_need (asA_nt fun _ => h _ _)
    · rfl
  · rfl
theorem evBuildSlice_nt {t : TypeId} {n : Nat} {ps : List (Nat × AV)} {id : Nat} (h : ∀ x H, k x H = (k' x H).bind F) : evBuildSlice P t n ps id H k = (evBuildSlice P t n ps id H k').bind F := by
  unfold evBuildSlice
  split
  · exact nt_ob fun _ => nt_ob fun u => nt_need (nt_ob fun _ => nt_ob fun _ => asmN_nt (fa := asm u) (fb := asm u) (fun c _ _ h => asm_nt u (cs := c) h) _ _ _ fun _ => newAt_nt fun _ => h _ _)
  · rfl
theorem evAppend_nt {t : TypeId} {s x : AV} {id : Nat} (h : ∀ x H, k x H = (k' x H).bind F) : evAppend P t s x id H k = (evAppend P t s x id H k').bind F := by
  unfold evAppend
  split
  · refine nt_ob fun _ => rowsOf_nt fun _ => ?_
    split
    · exact nt_need (newAt_nt fun _ => h _ _)
    · split
      · exact nt_dq (fun _ => nt_need (newAt_nt fun _ => h _ _)) rfl
      · rfl
    · split
      · exact nt_dq (fun _ => nt_need (newAt_nt fun _ => h _ _)) rfl
      · rfl
    · rfl
  · rfl
theorem evAppendZ_nt {t : TypeId} {s x : AV} {id : Nat} (h : ∀ x H, k x H = (k' x H).bind F) : evAppendZ P t s x id H k = (evAppendZ P t s x id H k').bind F := by
  unfold evAppendZ
  split
  · refine nt_ob fun _ => nt_need (nt_ob fun _ => nt_bind fun _ => ?_)
    split
    · exact nt_need (newAt_nt fun _ => h _ _)
    · rfl
  · rfl
theorem evCopy_nt {t : TypeId} {s x : AV} (h : ∀ x H, k x H = (k' x H).bind F) : evCopy P t s x H k = (evCopy P t s x H k').bind F := by
  unfold evCopy
  split
  · refine nt_ob fun _ => rowsOf_nt fun _ => ?_
    split
    · split
      · exact nt_dq (fun _ => nt_need (h _ _)) rfl
      · rfl
    · split
      · exact nt_dq (fun _ => nt_need (h _ _)) rfl
      · rfl
    · rfl
  · rfl
theorem OutS.on_nt : ∀ {l : List Shp} {x : OutS l} {k : (s : Shp) → s.D → Option β} {k' : (s : Shp) → s.D → Option γ}, (∀ s t, k s t = (k' s t).bind F) → OutS.on l x k = (OutS.on l x k').bind F
  | [], x, _, _, _ => Empty.elim x
  | [s], x, k, k', h => h s x
  | s :: t :: r, .inl y, k, k', h => h s y
  | s :: t :: r, .inr y, k, k', h => OutS.on_nt (l := t :: r) (x := y) h
mutual
theorem co_nt : (q : Kd) → {r : List Ty} → {a : AV} → {x : HL r} → {k : HL (q.lv r) → Option β} → {k' : HL (q.lv r) → Option γ} → (∀ y, k y = (k' y).bind F) → co q r a x k = (co q r a x k').bind F
  | .p t, r, a, x, k, k', h => asA_nt (u := t) (k := fun y => k (y, x)) (k' := fun y => k' (y, x)) fun y => h _
  | .pt t, r, a, x, k, k', h => nt_ob fun _ => h _
  | .own es id i j, r, a, x, k, k', h => nt_need (h _)
  | .ownx es id j, r, a, x, k, k', h => nt_ob fun _ => h _
  | .sl es id, r, a, x, k, k', h => nt_ob fun _ => h _
  | .slf es id, r, a, x, k, k', h => nt_need (h _)
  | .mp id, r, a, x, k, k', h => nt_need (h _)
  | .any, r, a, x, k, k', h => h _
  | .fn f ka kc, r, a, x, k, k', h => nt_ob fun _ => nt_need (coL_nt kc fun _ => coL_nt ka h)
  | .agg l, r, a, x, k, k', h => nt_ob fun _ => nt_need (coL_nt l h)
  | .tup l, r, a, x, k, k', h => nt_ob fun _ => nt_need (coL_nt l h)
  | .nilp v, r, a, x, k, k', h => nt_need (h _)
theorem coL_nt : (q : KdL) → {r : List Ty} → {c : List AV} → {x : HL r} → {k : HL (q.lv r) → Option β} → {k' : HL (q.lv r) → Option γ} → (∀ y, k y = (k' y).bind F) → coL q r c x k = (coL q r c x k').bind F
  | .nil, r, c, x, k, k', h => h _
  | .cons q l, r, c, x, k, k', h => coL_nt l fun _ => co_nt q h
end
theorem coB_nt {q : BKd} {r : List Ty} {b : Blk} {x : HL r} {k : HL (q.lv r) → Option β} {k' : HL (q.lv r) → Option γ} (h : ∀ y, k y = (k' y).bind F) : coB q r b x k = (coB q r b x k').bind F := by
  cases q with
  | vars l => exact nt_ob fun _ => coL_nt l h
  | rows e t => exact nt_ob fun _ => h _
  | map kt vt => exact nt_ob fun _ => h _
theorem coH_nt : (hs : HK) → {r : List Ty} → {x : HL r} → {k : HL (hkLv hs r) → Option β} → {k' : HL (hkLv hs r) → Option γ} → (∀ y, k y = (k' y).bind F) → coH hs r H x k = (coH hs r H x k').bind F
  | [], r, x, k, k', h => h _
  | (_, _, q) :: l, r, x, k, k', h => nt_ob fun _ => coH_nt l fun _ => coB_nt h
theorem Shp.co_nt {s : Shp} {vs : List AV} {k : s.D → Option β} {k' : s.D → Option γ} (h : ∀ y, k y = (k' y).bind F) : s.co vs H k = (s.co vs H k').bind F :=
  nt_need (coH_nt s.hs fun _ => coL_nt s.ks fun _ => h _)
theorem Shp.rco_nt {s : Shp} {vs : List AV} {ps : List (Nat × Nat)} {k : s.D → Option β} {k' : s.D → Option γ} (h : ∀ y, k y = (k' y).bind F) : s.rco vs H ps k = (s.rco vs H ps k').bind F :=
  nt_need (Shp.co_nt h)
theorem evCall_nt {e : FnT} {args : List AV} {an : Ann} (h : ∀ x H, k x H = (k' x H).bind F) : evCall P e args an H k = (evCall P e args an H k').bind F := by
  unfold evCall
  exact nt_ob fun _ => nt_need (Shp.rco_nt fun _ => nt_bind fun _ => OutS.on_nt fun _ _ => nt_need (h _ _))
theorem evW_nt {T : Tbl} {o : Oper} {an : Ann} {r : Operand → AV} (h : ∀ x H, k x H = (k' x H).bind F) : evW P T o an r H k = (evW P T o an r H k').bind F := by
  unfold evW
  split
  · exact evAlloc_nt h
  · exact evBox_nt h
  · exact evBuildSlice_nt h
  · exact evStore_nt h
  · split
    · exact evConvert_nt fun _ => h _ _
    · exact evConvertW_nt h
  · exact evMake_nt h
  · exact evMakeMap_nt h
  · exact evMapUpd_nt h
  · exact evMapUpd_nt h
  · exact evMapEntry_nt h
  · exact evEntryStore_nt h
  · split
    · split
      · split
        · exact evAppendZ_nt h
        · exact evAppend_nt h
        · exact evAppend_nt h
        · rfl
      · rfl
    · split
      · exact evCopy_nt h
      · rfl
    · split
      · exact evDelete_nt h
      · rfl
    · refine nt_ob fun _ => ?_
      split
      · exact nt_bq (evCall_nt h) rfl
      · rfl
    · rfl
  · rfl
/-- What is done with what is yielded. -/
theorem evR_ret {o : Oper} {r : Operand → AV} {k : AV → Option β} {res : β} (hn : natR P o = true) (h : evR P o r H k = some res) : ∃ x, evR P o r H some = some x ∧ k x = some res := by
  have e : evR P o r H k = (evR P o r H some).bind k := evR_nt hn fun _ => rfl
  exact Option.bind_eq_some_iff.1 (e ▸ h)
theorem evW_ret {T : Tbl} {o : Oper} {an : Ann} {r : Operand → AV} {k : AV → Hp → Option β} {res : β} (h : evW P T o an r H k = some res) : ∃ x H', evW P T o an r H (fun x H' => some (x, H')) = some (x, H') ∧ k x H' = some res := by
  have e : evW P T o an r H k = (evW P T o an r H fun x H' => some (x, H')).bind fun p => k p.1 p.2 := evW_nt fun _ _ => rfl
  obtain ⟨⟨x, H'⟩, h1, h2⟩ := Option.bind_eq_some_iff.1 (e ▸ h)
  exact ⟨x, H', h1, h2⟩
end
end
end Go.Ab
