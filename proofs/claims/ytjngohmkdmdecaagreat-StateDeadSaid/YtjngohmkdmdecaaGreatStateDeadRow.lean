/- StateDead: No stripe is of two files, or of a file and dead; a stripe that was let go is dead till it is mended; numbers of stripes are never used again. For every input that can be read as data, in whatever memory, the call returns true; each argument reads behind it as it read before. -/
import Derived.Test.YtjngohmkdmdecaaGreatRows
import Derived.Test.YtjngohmkdmdecaaGreatStateDeadD5
import Derived.Test.YtjngohmkdmdecaaGreatStateDeadQ3
import Derived.Test.YtjngohmkdmdecaaGreatE4
set_option linter.all false
namespace Go.Proofs.YtjngohmkdmdecaaGreat
open Go.ChangeShapes Go.WideShapes Go.ChangeAt Go.RowKit Go.Ab
theorem stateDead_own:ownKnob Tryz.prog.godebug=none:=by kernel_rfl
theorem stateDead_laid:laidOutB Tryz.prog=true:=by kernel_rfl
theorem stateDead_reads:∀t∈Tryz.f6.params.toList,Tryz.prog.readableRec t=true/\t<Tryz.prog.types.size:=by
 rw[Tryz.params6]
 intro t ht
 simp only[List.mem_cons,List.mem_nil_iff,or_false] at ht
 rcases ht with rfl|rfl
 all_goals exact⟨by kernel_rfl,of_decide_eq_true (by kernel_rfl)⟩
set_option maxRecDepth 100000 in
theorem stateDead_lifted(os:Os)(started:os.Started)(H:Type)(enc:TypeId×Value->H):
 ReturnsInHanded {} Tryz.checked os 6 .any (Rows.stateDeadSpec.pre6 enc Tryz.prog Tryz.f6 Rows.stateDeadRow.domain false) (Rows.stateDeadSpec.post enc Tryz.prog Tryz.f6 false true false false):=by
 refine returnsInHanded_of_change (C:=Tryz.checked) stateDead_own started (by kernel_rfl) Tryz.func6
  (ChangeSpec.witness6 (enc:=enc) (C:=Tryz.checked) false ⟨#[],#[(.int .i64 0),(.slice none 0 0)],[]⟩ 8 (by kernel_rfl) (by kernel_rfl) (by kernel_rfl) (by kernel_rfl)) ?_
 intro W base args ds gs before hval0 hW hcnd _
 have hval:∀(j:Nat) t v,Tryz.f6.params[j]? =some t->args[j]? =some v->Value.okWide Tryz.prog W .any base t v:=hval0
 have hW':=hW
 obtain⟨p,q,hA0,hV,rfl,hfz,hnd⟩:=hW
 have hA:DataW.TrodAll enc Tryz.prog W 0 (fun _=>true) true Tryz.f6.params.toList args.toList ds p:=hA0
 rw[Tryz.params6] at hA hval
 obtain⟨v0,vs0,d0,ds0,p0,q0,hargs,rfl,rfl,h0,r0⟩:=trodAll_cons hA
 obtain⟨v1,vs1,d1,ds1,p1,q1,rfl,rfl,rfl,h1,r1⟩:=trodAll_cons r0
 obtain⟨rfl,rfl,rfl⟩:=trodAll_nil r1
 obtain rfl:args=#[v0,v1]:=by cases args;simp_all
 obtain⟨x0,hx0,k0⟩:=trod_v (n:=20) (u:=(.int .i64)) (by kernel_rfl) (by kernel_rfl) (hval 0 _ v0 rfl rfl) h0
 obtain⟨x1,hx1,k1⟩:=trod_v (n:=20) (u:=(.sl (.pair (.pair (.int .i64) (.pair (.int .i64) (.pair .byte (.pair (.pair (.int .i64) (.int .i64)) (.pair .str (.pair (.pair (.int .i64) (.int .i64)) (.pair .str (.pair (.int .i64) (.pair (.int .i64) (.sl .byte)))))))))) (.pair (.int .i64) (.int .i64))))) (by kernel_rfl) (by kernel_rfl) (hval 1 _ v1 rfl rfl) h1
 obtain⟨rfl,rfl⟩:=trodVars_none hV
 refine(law_of_told (w:=W) ⟨_,_,Tryz.func6,rfl,by kernel_rfl⟩ (Go.Ab.D.law25_StateDead_told aB) (t:=(x0,x1)) (Go.Ab.D.law25_StateDead_true x0 x1 k0 k1) (.cons (.p _ _ _ hx0) (.cons (.p _ _ _ hx1) .nil))).mono fun e W' ⟨he,hb⟩=> ?_
 subst he
 exact⟨_,rfl,Go.Ab.law_post stateDead_laid Tryz.underlying4 rfl stateDead_reads rfl ⟨rfl,rfl,rfl⟩ hW' hb⟩
theorem stateDead_holds:Rows.StateDeadSaid:=
 OpenClaim.holds_of_wide 6 Tryz.f6 rfl rfl rfl rfl rfl rfl rfl ⟨rfl,rfl,rfl,rfl,rfl⟩ rfl rfl rfl rfl rfl (by kernel_rfl) Tryz.func6 (by kernel_rfl)
  (of_decide_eq_true (by kernel_rfl)) (by unfold Func.isWrapper;first|(rw[if_pos (by decide+kernel)];kernel_rfl)|(rw[if_neg (by decide+kernel)];exact⟨rfl,rfl⟩))
  (fun os started H enc _=>stateDead_lifted os started H enc)
end Go.Proofs.YtjngohmkdmdecaaGreat
