/- depotlaw: EngineFollows answers true for every input of bulk at most 1048576 and turns nothing that was there. -/

import Derived.Test.YtmhjehodfggleaaGreatMTTrail
import Derived.Test.YtmhjehodfggleaaGreatMFolB
set_option linter.unusedVariables false
set_option linter.unusedSimpArgs false
set_option maxRecDepth 100000
namespace Go.Proofs.YtmhjehodfggleaaGreat.Eng
open Go Go.Proofs.YtmhjehodfggleaaGreat.Vc Go.Proofs.YtmhjehodfggleaaGreat.T Go.ChangeShapes Go.WideShapes Go.ChangeAt Go.RowKit
theorem engineFollows_lifted (os:Os) (started:os.Started) (H:Type) (enc:TypeId×Value→H) (F:Stop.Interp) :
  ReturnsInHanded {} Tryz.checked os 5 .any ((Rows.OpenSpec.upto Rows.engineFollowsSpec).pre6 enc Tryz.prog Tryz.f5 Rows.engineFollowsUptoRow.domain false) (((Rows.OpenSpec.upto Rows.engineFollowsSpec).at F).post enc Tryz.prog Tryz.f5 false true false false):=by
 refine row_upto (C:=Tryz.checked) (tb:=4) (by kernel_rfl) started (by kernel_rfl) Tryz.func5
  (OpenSpec.witness (enc:=enc) (C:=Tryz.checked) (s:=Rows.OpenSpec.upto Rows.engineFollowsSpec) (k:=Rows.uptoSmall) rfl false ⟨#[],#[.agg #[.int .i64 0,.slice none 0 0],.slice none 0 0,.slice none 0 0],[]⟩ 12 (by kernel_rfl) (by kernel_rfl) (by kernel_rfl)
   (x:=([.agg [.lit (.int .i64 0),.nil],.nil,.nil],[],[])) (by kernel_rfl) (by kernel_rfl) (by first | kernel_rfl | simp [Rows.uptoSmall,Rows.uptoBulkAll,Rows.uptoBulk]))
  (by kernel_rfl) (by kernel_rfl) rfl (by kernel_rfl) Tryz.underlying4 ?_ ?_
 ·intro ds hd
  match ds,hd with
  | [d0,d1,d2],_=>exact ⟨rfl,rfl,rfl⟩
 ·intro W base args ds ps hval hA hB
  have hA':DataW.TrodAll enc Tryz.prog W 0 (fun _=>true) true Tryz.f5.params.toList args.toList ds ps:=hA
  rw [Tryz.params5] at hA' hval
  obtain ⟨v0,vs0,d0,ds0,p0,q0,hargs,rfl,rfl,h0,r0⟩:=trodAll_cons hA'
  obtain ⟨v1,vs1,d1,ds1,p1,q1,rfl,rfl,rfl,h1,r1⟩:=trodAll_cons r0
  obtain ⟨v2,vs2,d2,ds2,p2,q2,rfl,rfl,rfl,h2,r2⟩:=trodAll_cons r1
  obtain ⟨rfl,rfl,rfl⟩:=trodAll_nil r2
  obtain rfl:args=#[v0,v1,v2]:=by cases args; simp_all
  have hv0:=hval 0 24 v0 rfl rfl
  have hb0:Rows.uptoBulk d0≤1048576:=Nat.le_trans (bulk_mem (by simp)) hB
  have hv1:=hval 1 65 v1 rfl rfl
  have hb1:Rows.uptoBulk d1≤1048576:=Nat.le_trans (bulk_mem (by simp)) hB
  have hv2:=hval 2 25 v2 rfl rfl
  have hb2:Rows.uptoBulk d2≤1048576:=Nat.le_trans (bulk_mem (by simp)) hB
  obtain ⟨nv,p,n,c,css,rfl,hnv,hC⟩:=form_of hv0 h0 hb0
  obtain ⟨mp,mn,mc,m,rfl,hmn,hm⟩:=bools_of hv1 h1 hb1
  obtain ⟨sp,sn,sc,xs,rfl,hsn,hS⟩:=ops_of hv2 h2 hb2
  exact lawFollows hC hmn hm hsn hS
theorem engineFollows_over:Rows.engineFollowsUptoRow.holds Tryz.pinned (Rows.OpenSpec.upto Rows.engineFollowsSpec):=
 OpenClaim.holds_of_cond 5 Tryz.f5 rfl rfl rfl rfl rfl rfl rfl ⟨rfl,rfl,rfl,rfl,rfl⟩ rfl rfl rfl rfl rfl (by kernel_rfl) Tryz.func5 (by kernel_rfl)
  (of_decide_eq_true (by kernel_rfl)) (by unfold Func.isWrapper; first | (rw [if_pos (by decide +kernel)]; kernel_rfl) | (rw [if_neg (by decide +kernel)]; exact ⟨rfl,rfl⟩))
  (fun os started H enc _ F=>engineFollows_lifted os started H enc F)
end Go.Proofs.YtmhjehodfggleaaGreat.Eng
namespace Go.Proofs.YtmhjehodfggleaaGreat
theorem engineFollows_holds:Rows.EngineFollowsUptoSaid:=Eng.engineFollows_over
end Go.Proofs.YtmhjehodfggleaaGreat
