/-
  Proved: the law ExploreAll returns true for every input whose bulk is at most the row's bound, with the listed package-level tables as the program's text lays them (tied to it: the card), and the argument reads behind the call as it read before. Conditions: the row's own bound on the bulk of what is read (the second form, '..UptoCardSaid').
-/
import Derived.Test.YtlnmhocehgmbbaaGreatDoorAL38
import Derived.Test.YtlnmhocehgmbbaaGreatDoorCards
import Derived.Test.YtlnmhocehgmbbaaGreatDoorTie
import Derived.Lay
set_option linter.all false
set_option maxRecDepth 1000000
namespace Go.Proofs.YtlnmhocehgmbbaaGreatDoor
open Go.ChangeShapes Go.WideShapes Go.ChangeAt Go.RowKit
section
variable {H:Type} {enc:TypeId×Value→H} {P:Program}
theorem shut_bool {W:World} {b0:Nat} {sp:Nat→Bool} {held:Bool} {t:TypeId} (ht:P.underlying t=some .bool) (b:Bool):DataW.Trod enc P W b0 sp held t (.bool b) (.lit (.bool b)) []:=⟨1,by simp [DataW.trod,Value.cells,ht]⟩
end
theorem gPow:Tryz.prog.globalNamed "internal/strconv.uint64pow10" = some 0:=by kernel_rfl
theorem gPowType:(Tryz.prog.globals[0]?).map (·.type)=some 226:=by kernel_rfl
theorem cellsPow:Tryz.prog.cellsOf 226=20:=by kernel_rfl
theorem laidPow:(Rows.laid_internal_strconv_uint64pow10:DataW Unit)=Lib.tabData .u64 Lib.pow10Tab:=by
 simp [Rows.laid_internal_strconv_uint64pow10,Lib.tabData,Lib.pow10Tab,List.range_succ]
theorem laid_tab {W:World} (h:laidMetH Tryz.prog Rows.exploreAllUptoRow.laid W):TabW W:=by
 rw [MakeChecks.laidMetH_plain _ _ _ (by kernel_rfl)] at h
 have h1:laidMet Tryz.prog [("math/bits.deBruijn32tab",Rows.laid_math_bits_deBruijn32tab),("math/bits.deBruijn64tab",Rows.laid_math_bits_deBruijn64tab),("internal/strconv.uint64pow10",Rows.laid_internal_strconv_uint64pow10)] W:=h
 have h2:=h1.tail.tail
 rw [laidPow] at h2
 exact Lib.tabIs_of_head (rest:=[]) gPow gPowType zu226 zu22 cells_u64 cellsPow h2
theorem allL_contract (H:Type) (enc:TypeId×Value→H) (W:World) (base:Nat) (args:Array Value) (ds gs:List (DataW H)) (before:List MemPlace)
 (hval : ∀ (j:Nat) t v,Tryz.f3.params[j]?=some t→args[j]?=some v→Value.okWide Tryz.prog W .any base t v)
 (hW:DataW.Whole enc Tryz.prog Tryz.f3.params.toList Rows.exploreAllSpec.vars false W args.toList ds gs before) (hL:laidMetH Tryz.prog Rows.exploreAllUptoRow.laid W) :
 Calls Tryz.prog 3 args W fun e W'=>∃ v,e = .returned v∧Rows.exploreAllSpec.post enc Tryz.prog Tryz.f3 false true false false W args v W':=by
 have hW':=hW
 obtain ⟨p,q,hA0,hV,rfl,hfz,hnd⟩:=hW
 have hA:DataW.TrodAll enc Tryz.prog W 0 (fun _=>true) true Tryz.f3.params.toList args.toList ds p:=hA0
 rw [Tryz.params3] at hA hval
 obtain ⟨v0,v1,d0,d1,p0,p1,rfl,rfl,rfl,h0,h1⟩:=trodAll_two hA
 obtain ⟨rfl,rfl⟩:=trodVars_none hV
 clear hA0 hA
 have hlt : ∀ x∈p0++p1,x.block<W.heap.size:=fun x hx=>hW'.lt x (by simpa using hx)
 have k0:=h0
 have k1:=h1
 obtain ⟨cs0,rfl,hsz0⟩:=okWide_struct zu33 (hval 0 33 v0 rfl rfl)
 obtain ⟨cs1,rfl,hsz1⟩:=okWide_struct zu36 (hval 1 36 v1 rfl rfl)
 obtain ⟨fu0,hf0⟩:=h0
 obtain ⟨fu1,hf1⟩:=h1
 obtain ⟨ex,v,hv0,hXR,hXV,hXU⟩:=open_ex hf0
 obtain ⟨r,tv,hv1,hR,htv⟩:=open_range hf1
 simp only [Value.cells] at hv0 hv1
 obtain rfl:cs0=ex.arr v:=Array.ext' hv0
 obtain rfl:cs1=r.arr tv:=Array.ext' hv1
 refine (lw_all ex v r tv W hXR hXV hR htv hXU (laid_tab hL)).mono fun e W' ⟨he,hg⟩=>?_
 subst he
 exact ⟨_,rfl,post_ext (pa:=p0++p1) (pv:=[]) hW' (fun _ _ _=>trodAll_cons_mk (shut_bool zu4 _) trodAll_mk0)
  (fun sp hs=>trodAll_mk2 (trod_ext prog_laid (by kernel_rfl) (of_decide_eq_true (by kernel_rfl)) k0 hg (fun x hx=>hlt x (by simp [hx])) (fun x hx=>hs x (by simp [hx])))
    (trod_ext prog_laid (by kernel_rfl) (of_decide_eq_true (by kernel_rfl)) k1 hg (fun x hx=>hlt x (by simp [hx])) (fun x hx=>hs x (by simp [hx]))))
  (fun _ _=>rfl) rfl hg (ok_one (by kernel_rfl) rfl (okWide_bool_mk zu4 _))⟩
def wArgs:Array Value:=#[.agg #[.int .u64 0,.int .i64 0,.int .u64 0,.string { data:=#[] },.int .i64 0,.int .i64 0,.int .i64 0,.int .u64 0,.string { data:=#[] },.bool false,.int .i64 0,.int .u64 0,.string { data:=#[] },.int .i64 0,.int .i64 0,.int .i64 0,.int .u64 0,.string { data:=#[] },.bool false,.int .u64 0,.int .i64 0,.string { data:=#[] },.bool false,.bool false,.bool false,.slice none 0 0],.agg #[.slice none 0 0,.bool false,.bool false,.int .i64 0]]
theorem reads (os:Os) {H:Type} (enc:TypeId×Value→H) : ∃ places,DataW.whole enc Tryz.prog ((World.laidAll Tryz.prog os Rows.exploreAllUptoRow.laid).forCall (fun _ _=>0) ⟨#[],wArgs,[]⟩).memory Tryz.f3.params.toList Rows.exploreAllSpec.vars false wArgs.toList 20 =
 some ([.agg [.lit (.int .u64 0),.agg [.agg [.lit (.int .i64 0),.lit (.int .u64 0),.lit (.string []),.lit (.int .i64 0),.agg [.lit (.int .i64 0),.lit (.int .i64 0),.lit (.int .u64 0),.lit (.string []),.lit (.bool false)]],.agg [.lit (.int .i64 0),.lit (.int .u64 0),.lit (.string []),.lit (.int .i64 0),.agg [.lit (.int .i64 0),.lit (.int .i64 0),.lit (.int .u64 0),.lit (.string []),.lit (.bool false)]]],.agg [.lit (.int .u64 0),.lit (.int .i64 0),.lit (.string [])],.agg [.lit (.bool false),.lit (.bool false)],.lit (.bool false),.nil],.agg [.nil,.lit (.bool false),.lit (.bool false),.lit (.int .i64 0)]],[],places):=
 ⟨[],by kernel_rfl⟩
theorem laid_all (os:Os):laidMetH Tryz.prog Rows.exploreAllUptoRow.laid ((World.laidAll Tryz.prog os Rows.exploreAllUptoRow.laid).forCall (fun _ _=>0) ⟨#[],wArgs,[]⟩).memory:=by
 rw [MakeChecks.laidMetH_plain _ _ _ (by kernel_rfl)]
 exact laidMet_laidAll _ (by kernel_rfl) (by kernel_rfl)
theorem allL_lifted (os:Os) (started:os.Started) (H:Type) (enc:TypeId×Value→H) (F:Stop.Interp) :
 ReturnsInHanded {} Tryz.checked os 3 .any ((Rows.OpenSpec.upto Rows.exploreAllSpec).preRow enc Tryz.prog Tryz.f3 Rows.exploreAllUptoRow.domain false Rows.exploreAllUptoRow.laid) (((Rows.OpenSpec.upto Rows.exploreAllSpec).at F).post enc Tryz.prog Tryz.f3 false true false false):=by
 obtain ⟨places,hx⟩:=reads os enc
 refine returnsInHanded_of_row (C:=Tryz.checked) (s:=Rows.OpenSpec.upto Rows.exploreAllSpec) prog_own started (by kernel_rfl) Tryz.func3
  (witness_row_at (enc:=enc) (C:=Tryz.checked) false (World.laidAll Tryz.prog os Rows.exploreAllUptoRow.laid) wArgs (World.laidAll_os _ _ _) (by kernel_rfl) (by kernel_rfl) (by kernel_rfl)
    (OpenSpec.preRow_of_cond 20 hx (by kernel_rfl) (fun k hk=>by cases hk;kernel_rfl) (by kernel_rfl) (laid_all os))) ?_
 intro W base args ds gs before hval hW _ _ _ hL _ _
 exact allL_contract H enc W base args ds gs before hval hW hL
theorem allL_said:Rows.ExploreAllUptoSaid:=
 OpenClaim.holds_of_cond 3 Tryz.f3 rfl rfl rfl rfl rfl rfl rfl ⟨rfl,rfl,rfl,rfl,rfl⟩ rfl rfl rfl rfl rfl (by kernel_rfl) Tryz.func3 (by kernel_rfl)
  (of_decide_eq_true (by kernel_rfl)) (by unfold Func.isWrapper;first|(rw [if_pos (by decide +kernel)];kernel_rfl)|(rw [if_neg (by decide +kernel)];exact ⟨rfl,rfl⟩))
  (fun os started H enc _ F=>by rw [OpenClaim.pre_eq_preRow];exact allL_lifted os started H enc F)
theorem allL_plain (f:FuncId) (fn:Func) (hf:Tryz.pinned.checked.prog.funcNamed "escrow/escrowlaw28.ExploreAll" = some f) (hfn:Tryz.pinned.checked.prog.funcs[f]?=some fn) :
 false=Tryz.pinned.checked.prog.looks []∧∀ (j:Nat) t,fn.params[j]?=some t→Tryz.pinned.checked.prog.wantsStandIn t=false:=by
 obtain rfl:f=3:=Option.some.inj ((show Tryz.prog.funcNamed "escrow/escrowlaw28.ExploreAll" = some 3 by kernel_rfl).symm.trans hf) |>.symm
 obtain rfl:fn=Tryz.f3:=(Option.some.inj (Tryz.func3.symm.trans hfn)).symm
 refine ⟨by kernel_rfl,fun j t ht=>?_⟩
 rw [Tryz.params3] at ht
 have h2:t=33∨t=36:=by simpa using Array.mem_of_getElem? ht
 rcases h2 with rfl|rfl
 ·exact (show Tryz.prog.wantsStandIn 33=false by kernel_rfl)
 ·exact (show Tryz.prog.wantsStandIn 36=false by kernel_rfl)
theorem explore_all:Rows.ExploreAllUptoCardSaid:=
 Claim7.holds_tied_plain_at .later [] _ _ _ _ allL_said (fun _ h=>by cases h) (by kernel_rfl) (fun _ h=>by cases h) exploreAllUpto_row_tie rfl ⟨rfl,rfl⟩ (by kernel_rfl) rfl allL_plain (by kernel_rfl)
#print axioms explore_all
end Go.Proofs.YtlnmhocehgmbbaaGreatDoor
