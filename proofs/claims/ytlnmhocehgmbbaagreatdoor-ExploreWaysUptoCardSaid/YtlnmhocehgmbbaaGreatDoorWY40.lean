/-
  Proved: the law ExploreWays returns true for every input whose bulk is at most the row's bound, with the listed package-level tables as the program's text lays them (tied to it: the card), and the argument reads behind the call as it read before. Conditions: the row's own bound on the bulk of what is read (the second form, '..UptoCardSaid').
-/
import Derived.Test.YtlnmhocehgmbbaaGreatDoorWY39
import Derived.Test.YtlnmhocehgmbbaaGreatDoorCards
import Derived.Test.YtlnmhocehgmbbaaGreatDoorTie
import Derived.Lay
set_option linter.all false
set_option maxRecDepth 1000000
namespace Go.Proofs.YtlnmhocehgmbbaaGreatDoor
open Go.ChangeShapes Go.WideShapes Go.ChangeAt Go.RowKit
section
variable {H:Type} {enc:TypeId×Value→H} {P:Program}
theorem shut_bool {W:World} {b0:Nat} {sp:Nat→Bool} {held:Bool} {t:TypeId} (ht:P.underlying t=some .bool) (b:Bool):DataW.Trod enc P W b0 sp held t (.bool b) (.lit (.bool b)) []:=⟨1,by simp [DataW.trod,Value.cells,ht]⟩
end
theorem gPow:Tryz.prog.globalNamed "internal/strconv.uint64pow10" = some 0:=by kernel_rfl
theorem gPowType:(Tryz.prog.globals[0]?).map (·.type)=some 226:=by kernel_rfl
theorem cellsPow:Tryz.prog.cellsOf 226=20:=by kernel_rfl
theorem laidPow:(Rows.laid_internal_strconv_uint64pow10:DataW Unit)=Lib.tabData .u64 Lib.pow10Tab:=by
 simp [Rows.laid_internal_strconv_uint64pow10,Lib.tabData,Lib.pow10Tab,List.range_succ]
theorem laid_tab {W:World} (h:laidMetH Tryz.prog Rows.exploreWaysUptoRow.laid W):TabW W:=by
 rw [MakeChecks.laidMetH_plain _ _ _ (by kernel_rfl)] at h
 have h1:laidMet Tryz.prog [("math/bits.deBruijn32tab",Rows.laid_math_bits_deBruijn32tab),("math/bits.deBruijn64tab",Rows.laid_math_bits_deBruijn64tab),("internal/strconv.uint64pow10",Rows.laid_internal_strconv_uint64pow10)] W:=h
 have h2:=h1.tail.tail
 rw [laidPow] at h2
 exact Lib.tabIs_of_head (rest:=[]) gPow gPowType zu226 zu22 cells_u64 cellsPow h2
theorem ways_contract (H:Type) (enc:TypeId×Value→H) (W:World) (base:Nat) (args:Array Value) (ds gs:List (DataW H)) (before:List MemPlace)
 (hval : ∀ (j:Nat) t v,Tryz.f4.params[j]?=some t→args[j]?=some v→Value.okWide Tryz.prog W .any base t v)
 (hW:DataW.Whole enc Tryz.prog Tryz.f4.params.toList Rows.exploreWaysSpec.vars false W args.toList ds gs before) (hL:laidMetH Tryz.prog Rows.exploreWaysUptoRow.laid W) :
 Calls Tryz.prog 4 args W fun e W'=>∃ v,e = .returned v∧Rows.exploreWaysSpec.post enc Tryz.prog Tryz.f4 false true false false W args v W':=by
 have hW':=hW
 obtain ⟨p,q,hA0,hV,rfl,hfz,hnd⟩:=hW
 have hA:DataW.TrodAll enc Tryz.prog W 0 (fun _=>true) true Tryz.f4.params.toList args.toList ds p:=hA0
 rw [Tryz.params4] at hA hval
 obtain ⟨v0,vs0,d0,ds0,p0,q0,hargs,rfl,rfl,h0,r0⟩:=trodAll_cons hA
 obtain ⟨rfl,rfl,rfl⟩:=trodAll_nil r0
 obtain rfl:args = #[v0]:=by cases args;simp_all
 obtain ⟨rfl,rfl⟩:=trodVars_none hV
 clear hA0 hA
 simp only [List.append_nil] at hW'
 have hlt : ∀ x∈p0,x.block<W.heap.size:=fun x hx=>hW'.lt x hx
 have k0:=h0
 obtain ⟨cs0,rfl,hsz0⟩:=okWide_struct zu64 (hval 0 64 v0 rfl rfl)
 obtain ⟨fu0,hf0⟩:=h0
 obtain ⟨ex,v,r,tv,q,l,mv,hv0,⟨hXR,hXV,hXU⟩,⟨hR,htv⟩,hM,hmv⟩:=open_search hf0
 simp only [Value.cells] at hv0
 obtain rfl:cs0=seA ex v r tv q mv:=Array.ext' hv0
 refine (lw_ways ex v r tv q l mv W hXR hXV hR htv hM hmv hXU (laid_tab hL)).mono fun e W' ⟨he,hg⟩=>?_
 subst he
 have hW2:DataW.Whole enc Tryz.prog Tryz.f4.params.toList Rows.exploreWaysSpec.vars false W #[Value.agg (seA ex v r tv q mv)].toList [d0] [] p0:=by simpa using hW'
 exact ⟨_,rfl,post_ext (ds:=[d0]) (gs:=[]) (pa:=p0++[]) (pv:=[]) hW2 (fun _ _ _=>trodAll_cons_mk (shut_bool zu4 _) trodAll_mk0)
  (fun sp hs=>trodAll_cons_mk (trod_ext prog_laid (by kernel_rfl) (of_decide_eq_true (by kernel_rfl)) k0 hg hlt (fun x hx=>hs x (by simpa using hx))) trodAll_mk0)
  (fun _ _=>rfl) (by simp) hg (ok_one (by kernel_rfl) rfl (okWide_bool_mk zu4 _))⟩
def wArgs:Array Value:=#[.agg #[.int .u64 0,.int .i64 0,.int .u64 0,.string { data:=#[] },.int .i64 0,.int .i64 0,.int .i64 0,.int .u64 0,.string { data:=#[] },.bool false,.int .i64 0,.int .u64 0,.string { data:=#[] },.int .i64 0,.int .i64 0,.int .i64 0,.int .u64 0,.string { data:=#[] },.bool false,.int .u64 0,.int .i64 0,.string { data:=#[] },.bool false,.bool false,.bool false,.slice none 0 0,.slice none 0 0,.bool false,.bool false,.int .i64 0,.int .i64 0,.int .i64 0,.int .i64 0,.int .i64 0,.int .i64 0,.slice none 0 0]]
theorem reads (os:Os) {H:Type} (enc:TypeId×Value→H) : ∃ places,DataW.whole enc Tryz.prog ((World.laidAll Tryz.prog os Rows.exploreWaysUptoRow.laid).forCall (fun _ _=>0) ⟨#[],wArgs,[]⟩).memory Tryz.f4.params.toList Rows.exploreWaysSpec.vars false wArgs.toList 20 =
 some ([.agg [.agg [.lit (.int .u64 0),.agg [.agg [.lit (.int .i64 0),.lit (.int .u64 0),.lit (.string []),.lit (.int .i64 0),.agg [.lit (.int .i64 0),.lit (.int .i64 0),.lit (.int .u64 0),.lit (.string []),.lit (.bool false)]],.agg [.lit (.int .i64 0),.lit (.int .u64 0),.lit (.string []),.lit (.int .i64 0),.agg [.lit (.int .i64 0),.lit (.int .i64 0),.lit (.int .u64 0),.lit (.string []),.lit (.bool false)]]],.agg [.lit (.int .u64 0),.lit (.int .i64 0),.lit (.string [])],.agg [.lit (.bool false),.lit (.bool false)],.lit (.bool false),.nil],.agg [.nil,.lit (.bool false),.lit (.bool false),.lit (.int .i64 0)],.agg [.agg [.lit (.int .i64 0),.lit (.int .i64 0)],.lit (.int .i64 0),.lit (.int .i64 0),.lit (.int .i64 0)],.nil]],[],places):=
 ⟨[],by kernel_rfl⟩
theorem laid_all (os:Os):laidMetH Tryz.prog Rows.exploreWaysUptoRow.laid ((World.laidAll Tryz.prog os Rows.exploreWaysUptoRow.laid).forCall (fun _ _=>0) ⟨#[],wArgs,[]⟩).memory:=by
 rw [MakeChecks.laidMetH_plain _ _ _ (by kernel_rfl)]
 exact laidMet_laidAll _ (by kernel_rfl) (by kernel_rfl)
theorem ways_lifted (os:Os) (started:os.Started) (H:Type) (enc:TypeId×Value→H) (F:Stop.Interp) :
 ReturnsInHanded {} Tryz.checked os 4 .any ((Rows.OpenSpec.upto Rows.exploreWaysSpec).preRow enc Tryz.prog Tryz.f4 Rows.exploreWaysUptoRow.domain false Rows.exploreWaysUptoRow.laid) (((Rows.OpenSpec.upto Rows.exploreWaysSpec).at F).post enc Tryz.prog Tryz.f4 false true false false):=by
 obtain ⟨places,hx⟩:=reads os enc
 refine returnsInHanded_of_row (C:=Tryz.checked) (s:=Rows.OpenSpec.upto Rows.exploreWaysSpec) prog_own started (by kernel_rfl) Tryz.func4
  (witness_row_at (enc:=enc) (C:=Tryz.checked) false (World.laidAll Tryz.prog os Rows.exploreWaysUptoRow.laid) wArgs (World.laidAll_os _ _ _) (by kernel_rfl) (by kernel_rfl) (by kernel_rfl)
    (OpenSpec.preRow_of_cond 20 hx (by kernel_rfl) (fun k hk=>by cases hk;kernel_rfl) (by kernel_rfl) (laid_all os))) ?_
 intro W base args ds gs before hval hW _ _ _ hL _ _
 exact ways_contract H enc W base args ds gs before hval hW hL
theorem ways_said:Rows.ExploreWaysUptoSaid:=
 OpenClaim.holds_of_cond 4 Tryz.f4 rfl rfl rfl rfl rfl rfl rfl ⟨rfl,rfl,rfl,rfl,rfl⟩ rfl rfl rfl rfl rfl (by kernel_rfl) Tryz.func4 (by kernel_rfl)
  (of_decide_eq_true (by kernel_rfl)) (by unfold Func.isWrapper;first|(rw [if_pos (by decide +kernel)];kernel_rfl)|(rw [if_neg (by decide +kernel)];exact ⟨rfl,rfl⟩))
  (fun os started H enc _ F=>by rw [OpenClaim.pre_eq_preRow];exact ways_lifted os started H enc F)
theorem ways_plain (f:FuncId) (fn:Func) (hf:Tryz.pinned.checked.prog.funcNamed "escrow/escrowlaw28.ExploreWays" = some f) (hfn:Tryz.pinned.checked.prog.funcs[f]?=some fn) :
 false=Tryz.pinned.checked.prog.looks []∧∀ (j:Nat) t,fn.params[j]?=some t→Tryz.pinned.checked.prog.wantsStandIn t=false:=by
 obtain rfl:f=4:=Option.some.inj ((show Tryz.prog.funcNamed "escrow/escrowlaw28.ExploreWays" = some 4 by kernel_rfl).symm.trans hf) |>.symm
 obtain rfl:fn=Tryz.f4:=(Option.some.inj (Tryz.func4.symm.trans hfn)).symm
 refine ⟨by kernel_rfl,fun j t ht=>?_⟩
 rw [Tryz.params4] at ht
 obtain rfl:t=64:=by simpa using Array.mem_of_getElem? ht
 exact (show Tryz.prog.wantsStandIn 64=false by kernel_rfl)
theorem explore_ways:Rows.ExploreWaysUptoCardSaid:=
 Claim7.holds_tied_plain_at .later [] _ _ _ _ ways_said (fun _ h=>by cases h) (by kernel_rfl) (fun _ h=>by cases h) exploreWaysUpto_row_tie rfl ⟨rfl,rfl⟩ (by kernel_rfl) rfl ways_plain (by kernel_rfl)
#print axioms explore_ways
end Go.Proofs.YtlnmhocehgmbbaaGreatDoor
