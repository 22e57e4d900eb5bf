/- No condition. -/
import Derived.Test.YtlnmhocehgmbbaaGreatDoorWY22
import Derived.Test.YtlnmhocehgmbbaaGreatDoorWY23
import Derived.Test.YtlnmhocehgmbbaaGreatDoorWY24
set_option linter.all false
set_option maxRecDepth 100000
set_option maxHeartbeats 1600000
namespace Go.Proofs.YtlnmhocehgmbbaaGreatDoor
open Go.RowKit
attribute [local go_sem ↓] eql_lEq eql_sEq eql_eEq eql_oEq neq_lEq neq_sEq neq_eEq neq_oEq
attribute [local go_sem] ExtOf.cell ExtOf.frozen ExtOf.lt ExtOf.le
attribute [local go_sem high] ExtOf.cell2 ExtOf.frozen2 ExtOf.lt2 ExtOf.cell3 ExtOf.frozen3 ExtOf.lt3
theorem rf_lines0 (r c:Int) (t:ByteArray) (ph k f c2:Int) (t2:ByteArray) (fk:Bool) (w:World) (h2 : ¬ph=2) (h3 : ¬ph=3) (h4 : ¬ph=4) (h5 : ¬ph=5) :
 Calls Tryz.prog 102 #[.agg #[.int .i64 r,.int .u64 c,.string t,.int .i64 ph,.int .i64 k,.int .i64 f,.int .u64 c2,.string t2,.bool fk]] w (Lined w []):=by
 go_enter Tryz.func102,Tryz.ntmps102
 go_wp2_with fail
 refine (rf_signature _ _ _ _ _ _ _ _ _ _ _).mono ?_
 rintro e w1 ⟨rfl,hx1⟩
 have S1:=heap_ext (heap_ext (heap_new (w:=w) rfl) (zR.alloc _)) hx1
 have cs1:=zQ S1
 have ls1:w.heap.size<w1.heap.size:=zL S1
 have X1:Ext w w1:=((zR.alloc _).alloc _).trans hx1
 clear hx1 S1
 go_wp2_with fail
 go_ret
 exact ⟨.slice none 0 0,[],rfl,rfl,World.ownsRow_nil _ _ _ _,(fun i x u h=>by simp at h),X1.alloc _⟩
theorem rf_lines (r c:Int) (t:ByteArray) (ph k f c2:Int) (t2:ByteArray) (fk:Bool) (w:World) :
 Calls Tryz.prog 102 #[.agg #[.int .i64 r,.int .u64 c,.string t,.int .i64 ph,.int .i64 k,.int .i64 f,.int .u64 c2,.string t2,.bool fk]] w (Lined w (docL c t ph)):=by
 by_cases h2:ph=2
 ·subst h2;exact rf_lines2 _ _ _ _ _ _ _ _ _
 by_cases h3:ph=3
 ·subst h3;exact rf_lines3 _ _ _ _ _ _ _ _ _
 by_cases h4:ph=4
 ·subst h4;exact rf_lines4 _ _ _ _ _ _ _ _ _
 by_cases h5:ph=5
 ·subst h5;exact rf_lines5 _ _ _ _ _ _ _ _ _
 have e:docL c t ph=[]:=by unfold docL;rw [if_neg h2,if_neg h3,if_neg h4,if_neg h5]
 rw [e]
 exact rf_lines0 _ _ _ _ _ _ _ _ _ _ h2 h3 h4 h5
theorem docL_len (c:Int) (t:ByteArray) (ph:Int):(docL c t ph).length≤3:=by
 unfold docL
 repeat' split
 all_goals simp
theorem ln_at {w:World} {B:Nat} {L:List Ln} {vs:List Value} {v:Value} {i:Nat} {x:Ln} (h:w.ownsRow B 152 11 v L.length ((L.zip vs).flatMap fun p=>p.1.cs p.2)) (hl:vs.length=L.length) (hx:L[i]?=some x) :
 ∃ g cap u,v = .slice (some ⟨g,0,none⟩) L.length cap∧vs[i]?=some u∧g<w.heap.size∧L.length≤maxLen∧w.rangeAt g (i*11) (x.cs u):=by
 have hi:=zM hx
 obtain ⟨u,hu⟩ : ∃ u,vs[i]?=some u:=⟨_,zG (by omega)⟩
 obtain ⟨_,⟨_,h0⟩|⟨g,cap,cur,hv,hb,hg,hn,hm,hs,hc⟩⟩:=h
 ·omega
 have hp:(L.zip vs)[i]?=some (x,u):=by rw [List.getElem?_zip_eq_some];exact ⟨hx,hu⟩
 refine ⟨g,cap,u,hv,hu,(zL hg),by omega,fun j q hj=>?_⟩
 have hjl:j<11:=zM hj
 have h2:=flat_get (fun p:Ln×Value=>p.1.cs p.2) 11 (fun _=>rfl) (L.zip vs) i (x,u) hp j (by omega)
 rw [hj,←hc,List.getElem?_take_of_lt (by omega)] at h2
 rw [cell_of_row w g _ cur _ (0,0) hg]
 simpa using h2
theorem evs_doc (s:St):evsS s=if chkS s=true then (docL s.c s.t s.ph).map (·.E) else []:=by
 unfold evsS
 rcases hc:chkS s
 ·simp [waitS,hc]
 ·rw [if_pos rfl]
  have hd : ∀ ph:Int,(rowsS s.c s.t ph).map (evR s.c)=(docL s.c s.t ph).map (·.E):=fun ph=>by
   unfold rowsS docL
   repeat' split
   all_goals rfl
  by_cases hw:waitS s=true
  ·rw [if_pos hw];exact hd _
  ·rw [if_neg hw,←hd]
   have h1 : ¬(s.ph=2∨s.ph=3∨s.ph=4∨s.ph=5):=fun h=>hw (by
    unfold waitS finS
    rw [hc]
    rcases h with h|h|h|h<;>simp [h])
   unfold rowsS
   rw [if_neg (by omega),if_neg (by omega),if_neg (by omega),if_neg (by omega)]
   rfl
theorem info_evE (x:Ev):(Tryz.prog.info? 102).map (·.size)=some x.cs.length:=by
 rw [show x.cs.length=8 from rfl]
 kernel_rfl
theorem ln_E {w:World} {g o:Nat} {x:Ln} {u:Value} (h:w.rangeAt g o (x.cs u)):w.rangeAt g o x.E.cs:=fun j v hj=>h j v (by
 have hjl:j<8:=zM hj
 show (x.E.cs++[.int .i64 x.ph,u,.bool x.proof])[j]?=some v
 rw [List.getElem?_append_left (by exact hjl)]
 exact hj)
theorem rf_events (r c:Int) (t:ByteArray) (ph k f c2:Int) (t2:ByteArray) (fk:Bool) (w:World):Calls Tryz.prog 86 #[.agg #[.int .i64 r,.int .u64 c,.string t,.int .i64 ph,.int .i64 k,.int .i64 f,.int .u64 c2,.string t2,.bool fk]] w (Made w 102 8 (evsS ⟨r,c,t,ph,⟨k,f,c2,t2,fk⟩⟩).length ((evsS ⟨r,c,t,ph,⟨k,f,c2,t2,fk⟩⟩).flatMap Ev.cs)):=by
 obtain ⟨i0,hi,hz0,hz1,hz2⟩:=info_parts info_event
 rw [evs_doc]
 rcases hc:chk r c t ph k f c2 t2 fk
 case false=>
  rw [if_neg (by unfold chkS;rw [hc];simp)]
  go_enter Tryz.func86,Tryz.ntmps86
  go_wp2_with fail
  refine (rf_check _ _ _ _ _ _ _ _ _ _).mono ?_
  rw [hc]
  rintro e w1 ⟨rfl,hx1⟩
  go_wp2_with fail
  go_ret
  exact ⟨.slice none 0 0,rfl,World.ownsRow_nil _ _ _ _,(zR.alloc _).trans hx1⟩
 rw [if_pos (by unfold chkS;rw [hc])]
 have HC:=zd hc
 clear hc
 show Calls Tryz.prog 86 #[.agg #[.int .i64 r,.int .u64 c,.string t,.int .i64 ph,.int .i64 k,.int .i64 f,.int .u64 c2,.string t2,.bool fk]] w (Made w 102 8 ((docL c t ph).map (·.E)).length (((docL c t ph).map (·.E)).flatMap Ev.cs))
 have HLN:=zd (rf_lines r c t ph k f c2 t2 fk)
 have hl3:=docL_len c t ph
 rw [List.length_map]
 generalize docL c t ph=L at HLN hl3 ⊢
 go_enter Tryz.func86,Tryz.ntmps86
 go_wp2_with fail
 refine (rf_check _ _ _ _ _ _ _ _ _ _).mono ?_
 rw [HC.out]
 rintro e w1 ⟨rfl,hx1⟩
 have S1:=heap_ext (heap_new (w:=w) rfl) hx1
 have cs1:=zQ S1
 have ls1:w.heap.size<w1.heap.size:=zL S1
 have X1:Hid (Ext w w1):=zd ((zR.alloc _).trans hx1)
 clear hx1 S1
 go_wp2_with fail
 refine (HLN.out _).mono ?_
 rintro e w2 ⟨lv,vs,rfl,hvs,hrow,_,hx2⟩
 obtain ⟨la,lc,rfl⟩:=own_sl hrow
 have HROW:=zd hrow
 have HVS:=zd hvs
 have X2:Hid (Ext w w2):=zd (X1.out.trans hx2)
 clear hrow hx2 cs1 ls1 X1 hvs HLN
 go_wp2_with fail
 go_loopg [3,5] L.length (fun g t3 t5 wr=>∃ (i:Nat) (y:ExtOf w2),t5 = .int .i64 (i:Int)∧i+g=L.length∧wr=y.val∧Hid (wr.ownsRow w2.heap.size 102 8 t3 i (((L.take i).map (·.E)).flatMap Ev.cs)))
 case atStart=>exact ⟨0,⟨w2,zR⟩,rfl,by omega,rfl,zd (World.ownsRow_nil _ _ _ _)⟩
 case round=>
  obtain ⟨i,y,rfl,hg,rfl,HA⟩:=hrel
  by_cases hlt:i<L.length
  case neg=>
   have i1 : ¬(i:Int)<(L.length:Int):=by omega
   obtain ⟨aa,ac,hav⟩:=own_sl HA.out
   subst hav
   go_wp2_with fail
   go_ret
   have hA:=HA.out
   have hiL:i=L.length:=by omega
   rw [List.take_of_length_le (by omega),hiL] at hA
   rw [hiL]
   refine ⟨_,rfl,?_,X2.out.trans y.ext⟩
   exact own_base hA X2.out.size
  have i1:(i:Int)<(L.length:Int):=by omega
  obtain ⟨x,hx⟩ : ∃ x,L[i]?=some x:=⟨_,zG hlt⟩
  obtain ⟨g0,cap,u,hv,hu,hgl,hmx,hrg⟩:=ln_at HROW.out HVS.out hx
  cases hv
  unfold maxLen at hmx
  have HX:=zd hx
  have HRG:Hid (y.val.rangeAt g0 (i*11) x.E.cs):=zd fun j v hj=>cell_keep (ln_E hrg j v hj) y.ext
  have hyB:w2.heap.size≤y.val.heap.size:=y.ext.size
  clear hrg hx hu hgl
  go_wp2_with (first|((with_reducible refine wpList_load_midG 102 (.tmp 21) ?_ g0 (i*11) ?_ ?_ [.int .i64 x.E.k,.int .u64 x.E.c,.string x.E.t,.int .i64 x.E.l.k,.int .i64 x.E.l.f,.int .u64 x.E.l.c,.string x.E.l.t,.bool x.E.l.b] _ ?_ zu102 ?_ ?_ ?_);(·rfl);(·rfl);(·kernel_rfl);(·exact HRG.out);(·rfl);(·exact info_evE x.E))|(at_builtin;refine wpList_app6 w2.heap.size 140 102 i0 _ 8 80 zu140 hi hz0 hz1 hz2 rfl (by decide) rfl _ _ rfl _ i _ rfl (own_ext HA.out (zR.alloc _)) (zT hyB ((Ext.refl y.val).alloc _).size) y.val.heap.size 1 1 _ (by omega) rfl (heap_new rfl) rfl (by simp [Value.oneCell']) (by unfold maxLen;omega) (by omega) ?_;intro v2 w6 o6 b6 _ _))
  go_roundg (gk - 1)
  case rel=>
   refine ⟨i+1,⟨w6,(y.ext.alloc _).trans' b6⟩,by simp,by omega,rfl,zd ?_⟩
   rw [take_map (fun p:Ln=>p.E) HX.out,List.flatMap_append]
   exact o6
  case measure=>omega
end Go.Proofs.YtlnmhocehgmbbaaGreatDoor
namespace Go.Proofs.YtlnmhocehgmbbaaGreatDoor
open Go.RowKit
section
variable {P:Program} {md:Region.Mode} {ops:Array Oper}
def wpAnyT (P:Program) (md:Region.Mode) (ops:Array Oper) (t:Nat) (C:World→Prop) (Q:Exit→Act→World→Prop):Nat→Array Bool→Act→World→Prop
 | 0,listed,a,w=>Region.ready md ops listed=[]∧∀ w',Ext w w'→Q .normal a w'
 | n+1,listed,a,w=>∀ w',Ext w w'→((Region.ready md ops listed=[]→Q .normal a w')∧
  ∀ i∈Region.ready md ops listed,wpOp P ops (Quiets Q) i (fun a' w''=>((listed.setIfInBounds i true).getD t true=false→C w'')∧wpAnyT P md ops t C Q n (listed.setIfInBounds i true) a' w'') a w')
theorem wpAnyT_up {t:Nat} {C:World→Prop} {Q:Exit→Act→World→Prop} : ∀ (n:Nat) {l:Array Bool} {a:Act} {w w':World},wpAnyT P md ops t C Q n l a w→Ext w w'→wpAnyT P md ops t C Q n l a w'
 | 0,_,_,_,_,h,e=>⟨h.1,fun _ k=>h.2 _ (e.trans k)⟩
 | _+1,_,_,_,_,h,e=>fun _ k=>h _ (e.trans k)
theorem wpAny_of_T {t:Nat} {C:World→Prop} {Q:Exit→Act→World→Prop} : ∀ (n:Nat) (l:Array Bool) (a:Act) (w:World),wpAnyT P md ops t C Q n l a w→wpAny P md ops (Quiets Q) n l a w
 | 0,_,_,_,h=>⟨h.1,h.2 _ zR⟩
 | n+1,_,_,_,h=>⟨fun h0=>(h _ zR).1 h0,fun i hi=>wpOp_mono (fun a' w' h'=>wpAny_of_T n _ a' w' h'.2) ((h _ zR).2 i hi)⟩
theorem wpAnyT_first {t:Nat} {C:World→Prop} (hCE : ∀ w w',C w→Ext w w'→C w') {Q:Exit→Act→World→Prop} {i:Nat} {oi:Oper} {v:Value} (hi:ops[i]?=some oi)
 (hsel : ∀ (j:Nat) (o:Oper) cs b,ops[j]?=some o→o.op≠.select cs b) (hti:t≠i) (hwt : ∃ ot,ops[t]?=some ot∧∃ e∈ot.after,Region.binds md e=true∧e.on=i) :
 ∀ (n:Nat) (l:Array Bool) (a:Act) (w:World),
  (∀ j oj,ops[j]?=some oj→j≠i→l.getD j true=false→(∀ e∈oj.after,Region.binds md e=true→e.on≠i)→oi.apart ops oj=true)→
  i∈Region.ready md ops l→YieldsE P ops C oi v a→C w→l.getD t true=false→
  wpAnyT P md ops t C Q n (l.setIfInBounds i true) (a.put oi.dst v) w→wpAnyT P md ops t C Q (n+1) l a w:=by
 intro n
 induction n with
 | zero=>
  intro l a w _ hr hy hC ht0 H w' hw'
  refine ⟨fun h=>(by rw [h] at hr;cases hr),fun j hj=>?_⟩
  by_cases hji:j=i
  ·subst hji
   exact hy.wpOp hi (hCE _ _ hC hw') fun w'' hw''=>⟨fun _=>hCE _ _ (hCE _ _ hC hw') hw'',wpAnyT_up 0 H (hw'.trans hw'')⟩
  ·have:=ready_mono hj hji
   rw [H.1] at this
   cases this
 | succ n ih=>
  intro l a w hfree hr hy hC ht0 H w' hw'
  refine ⟨fun h=>(by rw [h] at hr;cases hr),fun j hj=>?_⟩
  by_cases hji:j=i
  ·subst hji
   exact hy.wpOp hi (hCE _ _ hC hw') fun w'' hw''=>⟨fun _=>hCE _ _ (hCE _ _ hC hw') hw'',wpAnyT_up (n+1) H (hw'.trans hw'')⟩
  ·have h1:=(H w' hw').2 j (ready_mono hj hji)
   obtain ⟨hjun,oj,hoj,hall⟩:=mem_ready.1 hj
   have hnot : ∀ e∈oj.after,Region.binds md e=true→e.on≠i:=fun e he hb heq=>by
    have h2:=hall e he hb
    have h0:=(mem_ready.1 hr).1
    rw [heq] at h2
    rcases Nat.lt_or_ge i l.size with h' | h'
    ·simp [h'] at h0 h2;rw [h0] at h2;cases h2
    ·simp [Array.getElem?_eq_none h'] at h2
   have hjt:j≠t:=fun e=>by
    obtain ⟨ot,hot,ed,hed,hb,hon⟩:=hwt
    rw [←e,hoj] at hot
    cases hot
    exact hnot ed hed hb hon
   have h2:=wpOp_behind hoj (hfree j oj hoj hji hjun hnot) (fun cs b=>hsel i oi cs b hi) (fun cs b=>hsel j oj cs b hoj) hy h1
   have hfree' : ∀ k ok,ops[k]?=some ok→k≠i→(l.setIfInBounds j true).getD k true=false→
    (∀ e∈ok.after,Region.binds md e=true→e.on≠i)→oi.apart ops ok=true:=fun k ok hk hki hun hno=>by
    refine hfree k ok hk hki ?_ hno
    by_cases hjk:j=k
    ·subst hjk;exact hjun
    ·rw [getD_set_ne true hjk] at hun;exact hun
   refine wpOp_mono (fun a' w'' h3=>?_) h2
   have hc:C w'':=h3.2.1 (by rw [getD_set_ne true hjt,getD_set_ne true (Ne.symm hti)];exact ht0)
   refine ⟨fun _=>hc,ih (l.setIfInBounds j true) a' w'' hfree' (ready_mono hr (Ne.symm hji)) h3.1 hc (by rw [getD_set_ne true hjt];exact ht0) ?_⟩
   rw [Array.setIfInBounds_comm _ _ hji]
   exact h3.2.2
def waitsB (md:Region.Mode) (ops:Array Oper) (t:Nat):List Bool→Nat→Bool
 | [],_=>true
 | b::m,k=>(!b || (decide (t≠k) && (match ops[t]? with|some ot=>ot.after.any fun e=>Region.binds md e && decide (e.on=k)|none=>false))) && waitsB md ops t m (k+1)
theorem wpAnyT_lex {t:Nat} {C:World→Prop} (hCE : ∀ w w',C w→Ext w w'→C w') {Q:Exit→Act→World→Prop} (hs:Region.noSelect ops=true) {af:Act} {le:Array Bool} {g:Nat} :
 ∀ (m:List Bool) (l:List Oper) (k:Nat) (listed:Array Bool) (a:Act) (w:World),m.length=l.length→(∀ j,j<l.length→l[j]?=ops[k+j]?)→Region.lexMask md ops m k listed=some le→waitsB md ops t m k=true→listed.getD t true=false→
 walkE P ops C af (pickT m l) a→C w→wpAnyT P md ops t C Q g le af w→wpAnyT P md ops t C Q ((pickT m l).length+g) listed a w
 | [],[],_,_,_,_,_,_,hm,_,_,hw,_,h=>by
  simp only [Region.lexMask,Option.some.injEq] at hm
  simp only [pickT,walkE] at hw
  subst hm;subst hw
  simpa [pickT] using h
 | [],_::_,_,_,_,_,hl,_,_,_,_,_,_,_=>by simp at hl
 | _::_,[],_,_,_,_,hl,_,_,_,_,_,_,_=>by simp at hl
 | b::m,o::l,k,listed,a,w,hl,ho,hm,hwb,ht0,hw,hC,h=>by
  have h0:ops[k]?=some o:=by simpa using (ho 0 (by simp)).symm
  have hl':m.length=l.length:=by simpa using hl
  have ho' : ∀ j,j<l.length→l[j]?=ops[k+1+j]?:=fun j hj=>by
   have:=ho (j+1) (by simp;omega)
   simpa [Nat.add_assoc,Nat.add_comm 1 j] using this
  simp only [waitsB,Bool.and_eq_true] at hwb
  cases b
  ·simp only [Region.lexMask,pickT,Bool.false_eq_true,if_false] at hm hw ⊢
   exact wpAnyT_lex hCE hs m l (k+1) listed a w hl' ho' hm hwb.2 ht0 hw hC h
  ·simp only [Region.lexMask,pickT,if_true] at hm hw ⊢
   split at hm
   case isFalse=>cases hm
   case isTrue hc=>
    simp only [Bool.and_eq_true] at hc
    obtain ⟨v,hy,hw'⟩:=hw
    have hb1:=hwb.1
    simp only [Bool.not_true,Bool.false_or,Bool.and_eq_true,decide_eq_true_eq] at hb1
    obtain ⟨htk,hb2⟩:=hb1
    have hwt : ∃ ot,ops[t]?=some ot∧∃ e∈ot.after,Region.binds md e=true∧e.on=k:=by
     split at hb2
     case h_1 ot hot=>
      obtain ⟨e,he,hb⟩:=Array.any_eq_true'.1 hb2
      simp only [Bool.and_eq_true,decide_eq_true_eq] at hb
      exact ⟨ot,hot,e,he,hb.1,hb.2⟩
     case h_2=>cases hb2
    have ih:=wpAnyT_lex hCE hs m l (k+1) _ _ w hl' ho' hm hwb.2 (by rw [getD_set_ne true (Ne.symm htk)];exact ht0) hw' hC h
    rw [List.length_cons,show (pickT m l).length+1+g=((pickT m l).length+g)+1 by omega]
    exact wpAnyT_first hCE h0 (Region.noSelect_spec hs) htk hwt _ listed a w (Region.free_spec h0 hc.2) (by simpa using hc.1) hy hC ht0 ih
def wpChainT (P:Program) (ops:Array Oper) (C:World→Prop) (Q:Exit→Act→World→Prop):List Oper→Act→World→Prop
 | [],a,w=>∀ x:ExtOf w,Q .normal a x.val
 | o::l,a,w=>∀ x:ExtOf w,wpList P ops (Exit.then (fun a' w''=>(l≠[]→C w'')∧wpChainT P ops C Q l a' w'') (Quiets Q)) [o] a x.val
theorem pickF_ne : ∀ (m:List Bool) (l:List Oper),m.length=l.length→m.getLast?=some false→pickF m l≠[]
 | [],_,_,h=>by simp at h
 | _::_,[],hl,_=>by simp at hl
 | [b],o::l,_,h=>by
  simp only [List.getLast?_singleton,Option.some.injEq] at h
  subst h
  simp [pickF]
 | b::c::m,o::l,hl,h=>by
  have:=pickF_ne (c::m) l (by simpa using hl) (by simpa [List.getLast?_cons_cons] using h)
  cases b
  ·simp [pickF]
  ·simpa [pickF] using this
theorem wpAnyT_of_chain {t:Nat} {C:World→Prop} {Q:Exit→Act→World→Prop} : ∀ (m:List Bool) (l:List Oper) (k:Nat) (listed:Array Bool) (a:Act) (w:World),m.length=l.length→
 (∀ j,j<l.length→l[j]?=ops[k+j]?)→k+l.length=t+1→(m=[]∨m.getLast?=some false)→seqMask md ops m k listed=true→wpChainT P ops C Q (pickF m l) a w→wpAnyT P md ops t C Q (pickF m l).length listed a w
 | [],[],_,_,_,_,_,_,_,_,hm,h=>⟨by simpa [seqMask] using hm,fun w' hw'=>h ⟨w',hw'⟩⟩
 | [],_::_,_,_,_,_,hl,_,_,_,_,_=>by simp at hl
 | _::_,[],_,_,_,_,hl,_,_,_,_,_=>by simp at hl
 | b::m,o::l,k,listed,a,w,hl,ho,hk,hla,hm,h=>by
  have h0:ops[k]?=some o:=by simpa using (ho 0 (by simp)).symm
  have hl':m.length=l.length:=by simpa using hl
  have ho' : ∀ j,j<l.length→l[j]?=ops[k+1+j]?:=fun j hj=>by
   have:=ho (j+1) (by simp;omega)
   simpa [Nat.add_assoc,Nat.add_comm 1 j] using this
  have hk':k+1+l.length=t+1:=by rw [List.length_cons] at hk;omega
  have hla':m=[]∨m.getLast?=some false:=by
   rcases hla with h|h
   ·cases h
   ·cases m with
    | nil=>exact .inl rfl
    | cons c m=>exact .inr (by simpa [List.getLast?_cons_cons] using h)
  cases b
  ·simp only [seqMask,pickF,Bool.false_eq_true,if_false,Bool.and_eq_true,decide_eq_true_eq] at hm h ⊢
   intro w' hw'
   refine ⟨fun h1=>(by rw [hm.1] at h1;cases h1),fun i hi=>?_⟩
   rw [hm.1] at hi
   have hik:i=k:=by simpa using hi
   subst hik
   have hw:=h ⟨w',hw'⟩
   simp only [wpList] at hw
   have hop:wpOp P ops (Quiets Q) i (fun a' w''=>(pickF m l≠[]→C w'')∧wpChainT P ops C Q (pickF m l) a' w'') a w':=by
    unfold wpOp
    simp only [h0]
    by_cases hwd:Region.wanted o (yielded ops a.tmps)=true
    ·rw [if_pos hwd] at hw ⊢
     rcases hw with hw|hw
     ·refine .inl ?_
      unfold Oper.wp at *
      generalize (execOp a.eval o).run P w'=r at *
      cases r with
      | ok n w2=>
       cases n<;>simp only [Oper.upon] at hw ⊢
       case value u=>exact hw
       case skip=>exact hw
       case defer d=>exact hw
       case enter f args=>
        exact Calls.mono hw fun e w'' he=>by
         cases e with
         | returned u=>exact he
         | panicked c=>exact he
         | outgrown=>exact he
       case row row args=>exact hw
      | halt x w2=>
       cases x<;>simp only [Oper.upon] at hw ⊢
       case panic u=>exact hw
     ·exact .inr ⟨hw.1,hw.2⟩
    ·rw [if_neg hwd] at hw ⊢
     exact hw
   refine wpOp_mono (fun a' w'' h'=>⟨fun ht0=>?_,wpAnyT_of_chain m l (i+1) _ a' w'' hl' ho' hk' hla' hm.2 h'.2⟩) hop
   rcases hla' with e|e
   ·subst e
    have:l=[]:=List.length_eq_zero_iff.1 hl'.symm
    subst this
    have:i=t:=by simpa using hk'
    subst this
    rcases Nat.lt_or_ge i listed.size with h9|h9
    ·simp [h9] at ht0
    ·simp [Array.getElem?_eq_none h9] at ht0
   ·exact h'.1 (pickF_ne m l hl' e)
  ·simp only [seqMask,pickF,if_true] at hm h ⊢
   exact wpAnyT_of_chain m l (k+1) listed a w hl' ho' hk' hla' hm h
def mixTB (md:Region.Mode) (ops:Array Oper) (m:List Bool) (l:List Oper) (n:Nat):Bool:=
 mixB md ops m l n && decide (m.getLast?=some false) && waitsB md ops (l.length - 1) m 0
theorem wp_region_mixT {id:Nat} {Q:Exit→Act→World→Prop} {a af:Act} {w:World} {l:List Oper} (m:List Bool) (n:Nat) (C:World→Prop) (hm:P.follows .mixedOrders=true)
 (hn:a.tmps.size=n) (hB:mixTB .any l.toArray m l n=true) (hCE : ∀ w w',C w→Ext w w'→C w') (hC:C w.drew)
 (h : ∀ w',C w'→wpQuiet P l.toArray (fun w''=>∃ x:ExtOf w',w''=x.val) (fun a'=>a'=af) (pickT m l) a)
 (hr:wpChainT P l.toArray C Q (pickF m l) af w.drew):(Code.region id l.toArray true).wp P Q a w:=by
 subst hn
 simp only [mixTB,mixB,Bool.and_eq_true,decide_eq_true_eq] at hB
 obtain ⟨⟨⟨⟨⟨hs,hl⟩,hd⟩,hx⟩,hla⟩,hwb⟩:=hB
 have hne:0<l.length:=by
  rw [←hl]
  cases m with
  | nil=>simp at hla
  | cons _ _=>simp
 split at hx
 case h_2=>cases hx
 case h_1 le hle=>
  have hq:=walkE_of_quiet (P:=P) (ops:=l.toArray) ⟨_,hC⟩ (pickT m l) a hd h
  have hch:=wpAnyT_of_chain (P:=P) (md:=.any) (ops:=l.toArray) (C:=C) (Q:=Q) (t:=l.length - 1) m l 0 le af w.drew hl (fun j _=>by simp) (by omega) (.inr hla) hx hr
  have:=wpAnyT_lex (P:=P) (md:=.any) (ops:=l.toArray) (Q:=Q) hCE hs m l 0 _ a w.drew hl (fun j _=>by simp) hle hwb (by have h9:l.length - 1<l.length:=Nat.sub_lt hne Nat.one_pos;simp [h9]) hq hC hch
  rw [pick_length m l hl] at this
  refine Code.wp_mono quiets_imp (wp_region_any hm ?_)
  have h2:=wpAny_of_T _ _ _ _ this
  simpa using h2
end
section
variable {P:Program} {md:Region.Mode} {ops:Array Oper}
def ClosedO (md:Region.Mode) (ops:Array Oper) (l:Array Bool):Prop:=
 ∀ (j:Nat) (oj:Oper),ops[j]?=some oj→l.getD j false=true→∀ e∈oj.after,Region.binds md e=true→l.getD e.on false=true
theorem closed_none {n:Nat} : ClosedO md ops (Array.replicate n false):=fun j oj _ h=>by
 rw [Array.getD_eq_getD_getElem?,Array.getElem?_replicate] at h
 split at h<;>simp at h
theorem closed_set {l:Array Bool} {j:Nat} (h:ClosedO md ops l) (hj:j∈Region.ready md ops l):ClosedO md ops (l.setIfInBounds j true):=fun k ok hk hl e he hb=>by
 obtain ⟨_,oj,hoj,hall⟩:=mem_ready.1 hj
 by_cases hkj:j=k
 ·subst hkj
  rw [hoj] at hk
  cases hk
  exact getD_set_true (hall e he hb)
 ·rw [getD_set_ne false hkj] at hl
  exact getD_set_true (h k ok hk hl e he hb)
def depB (md:Region.Mode) (ops:Array Oper) (i:Nat):Nat→Nat→Bool
 | 0,_=>false
 | f+1,t=>match ops[t]? with|none=>false|some ot=>ot.after.any fun e=>Region.binds md e && (decide (e.on=i) || depB md ops i f e.on)
theorem dep_listed {l:Array Bool} {i:Nat} (hc:ClosedO md ops l) : ∀ (f t:Nat),(∀ ot,ops[t]?=some ot→∀ e∈ot.after,Region.binds md e=true→l.getD e.on false=true)→depB md ops i f t=true→l.getD i false=true
 | 0,_,_,h=>by simp [depB] at h
 | f+1,t,hd,h=>by
  unfold depB at h
  split at h
  ·cases h
  ·rename_i ot hot
   obtain ⟨e,he,hb⟩:=Array.any_eq_true'.1 h
   simp only [Bool.and_eq_true,Bool.or_eq_true,decide_eq_true_eq] at hb
   have hl:=hd ot hot e he hb.1
   rcases hb.2 with h1|h1
   ·rw [←h1];exact hl
   ·exact dep_listed hc f e.on (fun o ho=>hc e.on o ho hl) h1
theorem dep_not {l:Array Bool} {i t f j:Nat} (hc:ClosedO md ops l) (hi:i∈Region.ready md ops l) (hj:j∈Region.ready md ops l) (hd:depB md ops i f t=true):j≠t:=fun e=>by
 subst e
 obtain ⟨_,oj,hoj,hall⟩:=mem_ready.1 hj
 have h1:=dep_listed hc f j (fun o ho e he hb=>by rw [hoj] at ho;cases ho;exact hall e he hb) hd
 have h0:=(mem_ready.1 hi).1
 rcases Nat.lt_or_ge i l.size with h' | h'
 ·simp [h'] at h0 h1;rw [h0] at h1;cases h1
 ·simp [Array.getElem?_eq_none h'] at h0
theorem wpAnyT_first2 {t f:Nat} {C:World→Prop} (hCE : ∀ w w',C w→Ext w w'→C w') {Q:Exit→Act→World→Prop} {i:Nat} {oi:Oper} {v:Value} (hi:ops[i]?=some oi)
 (hsel : ∀ (j:Nat) (o:Oper) cs b,ops[j]?=some o→o.op≠.select cs b) (hti:t≠i) (hwt:depB md ops i f t=true) :
 ∀ (n:Nat) (l:Array Bool) (a:Act) (w:World),ClosedO md ops l→
  (∀ j oj,ops[j]?=some oj→j≠i→l.getD j true=false→(∀ e∈oj.after,Region.binds md e=true→e.on≠i)→oi.apart ops oj=true)→
  i∈Region.ready md ops l→YieldsE P ops C oi v a→C w→l.getD t true=false→
  wpAnyT P md ops t C Q n (l.setIfInBounds i true) (a.put oi.dst v) w→wpAnyT P md ops t C Q (n+1) l a w:=by
 intro n
 induction n with
 | zero=>
  intro l a w _ _ hr hy hC ht0 H w' hw'
  refine ⟨fun h=>(by rw [h] at hr;cases hr),fun j hj=>?_⟩
  by_cases hji:j=i
  ·subst hji
   exact hy.wpOp hi (hCE _ _ hC hw') fun w'' hw''=>⟨fun _=>hCE _ _ (hCE _ _ hC hw') hw'',wpAnyT_up 0 H (hw'.trans hw'')⟩
  ·have:=ready_mono hj hji
   rw [H.1] at this
   cases this
 | succ n ih=>
  intro l a w hcl hfree hr hy hC ht0 H w' hw'
  refine ⟨fun h=>(by rw [h] at hr;cases hr),fun j hj=>?_⟩
  by_cases hji:j=i
  ·subst hji
   exact hy.wpOp hi (hCE _ _ hC hw') fun w'' hw''=>⟨fun _=>hCE _ _ (hCE _ _ hC hw') hw'',wpAnyT_up (n+1) H (hw'.trans hw'')⟩
  ·have h1:=(H w' hw').2 j (ready_mono hj hji)
   have hjt:j≠t:=dep_not hcl hr hj hwt
   have hjr:=hj
   obtain ⟨hjun,oj,hoj,hall⟩:=mem_ready.1 hj
   have hnot : ∀ e∈oj.after,Region.binds md e=true→e.on≠i:=fun e he hb heq=>by
    have h2:=hall e he hb
    have h0:=(mem_ready.1 hr).1
    rw [heq] at h2
    rcases Nat.lt_or_ge i l.size with h' | h'
    ·simp [h'] at h0 h2;rw [h0] at h2;cases h2
    ·simp [Array.getElem?_eq_none h'] at h2
   have h2:=wpOp_behind hoj (hfree j oj hoj hji hjun hnot) (fun cs b=>hsel i oi cs b hi) (fun cs b=>hsel j oj cs b hoj) hy h1
   have hfree' : ∀ k ok,ops[k]?=some ok→k≠i→(l.setIfInBounds j true).getD k true=false→
    (∀ e∈ok.after,Region.binds md e=true→e.on≠i)→oi.apart ops ok=true:=fun k ok hk hki hun hno=>by
    refine hfree k ok hk hki ?_ hno
    by_cases hjk:j=k
    ·subst hjk;exact hjun
    ·rw [getD_set_ne true hjk] at hun;exact hun
   refine wpOp_mono (fun a' w'' h3=>?_) h2
   have hc:C w'':=h3.2.1 (by rw [getD_set_ne true hjt,getD_set_ne true (Ne.symm hti)];exact ht0)
   refine ⟨fun _=>hc,ih (l.setIfInBounds j true) a' w'' (closed_set hcl hjr) hfree' (ready_mono hr (Ne.symm hji)) h3.1 hc (by rw [getD_set_ne true hjt];exact ht0) ?_⟩
   rw [Array.setIfInBounds_comm _ _ hji]
   exact h3.2.2
def waitsD (md:Region.Mode) (ops:Array Oper) (f t:Nat):List Bool→Nat→Bool
 | [],_=>true
 | b::m,k=>(!b || (decide (t≠k) && depB md ops k f t)) && waitsD md ops f t m (k+1)
theorem wpAnyT_lex2 {t f:Nat} {C:World→Prop} (hCE : ∀ w w',C w→Ext w w'→C w') {Q:Exit→Act→World→Prop} (hs:Region.noSelect ops=true) {af:Act} {le:Array Bool} {g:Nat} :
 ∀ (m:List Bool) (l:List Oper) (k:Nat) (listed:Array Bool) (a:Act) (w:World),m.length=l.length→(∀ j,j<l.length→l[j]?=ops[k+j]?)→Region.lexMask md ops m k listed=some le→waitsD md ops f t m k=true→listed.getD t true=false→ClosedO md ops listed→
 walkE P ops C af (pickT m l) a→C w→wpAnyT P md ops t C Q g le af w→wpAnyT P md ops t C Q ((pickT m l).length+g) listed a w
 | [],[],_,_,_,_,_,_,hm,_,_,_,hw,_,h=>by
  simp only [Region.lexMask,Option.some.injEq] at hm
  simp only [pickT,walkE] at hw
  subst hm;subst hw
  simpa [pickT] using h
 | [],_::_,_,_,_,_,hl,_,_,_,_,_,_,_,_=>by simp at hl
 | _::_,[],_,_,_,_,hl,_,_,_,_,_,_,_,_=>by simp at hl
 | b::m,o::l,k,listed,a,w,hl,ho,hm,hwb,ht0,hcl,hw,hC,h=>by
  have h0:ops[k]?=some o:=by simpa using (ho 0 (by simp)).symm
  have hl':m.length=l.length:=by simpa using hl
  have ho' : ∀ j,j<l.length→l[j]?=ops[k+1+j]?:=fun j hj=>by
   have:=ho (j+1) (by simp;omega)
   simpa [Nat.add_assoc,Nat.add_comm 1 j] using this
  simp only [waitsD,Bool.and_eq_true] at hwb
  cases b
  ·simp only [Region.lexMask,pickT,Bool.false_eq_true,if_false] at hm hw ⊢
   exact wpAnyT_lex2 hCE hs m l (k+1) listed a w hl' ho' hm hwb.2 ht0 hcl hw hC h
  ·simp only [Region.lexMask,pickT,if_true] at hm hw ⊢
   split at hm
   case isFalse=>cases hm
   case isTrue hc=>
    simp only [Bool.and_eq_true] at hc
    obtain ⟨v,hy,hw'⟩:=hw
    have hb1:=hwb.1
    simp only [Bool.not_true,Bool.false_or,Bool.and_eq_true,decide_eq_true_eq] at hb1
    obtain ⟨htk,hb2⟩:=hb1
    have hr:k∈Region.ready md ops listed:=by simpa using hc.1
    have ih:=wpAnyT_lex2 hCE hs m l (k+1) _ _ w hl' ho' hm hwb.2 (by rw [getD_set_ne true (Ne.symm htk)];exact ht0) (closed_set hcl hr) hw' hC h
    rw [List.length_cons,show (pickT m l).length+1+g=((pickT m l).length+g)+1 by omega]
    exact wpAnyT_first2 hCE h0 (Region.noSelect_spec hs) htk hb2 _ listed a w hcl (Region.free_spec h0 hc.2) hr hy hC ht0 ih
def mixDB (md:Region.Mode) (ops:Array Oper) (m:List Bool) (l:List Oper) (n:Nat):Bool:=
 mixB md ops m l n && decide (m.getLast?=some false) && waitsD md ops l.length (l.length - 1) m 0
theorem wp_region_mixD {id:Nat} {Q:Exit→Act→World→Prop} {a af:Act} {w:World} {l:List Oper} (m:List Bool) (n:Nat) (C:World→Prop) (hm:P.follows .mixedOrders=true)
 (hn:a.tmps.size=n) (hB:mixDB .any l.toArray m l n=true) (hCE : ∀ w w',C w→Ext w w'→C w') (hC:C w.drew)
 (h : ∀ w',C w'→wpQuiet P l.toArray (fun w''=>∃ x:ExtOf w',w''=x.val) (fun a'=>a'=af) (pickT m l) a)
 (hr:wpChainT P l.toArray C Q (pickF m l) af w.drew):(Code.region id l.toArray true).wp P Q a w:=by
 subst hn
 simp only [mixDB,mixB,Bool.and_eq_true,decide_eq_true_eq] at hB
 obtain ⟨⟨⟨⟨⟨hs,hl⟩,hd⟩,hx⟩,hla⟩,hwb⟩:=hB
 have hne:0<l.length:=by
  rw [←hl]
  cases m with
  | nil=>simp at hla
  | cons _ _=>simp
 split at hx
 case h_2=>cases hx
 case h_1 le hle=>
  have hq:=walkE_of_quiet (P:=P) (ops:=l.toArray) ⟨_,hC⟩ (pickT m l) a hd h
  have hch:=wpAnyT_of_chain (P:=P) (md:=.any) (ops:=l.toArray) (C:=C) (Q:=Q) (t:=l.length - 1) m l 0 le af w.drew hl (fun j _=>by simp) (by omega) (.inr hla) hx hr
  have:=wpAnyT_lex2 (P:=P) (md:=.any) (ops:=l.toArray) (Q:=Q) hCE hs m l 0 _ a w.drew hl (fun j _=>by simp) hle hwb (by have h9:l.length - 1<l.length:=Nat.sub_lt hne Nat.one_pos;simp [h9]) closed_none hq hC hch
  rw [pick_length m l hl] at this
  refine Code.wp_mono quiets_imp (wp_region_any hm ?_)
  have h2:=wpAny_of_T _ _ _ _ this
  simpa using h2
end
section
variable {P:Program} {md:Region.Mode} {ops:Array Oper}
theorem wpAnyT_one {t n i:Nat} {o:Oper} {C:World→Prop} {Q:Exit→Act→World→Prop} {l:Array Bool} {a:Act} {w:World} (hrd:Region.ready md ops l=[i]) (ho:ops[i]?=some o)
 (h : ∀ x:ExtOf w,wpList P ops (Exit.then (fun a' w''=>((l.setIfInBounds i true).getD t true=false→C w'')∧wpAnyT P md ops t C Q n (l.setIfInBounds i true) a' w'') (Quiets Q)) [o] a x.val):wpAnyT P md ops t C Q (n+1) l a w:=by
 intro w' hw'
 refine ⟨fun h=>absurd (hrd.symm.trans h) (by simp),fun j hj=>?_⟩
 rw [hrd,List.mem_singleton] at hj
 subst hj
 exact wpOp_of_list ho (h ⟨w',hw'⟩)
theorem wpAnyT_two {t n i i2:Nat} {o o2:Oper} {C:World→Prop} {Q:Exit→Act→World→Prop} {l:Array Bool} {a:Act} {w:World} (hrd:Region.ready md ops l=[i,i2]) (ho:ops[i]?=some o) (ho2:ops[i2]?=some o2)
 (h : ∀ x:ExtOf w,wpList P ops (Exit.then (fun a' w''=>((l.setIfInBounds i true).getD t true=false→C w'')∧wpAnyT P md ops t C Q n (l.setIfInBounds i true) a' w'') (Quiets Q)) [o] a x.val)
 (h2 : ∀ x:ExtOf w,wpList P ops (Exit.then (fun a' w''=>((l.setIfInBounds i2 true).getD t true=false→C w'')∧wpAnyT P md ops t C Q n (l.setIfInBounds i2 true) a' w'') (Quiets Q)) [o2] a x.val):wpAnyT P md ops t C Q (n+1) l a w:=by
 intro w' hw'
 refine ⟨fun h=>absurd (hrd.symm.trans h) (by simp),fun j hj=>?_⟩
 rw [hrd] at hj
 rcases List.mem_cons.1 hj with rfl|hj
 ·exact wpOp_of_list ho (h ⟨w',hw'⟩)
 ·rw [List.mem_singleton] at hj
  subst hj
  exact wpOp_of_list ho2 (h2 ⟨w',hw'⟩)
theorem wpAnyT_end {t:Nat} {C:World→Prop} {Q:Exit→Act→World→Prop} {l:Array Bool} {a:Act} {w:World} (hrd:Region.ready md ops l=[]) (h : ∀ x:ExtOf w,Q .normal a x.val):wpAnyT P md ops t C Q 0 l a w:=
 ⟨hrd,fun w' hw'=>h ⟨w',hw'⟩⟩
def mixRB (ops:Array Oper) (m:List Bool) (l:List Oper) (n:Nat) (le:Array Bool):Bool:=
 Region.noSelect ops && decide (m.length=l.length) && dstsOk n (pickT m l) && decide (Region.lexMask .any ops m 0 (Array.replicate l.length false)=some le) && waitsD .any ops l.length (l.length - 1) m 0 && decide (0<l.length)
theorem wp_region_mixR {id:Nat} {Q:Exit→Act→World→Prop} {a af:Act} {w:World} {l:List Oper} (m:List Bool) (n:Nat) (le:Array Bool) (C:World→Prop) (hm:P.follows .mixedOrders=true)
 (hn:a.tmps.size=n) (hB:mixRB l.toArray m l n le=true) (hCE : ∀ w w',C w→Ext w w'→C w') (hC:C w.drew)
 (h : ∀ w',C w'→wpQuiet P l.toArray (fun w''=>∃ x:ExtOf w',w''=x.val) (fun a'=>a'=af) (pickT m l) a)
 (hr:wpAnyT P .any l.toArray (l.length - 1) C Q (pickF m l).length le af w.drew):(Code.region id l.toArray true).wp P Q a w:=by
 subst hn
 simp only [mixRB,Bool.and_eq_true,decide_eq_true_eq] at hB
 obtain ⟨⟨⟨⟨⟨hs,hl⟩,hd⟩,hx⟩,hwb⟩,hne⟩:=hB
 have hq:=walkE_of_quiet (P:=P) (ops:=l.toArray) ⟨_,hC⟩ (pickT m l) a hd h
 have:=wpAnyT_lex2 (P:=P) (md:=.any) (ops:=l.toArray) (Q:=Q) hCE hs m l 0 _ a w.drew hl (fun j _=>by simp) hx hwb (by have h9:l.length - 1<l.length:=Nat.sub_lt hne Nat.one_pos;simp [h9]) closed_none hq hC hr
 rw [pick_length m l hl] at this
 refine Code.wp_mono quiets_imp (wp_region_any hm ?_)
 have h2:=wpAny_of_T _ _ _ _ this
 simpa using h2
end
end Go.Proofs.YtlnmhocehgmbbaaGreatDoor
