/- No condition. -/
import Derived.Test.YtlnmhocehgmbbaaGreatDoorAL12
import Derived.Test.YtlnmhocehgmbbaaGreatDoorAL29
import Derived.Test.YtlnmhocehgmbbaaGreatDoorAL33
import Derived.Test.YtlnmhocehgmbbaaGreatDoorAL35
import Derived.Test.YtlnmhocehgmbbaaGreatDoorAL36
import Derived.ChangeKeysEq
set_option linter.all false
set_option maxRecDepth 100000
set_option maxHeartbeats 6400000
namespace Go.Proofs.YtlnmhocehgmbbaaGreatDoor
open Go.RowKit
attribute [local go_sem ↓] eql_lEq eql_sEq eql_eEq eql_oEq neq_lEq neq_sEq neq_eEq neq_oEq eql_vEq neq_vEq eql_nil
attribute [local go_sem] ExtOf.cell ExtOf.frozen ExtOf.lt ExtOf.le
attribute [local go_sem high] ExtOf.cell2 ExtOf.frozen2 ExtOf.lt2 ExtOf.cell3 ExtOf.frozen3 ExtOf.lt3
structure BD (wS w:World) (gx gb:Nat) (x:Ex) (v:Value) (bs:List Bool):Prop where
 ext:Ext wS w
 hx:ExAt w gx x v
 hb:w.heap[gb]?=some (.cells (bs.map Value.bool).toArray 117 (0,0))
 lo:wS.heap.size≤gb
 ne:gx≠gb
theorem BD.ext' {wS w w':World} {gx gb:Nat} {x:Ex} {v:Value} {bs:List Bool} (h:BD wS w gx gb x v bs) (e:Ext w w'):BD wS w' gx gb x v bs:=⟨h.ext.trans e,heap_ext h.hx e,heap_ext h.hb e,h.lo,h.ne⟩
theorem BD.set {wS w:World} {gx gb:Nat} {x:Ex} {v:Value} {bs:List Bool} (h:BD wS w gx gb x v bs) (i:Nat) (c:Bool):BD wS (w.setCell ⟨gb,i,none⟩ (.bool c)) gx gb x v (bs.set i c):=by
 refine ⟨h.ext.setCell (by exact h.lo) _,(cell_other h.ne).trans h.hx,?_,h.lo,h.ne⟩
 have:=heap_setCell_same _ _ i _ _ (.bool c) h.hb
 rw [this]
 simp [List.map_set]
def StAt (w:World) (g:Nat) (s:St):Prop:=w.heap[g]?=some (.cells #[.int .i64 s.r,.int .u64 s.c,.string s.t,.int .i64 s.ph,.int .i64 s.p.k,.int .i64 s.p.f,.int .u64 s.p.c,.string s.p.t,.bool s.p.b] 26 (0,0))
def part4 (x:Ex) (who:Int):Bool:=!x.b0 && (!x.b1 && ((x.st who).ph == 6 && (x.st (1 - who)).ph == 7))
theorem holds4_p (x:Ex):holds4 x=(part4 x 0 || part4 x 1):=by
 unfold holds4 part4
 cases x.b0<;>cases x.b1<;>simp [Ex.st,Bool.and_comm]
theorem rx_brokenL (x:Ex) (v:Value) (w:World) (hR:Hrd w x v) (hn:x.h.length≤100000):Calls Tryz.prog 39 #[.agg (x.arr v)] w (Made w 3 1 (brkX x).length ((brkX x).map vI)):=by
 have HR:=zd hR
 obtain ⟨a,cap,rfl,hm,hvw⟩:=row_view hR
 have HV:=zd hvw
 clear hvw hR hm
 go_enter Tryz.func39,Tryz.ntmps39
 go_upto_region 3 with fail
 refine wp_forget (fun w'=>∃ gx gb,Hid (gx=w.heap.size∧gb=w.heap.size+1)∧Hid (BD w w' gx gb x (.slice a x.h.length cap) [false,false,false,false,false,false])) ⟨w.heap.size,w.heap.size+1,zd ⟨rfl,rfl⟩,zd ⟨(two_new zR).2.2,(two_new zR).1,(two_new zR).2.1,by omega,by omega⟩⟩ ?_
 rintro W1 ⟨gx,gb,hg,HB⟩
 rw [←hg.out.2,←hg.out.1]
 clear hg
 go_wp2_with fail
 go_loopg [4,5,6] x.h.length (fun g tk ins ii wr=>∃ (n:Nat) (t i b:Bool),ii = .int .i64 (n:Int)∧n+g=x.h.length∧tk = .bool t∧ins = .bool i∧Hid (t=(x.h.take n).any (·.k == 5)∧i=(x.h.take n).any (·.k == 6)∧b=(x.h.take n).any fun l=>(l.k == 5 || l.k == 6) && !decide (l=saidX x))∧Hid (BD w wr gx gb x (.slice a x.h.length cap) [false,false,false,false,false,b]))
 case atStart=>exact ⟨0,false,false,false,rfl,by omega,rfl,rfl,zd ⟨rfl,rfl,rfl⟩,HB⟩
 case round=>
  clear HB
  obtain ⟨n,t,i,b,rfl,hg,rfl,rfl,HT,HB⟩:=hrel
  rename World=>Wr
  have hxa:=HB.out.hx
  unfold ExAt Ex.arr at hxa
  have q1:=zQ hxa
  have l1:gx<Wr.heap.size:=zL hxa
  clear hxa
  by_cases hlt:n<x.h.length
  case neg=>
   have hge : ¬(n:Int)<(x.h.length:Int):=by omega
   have hbb:=HB.out.hb
   have rb:=zQ hbb
   have fb:=zF hbb
   have lb:gb<Wr.heap.size:=zL hbb
   clear hbb
   have HT9:Hid (t=x.h.any (·.k == 5)∧i=x.h.any (·.k == 6)∧b=holds5 x):=zd (by
    have h:=HT.out
    rw [List.take_of_length_le (by omega)] at h
    exact h)
   clear HT
   go_upto_region 12 with fail
   refine wp_forget (fun w'=>Hid (BD w w' gx gb x (.slice a x.h.length cap) [false,false,false,false,false,b])) HB ?_
   rintro W2 HB2
   have hbb:=HB2.out.hb
   have rb:=zQ hbb
   have fb:=zF hbb
   have lb:gb<W2.heap.size:=zL hbb
   clear hbb HB
   have HH3:Hid ((t && i)=holds3 x):=zd (by rw [HT9.out.1,HT9.out.2.1];rfl)
   go_cut [] from 64 to 68 (fun wc=>wc=W2.setCell ⟨gb,3,none⟩ (.bool (t && i)))
   case first=>
    cases t<;>(go_wp2_with fail;go_meet;rfl)
   case rest=>
   subst hcut
   have HB0':=zd (HB2.out.set 3 (t && i))
   generalize W2.setCell ⟨gb,3,none⟩ (.bool (t && i))=W3 at HB0' ⊢
   have HB3:Hid (BD w W3 gx gb x (.slice a x.h.length cap) [false,false,false,holds3 x,false,holds5 x]):=zd (by
    have:=HB0'.out
    rw [HH3.out,HT9.out.2.2] at this
    exact this)
   clear HB0'
   clear HB2 rb fb lb HH3 HT9 q1 l1
   go_wp2_with fail
   go_loopg [10] 2 (fun g ii wr=>∃ (n:Nat) (c1 c2 c4:Bool),ii = .int .i64 (n:Int)∧n+g=2∧Hid (c1=(List.range n).any (fun i:Nat=>part1 x i)∧c2=(List.range n).any (fun i:Nat=>part2 x i)∧c4=(List.range n).any (fun i:Nat=>part4 x i))∧Hid (BD w wr gx gb x (.slice a x.h.length cap) [false,c1,c2,holds3 x,c4,holds5 x]))
   case atStart=>exact ⟨0,false,false,false,rfl,rfl,zd ⟨rfl,rfl,rfl⟩,HB3⟩
   case round=>
    clear HB3 hge hlt hg
    obtain ⟨n,c1,c2,c4,rfl,hg,HT,HB⟩:=hrel
    rename World=>Wr
    by_cases hlt:n<2
    case neg=>
     skip
     have h2:n=2:=by omega
     subst h2
     obtain ⟨bs,hbs⟩ : ∃ bs,bs=[false,c1,c2,holds3 x,c4,holds5 x]:=⟨_,rfl⟩
     rw [←hbs] at HB
     have HF:Hid (brkX x=brkB bs 6∧bs.length=6∧bs[0]?.getD false=false):=zd (by
      obtain ⟨t1,t2,t4⟩:=HT.out
      subst hbs
      refine ⟨?_,rfl,rfl⟩
      unfold brkX
      rw [t1,t2,t4,holds1_eq,holds2_eq,holds4_p]
      simp [List.range_succ])
     clear HT hbs
     obtain ⟨i0,hi,hz0,hz1,hz2⟩:=info_parts info_int
     go_wp2_with fail
     go_loopg [12,13] 5 (fun g l ii wr=>∃ (n:Nat),ii = .int .i64 (n:Int)∧n+g=6∧1≤n∧Hid (wr.ownsRow Wr.heap.size 3 1 l (brkB bs n).length ((brkB bs n).map vI)∧Ext Wr wr))
     case atStart=>exact ⟨1,rfl,rfl,Nat.le_refl _,zd ⟨by rw [show brkB bs 1=[] from (brk_no HF.out.2.2).trans rfl];exact World.ownsRow_nil _ _ _ _,zR⟩⟩
     case round=>
      obtain ⟨n,rfl,hg,h1n,HM⟩:=hrel
      rename World=>Wq
      have hMl:=brk_len bs n
      have hszW:Wr.heap.size≤Wq.heap.size:=HM.out.2.size
      obtain ⟨bi,hbi⟩ : ∃ b,bs[n]?.getD false=b:=⟨_,rfl⟩
      have HBI:=zd hbi
      have hcell:n<6→Wq.cell? ⟨gb,n,none⟩=some (.bool bi):=fun h6=>by
       rw [cell_of_row Wq _ n _ _ _ (heap_ext HB.out.hb HM.out.2),←HBI.out]
       have:n<bs.length:=by rw [HF.out.2.1];exact h6
       simp [this]
      have lb:gb<Wq.heap.size:=zU (zL HB.out.hb) HM.out.2.size
      clear hbi
      have hor:n=6∨n=1∨n=2∨n=3∨n=4∨n=5:=by omega
      rcases hor with rfl|hor
      ·clear hcell
       go_wp2_with fail
       go_ret
       have ho:=HM.out.1
       rw [←HF.out.1] at ho
       exact ⟨_,rfl,own_base ho HB.out.ext.size,HB.out.ext.trans HM.out.2⟩
      ·have hcell:=hcell (by omega)
       rcases hor with rfl|rfl|rfl|rfl|rfl
       all_goals
        rcases bi
        ·go_wp2_with fail
         go_roundg (gk - 1)
         case rel=>exact ⟨_+1,rfl,by omega,by omega,zd ⟨by rw [brk_no HBI.out];exact HM.out.1,HM.out.2⟩⟩
         case measure=>omega
        ·go_wp2_with (at_builtin;refine wpList_app Wr.heap.size 95 3 i0 _ 1 8 zu95 hi hz0 hz1 hz2 rfl (by decide) rfl _ _ rfl _ _ _ rfl (own_ext HM.out.1 ((Ext.refl Wq).alloc _)) (zT hszW ((Ext.refl Wq).alloc _).size) Wq.heap.size 1 1 _ rfl (heap_new rfl) rfl (by simp [Value.oneCell']) (by unfold maxLen;omega) (by omega) ?_;intro v2 w2 hv2 hb2 _)
         go_roundg (gk - 1)
         case rel=>exact ⟨_+1,rfl,by omega,by omega,zd ⟨by rw [brk_yes HBI.out,List.length_append,List.map_append];exact hv2,(HM.out.2.alloc _).trans' hb2⟩⟩
         case measure=>omega
    have hn2:n=0∨n=1:=by omega
    obtain ⟨s,hs⟩ : ∃ s,x.st (n:Int)=s:=⟨_,rfl⟩
    obtain ⟨bd,hbd⟩ : ∃ b,x.bad (n:Int)=b:=⟨_,rfl⟩
    obtain ⟨op,hop⟩ : ∃ o,(x.st (1 - (n:Int))).ph=o:=⟨_,rfl⟩
    obtain ⟨bl,hbl⟩ : ∃ l,(boundX x (n:Int)).length=l:=⟨_,rfl⟩
    obtain ⟨cn,hcn⟩ : ∃ b,canS x s.p=b:=⟨_,rfl⟩
    obtain ⟨b0,hb0⟩ : ∃ b,x.b0=b:=⟨_,rfl⟩
    obtain ⟨b1,hb1⟩ : ∃ b,x.b1=b:=⟨_,rfl⟩
    have hbo : ∀ w',Ext w w'→Calls Tryz.prog 45 #[.agg (x.arr (.slice a x.h.length cap)),.int .i64 (n:Int)] w' fun e w''=>∃ a c,e = .returned (.slice a bl c)∧Ext w' w'':=fun w' hw=>by
     have:=rx_bound x _ (n:Int) w' (HR.out.ext hw) hn
     rw [hbl] at this
     exact this
    have hca : ∀ w',Ext w w'→Calls Tryz.prog 46 #[.agg (x.arr (.slice a x.h.length cap)),.agg #[.int .i64 s.p.k,.int .i64 s.p.f,.int .u64 s.p.c,.string s.p.t,.bool s.p.b]] w' fun e w''=>e = .returned (.bool cn)∧Ext w' w'':=fun w' hw=>by
     have:=rx_can x _ s.p w' (HR.out.ext hw)
     rw [hcn] at this
     exact this
    have HBO:=zd hbo
    have HCA:=zd hca
    have HT2:Hid ((c1 || (!bd && (s.ph == 7 && decide (0<bl))))=(List.range (n+1)).any (fun i:Nat=>part1 x i)∧(c2 || (!bd && (s.ph == 6 && !cn)))=(List.range (n+1)).any (fun i:Nat=>part2 x i)∧(c4 || (!b0 && (!b1 && (s.ph == 6 && op == 7))))=(List.range (n+1)).any (fun i:Nat=>part4 x i)):=zd (by
     rw [List.range_succ,List.any_append,List.any_append,List.any_append,←HT.out.1,←HT.out.2.1,←HT.out.2.2]
     unfold part1 part2 part4
     simp only [List.any_cons,List.any_nil,Bool.or_false,hs,hbd,hop,hbl,hcn,hb0,hb1,and_self])
    have HS:=zd hs
    have HBd:=zd hbd
    have HOp:=zd hop
    have HBl:=zd hbl
    have HCn:=zd hcn
    have HB0:=zd hb0
    have HB1:=zd hb1
    clear hs hbd hop hbl hcn hb0 hb1 HT hlt hbo hca
    rcases hn2 with rfl|rfl
    all_goals
     skip
     have hxa:=HB.out.hx
     unfold ExAt Ex.arr at hxa
     have q1:=zQ hxa
     have l1:gx<Wr.heap.size:=zL hxa
     clear hxa
     go_upto_region 17 with fail
     refine wp_forget (fun w'=>∃ g9,Hid (g9=Wr.heap.size)∧Hid (StAt w' g9 s)∧Hid (Ext Wr w')) ⟨_,zd rfl,zd (by rw [←HS.out];exact (one_new zR).1),zd (one_new zR).2⟩ ?_
     rintro W6 ⟨g9,hg9,H9,HE6⟩
     rw [←hg9.out]
     have HN9:Hid (g9≠gb):=zd (by have:=(zL HB.out.hb);have:=hg9.out;omega)
     have HB6:=zd (HB.out.ext' HE6.out)
     first
      | (have qb:W6.cell? ⟨gx,22,none⟩=some (.bool bd):=by rw [←HBd.out];exact zQ HB6.out.hx 22)
      | (have qb:W6.cell? ⟨gx,23,none⟩=some (.bool bd):=by rw [←HBd.out];exact zQ HB6.out.hx 23)
     have l6:gx<W6.heap.size:=zL HB6.out.hx
     clear q1 l1 HB HE6 hg9
     go_upto_if 81 with fail
     go_cut [] from 82 to 111 (fun wc=>Hid (StAt wc g9 s)∧Hid (BD w wc gx gb x (.slice a x.h.length cap) [false,c1 || (!bd && (s.ph == 7 && decide (0<bl))),c2 || (!bd && (s.ph == 6 && !cn)),holds3 x,c4,holds5 x]))
     case first=>
      rcases bd
      case true=>
       go_wp2_with fail
       go_meet
       case rel=>exact ⟨H9,zd (by simpa using HB6.out)⟩
      case false=>
       clear qb l6
       go_upto_region 18 with fail
       go_cut [] from 82 to 96 (fun wc=>Hid (StAt wc g9 s)∧Hid (BD w wc gx gb x (.slice a x.h.length cap) [false,c1 || (s.ph == 7 && decide (0<bl)),c2,holds3 x,c4,holds5 x]))
       case first=>
        skip
        have hbb:=HB6.out.hb
        have rb:=zQ hbb
        have fb:=zF hbb
        have lb:gb<W6.heap.size:=zL hbb
        have hss:=H9.out
        unfold StAt at hss
        have r9:=zQ hss
        have l9:g9<W6.heap.size:=zL hss
        clear hbb hss
        rcases c1
        case true=>
         go_wp2_with fail
         go_meet
         case rel=>exact ⟨zd ((cell_other HN9.out).trans H9.out),zd (by simpa using BD.set HB6.out 1 true)⟩
        rcases h7:(s.ph == 7)
        case false=>
         go_wp2_with fail
         go_meet
         case rel=>exact ⟨zd ((cell_other HN9.out).trans H9.out),zd (by simpa [h7] using BD.set HB6.out 1 false)⟩
        have hbx:bl=0∨0<bl:=by omega
        rcases hbx with rfl|hp
        all_goals
         go_wp2_with (first|(go_at_call 45;refine (HBO.out _ HB6.out.ext).mono ?_;rintro e w9 ⟨a9,c9,rfl,hx9⟩;have hbb:=heap_ext HB6.out.hb hx9;clear rb fb lb r9 l9;have rb:=zQ hbb;have fb:=zF hbb;have lb:gb<w9.heap.size:=(zL hbb);have HX9:=zd hx9;clear hx9 hbb)|((with_reducible refine wpList_load_rowG ?_ 33 (.tmp 1) ?_ gx ?_ 33 (x.arr (.slice a x.h.length cap)) (0,0) _ ?_ zu33 ?_ ?_ ?_);(·rfl);(·rfl);(·rfl);(·exact HB6.out.hx);(·rfl);(·exact info_ex)))
         go_meet
         case rel=>first|exact ⟨zd ((cell_other HN9.out).trans (heap_ext H9.out HX9.out)),zd (by simpa [h7] using BD.set (HB6.out.ext' HX9.out) 1 false)⟩|(rw [show decide (0<bl)=true from decide_eq_true hp];exact ⟨zd ((cell_other HN9.out).trans (heap_ext H9.out HX9.out)),zd (by simpa [h7] using BD.set (HB6.out.ext' HX9.out) 1 true)⟩)
       case rest=>
        obtain ⟨H7,HB7⟩:=hcut
        rename World=>W7
        clear H9 HB6
        go_upto_region 19 with fail
        generalize hc1:(c1 || (s.ph == 7 && decide (0<bl)))=c1' at HB7
        have HC1:=zd hc1
        clear hc1
        go_cut [] from 97 to 111 (fun wc=>Hid (StAt wc g9 s)∧Hid (BD w wc gx gb x (.slice a x.h.length cap) [false,c1',c2 || (s.ph == 6 && !cn),holds3 x,c4,holds5 x]))
        case first=>
         skip
         have hbb:=HB7.out.hb
         have rb:=zQ hbb
         have fb:=zF hbb
         have lb:gb<W7.heap.size:=zL hbb
         have hss:=H7.out
         unfold StAt at hss
         have r9:=zQ hss
         have l9:g9<W7.heap.size:=zL hss
         clear hbb hss
         rcases c2
         case true=>
          go_wp2_with fail
          go_meet
          case rel=>exact ⟨zd ((cell_other HN9.out).trans H7.out),zd (by simpa using BD.set HB7.out 2 true)⟩
         rcases h7:(s.ph == 6)
         case false=>
          go_wp2_with fail
          go_meet
          case rel=>exact ⟨zd ((cell_other HN9.out).trans H7.out),zd (by simpa [h7] using BD.set HB7.out 2 false)⟩
         rcases cn
         all_goals
          go_wp2_with (first|(go_at_call 46;refine (HCA.out _ HB7.out.ext).mono ?_;rintro e w9 ⟨rfl,hx9⟩;have hbb:=heap_ext HB7.out.hb hx9;clear rb fb lb r9 l9;have rb:=zQ hbb;have fb:=zF hbb;have lb:gb<w9.heap.size:=(zL hbb);have HX9:=zd hx9;clear hx9 hbb)|((with_reducible refine wpList_load_rowG ?_ 33 (.tmp 1) ?_ gx ?_ 33 (x.arr (.slice a x.h.length cap)) (0,0) _ ?_ zu33 ?_ ?_ ?_);(·rfl);(·rfl);(·rfl);(·exact HB7.out.hx);(·rfl);(·exact info_ex)))
          go_meet
          case rel=>first|exact ⟨zd ((cell_other HN9.out).trans (heap_ext H7.out HX9.out)),zd (by simpa [h7] using BD.set (HB7.out.ext' HX9.out) 2 true)⟩|exact ⟨zd ((cell_other HN9.out).trans (heap_ext H7.out HX9.out)),zd (by simpa [h7] using BD.set (HB7.out.ext' HX9.out) 2 false)⟩
        case rest=>
         obtain ⟨H8,HB8⟩:=hcut
         rename World=>W8
         go_wp2_with fail
         go_meet
         case rel=>exact ⟨H8,zd (by have:=HB8.out;rw [←HC1.out] at this;simpa using this)⟩
     case rest=>
      obtain ⟨H7,HB7⟩:=hcut
      rename World=>W7
      clear qb l6 H9 HB6
      have HT3:=HT2
      generalize (c1 || (!bd && (s.ph == 7 && decide (0<bl))))=c1' at HB7 HT3
      generalize (c2 || (!bd && (s.ph == 6 && !cn)))=c2' at HB7 HT3
      go_upto_region 20 with fail
      have hbb:=HB7.out.hb
      have rb:=zQ hbb
      have fb:=zF hbb
      have lb:gb<W7.heap.size:=zL hbb
      have hss:=H7.out
      unfold StAt at hss
      have r9:=zQ hss
      have l9:g9<W7.heap.size:=zL hss
      clear hbb hss
      have q22:W7.cell? ⟨gx,22,none⟩=some (.bool b0):=by rw [←HB0.out];exact zQ HB7.out.hx 22
      have q23:W7.cell? ⟨gx,23,none⟩=some (.bool b1):=by rw [←HB1.out];exact zQ HB7.out.hx 23
      first
       | (have qo:W7.cell? ⟨gx,13,none⟩=some (.int .i64 op):=by rw [←HOp.out];exact zQ HB7.out.hx 13)
       | (have qo:W7.cell? ⟨gx,4,none⟩=some (.int .i64 op):=by rw [←HOp.out];exact zQ HB7.out.hx 4)
      have lx:gx<W7.heap.size:=zL HB7.out.hx
      rcases c4
      case true=>
       go_wp2_with fail
       go_roundg (gk - 1)
       case rel=>exact ⟨_+1,c1',c2',true,rfl,by omega,zd ⟨HT3.out.1,HT3.out.2.1,by rw [←HT3.out.2.2];simp⟩,zd (by simpa using BD.set HB7.out 4 true)⟩
       case measure=>omega
      rcases b0
      case true=>
       go_wp2_with fail
       go_roundg (gk - 1)
       case rel=>exact ⟨_+1,c1',c2',false,rfl,by omega,zd ⟨HT3.out.1,HT3.out.2.1,by rw [←HT3.out.2.2];simp⟩,zd (by simpa using BD.set HB7.out 4 false)⟩
       case measure=>omega
      rcases b1
      case true=>
       go_wp2_with fail
       go_roundg (gk - 1)
       case rel=>exact ⟨_+1,c1',c2',false,rfl,by omega,zd ⟨HT3.out.1,HT3.out.2.1,by rw [←HT3.out.2.2];simp⟩,zd (by simpa using BD.set HB7.out 4 false)⟩
       case measure=>omega
      rcases h6:(s.ph == 6)
      case false=>
       go_wp2_with fail
       go_roundg (gk - 1)
       case rel=>exact ⟨_+1,c1',c2',false,rfl,by omega,zd ⟨HT3.out.1,HT3.out.2.1,by rw [←HT3.out.2.2];simp [h6]⟩,zd (by simpa [h6] using BD.set HB7.out 4 false)⟩
       case measure=>omega
      rcases h7:(op == 7)
      case false=>
       go_wp2_with fail
       go_roundg (gk - 1)
       case rel=>exact ⟨_+1,c1',c2',false,rfl,by omega,zd ⟨HT3.out.1,HT3.out.2.1,by rw [←HT3.out.2.2];simp [h7]⟩,zd (by simpa [h7] using BD.set HB7.out 4 false)⟩
       case measure=>omega
      go_wp2_with fail
      go_roundg (gk - 1)
      case rel=>exact ⟨_+1,c1',c2',true,rfl,by omega,zd ⟨HT3.out.1,HT3.out.2.1,by rw [←HT3.out.2.2];simp [h6,h7]⟩,zd (by simpa [h6,h7] using BD.set HB7.out 4 true)⟩
      case measure=>omega
  have hlt':(n:Int)<(x.h.length:Int):=by omega
  obtain ⟨g0,off,rfl,hgl,hcell⟩:=HV.out (by omega)
  have hgl:=hgl (by omega)
  obtain ⟨z,hz⟩ : ∃ z,x.h[n]?=some z:=⟨_,zG hlt⟩
  obtain ⟨z0,z1,z2,z3,z4⟩:=lt_cellsO (fun j u hj=>cell_keep (hcell j u hj) HB.out.ext) hz
  have HZ:=zd hz
  have hgl1:g0<Wr.heap.size:=zU hgl HB.out.ext.size
  clear hz hcell hgl
  go_upto_region 7 with fail
  refine wp_forget (fun w'=>∃ g7,Hid (g7=Wr.heap.size)∧w'.heap[g7]?=some (.cells #[.int .i64 z.k,.int .i64 z.f,.int .u64 z.c,.string z.t,.bool z.b] 24 (0,0))∧Hid (Ext Wr w')) ⟨_,zd rfl,(one_new zR).1,zd (one_new zR).2⟩ ?_
  rintro W7 ⟨g7,hg7,h7,HE7⟩
  rw [←hg7.out]
  clear hg7 q1 l1 z0 z1 z2 z3 z4 hgl1
  have HB7:=zd (HB.out.ext' HE7.out)
  have H7:=zd h7
  have r7:=zQ h7
  have l7:g7<W7.heap.size:=zL h7
  clear h7 HE7 HB
  go_cut [4] from 26 to 31 (fun s4 wc=>s4 = .bool (t || z.k == 5)∧wc=W7)
  case first=>
   cases t<;>(go_wp2_with fail;go_meet;exact ⟨by simp,rfl⟩)
  case rest=>
  obtain ⟨rfl,rfl⟩:=hcut
  rename World=>W7
  go_upto_region 8 with fail
  go_cut [5] from 32 to 37 (fun s5 wc=>s5 = .bool (i || z.k == 6)∧wc=W7)
  case first=>
   cases i<;>(go_wp2_with fail;go_meet;exact ⟨by simp,rfl⟩)
  case rest=>
  obtain ⟨rfl,rfl⟩:=hcut
  rename World=>W7
  have HT2:Hid ((t || z.k == 5)=(x.h.take (n+1)).any (·.k == 5)∧(i || z.k == 6)=(x.h.take (n+1)).any (·.k == 6)):=zd (by
   rw [List.take_add_one,HZ.out,List.any_append,List.any_append,HT.out.1,HT.out.2.1]
   simp)
  have HT3:Hid ((b || ((z.k == 5 || z.k == 6) && !decide (z=saidX x)))=(x.h.take (n+1)).any fun l=>(l.k == 5 || l.k == 6) && !decide (l=saidX x)):=zd (by
   rw [List.take_add_one,HZ.out,List.any_append,HT.out.2.2]
   simp)
  generalize (t || z.k == 5)=t2 at HT2 ⊢
  generalize (i || z.k == 6)=i2 at HT2 ⊢
  clear HT
  rcases h56:(z.k == 5 || z.k == 6)
  case false=>
   rw [h56] at HT3
   have HT4:=HT3
   have h5:(z.k == 5)=false:=(Bool.or_eq_false_iff.1 h56).1
   have h6:(z.k == 6)=false:=(Bool.or_eq_false_iff.1 h56).2
   clear h56 HT3
   go_wp2_with fail
   go_roundg (gk - 1)
   case rel=>exact ⟨n+1,t2,i2,b,rfl,by omega,rfl,rfl,zd ⟨HT2.out.1,HT2.out.2,by simpa using HT4.out⟩,HB7⟩
   case measure=>omega
  rw [h56,Bool.true_and] at HT3
  have hxa:=HB7.out.hx
  unfold ExAt Ex.arr at hxa
  have q1:=zQ hxa
  have l1:gx<W7.heap.size:=zL hxa
  clear hxa
  have K7 : ∀ (Q:Act→World→Prop) (cd:Code) (ac:Act),True:=fun _ _ _=>trivial
  clear K7
  have h5:(z.k == 5)=true∨((z.k == 5)=false∧(z.k == 6)=true):=by
   cases h:(z.k == 5)
   ·rw [h,Bool.false_or] at h56;exact .inr ⟨rfl,h56⟩
   ·exact .inl rfl
  clear h56
  rcases h5 with h5|⟨h5,h6⟩
  all_goals
   go_upto_region 11 with (go_at_call 68;refine (rv_saysL x.v _).mono ?_;rintro e w9 ⟨rfl,hx9⟩)
   refine wp_forget (fun w'=>∃ g8,Hid (g8=w9.heap.size)∧Hid (w'.heap[g8]?=some (.cells #[.int .i64 ((saysS x.v).getD l0).k,.int .i64 ((saysS x.v).getD l0).f,.int .u64 ((saysS x.v).getD l0).c,.string ((saysS x.v).getD l0).t,.bool ((saysS x.v).getD l0).b] 24 (0,0)))∧Hid (Ext W7 w')) ⟨_,zd rfl,zd (one_new zR).1,zd (hx9.trans (one_new zR).2)⟩ ?_
   rintro W8 ⟨g8,hg8,H8,HE8⟩
   rw [←hg8.out]
   have HB8:=zd (HB7.out.ext' HE8.out)
   have h7:=heap_ext H7.out HE8.out
   have r7:=zQ h7
   have l7:g7<W8.heap.size:=zL h7
   have h8:=H8.out
   have HM:Hid ((saysS x.v).getD l0=saidX x):=zd rfl
   have HN:Hid ((saysS x.v).isSome=false→saidX x=l0):=zd (fun h=>by unfold saidX;rw [Option.isSome_eq_false_iff.1 h |> Option.isNone_iff_eq_none.1];rfl)
   generalize (saysS x.v).getD l0=M at HM h8 ⊢
   generalize (saysS x.v).isSome=ok at HN ⊢
   have r8:=zQ h8
   have l8:g8<W8.heap.size:=zL h8
   have hbb:=HB8.out.hb
   have rb:=zQ hbb
   have fb:=zF hbb
   have lb:gb<W8.heap.size:=zL hbb
   have HZK:Hid (ok=false→(!decide (z=saidX x))=true):=zd (fun h=>by
    rw [HN.out h]
    have:z≠l0:=fun e=>by subst e;simp [l0] at *
    simp [this])
   have HLE:Hid ((!lEq M.k M.f M.c M.t M.b z.k z.f z.c z.t z.b) = !decide (z=saidX x)):=zd (by
    rw [lEq_lt,HM.out]
    congr 1
    exact decide_eq_decide.2 eq_comm)
   clear h7 h8 hbb HM HN H8 HE8 hx9 q1 l1 hg8 HB7
   generalize (!decide (z=saidX x))=d at HT3 HZK HLE
   generalize hle:(!lEq M.k M.f M.c M.t M.b z.k z.f z.c z.t z.b)=le at HLE
   have HLQ:=zd hle
   clear hle
   cases b
   ·cases ok
    ·have hd:=HZK.out rfl
     clear HZK HLE HLQ
     subst hd
     go_wp2_with fail
     go_roundg (gk - 1)
     case rel=>exact ⟨n+1,t2,i2,true,rfl,by omega,rfl,rfl,zd ⟨HT2.out.1,HT2.out.2,by rw [←HT3.out];rfl⟩,zd (HB8.out.set 5 true)⟩
     case measure=>omega
    ·have hle:=HLQ.out
     go_wp2_with fail
     go_roundg (gk - 1)
     case rel=>exact ⟨n+1,t2,i2,le,rfl,by omega,rfl,rfl,zd ⟨HT2.out.1,HT2.out.2,by rw [←HT3.out];rw [←HLE.out];simp⟩,zd (HB8.out.set 5 le)⟩
     case measure=>omega
   ·clear HLE HLQ
    go_wp2_with fail
    go_roundg (gk - 1)
    case rel=>exact ⟨n+1,t2,i2,true,rfl,by omega,rfl,rfl,zd ⟨HT2.out.1,HT2.out.2,by rw [←HT3.out];simp⟩,zd (HB8.out.set 5 true)⟩
    case measure=>omega
theorem rr_census (L:List (Fd×Value)) (lv:Value) (B:Nat) (d:Bool) (r:Rg) (tv:Value) (w:World) (hL:DRow w B L lv) (hH : ∀ p∈L,Hrd w p.1.x p.2∧(p.2 = .slice none 0 0∨∃ a n c,p.2 = .slice (some a) n c)∧p.1.x.h.length≤300) (hLn:L.length≤100)
 (hT:Row w 1 tv r.t.length (r.t.map Value.string)) (hTn:r.t.length≤1000) :
 Calls Tryz.prog 18 #[lv,.bool d,.agg (r.arr tv)] w fun e w'=>∃ a b00 b01 b10 b11 k:Nat,Cn r (L.map (·.1.x)) a b00 b01 b10 b11 k∧e = .returned (.agg (cenA L.length d a b00 b01 b10 b11 k))∧Ext w w':=by
 obtain ⟨la,lc,rfl⟩:=own_sl hL
 have HL:=zd hL
 have HH:=zd hH
 have HT:=zd hT
 clear hL hH hT
 go_enter Tryz.func18,Tryz.ntmps18
 go_upto_region 1 with fail
 refine wp_forget (fun w'=>∃ gr gz,Hid (gr=w.heap.size∧gz=w.heap.size+1)∧RgAt w' gr r tv∧w'.heap[gz]?=some (.cells (cenA 0 false 0 0 0 0 0 0) 58 (0,0))∧Ext w w') ⟨_,_,zd ⟨rfl,rfl⟩,(two_new zR).1,(two_new zR).2.1,(two_new zR).2.2⟩ ?_
 rintro W1 ⟨gr,gz,hg,h1,h2,x1⟩
 rw [←hg.out.2,←hg.out.1]
 have HGZ:Hid (w.heap.size≤gz∧gz<W1.heap.size∧gr<gz):=zd (by have h4:=(zL h2);have h5:=hg.out;omega)
 have HR1:=zd h1
 have HZ1:=zd h2
 have HE1:=zd x1
 clear hg h1 h2 x1
 go_upto_region 2 with fail
 refine wp_forget (fun w'=>∃ gC,Hid (gC=W1.heap.size)∧Hid (w'.heap[gC]?=some (.cells (cenA L.length d 0 0 0 0 0 0) 58 (0,0)))∧Hid (Ext W1 w')) ⟨_,zd rfl,zd (heap_new rfl),zd (zR.alloc _)⟩ ?_
 rintro W2 ⟨gC,HGC,HC2,HE2⟩
 rw [←HGC.out]
 go_wp2_with fail
 go_loopg [8] L.length (fun g ii wr=>∃ (i:Nat) (a b00 b01 b10 b11 k:Nat),ii = .int .i64 (i:Int)∧i+g=L.length∧Hid (Ext W1 wr)∧Hid (wr.heap[gC]?=some (.cells (cenA L.length d a b00 b01 b10 b11 k) 58 (0,0)))∧Hid (Cn r ((L.take i).map (·.1.x)) a b00 b01 b10 b11 k)∧a≤i*10000∧b00≤i∧b01≤i∧b10≤i∧b11≤i∧k≤i)
 case atStart=>exact ⟨0,0,0,0,0,0,0,rfl,by omega,HE2,HC2,zd ⟨rfl,rfl,rfl,rfl,rfl,rfl⟩,by omega,by omega,by omega,by omega,by omega,by omega⟩
 case round=>
  clear HC2 HE2
  obtain ⟨i,a,b00,b01,b10,b11,k,rfl,hg,HE,HC,HCn,ba,bb1,bb2,bb3,bb4,bk⟩:=hrel
  rename World=>Wr
  by_cases hlt:i<L.length
  case neg=>
   have i1 : ¬(i:Int)<(L.length:Int):=by omega
   go_wp2_with (first|((with_reducible refine wpList_load_rowG ?_ 58 (.tmp 7) ?_ gC ?_ 58 (cenA L.length d a b00 b01 b10 b11 k) (0,0) _ ?_ zu58 ?_ ?_ ?_);(·rfl);(·rfl);(·rfl);(·exact HC.out);(·rfl);(·exact info_cen))|((with_reducible refine wpList_store_row ?_ 58 (.tmp 6) (.tmp 65) ?_ gz (cenA L.length d a b00 b01 b10 b11 k) ?_ ?_ 58 (cenA 0 false 0 0 0 0 0 0) ?_ ?_ ?_ ?_ ?_);(·rfl);(·rfl);(·rfl);(·rfl);(·exact heap_ext HZ1.out HE.out);(·exact info_cen);(·rfl);(·simp [cenA,Value.oneCell'])))
   have hcn:=HCn.out
   rw [List.take_of_length_le (by omega)] at hcn
   refine bodyPost_ret (results_cell_row rfl _ _ _ _ _ (0,0) _ rfl (setRow_heap _ _ _ _ _ _ (heap_ext HZ1.out HE.out)) zu58 rfl info_cen) rfl ⟨a,b00,b01,b10,b11,k,hcn,rfl,Ext.setRow (HE1.out.trans HE.out) HGZ.out.1 _⟩
  have i1:(i:Int)<(L.length:Int):=by omega
  obtain ⟨p,hp⟩ : ∃ p,L[i]?=some p:=⟨_,zG hlt⟩
  obtain ⟨g0,cap,hlv,hgl,hmx,hrg0⟩:=drow_f (HL.out.ext (HE1.out.trans HE.out)) hp
  have hrg:=drow_x hrg0
  cases hlv
  unfold maxLen at hmx
  obtain ⟨hop,hvv,hpx⟩:=HH.out p (zE hp)
  have hp1:p.2.oneCell'=true:=by rcases hvv with h|⟨_,_,_,h⟩<;>(rw [h];rfl)
  have hM:=fun w' (hw:Ext w w')=>rr_moves p.1.x p.2 r tv w' (hop.ext hw) hvv (by omega) (Row.ext HT.out hw) hTn
  have hml:(movesR evsS p.1.x r).length≤10000:=by
   rw [movesR_eq]
   exact zT (List.length_filter_le _ _) (movesS_len _ _ hTn)
  have HCS:=zd (HCn.out.step p.1.x)
  have HTK:Hid ((L.take (i+1)).map (·.1.x)=(L.take i).map (·.1.x)++[p.1.x]):=zd (by rw [List.take_add_one,hp,List.map_append];rfl)
  rw [←HTK.out] at HCS
  generalize movesR evsS p.1.x r=ms at hM hml HCS
  have HM:=zd hM
  have HRG:=zd hrg
  have HOP:=zd hop
  clear hM hrg hrg0 hop hp hvv HCn HTK
  go_upto_region 6 with (first|((with_reducible refine wpList_load_midG 33 (.tmp 23) ?_ g0 (i*36) ?_ ?_ [.int .u64 p.1.x.c,.int .i64 p.1.x.s0.r,.int .u64 p.1.x.s0.c,.string p.1.x.s0.t,.int .i64 p.1.x.s0.ph,.int .i64 p.1.x.s0.p.k,.int .i64 p.1.x.s0.p.f,.int .u64 p.1.x.s0.p.c,.string p.1.x.s0.p.t,.bool p.1.x.s0.p.b,.int .i64 p.1.x.s1.r,.int .u64 p.1.x.s1.c,.string p.1.x.s1.t,.int .i64 p.1.x.s1.ph,.int .i64 p.1.x.s1.p.k,.int .i64 p.1.x.s1.p.f,.int .u64 p.1.x.s1.p.c,.string p.1.x.s1.p.t,.bool p.1.x.s1.p.b,.int .u64 p.1.x.v.c,.int .i64 p.1.x.v.k,.string p.1.x.v.t,.bool p.1.x.b0,.bool p.1.x.b1,.bool p.1.x.full,p.2] _ ?_ zu33 ?_ ?_ ?_);(·rfl);(·rfl);(·kernel_rfl);(·exact HRG.out);(·rfl);(·exact info_exL p))|(refine wpList_store_row rfl 33 _ _ rfl Wr.heap.size _ rfl rfl 33 _ (heap_new rfl) info_ex rfl (arr_one p.1.x hp1) ?_))
  refine wp_forget (fun w'=>∃ gx,Hid (gx=Wr.heap.size)∧Hid (ExAt w' gx p.1.x p.2)∧Hid (w'.heap[gC]?=some (.cells (cenA L.length d a b00 b01 b10 b11 k) 58 (0,0)))∧Hid (Ext W1 w')) ⟨_,zd rfl,zd (setRow_heap _ _ _ _ _ _ (heap_new rfl)),zd (heap_ext HC.out ((zR.alloc _).setRow zN _)),zd (HE.out.trans ((zR.alloc _).setRow zN _))⟩ ?_
  rintro W5 ⟨gx,hgx,HX5,HC5,HE5⟩
  rw [←hgx.out]
  have HNE:Hid (gx≠gC∧W1.heap.size≤gC):=zd ⟨by have:=hgx.out;have:=(zL HC.out);omega,by have:=HGC.out;omega⟩
  clear hgx HRG HC HE hgl
  have qc1:W5.cell? ⟨gC,1,none⟩=some (.int .i64 (a:Int)):=zQ HC5.out 1
  have lc1:gC<W5.heap.size:=zL HC5.out
  simp only [Act.put]
  refine wp_region_mixT (af:=?af6) [true,true,true,true,false,false,false,false,false] 66 (Ext W5) (by kernel_rfl) rfl (by kernel_rfl) (fun _ _ h e=>Ext.trans h e) zR.drew ?q6 ?r6
  case q6=>
   intro w' hw'
   obtain ⟨y1,rfl⟩:=ext_of hw'
   simp only [pickT,if_true,if_false,Bool.false_eq_true]
   go_big_quiet_step (fail)
   go_big_quiet_step (fail)
   (go_big_quiet_want;refine quiet_load_rowX 33 _ rfl _ rfl _ _ (0,0) _ (HX5.out.ext y1.ext) zu33 rfl info_ex ?_;go_big_quiet_on;simp only [Act.put,List.setIfInBounds_toArray,List.set_cons_succ,List.set_cons_zero])
   (go_big_quiet_want;refine quiet_load_rowX 36 _ rfl _ rfl _ _ (0,0) _ (heap_ext (heap_ext HR1.out HE5.out) y1.ext) zu36 rfl info_range ?_;go_big_quiet_on;simp only [Act.put,List.setIfInBounds_toArray,List.set_cons_succ,List.set_cons_zero])
   repeat (go_big_quiet_step (fail))
   exact rfl
  case r6=>
   simp only [pickF,if_true,if_false,Bool.false_eq_true]
   intro x1
   go_wp2_with fail
   refine (HM.out _ ((HE1.out.trans HE5.out).trans ((Ext.refl W5).drew.val x1))).mono ?_
   rintro e w7 ⟨mv,rfl,ho7,hx7⟩
   have e7:Ext W5 w7:=((Ext.refl W5).drew.val x1).trans hx7
   obtain ⟨va7,vc7,rfl⟩:=own_sl ho7
   go_wp2_with fail
   refine ⟨fun _=>e7,?_⟩
   intro x2
   go_wp2_with fail
   refine ⟨fun _=>e7.val x2,?_⟩
   intro x3
   go_wp2_with fail
   refine ⟨fun _=>(e7.val x2).val x3,?_⟩
   intro x35
   go_wp2_with fail
   refine ⟨fun _=>((e7.val x2).val x3).val x35,?_⟩
   intro x4
   have e4:=(((e7.val x2).val x3).val x35).val x4
   have hC4:=heap_ext HC5.out e4
   have q4:x4.val.cell? ⟨gC,1,none⟩=some (.int .i64 (a:Int)):=zQ hC4 1
   have f4:=zF hC4 1
   have l4:gC<x4.val.heap.size:=zL hC4
   have HC4:=zd hC4
   have HX4:=zd (HX5.out.ext e4)
   have HE4:=zd (HE5.out.trans e4)
   clear hC4 e4 ho7 hx7
   go_wp2_with fail
   refine ⟨fun h=>absurd rfl h,?_⟩
   intro x5
   have hC6:x5.val.heap[gC]?=some (.cells (cenA L.length d (a+ms.length) b00 b01 b10 b11 k) 58 (0,0)):=heap_ext (by
    have:=setCell_row HC4.out (o:=1) (.int .i64 ((a:Int)+(ms.length:Int)))
    rw [this]
    simp [cenA]) x5.ext
   have hX6:ExAt x5.val gx p.1.x p.2:=heap_ext ((cell_other HNE.out.1).trans HX4.out) x5.ext
   have hE6:Ext W1 x5.val:=(HE4.out.setCell (by exact HNE.out.2) _).val x5
   generalize x5.val=W6 at hC6 hX6 hE6 ⊢
   have HC6:=zd hC6
   have HX6:=zd hX6
   have HE6:=zd hE6
   clear hC6 hX6 hE6 x5 HC4 HX4 HE4 q4 f4 l4 x4 x35 x3 x2 e7 x1 HM HC5 HX5 HE5 qc1 lc1
   have ba2:a+ms.length≤(i+1)*10000:=by omega
   generalize a+ms.length=a' at HC6 HCS ba2 ⊢
   go_upto_region 7 with fail
   go_cut [38] from 33 to 38 (fun s38 wc=>s38 = .bool (finX p.1.x 0 && finX p.1.x 1)∧Hid (Ext W6 wc))
   case first=>
    have HXE:=zd (Ext.refl W6)
    rcases hf0:finX p.1.x 0
    case false=>
     go_wp2_with (first|((with_reducible refine wpList_load_rowG ?_ 33 (.tmp 9) ?_ gx ?_ 33 (p.1.x.arr p.2) (0,0) _ ?_ zu33 ?_ ?_ ?_);(·rfl);(·rfl);(·rfl);(·exact HX6.out.ext HXE.out);(·rfl);(·exact info_ex))|(go_at_call 38;refine (rx_final p.1.x p.2 _ _ (by first|exact Or.inl rfl|exact Or.inr rfl)).mono ?_;rintro e w8 ⟨rfl,hx8⟩;(try rw [hf0]);have HXE:=zd (HXE.out.trans hx8);clear hx8))
     go_meet
     exact ⟨by rw [hf0];rfl,HXE⟩
    go_wp2_with (first|((with_reducible refine wpList_load_rowG ?_ 33 (.tmp 9) ?_ gx ?_ 33 (p.1.x.arr p.2) (0,0) _ ?_ zu33 ?_ ?_ ?_);(·rfl);(·rfl);(·rfl);(·exact HX6.out.ext HXE.out);(·rfl);(·exact info_ex))|(go_at_call 38;refine (rx_final p.1.x p.2 _ _ (by first|exact Or.inl rfl|exact Or.inr rfl)).mono ?_;rintro e w8 ⟨rfl,hx8⟩;(try rw [hf0]);have HXE:=zd (HXE.out.trans hx8);clear hx8))
    go_meet
    exact ⟨by rw [hf0];simp,HXE⟩
   case rest=>
   obtain ⟨rfl,HX8⟩:=hcut
   rename World=>W8
   have HC8:=zd (heap_ext HC6.out HX8.out)
   have HXA8:=zd (HX6.out.ext HX8.out)
   have HE8:=zd (HE6.out.trans HX8.out)
   clear HC6 HX6 HE6 HX8
   obtain ⟨fin,hfin⟩ : ∃ f,(finX p.1.x 0 && finX p.1.x 1)=f:=⟨_,rfl⟩
   rw [hfin]
   have HFI:=zd hfin
   clear hfin
   go_upto_if 38 with fail
   go_cut [] from 39 to 56 (fun wc=>Hid (wc.heap[gC]?=some (.cells (cenA L.length d a' (b00+if finB 6 6 p.1.x=true then 1 else 0) (b01+if finB 6 7 p.1.x=true then 1 else 0) (b10+if finB 7 6 p.1.x=true then 1 else 0) (b11+if finB 7 7 p.1.x=true then 1 else 0) k) 58 (0,0)))∧Hid (ExAt wc gx p.1.x p.2)∧Hid (Ext W1 wc))
   case first=>
    rcases fin
    case false=>
     have hno : ∀ i j,finB i j p.1.x=false:=fun i j=>by
      have:=HFI.out
      simp [finB,this]
     have HNO:=zd hno
     clear hno
     go_wp2_with fail
     go_meet
     case rel=>exact ⟨zd (by rw [HNO.out,HNO.out,HNO.out,HNO.out];exact HC8.out),HXA8,HE8⟩
    have hf:=Bool.and_eq_true_iff.1 HFI.out
    have hph:=fin_ph hf.1 hf.2
    have HF:=zd hf
    clear hf
    obtain ⟨u,hu⟩ : ∃ u,p.1.x.s0.ph=u:=⟨_,rfl⟩
    obtain ⟨t,ht⟩ : ∃ t,p.1.x.s1.ph=t:=⟨_,rfl⟩
    rw [hu,ht] at hph
    have HU:=zd hu
    have HV:=zd ht
    have q4:W8.cell? ⟨gx,4,none⟩=some (.int .i64 u):=(zQ HXA8.out 4).trans (congrArg (fun z=>some (Value.int .i64 z)) hu)
    have q13:W8.cell? ⟨gx,13,none⟩=some (.int .i64 t):=(zQ HXA8.out 13).trans (congrArg (fun z=>some (Value.int .i64 z)) ht)
    have lx8:gx<W8.heap.size:=zL HXA8.out
    have hC8:=HC8.out
    unfold cenA at hC8
    have qc:=zQ hC8
    have lc8:gC<W8.heap.size:=zL hC8
    clear hu ht hC8
    rcases hph with ⟨rfl|rfl,rfl|rfl⟩
    all_goals
     skip
     go_wp2_with fail
     refine wp_region_mixT (af:=?_) [true,true,true,true,true,true,true,true,true,true,true,true,true,true,true,false,false,false,false] 66 (Ext W8) (by kernel_rfl) rfl (by kernel_rfl) (fun _ _ h e=>Ext.trans h e) zR.drew ?_ ?_
     case refine_2=>
      intro w' hw'
      obtain ⟨y1,rfl⟩:=ext_of hw'
      simp only [pickT,if_true,if_false,Bool.false_eq_true]
      repeat (go_big_quiet_step (fail))
      exact rfl
     simp only [pickF,if_true,if_false,Bool.false_eq_true]
     intro x11
     go_wp2_with fail
     refine ⟨fun _=>(Ext.refl W8).drew.val x11,?_⟩
     intro x12
     go_wp2_with fail
     refine ⟨fun _=>((Ext.refl W8).drew.val x11).val x12,?_⟩
     intro x13
     go_wp2_with fail
     refine ⟨fun _=>(((Ext.refl W8).drew.val x11).val x12).val x13,?_⟩
     intro x1
     have e1:=(((Ext.refl W8).drew.val x11).val x12).val x13 |>.val x1
     have hC1:=heap_ext HC8.out e1
     have HX1:=zd (HXA8.out.ext e1)
     have HE1':=zd (HE8.out.trans e1)
     have HC1:=zd hC1
     unfold cenA at hC1
     have q1:=zQ hC1
     have f1:=zF hC1
     have l1:gC<x1.val.heap.size:=zL hC1
     clear hC1 e1 q4 q13 qc
     go_wp2_with fail
     refine ⟨fun h=>absurd rfl h,?_⟩
     intro x2
     go_wp2_with fail
     go_meet
     case rel=>
      refine ⟨zd (heap_ext ?_ x2.ext),zd (heap_ext ((cell_other HNE.out.1).trans HX1.out) x2.ext),zd ((HE1'.out.setCell (by exact HNE.out.2) _).val x2)⟩
      rw [setCell_row HC1.out,finB_of HF.out.1 HF.out.2 HU.out HV.out,finB_of HF.out.1 HF.out.2 HU.out HV.out,finB_of HF.out.1 HF.out.2 HU.out HV.out,finB_of HF.out.1 HF.out.2 HU.out HV.out]
      simp [cenA]
   case rest=>
   obtain ⟨HC9,HX9,HE9⟩:=hcut
   rename World=>W9
   clear HC8 HXA8 HE8 HFI
   have hbs : ∀ b:Bool,(if b=true then 1 else 0)≤1:=fun b=>by cases b<;>simp
   have c1:=Nat.add_le_add bb1 (hbs (finB 6 6 p.1.x))
   have c2:=Nat.add_le_add bb2 (hbs (finB 6 7 p.1.x))
   have c3:=Nat.add_le_add bb3 (hbs (finB 7 6 p.1.x))
   have c4:=Nat.add_le_add bb4 (hbs (finB 7 7 p.1.x))
   generalize (b00+if finB 6 6 p.1.x=true then 1 else 0)=d00 at HC9 HCS c1
   generalize (b01+if finB 6 7 p.1.x=true then 1 else 0)=d01 at HC9 HCS c2
   generalize (b10+if finB 7 6 p.1.x=true then 1 else 0)=d10 at HC9 HCS c3
   generalize (b11+if finB 7 7 p.1.x=true then 1 else 0)=d11 at HC9 HCS c4
   have HBR:=zd (rx_brokenL p.1.x p.2 W9 (HOP.out.ext (HE1.out.trans HE9.out)) (by omega))
   have hbo:=brk_ok p.1.x
   generalize (brkX p.1.x).length=bn at HBR hbo
   have HBN:=zd hbo
   clear hbo hbs
   rcases hko:okX p.1.x
   all_goals
    rw [hko] at HBN HCS
   case false=>
    have hbn:(0:Int)<(bn:Int):=by have:=HBN.out;rw [beq_eq_false_iff_ne] at this;omega
    clear hko
    go_wp2_with (first|((with_reducible refine wpList_load_rowG ?_ 33 (.tmp 9) ?_ gx ?_ 33 (p.1.x.arr p.2) (0,0) _ ?_ zu33 ?_ ?_ ?_);(·rfl);(·rfl);(·rfl);(·exact HX9.out);(·rfl);(·exact info_ex))|(go_at_call 39;refine HBR.out.mono ?_;rintro e w9 ⟨bv,rfl,hb9,hx9⟩;obtain ⟨ba9,bc9,rfl⟩:=own_sl hb9;have hc9:=heap_ext HC9.out hx9;have q7:w9.cell? ⟨gC,7,none⟩=some (.int .i64 (k:Int)):=zQ hc9 7;have f7:=zF hc9 7;have l7:gC<w9.heap.size:=(zL hc9);have HC99:=zd hc9;have HX99:=zd hx9;clear hc9 hb9 hx9))
    go_roundg (gk - 1)
    case rel=>
     refine ⟨i+1,a',d00,d01,d10,d11,k+1,rfl,by omega,zd ((HE9.out.trans HX99.out).setCell (by exact HNE.out.2) _),zd ?_,zd (by simpa using HCS.out),?_,c1,c2,c3,c4,by omega⟩
     ·rw [setCell_row HC99.out]
      simp [cenA]
     ·exact ba2
    case measure=>omega
   case true=>
    have hbn : ¬(0:Int)<(bn:Int):=by have:=HBN.out;rw [beq_iff_eq] at this;omega
    clear hko
    go_wp2_with (first|((with_reducible refine wpList_load_rowG ?_ 33 (.tmp 9) ?_ gx ?_ 33 (p.1.x.arr p.2) (0,0) _ ?_ zu33 ?_ ?_ ?_);(·rfl);(·rfl);(·rfl);(·exact HX9.out);(·rfl);(·exact info_ex))|(go_at_call 39;refine HBR.out.mono ?_;rintro e w9 ⟨bv,rfl,hb9,hx9⟩;obtain ⟨ba9,bc9,rfl⟩:=own_sl hb9;have HX99:=zd hx9;clear hb9 hx9))
    go_roundg (gk - 1)
    case rel=>
     refine ⟨i+1,a',d00,d01,d10,d11,k,rfl,by omega,zd (HE9.out.trans HX99.out),zd (heap_ext HC9.out HX99.out),zd (by simpa using HCS.out),?_,c1,c2,c3,c4,by omega⟩
     exact ba2
    case measure=>omega
end Go.Proofs.YtlnmhocehgmbbaaGreatDoor
namespace Go.Proofs.YtlnmhocehgmbbaaGreatDoor
open Go.RowKit
attribute [local go_sem ↓] eql_lEq eql_sEq eql_eEq eql_oEq neq_lEq neq_sEq neq_eEq neq_oEq eql_vEq neq_vEq eql_nil eql_mEq
attribute [local go_sem] ExtOf.cell ExtOf.frozen ExtOf.lt ExtOf.le
attribute [local go_sem high] ExtOf.cell2 ExtOf.frozen2 ExtOf.lt2 ExtOf.cell3 ExtOf.frozen3 ExtOf.lt3
theorem xrow_f {w:World} {B:Nat} {L:List (Ex×Value)} {v:Value} {i:Nat} {p:Ex×Value} (h:XRow w B L v) (hp:L[i]?=some p) :
 ∃ g cap,v = .slice (some ⟨g,0,none⟩) L.length cap∧g<w.heap.size∧L.length≤maxLen∧w.rangeAt g (i*26) (p.1.arr p.2).toList:=by
 have hi:=zM hp
 obtain ⟨_,⟨_,h0⟩|⟨g,cap,cur,hv,hb,hg,hn,hm,hs,hx⟩⟩:=h
 ·omega
 refine ⟨g,cap,hv,(zL hg),by omega,fun j v hj=>?_⟩
 have hjl:j<26:=zM hj
 have h2:=flat_get exC 26 exC_len L i p hp j (by omega)
 have h3:(exC p)[j]?=some v:=hj
 rw [h3,←hx,List.getElem?_take_of_lt (by omega)] at h2
 rw [cell_of_row w g _ cur _ (0,0) hg]
 simpa using h2
theorem moves_ok {evs:St→List Ev} {x:Ex} {r:Rg} {m:Mv} (h:m∈movesR evs x r):(stepX x m).2=true:=by
 unfold movesR at h
 obtain ⟨c,_,hz⟩:=mem_moves.1 (List.mem_filter.1 h).1
 rcases hz with ⟨rfl,he⟩|⟨_,rfl,he⟩
 ·exact he.1
 ·exact he.1
theorem mv_neq (m:Mv) (w:World):(binOp .neq 52 (.agg m.arr) (.agg m.arr)).run Tryz.prog w = .ok (.bool false) w:=by
 unfold Mv.arr
 simp [go_sem,toList_beq]
attribute [local go_sem ↓] mv_neq
theorem lw_moves (L:List Mv) (v v':Value) (w:World) (hR:Row w 9 v L.length (L.flatMap Mv.cs)) (hR':Row w 9 v' L.length (L.flatMap Mv.cs)) :
 Calls Tryz.prog 13 #[v,v'] w fun e w'=>e = .returned (.bool true)∧Ext w w':=by
 obtain ⟨a,cap,rfl,hm,hvw⟩:=row_view hR
 obtain ⟨a',cap',rfl,_,hvw'⟩:=row_view hR'
 have HV:=zd hvw
 have HV':=zd hvw'
 clear hvw hvw' hR hR'
 unfold maxLen at hm
 go_enter Tryz.func13,Tryz.ntmps13
 go_wp2_with fail
 go_loopg [5] L.length (fun g ii wr=>∃ (n:Nat) (y:ExtOf w),ii = .int .i64 (n:Int)∧n+g=L.length∧wr=y.val)
 case atStart=>exact ⟨0,⟨w,zR⟩,rfl,by omega,rfl⟩
 case round=>
  obtain ⟨n,y,rfl,hg,rfl⟩:=hrel
  by_cases hlt:n<L.length
  case neg=>
   have hge : ¬(n:Int)<(L.length:Int):=by omega
   go_wp2_with fail
   go_ret
   exact ⟨rfl,y.ext⟩
  have hlt':(n:Int)<(L.length:Int):=by omega
  obtain ⟨g,off,rfl,hgl,hc⟩:=HV.out (by omega)
  obtain ⟨g',off',rfl,hgl',hc'⟩:=HV'.out (by omega)
  have hgl:=hgl (by omega)
  have hgl':=hgl' (by omega)
  obtain ⟨m,hm0⟩ : ∃ m,L[n]?=some m:=⟨_,zG hlt⟩
  have HM1:=zd (fun (z:World) (e:Ext w z)=>mv_range (fun j u hj=>cell_keep (hc j u hj) e) hm0)
  have HM2:=zd (fun (z:World) (e:Ext w z)=>mv_range (fun j u hj=>cell_keep (hc' j u hj) e) hm0)
  clear hc hc' hm0
  go_upto_region 6 with fail
  refine wp_region_ext (by kernel_rfl) (by kernel_rfl) ?_
  repeat (go_big_quiet_step (fail))
  (go_big_quiet_want;refine quiet_load_midA 52 _ rfl g (off+n*9) rfl m.arr (.struct _) (HM1.out _ y.ext) zu52 rfl info_mv ?_;go_big_quiet_on;simp only [Act.put,List.setIfInBounds_toArray,List.set_cons_succ,List.set_cons_zero])
  repeat (go_big_quiet_step (fail))
  (go_big_quiet_want;refine quiet_load_midA 52 _ rfl g' (off'+n*9) rfl m.arr (.struct _) (HM2.out _ y.ext) zu52 rfl info_mv ?_;go_big_quiet_on;simp only [Act.put,List.setIfInBounds_toArray,List.set_cons_succ,List.set_cons_zero])
  repeat (go_big_quiet_step (fail))
  refine wpQuiet_nil ?_
  rintro _ ⟨u,rfl⟩
  go_wp2_with fail
  go_roundg (gk - 1)
  case rel=>exact ⟨n+1,⟨_,y.ext.val u⟩,rfl,by omega,rfl⟩
  case measure=>omega
structure Scr (s0 s1:Nat) (W w:World):Prop where
 os:w.os=W.os
 tape:w.tape=W.tape
 output:w.output=W.output
 size:w.heap.size=W.heap.size
 block : ∀ k:Nat,(k<s0∨s1≤k)→w.heap[k]?=W.heap[k]?
 shape : ∀ (k:Nat) (cs:Array Value) (t:TypeId) (fr:Nat×Nat),W.heap[k]?=some (.cells cs t fr)→∃ cs',w.heap[k]?=some (.cells cs' t fr)∧cs'.size=cs.size∧(t≠24→cs'=cs)
theorem Scr.refl (s0 s1:Nat) (W:World):Scr s0 s1 W W:=⟨rfl,rfl,rfl,rfl,fun _ _=>rfl,fun _ cs _ _ h=>⟨cs,h,rfl,fun _=>rfl⟩⟩
section
variable {s0 s1:Nat} {W w w':World}
theorem Scr.ext (h:Scr s0 s1 W w) (e:Ext w w') (hw:w'.heap.size=w.heap.size):Scr s0 s1 W w':=by
 have hb : ∀ {k:Nat} {o:Option Obj},w.heap[k]?=o→(∃ x,o=some x)→w'.heap[k]?=o:=fun {k o} ho ⟨x,hx⟩=>by
  subst hx
  exact heap_ext ho e
 refine ⟨e.os.trans h.os,e.tape.trans h.tape,e.output.trans h.output,hw.trans h.size,fun k hk=>?_,fun k cs t fr hk=>?_⟩
 ·by_cases hl:k<w.heap.size
  ·exact (e.block k hl).trans (h.block k hk)
  ·rw [←h.block k hk,Array.getElem?_eq_none (by omega),Array.getElem?_eq_none (by omega)]
 ·obtain ⟨cs',h1,h2⟩:=h.shape k cs t fr hk
  exact ⟨cs',heap_ext h1 e,h2⟩
theorem Scr.setC (h:Scr s0 s1 W w) {g o:Nat} {cs0:Array Value} {fr0:Nat×Nat} (hg:W.heap[g]?=some (.cells cs0 24 fr0)) (h0:s0≤g) (h1:g<s1) (u:Value):Scr s0 s1 W (w.setCell ⟨g,o,none⟩ u):=by
 refine ⟨h.os,h.tape,h.output,by simpa [World.setCell] using h.size,fun k hk=>(cell_other (by omega)).trans (h.block k hk),fun k cs t fr hk=>?_⟩
 obtain ⟨cs',h2,h3,h4⟩:=h.shape k cs t fr hk
 by_cases he:k=g
 ·subst he
  rw [hg] at hk
  cases hk
  exact ⟨_,setCell_row h2 u,by simpa using h3,fun hne=>absurd rfl hne⟩
 ·exact ⟨cs',(cell_other he).trans h2,h3,h4⟩
theorem Scr.own (h:Scr s0 s1 W w) {B:Nat} {e:TypeId} {size n:Nat} {v:Value} {xs:List Value} (o:W.ownsRow B e size v n xs) (hb : ∀ g∈rowB v,g<s0∨s1≤g):w.ownsRow B e size v n xs:=own_at o fun g hg=>h.block g (hb g hg)
theorem Scr.cell (h:Scr s0 s1 W w) {g:Nat} {cs:Array Value} {t:TypeId} {fr:Nat×Nat} (hg:W.heap[g]?=some (.cells cs t fr)) (ht:t≠24):w.heap[g]?=some (.cells cs t fr):=by
 obtain ⟨cs',h1,_,h3⟩:=h.shape g cs t fr hg
 rw [h1,h3 ht]
end
theorem info_lt5:(Tryz.prog.info? 24).map (·.size)=some 5:=by kernel_rfl
theorem eqIn_i2x (a b:Int) (w:World):(Op.equalIn 9998 55 (.agg #[.int .i64 a,.int .i64 b]) (.agg #[.int .i64 a,.int .i64 b])).run Tryz.prog w = .ok true w:=by
 obtain ⟨i,hi⟩:=Option.isSome_iff_exists.1 (show (Tryz.prog.info? 3).isSome=true by kernel_rfl)
 rw [run_equalIn_array w 9997 _ _ zu55 hi,show Tryz.prog.cellsOf 3=1 by kernel_rfl]
 simp [Op.eqItems,List.range_succ,go_sem]
theorem eqIn_i22 (a b c d:Int) (w:World):(Op.equalIn 9999 56 (.agg #[.int .i64 a,.int .i64 b,.int .i64 c,.int .i64 d]) (.agg #[.int .i64 a,.int .i64 b,.int .i64 c,.int .i64 d])).run Tryz.prog w = .ok true w:=by
 obtain ⟨i,hi⟩:=Option.isSome_iff_exists.1 (show (Tryz.prog.info? 55).isSome=true by kernel_rfl)
 rw [run_equalIn_array w 9998 _ _ zu56 hi,show Tryz.prog.cellsOf 55=2 by kernel_rfl]
 simp [Op.eqItems,List.range_succ,go_sem,eqIn_i2x]
def cenV (t:Bool) (r:Rg) (L:List Ex):Array Value:=cenA L.length t (L.map fun y=>(movesR evsS y r).length).sum (L.countP (finB 6 6)) (L.countP (finB 6 7)) (L.countP (finB 7 6)) (L.countP (finB 7 7)) (L.countP (fun y=>!okX y))
theorem cen_eql (t:Bool) (r:Rg) (L:List Ex) (w:World):(binOp .eql 58 (.agg (cenV t r L)) (.agg (cenV t r L))).run Tryz.prog w = .ok (.bool true) w:=by
 unfold cenV cenA
 simp [go_sem,eqIn_i22]
theorem Cn.val {r:Rg} {L:List Ex} {a b00 b01 b10 b11 k:Nat} (h:Cn r L a b00 b01 b10 b11 k) (t:Bool):cenA L.length t a b00 b01 b10 b11 k=cenV t r L:=by
 obtain ⟨rfl,rfl,rfl,rfl,rfl,rfl⟩:=h
 rfl
theorem Scr.setCs {s0 s1:Nat} {W:World} {g:Nat} {cs0:Array Value} {fr0:Nat×Nat} (hg:W.heap[g]?=some (.cells cs0 24 fr0)) (h0:s0≤g) (h1:g<s1) : ∀ (vs:List Value) (w:World) (o:Nat),Scr s0 s1 W w→Scr s0 s1 W (w.setCells g o vs)
 | [],_,_,h=>h
 | v::vs,w,o,h=>Scr.setCs hg h0 h1 vs _ _ (h.setC hg h0 h1 v)
theorem Scr.to {s0 s1:Nat} {a W w:World} (h:Scr s0 s1 W w) (e:Ext a W) (hs:a.heap.size≤s0):Ext a w:=
 ⟨h.os.trans e.os,h.tape.trans e.tape,h.output.trans e.output,h.size ▸ e.size,fun k hk=>(h.block k (.inl (by omega))).trans (e.block k hk)⟩
theorem Scr.there {s0 s1:Nat} {W w:World} (h:Scr s0 s1 W w) {g cap:Nat} {cur:Array Value} (hg:W.heap[g]?=some (.cells cur 24 (0,0))) (hs:cur.size=cap*5) {k:Nat} (hk:k<cap):w.there g (k*5) 5:=fun j hj=>by
 obtain ⟨cs',h1,h2,_⟩:=h.shape _ _ _ _ hg
 rw [zQ h1 _,zF h1 _]
 refine ⟨?_,rfl⟩
 rw [Array.getElem?_eq_getElem (by omega)]
 rfl
end Go.Proofs.YtlnmhocehgmbbaaGreatDoor
