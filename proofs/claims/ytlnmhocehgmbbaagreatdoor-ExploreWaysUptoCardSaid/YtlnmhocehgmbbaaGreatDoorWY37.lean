/- No condition. -/
import Derived.Test.YtlnmhocehgmbbaaGreatDoorWY12
import Derived.Test.YtlnmhocehgmbbaaGreatDoorWY29
import Derived.Test.YtlnmhocehgmbbaaGreatDoorWY34
import Derived.Test.YtlnmhocehgmbbaaGreatDoorWY36
set_option linter.all false
set_option maxRecDepth 100000
set_option maxHeartbeats 6400000
namespace Go.Proofs.YtlnmhocehgmbbaaGreatDoor
open Go.RowKit
attribute [local go_sem ↓] eql_lEq eql_sEq eql_eEq eql_oEq neq_lEq neq_sEq neq_eEq neq_oEq eql_vEq neq_vEq eql_nil
attribute [local go_sem] ExtOf.cell ExtOf.frozen ExtOf.lt ExtOf.le
attribute [local go_sem high] ExtOf.cell2 ExtOf.frozen2 ExtOf.lt2 ExtOf.cell3 ExtOf.frozen3 ExtOf.lt3
structure BD (wS w:World) (gx gb:Nat) (x:Ex) (v:Value) (bs:List Bool):Prop where
 ext:Ext wS w
 hx:ExAt w gx x v
 hb:w.heap[gb]?=some (.cells (bs.map Value.bool).toArray 117 (0,0))
 lo:wS.heap.size≤gb
 ne:gx≠gb
theorem BD.ext' {wS w w':World} {gx gb:Nat} {x:Ex} {v:Value} {bs:List Bool} (h:BD wS w gx gb x v bs) (e:Ext w w'):BD wS w' gx gb x v bs:=⟨h.ext.trans e,heap_ext h.hx e,heap_ext h.hb e,h.lo,h.ne⟩
theorem BD.set {wS w:World} {gx gb:Nat} {x:Ex} {v:Value} {bs:List Bool} (h:BD wS w gx gb x v bs) (i:Nat) (c:Bool):BD wS (w.setCell ⟨gb,i,none⟩ (.bool c)) gx gb x v (bs.set i c):=by
 refine ⟨h.ext.setCell (by exact h.lo) _,(cell_other h.ne).trans h.hx,?_,h.lo,h.ne⟩
 have:=heap_setCell_same _ _ i _ _ (.bool c) h.hb
 rw [this]
 simp [List.map_set]
def StAt (w:World) (g:Nat) (s:St):Prop:=w.heap[g]?=some (.cells #[.int .i64 s.r,.int .u64 s.c,.string s.t,.int .i64 s.ph,.int .i64 s.p.k,.int .i64 s.p.f,.int .u64 s.p.c,.string s.p.t,.bool s.p.b] 26 (0,0))
def part4 (x:Ex) (who:Int):Bool:=!x.b0 && (!x.b1 && ((x.st who).ph == 6 && (x.st (1 - who)).ph == 7))
theorem holds4_p (x:Ex):holds4 x=(part4 x 0 || part4 x 1):=by
 unfold holds4 part4
 cases x.b0<;>cases x.b1<;>simp [Ex.st,Bool.and_comm]
theorem rx_brokenL (x:Ex) (v:Value) (w:World) (hR:Hrd w x v) (hn:x.h.length≤100000):Calls Tryz.prog 39 #[.agg (x.arr v)] w (Made w 3 1 (brkX x).length ((brkX x).map vI)):=by
 have HR:=zd hR
 obtain ⟨a,cap,rfl,hm,hvw⟩:=row_view hR
 have HV:=zd hvw
 clear hvw hR hm
 go_enter Tryz.func39,Tryz.ntmps39
 go_upto_region 3 with fail
 refine wp_forget (fun w'=>∃ gx gb,Hid (gx=w.heap.size∧gb=w.heap.size+1)∧Hid (BD w w' gx gb x (.slice a x.h.length cap) [false,false,false,false,false,false])) ⟨w.heap.size,w.heap.size+1,zd ⟨rfl,rfl⟩,zd ⟨(two_new zR).2.2,(two_new zR).1,(two_new zR).2.1,by omega,by omega⟩⟩ ?_
 rintro W1 ⟨gx,gb,hg,HB⟩
 rw [←hg.out.2,←hg.out.1]
 clear hg
 go_wp2_with fail
 go_loopg [4,5,6] x.h.length (fun g tk ins ii wr=>∃ (n:Nat) (t i b:Bool),ii = .int .i64 (n:Int)∧n+g=x.h.length∧tk = .bool t∧ins = .bool i∧Hid (t=(x.h.take n).any (·.k == 5)∧i=(x.h.take n).any (·.k == 6)∧b=(x.h.take n).any fun l=>(l.k == 5 || l.k == 6) && !decide (l=saidX x))∧Hid (BD w wr gx gb x (.slice a x.h.length cap) [false,false,false,false,false,b]))
 case atStart=>exact ⟨0,false,false,false,rfl,by omega,rfl,rfl,zd ⟨rfl,rfl,rfl⟩,HB⟩
 case round=>
  clear HB
  obtain ⟨n,t,i,b,rfl,hg,rfl,rfl,HT,HB⟩:=hrel
  rename World=>Wr
  have hxa:=HB.out.hx
  unfold ExAt Ex.arr at hxa
  have q1:=zQ hxa
  have l1:gx<Wr.heap.size:=zL hxa
  clear hxa
  by_cases hlt:n<x.h.length
  case neg=>
   have hge : ¬(n:Int)<(x.h.length:Int):=by omega
   have hbb:=HB.out.hb
   have rb:=zQ hbb
   have fb:=zF hbb
   have lb:gb<Wr.heap.size:=zL hbb
   clear hbb
   have HT9:Hid (t=x.h.any (·.k == 5)∧i=x.h.any (·.k == 6)∧b=holds5 x):=zd (by
    have h:=HT.out
    rw [List.take_of_length_le (by omega)] at h
    exact h)
   clear HT
   go_upto_region 12 with fail
   refine wp_forget (fun w'=>Hid (BD w w' gx gb x (.slice a x.h.length cap) [false,false,false,false,false,b])) HB ?_
   rintro W2 HB2
   have hbb:=HB2.out.hb
   have rb:=zQ hbb
   have fb:=zF hbb
   have lb:gb<W2.heap.size:=zL hbb
   clear hbb HB
   have HH3:Hid ((t && i)=holds3 x):=zd (by rw [HT9.out.1,HT9.out.2.1];rfl)
   go_cut [] from 64 to 68 (fun wc=>wc=W2.setCell ⟨gb,3,none⟩ (.bool (t && i)))
   case first=>
    cases t<;>(go_wp2_with fail;go_meet;rfl)
   case rest=>
   subst hcut
   have HB0':=zd (HB2.out.set 3 (t && i))
   generalize W2.setCell ⟨gb,3,none⟩ (.bool (t && i))=W3 at HB0' ⊢
   have HB3:Hid (BD w W3 gx gb x (.slice a x.h.length cap) [false,false,false,holds3 x,false,holds5 x]):=zd (by
    have:=HB0'.out
    rw [HH3.out,HT9.out.2.2] at this
    exact this)
   clear HB0'
   clear HB2 rb fb lb HH3 HT9 q1 l1
   go_wp2_with fail
   go_loopg [10] 2 (fun g ii wr=>∃ (n:Nat) (c1 c2 c4:Bool),ii = .int .i64 (n:Int)∧n+g=2∧Hid (c1=(List.range n).any (fun i:Nat=>part1 x i)∧c2=(List.range n).any (fun i:Nat=>part2 x i)∧c4=(List.range n).any (fun i:Nat=>part4 x i))∧Hid (BD w wr gx gb x (.slice a x.h.length cap) [false,c1,c2,holds3 x,c4,holds5 x]))
   case atStart=>exact ⟨0,false,false,false,rfl,rfl,zd ⟨rfl,rfl,rfl⟩,HB3⟩
   case round=>
    clear HB3 hge hlt hg
    obtain ⟨n,c1,c2,c4,rfl,hg,HT,HB⟩:=hrel
    rename World=>Wr
    by_cases hlt:n<2
    case neg=>
     skip
     have h2:n=2:=by omega
     subst h2
     obtain ⟨bs,hbs⟩ : ∃ bs,bs=[false,c1,c2,holds3 x,c4,holds5 x]:=⟨_,rfl⟩
     rw [←hbs] at HB
     have HF:Hid (brkX x=brkB bs 6∧bs.length=6∧bs[0]?.getD false=false):=zd (by
      obtain ⟨t1,t2,t4⟩:=HT.out
      subst hbs
      refine ⟨?_,rfl,rfl⟩
      unfold brkX
      rw [t1,t2,t4,holds1_eq,holds2_eq,holds4_p]
      simp [List.range_succ])
     clear HT hbs
     obtain ⟨i0,hi,hz0,hz1,hz2⟩:=info_parts info_int
     go_wp2_with fail
     go_loopg [12,13] 5 (fun g l ii wr=>∃ (n:Nat),ii = .int .i64 (n:Int)∧n+g=6∧1≤n∧Hid (wr.ownsRow Wr.heap.size 3 1 l (brkB bs n).length ((brkB bs n).map vI)∧Ext Wr wr))
     case atStart=>exact ⟨1,rfl,rfl,Nat.le_refl _,zd ⟨by rw [show brkB bs 1=[] from (brk_no HF.out.2.2).trans rfl];exact World.ownsRow_nil _ _ _ _,zR⟩⟩
     case round=>
      obtain ⟨n,rfl,hg,h1n,HM⟩:=hrel
      rename World=>Wq
      have hMl:=brk_len bs n
      have hszW:Wr.heap.size≤Wq.heap.size:=HM.out.2.size
      obtain ⟨bi,hbi⟩ : ∃ b,bs[n]?.getD false=b:=⟨_,rfl⟩
      have HBI:=zd hbi
      have hcell:n<6→Wq.cell? ⟨gb,n,none⟩=some (.bool bi):=fun h6=>by
       rw [cell_of_row Wq _ n _ _ _ (heap_ext HB.out.hb HM.out.2),←HBI.out]
       have:n<bs.length:=by rw [HF.out.2.1];exact h6
       simp [this]
      have lb:gb<Wq.heap.size:=zU (zL HB.out.hb) HM.out.2.size
      clear hbi
      have hor:n=6∨n=1∨n=2∨n=3∨n=4∨n=5:=by omega
      rcases hor with rfl|hor
      ·clear hcell
       go_wp2_with fail
       go_ret
       have ho:=HM.out.1
       rw [←HF.out.1] at ho
       exact ⟨_,rfl,own_base ho HB.out.ext.size,HB.out.ext.trans HM.out.2⟩
      ·have hcell:=hcell (by omega)
       rcases hor with rfl|rfl|rfl|rfl|rfl
       all_goals
        rcases bi
        ·go_wp2_with fail
         go_roundg (gk - 1)
         case rel=>exact ⟨_+1,rfl,by omega,by omega,zd ⟨by rw [brk_no HBI.out];exact HM.out.1,HM.out.2⟩⟩
         case measure=>omega
        ·go_wp2_with (at_builtin;refine wpList_app Wr.heap.size 95 3 i0 _ 1 8 zu95 hi hz0 hz1 hz2 rfl (by decide) rfl _ _ rfl _ _ _ rfl (own_ext HM.out.1 ((Ext.refl Wq).alloc _)) (zT hszW ((Ext.refl Wq).alloc _).size) Wq.heap.size 1 1 _ rfl (heap_new rfl) rfl (by simp [Value.oneCell']) (by unfold maxLen;omega) (by omega) ?_;intro v2 w2 hv2 hb2 _)
         go_roundg (gk - 1)
         case rel=>exact ⟨_+1,rfl,by omega,by omega,zd ⟨by rw [brk_yes HBI.out,List.length_append,List.map_append];exact hv2,(HM.out.2.alloc _).trans' hb2⟩⟩
         case measure=>omega
    have hn2:n=0∨n=1:=by omega
    obtain ⟨s,hs⟩ : ∃ s,x.st (n:Int)=s:=⟨_,rfl⟩
    obtain ⟨bd,hbd⟩ : ∃ b,x.bad (n:Int)=b:=⟨_,rfl⟩
    obtain ⟨op,hop⟩ : ∃ o,(x.st (1 - (n:Int))).ph=o:=⟨_,rfl⟩
    obtain ⟨bl,hbl⟩ : ∃ l,(boundX x (n:Int)).length=l:=⟨_,rfl⟩
    obtain ⟨cn,hcn⟩ : ∃ b,canS x s.p=b:=⟨_,rfl⟩
    obtain ⟨b0,hb0⟩ : ∃ b,x.b0=b:=⟨_,rfl⟩
    obtain ⟨b1,hb1⟩ : ∃ b,x.b1=b:=⟨_,rfl⟩
    have hbo : ∀ w',Ext w w'→Calls Tryz.prog 45 #[.agg (x.arr (.slice a x.h.length cap)),.int .i64 (n:Int)] w' fun e w''=>∃ a c,e = .returned (.slice a bl c)∧Ext w' w'':=fun w' hw=>by
     have:=rx_bound x _ (n:Int) w' (HR.out.ext hw) hn
     rw [hbl] at this
     exact this
    have hca : ∀ w',Ext w w'→Calls Tryz.prog 46 #[.agg (x.arr (.slice a x.h.length cap)),.agg #[.int .i64 s.p.k,.int .i64 s.p.f,.int .u64 s.p.c,.string s.p.t,.bool s.p.b]] w' fun e w''=>e = .returned (.bool cn)∧Ext w' w'':=fun w' hw=>by
     have:=rx_can x _ s.p w' (HR.out.ext hw)
     rw [hcn] at this
     exact this
    have HBO:=zd hbo
    have HCA:=zd hca
    have HT2:Hid ((c1 || (!bd && (s.ph == 7 && decide (0<bl))))=(List.range (n+1)).any (fun i:Nat=>part1 x i)∧(c2 || (!bd && (s.ph == 6 && !cn)))=(List.range (n+1)).any (fun i:Nat=>part2 x i)∧(c4 || (!b0 && (!b1 && (s.ph == 6 && op == 7))))=(List.range (n+1)).any (fun i:Nat=>part4 x i)):=zd (by
     rw [List.range_succ,List.any_append,List.any_append,List.any_append,←HT.out.1,←HT.out.2.1,←HT.out.2.2]
     unfold part1 part2 part4
     simp only [List.any_cons,List.any_nil,Bool.or_false,hs,hbd,hop,hbl,hcn,hb0,hb1,and_self])
    have HS:=zd hs
    have HBd:=zd hbd
    have HOp:=zd hop
    have HBl:=zd hbl
    have HCn:=zd hcn
    have HB0:=zd hb0
    have HB1:=zd hb1
    clear hs hbd hop hbl hcn hb0 hb1 HT hlt hbo hca
    rcases hn2 with rfl|rfl
    all_goals
     skip
     have hxa:=HB.out.hx
     unfold ExAt Ex.arr at hxa
     have q1:=zQ hxa
     have l1:gx<Wr.heap.size:=zL hxa
     clear hxa
     go_upto_region 17 with fail
     refine wp_forget (fun w'=>∃ g9,Hid (g9=Wr.heap.size)∧Hid (StAt w' g9 s)∧Hid (Ext Wr w')) ⟨_,zd rfl,zd (by rw [←HS.out];exact (one_new zR).1),zd (one_new zR).2⟩ ?_
     rintro W6 ⟨g9,hg9,H9,HE6⟩
     rw [←hg9.out]
     have HN9:Hid (g9≠gb):=zd (by have:=(zL HB.out.hb);have:=hg9.out;omega)
     have HB6:=zd (HB.out.ext' HE6.out)
     first
      | (have qb:W6.cell? ⟨gx,22,none⟩=some (.bool bd):=by rw [←HBd.out];exact zQ HB6.out.hx 22)
      | (have qb:W6.cell? ⟨gx,23,none⟩=some (.bool bd):=by rw [←HBd.out];exact zQ HB6.out.hx 23)
     have l6:gx<W6.heap.size:=zL HB6.out.hx
     clear q1 l1 HB HE6 hg9
     go_upto_if 81 with fail
     go_cut [] from 82 to 111 (fun wc=>Hid (StAt wc g9 s)∧Hid (BD w wc gx gb x (.slice a x.h.length cap) [false,c1 || (!bd && (s.ph == 7 && decide (0<bl))),c2 || (!bd && (s.ph == 6 && !cn)),holds3 x,c4,holds5 x]))
     case first=>
      rcases bd
      case true=>
       go_wp2_with fail
       go_meet
       case rel=>exact ⟨H9,zd (by simpa using HB6.out)⟩
      case false=>
       clear qb l6
       go_upto_region 18 with fail
       go_cut [] from 82 to 96 (fun wc=>Hid (StAt wc g9 s)∧Hid (BD w wc gx gb x (.slice a x.h.length cap) [false,c1 || (s.ph == 7 && decide (0<bl)),c2,holds3 x,c4,holds5 x]))
       case first=>
        skip
        have hbb:=HB6.out.hb
        have rb:=zQ hbb
        have fb:=zF hbb
        have lb:gb<W6.heap.size:=zL hbb
        have hss:=H9.out
        unfold StAt at hss
        have r9:=zQ hss
        have l9:g9<W6.heap.size:=zL hss
        clear hbb hss
        rcases c1
        case true=>
         go_wp2_with fail
         go_meet
         case rel=>exact ⟨zd ((cell_other HN9.out).trans H9.out),zd (by simpa using BD.set HB6.out 1 true)⟩
        rcases h7:(s.ph == 7)
        case false=>
         go_wp2_with fail
         go_meet
         case rel=>exact ⟨zd ((cell_other HN9.out).trans H9.out),zd (by simpa [h7] using BD.set HB6.out 1 false)⟩
        have hbx:bl=0∨0<bl:=by omega
        rcases hbx with rfl|hp
        all_goals
         go_wp2_with (first|(go_at_call 45;refine (HBO.out _ HB6.out.ext).mono ?_;rintro e w9 ⟨a9,c9,rfl,hx9⟩;have hbb:=heap_ext HB6.out.hb hx9;clear rb fb lb r9 l9;have rb:=zQ hbb;have fb:=zF hbb;have lb:gb<w9.heap.size:=(zL hbb);have HX9:=zd hx9;clear hx9 hbb)|((with_reducible refine wpList_load_rowG ?_ 33 (.tmp 1) ?_ gx ?_ 33 (x.arr (.slice a x.h.length cap)) (0,0) _ ?_ zu33 ?_ ?_ ?_);(·rfl);(·rfl);(·rfl);(·exact HB6.out.hx);(·rfl);(·exact info_ex)))
         go_meet
         case rel=>first|exact ⟨zd ((cell_other HN9.out).trans (heap_ext H9.out HX9.out)),zd (by simpa [h7] using BD.set (HB6.out.ext' HX9.out) 1 false)⟩|(rw [show decide (0<bl)=true from decide_eq_true hp];exact ⟨zd ((cell_other HN9.out).trans (heap_ext H9.out HX9.out)),zd (by simpa [h7] using BD.set (HB6.out.ext' HX9.out) 1 true)⟩)
       case rest=>
        obtain ⟨H7,HB7⟩:=hcut
        rename World=>W7
        clear H9 HB6
        go_upto_region 19 with fail
        generalize hc1:(c1 || (s.ph == 7 && decide (0<bl)))=c1' at HB7
        have HC1:=zd hc1
        clear hc1
        go_cut [] from 97 to 111 (fun wc=>Hid (StAt wc g9 s)∧Hid (BD w wc gx gb x (.slice a x.h.length cap) [false,c1',c2 || (s.ph == 6 && !cn),holds3 x,c4,holds5 x]))
        case first=>
         skip
         have hbb:=HB7.out.hb
         have rb:=zQ hbb
         have fb:=zF hbb
         have lb:gb<W7.heap.size:=zL hbb
         have hss:=H7.out
         unfold StAt at hss
         have r9:=zQ hss
         have l9:g9<W7.heap.size:=zL hss
         clear hbb hss
         rcases c2
         case true=>
          go_wp2_with fail
          go_meet
          case rel=>exact ⟨zd ((cell_other HN9.out).trans H7.out),zd (by simpa using BD.set HB7.out 2 true)⟩
         rcases h7:(s.ph == 6)
         case false=>
          go_wp2_with fail
          go_meet
          case rel=>exact ⟨zd ((cell_other HN9.out).trans H7.out),zd (by simpa [h7] using BD.set HB7.out 2 false)⟩
         rcases cn
         all_goals
          go_wp2_with (first|(go_at_call 46;refine (HCA.out _ HB7.out.ext).mono ?_;rintro e w9 ⟨rfl,hx9⟩;have hbb:=heap_ext HB7.out.hb hx9;clear rb fb lb r9 l9;have rb:=zQ hbb;have fb:=zF hbb;have lb:gb<w9.heap.size:=(zL hbb);have HX9:=zd hx9;clear hx9 hbb)|((with_reducible refine wpList_load_rowG ?_ 33 (.tmp 1) ?_ gx ?_ 33 (x.arr (.slice a x.h.length cap)) (0,0) _ ?_ zu33 ?_ ?_ ?_);(·rfl);(·rfl);(·rfl);(·exact HB7.out.hx);(·rfl);(·exact info_ex)))
          go_meet
          case rel=>first|exact ⟨zd ((cell_other HN9.out).trans (heap_ext H7.out HX9.out)),zd (by simpa [h7] using BD.set (HB7.out.ext' HX9.out) 2 true)⟩|exact ⟨zd ((cell_other HN9.out).trans (heap_ext H7.out HX9.out)),zd (by simpa [h7] using BD.set (HB7.out.ext' HX9.out) 2 false)⟩
        case rest=>
         obtain ⟨H8,HB8⟩:=hcut
         rename World=>W8
         go_wp2_with fail
         go_meet
         case rel=>exact ⟨H8,zd (by have:=HB8.out;rw [←HC1.out] at this;simpa using this)⟩
     case rest=>
      obtain ⟨H7,HB7⟩:=hcut
      rename World=>W7
      clear qb l6 H9 HB6
      have HT3:=HT2
      generalize (c1 || (!bd && (s.ph == 7 && decide (0<bl))))=c1' at HB7 HT3
      generalize (c2 || (!bd && (s.ph == 6 && !cn)))=c2' at HB7 HT3
      go_upto_region 20 with fail
      have hbb:=HB7.out.hb
      have rb:=zQ hbb
      have fb:=zF hbb
      have lb:gb<W7.heap.size:=zL hbb
      have hss:=H7.out
      unfold StAt at hss
      have r9:=zQ hss
      have l9:g9<W7.heap.size:=zL hss
      clear hbb hss
      have q22:W7.cell? ⟨gx,22,none⟩=some (.bool b0):=by rw [←HB0.out];exact zQ HB7.out.hx 22
      have q23:W7.cell? ⟨gx,23,none⟩=some (.bool b1):=by rw [←HB1.out];exact zQ HB7.out.hx 23
      first
       | (have qo:W7.cell? ⟨gx,13,none⟩=some (.int .i64 op):=by rw [←HOp.out];exact zQ HB7.out.hx 13)
       | (have qo:W7.cell? ⟨gx,4,none⟩=some (.int .i64 op):=by rw [←HOp.out];exact zQ HB7.out.hx 4)
      have lx:gx<W7.heap.size:=zL HB7.out.hx
      rcases c4
      case true=>
       go_wp2_with fail
       go_roundg (gk - 1)
       case rel=>exact ⟨_+1,c1',c2',true,rfl,by omega,zd ⟨HT3.out.1,HT3.out.2.1,by rw [←HT3.out.2.2];simp⟩,zd (by simpa using BD.set HB7.out 4 true)⟩
       case measure=>omega
      rcases b0
      case true=>
       go_wp2_with fail
       go_roundg (gk - 1)
       case rel=>exact ⟨_+1,c1',c2',false,rfl,by omega,zd ⟨HT3.out.1,HT3.out.2.1,by rw [←HT3.out.2.2];simp⟩,zd (by simpa using BD.set HB7.out 4 false)⟩
       case measure=>omega
      rcases b1
      case true=>
       go_wp2_with fail
       go_roundg (gk - 1)
       case rel=>exact ⟨_+1,c1',c2',false,rfl,by omega,zd ⟨HT3.out.1,HT3.out.2.1,by rw [←HT3.out.2.2];simp⟩,zd (by simpa using BD.set HB7.out 4 false)⟩
       case measure=>omega
      rcases h6:(s.ph == 6)
      case false=>
       go_wp2_with fail
       go_roundg (gk - 1)
       case rel=>exact ⟨_+1,c1',c2',false,rfl,by omega,zd ⟨HT3.out.1,HT3.out.2.1,by rw [←HT3.out.2.2];simp [h6]⟩,zd (by simpa [h6] using BD.set HB7.out 4 false)⟩
       case measure=>omega
      rcases h7:(op == 7)
      case false=>
       go_wp2_with fail
       go_roundg (gk - 1)
       case rel=>exact ⟨_+1,c1',c2',false,rfl,by omega,zd ⟨HT3.out.1,HT3.out.2.1,by rw [←HT3.out.2.2];simp [h7]⟩,zd (by simpa [h7] using BD.set HB7.out 4 false)⟩
       case measure=>omega
      go_wp2_with fail
      go_roundg (gk - 1)
      case rel=>exact ⟨_+1,c1',c2',true,rfl,by omega,zd ⟨HT3.out.1,HT3.out.2.1,by rw [←HT3.out.2.2];simp [h6,h7]⟩,zd (by simpa [h6,h7] using BD.set HB7.out 4 true)⟩
      case measure=>omega
  have hlt':(n:Int)<(x.h.length:Int):=by omega
  obtain ⟨g0,off,rfl,hgl,hcell⟩:=HV.out (by omega)
  have hgl:=hgl (by omega)
  obtain ⟨z,hz⟩ : ∃ z,x.h[n]?=some z:=⟨_,zG hlt⟩
  obtain ⟨z0,z1,z2,z3,z4⟩:=lt_cellsO (fun j u hj=>cell_keep (hcell j u hj) HB.out.ext) hz
  have HZ:=zd hz
  have hgl1:g0<Wr.heap.size:=zU hgl HB.out.ext.size
  clear hz hcell hgl
  go_upto_region 7 with fail
  refine wp_forget (fun w'=>∃ g7,Hid (g7=Wr.heap.size)∧w'.heap[g7]?=some (.cells #[.int .i64 z.k,.int .i64 z.f,.int .u64 z.c,.string z.t,.bool z.b] 24 (0,0))∧Hid (Ext Wr w')) ⟨_,zd rfl,(one_new zR).1,zd (one_new zR).2⟩ ?_
  rintro W7 ⟨g7,hg7,h7,HE7⟩
  rw [←hg7.out]
  clear hg7 q1 l1 z0 z1 z2 z3 z4 hgl1
  have HB7:=zd (HB.out.ext' HE7.out)
  have H7:=zd h7
  have r7:=zQ h7
  have l7:g7<W7.heap.size:=zL h7
  clear h7 HE7 HB
  go_cut [4] from 26 to 31 (fun s4 wc=>s4 = .bool (t || z.k == 5)∧wc=W7)
  case first=>
   cases t<;>(go_wp2_with fail;go_meet;exact ⟨by simp,rfl⟩)
  case rest=>
  obtain ⟨rfl,rfl⟩:=hcut
  rename World=>W7
  go_upto_region 8 with fail
  go_cut [5] from 32 to 37 (fun s5 wc=>s5 = .bool (i || z.k == 6)∧wc=W7)
  case first=>
   cases i<;>(go_wp2_with fail;go_meet;exact ⟨by simp,rfl⟩)
  case rest=>
  obtain ⟨rfl,rfl⟩:=hcut
  rename World=>W7
  have HT2:Hid ((t || z.k == 5)=(x.h.take (n+1)).any (·.k == 5)∧(i || z.k == 6)=(x.h.take (n+1)).any (·.k == 6)):=zd (by
   rw [List.take_add_one,HZ.out,List.any_append,List.any_append,HT.out.1,HT.out.2.1]
   simp)
  have HT3:Hid ((b || ((z.k == 5 || z.k == 6) && !decide (z=saidX x)))=(x.h.take (n+1)).any fun l=>(l.k == 5 || l.k == 6) && !decide (l=saidX x)):=zd (by
   rw [List.take_add_one,HZ.out,List.any_append,HT.out.2.2]
   simp)
  generalize (t || z.k == 5)=t2 at HT2 ⊢
  generalize (i || z.k == 6)=i2 at HT2 ⊢
  clear HT
  rcases h56:(z.k == 5 || z.k == 6)
  case false=>
   rw [h56] at HT3
   have HT4:=HT3
   have h5:(z.k == 5)=false:=(Bool.or_eq_false_iff.1 h56).1
   have h6:(z.k == 6)=false:=(Bool.or_eq_false_iff.1 h56).2
   clear h56 HT3
   go_wp2_with fail
   go_roundg (gk - 1)
   case rel=>exact ⟨n+1,t2,i2,b,rfl,by omega,rfl,rfl,zd ⟨HT2.out.1,HT2.out.2,by simpa using HT4.out⟩,HB7⟩
   case measure=>omega
  rw [h56,Bool.true_and] at HT3
  have hxa:=HB7.out.hx
  unfold ExAt Ex.arr at hxa
  have q1:=zQ hxa
  have l1:gx<W7.heap.size:=zL hxa
  clear hxa
  have K7 : ∀ (Q:Act→World→Prop) (cd:Code) (ac:Act),True:=fun _ _ _=>trivial
  clear K7
  have h5:(z.k == 5)=true∨((z.k == 5)=false∧(z.k == 6)=true):=by
   cases h:(z.k == 5)
   ·rw [h,Bool.false_or] at h56;exact .inr ⟨rfl,h56⟩
   ·exact .inl rfl
  clear h56
  rcases h5 with h5|⟨h5,h6⟩
  all_goals
   go_upto_region 11 with (go_at_call 68;refine (rv_saysL x.v _).mono ?_;rintro e w9 ⟨rfl,hx9⟩)
   refine wp_forget (fun w'=>∃ g8,Hid (g8=w9.heap.size)∧Hid (w'.heap[g8]?=some (.cells #[.int .i64 ((saysS x.v).getD l0).k,.int .i64 ((saysS x.v).getD l0).f,.int .u64 ((saysS x.v).getD l0).c,.string ((saysS x.v).getD l0).t,.bool ((saysS x.v).getD l0).b] 24 (0,0)))∧Hid (Ext W7 w')) ⟨_,zd rfl,zd (one_new zR).1,zd (hx9.trans (one_new zR).2)⟩ ?_
   rintro W8 ⟨g8,hg8,H8,HE8⟩
   rw [←hg8.out]
   have HB8:=zd (HB7.out.ext' HE8.out)
   have h7:=heap_ext H7.out HE8.out
   have r7:=zQ h7
   have l7:g7<W8.heap.size:=zL h7
   have h8:=H8.out
   have HM:Hid ((saysS x.v).getD l0=saidX x):=zd rfl
   have HN:Hid ((saysS x.v).isSome=false→saidX x=l0):=zd (fun h=>by unfold saidX;rw [Option.isSome_eq_false_iff.1 h |> Option.isNone_iff_eq_none.1];rfl)
   generalize (saysS x.v).getD l0=M at HM h8 ⊢
   generalize (saysS x.v).isSome=ok at HN ⊢
   have r8:=zQ h8
   have l8:g8<W8.heap.size:=zL h8
   have hbb:=HB8.out.hb
   have rb:=zQ hbb
   have fb:=zF hbb
   have lb:gb<W8.heap.size:=zL hbb
   have HZK:Hid (ok=false→(!decide (z=saidX x))=true):=zd (fun h=>by
    rw [HN.out h]
    have:z≠l0:=fun e=>by subst e;simp [l0] at *
    simp [this])
   have HLE:Hid ((!lEq M.k M.f M.c M.t M.b z.k z.f z.c z.t z.b) = !decide (z=saidX x)):=zd (by
    rw [lEq_lt,HM.out]
    congr 1
    exact decide_eq_decide.2 eq_comm)
   clear h7 h8 hbb HM HN H8 HE8 hx9 q1 l1 hg8 HB7
   generalize (!decide (z=saidX x))=d at HT3 HZK HLE
   generalize hle:(!lEq M.k M.f M.c M.t M.b z.k z.f z.c z.t z.b)=le at HLE
   have HLQ:=zd hle
   clear hle
   cases b
   ·cases ok
    ·have hd:=HZK.out rfl
     clear HZK HLE HLQ
     subst hd
     go_wp2_with fail
     go_roundg (gk - 1)
     case rel=>exact ⟨n+1,t2,i2,true,rfl,by omega,rfl,rfl,zd ⟨HT2.out.1,HT2.out.2,by rw [←HT3.out];rfl⟩,zd (HB8.out.set 5 true)⟩
     case measure=>omega
    ·have hle:=HLQ.out
     go_wp2_with fail
     go_roundg (gk - 1)
     case rel=>exact ⟨n+1,t2,i2,le,rfl,by omega,rfl,rfl,zd ⟨HT2.out.1,HT2.out.2,by rw [←HT3.out];rw [←HLE.out];simp⟩,zd (HB8.out.set 5 le)⟩
     case measure=>omega
   ·clear HLE HLQ
    go_wp2_with fail
    go_roundg (gk - 1)
    case rel=>exact ⟨n+1,t2,i2,true,rfl,by omega,rfl,rfl,zd ⟨HT2.out.1,HT2.out.2,by rw [←HT3.out];simp⟩,zd (HB8.out.set 5 true)⟩
    case measure=>omega
theorem brk_nonneg {f:List Bool} {n:Nat} : ∀ z∈brkB f n,0≤z:=fun z hz=>by
 simp only [brkB,List.mem_map] at hz
 obtain ⟨i,_,rfl⟩:=hz
 omega
def in0 (b:Int) (x:Ex):Bool:=decide (b=0) || (decide (b<0) && okX x)
theorem brkT_eq (b:Int) (x:Ex):(in0 b x || (brkX x).any (·== b))=brkT b x:=by
 unfold brkT in0
 by_cases h:b<0
 ·rw [if_pos h,show (brkX x).any (·== b)=false from List.any_eq_false.2 fun z hz=>by have:=brk_nonneg z hz;simp;omega]
  simp [h]
  omega
 by_cases h0:b=0
 ·simp [h0]
 ·rw [if_neg h,if_neg h0]
  rw [Bool.eq_iff_iff]
  simp [h,h0]
theorem rx_meets (x:Ex) (v:Value) (q:Wi) (w:World) (hR:Hrd w x v) (hn:x.h.length≤100000) :
 Calls Tryz.prog 24 #[.agg (x.arr v),.agg q.arr] w fun e w'=>e = .returned (.bool (meetS q x))∧Ext w w':=by
 have HR:=zd hR
 clear hR
 go_enter Tryz.func24,Tryz.ntmps24
 go_upto_region 1 with fail
 refine wp_forget (fun w'=>∃ gx gq,Hid (gx=w.heap.size∧gq=w.heap.size+1)∧ExAt w' gx x v∧w'.heap[gq]?=some (.cells q.arr 62 (0,0))∧Ext w w') ⟨_,_,zd ⟨rfl,rfl⟩,(two_new zR).1,(two_new zR).2.1,(two_new zR).2.2⟩ ?_
 rintro W1 ⟨gx,gq,hgx,h1,h2,x1⟩
 rw [←hgx.out.2,←hgx.out.1]
 have HE1:=zd x1
 have HX1:=zd h1
 have HQ1:=zd h2
 clear hgx x1
 have q4:W1.cell? ⟨gx,4,none⟩=some (.int .i64 x.s0.ph):=zQ h1 4
 have q13:W1.cell? ⟨gx,13,none⟩=some (.int .i64 x.s1.ph):=zQ h1 13
 have q20:W1.cell? ⟨gx,20,none⟩=some (.int .i64 x.v.k):=zQ h1 20
 have p0:W1.cell? ⟨gq,0,none⟩=some (.int .i64 q.p0):=zQ h2 0
 have p1:W1.cell? ⟨gq,1,none⟩=some (.int .i64 q.p1):=zQ h2 1
 have p2:W1.cell? ⟨gq,2,none⟩=some (.int .i64 q.vd):=zQ h2 2
 have l1:gx<W1.heap.size:=zL h1
 have l2:gq<W1.heap.size:=zL h2
 clear h1 h2
 go_wp2_with fail
 go_loopg [5] 2 (fun g ii wr=>∃ (i:Int) (y:ExtOf W1),ii = .int .i64 i∧i+(g:Int)=2∧0≤i∧wr=y.val∧Hid ((0<i→tst q.p0 x.s0.ph=true)∧(1<i→tst q.p1 x.s1.ph=true)))
 case atStart=>exact ⟨0,⟨W1,zR⟩,rfl,rfl,by omega,rfl,zd ⟨fun h=>by omega,fun h=>by omega⟩⟩
 case round=>
  obtain ⟨i,y,rfl,hg,hi0,rfl,HT⟩:=hrel
  have hi:i=0∨i=1∨i=2:=by omega
  rcases hi with rfl|rfl|rfl
  ·have e0:(0:Int)<2:=by decide
   by_cases ha1:0≤q.p0
   case neg=>
    have HT2:=zd (tst_yes (h:=x.s0.ph) (fun h=>ha1 h.1))
    go_upto_region 4 with fail
    refine wp_region_ext (by kernel_rfl) (by kernel_rfl) ?_
    repeat (go_big_quiet_step (fail))
    refine wpQuiet_nil ?_
    rintro _ ⟨u,rfl⟩
    go_wp2_with fail
    go_roundg (gk - 1)
    case rel=>exact ⟨1,⟨_,y.ext.val u⟩,rfl,by omega,by omega,rfl,zd ⟨fun _=>HT2.out,fun h=>absurd h (by omega)⟩⟩
    case measure=>omega
   by_cases ha2:x.s0.ph=q.p0
   case pos=>
    have ha3:(x.s0.ph != q.p0)=false:=by simp [ha2]
    have HT2:=zd (tst_yes (p:=q.p0) (fun h=>h.2 ha2))
    clear ha2
    go_upto_region 4 with fail
    refine wp_region_ext (by kernel_rfl) (by kernel_rfl) ?_
    repeat (go_big_quiet_step (fail))
    refine wpQuiet_nil ?_
    rintro _ ⟨u,rfl⟩
    go_wp2_with fail
    go_roundg (gk - 1)
    case rel=>exact ⟨1,⟨_,y.ext.val u⟩,rfl,by omega,by omega,rfl,zd ⟨fun _=>HT2.out,fun h=>absurd h (by omega)⟩⟩
    case measure=>omega
   have ha3:(x.s0.ph != q.p0)=true:=by simp [ha2]
   have HT2:=zd (tst_no ha1 ha2)
   clear ha2
   go_upto_region 4 with fail
   refine wp_region_ext (by kernel_rfl) (by kernel_rfl) ?_
   repeat (go_big_quiet_step (fail))
   refine wpQuiet_nil ?_
   rintro _ ⟨u,rfl⟩
   go_wp2_with fail
   go_ret
   exact ⟨by rw [show meetS q x=false by simp [meetS,HT2.out]];rfl,HE1.out.trans (y.ext.val u)⟩
  ·have e0:(1:Int)<2:=by decide
   by_cases ha1:0≤q.p1
   case neg=>
    have HT2:=zd (tst_yes (h:=x.s1.ph) (fun h=>ha1 h.1))
    go_upto_region 4 with fail
    refine wp_region_ext (by kernel_rfl) (by kernel_rfl) ?_
    repeat (go_big_quiet_step (fail))
    refine wpQuiet_nil ?_
    rintro _ ⟨u,rfl⟩
    go_wp2_with fail
    go_roundg (gk - 1)
    case rel=>exact ⟨2,⟨_,y.ext.val u⟩,rfl,by omega,by omega,rfl,zd ⟨fun _=>HT.out.1 (by omega),fun h=>HT2.out⟩⟩
    case measure=>omega
   by_cases ha2:x.s1.ph=q.p1
   case pos=>
    have ha3:(x.s1.ph != q.p1)=false:=by simp [ha2]
    have HT2:=zd (tst_yes (p:=q.p1) (fun h=>h.2 ha2))
    clear ha2
    go_upto_region 4 with fail
    refine wp_region_ext (by kernel_rfl) (by kernel_rfl) ?_
    repeat (go_big_quiet_step (fail))
    refine wpQuiet_nil ?_
    rintro _ ⟨u,rfl⟩
    go_wp2_with fail
    go_roundg (gk - 1)
    case rel=>exact ⟨2,⟨_,y.ext.val u⟩,rfl,by omega,by omega,rfl,zd ⟨fun _=>HT.out.1 (by omega),fun h=>HT2.out⟩⟩
    case measure=>omega
   have ha3:(x.s1.ph != q.p1)=true:=by simp [ha2]
   have HT2:=zd (tst_no ha1 ha2)
   clear ha2
   go_upto_region 4 with fail
   refine wp_region_ext (by kernel_rfl) (by kernel_rfl) ?_
   repeat (go_big_quiet_step (fail))
   refine wpQuiet_nil ?_
   rintro _ ⟨u,rfl⟩
   go_wp2_with fail
   go_ret
   exact ⟨by rw [show meetS q x=false by simp [meetS,HT2.out]];rfl,HE1.out.trans (y.ext.val u)⟩
  ·have e0 : ¬(2:Int)<2:=by decide
   have HT2:Hid (meetS q x=(tst q.vd x.v.k && (brkT q.bk x && bndT q.ms x))):=zd (by unfold meetS;rw [HT.out.1 (by omega),HT.out.2 (by omega)];rfl)
   clear HT
   go_upto_region 6 with fail
   go_cut [40] from 30 to 40 (fun s40 wc=>s40 = .bool (!tst q.vd x.v.k)∧wc=y.val)
   case first=>
    by_cases ha1:0≤q.vd
    case neg=>
     have HA:=zd ha1
     go_wp2_with fail
     go_meet
     exact ⟨by rw [tst_yes (fun h=>by have:=HA.out;omega)];rfl,rfl⟩
    by_cases ha2:x.v.k=q.vd
    case pos=>
     have ha3:(x.v.k != q.vd)=false:=by simp [ha2]
     have HA:=zd ha2
     clear ha2
     go_wp2_with fail
     go_meet
     exact ⟨by rw [tst_yes (fun h=>h.2 HA.out)];rfl,rfl⟩
    have ha3:(x.v.k != q.vd)=true:=by simp [ha2]
    have HA:=zd (tst_no ha1 ha2)
    clear ha2
    go_wp2_with fail
    go_meet
    exact ⟨by rw [HA.out];rfl,rfl⟩
   case rest=>
   obtain ⟨rfl,rfl⟩:=hcut
   generalize tst q.vd x.v.k=tv at HT2 ⊢
   rcases tv
   case false=>
    go_wp2_with fail
    go_ret
    exact ⟨by rw [HT2.out];rfl,HE1.out.trans y.ext⟩
   go_upto_region 9 with (first|((with_reducible refine wpList_load_rowG ?_ 33 (.tmp 2) ?_ gx ?_ 33 (x.arr v) (0,0) _ ?_ zu33 ?_ ?_ ?_);(·rfl);(·rfl);(·rfl);(·exact (HX1.out.ext y.ext));(·rfl);(·exact info_ex))|(go_at_call 39;refine (rx_brokenL x v y.val (HR.out.ext (HE1.out.trans y.ext)) hn).mono ?_;rintro e w5 ⟨bv,rfl,hb5,hx5⟩;obtain ⟨ba,bc,rfl⟩:=own_sl hb5))
   obtain ⟨a5,c5,hv5,hm5,hvw5⟩:=row_view (Row.of_own hb5)
   cases hv5
   have HV:=zd hvw5
   have hbk:=brk_ok x
   generalize hL:brkX x=L at hbk hm5 HV ⊢
   have hln:(brkX x).length=L.length:=by rw [hL]
   have HL:=zd hL
   have HX5:=zd ((HE1.out.trans y.ext).trans hx5)
   have HXA5:=zd ((HX1.out.ext y.ext).ext hx5)
   have hq5:=heap_ext (heap_ext HQ1.out y.ext) hx5
   clear p0 p1 p2 q4 q13 q20 l1 l2 hb5 hx5 hL hvw5
   have p3:w5.cell? ⟨gq,3,none⟩=some (.int .i64 q.bk):=zQ hq5 3
   have p4:w5.cell? ⟨gq,4,none⟩=some (.int .i64 q.ms):=zQ hq5 4
   have l2:gq<w5.heap.size:=zL hq5
   clear hq5 hln
   generalize hN:L.length=N at hbk hm5 HV ⊢
   have HN:=zd hN
   have HBK:=zd hbk
   clear hN hbk
   unfold maxLen at hm5
   go_cut [7] from 43 to 55 (fun s7 wc=>s7 = .bool (in0 q.bk x)∧wc=w5)
   case first=>
    by_cases hz:q.bk=0
    ·have hz1:(q.bk == 0)=true:=by simp [hz]
     have HZ:=zd hz
     clear hz
     go_wp2_with fail
     go_meet
     exact ⟨by unfold in0;rw [HZ.out];rfl,rfl⟩
    have hz1:(q.bk == 0)=false:=by simp [hz]
    have HZ:=zd hz
    clear hz
    by_cases hl:q.bk<0
    ·have hbn:((N:Int) == 0)=okX x:=by
      rw [←HBK.out,Bool.eq_iff_iff]
      simp
     have HLT:=zd hl
     go_wp2_with fail
     go_meet
     exact ⟨by unfold in0;simp [HZ.out,HLT.out],rfl⟩
    ·have HLT:=zd hl
     go_wp2_with fail
     go_meet
     exact ⟨by unfold in0;have h1:=HZ.out;have h2:=HLT.out;simp [h1];intro h;omega,rfl⟩
   case rest=>
   obtain ⟨rfl,rfl⟩:=hcut
   rename World=>w5
   go_wp2_with fail
   go_loopg [7,8] N (fun g tt ii wr=>∃ (n:Nat) (t:Bool) (z:ExtOf w5),tt = .bool t∧ii = .int .i64 (n:Int)∧n+g=N∧wr=z.val∧Hid (t=(in0 q.bk x || (L.take n).any (·== q.bk))))
   case atStart=>exact ⟨0,in0 q.bk x,⟨w5,zR⟩,rfl,rfl,by omega,rfl,zd (by simp)⟩
   case round=>
    obtain ⟨n,t,z,rfl,rfl,hg2,rfl,HTT⟩:=hrel
    by_cases hlt:n<N
    case neg=>
     have hge : ¬(n:Int)<(N:Int):=by omega
     have HT3:Hid (meetS q x=(t && bndT q.ms x)):=zd (by
      rw [HT2.out,HTT.out,List.take_of_length_le (by have:=HN.out;omega),←HL.out,brkT_eq]
      rfl)
     go_upto_region 14 with fail
     rcases t
     case false=>
      go_wp2_with fail
      go_ret
      exact ⟨by rw [HT3.out];rfl,HX5.out.trans z.ext⟩
     by_cases hm0:q.ms<0
     case pos=>
      go_wp2_with fail
      go_ret
      exact ⟨by rw [HT3.out,show bndT q.ms x=true by simp [bndT,hm0]];rfl,HX5.out.trans z.ext⟩
     have HBD:=zd (rx_bound x v q.ms z.val (HR.out.ext (HX5.out.trans z.ext)) hn)
     by_cases hbd:0<(boundX x q.ms).length
     case pos=>
      have hbd':(0:Int)<((boundX x q.ms).length:Int):=by omega
      go_wp2_with (first|((with_reducible refine wpList_load_rowG ?_ 33 (.tmp 2) ?_ gx ?_ 33 (x.arr v) (0,0) _ ?_ zu33 ?_ ?_ ?_);(·rfl);(·rfl);(·rfl);(·exact (HXA5.out.ext z.ext));(·rfl);(·exact info_ex))|(go_at_call 45;refine HBD.out.mono ?_;rintro e w7 ⟨da,dc,rfl,hx7⟩))
      go_ret
      exact ⟨by rw [HT3.out,show bndT q.ms x=true by simp [bndT,hbd]];rfl,(HX5.out.trans z.ext).trans hx7⟩
     have hbd' : ¬(0:Int)<((boundX x q.ms).length:Int):=by omega
     go_wp2_with (first|((with_reducible refine wpList_load_rowG ?_ 33 (.tmp 2) ?_ gx ?_ 33 (x.arr v) (0,0) _ ?_ zu33 ?_ ?_ ?_);(·rfl);(·rfl);(·rfl);(·exact (HXA5.out.ext z.ext));(·rfl);(·exact info_ex))|(go_at_call 45;refine HBD.out.mono ?_;rintro e w7 ⟨da,dc,rfl,hx7⟩))
     go_ret
     exact ⟨by rw [HT3.out,show bndT q.ms x=false by simp [bndT,hbd];omega];rfl,(HX5.out.trans z.ext).trans hx7⟩
    have hlt':(n:Int)<(N:Int):=by omega
    obtain ⟨g0,off,rfl,hgl,hcell⟩:=HV.out (by omega)
    have hgl:=hgl (by omega)
    obtain ⟨b,hb⟩ : ∃ b,L[n]?=some b:=⟨_,zG (by have:=HN.out;omega)⟩
    have q0:w5.cell? ⟨g0,off+n,none⟩=some (.int .i64 b):=hcell n _ (by rw [List.getElem?_map,hb];rfl)
    have HT4:Hid ((t || b == q.bk)=(in0 q.bk x || (L.take (n+1)).any (·== q.bk))):=zd (by
     rw [List.take_add_one,hb,List.any_append,←Bool.or_assoc,←HTT.out]
     simp)
    clear hcell hb HTT
    rcases t
    case true=>
     go_upto_region 13 with fail
     refine wp_region_ext (by kernel_rfl) (by kernel_rfl) ?_
     repeat (go_big_quiet_step (fail))
     refine wpQuiet_nil ?_
     rintro _ ⟨u,rfl⟩
     go_wp2_with fail
     go_roundg (gk - 1)
     case rel=>exact ⟨n+1,true,⟨_,z.ext.val u⟩,rfl,rfl,by omega,rfl,zd (by rw [←HT4.out];rfl)⟩
     case measure=>omega
    rcases hbq:(b == q.bk)
    all_goals
     rw [hbq] at HT4
     go_upto_region 13 with fail
     refine wp_region_ext (by kernel_rfl) (by kernel_rfl) ?_
     repeat (go_big_quiet_step (fail))
     refine wpQuiet_nil ?_
     rintro _ ⟨u,rfl⟩
     go_wp2_with fail
     go_roundg (gk - 1)
     case rel=>exact ⟨n+1,_,⟨_,z.ext.val u⟩,rfl,rfl,by omega,rfl,zd (by rw [←HT4.out];rfl)⟩
     case measure=>omega
structure RpAt (w wr:World) (gx gq:Nat) (x:Ex) (v:Value) (q:Wi):Prop where
 hx:ExAt wr gx x v
 hr:Hrd wr x v
 hv:v = .slice none 0 0∨∃ a n c,v = .slice (some a) n c
 hq:wr.heap[gq]?=some (.cells q.arr 62 (0,0))
 e:Ext w wr
theorem RpAt.ext {w wr w':World} {gx gq:Nat} {x:Ex} {v:Value} {q:Wi} (h:RpAt w wr gx gq x v q) (e:Ext wr w'):RpAt w w' gx gq x v q:=⟨h.hx.ext e,h.hr.ext e,h.hv,heap_ext h.hq e,h.e.trans e⟩
theorem rx_replay (q:Wi) (x0:Ex) (v0:Value) (L:List Mv) (lv:Value) (w:World) (hO:Hrd w x0 v0) (hvv:v0 = .slice none 0 0∨∃ a n c,v0 = .slice (some a) n c) (hn:x0.h.length≤1000) (hL:L.length≤1000) (hR:Row w 9 lv L.length (L.flatMap Mv.cs)) :
 Calls Tryz.prog 22 #[.agg (x0.arr v0),lv,.agg q.arr] w fun e w'=>e = .returned (.tuple #[.int .i64 ((replS x0 L).2:Int),.bool (meetS q (replS x0 L).1)])∧Ext w w':=by
 obtain ⟨a,cap,rfl,hm,hvw⟩:=row_view hR
 have HV:=zd hvw
 have HO:=zd hO
 have HVV:=zd hvv
 obtain ⟨R,hRe⟩ : ∃ R,replS x0 L=R:=⟨_,rfl⟩
 rw [hRe]
 have HRE:=zd hRe
 clear hvw hR hO hRe hvv
 unfold maxLen at hm
 go_enter Tryz.func22,Tryz.ntmps22
 go_upto_region 1 with fail
 refine wp_forget (fun w'=>∃ gx gq,Hid (gx=w.heap.size∧gq=w.heap.size+1)∧Hid (w.heap.size≤gx∧w.heap.size≤gq∧gx≠gq)∧Hid (RpAt w w' gx gq x0 v0 q)) ⟨_,_,zd ⟨rfl,rfl⟩,zd ⟨Nat.le_refl _,by omega,by omega⟩,zd ⟨(two_new zR).1,HO.out.ext (two_new zR).2.2,HVV.out,(two_new zR).2.1,(two_new zR).2.2⟩⟩ ?_
 rintro W1 ⟨gx,gq,hgx,HG1,HK1⟩
 rw [←hgx.out.2,←hgx.out.1]
 clear hgx
 go_wp2_with fail
 go_loopg [8] L.length (fun g t8 wr=>∃ (i:Nat) (x:Ex) (v:Value),t8 = .int .i64 (i:Int)∧i+g=L.length∧Hid (RpAt w wr gx gq x v q)∧x.h.length≤1000+i∧Hid (R=((replS x (L.drop i)).1,i+(replS x (L.drop i)).2)))
 case atStart=>exact ⟨0,x0,v0,rfl,by omega,HK1,by omega,zd (by rw [List.drop_zero,Nat.zero_add,←HRE.out])⟩
 case round=>
  clear HK1
  obtain ⟨i,x,v,rfl,hg,HK,hxl,HR⟩:=hrel
  rename World=>Wr
  by_cases hlt:i<L.length
  case neg=>
   have i1 : ¬(i:Int)<(L.length:Int):=by omega
   have h1:=HR.out
   rw [List.drop_eq_nil_of_le (by omega)] at h1
   have HR1:Hid (R=(x,i)):=zd h1
   clear h1
   have HME:=zd (rx_meets x v q Wr HK.out.hr (by omega))
   go_wp2_with (first|((with_reducible refine wpList_load_rowG ?_ 33 (.tmp 3) ?_ gx ?_ 33 (x.arr v) (0,0) _ ?_ zu33 ?_ ?_ ?_);(·rfl);(·rfl);(·rfl);(·exact HK.out.hx);(·rfl);(·exact info_ex))|((with_reducible refine wpList_load_rowG ?_ 62 (.tmp 5) ?_ gq ?_ 62 q.arr (0,0) _ ?_ zu62 ?_ ?_ ?_);(·rfl);(·rfl);(·rfl);(·exact HK.out.hq);(·rfl);(·exact info_wish q))|(go_at_call 24;refine HME.out.mono ?_;rintro e w9 ⟨rfl,hx9⟩))
   refine ⟨rfl,.tuple #[.int .i64 (i:Int),.bool (meetS q x)],by simp [results,go_sem],?_⟩
   rw [HR1.out]
   exact ⟨rfl,HK.out.e.trans hx9⟩
  have i1:(i:Int)<(L.length:Int):=by omega
  obtain ⟨m,hmv⟩ : ∃ m,L[i]?=some m:=⟨_,zG hlt⟩
  have HRD:Hid (L.drop i=m::L.drop (i+1)):=zd (by
   obtain ⟨h1,h2⟩:=List.getElem?_eq_some_iff.1 hmv
   rw [List.drop_eq_getElem_cons h1,h2])
  obtain ⟨g0,off,rfl,hgl,hcell⟩:=HV.out (by omega)
  have hgl:=hgl (by omega)
  have HMR:=zd (fun (z:World) (e:Ext w z)=>mv_range (fun j u hj=>cell_keep (hcell j u hj) e) hmv)
  have hgm1:g0<Wr.heap.size:=zU hgl HK.out.e.size
  have hS:=fun w' (hw:Ext Wr w')=>rx_step x v m w' (HK.out.hr.ext hw) HK.out.hv (by omega)
  have hyl:=step_len x m
  obtain ⟨y,hy⟩ : ∃ y,(stepX x m).1=y:=⟨_,rfl⟩
  obtain ⟨ok,hok⟩ : ∃ ok,(stepX x m).2=ok:=⟨_,rfl⟩
  rw [hy,hok] at hS
  rw [hy] at hyl
  have HY:=zd hy
  have HOKB:=zd hok
  have HS:=zd hS
  clear hcell hgl hmv hS hy hok
  go_upto_region 3 with fail
  refine wp_region_mixF (af:=?af2) exZ 33 [true,true,true,true,true,false,false,false,false,false,false,false] [false,false,false,false,false,false,true,true,true,false,false,true] 33 4 (C:=Ext Wr) (by kernel_rfl) rfl (by kernel_rfl) (fun _ _ h e=>Ext.trans h e) zR.drew ?qk ?rk
  case qk=>
   intro w' hw'
   obtain ⟨y1,rfl⟩:=ext_of hw'
   simp only [pickT,if_true,if_false,Bool.false_eq_true]
   (go_big_quiet_want;refine quiet_load_rowX 33 _ rfl _ rfl _ (x.arr v) (0,0) _ (HK.out.hx.ext y1.ext) zu33 rfl info_ex ?_;go_big_quiet_on;simp only [Act.put,List.setIfInBounds_toArray,List.set_cons_succ,List.set_cons_zero])
   repeat (go_big_quiet_step (fail))
   (go_big_quiet_want;refine quiet_load_midA 52 _ rfl g0 (off+i*9) rfl m.arr (.struct _) (HMR.out _ (HK.out.e.trans y1.ext)) zu52 rfl info_mv ?_;go_big_quiet_on;simp only [Act.put,List.setIfInBounds_toArray,List.set_cons_succ,List.set_cons_zero])
   refine wpQuiet_nil ?_
   exact rfl
  case rk=>
   simp only [restL,if_true,if_false,Bool.false_eq_true]
   refine ⟨fun a w=>by simp [go_sem,exZ],?_⟩
   intro x1
   go_wp2_with fail
   refine (HS.out _ ((Ext.refl Wr).drew.val x1)).mono ?_
   rintro e w4 ⟨v',rfl,hO',hx4⟩
   go_wp2_with fail
   refine ⟨hx4,?_⟩
   refine ⟨.tuple #[.agg (y.arr v'),.bool ok],.inl ⟨rfl,fun w _=>⟨rfl,rfl⟩⟩,?_⟩
   refine ⟨.agg (y.arr v'),.inl ⟨rfl,fun w _=>⟨rfl,rfl⟩⟩,?_⟩
   refine ⟨.bool ok,.inl ⟨rfl,fun w _=>⟨rfl,rfl⟩⟩,?_⟩
   intro x2 gT hgT hzT
   have e2:Ext Wr x2.val:=(((Ext.refl Wr).drew.val x1).trans hx4).val x2
   have hv'1:v'.oneCell'=true:=by obtain ⟨sa,sn,hsv⟩:=own_sl hO';rw [hsv];rfl
   intro x3
   go_wp2_with (refine wpList_store_row rfl 33 _ _ rfl gT _ rfl rfl 33 _ (heap_ext hzT x3.ext) info_ex rfl (arr_one y hv'1) ?_)
   refine ⟨(e2.val x3).setRow hgT _,?_⟩
   refine ⟨.bool ok,.inl ⟨rfl,fun w _=>⟨rfl,rfl⟩⟩,?_⟩
   intro x4
   have eT:ExAt x4.val gT y v':=heap_ext (setRow_heap _ _ _ _ _ _ (heap_ext hzT x3.ext)) x4.ext
   have eX:Ext Wr x4.val:=((e2.val x3).setRow hgT _).val x4
   have eO : ∃ B,Own x4.val B y.h v':=⟨_,own_ext (own_setRow (own_ext hO' (x2.ext.trans x3.ext)) (heap_ext hzT x3.ext) (by decide) _) x4.ext⟩
   have K7:=zd (HK.out.ext eX)
   have HT7:=zd eT
   have HO7:=zd eO
   generalize x4.val=W7 at K7 HT7 HO7 ⊢
   clear x4 x3 hzT hgT e2 x2 hx4 hO' x1 HK HMR HS hgm1 eT eX eO
   rcases ok
   case false=>
    have HME:=zd (rx_meets x v q W7 K7.out.hr (by omega))
    go_wp2_with (first|((with_reducible refine wpList_load_rowG ?_ 33 (.tmp 3) ?_ gx ?_ 33 (x.arr v) (0,0) _ ?_ zu33 ?_ ?_ ?_);(·rfl);(·rfl);(·rfl);(·exact K7.out.hx);(·rfl);(·exact info_ex))|((with_reducible refine wpList_load_rowG ?_ 62 (.tmp 5) ?_ gq ?_ 62 q.arr (0,0) _ ?_ zu62 ?_ ?_ ?_);(·rfl);(·rfl);(·rfl);(·exact K7.out.hq);(·rfl);(·exact info_wish q))|(go_at_call 24;refine HME.out.mono ?_;rintro e w9 ⟨rfl,hx9⟩))
    refine ⟨rfl,.tuple #[.int .i64 (i:Int),.bool (meetS q x)],by simp [results,go_sem],?_⟩
    have h1:=HR.out
    rw [HRD.out,repl_no HOKB.out] at h1
    rw [h1]
    exact ⟨rfl,K7.out.e.trans hx9⟩
   case true=>
    go_wp2_with (first|((with_reducible refine wpList_load_rowG ?_ 33 (.tmp 9) ?_ gT ?_ 33 (y.arr v') (0,0) _ ?_ zu33 ?_ ?_ ?_);(·rfl);(·rfl);(·rfl);(·exact HT7.out);(·rfl);(·exact info_ex))|(refine wpList_store_row rfl 33 _ _ rfl gx _ rfl rfl 33 _ K7.out.hx info_ex rfl (arr_one y hv'1) ?_))
    go_roundg (gk - 1)
    case rel=>
     refine ⟨i+1,y,v',by simp,by omega,zd ⟨setRow_heap _ _ _ _ _ _ K7.out.hx,?_,HO7.out.elim fun _ o=>own_nil_or o,(setRow_other _ _ _ _ (Ne.symm HG1.out.2.2)).trans K7.out.hq,K7.out.e.setRow HG1.out.1 _⟩,by omega,zd ?_⟩
     ·obtain ⟨By,hoy⟩:=HO7.out
      exact Row.of_own (own_setRow hoy K7.out.hx (by decide) _)
     ·have h1:=HR.out
      rw [HRD.out,repl_yes HOKB.out,HY.out] at h1
      rw [h1]
      simp only [Prod.mk.injEq,true_and]
      omega
    case measure=>omega
end Go.Proofs.YtlnmhocehgmbbaaGreatDoor
