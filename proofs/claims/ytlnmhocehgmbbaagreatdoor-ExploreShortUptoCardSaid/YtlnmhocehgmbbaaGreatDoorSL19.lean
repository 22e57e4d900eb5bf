/- No condition. -/
import Derived.Test.YtlnmhocehgmbbaaGreatDoorSL3
import Derived.Test.YtlnmhocehgmbbaaGreatDoorSL14
import Derived.Test.YtlnmhocehgmbbaaGreatDoorSL18
import Derived.Sort.OwnSorted
import Derived.WideKeyEntry
set_option linter.all false
set_option maxRecDepth 100000
set_option maxHeartbeats 6400000
namespace Go.Proofs.YtlnmhocehgmbbaaGreatDoor
open Go.RowKit
attribute [local go_sem ↓] eql_lEq eql_sEq eql_eEq eql_oEq neq_lEq neq_sEq neq_eEq neq_oEq eql_vEq neq_vEq eql_nil
attribute [local go_sem] ExtOf.cell ExtOf.frozen ExtOf.lt ExtOf.le
attribute [local go_sem high] ExtOf.cell2 ExtOf.frozen2 ExtOf.lt2 ExtOf.cell3 ExtOf.frozen3 ExtOf.lt3
def frK (k:Int):Bool:=k == 1 || k == 2 || k == 4
def txK (k:Int):Bool:=k == 1 || k == 2 || k == 4 || k == 6
def fkK (k:Int):Bool:=k == 1 || k == 4
def wdK (k:Int):ByteArray:=if k=1 then { data:=#[112,114,111,109,105,115,101] } else if k=2 then { data:=#[115,105,103,110] } else if k=3 then { data:=#[97,98,111,114,116] } else if k=4 then { data:=#[114,101,115,111,108,118,101] } else if k=5 then { data:=#[116,111,107,101,110] } else if k=6 then { data:=#[105,110,115,116,101,97,100] } else { data:=#[102,117,108,108] }
theorem idxK (k:Int) (h1:1≤k) (h7:k≤7) (w:World):(Instr.index 161 (.agg kindsC) (.int .i64 k)).run Tryz.prog w = .ok (.agg #[.bool (frK k),.bool (txK k),.bool (fkK k),.string (wdK k)]) w:=by
 obtain rfl|rfl|rfl|rfl|rfl|rfl|rfl:k=1∨k=2∨k=3∨k=4∨k=5∨k=6∨k=7:=by omega
 ·exact idx1 w
 ·exact idx2 w
 ·exact idx3 w
 ·exact idx4 w
 ·exact idx5 w
 ·exact idx6 w
 ·exact idx7 w
theorem wdK_size (k:Int):(wdK k).size≤100:=by
 unfold wdK
 repeat' split
 all_goals decide
def preL (k:Int) (b:Bool) (f c:Nat):List UInt8:=(wdK k).data.toList++(if b=true then [33] else [])++(if frK k=true then 32::Lib.decDigits f else [])++(32::Lib.decDigits c)
def txtL (l:List UInt8):List UInt8:=l.flatMap fun b=>(btS (b.toNat:Int)).data.toList
def lnS (k:Int) (b:Bool) (f c:Nat) (t:ByteArray):ByteArray:=⟨(preL k b f c++(if txK k=true then [32,34]++txtL t.data.toList++[34] else [])).toArray⟩
def lineS (l:Lt):ByteArray:=if lchk l=0 then lnS l.k l.b l.f.toNat l.c.toNat l.t else { data:=#[] }
def Bld (gb N:Nat) (L:List UInt8) (w:World):Prop:=Lib.IsBuilder 166 5 gb gb (Lib.byteCells L) w∧L.length≤N
theorem Bld.lt {gb N:Nat} {L:List UInt8} {w:World} (h:Bld gb N L w):gb<w.heap.size:=h.1.elim (·.lt) (·.lt)
theorem bat_ext {gb:Nat} {p:Value} {bs:List Value} {w w':World} (h:Lib.BuilderAt 166 5 gb gb p bs w) (e:Ext w w'):Lib.BuilderAt 166 5 gb gb p bs w':=by
 obtain ⟨h1,v,h2,h3,h4⟩:=h
 exact ⟨h1,v,heap_ext h2 e,own_ext h3 e,h4⟩
theorem Bld.ext {gb N:Nat} {L:List UInt8} {w w':World} (h:Bld gb N L w) (e:Ext w w'):Bld gb N L w':=⟨h.1.imp (bat_ext · e) (bat_ext · e),h.2⟩
section
variable {W2:World}
def WrP (W2:World) (v:Value) (N:Nat) (L:List UInt8) (e:Ending) (w':World):Prop:=∃ z:ExtOf W2,w'=z.val∧e = .returned v∧Hid (Bld W2.heap.size N L z.val)
theorem wr_str (N m:Nat) (L:List UInt8) (s:ByteArray) (y:ExtOf W2) (h:Hid (Bld W2.heap.size N L y.val)) (hs:s.size≤m) (hN:N+m≤100000) :
 Calls Tryz.prog 108 #[.pointer (some ⟨W2.heap.size,0,none⟩),.string s] y.val (WrP W2 (.tuple #[.int .i64 s.size,.nilIface]) (N+m) (L++s.data.toList)):=by
 have h0:=h.out
 refine (sh_Builder_WriteString W2.heap.size W2.heap.size _ s y.val h0.1 (by rw [Lib.byteCells_length];have:=h0.2;omega) y.ext.size).mono ?_
 rintro e w' ⟨rfl,hb,hx⟩
 refine ⟨⟨w',Below.trans y.ext hx⟩,rfl,rfl,zd ⟨.inr ?_,?_⟩⟩
 ·rw [Lib.byteCells_append];exact hb
 ·rw [List.length_append]
  have h1:=h0.2
  have h2:s.data.toList.length=s.size:=by rw [Array.length_toList];rfl
  omega
theorem wr_byte (N:Nat) (L:List UInt8) (c:UInt8) (c':Int) (hc:c'=(c.toNat:Int)) (y:ExtOf W2) (h:Hid (Bld W2.heap.size N L y.val)) (hN:N+1≤100000) :
 Calls Tryz.prog 109 #[.pointer (some ⟨W2.heap.size,0,none⟩),.int .u8 c'] y.val (WrP W2 .nilIface (N+1) (L++[c])):=by
 have h0:=h.out
 subst hc
 refine (sh_Builder_WriteByte W2.heap.size W2.heap.size _ _ y.val h0.1 (by rw [Lib.byteCells_length];have:=h0.2;omega) y.ext.size).mono ?_
 rintro e w' ⟨rfl,hb,hx⟩
 refine ⟨⟨w',Below.trans y.ext hx⟩,rfl,rfl,zd ⟨.inr ?_,?_⟩⟩
 ·rw [Lib.byteCells_append];exact hb
 ·rw [List.length_append]
  have h1:=h0.2
  simp only [List.length_cons,List.length_nil]
  omega
theorem wr_num (N:Nat) (L:List UInt8) (u:Nat) (hu:u<18446744073709551616) (y:ExtOf W2) (h:Hid (Bld W2.heap.size N L y.val)) (hT:Hid (TabW W2)) :
 Calls Tryz.prog 111 #[.int .u64 u,.int .i64 10] y.val (WrP W2 (.string ⟨(Lib.decDigits u).toArray⟩) N L):=by
 refine (su_fmt u hu y.val (hT.out.ext y.ext)).mono ?_
 rintro e w' ⟨rfl,hx⟩
 exact ⟨⟨w',y.ext.trans hx⟩,rfl,rfl,zd (h.out.ext hx)⟩
theorem wr_bt (N:Nat) (L:List UInt8) (c:Int) (h0:0≤c) (h1:c≤255) (y:ExtOf W2) (h:Hid (Bld W2.heap.size N L y.val)) :
 Calls Tryz.prog 112 #[.int .u8 c] y.val (WrP W2 (.string (btS c)) N L):=by
 refine (le_bt c y.val h0 h1).mono ?_
 rintro e w' ⟨rfl,hx⟩
 exact ⟨⟨w',y.ext.trans hx⟩,rfl,rfl,zd (h.out.ext hx)⟩
theorem wr_end (N:Nat) (L:List UInt8) (y:ExtOf W2) (h:Hid (Bld W2.heap.size N L y.val)) :
 Calls Tryz.prog 113 #[.pointer (some ⟨W2.heap.size,0,none⟩)] y.val fun e w'=>e = .returned (.string ⟨L.toArray⟩)∧∃ z:ExtOf W2,w'=z.val:=by
 refine (sh_Builder_String_any W2.heap.size W2.heap.size L y.val h.out.1 y.ext.size).mono ?_
 rintro e w' ⟨rfl,hx⟩
 exact ⟨rfl,⟨w',Below.trans y.ext hx⟩,rfl⟩
end
theorem cat32 (l:List UInt8):(({ data:=#[32] } : ByteArray)++⟨l.toArray⟩).data.toList=32::l:=by simp
theorem dec_len (u:Nat) (hu64:u<18446744073709551616):(Lib.decDigits u).length≤20:=by
 have:=dec_size u hu64
 rw [show (⟨(Lib.decDigits u).toArray⟩:ByteArray).size=(Lib.decDigits u).toArray.size from rfl,List.size_toArray] at this
 exact this
theorem cat32_size (l:List UInt8) (h:l.length≤20):(({ data:=#[32] } : ByteArray)++⟨l.toArray⟩).size≤100:=by
 rw [ByteArray.size_append]
 show 1+l.toArray.size≤100
 rw [List.size_toArray]
 omega
theorem pr_no (l:Lt) (w:World) (h:lchk l≠0):Calls Tryz.prog 78 #[.agg #[.int .i64 l.k,.int .i64 l.f,.int .u64 l.c,.string l.t,.bool l.b]] w fun e w'=>e = .returned (.string (lineS l))∧Ext w w':=by
 have hne:(lchk l != 0)=true:=by simpa using h
 have HL:Hid (lineS l = { data:=#[] }):=zd (by unfold lineS;rw [if_neg h])
 clear h
 go_enter Tryz.func78,Tryz.ntmps78
 go_wp2_with (go_at_call 89;refine (le_check l _).mono ?_;rintro e w2 ⟨rfl,hx⟩;have HX:=zd hx;clear hx)
 go_ret
 exact ⟨by rw [HL.out];rfl,(zR.alloc _).trans HX.out⟩
theorem pr_ok (k:Int) (fn cn:Nat) (t:ByteArray) (b:Bool) (w:World) (hl:lchk ⟨k,fn,cn,t,b⟩=0) (hc:cn<18446744073709551616) (hT:TabW w) :
 Calls Tryz.prog 78 #[.agg #[.int .i64 k,.int .i64 fn,.int .u64 cn,.string t,.bool b]] w fun e w'=>e = .returned (.string (lnS k b fn cn t))∧Ext w w':=by
 have hsz:=lchk_size hl
 simp only at hsz
 have hchk:=fun w=>le_check ⟨k,fn,cn,t,b⟩ w
 simp only [hl] at hchk
 have HCH:=zd hchk
 have HT:=zd hT
 have HF:Hid (fn<100):=zd (by omega)
 have HC:=zd hc
 have HS:Hid (t.size≤64):=zd hsz.1
 have HK:Hid (1≤k∧k≤7):=zd ⟨hsz.2.2.1,hsz.2.2.2.1⟩
 have hkd:=le_kinds
 unfold kindsC at hkd
 have hix:=idxK k HK.out.1 HK.out.2
 unfold kindsC at hix
 have HKD:=zd hkd
 clear hkd hchk hT hl hsz hc
 go_enter Tryz.func78,Tryz.ntmps78
 go_upto_region 3 with (go_at_call 89;refine (HCH.out _).mono ?_;rintro e w2 ⟨rfl,hx⟩;have h1:=heap_ext (heap_new (w:=w) rfl) hx;have HX:=zd (((Ext.refl w).alloc _).trans hx);have H1:=zd h1;clear hx h1)
 have c1:=zQ H1.out
 have l1:w.heap.size<w2.heap.size:=zL H1.out
 refine wp_region_mixF (af:=?af) #[.bool false,.bool false,.bool false,.string { data:=#[] }] 160 [true,true,true,true,false,false] [false,false,false,false,false,false] 49 0 (C:=Ext w2) (by kernel_rfl) rfl (by kernel_rfl) (fun _ _ h e=>Ext.trans h e) zR.drew ?q ?r
 case q=>
  intro w' hw'
  obtain ⟨y,rfl⟩:=ext_of hw'
  simp only [pickT,if_true,if_false,Bool.false_eq_true]
  repeat (go_big_quiet_step ((go_at_call 107;exact calls_ext (HKD.out _))))
  exact rfl
 case r=>
  simp only [restL,if_true,if_false,Bool.false_eq_true]
  refine ⟨fun a w=>by simp [go_sem],?_⟩
  intro x1 gT hgT hzT
  intro x3
  go_wp2_with (refine wpList_store_row rfl 160 _ _ rfl gT _ rfl rfl 160 _ (heap_ext hzT x3.ext) info_kind rfl (by simp [Value.oneCell']) ?_)
  refine ⟨(((Ext.refl w2).drew.val x1).val x3).setRow hgT _,?_⟩
  intro x2
  have e1:x2.val.heap[gT]?=some (.cells #[.bool (frK k),.bool (txK k),.bool (fkK k),.string (wdK k)] 160 (0,0)):=heap_ext (setRow_heap _ _ _ _ _ _ (heap_ext hzT x3.ext)) x2.ext
  have eX:Ext w2 x2.val:=(((Ext.refl w2).drew.val x1).val x3).setRow hgT _ |>.val x2
  have e2:=heap_ext H1.out eX
  have EX:=zd (HX.out.trans eX)
  generalize x2.val=W2 at e1 e2 EX ⊢
  clear eX x2 hzT x3 x1 c1 l1 H1 HKD hix HCH HX
  have c1:=zQ e1
  have c2:=zQ e2
  have l1:gT<W2.heap.size:=zL e1
  have l2:w.heap.size<W2.heap.size:=zL e2
  clear e1 e2
  have HTW:Hid (TabW W2):=zd (HT.out.ext EX.out)
  clear hgT
  go_upto_region 5 with fail
  refine wp_forget (fun w'=>∃ y0:ExtOf W2,w'=y0.val∧Hid (Bld W2.heap.size 0 [] y0.val)) ⟨⟨_,zR.alloc _⟩,rfl,zd ⟨Lib.fresh_isBuilder 166 5 W2,by simp⟩⟩ ?_
  rintro _ ⟨y0,rfl,hb⟩
  have hs1:=wdK_size k
  have hs4:=dec_len fn (by have:=HF.out;omega)
  have hs5:=dec_len cn HC.out
  have hs2:=cat32_size (Lib.decDigits fn) hs4
  have hs3:=cat32_size (Lib.decDigits cn) hs5
  obtain ⟨bb,hbb⟩ : ∃ bb,bb=b:=⟨_,rfl⟩
  have HBB:=zd hbb
  clear hbb
  rcases htx:txK k
  ·rcases b<;>rcases hfr:frK k
   all_goals
    have HE:Hid (frK k=_):=zd hfr
    have HT2:Hid (txK k=_):=zd htx
    rw [hfr,htx] at c1
    clear hfr htx
    go_wp2_with (first|(go_at_call 108;refine (wr_str _ 100 _ _ _ (by assumption) (by first|assumption|decide) (by decide)).mono ?_;rintro e _ ⟨z,rfl,rfl,hb⟩)|(go_at_call 109;refine (wr_byte _ _ 33 33 rfl _ (by assumption) (by decide)).mono ?_;rintro e _ ⟨z,rfl,rfl,hb⟩)|(go_at_call 110;refine (sh_strconv_Itoa_small fn HF.out _).mono ?_;rintro e w' ⟨rfl,rfl⟩)|(go_at_call 111;refine (wr_num _ _ cn HC.out _ (by assumption) HTW).mono ?_;rintro e _ ⟨z,rfl,rfl,hb⟩)|(go_at_call 113;refine (wr_end _ _ _ (by assumption)).mono ?_;rintro e _ ⟨rfl,z9,rfl⟩))
    go_ret
    exact ⟨by unfold lnS;rw [if_neg (by rw [HT2.out];simp)];simp [preL,HE.out,cat32],EX.out.val z9⟩
  ·rcases b<;>rcases hfr:frK k
   all_goals
    have HE:Hid (frK k=_):=zd hfr
    have HT2:Hid (txK k=_):=zd htx
    rw [hfr,htx] at c1
    clear hfr htx
    go_upto_region 12 with (first|(go_at_call 108;refine (wr_str _ 100 _ _ _ (by assumption) (by first|assumption|decide) (by decide)).mono ?_;rintro e _ ⟨z,rfl,rfl,hb⟩)|(go_at_call 109;refine (wr_byte _ _ 33 33 rfl _ (by assumption) (by decide)).mono ?_;rintro e _ ⟨z,rfl,rfl,hb⟩)|(go_at_call 110;refine (sh_strconv_Itoa_small fn HF.out _).mono ?_;rintro e w' ⟨rfl,rfl⟩)|(go_at_call 111;refine (wr_num _ _ cn HC.out _ (by assumption) HTW).mono ?_;rintro e _ ⟨z,rfl,rfl,hb⟩)|(go_at_call 113;refine (wr_end _ _ _ (by assumption)).mono ?_;rintro e _ ⟨rfl,z9,rfl⟩))
    go_upto_region 14 with (go_at_call 108;refine (wr_str _ 100 _ _ _ (by assumption) (by first|assumption|decide) (by decide)).mono ?_;rintro e _ ⟨z5,rfl,rfl,hb5⟩)
    obtain ⟨N5,L5,hN5,HL5,HB5⟩ : ∃ N5 L5,N5≤1000∧Hid (L5=preL k bb fn cn++[32,34])∧Hid (Bld W2.heap.size N5 L5 z5.val):=⟨_,_,by decide,zd (by rw [HBB.out];simp [preL,HE.out,cat32]),hb5⟩
    clear hs1 hs2 hs3 hs4 hs5
    go_loopg [37] t.size (fun g ii wr=>∃ (n:Nat) (z:ExtOf W2),ii = .int .i64 (n:Int)∧n+g=t.size∧wr=z.val∧Hid (Bld W2.heap.size (1000+5*n) (L5++txtL (t.data.toList.take n)) z.val))
    case atStart=>exact ⟨0,z5,rfl,by omega,rfl,zd ⟨by simpa [txtL] using HB5.out.1,by have:=HB5.out.2;simp [txtL];omega⟩⟩
    case round=>
     obtain ⟨n,z,rfl,hg,rfl,HB⟩:=hrel
     by_cases hlt:n<t.size
     ·have hlt':(n:Int)<(t.size:Int):=by omega
      have hb8:(t[n]).toNat<256:=UInt8.toNat_lt _
      have hsb:=btS_size ((t[n]).toNat:Int) (by omega)
      have ht64:=HS.out
      go_wp2_with (first|(go_at_call 112;refine (wr_bt _ _ _ (by omega) (by omega) _ (by assumption)).mono ?_;rintro e _ ⟨z,rfl,rfl,hb⟩)|(go_at_call 108;refine (wr_str _ 5 _ _ _ (by assumption) (by assumption) (by omega)).mono ?_;rintro e _ ⟨z6,rfl,rfl,hb6⟩))
      go_roundg (gk - 1)
      case rel=>
       refine ⟨n+1,z6,rfl,by omega,rfl,zd ?_⟩
       have e1:t.data.toList.take (n+1)=t.data.toList.take n++[t[n]]:=by
        rw [List.take_succ_eq_append_getElem (by simpa using hlt)];rfl
       have h6:=hb6.out
       rw [e1,txtL,List.flatMap_append,←List.append_assoc,←txtL]
       rw [show 1000+5*(n+1)=1000+5*n+5 by omega]
       simpa using h6
      case measure=>omega
     ·have hge:(t.size:Int)≤(n:Int):=by omega
      have ht64:=HS.out
      go_wp2_with (first|(go_at_call 109;refine (wr_byte _ _ 34 34 rfl _ (by assumption) (by omega)).mono ?_;rintro e _ ⟨z,rfl,rfl,hb⟩)|(go_at_call 113;refine (wr_end _ _ _ (by assumption)).mono ?_;rintro e _ ⟨rfl,z9,rfl⟩))
      go_ret
      refine ⟨?_,EX.out.val z9⟩
      unfold lnS
      rw [if_pos HT2.out,HL5.out,HBB.out,List.take_of_length_le (by rw [Array.length_toList];show t.size≤n;omega)]
      simp
def U64 (c:Int):Prop:=0≤c∧c<18446744073709551616
theorem le_print (l:Lt) (w:World) (hc:U64 l.c) (hT:TabW w):Calls Tryz.prog 78 #[.agg #[.int .i64 l.k,.int .i64 l.f,.int .u64 l.c,.string l.t,.bool l.b]] w fun e w'=>e = .returned (.string (lineS l))∧Ext w w':=by
 by_cases h:lchk l=0
 ·obtain ⟨k,f,c,t,b⟩:=l
  have hf:=(lchk_size h).2.1
  simp only [U64] at hf hc ⊢
  obtain ⟨fn,rfl⟩ : ∃ fn:Nat,f=(fn:Int):=⟨f.toNat,by omega⟩
  obtain ⟨cn,rfl⟩ : ∃ cn:Nat,c=(cn:Int):=⟨c.toNat,by omega⟩
  have e:lineS ⟨k,fn,cn,t,b⟩=lnS k b fn cn t:=by unfold lineS;rw [if_pos h];simp
  rw [e]
  exact pr_ok k fn cn t b w h (by omega) hT
 ·exact pr_no l w h
theorem txtL_len : ∀ l:List UInt8,(txtL l).length≤5*l.length
 | []=>by simp [txtL]
 | b::l=>by
  have h1:=txtL_len l
  have h2:=btS_size (b.toNat:Int) (by omega)
  have h3:(btS (b.toNat:Int)).data.toList.length=(btS (b.toNat:Int)).size:=by rw [Array.length_toList];rfl
  unfold txtL at h1 ⊢
  rw [List.flatMap_cons,List.length_append,List.length_cons]
  omega
theorem lineS_size (l:Lt) (hc:U64 l.c):(lineS l).data.toList.length≤600:=by
 unfold lineS
 by_cases h:lchk l=0
 ·rw [if_pos h]
  have hl:=lchk_size h
  unfold lnS preL
  simp only [U64] at hc
  have h1:=wdK_size l.k
  have h2:(wdK l.k).data.toList.length=(wdK l.k).size:=by rw [Array.length_toList];rfl
  have h3:=dec_len l.f.toNat (by have:=hl.2.1;omega)
  have h4:=dec_len l.c.toNat (by omega)
  have h5:=txtL_len l.t.data.toList
  have h6:l.t.data.toList.length=l.t.size:=by rw [Array.length_toList];rfl
  have h7:=hl.1
  simp only [List.length_append,List.length_cons,List.length_nil]
  have h8 : ∀ (p:Bool) (a:List UInt8),(if p=true then a else []).length≤a.length:=fun p a=>by cases p<;>simp
  have h9:=h8 l.b [33]
  have h10:=h8 (frK l.k) (32::Lib.decDigits l.f.toNat)
  have h11:=h8 (txK l.k) ([32,34]++txtL l.t.data.toList++[34])
  simp only [List.length_append,List.length_cons,List.length_nil] at h9 h10 h11
  omega
 ·rw [if_neg h];simp
def lnsS (h:List Lt):List (List UInt8):=h.map fun l=>(lineS l).data.toList
def sortB (S:List (List UInt8)):List (List UInt8):=S.mergeSort fun x y=>decide (x≤y)
def heardS (h:List Lt):ByteArray:=⟨(Lib.join (sortB (lnsS h)) [10]).toArray⟩
theorem sortB_len (S:List (List UInt8)):(sortB S).length=S.length:=List.length_mergeSort _
theorem heardS_perm {a b:List Lt} (h:a.Perm b):heardS a=heardS b:=by
 have h1:(sortB (lnsS a)).Perm (sortB (lnsS b)):=((List.mergeSort_perm _ _).trans (h.map _)).trans (List.mergeSort_perm _ _).symm
 have hs : ∀ S:List (List UInt8),(sortB S).Pairwise (·≤·):=fun S=>by
  have:=List.pairwise_mergeSort (le:=fun x y:List UInt8=>decide (x≤y)) (fun a b c hab hbc=>by simp only [decide_eq_true_eq] at *;exact List.le_trans hab hbc) (fun a b=>by simp only [Bool.or_eq_true,decide_eq_true_eq];exact List.le_total a b) S
  exact this.imp fun h=>by simpa using h
 have h2:sortB (lnsS a)=sortB (lnsS b):=List.Perm.eq_of_pairwise (fun x y _ _ hxy hyx=>List.le_antisymm hxy hyx) (hs _) (hs _) h1
 unfold heardS
 rw [h2]
theorem join_len : ∀ (S:List (List UInt8)) (sep:List UInt8) (n:Nat),(∀ s∈S,s.length≤n)→(Lib.join S sep).length≤S.length*(n+sep.length)
 | [],sep,n,_=>by simp [Lib.join]
 | [s],sep,n,h=>by
  have:=h s (by simp)
  simp [Lib.join]
  omega
 | s::s2::S,sep,n,h=>by
  have h1:=h s (by simp)
  have h2:=join_len (s2::S) sep n (fun t ht=>h t (List.mem_cons_of_mem _ ht))
  unfold Lib.join at h2 ⊢
  rw [List.intercalate_cons_cons,List.length_append,List.length_append]
  simp only [List.length_cons] at h2 ⊢
  rw [Nat.add_mul (S.length+1) 1]
  omega
theorem info_string:(Tryz.prog.info? 9).map (fun i=>(i.zero,i.size,i.bytes))=some (some (.string { data:=#[] }),1,16):=by kernel_rfl
def OwnS (w:World) (B:Nat) (S:List (List UInt8)) (v:Value):Prop:=w.ownsRow B 9 1 v S.length (S.map encStr)
theorem OwnS.ext {w w':World} {B:Nat} {S:List (List UInt8)} {v:Value} (h:OwnS w B S v) (e:Ext w w'):OwnS w' B S v:=own_ext h e
open Go.Sort in
theorem sl_sort (B:Nat) (S:List (List UInt8)) (v:Value) (w:World) (hO:OwnS w B S v) (hl:S.length≤100000) :
 Calls Tryz.prog 79 #[v] w fun e w'=>e = .returned (.tuple #[])∧OwnS w' B (sortB S) v∧w.grownBy w' v.ownBlock:=by
 rcases hO.2 with ⟨hv,hn⟩|⟨g,cap,cur,hv,hb,hg,h1,h2,h3,h4⟩
 ·subst hv
  have hS:S=[]:=List.length_eq_zero_iff.1 hn
  subst hS
  refine (sh_slices_Sort_string_none none 0 w).mono ?_
  rintro e w' ⟨rfl,rfl⟩
  exact ⟨rfl,by rw [show sortB []=[] by simp [sortB]];exact hO,rfl,rfl,rfl,Nat.le_refl _,fun _ _ _=>rfl⟩
 ·subst hv
  refine (sh_slices_Sort_string g 0 cap S w (holds_of_block hg (by simpa using h4)) (zL hg) (by omega)).mono ?_
  rintro e w' ⟨rfl,n,os,rfl⟩
  refine ⟨rfl,?_,grownBy_sorted _⟩
  unfold OwnS
  rw [sortB_len]
  exact ownsRow_sorted (sortB_len S) hb hg h1 h2 h3
def keyArr (x:Ex):Array Value:=#[.int .i64 x.s0.r,.int .u64 x.s0.c,.string x.s0.t,.int .i64 x.s0.ph,.int .i64 x.s0.p.k,.int .i64 x.s0.p.f,.int .u64 x.s0.p.c,.string x.s0.p.t,.bool x.s0.p.b,
 .int .i64 x.s1.r,.int .u64 x.s1.c,.string x.s1.t,.int .i64 x.s1.ph,.int .i64 x.s1.p.k,.int .i64 x.s1.p.f,.int .u64 x.s1.p.c,.string x.s1.p.t,.bool x.s1.p.b,
 .int .u64 x.v.c,.int .i64 x.v.k,.string x.v.t,.bool x.b0,.bool x.b1,.bool x.full,.string (heardS x.h)]
def keyZ:Array Value:=#[.int .i64 0,.int .u64 0,.string { data:=#[] },.int .i64 0,.int .i64 0,.int .i64 0,.int .u64 0,.string { data:=#[] },.bool false,
 .int .i64 0,.int .u64 0,.string { data:=#[] },.int .i64 0,.int .i64 0,.int .i64 0,.int .u64 0,.string { data:=#[] },.bool false,
 .int .u64 0,.int .i64 0,.string { data:=#[] },.bool false,.bool false,.bool false,.string { data:=#[] }]
theorem info_key (x:Ex):(Tryz.prog.info? 107).map (·.size)=some (keyArr x).size:=by
 rw [show (keyArr x).size=25 from rfl]
 kernel_rfl
theorem sl_join (B:Nat) (S:List (List UInt8)) (v:Value) (w:World) (hO:OwnS w B S v) (hl:S.length≤1000) (hs : ∀ s∈S,s.length≤600) :
 Calls Tryz.prog 80 #[v,.string { data:=#[10] }] w fun e w'=>e = .returned (.string ⟨(Lib.join S [10]).toArray⟩)∧Ext w w':=by
 rcases hO.2 with ⟨hv,hn⟩|⟨g,cap,cur,hv,hb,hg,h1,h2,h3,h4⟩
 ·subst hv
  have hS:S=[]:=List.length_eq_zero_iff.1 hn
  subst hS
  refine (sh_strings_Join_none none 0 _ w).mono ?_
  rintro e w' ⟨rfl,rfl⟩
  exact ⟨rfl,zR⟩
 ·subst hv
  have e1:(S.map fun l:List UInt8=>(⟨l.toArray⟩:ByteArray)).map (·.data.toList)=S:=by
   rw [List.map_map]
   exact (List.map_congr_left fun a _=>by simp).trans (List.map_id S)
  have e2:(S.map fun l:List UInt8=>(⟨l.toArray⟩:ByteArray)).length=S.length:=List.length_map _
  have hj:=sh_strings_Join g 0 cap (S.map fun l:List UInt8=>(⟨l.toArray⟩:ByteArray)) { data:=#[10] } w (fun j y hy=>?_) (zL hg) (by rw [e2];omega) (by rw [e2];omega) ?_
  ·rw [e1,e2] at hj
   exact hj
  ·have hjl:j<S.length:=by have:=(zM hy);simpa using this
   have h5:(cur.toList.take (S.length*1))[j]?=(S.map encStr)[j]?:=by rw [h4]
   rw [List.getElem?_take_of_lt (by omega)] at h5
   rw [Nat.zero_add,cell_of_row w g j cur _ (0,0) hg,←Array.getElem?_toList,h5]
   rw [List.getElem?_map] at hy ⊢
   cases hz:S[j]? with
   | none=>rw [hz] at hy;cases hy
   | some z=>
    rw [hz] at hy
    simp only [Option.map_some,Option.some.injEq] at hy ⊢
    rw [←hy]
    try rfl
  ·rw [e1]
   show (Lib.join S [10]).length≤140737488355328
   have:=join_len S [10] 600 hs
   have h9:S.length*(600+[(10:UInt8)].length)≤1000*(600+[(10:UInt8)].length):=Nat.mul_le_mul_right _ hl
   simp only [List.length_cons,List.length_nil] at this h9
   omega
theorem lns_len {h:List Lt} (hc : ∀ l∈h,U64 l.c) {s:List UInt8} (hs:s∈lnsS h):s.length≤600:=by
 obtain ⟨l,hl,rfl⟩:=List.mem_map.1 hs
 exact lineS_size l (hc l hl)
theorem quiet_load_mid {P:Program} {W:World} {a:Act} {o:Oper} {K:Act→Prop} (ty:TypeId) (x:Operand) (ho:o.op = .load ty x)
 (b f:Nat) (hx:a.eval x = .pointer (some ⟨b,f,none⟩)) (cs:List Value) (d:TypeDesc) (hc:W.rangeAt b f cs)
 (hu:P.underlying ty=some d) (hd:d.isRow=true) (hi:(P.info? ty).map (·.size)=some cs.length)
 (h:K (a.put o.dst (.agg cs.toArray))):o.quiet P a (fun w''=>∃ x:ExtOf W,w''=x.val) K:=by
 refine ⟨_,?_,h⟩
 rintro w ⟨y,rfl⟩
 unfold Oper.quietAt execOp
 simp only [ho,hx,Instr.loadAt,Instr.sureAddr,Sem.run_bind,Sem.run_pure,Result.andThen_ok,run_loadVar_mid y.val b f ty cs d (fun j v hj=>cell_keep (hc j v hj) y.ext) hu hd hi]
 exact ⟨rfl,rfl⟩
def Ex.vcs (x:Ex):List Value:=[.int .u64 x.v.c,.int .i64 x.v.k,.string x.v.t]
def Ex.bcs (x:Ex):List Value:=[.bool x.b0,.bool x.b1]
theorem info_vdx (x:Ex):(Tryz.prog.info? 29).map (·.size)=some x.vcs.length:=by
 rw [show x.vcs.length=3 from rfl]
 kernel_rfl
theorem info_b2x (x:Ex):(Tryz.prog.info? 30).map (·.size)=some x.bcs.length:=by
 rw [show x.bcs.length=2 from rfl]
 kernel_rfl
theorem ex_key (x:Ex) (v:Value) (w:World) (hR:Hrd w x v) (hn:x.h.length≤1000) (hc : ∀ l∈x.h,U64 l.c) (hT:TabW w) :
 Calls Tryz.prog 52 #[.agg (x.arr v)] w fun e w'=>e = .returned (.agg (keyArr x))∧Ext w w':=by
 obtain ⟨i0,hi,hz0,hz1,hz2⟩:=info_parts info_string
 obtain ⟨a,cap,rfl,hm,hvw⟩:=row_view hR
 have HV:=zd hvw
 have HT:=zd hT
 have HC:=zd hc
 clear hvw hR hm hT hc
 go_enter Tryz.func52,Tryz.ntmps52
 go_upto_region 1 with fail
 refine wp_forget (fun w'=>∃ gK,gK=w.heap.size+1∧ExAt w' w.heap.size x (.slice a x.h.length cap)∧w'.heap[gK]?=some (.cells keyZ 107 (0,0))∧Ext w w') ⟨_,rfl,(two_new zR).1,(two_new zR).2.1,(two_new zR).2.2⟩ ?_
 rintro W1 ⟨gK,hgk,h1,h2,x1⟩
 rw [←hgk]
 have HGK:Hid (gK=w.heap.size+1):=zd hgk
 clear hgk
 have HX1:=zd h1
 have HK1:=zd h2
 have HE1:=zd x1
 unfold ExAt Ex.arr at h1
 have q25:=zQ h1 25
 have l1:w.heap.size<W1.heap.size:=zL h1
 clear h1 h2 x1
 go_wp2_with fail
 go_loopg [3,9] x.h.length (fun g l ii wr=>∃ (n:Nat) (y:ExtOf W1),ii = .int .i64 (n:Int)∧n+g=x.h.length∧wr=y.val∧Hid (OwnS wr W1.heap.size (lnsS (x.h.take n)) l))
 case atStart=>exact ⟨0,⟨W1,zR⟩,rfl,by omega,rfl,zd (World.ownsRow_nil W1 _ _ _)⟩
 case round=>
  obtain ⟨n,y,rfl,hg,rfl,HOwn⟩:=hrel
  by_cases hlt:n<x.h.length
  ·obtain ⟨g,off,rfl,hgl,hcell⟩:=HV.out (by omega)
   have hgl:=hgl (by omega)
   obtain ⟨z,hx⟩ : ∃ t,x.h[n]?=some t:=⟨_,zG hlt⟩
   obtain ⟨q0,q1,q2,q3,q4⟩:=lt_cellsO (fun j u hj=>cell_keep (hcell j u hj) HE1.out) hx
   have HX:=zd hx
   have hgl1:g<W1.heap.size:=zU hgl HE1.out.size
   clear hx hcell hgl
   have hlt':(n:Int)<(x.h.length:Int):=by omega
   have hyl:=y.ext.size
   have hpl:(lnsS (x.h.take n)).length≤1000:=by simp [lnsS];omega
   go_wp2_with (first|(go_at_call 78;refine (le_print z _ (HC.out z (zE HX.out)) (HT.out.ext (HE1.out.trans (y.ext.alloc _)))).mono ?_;rintro e w3 ⟨rfl,hx3⟩;have hx4:=(y.ext.alloc _).trans hx3;have ho4:=OwnS.ext HOwn.out (((Ext.refl y.val).alloc _).trans hx3);have HO4:=zd ho4;have HX4:=zd hx4;clear hx3 hx4 ho4)|(at_builtin;refine wpList_app6 W1.heap.size 34 9 i0 _ 1 16 zu34 hi hz0 hz1 hz2 rfl (by decide) rfl _ _ rfl _ (lnsS (x.h.take n)).length _ rfl (OwnS.ext HO4.out (zR.alloc _)) (zT HX4.out.size (zR.alloc _).size) w3.heap.size 1 1 _ (by omega) rfl (heap_new (by simp)) rfl (by simp [Value.oneCell']) (by unfold maxLen;omega) (by omega) ?_;intro v2 w5 hv2 hb2 _ _))
   go_roundg (gk - 1)
   case rel=>
    refine ⟨n+1,⟨w5,(HX4.out.alloc _).trans' hb2⟩,rfl,by omega,rfl,zd ?_⟩
    have e1:lnsS (x.h.take (n+1))=lnsS (x.h.take n)++[(lineS z).data.toList]:=take_map _ HX.out
    rw [e1]
    unfold OwnS
    rw [List.length_append,List.map_append]
    simpa [encStr] using hv2
   case measure=>omega
  ·have hge:(x.h.length:Int)≤(n:Int):=by omega
   have ho:=HOwn.out
   rw [List.take_of_length_le (by omega)] at ho
   have HO:=zd ho
   have hps:(lnsS x.h).length=x.h.length:=by simp [lnsS]
   have HPS:=zd hps
   clear ho HOwn hps
   go_upto_region 8 with (go_at_call 79;refine (sl_sort W1.heap.size (lnsS x.h) _ _ HO.out (by rw [HPS.out];omega)).mono ?_;rintro e w4 ⟨rfl,hO4,hg4⟩;have HO4:=zd hO4;have HX4:Hid (Ext W1 w4):=zd (Below.grown y.ext hg4 y.ext.size (fun k hk=>(HO.out.lt k hk).1));clear hO4 hg4)
   have hxa:=heap_ext HX1.out HX4.out
   have hka:=heap_ext HK1.out HX4.out
   have HXA:=zd hxa
   have HKA:=zd hka
   clear hxa hka HX1 HK1 q25 l1
   have hgne:w.heap.size≠gK:=by have:=HGK.out;omega
   have HGN:=zd hgne
   clear hgne
   refine wp_region_mixX gK (af:=?af) [true,true,true,true,true,true,true,true,true,false,false,false] 32 (by kernel_rfl) rfl (by kernel_rfl) ?q ?r
   case q=>
    intro x0
    simp only [pickT,if_true,if_false,Bool.false_eq_true]
    have hxx:x0.val.heap[w.heap.size]?=some (.cells (x.arr (.slice a x.h.length cap)) 33 (0,0)):=(x0.but.block _ (zL HXA.out) (by have:=HGN.out;simpa using this)).trans HXA.out
    have HXX:=zd hxx
    have q24:=zQ hxx 24
    have lxx:w.heap.size<x0.val.heap.size:=zL hxx
    unfold Ex.arr at q24
    go_big_quiet_step (fail)
    (go_big_quiet_want;refine quiet_load_mid 27 _ rfl w.heap.size 1 rfl x.sts (.array 2 26) (range_of_row hxx 1 x.sts.length _ rfl) zu27 rfl (info_stx x) ?_;go_big_quiet_on;simp only [Act.put,List.setIfInBounds_toArray,List.set_cons_succ,List.set_cons_zero])
    go_big_quiet_step (fail)
    (go_big_quiet_want;refine quiet_load_mid 29 _ rfl w.heap.size 19 rfl x.vcs (.struct _) (range_of_row hxx 19 x.vcs.length _ rfl) zu29 rfl (info_vdx x) ?_;go_big_quiet_on;simp only [Act.put,List.setIfInBounds_toArray,List.set_cons_succ,List.set_cons_zero])
    go_big_quiet_step (fail)
    (go_big_quiet_want;refine quiet_load_mid 30 _ rfl w.heap.size 22 rfl x.bcs (.array 2 4) (range_of_row hxx 22 x.bcs.length _ rfl) zu30 rfl (info_b2x x) ?_;go_big_quiet_on;simp only [Act.put,List.setIfInBounds_toArray,List.set_cons_succ,List.set_cons_zero])
    repeat (go_big_quiet_step (fail))
    exact rfl
   case r=>
    simp only [pickF,if_true,if_false,Bool.false_eq_true]
    intro x1
    have e1:Ext w4 x1.val:=zR.drew.val x1
    have HE4:=zd e1
    clear e1
    go_wp2_with (go_at_call 80;refine (sl_join W1.heap.size (sortB (lnsS x.h)) _ _ (HO4.out.ext HE4.out) (by rw [sortB_len,HPS.out];exact hn) (fun s hs=>lns_len HC.out (List.mem_mergeSort.1 hs))).mono ?_;rintro e w5 ⟨rfl,hx5⟩;have HX5:=zd (HE4.out.trans hx5);clear hx5)
    refine ⟨but_ext (but_refl gK w4) HX5.out,?_⟩
    intro x2
    unfold Ex.sts Ex.vcs Ex.bcs
    go_wp2_with fail
    refine ⟨but_ext (but_refl gK w4) (HX5.out.val x2),?_⟩
    intro x3
    have hk3:=heap_ext HKA.out ((HX5.out.val x2).val x3)
    have HK3:=zd hk3
    clear hk3
    go_wp2_with ((with_reducible refine wpList_store_row ?_ 107 (.tmp 2) (.tmp 31) ?_ gK (keyArr x) ?_ ?_ 107 keyZ ?_ ?_ ?_ ?_ ?_);(·rfl);(·rfl);(·rfl);(·rfl);(·exact HK3.out);(·exact info_key x);(·rfl);(·simp [keyArr,Value.oneCell']))
    refine ⟨but_setRow (but_ext (but_refl gK w4) ((HX5.out.val x2).val x3)) _,?_⟩
    intro x4
    go_wp2_with fail
    have hX4:=HX4.out
    refine bodyPost_ret (results_cell_row rfl _ _ _ _ _ (0,0) _ rfl (heap_ext (setRow_heap _ _ _ _ _ _ HK3.out) x4.ext) zu107 rfl (info_key x)) rfl ⟨rfl,?_⟩
    exact (Ext.setRow (HE1.out.trans (hX4.trans ((HX5.out.val x2).val x3))) (by have:=HGK.out;omega) _).val x4
end Go.Proofs.YtlnmhocehgmbbaaGreatDoor
namespace Go.Proofs.YtlnmhocehgmbbaaGreatDoor
open Go.RowKit
section
variable {α:Type} {kv:α→Value} {b:Nat} {S:List (α×Value)} {w w':World}
def MapH (kv:α→Value) (b:Nat) (S:List (α×Value)) (w:World):Prop:=
 ∃ es clock,w.heap[b]?=some (.map es clock)∧es.toList.map (fun e=>(e.key,e.val))=S.map (fun p=>(kv p.1,p.2))∧(es.toList.map (·.born)).Nodup∧∀ e∈es.toList,e.born<clock
theorem MapH.g (h:MapH kv b S w):MapG kv b S w:=by
 obtain ⟨es,clock,h1,h2,_⟩:=h
 exact ⟨es,clock,h1,h2⟩
theorem MapH.same (h:MapH kv b S w) (e:w'.heap[b]?=w.heap[b]?):MapH kv b S w':=by
 obtain ⟨es,clock,h1,h2⟩:=h
 exact ⟨es,clock,e.trans h1,h2⟩
theorem MapH.lt (h:MapH kv b S w):b<w.heap.size:=h.g.lt
theorem MapH.obj (h:MapH kv b S w) : ∃ es clock,w.heap[b]?=some (.map es clock):=by
 obtain ⟨es,clock,h1,_⟩:=h
 exact ⟨es,clock,h1⟩
end
section
variable {P:Program} {kt et T:TypeId} {α:Type} [DecidableEq α] {kv:α→Value}
theorem run_mapEntryH (hK:KeysOk P kt kv) (hT:P.underlying T=some (.map kt et)) {z:Value} (hz : ∀ w,(zeroValue et).run P w = .ok z w) {w:World} {b:Nat} {S:List (α×Value)} (hM:MapH kv b S w) (x:α) :
 ∃ (st:Nat) (ob:Obj),(Instr.mapEntry T (.map (some b)) (kv x)).run P w = .ok (.tuple #[(getM S x).getD z,goInt st]) (setB w b ob)∧
  ∀ (w2:World) (v:Value),w2.heap[b]?=some ob→∃ ob',(Instr.entryStore T (.map (some b)) (goInt st) v).run P w2 = .ok () (setB w2 b ob')∧MapH kv b (putM S x v) (setB w2 b ob'):=by
 obtain ⟨es,clock,h1,h2,h3,h4⟩:=hM
 have hf:=hK.find x es.toList S w h2
 have hg:=find_of_idxM S x
 cases hi:S.findIdx? (fun p=>decide (p.1=x)) with
 | none=>
  rw [hi] at hf hg
  simp only [Option.bind_none] at hf hg
  have hpm:putM S x=fun v=>S++[(x,v)]:=by funext v;simp [putM,hi]
  have hnd:((es.push ⟨kv x,z,clock⟩).toList.map (·.born)).Nodup:=by
   simp only [Array.toList_push,List.map_append,List.map_cons,List.map_nil]
   refine List.nodup_append.2 ⟨h3,by simp,fun a ha c hc e1=>?_⟩
   simp only [List.mem_singleton] at hc
   obtain ⟨y,hy,rfl⟩:=List.mem_map.1 ha
   have:=h4 y hy
   omega
  refine ⟨clock,.map (es.push ⟨kv x,z,clock⟩) (clock+1),?_,fun w2 v hw2=>⟨.map (es.push ⟨kv x,v,clock⟩) (clock+1),?_,?_⟩⟩
  ·simp [Instr.mapEntry,run_underlying hT,run_getMap h1,hK.chk,hf,hz,run_setMap h1,←hg]
  ·have hidx:(es.push ⟨kv x,z,clock⟩).findIdx? (fun e=>((e.born:Nat):Int) == ((clock:Nat):Int))=some es.size:=by
    rw [Go.WideElems.findIdx_arr]
    exact Go.WideElems.findIdx_born (l:=(es.push ⟨kv x,z,clock⟩).toList) (j:=es.size) (e0:=⟨kv x,z,clock⟩) hnd (by simp)
   have hmod:(es.push ⟨kv x,z,clock⟩).modify es.size (fun e=>{ e with val:=v })=es.push ⟨kv x,v,clock⟩:=by
    apply Array.ext'
    rw [Array.toList_modify,Array.toList_push,Array.toList_push,←Array.length_toList,Go.WideElems.modify_last]
   simp [Instr.entryStore,run_getMap hw2,asInt,asIntOf,goInt,hidx,hmod,run_setMap hw2]
  ·refine ⟨_,_,setB_same (zL hw2),?_,?_,?_⟩
   ·rw [hpm];simp [h2]
   ·simpa using hnd
   ·intro e he
    simp only [Array.toList_push,List.mem_append,List.mem_singleton] at he
    rcases he with he|rfl
    ·have:=h4 e he;omega
    ·exact Nat.lt_succ_self _
 | some j=>
  obtain ⟨hjS,hp,_⟩:=List.findIdx?_eq_some_iff_getElem.1 hi
  rw [hi] at hf hg
  simp only [Option.bind_some,zG hjS,Option.map_some] at hf hg
  have hpx:S[j].1=x:=by simpa using hp
  have hjl:j<es.size:=by
   have:=congrArg List.length h2
   simp only [List.length_map,Array.length_toList] at this
   rw [this];exact hjS
  have hej:es[j]?=some es[j]:=Array.getElem?_eq_getElem hjl
  have hkey:es[j].key=kv x:=by
   have h5:=congrArg (fun l=>(l[j]?).map Prod.fst) h2
   simp only [List.getElem?_map,zG hjS,Option.map_some,Array.getElem?_toList,hpx,hej,Option.some.injEq] at h5
   exact h5
  have hst:(Instr.keyThatStays (kv x) (kv x)).run P w = .ok (kv x) w:=by
   unfold Instr.keyThatStays
   rw [if_pos (hK.bits x)]
   rfl
  have hmod1:es.modify j (fun e=>{ e with key:=kv x })=es:=by
   apply Array.ext'
   rw [Array.toList_modify]
   refine List.ext_getElem? fun m=>?_
   rw [List.getElem?_modify]
   by_cases hm:j=m
   ·subst hm
    rw [Array.getElem?_toList,hej]
    simp [←hkey]
   ·simp [hm]
  refine ⟨es[j].born,.map es clock,?_,fun w2 v hw2=>⟨.map (es.modify j fun e=>{ e with val:=v }) clock,?_,?_⟩⟩
  ·simp only [Instr.mapEntry,Sem.run_bind,run_underlying hT w,Result.andThen_ok,run_getMap h1,hK.chk,hf,hej,Option.map_some,Option.getD_some,hkey,hst,run_setMap h1,Sem.run_pure,hmod1,←hg]
  ·have hidx:es.findIdx? (fun e=>((e.born:Nat):Int) == ((es[j].born:Nat):Int))=some j:=by
    rw [Go.WideElems.findIdx_arr]
    exact Go.WideElems.findIdx_born h3 (by simp)
   simp [Instr.entryStore,run_getMap hw2,asInt,asIntOf,goInt,hidx,run_setMap hw2]
  ·have hmb : ∀ m:Nat,((es.modify j fun e=>{ e with val:=v }).toList.map (·.born))[m]?=(es.toList.map (·.born))[m]?:=fun m=>by
    simp only [List.getElem?_map,Array.getElem?_toList,Array.getElem?_modify]
    by_cases hjm:j=m
    ·subst hjm;rw [if_pos rfl,hej];rfl
    ·rw [if_neg hjm]
   have hmb2:=List.ext_getElem? hmb
   refine ⟨_,_,setB_same (zL hw2),?_,?_,?_⟩
   ·simp only [putM,hi]
    rw [List.map_set,←h2]
    refine List.ext_getElem? fun m=>?_
    simp only [List.getElem?_map,Array.getElem?_toList,Array.getElem?_modify,List.getElem?_set,List.length_map,Array.length_toList]
    by_cases hjm:j=m
    ·subst hjm
     simp [hjl,hkey]
    ·simp [hjm]
   ·rw [hmb2];exact h3
   ·intro e he
    have h6:e.born∈(es.modify j fun e=>{ e with val:=v }).toList.map (·.born):=List.mem_map.2 ⟨e,he,rfl⟩
    rw [hmb2] at h6
    obtain ⟨e',he',hb'⟩:=List.mem_map.1 h6
    rw [←hb']
    exact h4 e' he'
theorem run_updateH (hK:KeysOk P kt kv) (hT:P.underlying T=some (.map kt et)) {w:World} {b:Nat} (x:α) (v:Value) (hb:w.heap[b]?=some (.map #[] 0)) :
 (Instr.mapUpdate T (.map (some b)) (kv x) v).run P w = .ok () (setB w b (.map #[⟨kv x,v,0⟩] 1))∧MapH kv b [(x,v)] (setB w b (.map #[⟨kv x,v,0⟩] 1)):=by
 have hf:=hK.find x [] [] w rfl
 constructor
 ·simp only [Instr.mapUpdate,Sem.run_bind,run_underlying hT w,Result.andThen_ok,run_getMap hb,hK.chk]
  rw [hf]
  simp only [List.findIdx?_nil,Option.bind_none,Result.andThen_ok,run_setMap hb]
  rfl
 ·exact ⟨_,_,setB_same (zL hb),rfl,by simp,by simp⟩
end
structure Ky where
 s0:St
 s1:St
 v:Vd
 b0:Bool
 b1:Bool
 full:Bool
 hd:ByteArray
instance:DecidableEq Ky:=fun a b=>decidable_of_iff (a.s0=b.s0∧a.s1=b.s1∧a.v=b.v∧a.b0=b.b0∧a.b1=b.b1∧a.full=b.full∧a.hd=b.hd) (by cases a;cases b;simp)
def Ky.arr (x:Ky):Array Value:=#[.int .i64 x.s0.r,.int .u64 x.s0.c,.string x.s0.t,.int .i64 x.s0.ph,.int .i64 x.s0.p.k,.int .i64 x.s0.p.f,.int .u64 x.s0.p.c,.string x.s0.p.t,.bool x.s0.p.b,.int .i64 x.s1.r,.int .u64 x.s1.c,.string x.s1.t,.int .i64 x.s1.ph,.int .i64 x.s1.p.k,.int .i64 x.s1.p.f,.int .u64 x.s1.p.c,.string x.s1.p.t,.bool x.s1.p.b,.int .u64 x.v.c,.int .i64 x.v.k,.string x.v.t,.bool x.b0,.bool x.b1,.bool x.full,.string x.hd]
def kyV (x:Ky):Value:=.agg x.arr
def keyK (x:Ex):Ky:=⟨x.s0,x.s1,x.v,x.b0,x.b1,x.full,heardS x.h⟩
theorem keyK_arr (x:Ex):(keyK x).arr=keyArr x:=rfl
theorem SameP.key {x y:Ex} (h:SameP x y):keyK x=keyK y:=by
 unfold keyK
 rw [h.s0,h.s1,h.v,h.b0,h.b1,h.full,heardS_perm h.h]
theorem chk_ky (x:Ky) (e:Bool) (w:World):(Instr.checkKey e 10000 107 (kyV x)).run Tryz.prog w = .ok () w:=by
 cases e<;>kernel_rfl
theorem bits_ky (x:Ky):Instr.sameBits 10000 (kyV x) (kyV x)=true:=by
 simp [kyV,Ky.arr,Instr.sameBits]
 try simp [beq_toListBytes]
theorem ite_and {α:Type} [DecidableEq α] {a b:α} {X:Result Bool} {Y:Bool} {w:World} (h:X = .ok Y w):(if a=b then X else .ok false w) = .ok (decide (b=a) && Y) w:=by
 by_cases hab:a=b
 ·subst hab;simp [h]
 ·rw [if_neg hab,decide_eq_false (fun e=>hab e.symm)];rfl
theorem eq_ky (x y:Ky) (w:World):(Op.equal 107 (kyV x) (kyV y)).run Tryz.prog w = .ok (decide (y=x)) w:=by
 obtain ⟨⟨ar,ac,at',aph,⟨apk,apf,apc,apt,apb⟩⟩,⟨br,bc,bt,bph,⟨bpk,bpf,bpc,bpt,bpb⟩⟩,⟨vc,vk,vt⟩,b0,b1,full,hd⟩:=x
 obtain ⟨⟨ar',ac',at2,aph',⟨apk',apf',apc',apt',apb'⟩⟩,⟨br',bc',bt',bph',⟨bpk',bpf',bpc',bpt',bpb'⟩⟩,⟨vc',vk',vt'⟩,b0',b1',full',hd'⟩:=y
 obtain ⟨i26,hi26⟩:=Option.isSome_iff_exists.1 (show (Tryz.prog.info? 26).isSome=true by kernel_rfl)
 obtain ⟨i4,hi4⟩:=Option.isSome_iff_exists.1 (show (Tryz.prog.info? 4).isSome=true by kernel_rfl)
 have hA : ∀ xs ys w,(Op.equalIn 9999 27 (.agg xs) (.agg ys)).run Tryz.prog w=(Op.eqItems 9998 26 9 xs ys [0,1]).run Tryz.prog w:=fun xs ys w=>by
  rw [run_equalIn_array w 9998 xs ys zu27 hi26,show Tryz.prog.cellsOf 26=9 by kernel_rfl]
  rfl
 have hB : ∀ xs ys w,(Op.equalIn 9999 30 (.agg xs) (.agg ys)).run Tryz.prog w=(Op.eqItems 9998 4 1 xs ys [0,1]).run Tryz.prog w:=fun xs ys w=>by
  rw [run_equalIn_array w 9998 xs ys zu30 hi4,show Tryz.prog.cellsOf 4=1 by kernel_rfl]
  rfl
 unfold kyV Ky.arr Op.equal Op.maxDepth
 simp only []
 simp [go_sem,toList_beq,hA,hB,Op.eqItems]
 simp only [Bool.and_assoc]
 repeat (refine ite_and ?_)
 by_cases h:hd=hd'
 ·subst h;simp
 ·rw [if_neg h,decide_eq_false (fun e=>h e.symm)]
theorem keys_ky:KeysOk Tryz.prog 107 kyV:=keys_struct zu107 eq_ky chk_ky bits_ky
end Go.Proofs.YtlnmhocehgmbbaaGreatDoor
namespace Go.Proofs.YtlnmhocehgmbbaaGreatDoor
structure RngX (x:Ex):Prop where
 c:U64 x.c
 s0:U64 x.s0.c
 s1:U64 x.s1.c
 v:U64 x.v.c
 h : ∀ l∈x.h,U64 l.c
theorem o_c (s:St) (e:Ev):(stepS s e).1.c=s.c∧∀ o∈(stepS s e).2,o.l.c=s.c:=by
 have:=edge_o s e
 generalize stepS s e=r at this ⊢
 cases this<;>simp [prS,sgS,abS,rsS]
theorem a_c (s:St) (e:Ev):(stepA s e).1.c=s.c∧∀ o∈(stepA s e).2,o.l.c=s.c:=by
 have:=edge_a s e
 generalize stepA s e=r at this ⊢
 cases this<;>simp [prS,sgS,rsA]
theorem hear_rng {h:List Lt} (hh : ∀ l∈h,U64 l.c) {b:Bool} {l:Lt} (hl:U64 l.c) : ∀ z∈hearS h b l,U64 z.c:=by
 unfold hearS
 split
 ·exact hh
 ·intro z hz
  rcases List.mem_append.1 hz with hz|hz
  ·exact hh z hz
  ·rw [List.mem_singleton.1 hz];exact hl
theorem hears_rng : ∀ (ls:List Lt) {h:List Lt} (_ : ∀ l∈h,U64 l.c) {b:Bool} (_ : ∀ l∈ls,U64 l.c),∀ z∈hearsS h b ls,U64 z.c
 | [],_,hh,_,_=>hh
 | l::ls,_,hh,b,hl=>by
  show ∀ z∈hearsS (hearS _ b l) b ls,U64 z.c
  exact hears_rng ls (hear_rng hh (hl l (.head _))) fun z hz=>hl z (.tail _ hz)
theorem says_c {v:Vd} {l:Lt} (h:saysS v=some l):l.c=v.c:=by
 unfold saysS at h
 split at h
 ·cases h;rfl
 ·split at h
  ·cases h;rfl
  ·cases h
theorem RngX.step {x:Ex} (h:RngX x) (m:Mv):RngX (stepX x m).1:=by
 unfold stepX
 split
 ·split
  ·show RngX (askX x m)
   unfold askX
   split
   ·have hv:U64 (askV x m.l).c:=by
     unfold askV
     split
     ·split<;>exact h.c
     ·exact h.v
    refine ⟨h.c,h.s0,h.s1,hv,hear_rng h.h ?_⟩
    unfold tellS
    cases hs:saysS (askV x m.l) with
    | none=>exact h.c
    | some l=>rw [Option.getD_some,says_c hs];exact hv
   ·exact h
  ·exact h
 split
 ·exact ⟨h.c,h.s0,h.s1,h.v,h.h⟩
 split
 ·split
  ·show RngX (if m.who=0 then { x with b0:=true } else { x with b1:=true })
   split<;>exact ⟨h.c,h.s0,h.s1,h.v,h.h⟩
  split
  ·split
   ·exact h
   ·show RngX (partyX x m)
    unfold partyX
    split
    ·have ho:=o_c x.s0 (evX x m)
     refine ⟨h.c,?_,h.s1,h.v,hears_rng _ h.h fun l hl=>?_⟩
     ·show U64 (stepS x.s0 (evX x m)).1.c
      rw [ho.1];exact h.s0
     ·obtain ⟨o,ho',rfl⟩:=List.mem_map.1 hl
      rw [ho.2 o ho'];exact h.s0
    ·have ho:=a_c x.s1 (evX x m)
     refine ⟨h.c,h.s0,?_,h.v,hears_rng _ h.h fun l hl=>?_⟩
     ·show U64 (stepA x.s1 (evX x m)).1.c
      rw [ho.1];exact h.s1
     ·obtain ⟨o,ho',rfl⟩:=List.mem_map.1 hl
      rw [ho.2 o ho'];exact h.s1
  ·exact h
 ·exact h
theorem rng_new {c:Int} (h:U64 c):RngX (newX c):=⟨h,h,h,⟨Int.le_refl _,(by decide:(0:Int)<18446744073709551616)⟩,fun l hl=>by cases hl⟩
structure Fd where
 x:Ex
 p:Int
 m:Mv
def m0:Mv:=⟨0,0,{ data:=#[] },l0,false⟩
def inG (most:Nat) (stop:Ex→Bool) (x:Ex) (at':Nat):List Mv→List Fd→List Fd×Option (Int×Bool)
 | [],L=>(L,none)
 | m::ms,L=>if (stepX x m).2=false then inG most stop x at' ms L else if L.any (fun f=>sameX f.x (stepX x m).1)=true then inG most stop x at' ms L
  else if L.length=most then (L,some (-1,false)) else if stop (stepX x m).1=true then (L++[⟨(stepX x m).1,at',m⟩],some ((L.length:Int),true)) else inG most stop x at' ms (L++[⟨(stepX x m).1,at',m⟩])
def outG (most:Nat) (stop:Ex→Bool) (mv:Ex→List Mv):Nat→Nat→List Fd→List Fd×Int×Bool
 | 0,_,L=>(L,-1,true)
 | f+1,k,L=>match L[k]? with
  | none=>(L,-1,true)
  | some d=>match inG most stop d.x k (mv d.x) L with
   | (L',some r)=>(L',r)
   | (L',none)=>outG most stop mv f (k+1) L'
def goG (most:Nat) (stop:Ex→Bool) (mv:Ex→List Mv) (x:Ex):List Fd×Int×Bool:=
 if stop x=true then ([⟨x,-1,m0⟩],0,true) else outG most stop mv (most+1) 0 [⟨x,-1,m0⟩]
def midG (most:Nat) (stop:Ex→Bool) (mv:Ex→List Mv) (f k:Nat) (x:Ex) (ms:List Mv) (L:List Fd):List Fd×Int×Bool:=
 match inG most stop x k ms L with
 | (L',some r)=>(L',r)
 | (L',none)=>outG most stop mv f (k+1) L'
section
variable {most:Nat} {stop:Ex→Bool} {mv:Ex→List Mv} {f k:Nat} {x:Ex} {m:Mv} {ms:List Mv} {L:List Fd} {d:Fd}
theorem out_none (h:L[k]?=none):outG most stop mv f k L=(L,-1,true):=by
 cases f with
 | zero=>rfl
 | succ f=>unfold outG;rw [h]
theorem out_some (h:L[k]?=some d):outG most stop mv (f+1) k L=midG most stop mv f k d.x (mv d.x) L:=by
 conv=>lhs;unfold outG
 rw [h]
 rfl
theorem mid_nil:midG most stop mv f k x [] L=outG most stop mv f (k+1) L:=rfl
theorem mid_no (h:(stepX x m).2=false):midG most stop mv f k x (m::ms) L=midG most stop mv f k x ms L:=by
 unfold midG
 conv=>lhs;unfold inG
 rw [if_pos h]
theorem mid_old (h:(stepX x m).2=true) (h2:L.any (fun f=>sameX f.x (stepX x m).1)=true):midG most stop mv f k x (m::ms) L=midG most stop mv f k x ms L:=by
 unfold midG
 conv=>lhs;unfold inG
 rw [if_neg (by rw [h];simp),if_pos h2]
theorem mid_full (h:(stepX x m).2=true) (h2:L.any (fun f=>sameX f.x (stepX x m).1)=false) (h3:L.length=most):midG most stop mv f k x (m::ms) L=(L,-1,false):=by
 unfold midG
 conv=>lhs;unfold inG
 rw [if_neg (by rw [h];simp),if_neg (by rw [h2];simp),if_pos h3]
theorem mid_hit (h:(stepX x m).2=true) (h2:L.any (fun f=>sameX f.x (stepX x m).1)=false) (h3 : ¬L.length=most) (h4:stop (stepX x m).1=true) :
 midG most stop mv f k x (m::ms) L=(L++[⟨(stepX x m).1,k,m⟩],(L.length:Int),true):=by
 unfold midG
 conv=>lhs;unfold inG
 rw [if_neg (by rw [h];simp),if_neg (by rw [h2];simp),if_neg h3,if_pos h4]
theorem mid_new (h:(stepX x m).2=true) (h2:L.any (fun f=>sameX f.x (stepX x m).1)=false) (h3 : ¬L.length=most) (h4:stop (stepX x m).1=false) :
 midG most stop mv f k x (m::ms) L=midG most stop mv f k x ms (L++[⟨(stepX x m).1,k,m⟩]):=by
 unfold midG
 conv=>lhs;unfold inG
 rw [if_neg (by rw [h];simp),if_neg (by rw [h2];simp),if_neg h3,if_neg (by rw [h4];simp)]
end
def never:Ex→Bool:=fun _=>false
theorem in_never (most:Nat) (x:Ex) (k:Nat) : ∀ (ms:List Mv) (L:List Fd),(inG most never x k ms L).1.map (·.x)=(innerX most x ms (L.map (·.x))).1∧
 (inG most never x k ms L).2=(if (innerX most x ms (L.map (·.x))).2=true then none else some (-1,false))
 | [],L=>by simp [inG,innerX]
 | m::ms,L=>by
  have ih:=fun L=>in_never most x k ms L
  have ha:(L.map (·.x)).any (fun z=>sameX z (stepX x m).1)=L.any (fun f=>sameX f.x (stepX x m).1):=by rw [List.any_map];rfl
  unfold inG innerX
  rw [ha,List.length_map]
  by_cases h1:(stepX x m).2=false
  ·rw [if_pos h1,if_pos h1];exact ih L
  rw [if_neg h1,if_neg h1]
  by_cases h2:L.any (fun f=>sameX f.x (stepX x m).1)=true
  ·rw [if_pos h2,if_pos h2];exact ih L
  rw [if_neg h2,if_neg h2]
  by_cases h3:L.length=most
  ·rw [if_pos h3,if_pos h3];simp
  rw [if_neg h3,if_neg h3,if_neg (by simp [never])]
  have:=ih (L++[⟨(stepX x m).1,k,m⟩])
  simpa using this
theorem out_never (most:Nat) (mv:Ex→List Mv) : ∀ (f k:Nat) (L:List Fd),(outG most never mv f k L).1.map (·.x)=(outerX most mv f k (L.map (·.x))).1∧(outG most never mv f k L).2=(-1,(outerX most mv f k (L.map (·.x))).2)
 | 0,k,L=>⟨rfl,rfl⟩
 | f+1,k,L=>by
  unfold outG outerX
  rw [List.getElem?_map]
  cases hk:L[k]? with
  | none=>exact ⟨rfl,rfl⟩
  | some d=>
   simp only [Option.map_some]
   have hi:=in_never most d.x k (mv d.x) L
   cases hr:inG most never d.x k (mv d.x) L with
   | mk L' r=>
    rw [hr] at hi
    simp only at hi
    by_cases hd:(innerX most d.x (mv d.x) (L.map (·.x))).2=true
    ·rw [if_pos hd] at hi
     rw [if_neg (by rw [hd];simp),hi.2]
     have:=out_never most mv f (k+1) L'
     rw [hi.1] at this
     exact this
    ·rw [if_neg hd] at hi
     rw [if_pos (by simpa using hd),hi.2]
     exact ⟨hi.1,by simp at hd;rw [hd]⟩
theorem go_never (most:Nat) (mv:Ex→List Mv) (x:Ex):(goG most never mv x).1.map (·.x)=(allX most mv x).1∧(goG most never mv x).2=(-1,(allX most mv x).2):=by
 unfold goG allX
 rw [if_neg (by simp [never])]
 exact out_never most mv (most+1) 0 [⟨x,-1,m0⟩]
end Go.Proofs.YtlnmhocehgmbbaaGreatDoor
