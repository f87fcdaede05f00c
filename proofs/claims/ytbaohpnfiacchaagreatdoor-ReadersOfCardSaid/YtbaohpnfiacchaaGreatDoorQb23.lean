/- The contract of keys.plain. For bytes that can be read. The contracts of keys.fallen, cmp.Compare at int. For bytes of a tail. The contracts of cmp.Compare at int, keys.Get. For bytes that can be read. The contract of keys.Seek. For keys of a million bytes at most. -/
import Derived.Deep.CutBlock
import Derived.Test.YtbaohpnfiacchaaGreatDoorQb03
import Derived.Test.YtbaohpnfiacchaaGreatDoorQb15
import Derived.Test.YtbaohpnfiacchaaGreatDoorQb20
import Derived.Test.YtbaohpnfiacchaaGreatDoorQb22
namespace Go.Proofs.Herb
open Go.RowKit
def putK (k:List UInt8) (o:Option (List UInt8 × List UInt8)):Option (List UInt8 × List UInt8):=o.map fun x=>(k ++ x.1,x.2)
theorem putK_putK (a b:List UInt8) (o:Option (List UInt8 × List UInt8)):putK a (putK b o) = putK (a ++ b) o:=by
 cases o with
 | none=>rfl
 | some x=>simp [putK]
theorem putK_nil (o:Option (List UInt8 × List UInt8)):putK [] o = o:=by
 cases o with
 | none=>rfl
 | some x=>rfl
theorem plainK_ne {c:UInt8} (h:c ≠ 0) (r:List UInt8):plainK (c :: r) = putK [c] (plainK r):=by
 cases r with
 | nil=>rfl
 | cons d r =>
  rw [plainK,if_neg h]
  rfl
theorem plainK_one (r:List UInt8):plainK (0 :: 1 :: r) = putK [0] (plainK r):=by
 rw [plainK,if_pos rfl,if_neg (by decide),if_pos rfl]
 rfl
theorem plainK_zero (r:List UInt8):plainK (0 :: 0 :: r) = some ([],r):=by
 rw [plainK,if_pos rfl,if_pos rfl]
theorem plainK_other {d:UInt8} (h:1 < d.toNat) (r:List UInt8):plainK (0 :: d :: r) = none:=by
 rw [plainK,if_pos rfl,if_neg (by rintro rfl;exact absurd h (by decide)),if_neg (by rintro rfl;exact absurd h (by decide))]
def PlnP (q:Option Addr) (l:List UInt8) (b0 c:Nat) (w:World) (e:Ending) (w':World):Prop :=
 Below b0 w w' ∧ ((plainK l = none ∧ ∃ er:Int,er ≠ 0 ∧ e = .returned (.tuple #[.slice none 0 0,.slice none 0 0,.int .i64 er])) ∨
  ∃ k r,plainK l = some (k,r) ∧ ∃ q1 c1 q2 c2,e = .returned (.tuple #[.slice q1 k.length c1,.slice q2 r.length c2,.int .i64 0]) ∧ Rd w' q1 (k.map bv) ∧ (∀ W,Rd W q (l.map bv) → Rd W q2 (r.map bv)) ∧ k.length ≤ c1 ∧ c1 ≤ maxLen ∧ r.length ≤ c2 ∧ c2 ≤ c)
set_option maxRecDepth 100000 in
set_option maxHeartbeats 2000000 in
theorem plain_any (q:Option Addr) (m c:Nat) (l:List UInt8) (w:World) (hl:l.length = m) (hm:m ≤ 4194304) (hc:m ≤ c) (hr:Rd w q (l.map bv)) :
  Calls Tryz.prog 106 #[.slice q m c] w (PlnP q l w.heap.size c w):=by
 by_cases hm0:m = 0
 ·subst hm0
  obtain rfl:l = []:=List.eq_nil_of_length_eq_zero hl
  go_enter Tryz.func106,Tryz.ntmps106
  go_wp2
  refine wp_loop_rounds 1 ?_
  rw [rounds_succ]
  go_wp2
  go_ret3
  exact ⟨Below.refl _ _,.inl ⟨rfl,5,by decide,rfl⟩⟩
 obtain ⟨b,off,rfl, -⟩:=hr.cell (k:=0) (by rw [List.length_map];omega)
 have Hr:=hid hr
 have Hl:=hid hl
 clear hr hl
 go_enter Tryz.func106,Tryz.ntmps106
 go_wp2
 go_loopw [2,5] (fun v i wr=>∃ (k:Nat) (K:List UInt8),k ≤ m ∧ i = .int .i64 (k:Int) ∧ K.length ≤ k ∧ wr.ownsRow w.heap.size 5 1 v K.length (K.map bv) ∧ Below w.heap.size w wr ∧ plainK l = putK K (plainK (l.drop k))) (fun _ i _=>m - (intOf i).toNat)
 case atStart=>exact ⟨0,[],Nat.zero_le _,rfl,Nat.zero_le _,own_nil22 _ _,Below.refl _ _,by rw [putK_nil];rfl⟩
 case round =>
  obtain ⟨k,K,hk,rfl,hKk,hown,hb,hP⟩:=hrel
  obtain ⟨N,hN⟩:∃ N,N = K.length:=⟨_,rfl⟩
  rw [← hN] at hown hKk
  obtain ⟨q2,c2,rfl,hc2,hcm2,hq2⟩:=own_shape hown
  have Hown:=hid hown
  have HN:=hid hN
  have Hb:=hid hb
  have hbs:=hb.size
  have HP:=hid hP
  clear hown hN hb hP
  by_cases hlt:k < m
  ·have hdr:l.drop k = (l[k]'(by have:=Hl.out;omega)) :: l.drop (k + 1):=List.drop_eq_getElem_cons (by have:=Hl.out;omega)
   have hcell:wr.cell? ⟨b,off + k,none⟩ = some (.int .u8 ((l[k]'(by have:=Hl.out;omega)).toNat:Int)):=by
    obtain ⟨b',off',e', -,h2⟩:=Hr.out.cellB Hb.out (k:=k) (by rw [List.length_map,Hl.out];exact hlt)
    cases e'
    rw [h2,List.getElem_map]
    rfl
   obtain ⟨x,hx⟩:∃ x,Hid (x = l[k]'(by have:=Hl.out;omega)):=⟨_,hid rfl⟩
   rw [← hx.out] at hdr hcell
   have HDr:=hid hdr
   clear hdr
   by_cases h0:x = 0
   ·subst h0
    by_cases h1:k + 1 = m
    ·have hB:((k:Int) + 1 == (m:Int)) = true:=by simp;omega
     have hend:plainK l = none:=by rw [HP.out,HDr.out,List.drop_of_length_le (by have:=Hl.out;omega)];rfl
     have HE:=hid hend
     clear hend h1
     go_wp2
     go_ret3
     exact ⟨Hb.out,.inl ⟨HE.out,5,by decide,rfl⟩⟩
    ·have hB:((k:Int) + 1 == (m:Int)) = false:=by rw [beq_eq_false_iff_ne];omega
     have hdr2:l.drop (k + 1) = (l[k + 1]'(by have:=Hl.out;omega)) :: l.drop (k + 2):=List.drop_eq_getElem_cons (by have:=Hl.out;omega)
     have hcell2:wr.cell? ⟨b,off + (k + 1),none⟩ = some (.int .u8 ((l[k + 1]'(by have:=Hl.out;omega)).toNat:Int)):=by
      obtain ⟨b',off',e', -,h2⟩:=Hr.out.cellB Hb.out (k:=k + 1) (by rw [List.length_map,Hl.out];omega)
      cases e'
      rw [h2,List.getElem_map]
      rfl
     obtain ⟨y,hy⟩:∃ x,Hid (x = l[k + 1]'(by have:=Hl.out;omega)):=⟨_,hid rfl⟩
     rw [← hy.out] at hdr2 hcell2
     have i1:(k:Int) + 1 < (m:Int):=by omega
     have hlt1:k + 1 < m:=by omega
     rw [hdr2] at HDr
     have HDr2:=hid HDr.out
     clear hdr2 HDr
     by_cases h2:y = 0
     ·subst h2
      have hend:plainK l = some (K,l.drop (k + 2)):=by rw [HP.out,HDr2.out,plainK_zero];simp [putK]
      have HE:=hid hend
      obtain ⟨T,hT⟩:∃ T,Hid (T = k + 2):=⟨_,hid rfl⟩
      have w2:IntKind.i64.wrap ((k:Int) + 2) = (T:Int):=by rw [IntWalk.i64_in _ (by omega)];have:=hT.out;omega
      obtain ⟨q',hsl,hrd⟩:=slice_any (some ⟨b,off,none⟩) m c T l w Hl.out (by omega) (by have:=hT.out;omega) hc Hr.out
      have Hrd:=hid hrd
      clear hrd hend
      go_upto_region 9 with (fail)
      go_quiet (fail)
      go_wp2
      go_ret3
      have hT2:=hT.out
      refine ⟨below_drewN Hb.out nq,.inr ⟨K,l.drop (k + 2),HE.out,q2,c2,q',c - T, ?_, ?_, ?_,by have:=HN.out;omega,hcm2,by rw [List.length_drop,Hl.out];omega,by omega⟩⟩
      ·rw [List.length_drop,Hl.out,← HN.out,← hT.out]
       rfl
      ·exact (Fr.rd (Fr.of_own Hown.out)).below (below_drewN (Below.refl _ _) nq)
      ·rw [← hT.out];exact Hrd.out
     ·have hq1:((y.toNat:Int) == 0) = false:=by
       rw [beq_eq_false_iff_ne];intro e;exact h2 (UInt8.toNat_inj.1 (by simpa using e))
      by_cases h3:1 < y.toNat
      ·have i3:(1:Int) < (y.toNat:Int):=by omega
       have hend:plainK l = none:=by rw [HP.out,HDr2.out,plainK_other h3];rfl
       have HE:=hid hend
       clear hend
       go_wp2
       go_ret3
       exact ⟨Hb.out,.inl ⟨HE.out,4,by decide,rfl⟩⟩
      ·have i3:¬ (1:Int) < (y.toNat:Int):=by omega
       obtain rfl:y = 1:=UInt8.toNat_inj.1 (by have h4:y.toNat ≠ 0:=fun e=>h2 (UInt8.toNat_inj.1 e);show y.toNat = 1;omega)
       have hP2:plainK l = putK (K ++ [0]) (plainK (l.drop (k + 2))):=by rw [HP.out,HDr2.out,plainK_one,putK_putK]
       have HP2:=hid hP2
       clear hP2 h2 h3
       go_wp2_with (refine app22 rfl (.tmp 46) (.tmp 48) rfl w.heap.size q2 N c2 K rfl (own_below Hown.out ((Below.refl _ _).alloc (Nat.le_refl _) _)) _ 1 1 [0] rfl (fun h=>by cases h) rfl (Rd.new _ (([0]:List UInt8).map bv) 5) (by omega) (by simp;omega) ?_;intro q3 c3 w3 g3;have G3:=hid g3;clear g3)
       go_roundw
       case rel =>
        refine ⟨k + 2,K ++ [0],by omega,by go_num,by rw [List.length_append,← HN.out];simp;omega, ?_,Hb.out.trans (((Below.refl _ _).alloc hbs _).trans G3.out.below),HP2.out⟩
        rw [List.length_append,← HN.out]
        exact G3.out.own
       case measure=>simp [intOf];omega
   ·have hq0:((x.toNat:Int) == 0) = false:=by
     rw [beq_eq_false_iff_ne];intro e;exact h0 (UInt8.toNat_inj.1 (by simpa using e))
    have hP2:plainK l = putK (K ++ [x]) (plainK (l.drop (k + 1))):=by rw [HP.out,HDr.out,plainK_ne h0,putK_putK]
    have HP2:=hid hP2
    clear hP2 h0
    go_wp2_with (refine app22 rfl (.tmp 46) (.tmp 48) rfl w.heap.size q2 N c2 K rfl (own_below Hown.out ((Below.refl _ _).alloc (Nat.le_refl _) _)) _ 1 1 [x] rfl (fun h=>by cases h) rfl (Rd.new _ (([x]:List UInt8).map bv) 5) (by omega) (by simp;omega) ?_;intro q3 c3 w3 g3;have G3:=hid g3;clear g3)
    go_roundw
    case rel =>
     refine ⟨k + 1,K ++ [x],by omega,by go_num,by rw [List.length_append,← HN.out];simp;omega, ?_,Hb.out.trans (((Below.refl _ _).alloc hbs _).trans G3.out.below),HP2.out⟩
     rw [List.length_append,← HN.out]
     exact G3.out.own
    case measure=>simp [intOf];omega
  ·obtain rfl:k = m:=by omega
   have hend:plainK l = none:=by rw [HP.out,List.drop_of_length_le (by have:=Hl.out;omega)];rfl
   have HE:=hid hend
   clear hend
   go_wp2
   go_ret3
   exact ⟨Hb.out,.inl ⟨HE.out,5,by decide,rfl⟩⟩
end Go.Proofs.Herb
namespace Go.Proofs.Herb
open Go.RowKit
theorem tail_sizes (T:List UInt8) (hT:T.length = 13):((T.map bv).toArray).size = 13:=by simp [hT]
theorem riseG_snoc (a:Nat) (l:List UInt8) (c:UInt8):riseG a (l ++ [c]) = riseG a l * 256 + (255 - c.toNat):=by
 unfold riseG
 rw [List.foldl_append]
 rfl
theorem rise_form (S:Nat) (x:UInt8) (hS:S < 72057594037927936):bits BinOp.or IntKind.u64 ((S:Int) * 256) (IntKind.u64.wrap (bits BinOp.xor IntKind.u8 (if IntKind.u8.signed = true then -1 else IntKind.u8.max) (x.toNat:Int))) = ((S * 256 + (255 - x.toNat):Nat):Int):=by
 have hx:=x.toNat_lt
 have e1:bits BinOp.xor IntKind.u8 (if IntKind.u8.signed = true then -1 else IntKind.u8.max) (x.toNat:Int) = ((255 - x.toNat:Nat):Int):=by
  rw [show (if IntKind.u8.signed = true then (-1:Int) else IntKind.u8.max) = ((255:Nat):Int) from rfl,u8_xor_nat _ _ (by decide) hx]
  congr 1
  have key:∀ x:Fin 256,255 ^^^ x.val = 255 - x.val:=by decide +kernel
  exact key ⟨x.toNat,hx⟩
 have e2:IntKind.u64.wrap ((255 - x.toNat:Nat):Int) = ((255 - x.toNat:Nat):Int):=by rw [IntKind.wrap_u64];omega
 rw [e1,e2,show ((S:Int) * 256) = ((256 * S:Nat):Int) by omega,u64_or_nat _ _ (by omega) (by omega),nat_join 8 _ _ (by omega) (by omega)]
 congr 1
 omega
set_option maxRecDepth 100000 in
set_option maxHeartbeats 1000000 in
theorem fallen_any (T:List UInt8) (hT:T.length = 13) (fr many:Nat) (hfm:fr + many ≤ 13) (h0:1 ≤ many) (hm8:many ≤ 8) (w:World) :
  Calls Tryz.prog 108 #[.agg (T.map bv).toArray,.int .i64 (fr:Int),.int .i64 (many:Int)] w fun e w'=>e = .returned (.int .u64 (riseG 0 ((T.drop fr).take many):Int)) ∧ Below w.heap.size w w':=by
 have w1:IntKind.i64.wrap ((fr:Int) + (many:Int)) = ((fr + many:Nat):Int):=by rw [IntWalk.i64_in _ (by omega)];omega
 have hcell:∀ k,k < many → (w.alloc (.cells (T.map bv).toArray 152)).cell? ⟨w.heap.size,fr + k,none⟩ = some (.int .u8 (((T[fr + k]?).getD 0).toNat:Int)):=by
  intro k hk
  rw [cell_of_row _ _ _ _ _ _ (heap_alloc_new w _),List.getElem?_toArray,List.getElem?_map,List.getElem?_eq_getElem (by omega)]
  rfl
 have hsl:∀ w':World,(Instr.sliceAt 152 (.pointer (some ⟨w.heap.size,0,none⟩)) (some (.int .i64 (fr:Int))) (some (.int .i64 ((fr:Int) + (many:Int)))) none).run Tryz.prog w' = .ok (.slice (some ⟨w.heap.size,fr,none⟩) many (13 - fr)) w':=by
  intro w'
  have i1:(0:Int) ≤ (fr:Int):=by omega
  have i2:(fr:Int) ≤ (fr:Int) + (many:Int):=by omega
  have i3:(fr:Int) + (many:Int) ≤ 13:=by omega
  have i4:¬ 13 = fr:=by omega
  have i5:¬ (fr:Int) + (many:Int) < (fr:Int):=by omega
  go_simp
  omega
 have HC:=hid hcell
 have HT:=hid hT
 have hsz:=tail_sizes T hT
 have hag:(Value.agg (T.map bv).toArray).cells = (T.map bv).toArray:=rfl
 obtain ⟨C,hC⟩:∃ C,C = (T.map bv).toArray:=⟨_,rfl⟩
 rw [← hC] at hsz HC ⊢
 clear hcell hT hag hC
 go_enter Tryz.func108,Tryz.ntmps108
 have HX:=hid hsl
 go_wp2
 clear hsl HX
 go_loop [6,15] (fun s i=>∃ k:Nat,k ≤ many ∧ i = .int .i64 (k:Int) ∧ s = .int .u64 (riseG 0 ((T.drop fr).take k):Int)) (fun _ i=>many - (intOf i).toNat)
 case atStart=>exact ⟨0,Nat.zero_le _,rfl,rfl⟩
 case round =>
  obtain ⟨k,hk,rfl,rfl⟩:=hrel
  obtain ⟨S,hS⟩:∃ S,Hid (S = riseG 0 ((T.drop fr).take k)):=⟨_,hid rfl⟩
  rw [← hS.out]
  by_cases hlt:k < many
  ·have hc:=HC.out k hlt
   have hs:riseG 0 ((T.drop fr).take (k + 1)) = S * 256 + (255 - ((T[fr + k]?).getD 0).toNat):=by
    have hT:=HT.out
    rw [List.take_succ_eq_append_getElem (by rw [List.length_drop];omega),riseG_snoc,← hS.out,List.getElem_drop,List.getElem?_eq_getElem (by omega)]
    rfl
   obtain ⟨x,hx⟩:∃ x,Hid (x = (T[fr + k]?).getD 0):=⟨_,hid rfl⟩
   rw [← hx.out] at hs hc
   have hSl:S < 2 ^ (8 * k):=by
    have h:=riseG_lt ((T.drop fr).take k) 0 0 (by decide)
    rw [← hS.out,Nat.zero_add,List.length_take] at h
    refine Nat.lt_of_lt_of_le h (Nat.pow_le_pow_right (by decide) ?_)
    have:=Nat.min_le_left k ((T.drop fr).length)
    omega
   have hSl7:S < 72057594037927936:=Nat.lt_of_lt_of_le hSl (Nat.le_trans (Nat.pow_le_pow_right (by decide) (show 8 * k ≤ 56 by omega)) (by decide))
   have HS2:=hid hs
   clear hs hSl
   go_wp2
   go_round
   case rel=>exact ⟨k + 1,by omega,by go_num,by rw [HS2.out,rise_form S x hSl7]⟩
   case measure=>simp [intOf];omega
  ·obtain rfl:k = many:=by omega
   go_wp2
   go_ret
   refine ⟨?_,(Below.refl _ _).alloc (Nat.le_refl _) _⟩
   rw [← hS.out]
   rfl
end Go.Proofs.Herb
namespace Go.Proofs.Herb
open Go.RowKit
theorem nanI (a:Int) (w:World):Calls Tryz.prog 127 #[.int .i64 a] w fun e w'=>e = .returned (.bool false) ∧ w = w':=by
 go_enter Tryz.func127,Tryz.ntmps127
 go_wp2
 go_ret
 exact ⟨rfl,rfl⟩
theorem cmpI_any (a b:Nat) (w:World):Calls Tryz.prog 107 #[.int .i64 (a:Int),.int .i64 (b:Int)] w fun e w'=>e = .returned (.int .i64 (if a < b then -1 else if b < a then 1 else 0)) ∧ w = w':=by
 by_cases h1:a < b
 ·rw [if_pos h1]
  go_enter Tryz.func107,Tryz.ntmps107
  go_wp2_with (go_at_call 127;refine (nanI _ _).mono ?_;rintro e w' ⟨rfl,rfl⟩)
  go_ret
  exact ⟨rfl,rfl⟩
 ·by_cases h2:b < a
  ·rw [if_neg h1,if_pos h2]
   go_enter Tryz.func107,Tryz.ntmps107
   go_wp2_with (go_at_call 127;refine (nanI _ _).mono ?_;rintro e w' ⟨rfl,rfl⟩)
   go_ret
   exact ⟨rfl,rfl⟩
  ·rw [if_neg h1,if_neg h2]
   go_enter Tryz.func107,Tryz.ntmps107
   go_wp2_with (go_at_call 127;refine (nanI _ _).mono ?_;rintro e w' ⟨rfl,rfl⟩)
   go_ret
   exact ⟨rfl,rfl⟩
def zFact:Fact:=⟨⟨#[]⟩,0,0,0,0,⟨#[]⟩⟩
theorem list6k {α:Type}:∀ (l:List α),l.length = 6 → ∃ a b c d e f,l = [a,b,c,d,e,f]
 | [a,b,c,d,e,f],_=>⟨a,b,c,d,e,f,rfl⟩
theorem set6 {w:World} {B b0:Nat} {t:TypeId} {cs:Array Value} (h:w.heap[B]? = some (.cells cs t (0,0))) (hs:cs.size = 6) (hb:b0 ≤ B) (v0 v1 v2 v3 v4 v5:Value) :
  ((((((w.setCell ⟨B,0,none⟩ v0).setCell ⟨B,1,none⟩ v1).setCell ⟨B,2,none⟩ v2).setCell ⟨B,3,none⟩ v3).setCell ⟨B,4,none⟩ v4).setCell ⟨B,5,none⟩ v5).heap[B]? = some (.cells #[v0,v1,v2,v3,v4,v5] t (0,0)) ∧
  Below b0 w ((((((w.setCell ⟨B,0,none⟩ v0).setCell ⟨B,1,none⟩ v1).setCell ⟨B,2,none⟩ v2).setCell ⟨B,3,none⟩ v3).setCell ⟨B,4,none⟩ v4).setCell ⟨B,5,none⟩ v5):=by
 have g0:=Go.heap_setCell_same w B 0 cs t v0 h
 have k0:=(Below.refl b0 w).setCell (p:=⟨B,0,none⟩) hb v0
 generalize w.setCell ⟨B,0,none⟩ v0 = w0 at *
 have g1:=Go.heap_setCell_same w0 B 1 _ t v1 g0
 have k1:=k0.setCell (p:=⟨B,1,none⟩) hb v1
 generalize w0.setCell ⟨B,1,none⟩ v1 = w1 at *
 have g2:=Go.heap_setCell_same w1 B 2 _ t v2 g1
 have k2:=k1.setCell (p:=⟨B,2,none⟩) hb v2
 generalize w1.setCell ⟨B,2,none⟩ v2 = w2 at *
 have g3:=Go.heap_setCell_same w2 B 3 _ t v3 g2
 have k3:=k2.setCell (p:=⟨B,3,none⟩) hb v3
 generalize w2.setCell ⟨B,3,none⟩ v3 = w3 at *
 have g4:=Go.heap_setCell_same w3 B 4 _ t v4 g3
 have k4:=k3.setCell (p:=⟨B,4,none⟩) hb v4
 generalize w3.setCell ⟨B,4,none⟩ v4 = w4 at *
 have g5:=Go.heap_setCell_same w4 B 5 _ t v5 g4
 have k5:=k4.setCell (p:=⟨B,5,none⟩) hb v5
 generalize w4.setCell ⟨B,5,none⟩ v5 = w5 at *
 refine ⟨?_,k5⟩
 rw [g5]
 have e:((((((cs.setIfInBounds 0 v0).setIfInBounds 1 v1).setIfInBounds 2 v2).setIfInBounds 3 v3).setIfInBounds 4 v4).setIfInBounds 5 v5) = #[v0,v1,v2,v3,v4,v5]:=by
  obtain ⟨l⟩:=cs
  obtain ⟨a,b,c,d,e,f,rfl⟩:=list6k l hs
  rfl
 rw [e]
theorem infoFact:(Tryz.prog.info? 27).map (·.size) = some 6:=by kernel_rfl
theorem kget_results {tmps:Array Value} {w:World} {B:Nat} {C:Array Value} {e:Int} (h2:tmps.getD 2 undef = .pointer (some ⟨B,0,none⟩)) (h3:tmps.getD 3 undef = .int .i64 e) (g:w.heap[B]? = some (.cells C 27 (0,0))) (hC:C.size = 6) :
  (results Tryz.f73 tmps).run Tryz.prog w = .ok (.tuple #[.agg C,.int .i64 e]) w:=by
 have r2:=run_loadVar_row (P:=Tryz.prog) w B _ 27 C (0,0) _ g Tryz.underlying27 rfl (by rw [hC];exact infoFact)
 have hr:(Tryz.f73).results = #[.cell 2 27,.tmp 3]:=rfl
 simp [results,asAddr] at h2 h3 ⊢
 simp [h2,h3,r2]
def KgtP (l:List UInt8) (b0:Nat) (w:World) (e:Ending) (w':World):Prop :=
 Below b0 w w' ∧ ((kgetF l = none ∧ ∃ er:Int,er ≠ 0 ∧ e = .returned (.tuple #[.agg zFact.cells.toArray,.int .i64 er])) ∨
  ∃ f,kgetF l = some f ∧ e = .returned (.tuple #[.agg f.cells.toArray,.int .i64 0]))
set_option maxRecDepth 100000 in
set_option maxHeartbeats 1000000 in
theorem kget_any (q:Option Addr) (m c:Nat) (l:List UInt8) (w:World) (hl:l.length = m) (hm:m ≤ 4194304) (hc:m ≤ c) (hr:Rd w q (l.map bv)) :
  Calls Tryz.prog 73 #[.slice q m c] w (KgtP l w.heap.size w):=by
 have HP:=hid (plain_any q m c l (w.alloc (.cells zFact.cells.toArray 27)) hl hm hc (hr.alloc _))
 have Hr:=hid hr
 clear hr hl
 go_enter Tryz.func73,Tryz.ntmps73
 go_wp2_with fail
 refine HP.out.mono ?_
 rintro e w1 ⟨hb1,hp⟩
 have hbox:w1.heap[w.heap.size]? = some (.cells zFact.cells.toArray 27 (0,0)):=(hb1.block _ (by simp)).trans (heap_alloc_new w _)
 have HB1:=hid (((Below.refl w.heap.size w).alloc (Nat.le_refl _) _).trans (hb1.mono (by simp)))
 have Hbox:=hid hbox
 have c0:w1.cell? ⟨w.heap.size,0,none⟩ = some (.string ⟨#[]⟩):=by rw [cell_of_row _ _ _ _ _ _ hbox];rfl
 have c1:w1.cell? ⟨w.heap.size,1,none⟩ = some (.int .u32 0):=by rw [cell_of_row _ _ _ _ _ _ hbox];rfl
 have c2:w1.cell? ⟨w.heap.size,2,none⟩ = some (.int .u64 0):=by rw [cell_of_row _ _ _ _ _ _ hbox];rfl
 have c3:w1.cell? ⟨w.heap.size,3,none⟩ = some (.int .u64 0):=by rw [cell_of_row _ _ _ _ _ _ hbox];rfl
 have c4:w1.cell? ⟨w.heap.size,4,none⟩ = some (.int .u8 0):=by rw [cell_of_row _ _ _ _ _ _ hbox];rfl
 have c5:w1.cell? ⟨w.heap.size,5,none⟩ = some (.string ⟨#[]⟩):=by rw [cell_of_row _ _ _ _ _ _ hbox];rfl
 have fz:∀ j,w1.frozen? ⟨w.heap.size,j,none⟩ = false:=fun j=>frozen_of_row _ _ _ _ _ hbox
 clear hb1 hbox HP
 rcases hp with ⟨hn,er,her,rfl⟩ | ⟨k,r,hk,q1,cc1,q2,cc2,rfl,hr1,hr2,hk1,hc1,hr2l,hc2⟩
 ·have he:(er != 0) = true:=by simpa using her
  have HN:=hid (show kgetF l = none by unfold kgetF;rw [hn])
  clear hn
  go_wp2
  obtain ⟨x1,x2⟩:=set6 (b0:=w.heap.size) Hbox.out rfl (Nat.le_refl _) (.string ⟨#[]⟩) (.int .u32 0) (.int .u64 0) (.int .u64 0) (.int .u8 0) (.string ⟨#[]⟩)
  refine bodyPost_ret (kget_results rfl rfl x1 rfl) rfl ?_
  exact ⟨HB1.out.trans x2,.inl ⟨HN.out,er,her,rfl⟩⟩
 ·obtain ⟨R,hR⟩:∃ R,Hid (R = r.length):=⟨_,hid rfl⟩
  obtain ⟨key,hkey⟩:∃ s:ByteArray,Hid (s = ⟨k.toArray⟩):=⟨_,hid rfl⟩
  have hcv:=convB w1 q1 k.length cc1 k rfl hr1
  have hks:k.length = key.size:=by rw [hkey.out];rfl
  rw [← hkey.out,hks] at hcv
  rw [hks,← hR.out]
  rw [hks] at hk1
  have HR2:=hid (fun (W:World) (hW:Below w.heap.size w W)=>hr2 W (Hr.out.below hW))
  have HG:=hid (show kgetF l = if (1 ≤ key.size ∧ key.size ≤ 32 ∧ R = 13) ∧ mayF (factK k r) = true then some (factK k r) else none by unfold kgetF;rw [hk,← hks,hR.out])
  clear hr1 hr2 hk hks
  have hbk:(w1.setCell ⟨w.heap.size,0,none⟩ (.string key)).heap[w.heap.size]? = some (.cells #[.string key,.int .u32 0,.int .u64 0,.int .u64 0,.int .u8 0,.string ⟨#[]⟩] 27 (0,0)):=Go.heap_setCell_same w1 _ 0 _ _ _ Hbox.out
  have hBk:Below w.heap.size w (w1.setCell ⟨w.heap.size,0,none⟩ (.string key)):=HB1.out.setCell (p:=⟨w.heap.size,0,none⟩) (Nat.le_refl _) _
  have HBk:=hid hbk
  have HBB:=hid hBk
  clear hbk hBk
  by_cases hK1:key.size < 1
  ·have hno:=HG.out
   rw [if_neg (by omega)] at hno
   have HNo:=hid hno
   have i1:(key.size:Int) < 1:=by omega
   clear hno
   go_wp2
   obtain ⟨x1,x2⟩:=set6 (b0:=w.heap.size) HBk.out rfl (Nat.le_refl _) (.string ⟨#[]⟩) (.int .u32 0) (.int .u64 0) (.int .u64 0) (.int .u8 0) (.string ⟨#[]⟩)
   refine bodyPost_ret (kget_results rfl rfl x1 rfl) rfl ?_
   exact ⟨HBB.out.trans x2,.inl ⟨HNo.out,4,by decide,rfl⟩⟩
  by_cases hK2:32 < key.size
  ·have hno:=HG.out
   rw [if_neg (by omega)] at hno
   have HNo:=hid hno
   have i1:¬ (key.size:Int) < 1:=by omega
   have i2:(32:Int) < (key.size:Int):=by omega
   clear hno
   go_wp2
   obtain ⟨x1,x2⟩:=set6 (b0:=w.heap.size) HBk.out rfl (Nat.le_refl _) (.string ⟨#[]⟩) (.int .u32 0) (.int .u64 0) (.int .u64 0) (.int .u8 0) (.string ⟨#[]⟩)
   refine bodyPost_ret (kget_results rfl rfl x1 rfl) rfl ?_
   exact ⟨HBB.out.trans x2,.inl ⟨HNo.out,4,by decide,rfl⟩⟩
  have i1:¬ (key.size:Int) < 1:=by omega
  have i2:¬ (32:Int) < (key.size:Int):=by omega
  have HCmp:=hid (fun w'=>cmpI_any R 13 w')
  have hlt:w.heap.size < w1.heap.size:=lt_of_block Hbox.out
  have hne:¬ w.heap.size = w1.heap.size:=by omega
  by_cases hR1:R < 13
  ·have hno:=HG.out
   rw [if_neg (by omega)] at hno
   have HNo:=hid hno
   rw [if_pos hR1] at HCmp
   clear hno
   go_wp2_with (go_at_call 107;refine (HCmp.out _).mono ?_;rintro e w' ⟨rfl,rfl⟩)
   obtain ⟨x1,x2⟩:=set6 (b0:=w.heap.size) HBk.out rfl (Nat.le_refl _) (.string ⟨#[]⟩) (.int .u32 0) (.int .u64 0) (.int .u64 0) (.int .u8 0) (.string ⟨#[]⟩)
   refine bodyPost_ret (kget_results rfl rfl ((Below.heap_alloc _ _ _ (lt_of_block x1)).trans x1) rfl) rfl ?_
   exact ⟨(HBB.out.trans x2).alloc (Nat.le_of_lt (lt_of_block x1)) _,.inl ⟨HNo.out,5,by decide,rfl⟩⟩
  by_cases hR2:13 < R
  ·have hno:=HG.out
   rw [if_neg (by omega)] at hno
   have HNo:=hid hno
   rw [if_neg hR1,if_pos hR2] at HCmp
   clear hno
   go_wp2_with (go_at_call 107;refine (HCmp.out _).mono ?_;rintro e w' ⟨rfl,rfl⟩)
   obtain ⟨x1,x2⟩:=set6 (b0:=w.heap.size) HBk.out rfl (Nat.le_refl _) (.string ⟨#[]⟩) (.int .u32 0) (.int .u64 0) (.int .u64 0) (.int .u8 0) (.string ⟨#[]⟩)
   refine bodyPost_ret (kget_results rfl rfl ((Below.heap_alloc _ _ _ (lt_of_block x1)).trans x1) rfl) rfl ?_
   exact ⟨(HBB.out.trans x2).alloc (Nat.le_of_lt (lt_of_block x1)) _,.inl ⟨HNo.out,4,by decide,rfl⟩⟩
  rw [if_neg hR1,if_neg hR2] at HCmp
  obtain rfl:R = 13:=by omega
  obtain ⟨b2,off2,rfl, -⟩:=(HR2.out w (Below.refl _ _)).cell (k:=0) (by rw [List.length_map,← hR.out];omega)
  have hat:∀ w':World,(Instr.arrayAt 152 (.slice (some ⟨b2,off2,none⟩) 13 cc2)).run Tryz.prog w' = .ok (.pointer (some ⟨b2,off2,none⟩)) w':=by
   intro w'
   unfold Instr.arrayAt
   simp [Sem.run_bind,run_underlying Tryz.underlying152]
  obtain ⟨L,hL⟩:∃ L,Hid (L = r.map bv):=⟨_,hid rfl⟩
  have hLs:L.length = 13:=by rw [hL.out,List.length_map,← hR.out]
  have HL1:=hid (show ∀ v ∈ L.toArray.toList,v.oneCell' = true by rw [hL.out];exact bv_one)
  have HLs:=hid hLs
  have HLz:=hid (show L.toArray.size = 13 from hLs)
  have HRd:=hid (show ∀ W,Below w.heap.size w W → ∀ (j:Nat) (u:Value),L[j]? = some u → W.cell? ⟨b2,off2 + j,none⟩ = some u from fun W hW j u hu=>by
   rcases HR2.out W hW with h | ⟨b',off',e',h⟩
   ·rw [hL.out,h] at hu
    simp at hu
   ·cases e'
    exact h j u (by rw [hL.out] at hu;exact hu))
  have HBA:=hid (HBB.out.alloc (Nat.le_of_lt (lt_of_block HBk.out)) (.cells #[.int .u8 0,.int .u8 0,.int .u8 0,.int .u8 0,.int .u8 0,.int .u8 0,.int .u8 0,.int .u8 0,.int .u8 0,.int .u8 0,.int .u8 0,.int .u8 0,.int .u8 0] 152))
  have hT3:=heap_alloc_new (w1.setCell ⟨w.heap.size,0,none⟩ (.string key)) (.cells #[.int .u8 0,.int .u8 0,.int .u8 0,.int .u8 0,.int .u8 0,.int .u8 0,.int .u8 0,.int .u8 0,.int .u8 0,.int .u8 0,.int .u8 0,.int .u8 0,.int .u8 0] 152)
  rw [World.size_setCell] at hT3
  have HT3:=hid hT3
  clear hLs hT3
  go_upto_region 14 with (first
   | (go_at_call 107;refine (HCmp.out _).mono ?_;rintro e w' ⟨rfl,rfl⟩)
   | (refine wpList_load_rd rfl 152 (.tmp 44) rfl b2 off2 rfl L _ (HRd.out _ HBA.out) Tryz.underlying152 rfl (by rw [HLs.out];exact infoTail) ?_)
   | (refine wpList_store_block rfl 152 (.tmp 6) (.tmp 45) rfl _ _ _ L.toArray rfl rfl HT3.out (by rw [HLz.out];rfl) (by rw [HLz.out];exact infoTail) HL1.out ?_))
  obtain ⟨W3,hW3⟩:∃ W,W = ((w1.setCell ⟨w.heap.size,0,none⟩ (.string key)).alloc (.cells #[.int .u8 0,.int .u8 0,.int .u8 0,.int .u8 0,.int .u8 0,.int .u8 0,.int .u8 0,.int .u8 0,.int .u8 0,.int .u8 0,.int .u8 0,.int .u8 0,.int .u8 0] 152)).setRow w1.heap.size L.toArray:=⟨_,rfl⟩
  rw [← hW3]
  go_frame
  have hB3:Below w.heap.size w W3:=by rw [hW3];exact below_setRow HBA.out (Nat.le_of_lt hlt) _
  have hT4:W3.heap[w1.heap.size]? = some (.cells L.toArray 152 (0,0)):=by rw [hW3];exact setRow_heap _ _ _ _ _ _ HT3.out
  have hF3:W3.heap[w.heap.size]? = some (.cells #[.string key,.int .u32 0,.int .u64 0,.int .u64 0,.int .u8 0,.string ⟨#[]⟩] 27 (0,0)):=by
   rw [hW3,setRow_other _ _ _ _ hne]
   exact (Below.heap_alloc _ _ _ (lt_of_block HBk.out)).trans HBk.out
  clear hW3
  obtain ⟨T,hTe⟩:∃ T,Hid (T = w1.heap.size):=⟨_,hid rfl⟩
  have hlt3:w.heap.size < T:=by rw [hTe.out];exact hlt
  rw [← hTe.out] at hT4 ⊢
  obtain ⟨V,hV⟩:∃ V,Hid (V = riseG 0 (r.take 4)):=⟨_,hid rfl⟩
  obtain ⟨Q,hQ⟩:∃ V,Hid (V = riseG 0 ((r.drop 4).take 8)):=⟨_,hid rfl⟩
  obtain ⟨kd,hkd⟩:∃ V,Hid (V = (r[12]?).getD 0):=⟨_,hid rfl⟩
  have hF0:∀ W,Calls Tryz.prog 108 #[.agg L.toArray,.int .i64 0,.int .i64 4] W fun e w'=>e = .returned (.int .u64 (V:Int)) ∧ Below W.heap.size W w':=fun W=>by
   rw [hL.out,hV.out]
   have h:=fallen_any r hR.out.symm 0 4 (by omega) (by omega) (by omega) W
   rw [List.drop_zero] at h
   exact h
  have hF1:∀ W,Calls Tryz.prog 108 #[.agg L.toArray,.int .i64 4,.int .i64 8] W fun e w'=>e = .returned (.int .u64 (Q:Int)) ∧ Below W.heap.size W w':=fun W=>by
   rw [hL.out,hQ.out]
   exact fallen_any r hR.out.symm 4 8 (by omega) (by omega) (by omega) W
  have hVl:V < 4294967296:=by
   have h:=riseG_lt (r.take 4) 0 0 (by decide)
   rw [← hV.out,List.length_take,← hR.out] at h
   exact h
  have m1:(V:Int) % 4294967296 = (V:Int):=by omega
  have hS:∀ W:World,W.heap[T]? = some (.cells L.toArray 152 (0,0)) → W.rangeAt T 0 L ∧ W.cell? ⟨T,12,none⟩ = some (.int .u8 (kd.toNat:Int)):=fun W hW=>by
   refine ⟨fun j v hv => ?_, ?_⟩
   ·rw [Nat.zero_add,cell_of_row _ _ _ _ _ _ hW];simpa using hv
   ·rw [cell_of_row _ _ _ _ _ _ hW,hL.out,List.getElem?_toArray,List.getElem?_map,hkd.out,List.getElem?_eq_getElem (by have:=hR.out;omega)]
    rfl
  have hSet:∀ (W:World) (j:Nat) (v:Value),W.heap[T]? = some (.cells L.toArray 152 (0,0)) → (W.setCell ⟨w.heap.size,j,none⟩ v).heap[T]? = some (.cells L.toArray 152 (0,0)):=fun W j v hW=>by
   rw [Go.heap_setCell_other _ _ _ _ (by show T ≠ w.heap.size;omega)]
   exact hW
  have HFx:=hid (show ∀ W:World,Below W3.heap.size W3 W → W.cell? ⟨w.heap.size,0,none⟩ = some (.string key) ∧ W.cell? ⟨w.heap.size,1,none⟩ = some (.int .u32 0) ∧ W.cell? ⟨w.heap.size,2,none⟩ = some (.int .u64 0) ∧ W.cell? ⟨w.heap.size,3,none⟩ = some (.int .u64 0) ∧ W.cell? ⟨w.heap.size,4,none⟩ = some (.int .u8 0) ∧ W.cell? ⟨w.heap.size,5,none⟩ = some (.string ⟨#[]⟩) ∧ W.frozen? ⟨w.heap.size,1,none⟩ = false ∧ W.frozen? ⟨w.heap.size,2,none⟩ = false ∧ W.frozen? ⟨w.heap.size,4,none⟩ = false from fun W hW=>by
   have hb:=(hW.block _ (lt_of_block hF3)).trans hF3
   refine ⟨?_, ?_, ?_, ?_, ?_, ?_,frozen_of_row _ _ _ _ _ hb,frozen_of_row _ _ _ _ _ hb,frozen_of_row _ _ _ _ _ hb⟩ <;> (rw [cell_of_row _ _ _ _ _ _ hb];rfl))
  have HS:=hid hS
  have HSet:=hid hSet
  have HF0:=hid hF0
  have HF1:=hid hF1
  have HT4:=hid hT4
  have HF3:=hid hF3
  have HB3:=hid hB3
  clear hF0 hF1 hT4 hF3 hB3 c0 c1 c2 c3 c4 c5 fz hat hcv hS hSet hne hlt
  have hu99:=Tryz.underlying152
  have hi99:(Tryz.prog.info? 152).map (·.size) = some L.length:=by rw [HLs.out];exact infoTail
  have HTd:=hid (show W3.drew.heap[T]? = _ from HT4.out)
  obtain ⟨S,hSo,hSi⟩:∃ S:World → Prop,(∀ W,S W → W.rangeAt T 0 L ∧ W.cell? ⟨T,12,none⟩ = some (.int .u8 (kd.toNat:Int))) ∧ ∀ W,W.heap[T]? = some (.cells L.toArray 152 (0,0)) → S W:=⟨_,fun W h=>h,HS.out⟩
  have HSo:=hid hSo
  have HSi:=hid hSi
  have hSd:=HSi.out _ HTd.out
  have HLd:=hid (show ∀ W,W.rangeAt T 0 L → (Instr.loadAt 152 (.pointer (some ⟨T,0,none⟩))).run Tryz.prog W = .ok (.agg L.toArray) W from fun W hW=>run_loadAt_mid W T 0 152 L _ hW hu99 rfl hi99)
  clear hSo hSi hu99 hi99
  refine wp_region_held (S:=S) (by kernel_rfl) ?_
  change wpAnyH _ _ _ _ _ _ _ _ W3.drew
  refine take_held (v:=.agg L.toArray) 0 rfl (by kernel_rfl) (by kernel_rfl) (by kernel_rfl) (fun _ _ _ h=>h) (Or.inl ⟨by rfl, ?y0⟩) (by assumption) ?r0
  case y0 =>
   intro wS hSw
   have s2:=HLd.out _ (HSo.out _ hSw).1
   clear hSw
   simp only [execOp,Act.eval,Sem.run_bind,Array.getD_eq_getD_getElem?,List.getElem?_toArray,List.getElem?_cons_zero,List.getElem?_cons_succ,Option.getD_some]
   rw [s2]
   rfl
  simp only [Act.put,List.setIfInBounds_toArray,List.set_cons_zero,List.set_cons_succ]
  refine take_held (v:=.agg L.toArray) 3 rfl (by kernel_rfl) (by kernel_rfl) (by kernel_rfl) (fun _ _ _ h=>h) (Or.inl ⟨by rfl, ?y3⟩) (by assumption) ?r3
  case y3 =>
   intro wS hSw
   have s2:=HLd.out _ (HSo.out _ hSw).1
   clear hSw
   simp only [execOp,Act.eval,Sem.run_bind,Array.getD_eq_getD_getElem?,List.getElem?_toArray,List.getElem?_cons_zero,List.getElem?_cons_succ,Option.getD_some]
   rw [s2]
   rfl
  simp only [Act.put,List.setIfInBounds_toArray,List.set_cons_zero,List.set_cons_succ]
  refine take_held (v := ?v5) 5 rfl (by kernel_rfl) (by kernel_rfl) (by kernel_rfl) (fun _ _ _ h=>h) (Or.inl ⟨by rfl, ?y5⟩) (by assumption) ?r5
  case y5 =>
   intro wS hSw
   obtain ⟨s0,s1⟩:=HSo.out _ hSw
   have s2:=HLd.out _ s0
   clear s0 hSw
   go_simp
   try with_reducible rfl
  simp only [Act.put,List.setIfInBounds_toArray,List.set_cons_zero,List.set_cons_succ]
  refine take_held (v := ?v6) 6 rfl (by kernel_rfl) (by kernel_rfl) (by kernel_rfl) (fun _ _ _ h=>h) (Or.inl ⟨by rfl, ?y6⟩) (by assumption) ?r6
  case y6 =>
   intro wS hSw
   obtain ⟨s0,s1⟩:=HSo.out _ hSw
   have s2:=HLd.out _ s0
   clear s0 hSw
   go_simp
   try with_reducible rfl
  simp only [Act.put,List.setIfInBounds_toArray,List.set_cons_zero,List.set_cons_succ]
  refine wpAnyH_ready (rs:=[1]) (by kernel_rfl) (by simp) ?_
  refine cons_held 1 rfl (fun K hK => ?_) AllReadyH.nil
  go_simp
  refine (HF0.out _).mono ?_
  rintro e w4 ⟨rfl,hb4⟩
  have HTa:=hid ((hb4.block _ (lt_of_block HTd.out)).trans HTd.out)
  have HBa:=hid (((Below.refl W3.heap.size W3).drew).trans hb4)
  have hSa:=HSi.out _ HTa.out
  refine hK.out _ _ hSa (fun hHeld => ?_)
  clear hK K hb4
  try (simp only [Act.put,List.setIfInBounds_toArray,List.set_cons_zero,List.set_cons_succ])
  refine take_held (v := ?v2) 2 rfl (by kernel_rfl) (by kernel_rfl) (by kernel_rfl) (fun _ _ _ h=>h) (Or.inl ⟨by rfl, ?y2⟩) (by assumption) ?r2
  case y2 =>
   intro wS hSw
   obtain ⟨s0,s1⟩:=HSo.out _ hSw
   have s2:=HLd.out _ s0
   clear s0 hSw
   go_simp
   try with_reducible rfl
  simp only [Act.put,List.setIfInBounds_toArray,List.set_cons_zero,List.set_cons_succ]
  refine take_held (v := ?v7) 7 rfl (by kernel_rfl) (by kernel_rfl) (by kernel_rfl) (fun _ _ _ h=>h) (Or.inl ⟨by rfl, ?y7⟩) (by assumption) ?r7
  case y7 =>
   intro wS hSw
   obtain ⟨s0,s1⟩:=HSo.out _ hSw
   have s2:=HLd.out _ s0
   clear s0 hSw
   go_simp
   try with_reducible rfl
  simp only [Act.put,List.setIfInBounds_toArray,List.set_cons_zero,List.set_cons_succ]
  refine wpAnyH_ready (rs:=[4]) (by kernel_rfl) (by simp) ?_
  refine cons_held 4 rfl (fun K hK => ?_) AllReadyH.nil
  go_simp
  refine (HF1.out _).mono ?_
  rintro e w5 ⟨rfl,hb5⟩
  have HTb:=hid ((hb5.block _ (lt_of_block HTa.out)).trans HTa.out)
  have HBb:=hid (HBa.out.trans (hb5.mono HBa.out.size))
  obtain ⟨c0,c1,c2,c3,c4,c5,f1,f2,f4⟩:=HFx.out _ HBb.out
  have hSb:=HSi.out _ HTb.out
  refine hK.out _ _ hSb (fun hHeld => ?_)
  clear hK K hb5
  try (simp only [Act.put,List.setIfInBounds_toArray,List.set_cons_zero,List.set_cons_succ])
  refine wpAnyH_ready (rs:=[8]) (by kernel_rfl) (by simp) ?_
  refine cons_held 8 rfl (fun K hK => ?_) AllReadyH.nil
  go_simp
  refine hK.out _ _ (HSi.out _ (HSet.out _ _ _ HTb.out)) (fun hHeld => ?_)
  clear hK K
  try (simp only [Act.put,List.setIfInBounds_toArray,List.set_cons_zero,List.set_cons_succ])
  refine take_held (v := ?v9) 9 rfl (by kernel_rfl) (by kernel_rfl) (by kernel_rfl) (fun _ _ _ h=>h) (Or.inl ⟨by rfl, ?y9⟩) (by assumption) ?r9
  case y9 =>
   intro wS hSw
   obtain ⟨s0,s1⟩:=HSo.out _ hSw
   have s2:=HLd.out _ s0
   clear s0 hSw
   go_simp
   try with_reducible rfl
  simp only [Act.put,List.setIfInBounds_toArray,List.set_cons_zero,List.set_cons_succ]
  refine wpAnyH_ready (rs:=[10]) (by kernel_rfl) (by simp) ?_
  refine cons_held 10 rfl (fun K hK => ?_) AllReadyH.nil
  go_simp
  refine hK.out _ _ (HSi.out _ (HSet.out _ _ _ (HSet.out _ _ _ HTb.out))) (fun hHeld => ?_)
  clear hK K
  try (simp only [Act.put,List.setIfInBounds_toArray,List.set_cons_zero,List.set_cons_succ])
  refine take_held (v := ?v11) 11 rfl (by kernel_rfl) (by kernel_rfl) (by kernel_rfl) (fun _ _ _ h=>h) (Or.inl ⟨by rfl, ?y11⟩) (by assumption) ?r11
  case y11 =>
   intro wS hSw
   obtain ⟨s0,s1⟩:=HSo.out _ hSw
   have s2:=HLd.out _ s0
   clear s0 hSw
   go_simp
   try with_reducible rfl
  simp only [Act.put,List.setIfInBounds_toArray,List.set_cons_zero,List.set_cons_succ]
  refine wpAnyH_ready (rs:=[12]) (by kernel_rfl) (by simp) ?_
  refine cons_held 12 rfl (fun K hK => ?_) AllReadyH.nil
  go_simp
  refine hK.out _ _ (HSi.out _ (HSet.out _ _ _ (HSet.out _ _ _ (HSet.out _ _ _ HTb.out)))) (fun hHeld => ?_)
  clear hK K
  try (simp only [Act.put,List.setIfInBounds_toArray,List.set_cons_zero,List.set_cons_succ])
  refine wpAnyH_done (by kernel_rfl) ?_ _
  have mV:IntKind.u32.wrap (V:Int) = (V:Int):=by rw [IntKind.wrap_u32];omega
  rw [mV]
  have hbox5:=(HBb.out.block _ (lt_of_block HF3.out)).trans HF3.out
  have hB5:=HB3.out.trans (HBb.out.mono HB3.out.size)
  obtain ⟨W6,hW6⟩:∃ W,W = ((w5.setCell ⟨w.heap.size,1,none⟩ (.int .u32 (V:Int))).setCell ⟨w.heap.size,2,none⟩ (.int .u64 (Q:Int))).setCell ⟨w.heap.size,4,none⟩ (.int .u8 (kd.toNat:Int)):=⟨_,rfl⟩
  rw [← hW6]
  have hb6:W6.heap[w.heap.size]? = some (.cells #[.string key,.int .u32 (V:Int),.int .u64 (Q:Int),.int .u64 0,.int .u8 (kd.toNat:Int),.string ⟨#[]⟩] 27 (0,0)):=by
   rw [hW6]
   exact Go.heap_setCell_same _ _ 4 _ _ _ (Go.heap_setCell_same _ _ 2 _ _ _ (Go.heap_setCell_same _ _ 1 _ _ _ hbox5))
  have hB6:Below w.heap.size w W6:=by
   rw [hW6]
   exact ((hB5.setCell (p:=⟨w.heap.size,1,none⟩) (Nat.le_refl _) _).setCell (p:=⟨w.heap.size,2,none⟩) (Nat.le_refl _) _).setCell (p:=⟨w.heap.size,4,none⟩) (Nat.le_refl _) _
  clear hW6 c0 c1 c2 c3 c4 c5 f1 f2 f4 mV
  have d0:W6.cell? ⟨w.heap.size,0,none⟩ = some (.string key):=by rw [cell_of_row _ _ _ _ _ _ hb6];rfl
  have d1:W6.cell? ⟨w.heap.size,1,none⟩ = some (.int .u32 (V:Int)):=by rw [cell_of_row _ _ _ _ _ _ hb6];rfl
  have d2:W6.cell? ⟨w.heap.size,2,none⟩ = some (.int .u64 (Q:Int)):=by rw [cell_of_row _ _ _ _ _ _ hb6];rfl
  have d3:W6.cell? ⟨w.heap.size,3,none⟩ = some (.int .u64 0):=by rw [cell_of_row _ _ _ _ _ _ hb6];rfl
  have d4:W6.cell? ⟨w.heap.size,4,none⟩ = some (.int .u8 (kd.toNat:Int)):=by rw [cell_of_row _ _ _ _ _ _ hb6];rfl
  have d5:W6.cell? ⟨w.heap.size,5,none⟩ = some (.string ⟨#[]⟩):=by rw [cell_of_row _ _ _ _ _ _ hb6];rfl
  have hfk:factK k r = ⟨key,V,Q,0,kd.toNat,⟨#[]⟩⟩:=by rw [hkey.out,hV.out,hQ.out,hkd.out];rfl
  have HFk:=hid hfk
  have hM:=may_any (factK k r) W6 (by rw [hfk];show key.size ≤ maxLen;unfold maxLen;omega)
  have hcl:(factK k r).cells.toArray = #[.string key,.int .u32 (V:Int),.int .u64 (Q:Int),.int .u64 0,.int .u8 (kd.toNat:Int),.string ⟨#[]⟩]:=by rw [hfk];rfl
  rw [hcl] at hM
  obtain ⟨mb,hmb⟩:∃ b,Hid (b = mayF (factK k r)):=⟨_,hid rfl⟩
  rw [← hmb.out] at hM
  have HM:=hid hM
  have Hb6:=hid hb6
  have HB6:=hid hB6
  have Hcl:=hid hcl
  clear hM hb6 hB6 hcl hfk hbox5 hB5
  have hG2:kgetF l = if mb = true then some (factK k r) else none:=by
   rw [HG.out,← hmb.out]
   by_cases e:mb = true
   ·rw [if_pos ⟨⟨by omega,by omega,by simp⟩,e⟩,if_pos e]
   ·rw [if_neg (fun h=>e h.2),if_neg e]
  have HG2:=hid hG2
  clear hG2
  go_wp2_with fail
  refine HM.out.mono ?_
  rintro e w7 ⟨rfl,hb7⟩
  have hbx:=(hb7.block _ (lt_of_block Hb6.out)).trans Hb6.out
  have HB7:=hid (HB6.out.trans (hb7.mono HB6.out.size))
  have Hbx:=hid hbx
  have e0:w7.cell? ⟨w.heap.size,0,none⟩ = some (.string key):=by rw [cell_of_row _ _ _ _ _ _ hbx];rfl
  have e1:w7.cell? ⟨w.heap.size,1,none⟩ = some (.int .u32 (V:Int)):=by rw [cell_of_row _ _ _ _ _ _ hbx];rfl
  have e2:w7.cell? ⟨w.heap.size,2,none⟩ = some (.int .u64 (Q:Int)):=by rw [cell_of_row _ _ _ _ _ _ hbx];rfl
  have e3:w7.cell? ⟨w.heap.size,3,none⟩ = some (.int .u64 0):=by rw [cell_of_row _ _ _ _ _ _ hbx];rfl
  have e4:w7.cell? ⟨w.heap.size,4,none⟩ = some (.int .u8 (kd.toNat:Int)):=by rw [cell_of_row _ _ _ _ _ _ hbx];rfl
  have e5:w7.cell? ⟨w.heap.size,5,none⟩ = some (.string ⟨#[]⟩):=by rw [cell_of_row _ _ _ _ _ _ hbx];rfl
  have fz:∀ j,w7.frozen? ⟨w.heap.size,j,none⟩ = false:=fun j=>frozen_of_row _ _ _ _ _ hbx
  clear hb7 hbx HM d0 d1 d2 d3 d4 d5
  cases mb with
  | false =>
   go_wp2
   obtain ⟨x1,x2⟩:=set6 (b0:=w.heap.size) Hbx.out rfl (Nat.le_refl _) (.string ⟨#[]⟩) (.int .u32 0) (.int .u64 0) (.int .u64 0) (.int .u8 0) (.string ⟨#[]⟩)
   refine bodyPost_ret (kget_results rfl rfl x1 rfl) rfl ?_
   exact ⟨HB7.out.trans x2,.inl ⟨HG2.out,4,by decide,rfl⟩⟩
  | true =>
   go_wp2
   obtain ⟨x1,x2⟩:=set6 (b0:=w.heap.size) Hbx.out rfl (Nat.le_refl _) (.string key) (.int .u32 (V:Int)) (.int .u64 (Q:Int)) (.int .u64 0) (.int .u8 (kd.toNat:Int)) (.string ⟨#[]⟩)
   refine bodyPost_ret (kget_results rfl rfl x1 rfl) rfl ?_
   exact ⟨HB7.out.trans x2,.inr ⟨factK k r,HG2.out,by rw [Hcl.out]⟩⟩
end Go.Proofs.Herb
namespace Go.Proofs.Herb
open Go.RowKit
def seekB (key:List UInt8) (valid:Nat):List UInt8:=esc key ++ [0,0] ++ (tailB valid 0 0).take 4
set_option maxRecDepth 100000 in
set_option maxHeartbeats 1000000 in
theorem seek_any (key:ByteArray) (valid:Nat) (hk:key.size ≤ 1000000) (hv:valid < 4294967296) (w:World) :
  Calls Tryz.prog 64 #[.string key,.int .u32 (valid:Int)] w fun e w'=>∃ q,e = .returned (.slice q (seekB key.data.toList valid).length (seekB key.data.toList valid).length) ∧ Fr w' w.heap.size 5 1 (.slice q (seekB key.data.toList valid).length (seekB key.data.toList valid).length) (seekB key.data.toList valid).length ((seekB key.data.toList valid).map bv) ∧ Below w.heap.size w w':=by
 obtain ⟨N,hN⟩:∃ N,N = (esc key.data.toList).length + 2:=⟨_,rfl⟩
 have hkl:(seekB key.data.toList valid).length = N + 4:=by
  unfold seekB
  rw [List.length_append,List.length_append,List.length_take,tailB_len,hN];rfl
 have hNl:N ≤ 2000002:=by
  have:=esc_len key.data.toList
  have h2:key.data.toList.length ≤ 1000000:=by rw [Array.length_toList];exact hk
  omega
 have hT:=fun w=>tailOf_any valid 0 0 hv (by decide) (by decide) w
 have hE:=fun w=>escaped_any key (by omega) w
 simp only [← hN] at hE
 rw [hkl]
 have hkp:(seekB key.data.toList valid).map bv = (esc key.data.toList ++ [0,0]).map bv ++ ((tailB valid 0 0).take 4).map bv:=by unfold seekB;rw [List.map_append]
 rw [hkp]
 have HT:=hid hT
 have HE:=hid hE
 obtain ⟨L,hL⟩:∃ L,L = ((tailB valid 0 0).map bv).toArray:=⟨_,rfl⟩
 have hLs:L.size = 13:=by rw [hL];simp [tailB_len]
 have hL1:∀ v ∈ L.toList,v.oneCell' = true:=by rw [hL];exact tailB_one _ _ _
 have hLl:((tailB valid 0 0).take 4).map bv = L.toList.take 4:=by rw [hL,List.map_take]
 rw [← hL] at HT
 have HL:=hid hL
 have HLs:=hid hLs
 have HL1:=hid hL1
 have HLl:=hid hLl
 clear hN hkl hT hE hkp hL hLs hL1 hLl
 go_enter Tryz.func64,Tryz.ntmps64
 go_upto_region 2 with (first
  | (go_at_call 100;refine (HT.out _).mono ?_;rintro e w2 ⟨rfl,hb2⟩;have hz2:=hb2.size;have HB2:=hid hb2;clear hb2)
  | (refine wpList_store_block rfl 152 _ _ rfl _ _ _ _ rfl rfl (heap_alloc_new _ _) (by rw [HLs.out];rfl) (by rw [HLs.out];exact infoTail) HL1.out ?_))
 generalize hw3:(w2.alloc (.cells #[.int .u8 0,.int .u8 0,.int .u8 0,.int .u8 0,.int .u8 0,.int .u8 0,.int .u8 0,.int .u8 0,.int .u8 0,.int .u8 0,.int .u8 0,.int .u8 0,.int .u8 0] 152)).setRow w2.heap.size L = w3
 have hT3:w3.heap[w2.heap.size]? = some (.cells L 152 (0,0)):=by rw [← hw3];exact setRow_heap _ _ _ _ _ _ (heap_alloc_new _ _)
 have hB3:Below w2.heap.size w2 w3:=by rw [← hw3];exact below_setRow ((Below.refl _ _).alloc (Nat.le_refl _) _) (Nat.le_refl _) _
 have hs3:=hB3.size
 have HT3:=hid hT3
 have HB3:=hid ((HB2.out.trans (hB3.mono (by omega))).drew)
 have hws:w.heap.size ≤ w3.heap.size:=by omega
 have HRT:=hid (show ∀ w',Below w3.drew.heap.size w3.drew w' → Rd w' (some ⟨w2.heap.size,0,none⟩) (((tailB valid 0 0).take 4).map bv) from fun w' hb=>Rd.block ((hb.block w2.heap.size (lt_of_block HT3.out)).trans HT3.out) (fun j u hu=>by
  rw [HLl.out] at hu
  rw [Nat.zero_add,← Array.getElem?_toList]
  rw [List.getElem?_take] at hu
  split at hu
  ·exact hu
  ·cases hu))
 clear hw3 hT3 hB3 HT
 go_region_law (first
  | (refine app22s rfl (.tmp 9) (.tmp 10) rfl w.heap.size _ N _ (esc key.data.toList ++ [0,0]) rfl (own_mono HO4.out hws) _ 4 13 ((tailB valid 0 0).take 4) rfl (fun h=>by cases h) (by rw [List.length_take,tailB_len];rfl) (HRT.out _ HB4.out) (by omega) (by omega) ?_;intro q5 c5 w5 g5;have G5:=hid g5;clear g5)
  | (go_simp;go_wp2_with (first | (go_at_call 101;refine (HE.out _).mono ?_;rintro e w4 ⟨q4,c4,rfl,ho4,hb4⟩;have HO4:=hid ho4;have hz4:w3.heap.size ≤ w4.heap.size:=hb4.size;have HB4:=hid hb4;clear ho4 hb4) | (go_at_call 53;refine (clip_bytes _ _ _ _ G5.out.len G5.out.max).mono ?_;rintro e w6 ⟨rfl,rfl⟩))))
 go_wp2_with fail
 go_ret
 refine ⟨_,rfl, ?_,HB3.out.trans ((HB4.out.mono hws).trans G5.out.below)⟩
 rw [← List.map_append]
 exact (Fr.of_own G5.out.own).clip
end Go.Proofs.Herb
