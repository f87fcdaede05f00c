/- The reference of chapter 3: number and Get. For bytes that can be read. The reference of chapter 10: guess and Get. For bytes that can be read. -/
import Derived.Deep.RegionHeld3
import Derived.Test.YtbaohpnfiacchaaGreatDoorQb18
import Derived.Test.YtbaohpnfiacchaaGreatDoorQb19
import Derived.Test.YtbaohpnfiacchaaGreatDoorQb23
import Derived.Test.YtbaohpnfiacchaaGreatDoorQb28
import Derived.Test.YtbaohpnfiacchaaGreatDoorQb29
import Derived.Test.YtbaohpnfiacchaaGreatDoorQb31
import Derived.Test.YtbaohpnfiacchaaGreatDoorQb32
namespace Go.Proofs.Herb
open Go.RowKit
set_option maxRecDepth 100000 in
set_option maxHeartbeats 1000000 in
theorem rnum_any (q:Option Addr) (m c:Nat) (l:List UInt8) (w:World) (hl:l.length = m) (hm:m ≤ 8) (hr:Rd w q (l.map bv)) :
  Calls Tryz.prog 103 #[.slice q m c] w fun e w'=>e = .returned (.int .u64 (riseG 0 l:Int)) ∧ w = w':=by
 have Hl:=hid hl
 have Hr:=hid hr
 clear hl hr
 go_enter Tryz.func103,Tryz.ntmps103
 go_wp2
 go_loop [3,4] (fun s i=>∃ k S:Nat,k ≤ m ∧ i = .int .i64 (k:Int) ∧ s = .int .u64 (S:Int) ∧ Hid (S = riseG 0 (l.take k))) (fun _ i=>m - (intOf i).toNat)
 case atStart=>exact ⟨0,0,Nat.zero_le _,rfl,rfl,rfl⟩
 case round =>
  obtain ⟨k,S,hk,rfl,rfl,HS⟩:=hrel
  by_cases hlt:k < m
  ·have hkl:k < l.length:=by rw [Hl.out];exact hlt
   obtain ⟨b,off,rfl,hc⟩:=Hr.out.cell (k:=k) (by rw [List.length_map];exact hkl)
   rw [List.getElem_map] at hc
   obtain ⟨x,hx⟩:∃ x,x = l[k]:=⟨_,rfl⟩
   rw [← hx] at hc
   unfold bv at hc
   obtain ⟨X,hX⟩:∃ X,X = x.toNat:=⟨_,rfl⟩
   rw [← hX] at hc
   have hs:riseG 0 (l.take (k + 1)) = S * 256 + (255 - X):=by
    rw [List.take_succ_eq_append_getElem hkl,riseG_snoc,← HS.out,← hx,hX]
   have hSl:S < 2 ^ (8 * k):=by
    have h:=riseG_lt (l.take k) 0 0 (by decide)
    rw [← HS.out,Nat.zero_add,List.length_take] at h
    refine Nat.lt_of_lt_of_le h (Nat.pow_le_pow_right (by decide) ?_)
    have:=Nat.min_le_left k l.length
    omega
   have hSl7:S < 72057594037927936:=Nat.lt_of_lt_of_le hSl (Nat.le_trans (Nat.pow_le_pow_right (by decide) (show 8 * k ≤ 56 by omega)) (by decide))
   have hx8:X ≤ 255:=by have:=x.toNat_lt;omega
   have i0:(0:Int) ≤ (k:Int):=by omega
   have i1:(k:Int) < (m:Int):=by omega
   have x0:(0:Int) ≤ (X:Int):=by omega
   have x1:(X:Int) ≤ 255:=by omega
   have HS2:=hid hs
   clear hs hSl hx hX
   go_wp2
   go_round
   case rel=>exact ⟨k + 1,S * 256 + (255 - X),by omega,by go_num,by congr 1;omega,HS2.out.symm⟩
   case measure=>simp [intOf];omega
  ·obtain rfl:k = m:=by omega
   have hS:S = riseG 0 l:=by rw [HS.out,← Hl.out,List.take_length]
   have HSS:=hid hS
   clear hS
   go_wp2
   go_ret
   exact ⟨by rw [HSS.out];rfl,rfl⟩
theorem rkget_results {tmps:Array Value} {w:World} {B:Nat} {C:Array Value} {e:Int} (h2:tmps.getD 2 undef = .pointer (some ⟨B,0,none⟩)) (h3:tmps.getD 3 undef = .int .i64 e) (g:w.heap[B]? = some (.cells C 27 (0,0))) (hC:C.size = 6) :
  (results Tryz.f70 tmps).run Tryz.prog w = .ok (.tuple #[.agg C,.int .i64 e]) w:=by
 have r2:=run_loadVar_row (P:=Tryz.prog) w B _ 27 C (0,0) _ g Tryz.underlying27 rfl (by rw [hC];exact infoFact)
 have hr:(Tryz.f70).results = #[.cell 2 27,.tmp 3]:=rfl
 simp [results,asAddr] at h2 h3 ⊢
 simp [h2,h3,r2]
theorem cells6 {w:World} {B:Nat} {t:TypeId} {v0 v1 v2 v3 v4 v5:Value} (h:w.heap[B]? = some (.cells #[v0,v1,v2,v3,v4,v5] t (0,0))) :
  w.cell? ⟨B,0,none⟩ = some v0 ∧ w.cell? ⟨B,1,none⟩ = some v1 ∧ w.cell? ⟨B,2,none⟩ = some v2 ∧ w.cell? ⟨B,3,none⟩ = some v3 ∧ w.cell? ⟨B,4,none⟩ = some v4 ∧ w.cell? ⟨B,5,none⟩ = some v5:=by
 refine ⟨?_, ?_, ?_, ?_, ?_, ?_⟩ <;> (rw [cell_of_row _ _ _ _ _ _ h];rfl)
theorem cat_size (K S NK:ByteArray) (h:NK = ⟨(K.data.toList ++ S.data.toList).toArray⟩):NK.size = K.size + S.size:=by
 subst h
 show (K.data.toList ++ S.data.toList).length = _
 rw [List.length_append]
 rfl
theorem cat_str (K S NK:ByteArray) (w:World) (h:NK = ⟨(K.data.toList ++ S.data.toList).toArray⟩) (hb:K.size + S.size ≤ 8388608):(Op.stringOp .add K S).run Tryz.prog w = .ok (.string NK) w:=by
 have he:K ++ S = NK:=by
  apply Go.WideShapes.bytes_inj
  rw [ByteArray.data_append,Array.toList_append,h]
 unfold Op.stringOp
 simp only [he]
 rw [if_neg (by rw [show IntKind.i64.max = 9223372036854775807 from rfl];omega)]
 rfl
set_option maxRecDepth 100000 in
set_option maxHeartbeats 4000000 in
theorem rkget_any (q:Option Addr) (m c:Nat) (l:List UInt8) (w:World) (hl:l.length = m) (hm:m ≤ 4194304) (hc:m ≤ c) (hr:Rd w q (l.map bv)) :
  Calls Tryz.prog 70 #[.slice q m c] w (KgtP l w.heap.size w):=by
 obtain ⟨B,hB⟩:∃ B,w.heap.size = B:=⟨_,rfl⟩
 obtain ⟨w1,hw1⟩:∃ w1,w.alloc (.cells #[.string ⟨#[]⟩,.int .u32 0,.int .u64 0,.int .u64 0,.int .u8 0,.string ⟨#[]⟩] 27) = w1:=⟨_,rfl⟩
 have HB1:Hid (Below w.heap.size w w1):=by show Below _ _ _;rw [← hw1];exact (Below.refl _ _).alloc (Nat.le_refl _) _
 have hbox:w1.heap[B]? = some (.cells #[.string ⟨#[]⟩,.int .u32 0,.int .u64 0,.int .u64 0,.int .u8 0,.string ⟨#[]⟩] 27 (0,0)):=by rw [← hw1,← hB];exact World.alloc_heap_new _ _
 have Hbox:=hid hbox
 have c0:w1.cell? ⟨B,0,none⟩ = some (.string ⟨#[]⟩):=by rw [cell_of_row _ _ _ _ _ _ hbox];rfl
 have c1:w1.cell? ⟨B,1,none⟩ = some (.int .u32 0):=by rw [cell_of_row _ _ _ _ _ _ hbox];rfl
 have c2:w1.cell? ⟨B,2,none⟩ = some (.int .u64 0):=by rw [cell_of_row _ _ _ _ _ _ hbox];rfl
 have c3:w1.cell? ⟨B,3,none⟩ = some (.int .u64 0):=by rw [cell_of_row _ _ _ _ _ _ hbox];rfl
 have c4:w1.cell? ⟨B,4,none⟩ = some (.int .u8 0):=by rw [cell_of_row _ _ _ _ _ _ hbox];rfl
 have c5:w1.cell? ⟨B,5,none⟩ = some (.string ⟨#[]⟩):=by rw [cell_of_row _ _ _ _ _ _ hbox];rfl
 have fz:∀ j,w1.frozen? ⟨B,j,none⟩ = false:=fun j=>frozen_of_row _ _ _ _ _ hbox
 have Hl:=hid hl
 have Hr:=hid (hr.below HB1.out)
 clear hl hr hbox
 go_enter Tryz.func70,Tryz.ntmps70
 go_wp2
 have HBw:=hid hB
 clear hw1 hB
 go_loop [4,5] (fun s i=>∃ (j:Nat) (K:ByteArray),j ≤ m ∧ i = .int .i64 (j:Int) ∧ s = .string K ∧ K.size ≤ j ∧ Hid (plainK l = putK K.data.toList (plainK (l.drop j)))) (fun _ i=>m - (intOf i).toNat)
 case atStart=>exact ⟨0,⟨#[]⟩,Nat.zero_le _,rfl,rfl,Nat.zero_le _,(putK_nil _).symm⟩
 case round =>
  obtain ⟨j,K,hj,rfl,rfl,hK,HP⟩:=hrel
  have i0:(0:Int) ≤ (j:Int):=by omega
  have hcI:(m:Int) ≤ (c:Int):=by omega
  by_cases hlt:j < m
  ·have hjl:j < l.length:=by rw [Hl.out];exact hlt
   obtain ⟨b,off,rfl,hc0⟩:=Hr.out.cell (k:=j) (by rw [List.length_map];exact hjl)
   rw [List.getElem_map] at hc0
   obtain ⟨x,hx⟩:∃ x,x = l[j]:=⟨_,rfl⟩
   rw [← hx] at hc0
   unfold bv at hc0
   have hd:l.drop j = x :: l.drop (j + 1):=by rw [hx];exact List.drop_eq_getElem_cons hjl
   have i1:(j:Int) < (m:Int):=by omega
   have i1':¬ ((m:Int) ≤ (j:Int)):=by omega
   by_cases hx0:x = 0
   ·subst hx0
    have hc0':w1.cell? ⟨b,off + j,none⟩ = some (.int .u8 0):=hc0
    by_cases hend:j + 1 = m
    ·have hno:kgetF l = none:=by
      unfold kgetF
      rw [HP.out,hd,List.drop_eq_nil_of_le (by rw [Hl.out];omega)]
      rfl
     have HNo:=hid hno
     have i2:(j:Int) + 1 = (m:Int):=by omega
     clear hno hd hx hc0
     go_wp2
     obtain ⟨x1,x2⟩:=set6 (b0:=w.heap.size) Hbox.out rfl (by rw [HBw.out];exact Nat.le_refl _) (.string ⟨#[]⟩) (.int .u32 0) (.int .u64 0) (.int .u64 0) (.int .u8 0) (.string ⟨#[]⟩)
     refine bodyPost_ret (rkget_results rfl rfl x1 rfl) rfl ?_
     exact ⟨HB1.out.trans x2,.inl ⟨HNo.out,5,by decide,rfl⟩⟩
    ·have hjl2:j + 1 < l.length:=by rw [Hl.out];omega
     obtain ⟨b',off',e',hc1⟩:=Hr.out.cell (k:=j + 1) (by rw [List.length_map];exact hjl2)
     cases e'
     rw [List.getElem_map] at hc1
     obtain ⟨d,hdx⟩:∃ d,d = l[j + 1]:=⟨_,rfl⟩
     rw [← hdx] at hc1
     unfold bv at hc1
     have hd2:l.drop (j + 1) = d :: l.drop (j + 2):=by rw [hdx];exact List.drop_eq_getElem_cons hjl2
     have i2:¬ ((j:Int) + 1 = (m:Int)):=by omega
     have i3:(j:Int) + 1 < (m:Int):=by omega
     have i4:(0:Int) ≤ (j:Int) + 1:=by omega
     have i5:((j:Int) + 1).toNat = j + 1:=by omega
     by_cases hd1:1 < d.toNat
     ·have hno:kgetF l = none:=by
       unfold kgetF
       rw [HP.out,hd,hd2,plainK_other hd1]
       rfl
      have HNo:=hid hno
      have i6:(1:Int) < (d.toNat:Int):=by omega
      clear hno hd hd2 hx hdx hc0
      go_wp2
      obtain ⟨x1,x2⟩:=set6 (b0:=w.heap.size) Hbox.out rfl (by rw [HBw.out];exact Nat.le_refl _) (.string ⟨#[]⟩) (.int .u32 0) (.int .u64 0) (.int .u64 0) (.int .u8 0) (.string ⟨#[]⟩)
      refine bodyPost_ret (rkget_results rfl rfl x1 rfl) rfl ?_
      exact ⟨HB1.out.trans x2,.inl ⟨HNo.out,4,by decide,rfl⟩⟩
     ·have hdd:d = 0 ∨ d = 1:=by
       have:d.toNat = 0 ∨ d.toNat = 1:=by omega
       rcases this with h | h
       ·exact .inl (UInt8.toNat_inj.1 h)
       ·exact .inr (UInt8.toNat_inj.1 h)
      rcases hdd with rfl | rfl
      ·have hpk:plainK l = some (K.data.toList,l.drop (j + 2)):=by
        rw [HP.out,hd,hd2,plainK_zero]
        simp [putK]
       have HPK:=hid hpk
       have hc1':w1.cell? ⟨b,off + (j + 1),none⟩ = some (.int .u8 0):=hc1
       have i7:IntKind.i64.wrap ((j:Int) + 2 - 1) = (j:Int) + 1:=by rw [IntWalk.i64_in _ (by omega)];omega
       clear hpk hd hd2 hx hdx hd1 hc0 hc1
       obtain ⟨AT,hAT⟩:∃ AT,AT = j + 2:=⟨_,rfl⟩
       obtain ⟨R,hR⟩:∃ R,R = m - AT:=⟨_,rfl⟩
       have hATm:AT ≤ m:=by omega
       have e2:(j:Int) + 2 = (AT:Int):=by omega
       have e3:IntKind.i64.wrap ((AT:Int) - 1) = (j:Int) + 1:=by rw [IntWalk.i64_in _ (by omega)];omega
       rw [← hAT] at HPK
       have hrl:(l.drop AT).length = R:=by rw [List.length_drop,Hl.out,hR]
       obtain ⟨r,hr⟩:∃ r,r = l.drop AT:=⟨_,rfl⟩
       rw [← hr] at HPK hrl
       have HG:=hid (show kgetF l = if (1 ≤ K.size ∧ K.size ≤ 32 ∧ R = 13) ∧ mayF (factK K.data.toList r) = true then some (factK K.data.toList r) else none by
        unfold kgetF;rw [HPK.out,← size_toList,← hrl])
       have HRr:=hid (show ∀ W,Below w1.heap.size w1 W → Rd W (some ⟨b,off + AT,none⟩) (r.map bv) from fun W hW=>by rw [hr,List.map_drop];exact (Hr.out.below hW).drop AT)
       have HRl:=hid hrl
       have HAT:=hid hAT
       clear hr hrl HP HPK hATm hAT
       have z0:(0:Int) ≤ (AT:Int):=by omega
       by_cases hK1:K.size = 0
       ·have hno:=HG.out
        rw [if_neg (by omega)] at hno
        have HNo:=hid hno
        obtain rfl:K = ⟨#[]⟩:=Go.WideShapes.bytes_inj (by rw [List.eq_nil_of_length_eq_zero (l:=K.data.toList) (by rw [size_toList];exact hK1)])
        clear hno
        go_wp2
        obtain ⟨x1,x2⟩:=set6 (b0:=w.heap.size) Hbox.out rfl (by rw [HBw.out];exact Nat.le_refl _) (.string ⟨#[]⟩) (.int .u32 0) (.int .u64 0) (.int .u64 0) (.int .u8 0) (.string ⟨#[]⟩)
        refine bodyPost_ret (rkget_results rfl rfl x1 rfl) rfl ?_
        exact ⟨HB1.out.trans x2,.inl ⟨HNo.out,4,by decide,rfl⟩⟩
       have hKn:¬ K.toList = []:=fun e=>hK1 (by rw [← size_toList,← ByteArray.toList_eq,e];rfl)
       have hKe:K.toList.isEmpty = false:=List.isEmpty_eq_false_iff.2 hKn
       by_cases hK2:32 < K.size
       ·have hno:=HG.out
        rw [if_neg (by omega)] at hno
        have HNo:=hid hno
        have i8:(32:Int) < (K.size:Int):=by omega
        clear hno
        go_wp2
        obtain ⟨x1,x2⟩:=set6 (b0:=w.heap.size) Hbox.out rfl (by rw [HBw.out];exact Nat.le_refl _) (.string ⟨#[]⟩) (.int .u32 0) (.int .u64 0) (.int .u64 0) (.int .u8 0) (.string ⟨#[]⟩)
        refine bodyPost_ret (rkget_results rfl rfl x1 rfl) rfl ?_
        exact ⟨HB1.out.trans x2,.inl ⟨HNo.out,4,by decide,rfl⟩⟩
       have i8:¬ (32:Int) < (K.size:Int):=by omega
       have z1:(AT:Int) ≤ (m:Int):=by omega
       have s1:IntKind.i64.wrap ((m:Int) - (AT:Int)) = (R:Int):=by rw [IntWalk.i64_in _ (by omega)];omega
       have s2:m - AT = R:=hR.symm
       by_cases hR1:R < 13
       ·have hno:=HG.out
        rw [if_neg (by omega)] at hno
        have HNo:=hid hno
        have i9:(R:Int) < 13:=by omega
        clear hno hR
        go_wp2
        all_goals
         obtain ⟨x1,x2⟩:=set6 (b0:=w.heap.size) Hbox.out rfl (by rw [HBw.out];exact Nat.le_refl _) (.string ⟨#[]⟩) (.int .u32 0) (.int .u64 0) (.int .u64 0) (.int .u8 0) (.string ⟨#[]⟩)
         refine bodyPost_ret (rkget_results rfl rfl x1 rfl) rfl ?_
         exact ⟨HB1.out.trans x2,.inl ⟨HNo.out,5,by decide,rfl⟩⟩
       have i9:¬ (R:Int) < 13:=by omega
       have z2:¬ c = AT:=by omega
       obtain ⟨CR,hCR⟩:∃ CR,c - AT = CR:=⟨_,rfl⟩
       have z3:13 ≤ CR:=by omega
       clear hR
       go_upto_region 18 with fail
       have hN1:riseG 0 (r.take 4) < 4294967296:=by
        have h:=riseG_lt (r.take 4) 0 0 (by decide)
        rw [List.length_take,HRl.out,show min 4 R = 4 by omega] at h
        exact h
       have hN2:riseG 0 ((r.drop 4).take 8) < 18446744073709551616:=by
        have h:=riseG_lt ((r.drop 4).take 8) 0 0 (by decide)
        rw [List.length_take,List.length_drop,HRl.out,show min 8 (R - 4) = 8 by omega] at h
        exact h
       have kn1:∀ W,Below w1.heap.size w1 W → _:=fun W hW=>rnum_any (some ⟨b,off + AT,none⟩) 4 CR (r.take 4) W (by rw [List.length_take,HRl.out];omega) (by decide) (by rw [List.map_take];exact (HRr.out W hW).take 4)
       have kn2:∀ W,Below w1.heap.size w1 W → _:=fun W hW=>rnum_any (some ⟨b,off + AT + 4,none⟩) 8 (CR - 4) ((r.drop 4).take 8) W (by rw [List.length_take,List.length_drop,HRl.out];omega) (by decide) (by rw [List.map_take,List.map_drop];exact ((HRr.out W hW).drop 4).take 8)
       have hY12:∀ W,Below w1.heap.size w1 W → W.cell? ⟨b,off + AT + 12,none⟩ = some (.int .u8 (((r[12]?).getD 0).toNat:Int)):=fun W hW=>by
        obtain ⟨b',off',e',h⟩:=(HRr.out W hW).cell (k:=12) (by rw [List.length_map,HRl.out];omega)
        cases e'
        rw [h,List.getElem_map,List.getElem?_eq_getElem (by rw [HRl.out];omega)]
        rfl
       obtain ⟨N1,hN1e⟩:∃ N,riseG 0 (r.take 4) = N:=⟨_,rfl⟩
       obtain ⟨N2,hN2e⟩:∃ N,riseG 0 ((r.drop 4).take 8) = N:=⟨_,rfl⟩
       obtain ⟨Y,hYe⟩:∃ N,((r[12]?).getD 0).toNat = N:=⟨_,rfl⟩
       simp only [hN1e] at kn1 hN1
       simp only [hN2e] at kn2 hN2
       simp only [hYe] at hY12
       have hFK:factK K.data.toList r = ⟨K,N1,N2,0,Y,⟨#[]⟩⟩:=by
        unfold factK
        rw [hN1e,hN2e,hYe]
       rw [hFK] at HG
       have HY:=hid hY12
       have d1:Below w1.heap.size w1 w1.drew:=(Below.refl _ _).drew
       have d2:Below w1.heap.size w1 (w1.alloc (.cells #[.string ⟨#[]⟩,.int .u32 0,.int .u64 0,.int .u64 0,.int .u8 0,.string ⟨#[]⟩] 27)).drew:=((Below.refl _ _).alloc (Nat.le_refl _) _).drew
       have ka1:=kn1 _ d1
       have kb1:=kn1 _ d2
       have ka2:=kn2 _ d1
       have kb2:=kn2 _ d2
       have hw32:IntKind.u32.wrap (N1:Int) = (N1:Int):=by rw [IntKind.wrap_u32];omega
       have z4:(13:Int) ≤ (CR:Int):=by omega
       have z5:(13:Int) ≤ (R:Int):=by omega
       have z6:13 ≤ R:=by omega
       have z7:(12:Int) < (R:Int):=by omega
       have z8:(4:Int) ≤ (CR:Int):=by omega
       have z9:(12:Int) ≤ (CR:Int):=by omega
       have y1:¬ CR = 4:=by omega
       clear kn1 kn2 hY12 hN1e hN2e hYe hFK d1 d2 hCR
       go_cut [7] (fun v wc=>v = .pointer (some ⟨w1.heap.size,0,none⟩) ∧ Hid (Below w1.heap.size w1 wc) ∧ Hid (wc.heap[w1.heap.size]? = some (.cells #[.string K,.int .u32 (N1:Int),.int .u64 (N2:Int),.int .u64 0,.int .u8 (Y:Int),.string ⟨#[]⟩] 27 (0,0))))
       case first =>
        go_region_held3 (fun w'=>w'.cell? ⟨b,off + AT + 12,none⟩ = some (.int .u8 (Y:Int))) (first | exact HY.out _ (Below.refl _ _).drew | exact HY.out _ ((Below.refl _ _).alloc (Nat.le_refl _) _).drew) (first
         | (go_at_call 103;with_reducible refine ka1.mono ?_;rintro e w' ⟨rfl,rfl⟩;dsimp only)
         | (go_at_call 103;with_reducible refine kb1.mono ?_;rintro e w' ⟨rfl,rfl⟩;dsimp only)
         | (go_at_call 103;with_reducible refine ka2.mono ?_;rintro e w' ⟨rfl,rfl⟩;dsimp only)
         | (go_at_call 103;with_reducible refine kb2.mono ?_;rintro e w' ⟨rfl,rfl⟩;dsimp only))
        all_goals
         go_wp2_with fail
         go_meet
         exact ⟨rfl,((Below.refl _ _).alloc (Nat.le_refl _) _).drew,World.alloc_heap_new _ _⟩
       case rest =>
        obtain ⟨rfl,HBc,HFc⟩:=hcut
        have hBlt:B < w1.heap.size:=lt_of_block Hbox.out
        clear c0 c1 c2 c3 c4 c5 fz ka1 ka2 kb1 kb2 HY hw32 z4 z5 z6 z7 z8 z9 y1 hc0' hc1' z2 z3
        obtain ⟨X,hX⟩:∃ X,w1.heap.size = X:=⟨_,rfl⟩
        rw [hX] at HFc hBlt ⊢
        have hbox2:=(HBc.out.block B (by rw [hX];exact hBlt)).trans Hbox.out
        have HBox2:=hid hbox2
        have HBw2:=hid (HB1.out.trans (HBc.out.mono HB1.out.size))
        have hne:¬ X = B:=by omega
        have hne2:¬ B = X:=by omega
        clear hX
        by_cases hR2:13 < R
        ·have hno:=HG.out
         rw [if_neg (by omega)] at hno
         have HNo:=hid hno
         have i10:(13:Int) < (R:Int):=by omega
         have c0:wc.cell? ⟨B,0,none⟩ = some (.string ⟨#[]⟩):=by rw [cell_of_row _ _ _ _ _ _ hbox2];rfl
         have c1:wc.cell? ⟨B,1,none⟩ = some (.int .u32 0):=by rw [cell_of_row _ _ _ _ _ _ hbox2];rfl
         have c2:wc.cell? ⟨B,2,none⟩ = some (.int .u64 0):=by rw [cell_of_row _ _ _ _ _ _ hbox2];rfl
         have c3:wc.cell? ⟨B,3,none⟩ = some (.int .u64 0):=by rw [cell_of_row _ _ _ _ _ _ hbox2];rfl
         have c4:wc.cell? ⟨B,4,none⟩ = some (.int .u8 0):=by rw [cell_of_row _ _ _ _ _ _ hbox2];rfl
         have c5:wc.cell? ⟨B,5,none⟩ = some (.string ⟨#[]⟩):=by rw [cell_of_row _ _ _ _ _ _ hbox2];rfl
         have fz:∀ j,wc.frozen? ⟨B,j,none⟩ = false:=fun j=>frozen_of_row _ _ _ _ _ hbox2
         clear hno hbox2
         go_wp2
         obtain ⟨x1,x2⟩:=set6 (b0:=w.heap.size) HBox2.out rfl (by rw [HBw.out];exact Nat.le_refl _) (.string ⟨#[]⟩) (.int .u32 0) (.int .u64 0) (.int .u64 0) (.int .u8 0) (.string ⟨#[]⟩)
         refine bodyPost_ret (rkget_results rfl rfl x1 rfl) rfl ?_
         exact ⟨HBw2.out.trans x2,.inl ⟨HNo.out,4,by decide,rfl⟩⟩
        ·obtain rfl:R = 13:=by omega
         have km:Calls Tryz.prog 71 #[.agg #[.string K,.int .u32 (N1:Int),.int .u64 (N2:Int),.int .u64 0,.int .u8 (Y:Int),.string ⟨#[]⟩]] wc (fun e w'=>e = .returned (.bool (mayF ⟨K,N1,N2,0,Y,⟨#[]⟩⟩)) ∧ Below wc.heap.size wc w'):=ref_may ⟨K,N1,N2,0,Y,⟨#[]⟩⟩ wc
         have hF:=HFc.out
         have e0:wc.cell? ⟨X,0,none⟩ = some (.string K):=by rw [cell_of_row _ _ _ _ _ _ hF];rfl
         have e1:wc.cell? ⟨X,1,none⟩ = some (.int .u32 (N1:Int)):=by rw [cell_of_row _ _ _ _ _ _ hF];rfl
         have e2:wc.cell? ⟨X,2,none⟩ = some (.int .u64 (N2:Int)):=by rw [cell_of_row _ _ _ _ _ _ hF];rfl
         have e3:wc.cell? ⟨X,3,none⟩ = some (.int .u64 0):=by rw [cell_of_row _ _ _ _ _ _ hF];rfl
         have e4:wc.cell? ⟨X,4,none⟩ = some (.int .u8 (Y:Int)):=by rw [cell_of_row _ _ _ _ _ _ hF];rfl
         have e5:wc.cell? ⟨X,5,none⟩ = some (.string ⟨#[]⟩):=by rw [cell_of_row _ _ _ _ _ _ hF];rfl
         clear hF hbox2
         cases hmay:mayF ⟨K,N1,N2,0,Y,⟨#[]⟩⟩ with
         | false =>
          have hno:=HG.out
          rw [hmay,if_neg (by intro h;cases h.2)] at hno
          have HNo:=hid hno
          rw [hmay] at km
          clear hno hmay
          go_wp2_with (go_at_call 71;with_reducible refine km.mono ?_;rintro e w3 ⟨rfl,b3⟩;have HB3:=hid b3;have hbox3:=(b3.block B (lt_of_block HBox2.out)).trans HBox2.out;have HBox3:=hid hbox3;have fz:∀ j,w3.frozen? ⟨B,j,none⟩ = false:=(fun j=>frozen_of_row _ _ _ _ _ hbox3);obtain ⟨c0,c1,c2,c3,c4,c5⟩:=cells6 hbox3;clear b3 hbox3)
          obtain ⟨x1,x2⟩:=set6 (b0:=w.heap.size) HBox3.out rfl (by rw [HBw.out];exact Nat.le_refl _) (.string ⟨#[]⟩) (.int .u32 0) (.int .u64 0) (.int .u64 0) (.int .u8 0) (.string ⟨#[]⟩)
          refine bodyPost_ret (rkget_results rfl rfl x1 rfl) rfl ?_
          exact ⟨(HBw2.out.trans (HB3.out.mono HBw2.out.size)).trans x2,.inl ⟨HNo.out,4,by decide,rfl⟩⟩
         | true =>
          have hno:=HG.out
          rw [hmay,if_pos ⟨⟨by omega,by omega,rfl⟩,rfl⟩] at hno
          have HNo:=hid hno
          rw [hmay] at km
          clear hno hmay
          go_wp2_with (go_at_call 71;with_reducible refine km.mono ?_;rintro e w3 ⟨rfl,b3⟩;have HB3:=hid b3;have hbox3:=(b3.block B (lt_of_block HBox2.out)).trans HBox2.out;have HBox3:=hid hbox3;have fz:∀ j,w3.frozen? ⟨B,j,none⟩ = false:=(fun j=>frozen_of_row _ _ _ _ _ hbox3);obtain ⟨c0,c1,c2,c3,c4,c5⟩:=cells6 hbox3;obtain ⟨f0,f1,f2,f3,f4,f5⟩:=cells6 ((b3.block X (lt_of_block HFc.out)).trans HFc.out);clear b3 hbox3 e0 e1 e2 e3 e4 e5)
          obtain ⟨x1,x2⟩:=set6 (b0:=w.heap.size) HBox3.out rfl (by rw [HBw.out];exact Nat.le_refl _) (.string K) (.int .u32 (N1:Int)) (.int .u64 (N2:Int)) (.int .u64 0) (.int .u8 (Y:Int)) (.string ⟨#[]⟩)
          refine bodyPost_ret (rkget_results rfl rfl x1 rfl) rfl ?_
          exact ⟨(HBw2.out.trans (HB3.out.mono HBw2.out.size)).trans x2,.inr ⟨_,HNo.out,rfl⟩⟩
      ·have hpk:plainK l = putK (K.data.toList ++ [0]) (plainK (l.drop (j + 2))):=by
        rw [HP.out,hd,hd2,plainK_one,putK_putK]
       obtain ⟨NK,hNK⟩:∃ NK:ByteArray,NK = ⟨(K.data.toList ++ (⟨#[0]⟩:ByteArray).data.toList).toArray⟩:=⟨_,rfl⟩
       have hNs:NK.size ≤ j + 2:=by rw [cat_size _ _ _ hNK];show K.size + 1 ≤ _;omega
       have hcat:∀ w,(Op.stringOp .add K ⟨#[0]⟩).run Tryz.prog w = .ok (.string NK) w:=fun w=>cat_str K _ NK w hNK (by show K.size + 1 ≤ _;omega)
       have HPK:Hid (plainK l = putK NK.data.toList (plainK (l.drop (j + 2)))):=by show _ = _;rw [hpk,hNK]
       have hc1':w1.cell? ⟨b,off + (j + 1),none⟩ = some (.int .u8 1):=hc1
       have i7:IntKind.i64.wrap ((j:Int) + 2 - 1) = (j:Int) + 1:=by rw [IntWalk.i64_in _ (by omega)];omega
       clear hpk hd hd2 hx hdx hd1 hNK hc0 hc1
       go_wp2
       go_round
       case rel=>exact ⟨j + 2,NK,by omega,by go_num,rfl,hNs,HPK⟩
       case measure=>simp [intOf];omega
   ·have hpk:plainK l = putK (K.data.toList ++ [x]) (plainK (l.drop (j + 1))):=by
     rw [HP.out,hd,plainK_ne hx0,putK_putK]
    obtain ⟨NK,hNK⟩:∃ NK:ByteArray,NK = ⟨(K.data.toList ++ (⟨#[x]⟩:ByteArray).data.toList).toArray⟩:=⟨_,rfl⟩
    have hNs:NK.size ≤ j + 1:=by rw [cat_size _ _ _ hNK];show K.size + 1 ≤ _;omega
    have hcat:∀ w,(Op.stringOp .add K ⟨#[x]⟩).run Tryz.prog w = .ok (.string NK) w:=fun w=>cat_str K _ NK w hNK (by show K.size + 1 ≤ _;omega)
    have hcv:=convB w1 (some ⟨b,off + j,none⟩) 1 (c - j) [x] rfl (.inr ⟨b,off + j,rfl,fun t u hu=>by
     cases t with
     | zero=>cases hu;exact hc0
     | succ t=>simp at hu⟩)
    have HPK:Hid (plainK l = putK NK.data.toList (plainK (l.drop (j + 1)))):=by show _ = _;rw [hpk,hNK]
    have x1:¬ ((x.toNat:Int) = 0):=fun h=>hx0 (UInt8.toNat_inj.1 (by show x.toNat = 0;omega))
    have i2:(j:Int) + 1 ≤ (c:Int):=by omega
    have i3:(j:Int) ≤ (j:Int) + 1:=by omega
    have i4:((j:Int) + 1).toNat = j + 1:=by omega
    clear hpk hd hx hx0 hNK
    go_wp2
    go_round
    case rel=>exact ⟨j + 1,NK,by omega,by go_num,rfl,hNs,HPK⟩
    case measure=>simp [intOf];omega
  ·obtain rfl:j = m:=by omega
   have hno:kgetF l = none:=by
    unfold kgetF
    rw [HP.out,List.drop_eq_nil_of_le (by rw [Hl.out];omega)]
    rfl
   have HNo:=hid hno
   clear hno
   go_wp2
   obtain ⟨x1,x2⟩:=set6 (b0:=w.heap.size) Hbox.out rfl (by rw [HBw.out];exact Nat.le_refl _) (.string ⟨#[]⟩) (.int .u32 0) (.int .u64 0) (.int .u64 0) (.int .u8 0) (.string ⟨#[]⟩)
   refine bodyPost_ret (rkget_results rfl rfl x1 rfl) rfl ?_
   exact ⟨HB1.out.trans x2,.inl ⟨HNo.out,5,by decide,rfl⟩⟩
end Go.Proofs.Herb
namespace Go.Proofs.Herb
open Go.RowKit
theorem getV_err:∀ (l:List UInt8) (n i:Nat),(getV n i l).2.2 ≠ 0 → (getV n i l).2.1 = 0
 | [],_,_,_=>rfl
 | c :: r,n,i,h=>by
  rw [getV] at h ⊢
  split at h
  ·rename_i h1;rw [if_pos h1]
  ·split at h
   ·exact absurd rfl h
   ·rename_i h1 h2
    rw [if_neg h1,if_neg h2]
    exact getV_err r _ _ h
theorem getV_le (l:List UInt8):(getV 0 0 l).2.1 ≤ l.length:=by
 by_cases h:(getV 0 0 l).2.2 = 0
 ·have:=(getV_took l 0 0 h).1;omega
 ·rw [getV_err l 0 0 h];omega
theorem blk_open2 {b:List UInt8} {l:List Item} (h:BlkOf b l):12 ≤ b.length ∧ num4 b (b.length - 4) = (crcMore 0 (b.take (b.length - 4))).toNat ∧ num4 b (b.length - 8) ≤ (b.length - 8) / 4 ∧ (openB b).2 = b.length - 8 - 4 * num4 b (b.length - 8):=by
 have h0:=blk_open h
 have hp:=h.1.1
 unfold openB at h0 ⊢
 by_cases h1:b.length < 12
 ·rw [if_pos h1] at h0;exact absurd (congrArg (·.1) h0) (by simp)
 rw [if_neg h1] at h0 ⊢
 by_cases h2:num4 b (b.length - 4) ≠ (crcMore 0 (b.take (b.length - 4))).toNat
 ·rw [if_pos h2] at h0;exact absurd (congrArg (·.1) h0) (by simp)
 rw [if_neg h2] at h0 ⊢
 by_cases h3:65536 < b.length
 ·rw [if_pos h3] at h0;exact absurd (congrArg (·.1) h0) (by simp)
 rw [if_neg h3] at h0 ⊢
 by_cases h4:num4 b (b.length - 8) = 0 ∨ (b.length - 8) / 4 < num4 b (b.length - 8)
 ·rw [if_pos h4] at h0;exact absurd (congrArg (·.1) h0) (by simp)
 rw [if_neg h4]
 exact ⟨by omega,by omega,by omega,rfl⟩
def gBody (l:List UInt8):List UInt8:=l.take (l.length - 8 - 4 * num4 l (l.length - 8))
theorem blk_gBody {b:List UInt8} {l:List Item} (h:BlkOf b l):parseI 70000 nilI (gBody b) = l.map fun x=>(x,true):=by
 have h1:=blk_parse h 70000 (by have:=(blk_short h).2;omega)
 unfold gBody
 rw [(blk_open2 h).2.2.2] at h1
 exact h1
theorem parse_stop {f:Nat} {last:Item} {b:List UInt8} {L l:List Item} (hb:b ≠ []) (h:(oneI last b).2.1 = false) (hp:(L.map fun x=>(x,true)) ++ parseI (f + 1) last b = l.map fun x=>(x,true)):False:=by
 rw [parseI,if_neg hb] at hp
 have hm:((oneI last b).1,(oneI last b).2.1) ∈ l.map fun x=>(x,true):=by rw [← hp];simp
 obtain ⟨y,_,e⟩:=List.mem_map.1 hm
 rw [h] at e
 cases e
theorem map_true_inj {L l:List Item} (h:(L.map fun x=>(x,true)) = l.map fun x=>(x,true)):L = l:=by
 have:=congrArg (List.map Prod.fst) h
 rw [List.map_map,List.map_map] at this
 simpa [Function.comp_def] using this
theorem parse_go {f:Nat} {last:Item} {b:List UInt8} (hb:b ≠ []) (h:(oneI last b).2.1 = true):parseI (f + 1) last b = ((oneI last b).1,true) :: parseI f (oneI last b).1 (oneI last b).2.2:=by
 rw [parseI,if_neg hb,if_pos h,h]
theorem iCells_app (a b:List Item):iCells (a ++ b) = iCells a ++ iCells b:=by simp [iCells]
def GssP (l:List UInt8) (b0:Nat) (w:World) (e:Ending) (w':World):Prop :=
 Below b0 w w' ∧ ∃ L q c,e = .returned (.slice q L.length c) ∧ w'.ownsRow b0 100 2 (.slice q L.length c) L.length (iCells L) ∧ (∀ x ∈ L,x.key.size ≤ 65536 ∧ x.val.size ≤ 65536) ∧ L.length ≤ 65536 ∧ ∀ k,BlkOf l k → L = k
set_option maxRecDepth 100000 in
set_option maxHeartbeats 8000000 in
theorem rguess_any (q:Option Addr) (m c:Nat) (l:List UInt8) (w:World) (hl:l.length = m) (h12:12 ≤ m) (hm:m ≤ 65536) (hc:m ≤ c) (hcm:c ≤ maxLen) (hr:Rd w q (l.map bv)) :
  Calls Tryz.prog 99 #[.slice q m c] w (GssP l w.heap.size w):=by
 obtain ⟨b,off,rfl, -⟩:=hr.cell (k:=0) (by rw [List.length_map];omega)
 obtain ⟨M8,hM8⟩:∃ x,x = m - 8:=⟨_,rfl⟩
 have e8:(m:Int) - 8 = (M8:Int):=by omega
 have kr:=rread_any (some ⟨b,off + M8,none⟩) 8 (c - M8) (l.drop M8) w (by rw [List.length_drop,hl];omega) (by decide) (by rw [List.map_drop];exact hr.drop M8)
 rw [num4_drop2,Nat.add_zero] at kr
 obtain ⟨N4,hN4⟩:∃ x,num4 l M8 = x:=⟨_,rfl⟩
 have hN4l:=num4_lt l M8
 rw [hN4] at kr hN4l
 have hgb:gBody l = l.take (m - 8 - 4 * N4):=by unfold gBody;rw [hl,← hM8,hN4]
 have hop:∀ k,BlkOf l k → N4 ≤ (m - 8) / 4:=fun k h=>by have:=(blk_open2 h).2.2.1;rw [hl,← hM8,hN4] at this;omega
 have s8:m - M8 = 8:=by omega
 have z0:(0:Int) ≤ (M8:Int):=by omega
 have z1:(M8:Int) ≤ (m:Int):=by omega
 have z2:¬ c = M8:=by omega
 have HL:=hid hl
 have HR:=hid hr
 have HGB:=hid hgb
 have HOP:=hid hop
 obtain ⟨Q4,hQ4⟩:∃ x,x = m / 4:=⟨_,rfl⟩
 have q4:(m:Int) / 4 = (Q4:Int):=by omega
 have HQ4:=hid hQ4
 have HM8:=hid hM8
 clear hr hl hN4 hgb hop hQ4 hM8
 go_enter Tryz.func99,Tryz.ntmps99
 by_cases hbig:Q4 < N4
 ·have i0:(Q4:Int) < (N4:Int):=by omega
  go_wp2_with (go_at_call 98;with_reducible refine kr.mono ?_;rintro e w2 ⟨rfl,b2⟩;have HB2:=hid b2;clear b2)
  go_ret
  exact ⟨HB2.out,[],none,0,rfl,World.ownsRow_nil _ _ _ _,fun x hx=>(by cases hx),Nat.zero_le _,fun k hk=>by have:=HOP.out k hk;have:=HQ4.out;omega⟩
 ·have i0:¬ (Q4:Int) < (N4:Int):=by omega
  obtain ⟨E,hE⟩:∃ x,x = m - 8 - 4 * N4:=⟨_,rfl⟩
  obtain ⟨EI,hEI⟩:∃ x:Int,x = (M8:Int) - 4 * (N4:Int):=⟨_,rfl⟩
  have hEE:EI.toNat = E:=by have:=HM8.out;omega
  have hEm:E + 8 ≤ m:=by omega
  have hEl:EI ≤ (M8:Int):=by omega
  have hEg : -1000000 ≤ EI:=by have:=HQ4.out;omega
  rw [← hE] at HGB
  have HEE:=hid hEE
  have v1:IntKind.i64.wrap (4 * (N4:Int)) = 4 * (N4:Int):=by rw [IntWalk.i64_in _ (by omega)]
  have v2:IntKind.i64.wrap ((M8:Int) - 4 * (N4:Int)) = EI:=by rw [IntWalk.i64_in _ (by omega)];omega
  clear hE hEE
  go_upto_region 8 with (go_at_call 98;with_reducible refine kr.mono ?_;rintro e w2 ⟨rfl,b2⟩;have HB2:=hid b2;clear b2)
  rw [← hEI]
  have HEI:=hid hEI
  have hgl:(gBody l).length = E:=by rw [HGB.out,List.length_take,HL.out];omega
  have HGL:=hid hgl
  clear hEI v1 v2 hgl z0 z1 z2 s8 e8 q4 hbig i0 hEl hEg
  go_loopw [3,5,6] (fun v i s wr=>∃ (at_:Nat) (L:List Item) (no:Nat) (K V:ByteArray) (qo:Option Addr) (co:Nat),at_ ≤ E ∧ i = .int .i64 (at_:Int) ∧ s = .string K ∧ v = .slice qo no co ∧ Hid (L.length = no) ∧ no ≤ at_ ∧ K.size ≤ at_ ∧ Hid (∀ x ∈ L,x.key.size ≤ 65536 ∧ x.val.size ≤ 65536) ∧ Hid (parseI 70000 nilI (gBody l) = (L.map fun x=>(x,true)) ++ parseI (70000 - no) ⟨K,V⟩ ((gBody l).drop at_)) ∧ Hid (wr.ownsRow w.heap.size 100 2 (.slice qo no co) no (iCells L)) ∧ Hid (Below w.heap.size w wr)) (fun _ i _ _=>E - (intOf i).toNat)
  case atStart=>exact ⟨0,[],0,⟨#[]⟩,⟨#[]⟩,none,0,Nat.zero_le _,rfl,rfl,rfl,rfl,Nat.le_refl _,Nat.le_refl _,fun x hx=>(by cases hx),rfl,World.ownsRow_nil _ _ _ _,HB2.out⟩
  case round =>
   obtain ⟨at_,L,no,K,V,qo,co,hat,rfl,rfl,rfl,HLn,hno,hK,HS,HP,HO,HB⟩:=hrel
   have i0:(0:Int) ≤ (at_:Int):=by omega
   by_cases hlt:at_ < E
   ·obtain rfl:EI = (E:Int):=by have:=HEE.out;omega
    have i1:(at_:Int) < (E:Int):=by omega
    obtain ⟨REM,hREM⟩:∃ x,x = (gBody l).drop at_:=⟨_,rfl⟩
    have hRl:REM.length = E - at_:=by rw [hREM,List.length_drop,HGL.out]
    have hRd:Rd wr (some ⟨b,off + at_,none⟩) (REM.map bv):=by rw [hREM,List.map_drop,HGB.out,List.map_take];exact ((HR.out.below HB.out).take E).drop at_
    have hne:REM ≠ []:=by intro h;rw [h] at hRl;simp at hRl;omega
    obtain ⟨N,hN⟩:∃ x,x = (getV 0 0 REM).1:=⟨_,rfl⟩
    obtain ⟨T,hT⟩:∃ x,x = (getV 0 0 REM).2.1:=⟨_,rfl⟩
    obtain ⟨E1,hE1⟩:∃ x,x = (getV 0 0 REM).2.2:=⟨_,rfl⟩
    have hNl:=getV_lt REM 0 0 (by decide) (by decide)
    have hTl:=getV_le REM
    obtain ⟨AT1,hAT1⟩:∃ x,x = at_ + T:=⟨_,rfl⟩
    obtain ⟨REM1,hREM1⟩:∃ x,x = REM.drop T:=⟨_,rfl⟩
    have hRl1:REM1.length = E - AT1:=by rw [hREM1,List.length_drop,hRl,hAT1];omega
    obtain ⟨S,hS⟩:∃ x:ByteArray,x = ⟨(getT REM1).1.toArray⟩:=⟨_,rfl⟩
    obtain ⟨T2,hT2⟩:∃ x,x = (getT REM1).2.1:=⟨_,rfl⟩
    obtain ⟨E2,hE2⟩:∃ x,x = (getT REM1).2.2:=⟨_,rfl⟩
    have hTl2:=getT_took REM1
    have hSl:=getT_len REM1
    obtain ⟨AT2,hAT2⟩:∃ x,x = AT1 + T2:=⟨_,rfl⟩
    obtain ⟨REM2,hREM2⟩:∃ x,x = REM1.drop T2:=⟨_,rfl⟩
    have hRl2:REM2.length = E - AT2:=by rw [hREM2,List.length_drop,hRl1,hAT2];omega
    obtain ⟨S2,hS2⟩:∃ x:ByteArray,x = ⟨(getT REM2).1.toArray⟩:=⟨_,rfl⟩
    obtain ⟨T3,hT3⟩:∃ x,x = (getT REM2).2.1:=⟨_,rfl⟩
    obtain ⟨E3,hE3⟩:∃ x,x = (getT REM2).2.2:=⟨_,rfl⟩
    have hTl3:=getT_took REM2
    obtain ⟨AT3,hAT3⟩:∃ x,x = AT2 + T3:=⟨_,rfl⟩
    rw [← hN] at hNl
    rw [← hT,hRl] at hTl
    rw [← hT2,hRl1] at hTl2
    rw [← hT3,hRl2] at hTl3
    have hone:oneI ⟨K,V⟩ REM = if E1 = 0 ∧ E2 = 0 ∧ E3 = 0 ∧ N ≤ K.size then (⟨⟨(K.data.toList.take N ++ (getT REM1).1).toArray⟩,S2⟩,true,REM2.drop T3) else (⟨K,V⟩,false,REM2.drop T3):=by
     rw [hE1,hE2,hE3,hN,hS2,hT3,hREM2,hT2,hREM1,hT]
     rfl
    have hok:=@oneI_ok ⟨K,V⟩ REM
    have hRd1:Rd wr (some ⟨b,off + AT1,none⟩) (REM1.map bv):=by rw [hREM1,List.map_drop,hAT1,← Nat.add_assoc];exact hRd.drop T
    have hRd2:Rd wr (some ⟨b,off + AT2,none⟩) (REM2.map bv):=by rw [hREM2,List.map_drop,hAT2,← Nat.add_assoc];exact hRd1.drop T2
    have kv:=rvget_any (some ⟨b,off + at_,none⟩) (E - at_) (c - at_) REM wr hRl (by omega) hRd
    have kt:=rvtext_any (some ⟨b,off + AT1,none⟩) (E - AT1) (c - AT1) REM1 wr hRl1 (by omega) (by omega) (by omega) hRd1
    have ku:=rvtext_any (some ⟨b,off + AT2,none⟩) (E - AT2) (c - AT2) REM2 wr hRl2 (by omega) (by omega) (by omega) hRd2
    rw [← hN,← hT,← hE1] at kv
    rw [← hS,← hT2,← hE2] at kt
    rw [← hS2,← hT3,← hE3] at ku
    have hS1:=hid hS
    have hSl2:(getT REM1).1.length ≤ 65536:=by rw [← hT2] at hSl;omega
    have hdr:(gBody l).drop AT3 = REM2.drop T3:=by rw [hREM2,hREM1,hREM,List.drop_drop,List.drop_drop,List.drop_drop,hAT3,hAT2,hAT1];congr 1;omega
    rw [← hREM] at HP
    have e1:(at_:Int) + (T:Int) = (AT1:Int):=by omega
    have e2:(AT1:Int) + (T2:Int) = (AT2:Int):=by omega
    have e3:(AT2:Int) + (T3:Int) = (AT3:Int):=by omega
    have j0:(0:Int) ≤ (AT1:Int):=by omega
    have j1:(AT1:Int) ≤ (E:Int):=by omega
    have j2:(0:Int) ≤ (AT2:Int):=by omega
    have j3:(AT2:Int) ≤ (E:Int):=by omega
    have j4:(at_:Int) ≤ (E:Int):=by omega
    have j5:(E:Int) ≤ (c:Int):=by omega
    have j6:¬ c = at_:=by omega
    have j7:¬ c = AT1:=by omega
    have j8:¬ c = AT2:=by omega
    have HONE:=hid hone
    have HOK:=hid hok
    have HDR:=hid hdr
    have HRL:=hid hRl
    have HRL2:=hid hRl2
    have HNE:=hid hne
    have HA:=hid (show AT3 = at_ + T + T2 + T3 by omega)
    have HT0:=hid (show AT3 ≤ E by omega)
    clear hN hT hE1 hS hT2 hE2 hS2 hT3 hE3 hREM hREM1 hREM2 hAT1 hAT2 hAT3 hone hok hdr hRd hRd1 hRd2 hRl hRl1 hRl2 hne hTl hTl2 hTl3 hSl
    go_upto_region 12 with (first
     | (go_at_call 61;with_reducible refine kv.mono ?_;rintro e w' ⟨rfl,rfl⟩)
     | (go_at_call 60;with_reducible refine kt.mono ?_;rintro e w' ⟨rfl,rfl⟩)
     | (go_at_call 60;with_reducible refine ku.mono ?_;rintro e w' ⟨rfl,rfl⟩))
    have hbad:(oneI ⟨K,V⟩ REM).2.1 = false → ∀ k,BlkOf l k → False:=fun h k hk=>parse_stop (f:=69999 - no) HNE.out h (by rw [show 69999 - no + 1 = 70000 - no by omega,← HP.out];exact blk_gBody hk)
    clear kv kt ku
    by_cases hE1:E1 = 0
    rotate_left
    ·have d1:(E1 != 0) = true:=by simpa using hE1
     have HBAD:=hid (hbad (by rw [HONE.out,if_neg (by rintro ⟨a1,a2,a3,a4⟩;exact hE1 a1)]))
     clear hbad
     go_wp2
     go_ret
     exact ⟨HB.out,[],none,0,rfl,World.ownsRow_nil _ _ _ _,fun x hx=>(by cases hx),Nat.zero_le _,fun k hk=>(HBAD.out k hk).elim⟩
    subst hE1
    by_cases hE2:E2 = 0
    rotate_left
    ·have d1:(E2 != 0) = true:=by simpa using hE2
     have HBAD:=hid (hbad (by rw [HONE.out,if_neg (by rintro ⟨a1,a2,a3,a4⟩;exact hE2 a2)]))
     clear hbad
     go_wp2
     go_ret
     exact ⟨HB.out,[],none,0,rfl,World.ownsRow_nil _ _ _ _,fun x hx=>(by cases hx),Nat.zero_le _,fun k hk=>(HBAD.out k hk).elim⟩
    subst hE2
    by_cases hE3:E3 = 0
    rotate_left
    ·have d1:(E3 != 0) = true:=by simpa using hE3
     have HBAD:=hid (hbad (by rw [HONE.out,if_neg (by rintro ⟨a1,a2,a3,a4⟩;exact hE3 a3)]))
     clear hbad
     go_wp2
     go_ret
     exact ⟨HB.out,[],none,0,rfl,World.ownsRow_nil _ _ _ _,fun x hx=>(by cases hx),Nat.zero_le _,fun k hk=>(HBAD.out k hk).elim⟩
    subst hE3
    by_cases hNK:N ≤ K.size
    rotate_left
    ·have d1:(K.size:Int) < (N:Int):=by omega
     have HBAD:=hid (hbad (by rw [HONE.out,if_neg (by rintro ⟨a1,a2,a3,a4⟩;exact hNK a4)]))
     clear hbad
     go_wp2
     go_ret
     exact ⟨HB.out,[],none,0,rfl,World.ownsRow_nil _ _ _ _,fun x hx=>(by cases hx),Nat.zero_le _,fun k hk=>(HBAD.out k hk).elim⟩
    have HON:=hid (HONE.out.trans (if_pos ⟨rfl,rfl,rfl,hNK⟩))
    obtain ⟨K2,hK2⟩:∃ x:ByteArray,x = ⟨(K.data.toList.take N ++ (getT REM1).1).toArray⟩:=⟨_,rfl⟩
    rw [← hK2] at HON
    have hcat:=fun w=>cat_run K N S (getT REM1).1 K2 w hS1.out hK2 (by omega) hNK
    have hkl:=HOK.out (by rw [HON.out])
    rw [HON.out] at hkl
    simp only [HRL.out,List.length_drop,HRL2.out] at hkl
    have hAA:=HA.out
    have hTT:=HT0.out
    have hk1:K2.size ≤ AT3:=by omega
    have hk2:S2.size ≤ 65536:=by omega
    have hk3:no + 1 ≤ AT3:=by omega
    have hk4:no ≤ 65536:=by omega
    have hPN:Hid (parseI 70000 nilI (gBody l) = ((L ++ [(⟨K2,S2⟩:Item)]).map fun x=>(x,true)) ++ parseI (70000 - (no + 1)) ⟨K2,S2⟩ ((gBody l).drop AT3)):=by
     show _ = _
     rw [HP.out,show 70000 - no = 69999 - no + 1 by omega,parse_go HNE.out (by rw [HON.out]),HON.out,HDR.out,show 70000 - (no + 1) = 69999 - no by omega]
     simp
    have hSN:Hid (∀ x ∈ L ++ [(⟨K2,S2⟩:Item)],x.key.size ≤ 65536 ∧ x.val.size ≤ 65536):=by
     intro x hx
     rcases List.mem_append.1 hx with h | h
     ·exact HS.out x h
     ·obtain rfl:=List.mem_singleton.1 h
      exact ⟨by show K2.size ≤ _;omega,hk2⟩
    have hNKi:(N:Int) ≤ (K.size:Int):=by omega
    have hNKj:¬ (K.size:Int) < (N:Int):=by omega
    have hat3:AT3 ≤ E:=by omega
    have hat4:at_ < AT3:=by omega
    have hwsz:=HB.out.size
    clear hbad hK2 hkl hAA hTT HONE HOK HA HT0 hk2
    go_upto_region 15 with fail
    clear hcat
    go_upto_region 16 with (at_builtin;refine wpList_append_rd rfl (.tmp 94) (.tmp 98) 91 rfl w.heap.size 100 (.agg #[.string ⟨#[]⟩,.string ⟨#[]⟩]) 2 32 Tryz.underlying91 infoItem rfl (by decide) (.slice qo no co) no (iCells L) rfl (own_below HO.out ((Below.refl _ _).alloc (Nat.le_refl _) _)) (some ⟨wr.heap.size,0,none⟩) 1 1 [.string K2,.string S2] rfl (fun h=>by cases h) rfl (Rd.new _ [.string K2,.string S2] _) (by simp [Value.oneCell']) (by unfold maxLen;omega) (by omega) (by simp;omega) ?_;intro v' w6 hown6 hg6 _;have P6:=hid (And.intro hown6 hg6);clear hown6 hg6)
    obtain ⟨hown6,hg6⟩:=P6.out
    obtain ⟨q6,c6,rfl,_,_,_⟩:=own_shape hown6
    have hb6:Below w.heap.size w w6:=(HB.out.alloc hwsz _).grown hg6 (by simp;omega) (fun g hg=>(HO.out.lt g hg).1)
    have HO6:=hid hown6
    have HB6:=hid hb6
    clear hown6 hg6 hb6 P6
    go_wp2
    go_roundw
    case rel=>exact ⟨AT3,L ++ [⟨K2,S2⟩],no + 1,K2,S2,q6,c6,hat3,by go_num,rfl,rfl,by show _ = _;rw [List.length_append,HLn.out];rfl,hk3,hk1,hSN,hPN,by rw [iCells_app];exact HO6.out,HB6⟩
    case measure=>simp [intOf];omega
   ·obtain rfl:at_ = E:=by omega
    have i1:¬ (at_:Int) < EI:=by have:=HEE.out;omega
    have hfin:∀ k,BlkOf l k → L = k:=fun k hk=>by
     have h1:=blk_gBody hk
     rw [HP.out,List.drop_eq_nil_of_le (by rw [HGL.out];exact Nat.le_refl _)] at h1
     have h2:parseI (70000 - no) ⟨K,V⟩ [] = []:=by
      cases 70000 - no with
      | zero=>rfl
      | succ f=>rfl
     rw [h2,List.append_nil] at h1
     exact map_true_inj h1
    have HF:=hid hfin
    clear hfin
    go_wp2
    go_ret
    exact ⟨HB.out,L,qo,co,by rw [HLn.out];rfl,by rw [HLn.out];exact HO.out,HS.out,by rw [HLn.out];omega,HF.out⟩
def RbgP (l:List UInt8) (b0:Nat) (w:World) (e:Ending) (w':World):Prop :=
 Below b0 w w' ∧ (((¬ ∃ k,BlkOf l k) ∧ ∃ er:Int,er ≠ 0 ∧ e = .returned (.tuple #[.slice none 0 0,.int .i64 er])) ∨
  ∃ k,BlkOf l k ∧ ∃ q c,e = .returned (.tuple #[.slice q k.length c,.int .i64 0]) ∧ w'.ownsRow b0 100 2 (.slice q k.length c) k.length (iCells k))
set_option maxRecDepth 100000 in
set_option maxHeartbeats 8000000 in
theorem rbget_any (q:Option Addr) (m c:Nat) (l:List UInt8) (w:World) (hl:l.length = m) (hm:m ≤ 4194304) (hc:m ≤ c) (hcm:c ≤ maxLen) (hr:Rd w q (l.map bv)) :
  Calls Tryz.prog 62 #[.slice q m c] w (RbgP l w.heap.size w):=by
 by_cases h12:m < 12
 ·have hno:¬ ∃ k,BlkOf l k:=fun ⟨k,hk⟩=>by have:=(blk_open2 hk).1;omega
  have HNO:=hid hno
  have i0:(m:Int) < 12:=by omega
  clear hno hl hr
  go_enter Tryz.func62,Tryz.ntmps62
  go_wp2
  go_ret2
  exact ⟨Below.refl _ _,.inl ⟨HNO.out,5,by decide,rfl⟩⟩
 have i0:¬ (m:Int) < 12:=by omega
 obtain ⟨b,off,rfl, -⟩:=hr.cell (k:=0) (by rw [List.length_map];omega)
 obtain ⟨M4,hM4⟩:∃ x,x = m - 4:=⟨_,rfl⟩
 have e4:(m:Int) - 4 = (M4:Int):=by omega
 have s4:m - M4 = 4:=by omega
 have z0:(0:Int) ≤ (M4:Int):=by omega
 have z1:(M4:Int) ≤ (m:Int):=by omega
 have z2:¬ c = M4:=by omega
 have z3:(M4:Int) ≤ (c:Int):=by omega
 obtain ⟨N4,hN4⟩:∃ x,num4 l M4 = x:=⟨_,rfl⟩
 obtain ⟨CR,hCR⟩:∃ x,(crcMore 0 (l.take M4)).toNat = x:=⟨_,rfl⟩
 have hCRl:CR < 4294967296:=by rw [← hCR];exact (crcMore 0 (l.take M4)).isLt
 have hop:∀ k,BlkOf l k → N4 = CR ∧ m ≤ 65536:=fun k h=>by
  have:=(blk_open2 h).2.1
  rw [hl,← hM4,hN4,hCR] at this
  exact ⟨this,by have:=h.2.2;omega⟩
 obtain ⟨TD,D,hD1,hD2⟩:=class_d w
 have HC1:=hid (fun z=>calls_d hD1 hD2 (f:=98) (vs := #[.slice (some ⟨b,off + M4,none⟩) 4 (c - M4)]) (v:=.int .u64 (N4:Int)) (fun w' hb=>by
  have k:=rread_any (some ⟨b,off + M4,none⟩) 4 (c - M4) (l.drop M4) w' (by rw [List.length_drop,hl];omega) (by decide) (by rw [List.map_drop];exact (hr.below hb).drop M4)
  rw [num4_drop2,Nat.add_zero,hN4] at k
  exact k) z)
 have HC2:=hid (fun z=>calls_d hD1 hD2 (f:=59) (vs := #[.slice (some ⟨b,off,none⟩) M4 c]) (v:=.int .u32 (CR:Int)) (fun w' hb=>by
  have k:=ref_of (some ⟨b,off,none⟩) M4 c (l.take M4) w' (by rw [List.length_take,hl];omega) (by omega) (by rw [List.map_take];exact (hr.below hb).take M4)
  rw [hCR] at k
  exact k.mono (by rintro e w'' ⟨h1,rfl⟩;exact ⟨h1,Below.refl _ _⟩)) z)
 obtain ⟨y0,hy0⟩:=hD2 { w with drawn:=w.drawn + 1 } (Below.refl _ _).drew
 haveI:Nonempty TD:=⟨y0⟩
 have HD1:=hid hD1
 have HL:=hid hl
 have HR:=hid hr
 have HOP:=hid hop
 have hc64:IntKind.u64.wrap (CR:Int) = (CR:Int):=by rw [IntKind.wrap_u64];omega
 clear hD1 hD2 hr hl hop hN4 hCR hM4
 go_enter Tryz.func62,Tryz.ntmps62
 go_upto_region 3 with fail
 refine region_quiet_d (D:=D) (by kernel_rfl) (by kernel_rfl) y0 hy0 ?_
 repeat (go_big_quiet_step ((first | (go_at_call 98;with_reducible exact HC1.out _) | (go_at_call 59;with_reducible exact HC2.out _))))
 refine wpQuiet_nil ?_
 intro z
 obtain ⟨wb,hwb⟩:∃ x,x = D z:=⟨_,rfl⟩
 have HBr:=hid (show Below w.heap.size w wb from by rw [hwb];exact HD1.out z)
 rw [← hwb]
 clear hwb hy0 HC1 HC2 HD1
 by_cases hsum:N4 = CR
 rotate_left
 ·have hno:¬ ∃ k,BlkOf l k:=fun ⟨k,hk⟩=>hsum (HOP.out k hk).1
  have HNO:=hid hno
  have i1:¬ ((N4:Int) = (CR:Int)):=by omega
  clear hno hsum
  go_wp2
  go_ret2
  exact ⟨HBr.out,.inl ⟨HNO.out,6,by decide,rfl⟩⟩
 have i1:(N4:Int) = (CR:Int):=by omega
 by_cases hbig:65536 < m
 ·have hno:¬ ∃ k,BlkOf l k:=fun ⟨k,hk⟩=>by have:=(HOP.out k hk).2;omega
  have HNO:=hid hno
  have i2:(65536:Int) < (m:Int):=by omega
  clear hno
  go_wp2
  go_ret2
  exact ⟨HBr.out,.inl ⟨HNO.out,4,by decide,rfl⟩⟩
 have i2:¬ (65536:Int) < (m:Int):=by omega
 have kg:=rguess_any (some ⟨b,off,none⟩) m c l wb HL.out (by omega) (by omega) hc hcm (HR.out.below HBr.out)
 clear z0 z1 z2 z3 e4 s4 hc64
 go_upto_region 8 with (go_at_call 99;(with_reducible refine kg.mono ?_);rintro e w2 ⟨b2,L,ql,cl,rfl,own2,sz,ln,un⟩;have HB2:=hid (HBr.out.trans (b2.mono HBr.out.size));have B2:=hid b2;have OWN:=hid own2;have HSZ:=hid sz;have HLN:=hid ln;have HUN:=hid un;clear b2 own2 sz ln un)
 obtain ⟨NL,hNL⟩:∃ x,L.length = x:=⟨_,rfl⟩
 rw [hNL] at OWN HLN ⊢
 have HNL:=hid hNL
 have kp:=ref_bput ql NL cl L w2 hNL (by have:=HLN.out;omega) (Fr.of_own OWN.out).rd (fun x hx=>by have:=HSZ.out x hx;omega)
 clear hNL kg
 go_wp2_with fail
 refine kp.mono ?_
 rintro e w3 ⟨b3,hp⟩
 have HB3:=hid (HB2.out.trans (b3.mono HB2.out.size))
 have B3:=hid b3
 clear b3
 have OWN3:=hid (own_below OWN.out B3.out)
 rcases hp with ⟨hnr,rfl⟩ | ⟨hrs,hbg,rfl⟩ | ⟨hrs,hbl,qp,cp,rfl,hfr⟩
 ·have hno:¬ ∃ k,BlkOf l k:=fun ⟨k,hk⟩=>hnr (by rw [HUN.out k hk];exact hk.1)
  have HNO:=hid hno
  clear hno hnr
  go_wp2
  go_ret2
  exact ⟨HB3.out,.inl ⟨HNO.out,4,by decide,rfl⟩⟩
 ·have hno:¬ ∃ k,BlkOf l k:=fun ⟨k,hk⟩=>by rw [HUN.out k hk,hk.2.1] at hbg;have:=hk.2.2;omega
  have HNO:=hid hno
  clear hno hrs hbg
  go_wp2
  go_ret2
  exact ⟨HB3.out,.inl ⟨HNO.out,4,by decide,rfl⟩⟩
 ·obtain ⟨A,hA⟩:∃ x:ByteArray,x = ⟨(bAll L).toArray⟩:=⟨_,rfl⟩
  obtain ⟨BB,hBB⟩:∃ x:ByteArray,x = ⟨l.toArray⟩:=⟨_,rfl⟩
  have cv1:=convB w3 qp (bAll L).length cp (bAll L) rfl hfr.rd
  have cv2:=convB w3 (some ⟨b,off,none⟩) m c l HL.out (HR.out.below HB3.out)
  rw [← hA] at cv1
  rw [← hBB] at cv2
  have HBL:=hid hbl
  have HRS:=hid hrs
  obtain ⟨PL,hPL⟩:∃ x,x = (bAll L).length:=⟨_,rfl⟩
  rw [← hPL] at cv1 ⊢
  clear hfr hbl hrs hPL
  by_cases hE:bAll L = l
  ·have hk:BlkOf l L:=⟨HRS.out,hE,by rw [HL.out];omega⟩
   have HK:=hid hk
   obtain rfl:A = BB:=by rw [hA,hBB,hE]
   have d1:(A.toList == A.toList) = true:=beq_self_eq_true _
   clear hE hA hBB hk
   go_wp2
   go_ret2
   exact ⟨HB3.out,.inr ⟨L,HK.out,ql,cl,by rw [HNL.out];rfl,by rw [HNL.out];exact own_mono OWN3.out HBr.out.size⟩⟩
  ·have hno:¬ ∃ k,BlkOf l k:=fun ⟨k,hk⟩=>hE (by rw [HUN.out k hk];exact hk.2.1)
   have HNO:=hid hno
   have d1:(A.toList == BB.toList) = false:=beq_eq_false_iff_ne.2 fun e=>hE (by have h2:A.data.toList = BB.data.toList:=(by rw [← ByteArray.toList_eq,← ByteArray.toList_eq];exact e);rw [hA,hBB] at h2;exact h2)
   clear hno hE hA hBB
   go_wp2
   go_ret2
   exact ⟨HB3.out,.inl ⟨HNO.out,4,by decide,rfl⟩⟩
end Go.Proofs.Herb
