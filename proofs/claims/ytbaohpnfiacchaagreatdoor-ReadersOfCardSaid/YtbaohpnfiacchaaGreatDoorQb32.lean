/- The reference of chapter 1: Get and GetText. For bytes that can be read. -/
import Derived.Test.YtbaohpnfiacchaaGreatDoorQb17
namespace Go.Proofs.Herb
open Go.RowKit
theorem val_add (k N X:Nat) (hN:N < 2 ^ (7 * k)) (hX:X < 256) (h:k < 9 ∨ (k = 9 ∧ X ≤ 1)) :
  IntKind.u64.wrap ((N:Int) + IntKind.u64.wrap (((X % 128:Nat):Int) * ((2 ^ (7 * k):Nat):Int))) = ((N + X % 128 * 2 ^ (7 * k):Nat):Int) ∧ IntKind.u64.wrap (((X % 128:Nat):Int) * ((2 ^ (7 * k):Nat):Int)) = ((X % 128 * 2 ^ (7 * k):Nat):Int):=by
 have hp:2 ^ (7 * k) ≤ 9223372036854775808:=by
  have:(2:Nat) ^ (7 * k) ≤ 2 ^ (7 * 9):=Nat.pow_le_pow_right (by decide) (by omega)
  exact this
 have hY:X % 128 * 2 ^ (7 * k) < 9223372036854775809:=by
  rcases h with h | ⟨h,h1⟩
  ·have h2:(2:Nat) ^ (7 * k) ≤ 2 ^ (7 * 8):=Nat.pow_le_pow_right (by decide) (by omega)
   have h3:X % 128 * 2 ^ (7 * k) ≤ 127 * 2 ^ (7 * 8):=Nat.mul_le_mul (by omega) h2
   exact Nat.lt_of_le_of_lt h3 (by decide)
  ·have h3:X % 128 * 2 ^ (7 * k) ≤ 1 * 2 ^ (7 * k):=Nat.mul_le_mul_right _ (by omega)
   omega
 have e2:((X % 128:Nat):Int) * ((2 ^ (7 * k):Nat):Int) = ((X % 128 * 2 ^ (7 * k):Nat):Int):=(Int.natCast_mul _ _).symm
 rw [e2]
 generalize X % 128 * 2 ^ (7 * k) = Z at hY
 generalize 2 ^ (7 * k) = P at hN hp
 have e3:IntKind.u64.wrap (Z:Int) = (Z:Int):=by rw [IntKind.wrap_u64];omega
 rw [e3]
 refine ⟨?_,rfl⟩
 rw [IntKind.wrap_u64]
 omega
theorem place_up (k:Nat) (h:k < 9):IntKind.u64.wrap (((2 ^ (7 * k):Nat):Int) * 128) = ((2 ^ (7 * (k + 1)):Nat):Int):=by
 have hp:(2:Nat) ^ (7 * k) ≤ 2 ^ (7 * 8):=Nat.pow_le_pow_right (by decide) (by omega)
 have h4:(2:Nat) ^ (7 * 8) = 72057594037927936:=by decide
 rw [show 7 * (k + 1) = 7 * k + 7 by omega,Nat.pow_add,IntKind.wrap_u64]
 generalize (2:Nat) ^ (7 * k) = P at hp ⊢
 omega
set_option maxRecDepth 100000 in
set_option maxHeartbeats 2000000 in
theorem rvget_any (q:Option Addr) (m c:Nat) (l:List UInt8) (w:World) (hl:l.length = m) (hm:m ≤ 9223372036854775806) (hr:Rd w q (l.map bv)) :
  Calls Tryz.prog 61 #[.slice q m c] w fun e w'=>e = .returned (.tuple #[.int .u64 ((getV 0 0 l).1:Int),.int .i64 ((getV 0 0 l).2.1:Int),.int .i64 (getV 0 0 l).2.2]) ∧ w = w':=by
 have Hl:=hid hl
 have Hr:=hid hr
 clear hl hr
 go_enter Tryz.func61,Tryz.ntmps61
 go_wp2
 go_loop [5,6,7] (fun v p i=>∃ k N P:Nat,k ≤ m ∧ k ≤ 9 ∧ i = .int .i64 (k:Int) ∧ v = .int .u64 (N:Int) ∧ p = .int .u64 (P:Int) ∧ Hid (P = 2 ^ (7 * k)) ∧ N < 2 ^ (7 * k) ∧ Hid (getV 0 0 l = getV N k (l.drop k))) (fun _ _ i=>m - (intOf i).toNat)
 case atStart=>exact ⟨0,0,1,Nat.zero_le _,by decide,rfl,rfl,rfl,rfl,by decide,rfl⟩
 case round =>
  obtain ⟨k,N,P,hk,hk9,rfl,rfl,rfl,HP,hN,HG⟩:=hrel
  by_cases hlt:k < m
  ·have hkl:k < l.length:=by rw [Hl.out];exact hlt
   obtain ⟨b,off,rfl,hc⟩:=Hr.out.cell (k:=k) (by rw [List.length_map];exact hkl)
   rw [List.getElem_map] at hc
   obtain ⟨x,hx⟩:∃ x,x = l[k]:=⟨_,rfl⟩
   rw [← hx] at hc
   unfold bv at hc
   have hd:l.drop k = x :: l.drop (k + 1):=by rw [hx];exact List.drop_eq_getElem_cons hkl
   have hst:getV 0 0 l = if (0 < k ∧ x = 0) ∨ (k = 9 ∧ 1 < x.toNat) then (0,0,4) else if x.toNat < 128 then (N + x.toNat * 2 ^ (7 * k),k + 1,0) else getV (N + x.toNat % 128 * 2 ^ (7 * k)) (k + 1) (l.drop (k + 1)):=by
    rw [HG.out,hd,getV]
   have HSt:=hid hst
   have i0:(0:Int) ≤ (k:Int):=by omega
   have i1:(k:Int) < (m:Int):=by omega
   have hx8:=x.toNat_lt
   obtain ⟨X,hX⟩:∃ X,X = x.toNat:=⟨_,rfl⟩
   rw [← hX] at hc hx8
   have HX:=hid hX
   clear hx hd hst hX
   have hx0:x = 0 ↔ X = 0:=by
    rw [HX.out]
    exact ⟨fun h=>by rw [h];rfl,fun h=>UInt8.toNat_inj.1 h⟩
   obtain ⟨Y,hY⟩:∃ Y,Y = X % 128:=⟨_,rfl⟩
   have m0:(0:Int) ≤ (X:Int):=by omega
   have m2:((X:Int) % 128) = (Y:Int):=by omega
   have HYY:=hid hY
   clear hY
   by_cases hA:0 < k ∧ X = 0
   ·have hst:=HSt.out
    rw [if_pos (.inl ⟨hA.1,hx0.2 hA.2⟩)] at hst
    have HRes:=hid hst
    obtain ⟨hA1,hA2⟩:=hA
    subst hA2
    clear HSt hst hx0
    go_wp2
    go_ret3
    exact ⟨by rw [HRes.out];rfl,rfl⟩
   ·by_cases hBc:k = 9 ∧ 1 < X
    ·have hst:=HSt.out
     rw [if_pos (.inr ⟨hBc.1,by rw [← HX.out];exact hBc.2⟩)] at hst
     have HRes:=hid hst
     obtain ⟨hB1,hB2⟩:=hBc
     subst hB1
     have d1:((X:Int) == 0) = false:=by rw [beq_eq_false_iff_ne];omega
     clear HSt hst hx0
     go_wp2
     go_ret3
     exact ⟨by rw [HRes.out];rfl,rfl⟩
    ·have hst:=HSt.out
     rw [if_neg (by rw [hx0,← HX.out];rintro (h | h);exact hA h;exact hBc h),← HX.out] at hst
     obtain ⟨hv,hv2⟩:=val_add k N X hN hx8 (by omega)
     obtain ⟨V,hV⟩:∃ V,V = N + X % 128 * 2 ^ (7 * k):=⟨_,rfl⟩
     obtain ⟨Z,hZ⟩:∃ Z,Z = X % 128 * 2 ^ (7 * k):=⟨_,rfl⟩
     rw [hv2,← hV,← hZ] at hv
     rw [← hZ,← HYY.out,← HP.out] at hv2
     have HV:=hid hV
     clear hV hZ
     by_cases hC:X < 128
     ·rw [if_pos hC] at hst
      have hst2:getV 0 0 l = (V,k + 1,0):=by rw [hst,HV.out,Nat.mod_eq_of_lt hC]
      have HRes:=hid hst2
      clear HSt hst hst2 hx0
      by_cases hk9':k = 9
      ·subst hk9'
       have x1:¬ ((1:Int) < (X:Int)):=by omega
       have x0:¬ (X = 0):=by omega
       clear hA hBc
       go_wp2
       all_goals go_ret3
       all_goals exact ⟨by rw [HRes.out];rfl,rfl⟩
      ·clear hBc
       go_wp2
       all_goals go_ret3
       all_goals exact ⟨by rw [HRes.out];rfl,rfl⟩
     ·rw [if_neg hC] at hst
      have hk8:k < 9:=by omega
      have HSt2:=hid hst
      have hVb:V < 2 ^ (7 * (k + 1)):=by
       rw [HV.out,show 7 * (k + 1) = 7 * k + 7 by omega,Nat.pow_add]
       have h1:X % 128 * 2 ^ (7 * k) ≤ 127 * 2 ^ (7 * k):=Nat.mul_le_mul_right _ (by omega)
       generalize X % 128 * 2 ^ (7 * k) = Z at h1 ⊢
       generalize 2 ^ (7 * k) = P at hN h1 ⊢
       omega
      have HVb:=hid hVb
      have hpu:=place_up k hk8
      rw [← HP.out] at hpu
      obtain ⟨P2,hP2⟩:∃ P2,P2 = 2 ^ (7 * (k + 1)):=⟨_,rfl⟩
      rw [← hP2] at hpu
      have HP2:=hid hP2
      clear hP2
      clear HSt hst hx0 hVb
      rw [← HV.out] at HSt2
      go_wp2
      all_goals exact ⟨⟨k + 1,V,P2,by omega,by omega,by go_num,rfl,rfl,HP2,HVb.out,HSt2⟩,by simp [intOf];omega⟩
  ·obtain rfl:k = m:=by omega
   have hst:getV 0 0 l = (0,0,5):=by rw [HG.out,← Hl.out,List.drop_length,getV]
   have HRes:=hid hst
   clear hst
   go_wp2
   go_ret3
   exact ⟨by rw [HRes.out];rfl,rfl⟩
set_option maxRecDepth 100000 in
set_option maxHeartbeats 1000000 in
theorem rvtext_any (q:Option Addr) (m c:Nat) (l:List UInt8) (w:World) (hl:l.length = m) (hm:m ≤ 9223372036854775806) (hc:m ≤ c) (hcm:c ≤ maxLen) (hr:Rd w q (l.map bv)) :
  Calls Tryz.prog 60 #[.slice q m c] w fun e w'=>e = .returned (.tuple #[.string ⟨(getT l).1.toArray⟩,.int .i64 ((getT l).2.1:Int),.int .i64 (getT l).2.2]) ∧ w = w':=by
 unfold maxLen at hcm
 have HG:=hid (rvget_any q m c l w hl (by omega) hr)
 obtain ⟨N,hN⟩:∃ N,N = (getV 0 0 l).1:=⟨_,rfl⟩
 obtain ⟨T,hT⟩:∃ N,N = (getV 0 0 l).2.1:=⟨_,rfl⟩
 obtain ⟨E,hE⟩:∃ N,N = (getV 0 0 l).2.2:=⟨_,rfl⟩
 have htk:=getV_took l 0 0
 have hnl:=getV_lt l 0 0 (by decide) (by decide)
 have hgt:getT l = if E ≠ 0 then ([],0,E) else if l.length - T < N then ([],0,5) else ((l.drop T).take N,T + N,0):=by unfold getT;rw [hN,hT,hE]
 rw [← hN,← hT,← hE] at HG
 rw [← hE,← hT] at htk
 rw [← hN] at hnl
 have Hl:=hid hl
 have Hr:=hid hr
 have HGt:=hid hgt
 clear hl hr hN hT hE hgt
 go_enter Tryz.func60,Tryz.ntmps60
 go_wp2_with fail
 refine HG.out.mono ?_
 rintro e w1 ⟨rfl,rfl⟩
 clear HG
 by_cases hE:E = 0
 ·subst hE
  obtain ⟨t1,t2⟩:=htk rfl
  rw [Hl.out] at t1
  have s1:IntKind.u64.wrap ((m:Int) - (T:Int)) = ((m - T:Nat):Int):=by rw [IntKind.wrap_u64];omega
  by_cases hs:m - T < N
  ·have hst:=HGt.out
   rw [if_neg (by simp),Hl.out,if_pos hs] at hst
   have HRes:=hid hst
   have d1:¬ N ≤ m - T:=by omega
   clear hst HGt htk
   go_wp2
   all_goals go_ret3
   all_goals exact ⟨by rw [HRes.out];rfl,rfl⟩
  ·have hst:=HGt.out
   rw [if_neg (by simp),Hl.out,if_neg hs] at hst
   have HRes:=hid hst
   have d1:N ≤ m - T:=by omega
   clear hst HGt htk
   obtain ⟨b,off,rfl, -⟩:=Hr.out.cell (k:=0) (by rw [List.length_map,Hl.out];omega)
   obtain ⟨S,hS⟩:∃ S:ByteArray,S = ⟨((l.drop T).take N).toArray⟩:=⟨_,rfl⟩
   by_cases hcT:c = T
   ·have hN0:N = 0:=by omega
    subst hN0
    subst hcT
    have hcv:=convB w (some ⟨b,off,none⟩) 0 0 [] rfl (.inl rfl)
    have HS:=hid (show S = ⟨#[]⟩ by rw [hS];simp)
    clear hS
    go_wp2
    go_ret3
    exact ⟨by rw [HRes.out];rfl,rfl⟩
   ·have hcv:=convB w (some ⟨b,off + T,none⟩) N (c - T) ((l.drop T).take N) (by rw [List.length_take,List.length_drop,Hl.out];omega) (by rw [List.map_take,List.map_drop];exact (Hr.out.drop T).take N)
    rw [← hS] at hcv
    have HS:=hid hS
    clear hS
    go_wp2
    go_ret3
    exact ⟨by rw [HRes.out];show _ = Ending.returned (.tuple #[.string ⟨((l.drop T).take N).toArray⟩,_,_]);rw [← HS.out];rfl,rfl⟩
 ·have hst:=HGt.out
  rw [if_pos hE] at hst
  have HRes:=hid hst
  have d1:(E != 0) = true:=by simpa using hE
  clear hst HGt htk
  go_wp2
  go_ret3
  exact ⟨by rw [HRes.out];rfl,rfl⟩
end Go.Proofs.Herb
