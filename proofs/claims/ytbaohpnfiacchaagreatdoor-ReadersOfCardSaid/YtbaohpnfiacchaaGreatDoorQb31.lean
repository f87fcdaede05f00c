/- The reference's numbers of four bytes (chapters 10 and 13), and Has (chapter 11). For bytes that can be read. -/
import Derived.Deep.QuietTactic
import Derived.BigQuiet
import Derived.Test.YtbaohpnfiacchaaGreatDoorQb16
import Derived.Test.YtbaohpnfiacchaaGreatDoorQb18
import Derived.Test.YtbaohpnfiacchaaGreatDoorQb20
import Derived.Test.YtbaohpnfiacchaaGreatDoorQb30
namespace Go.Proofs.Herb
open Go.RowKit
theorem num_u64 (x0 x1 x2 x3:Nat) (h0:x0 < 256) (h1:x1 < 256) (h2:x2 < 256) (h3:x3 < 256) :
  IntKind.u64.wrap (IntKind.u64.wrap (IntKind.u64.wrap (IntKind.u64.wrap (x0:Int) + IntKind.u64.wrap (256 * IntKind.u64.wrap (x1:Int))) + IntKind.u64.wrap (65536 * IntKind.u64.wrap (x2:Int))) + IntKind.u64.wrap (16777216 * IntKind.u64.wrap (x3:Int))) = ((x0 + 256 * x1 + 65536 * x2 + 16777216 * x3:Nat):Int):=by
 have k:∀ x:Int,0 ≤ x ∧ x < 18446744073709551616 → IntKind.u64.wrap x = x:=fun x hx=>by rw [IntKind.wrap_u64];omega
 rw [k (x0:Int) (by omega),k (x1:Int) (by omega),k (x2:Int) (by omega),k (x3:Int) (by omega),k (256 * (x1:Int)) (by omega),k (65536 * (x2:Int)) (by omega),k (16777216 * (x3:Int)) (by omega),k ((x0:Int) + 256 * (x1:Int)) (by omega),k ((x0:Int) + 256 * (x1:Int) + 65536 * (x2:Int)) (by omega),k _ (by omega)]
 omega
theorem num_i64 (x0 x1 x2 x3:Nat) (h0:x0 < 256) (h1:x1 < 256) (h2:x2 < 256) (h3:x3 < 256) :
  wrap64 (wrap64 (wrap64 (wrap64 (x0:Int) + wrap64 (256 * wrap64 (x1:Int))) + wrap64 (65536 * wrap64 (x2:Int))) + wrap64 (16777216 * wrap64 (x3:Int))) = ((x0 + 256 * x1 + 65536 * x2 + 16777216 * x3:Nat):Int):=by
 have k:∀ x:Int,0 ≤ x ∧ x < 9223372036854775807 → wrap64 x = x:=fun x hx=>by unfold wrap64;omega
 rw [k (x0:Int) (by omega),k (x1:Int) (by omega),k (x2:Int) (by omega),k (x3:Int) (by omega),k (256 * (x1:Int)) (by omega),k (65536 * (x2:Int)) (by omega),k (16777216 * (x3:Int)) (by omega),k ((x0:Int) + 256 * (x1:Int)) (by omega),k ((x0:Int) + 256 * (x1:Int) + 65536 * (x2:Int)) (by omega),k _ (by omega)]
 omega
set_option maxRecDepth 100000 in
set_option maxHeartbeats 1000000 in
theorem rread_any (q:Option Addr) (m c:Nat) (l:List UInt8) (w:World) (hl:l.length = m) (h4:4 ≤ m) (hr:Rd w q (l.map bv)) :
  Calls Tryz.prog 98 #[.slice q m c] w fun e w'=>e = .returned (.int .u64 (num4 l 0:Int)) ∧ Below w.heap.size w w':=by
 obtain ⟨b,off,rfl, -⟩:=hr.cell (k:=0) (by rw [List.length_map];omega)
 have c0:=rd_num hr (a:=0) (by omega)
 rw [Nat.add_zero] at c0
 have c1:=rd_num hr (a:=1) (by omega)
 have c2:=rd_num hr (a:=2) (by omega)
 have c3:=rd_num hr (a:=3) (by omega)
 have hn:num4 l 0 = ((l[0]?).getD 0).toNat + 256 * ((l[1]?).getD 0).toNat + 65536 * ((l[2]?).getD 0).toNat + 16777216 * ((l[3]?).getD 0).toNat:=rfl
 have h0:=((l[0]?).getD 0).toNat_lt
 have h1:=((l[1]?).getD 0).toNat_lt
 have h2:=((l[2]?).getD 0).toNat_lt
 have h3:=((l[3]?).getD 0).toNat_lt
 generalize ((l[0]?).getD 0).toNat = x0 at *
 generalize ((l[1]?).getD 0).toNat = x1 at *
 generalize ((l[2]?).getD 0).toNat = x2 at *
 generalize ((l[3]?).getD 0).toNat = x3 at *
 rw [hn]
 have i0:(0:Int) < (m:Int):=by omega
 have i1:(1:Int) < (m:Int):=by omega
 have i2:(2:Int) < (m:Int):=by omega
 have i3:(3:Int) < (m:Int):=by omega
 have H0:=hid h0
 have H1:=hid h1
 have H2:=hid h2
 have H3:=hid h3
 clear hr hl hn h4 h0 h1 h2 h3
 go_enter Tryz.func98,Tryz.ntmps98
 go_upto_region 1 with (fail)
 go_quiet (fail)
 go_wp2
 go_ret
 have h0:=H0.out
 have h1:=H1.out
 have h2:=H2.out
 have h3:=H3.out
 refine ⟨?_,below_drewN (Below.refl _ _) nq⟩
 exact congrArg (fun z=>Ending.returned (.int .u64 z)) (num_u64 x0 x1 x2 x3 h0 h1 h2 h3)
set_option maxRecDepth 100000 in
set_option maxHeartbeats 1000000 in
theorem rfour_any (q:Option Addr) (m c a:Nat) (l:List UInt8) (w:World) (hl:l.length = m) (h4:a + 4 ≤ m) (hm:m ≤ 4611686018427387904) (hr:Rd w q (l.map bv)) :
  Calls Tryz.prog 24 #[.slice q m c,.int .i64 (a:Int)] w fun e w'=>e = .returned (.int .i64 (num4 l a:Int)) ∧ Below w.heap.size w w':=by
 obtain ⟨b,off,rfl, -⟩:=hr.cell (k:=0) (by rw [List.length_map];omega)
 have c0:=rd_num hr (a:=a) (by omega)
 have c1:=rd_num hr (a:=a + 1) (by omega)
 have c2:=rd_num hr (a:=a + 2) (by omega)
 have c3:=rd_num hr (a:=a + 3) (by omega)
 have hn:num4 l a = ((l[a]?).getD 0).toNat + 256 * ((l[a + 1]?).getD 0).toNat + 65536 * ((l[a + 2]?).getD 0).toNat + 16777216 * ((l[a + 3]?).getD 0).toNat:=rfl
 rw [hn]
 have h0:=((l[a]?).getD 0).toNat_lt
 have h1:=((l[a + 1]?).getD 0).toNat_lt
 have h2:=((l[a + 2]?).getD 0).toNat_lt
 have h3:=((l[a + 3]?).getD 0).toNat_lt
 generalize ((l[a]?).getD 0).toNat = x0 at *
 generalize ((l[a + 1]?).getD 0).toNat = x1 at *
 generalize ((l[a + 2]?).getD 0).toNat = x2 at *
 generalize ((l[a + 3]?).getD 0).toNat = x3 at *
 have w1:IntKind.i64.wrap ((a:Int) + 1) = ((a + 1:Nat):Int):=by rw [IntWalk.i64_in _ (by omega)];omega
 have w2:IntKind.i64.wrap ((a:Int) + 2) = ((a + 2:Nat):Int):=by rw [IntWalk.i64_in _ (by omega)];omega
 have w3:IntKind.i64.wrap ((a:Int) + 3) = ((a + 3:Nat):Int):=by rw [IntWalk.i64_in _ (by omega)];omega
 have i0:(a:Int) < (m:Int):=by omega
 have i1:((a + 1:Nat):Int) < (m:Int):=by omega
 have i2:((a + 2:Nat):Int) < (m:Int):=by omega
 have i3:((a + 3:Nat):Int) < (m:Int):=by omega
 obtain ⟨a1,ha1⟩:∃ n,n = a + 1:=⟨_,rfl⟩
 obtain ⟨a2,ha2⟩:∃ n,n = a + 2:=⟨_,rfl⟩
 obtain ⟨a3,ha3⟩:∃ n,n = a + 3:=⟨_,rfl⟩
 rw [← ha1] at w1 i1 c1
 rw [← ha2] at w2 i2 c2
 rw [← ha3] at w3 i3 c3
 have H0:=hid h0
 have H1:=hid h1
 have H2:=hid h2
 have H3:=hid h3
 clear hr hl hn h4 ha1 ha2 ha3 h0 h1 h2 h3
 go_enter Tryz.func24,Tryz.ntmps24
 go_upto_region 1 with (fail)
 go_quiet (fail)
 go_wp2
 go_ret
 have h0:=H0.out
 have h1:=H1.out
 have h2:=H2.out
 have h3:=H3.out
 refine ⟨?_,below_drewN (Below.refl _ _) nq⟩
 exact congrArg (fun z=>Ending.returned (.int .i64 z)) (num_i64 x0 x1 x2 x3 h0 h1 h2 h3)
theorem hasF_big {fb key:List UInt8} {n:Nat} (hn:fb.length = n + 1) (h8:8 ≤ n) (h6:(fb[n]?).getD 0 = 6):hasF fb key = (placesF key (8 * n)).all (bitAt fb):=by
 unfold hasF
 rw [hn,Nat.add_sub_cancel,if_neg (by rw [h6];simp;omega)]
theorem plF_mem {m:Nat} (hm:0 < m):∀ (f:Nat) (x y:Int) (a:Nat),a ∈ plF f x y m → a < m
 | 0,_,_,_,h=>by cases h
 | f + 1,x,y,a,h=>by
  rw [plF] at h
  rcases List.mem_cons.1 h with h | h
  ·rw [h];exact plAt_lt x m hm
  ·exact plF_mem hm f _ _ a h
set_option maxRecDepth 100000 in
set_option maxHeartbeats 2000000 in
theorem rhas_any (q:Option Addr) (m c:Nat) (fb:List UInt8) (key:ByteArray) (w:World) (hm:fb.length = m) (hml:m ≤ 100000) (hk:key.size ≤ 1000000) (hr:Rd w q (fb.map bv)) :
  Calls Tryz.prog 42 #[.slice q m c,.string key] w fun e w'=>e = .returned (.bool (hasF fb key.data.toList)) ∧ Below w.heap.size w w':=by
 have Hm:=hid hm
 have Hr:=hid hr
 clear hm hr
 by_cases h8:m ≤ 8
 ·have hh:hasF fb key.data.toList = true:=by unfold hasF;rw [if_pos (.inl (by rw [Hm.out];exact h8))]
  rw [hh]
  clear hh
  have d0:(m:Int) < 9:=by omega
  go_enter Tryz.func42,Tryz.ntmps42
  go_wp2
  go_ret
  exact ⟨rfl,Below.refl _ _⟩
 ·obtain ⟨N,hN⟩:∃ N,m = N + 1:=⟨m - 1,by omega⟩
  subst hN
  obtain ⟨b,off,rfl,hcl⟩:=Hr.out.cell (k:=N) (by rw [List.length_map,Hm.out];omega)
  rw [List.getElem_map] at hcl
  obtain ⟨y,hy⟩:∃ y,y = fb[N]'(by rw [Hm.out];omega):=⟨_,rfl⟩
  rw [← hy] at hcl
  unfold bv at hcl
  have hy2:(fb[N]?).getD 0 = y:=by rw [List.getElem?_eq_getElem (by rw [Hm.out];omega),hy];rfl
  have HY2:=hid hy2
  have d0:¬ ((N:Int) + 1 < 9):=by omega
  have d1:(0:Int) ≤ (N:Int):=by omega
  clear hy hy2
  by_cases h6:y = 6
  ·subst h6
   have hh:=hasF_big (key:=key.data.toList) Hm.out (by omega) HY2.out
   rw [hh]
   obtain ⟨L,hL⟩:∃ L,L = placesF key.data.toList (8 * N):=⟨_,rfl⟩
   have hLm:∀ a ∈ L,a < 8 * N:=by rw [hL];exact fun a h=>plF_mem (by omega) _ _ _ a h
   have hLl:L.length = 6:=by rw [hL];rfl
   have kp:=ref_places key (8 * N) hk (by omega) (by omega) w
   rw [← hL] at kp
   rw [← hL]
   have HLm:=hid hLm
   have HLl:=hid hLl
   have e8:((8 * N:Nat):Int) = 8 * (N:Int):=by omega
   rw [e8] at kp
   have hcl':w.cell? ⟨b,off + N,none⟩ = some (.int .u8 6):=hcl
   have e9:IntKind.i64.wrap (8 * ((N:Int) + 1) - 8) = 8 * (N:Int):=by rw [IntWalk.i64_in _ (by omega)];omega
   clear hL hLm hLl hh hcl e8
   go_enter Tryz.func42,Tryz.ntmps42
   go_wp2_with (go_at_call 85;with_reducible refine kp.mono ?_;rintro e w2 ⟨ql,cl,rfl,rl,b2⟩;have RL:=hid rl;have HB2:=hid b2;clear rl b2)
   clear hcl' e9
   go_loopw [6] (fun i wr=>∃ j:Nat,j ≤ 6 ∧ i = .int .i64 (j:Int) ∧ Hid ((L.take j).all (bitAt fb) = true) ∧ Hid (Below w.heap.size w wr) ∧ Hid (Rd wr ql (L.map nv))) (fun i _=>6 - (intOf i).toNat)
   case atStart=>exact ⟨0,Nat.zero_le _,rfl,rfl,HB2.out,RL.out⟩
   case round =>
    obtain ⟨j,hj,rfl,HA,HB,HR⟩:=hrel
    by_cases hlt:j < 6
    ·have hjl:j < L.length:=by rw [HLl.out];exact hlt
     obtain ⟨bl,ol,rfl,hcl⟩:=HR.out.cell (k:=j) (by rw [List.length_map];exact hjl)
     rw [List.getElem_map] at hcl
     obtain ⟨a,ha⟩:∃ a,L[j] = a:=⟨_,rfl⟩
     have ham:=HLm.out L[j] (List.getElem_mem _)
     rw [ha] at hcl ham
     unfold nv at hcl
     obtain ⟨D,hD⟩:∃ D,D = a / 8:=⟨_,rfl⟩
     obtain ⟨S,hS⟩:∃ D,D = a % 8:=⟨_,rfl⟩
     have hDN:D < N:=by omega
     obtain ⟨b',off',e',hg⟩:=(Hr.out.below HB.out).cell (k:=D) (by rw [List.length_map,Hm.out];omega)
     cases e'
     rw [List.getElem_map] at hg
     obtain ⟨x,hx⟩:∃ x,x = fb[D]'(by rw [Hm.out];omega):=⟨_,rfl⟩
     rw [← hx] at hg
     unfold bv at hg
     have hx2:(fb[D]?).getD 0 = x:=by rw [List.getElem?_eq_getElem (by rw [Hm.out];omega),hx];rfl
     have hbit:bitAt fb a = (x.toNat / 2 ^ S % 2 == 1):=by unfold bitAt;rw [← hD,← hS,hx2]
     have htk:(L.take (j + 1)).all (bitAt fb) = bitAt fb a:=by
      rw [List.take_succ_eq_append_getElem hjl,List.all_append,HA.out,ha]
      simp
     have hall:bitAt fb a = false → L.all (bitAt fb) = false:=fun h=>by
      rw [Bool.eq_false_iff]
      intro hh
      rw [List.all_eq_true.1 hh _ (by rw [← ha];exact List.getElem_mem hjl)] at h
      cases h
     rw [hbit] at htk hall
     have HTk:=hid htk
     have HAll:=hid hall
     have i0:(0:Int) ≤ (j:Int):=by omega
     have i1:(j:Int) < 6:=by omega
     have i2:(a:Int) / 8 = (D:Int):=by omega
     have i3:(a:Int) % 8 = (S:Int):=by omega
     have i4:(0:Int) ≤ (a:Int):=by omega
     have i5:(0:Int) ≤ (D:Int):=by omega
     have i6:(D:Int) < (N:Int) + 1:=by omega
     have i7:(0:Int) ≤ (S:Int):=by omega
     have i8:(S:Int) < 8:=by omega
     have t2:(a:Int).tdiv 8 = (D:Int):=by rw [Int.tdiv_eq_ediv_of_nonneg (by omega)];exact i2
     have t3:(a:Int).tmod 8 = (S:Int):=by rw [Int.tmod_eq_emod_of_nonneg (by omega)];exact i3
     clear hbit htk hall ha ham hD hS hx hx2 hjl hDN
     obtain ⟨B,hB⟩:∃ B,B = x.toNat / 2 ^ S % 2:=⟨_,rfl⟩
     have hBI:(x.toNat:Int) / 2 ^ S % 2 = (B:Int):=by
      have e:(x.toNat:Int) / 2 ^ S = ((x.toNat / 2 ^ S:Nat):Int):=by rw [Int.natCast_ediv,Int.natCast_pow];rfl
      rw [e,hB]
      generalize x.toNat / 2 ^ S = Z
      omega
     have HBI:=hid hBI
     have HBT:Hid (((x.toNat:Int) / 2 ^ S).tmod 2 = (B:Int)):=by
      show _ = _
      rw [Int.tmod_eq_emod_of_nonneg (Int.ediv_nonneg (by omega) (Int.le_of_lt (Int.pow_pos (by decide))))]
      exact hBI
     have hB2:B = 0 ∨ B = 1:=by omega
     clear hBI
     rw [← hB] at HTk HAll
     go_upto_region 7 with fail
     go_quiet (fail)
     first | rw [HBI.out] | rw [HBT.out]
     have HBq:=hid (below_drewN HB.out nq)
     have HRq:=hid (HR.out.below (below_drewN (Below.refl _ wr) nq))
     clear hB
     rcases hB2 with rfl | rfl
     ·have HF:=hid (HAll.out rfl)
      clear t2 t3 i2 i3 i5 i6 i7 i8 hcl hg HTk HAll
      go_wp2
      go_ret
      exact ⟨by rw [HF.out];rfl,HBq.out⟩
     ·have HT:=hid (HTk.out.trans rfl)
      clear t2 t3 i2 i3 i5 i6 i7 i8 hcl hg HTk HAll
      go_wp2
      go_roundw
      case rel=>exact ⟨j + 1,by omega,by go_num,HT,HBq,HRq⟩
      case measure=>simp [intOf];omega
    ·obtain rfl:j = 6:=by omega
     have hall:L.all (bitAt fb) = true:=by
      have:=HA.out
      rw [← HLl.out,List.take_length] at this
      exact this
     have HAl:=hid hall
     clear hall
     go_wp2
     go_ret
     exact ⟨by rw [HAl.out];rfl,HB.out⟩
  ·have hh:hasF fb key.data.toList = true:=by unfold hasF;rw [if_pos (.inr (by rw [Hm.out,Nat.add_sub_cancel,HY2.out];exact h6))]
   rw [hh]
   have d2:¬ ((y.toNat:Int) = 6):=fun h=>h6 (UInt8.toNat_inj.1 (by show y.toNat = 6;omega))
   clear hh h6
   go_enter Tryz.func42,Tryz.ntmps42
   go_wp2
   go_ret
   exact ⟨rfl,Below.refl _ _⟩
end Go.Proofs.Herb
