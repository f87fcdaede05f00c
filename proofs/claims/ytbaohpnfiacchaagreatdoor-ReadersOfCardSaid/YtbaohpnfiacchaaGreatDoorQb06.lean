/- The contract of tables.putProps. For props of so many bytes. The contract of tables.names: the shelf's contract on slices.Compact, laid here in plain words, and the walk. For facts that can be read. Whole numbers of few bits as floats: sums and products of them are exact. Plain; no program. -/
import Derived.Deep.RegionHeld3
import Derived.Shelf.Lay
import Derived.Shelf.Slices.CompactS
import Derived.Shelf.Slices.Cells
import Derived.WalkKit
import Derived.WalkLawsBesides
import Derived.Laws.ComplexArith
import Derived.Test.YtbaohpnfiacchaaGreatDoorQb01
import Derived.Test.YtbaohpnfiacchaaGreatDoorQb03
import Derived.Test.YtbaohpnfiacchaaGreatDoorQb05
namespace Go.Proofs.Herb
open Go.RowKit
def ppB (p:Props):List UInt8:=vput p.line ++ vput p.many ++ tput p.low.data.toList ++ tput p.high.data.toList ++ vput p.least ++ vput p.greatest ++ vput p.early ++ vput p.late
theorem tput_len2 (l:List UInt8):(tput l).length = (vput l.length).length + l.length:=by unfold tput;rw [List.length_append]
theorem size_toList2 (s:ByteArray):s.data.toList.length = s.size:=by rw [Array.length_toList];rfl
theorem flat_vput (l:List Nat):(l.flatMap vput).length ≤ 10 * l.length:=by
 induction l with
 | nil=>simp
 | cons a l ih=>rw [List.flatMap_cons,List.length_append,List.length_cons];have:=(vput_len a).2;omega
theorem vput_step (B n N:Nat) (q:Option Addr) (l:List UInt8) (w:World) (hN:N < 18446744073709551616) (hf:Fr w B 5 1 (.slice q n n) n (l.map bv)) (hm:n ≤ 4194304) (hB:B ≤ w.heap.size) :
  Calls Tryz.prog 46 #[.slice q n n,.int .u64 (N:Int)] w fun e w'=>∃ q',e = .returned (.slice q' (n + (vput N).length) (n + (vput N).length)) ∧ Fr w' B 5 1 (.slice q' (n + (vput N).length) (n + (vput N).length)) (n + (vput N).length) ((l ++ vput N).map bv) ∧ Below w.heap.size w w':=by
 have hl:l.length = n:=by have:=hf.1;simpa using this
 refine (vput_any q n n N l w hN hl (Nat.le_refl _) hm hf.rd ?_).mono ?_
 ·obtain ⟨a,c',h1,_,_,_,h2⟩:=hf.shape
  rw [Value.slice.injEq] at h1
  obtain ⟨rfl,_,rfl⟩:=h1
  exact fun e=>(h2 e).2
 ·rintro e w' ⟨q',h1,h2,h3⟩
  exact ⟨q',h1,h2.mono hB,h3⟩
theorem ptext_step (B n:Nat) (q:Option Addr) (l:List UInt8) (s:ByteArray) (w:World) (hs:s.size ≤ 4194304) (hf:Fr w B 5 1 (.slice q n n) n (l.map bv)) (hm:n ≤ 4194304) (hB:B ≤ w.heap.size) :
  Calls Tryz.prog 91 #[.slice q n n,.string s] w fun e w'=>∃ q',e = .returned (.slice q' (n + (tput s.data.toList).length) (n + (tput s.data.toList).length)) ∧ Fr w' B 5 1 (.slice q' (n + (tput s.data.toList).length) (n + (tput s.data.toList).length)) (n + (tput s.data.toList).length) ((l ++ tput s.data.toList).map bv) ∧ Below w.heap.size w w':=by
 have hl:l.length = n:=by have:=hf.1;simpa using this
 refine (ptext_any q n n l s w hs hl (Nat.le_refl _) hm hf.rd ?_).mono ?_
 ·obtain ⟨a,c',h1,_,_,_,h2⟩:=hf.shape
  rw [Value.slice.injEq] at h1
  obtain ⟨rfl,_,rfl⟩:=h1
  exact fun e=>(h2 e).2
 ·rintro e w' ⟨q',h1,h2,h3⟩
  exact ⟨q',h1,h2.mono hB,h3⟩
structure Props.Ok (p:Props):Prop where
 line:p.line < 18446744073709551616
 many:p.many < 18446744073709551616
 low:p.low.size ≤ 100000
 high:p.high.size ≤ 100000
 least:p.least < 18446744073709551616
 greatest:p.greatest < 18446744073709551616
 early:p.early < 4294967296
 late:p.late < 4294967296
set_option maxRecDepth 100000 in
set_option maxHeartbeats 2000000 in
theorem pp_any (p:Props) (o:p.Ok) (w:World) :
  Calls Tryz.prog 50 #[.agg p.cells.toArray] w fun e w'=>∃ q,e = .returned (.slice q (ppB p).length (ppB p).length) ∧ Fr w' w.heap.size 5 1 (.slice q (ppB p).length (ppB p).length) (ppB p).length ((ppB p).map bv) ∧ Below w.heap.size w w':=by
 have hpp:ppB p = vput p.line ++ vput p.many ++ tput p.low.data.toList ++ tput p.high.data.toList ++ ([p.least,p.greatest,p.early,p.late].flatMap vput):=by simp [ppB]
 obtain ⟨R,hR⟩:∃ R,R = ppB p:=⟨_,rfl⟩
 rw [← hR] at hpp ⊢
 obtain ⟨line,many,low,high,least,greatest,early,late⟩:=p
 obtain ⟨o1,o2,o3,o4,o5,o6,o7,o8⟩:=o
 dsimp only at hpp o1 o2 o3 o4 o5 o6 o7 o8
 have HR:=hid hpp
 have v1:=(vput_len line).2
 have v2:=(vput_len many).2
 have t1:(tput low.data.toList).length ≤ 100010:=by rw [tput_len2,size_toList2];have:=(vput_len low.size).2;omega
 have t2:(tput high.data.toList).length ≤ 100010:=by rw [tput_len2,size_toList2];have:=(vput_len high.size).2;omega
 clear hpp hR
 unfold Props.cells
 dsimp only
 go_enter Tryz.func50,Tryz.ntmps50
 go_upto_region 1 with (fail)
 obtain ⟨P,hP⟩:∃ P,P = w.heap.size:=⟨_,rfl⟩
 have hba:(w.alloc (.cells #[.int .u64 (line:Int),.int .u64 (many:Int),.string low,.string high,.int .u64 (least:Int),.int .u64 (greatest:Int),.int .u32 (early:Int),.int .u32 (late:Int)] 49)).heap[w.heap.size]? = some (.cells #[.int .u64 (line:Int),.int .u64 (many:Int),.string low,.string high,.int .u64 (least:Int),.int .u64 (greatest:Int),.int .u32 (early:Int),.int .u32 (late:Int)] 49 (0,0)):=heap_alloc_new _ _
 generalize hwa:w.alloc (.cells #[.int .u64 (line:Int),.int .u64 (many:Int),.string low,.string high,.int .u64 (least:Int),.int .u64 (greatest:Int),.int .u32 (early:Int),.int .u32 (late:Int)] 49) = wa at hba
 have hBa:Below w.heap.size w wa:=by rw [← hwa];exact (Below.refl _ _).alloc (Nat.le_refl _) _
 have hPl:=lt_of_block hba
 have HS:Hid (∀ w',Below wa.heap.size wa w' → w'.cell? ⟨w.heap.size,0,none⟩ = some (.int .u64 (line:Int)) ∧ w'.cell? ⟨w.heap.size,1,none⟩ = some (.int .u64 (many:Int)) ∧ w'.cell? ⟨w.heap.size,2,none⟩ = some (.string low) ∧ w'.cell? ⟨w.heap.size,3,none⟩ = some (.string high) ∧ w'.cell? ⟨w.heap.size,4,none⟩ = some (.int .u64 (least:Int)) ∧ w'.cell? ⟨w.heap.size,5,none⟩ = some (.int .u64 (greatest:Int)) ∧ w'.cell? ⟨w.heap.size,6,none⟩ = some (.int .u32 (early:Int)) ∧ w'.cell? ⟨w.heap.size,7,none⟩ = some (.int .u32 (late:Int))):=hid fun w' hb=>by
  have h:=(hb.block _ hPl).trans hba
  exact ⟨(cell_of_row w' _ _ _ _ _ h).trans rfl,(cell_of_row w' _ _ _ _ _ h).trans rfl,(cell_of_row w' _ _ _ _ _ h).trans rfl,(cell_of_row w' _ _ _ _ _ h).trans rfl,(cell_of_row w' _ _ _ _ _ h).trans rfl,(cell_of_row w' _ _ _ _ _ h).trans rfl,(cell_of_row w' _ _ _ _ _ h).trans rfl,(cell_of_row w' _ _ _ _ _ h).trans rfl⟩
 have HBa:=hid hBa
 have hsa:=hBa.size
 clear hba hwa hBa hP
 have HV1:=hid (fun w'=>vput_any none 0 0 line [] w' o1 rfl (Nat.le_refl _) (by decide) (.inl rfl) (fun _=>rfl))
 simp only [Nat.zero_add,List.nil_append] at HV1
 obtain ⟨L1,hL1⟩:∃ L,L = (vput line).length:=⟨_,rfl⟩
 rw [← hL1] at HV1
 have hL1l:L1 ≤ 10:=by omega
 have HL1:=hid hL1
 clear hL1
 have HV2:=hid (fun (w':World) (q:Option Addr) (hb:Below wa.heap.size wa w') (hf:Fr w' w.heap.size 5 1 (.slice q L1 L1) L1 ((vput line).map bv))=>vput_step w.heap.size L1 many q (vput line) w' o2 hf (Nat.le_trans hL1l (by decide)) (Nat.le_trans hsa hb.size))
 have HD:=hid ((Below.refl wa.heap.size wa).drew)
 go_region_held3 (fun w'=>w'.cell? ⟨w.heap.size,0,none⟩ = some (.int .u64 (line:Int)) ∧ w'.cell? ⟨w.heap.size,1,none⟩ = some (.int .u64 (many:Int))) (first | exact ⟨(HS.out _ HD.out).1,(HS.out _ HD.out).2.1⟩ | exact ⟨(HS.out _ HBx.out).1,(HS.out _ HBx.out).2.1⟩ | exact ⟨(HS.out _ HBy.out).1,(HS.out _ HBy.out).2.1⟩) ((first
  | (go_at_call 46;(with_reducible refine (HV1.out _).mono ?_);rintro e w2 ⟨q1,rfl,hf1,hb1⟩;have HBx:=hid (HD.out.trans (hb1.mono (Nat.le_refl _)));have HF1:=hid (hf1.mono hsa);clear hf1 hb1)
  | (go_at_call 46;(with_reducible refine (HV2.out _ q1 HBx.out HF1.out).mono ?_);rintro e w3 ⟨q2,rfl,hf2,hb2⟩;have HBy:=hid (HBx.out.trans (hb2.mono HBx.out.size));have HF2:=hid hf2;clear hf2 hb2)))
 go_wp2_with fail
 obtain ⟨L2,hL2⟩:∃ L,L = L1 + (vput many).length:=⟨_,rfl⟩
 have hL2l:L2 ≤ 20:=by omega
 have hF2:=HF2.out
 rw [← hL2] at hF2 ⊢
 have HF2:=hid hF2
 clear hL2 hF2
 have hw3:w.heap.size ≤ w3.heap.size:=Nat.le_trans hsa HBy.out.size
 have HSy:=hid (fun w' (hb:Below w3.heap.size w3 w')=>HS.out w' (HBy.out.trans (hb.mono HBy.out.size)))
 have HDy:=hid ((Below.refl w3.heap.size w3).drew)
 have HT1:=hid (fun (w':World) (hb:Below w3.heap.size w3 w')=>ptext_step w.heap.size L2 q2 (vput line ++ vput many) low w' (by omega) (HF2.out.below hb) (Nat.le_trans hL2l (by decide)) (Nat.le_trans hw3 hb.size))
 have hlow:L2 + (tput low.data.toList).length ≤ 4194304:=by omega
 have HT2:=hid (fun (w':World) (q:Option Addr) (hb:Below w3.heap.size w3 w') (hf:Fr w' w.heap.size 5 1 (.slice q (L2 + (tput low.data.toList).length) (L2 + (tput low.data.toList).length)) (L2 + (tput low.data.toList).length) ((vput line ++ vput many ++ tput low.data.toList).map bv))=>ptext_step w.heap.size (L2 + (tput low.data.toList).length) q (vput line ++ vput many ++ tput low.data.toList) high w' (by omega) hf hlow (Nat.le_trans hw3 hb.size))
 go_region_held3 (fun w'=>w'.cell? ⟨w.heap.size,2,none⟩ = some (.string low) ∧ w'.cell? ⟨w.heap.size,3,none⟩ = some (.string high)) (first | exact ⟨(HSy.out _ HDy.out).2.2.1,(HSy.out _ HDy.out).2.2.2.1⟩ | exact ⟨(HSy.out _ HBu.out).2.2.1,(HSy.out _ HBu.out).2.2.2.1⟩ | exact ⟨(HSy.out _ HBv.out).2.2.1,(HSy.out _ HBv.out).2.2.2.1⟩) ((first
  | (go_at_call 91;(with_reducible refine (HT1.out _ HDy.out).mono ?_);rintro e w4 ⟨q3,rfl,hf3,hb3⟩;have HBu:=hid (HDy.out.trans (hb3.mono (Nat.le_refl _)));have HF3:=hid hf3;clear hf3 hb3)
  | (go_at_call 91;(with_reducible refine (HT2.out _ q3 HBu.out HF3.out).mono ?_);rintro e w5 ⟨q4,rfl,hf4,hb4⟩;have HBv:=hid (HBu.out.trans (hb4.mono HBu.out.size));have HF4:=hid hf4;clear hf4 hb4)))
 obtain ⟨L3,hL3⟩:∃ L,L = L2 + (tput low.data.toList).length + (tput high.data.toList).length:=⟨_,rfl⟩
 have hL3l:L3 ≤ 200040:=by omega
 have hF4:=HF4.out
 rw [← hL3] at hF4
 rw [← hL3]
 have HF4:=hid hF4
 obtain ⟨_,_,_,_,e4,e5,e6,e7⟩:=HSy.out _ HBv.out
 have HB5:=hid ((HBa.out.trans (HBy.out.mono hsa)).trans (HBv.out.mono (by have:=HBy.out.size;omega)))
 have hs5:=HB5.out.size
 obtain ⟨base,hbase⟩:∃ l,l = vput line ++ vput many ++ tput low.data.toList ++ tput high.data.toList:=⟨_,rfl⟩
 have HR2:=HR.out
 rw [← hbase] at HR2
 have hF4:=HF4.out
 rw [← hbase] at hF4
 have hbl:base.length = L3:=by have:=hF4.1;simpa using this
 obtain ⟨nums,hnums⟩:∃ l:List Nat,l = [least,greatest,early,late]:=⟨_,rfl⟩
 rw [← hnums] at HR2
 have hno:∀ j,(h:j < nums.length) → nums[j] < 18446744073709551616:=by
  rw [hnums];intro j h
  match j,h with
  | 0,_=>exact o5
  | 1,_=>exact o6
  | 2,_=>simp;omega
  | 3,_=>simp;omega
 have hnl:nums.length = 4:=by rw [hnums];rfl
 have hnc:∀ w',Below (w5.heap.size + 1) (w5.alloc (.cells #[.int .u64 (least:Int),.int .u64 (greatest:Int),.int .u64 (early:Int),.int .u64 (late:Int)] 24)) w' → ∀ j,(h:j < nums.length) → w'.cell? ⟨w5.heap.size,j,none⟩ = some (.int .u64 (nums[j]:Int)):=by
  intro w' hb j h
  have hh:=(hb.block w5.heap.size (by omega)).trans (heap_alloc_new w5 _)
  rw [cell_of_row _ _ _ _ _ _ hh]
  subst hnums
  match j,h with
  | 0,_=>rfl
  | 1,_=>rfl
  | 2,_=>rfl
  | 3,_=>rfl
 have HFf:=hid hF4
 have HRR:=hid HR2
 have Hno:=hid hno
 have Hnl:=hid hnl
 have Hnc:=hid hnc
 have Hbl:=hid hbl
 have z1:(early:Int) % 18446744073709551616 = (early:Int):=by omega
 have z2:(late:Int) % 18446744073709551616 = (late:Int):=by omega
 clear hL3 hF4 HR2 hbase hnums hno hnl hnc hbl
 go_wp2_with fail
 clear z1 z2 e4 e5 e6 e7
 go_loopw [3,31] (fun v i wr=>∃ (k:Nat) (q:Option Addr) (M:Nat),k ≤ 4 ∧ i = .int .i64 (k:Int) ∧ v = .slice q M M ∧ M = L3 + ((nums.take k).flatMap vput).length ∧ Fr wr w.heap.size 5 1 (.slice q M M) M ((base ++ (nums.take k).flatMap vput).map bv) ∧
   Below (w5.heap.size + 1) (w5.alloc (.cells #[.int .u64 (least:Int),.int .u64 (greatest:Int),.int .u64 (early:Int),.int .u64 (late:Int)] 24)) wr) (fun _ i _=>4 - (intOf i).toNat)
 case atStart=>exact ⟨0,q4,L3,by omega,rfl,rfl,by simp,by simpa using HFf.out.below ((Below.refl _ _).alloc (Nat.le_refl _) _),Below.refl _ _⟩
 case round =>
  obtain ⟨k,q,M,hk,rfl,rfl,hM,hf,hB⟩:=hrel
  have Hf:=hid hf
  have HB:=hid hB
  have hbs:=hB.size
  rw [World.size_alloc] at hbs
  have hMl:M ≤ 200100:=by
   rw [hM]
   have:((nums.take k).flatMap vput).length ≤ 40:=by
    have h1:=flat_vput (nums.take k)
    have h2:(nums.take k).length ≤ 4:=by rw [List.length_take];omega
    omega
   omega
  have HM:=hid hM
  clear hf hB hM
  by_cases hlt:k < 4
  ·have hkl:k < nums.length:=by rw [Hnl.out];exact hlt
   have hc:=Hnc.out _ HB.out k hkl
   have hno:=Hno.out k hkl
   obtain ⟨N,hN⟩:∃ N,N = nums[k]:=⟨_,rfl⟩
   rw [← hN] at hc hno
   have HN:=hid hN
   have i0:(0:Int) ≤ (k:Int):=by omega
   have i1:(k:Int) < 4:=by omega
   clear hN
   go_wp2_with fail
   refine (vput_step w.heap.size M N q (base ++ (nums.take k).flatMap vput) wr hno Hf.out (by omega) (by omega)).mono ?_
   rintro e w6 ⟨q6,rfl,hf6,hb6⟩
   have HF6:=hid hf6
   have HB6:=hid (HB.out.trans (hb6.mono hbs))
   clear hf6 hb6 hc
   go_wp2_with fail
   go_roundw
   case rel =>
    refine ⟨k + 1,q6,M + (vput N).length,by omega,by go_num,rfl, ?_, ?_,HB6.out⟩
    ·rw [List.take_succ_eq_append_getElem hkl,← HN.out,List.flatMap_append,List.length_append,HM.out];simp;omega
    ·rw [List.take_succ_eq_append_getElem hkl,← HN.out,List.flatMap_append,← List.append_assoc];simpa using HF6.out
   case measure=>simp [intOf];omega
  ·obtain rfl:k = 4:=by omega
   have htk:nums.take 4 = nums:=List.take_of_length_le (by rw [Hnl.out];exact Nat.le_refl _)
   have hf:=Hf.out
   have hM:=HM.out
   rw [htk] at hf hM
   rw [← HRR.out] at hf
   have hRl:R.length = M:=by rw [HRR.out,List.length_append,hM,Hbl.out]
   have HRl:=hid hRl
   have Hf2:=hid hf
   clear hf hM htk hRl
   go_wp2_with fail
   go_ret
   refine ⟨q,by rw [HRl.out];rfl,by rw [HRl.out];exact Hf2.out,(HB5.out.alloc hs5 _).trans (HB.out.mono (by omega))⟩
end Go.Proofs.Herb
namespace Go.Proofs.Herb
open Go.RowKit Go.Shelf
def laysLay_ren:Go.Shelf.Ren:=⟨fun | 194=>93 | n=>n,fun | 31=>51 | 9=>9 | 3=>3 | 4=>4 | 0=>0 | n=>n,fun | n=>n⟩
theorem laysLay:Go.Proofs.Lays.n194 Tryz.prog laysLay_ren := {
 mixed:=by kernel_rfl
 f194:=Tryz.func93.trans (congrArg some (by kernel_rfl))
 t0:=Tryz.underlying0
 a0:=Tryz.isAgg0
 z0:=Tryz.sizeOf0
 v0:=Tryz.zeroValue0
 t3:=Tryz.underlying3
 a3:=Tryz.isAgg3
 z3:=Tryz.sizeOf3
 v3:=Tryz.zeroValue3
 t4:=Tryz.underlying4
 a4:=Tryz.isAgg4
 z4:=Tryz.sizeOf4
 v4:=Tryz.zeroValue4
 t9:=Tryz.underlying9
 a9:=Tryz.isAgg9
 z9:=Tryz.sizeOf9
 v9:=Tryz.zeroValue9
 t31:=Tryz.underlying51
 a31:=Tryz.isAgg51
 z31:=Tryz.sizeOf51
 v31:=Tryz.zeroValue51 }
theorem compact_cells (b off n c:Nat) (Sx:Nat → ByteArray) (w:World) (hbig:n ≤ 9223372036854775807) (hcap:n ≤ c) (hc:∀ i,i < n → w.cell? ⟨b,off + i,none⟩ = some (.string (Sx i))) (hf:∀ j,j < n → w.frozen? ⟨b,off + j,none⟩ = false) :
  Calls Tryz.prog 93 #[.slice (some ⟨b,off,none⟩) n c] w fun e w'=>e = .returned (.slice (some ⟨b,off,none⟩) (Lib.compact (Lib.strsOf Sx n)).length c) ∧ ∃ q,w' = (w.drewN q).setCells b off ((Lib.compact (Lib.strsOf Sx n) ++ List.replicate (n - (Lib.compact (Lib.strsOf Sx n)).length) []).map Go.Proofs.encStr):=Any.slices_Compact_string_cells laysLay b off n c Sx w hbig hcap hc hf
theorem infoStr:(Tryz.prog.info? 9).map (fun i=>(i.zero,i.size,i.bytes)) = some (some (.string ⟨#[]⟩),1,16):=by kernel_rfl
theorem below_setCells {b0 b:Nat} {A:World} (hb:b0 ≤ b):∀ (vs:List Value) (o:Nat) (W:World),Below b0 A W → Below b0 A (W.setCells b o vs)
 | [],_,_,h=>h
 | v :: r,o,_,h=>below_setCells hb r (o + 1) _ (h.setCell (p:=⟨b,o,none⟩) hb v)
theorem rd_new2 {w:World} {cs:List Value} {e:TypeId} {g:Nat} (h:g = w.heap.size):Rd (w.alloc (.cells cs.toArray e)) (some ⟨g,0,none⟩) cs:=by subst h;exact Rd.new w cs e
def strV (l:List UInt8):Value:=.string ⟨l.toArray⟩
def namesF (fs:List Fact):List (List UInt8):=Lib.compact (fs.map fun f=>f.key.data.toList)
set_option maxRecDepth 100000 in
set_option maxHeartbeats 1000000 in
theorem names_any (q:Option Addr) (n c:Nat) (fs:List Fact) (w:World) (hn:fs.length = n) (h0:0 < n) (hm:n ≤ 24000) (hr:Rd w q (fCells fs)) :
  Calls Tryz.prog 49 #[.slice q n c] w fun e w'=>∃ p d,e = .returned (.slice p (namesF fs).length d) ∧ (namesF fs).length ≤ n ∧ Rd w' p ((namesF fs).map strV) ∧ Below w.heap.size w w':=by
 have Hn:=hid hn
 have Hr:=hid hr
 clear hn hr
 go_enter Tryz.func49,Tryz.ntmps49
 go_wp2_with fail
 go_loopw [2,7] (fun v i wr=>∃ (k:Nat) (p:Option Addr) (d:Nat),k ≤ n ∧ i = .int .i64 (k:Int) ∧ v = .slice p k d ∧ wr.ownsRow w.heap.size 9 1 (.slice p k d) k ((fs.take k).map fun f=>.string f.key) ∧ Below w.heap.size w wr) (fun _ i _=>n - (intOf i).toNat)
 case atStart=>exact ⟨0,none,0,Nat.zero_le _,rfl,rfl,World.ownsRow_nil _ _ _ _,Below.refl _ _⟩
 case round =>
  obtain ⟨k,p,d,hk,rfl,rfl,hown,hB⟩:=hrel
  have Hown:=hid hown
  have HB:=hid hB
  have hbs:=hB.size
  clear hown hB
  by_cases hlt:k < n
  ·have hkl:k < fs.length:=by rw [Hn.out];exact hlt
   obtain ⟨bq,off,rfl,hbq,hfa⟩:=fact_at (Hr.out.below HB.out) hkl
   obtain ⟨f,hf⟩:∃ f,f = fs[k]:=⟨_,rfl⟩
   rw [← hf] at hfa
   have Hf:=hid hf
   clear hf
   obtain ⟨key,valid,seq,fl,kind,val⟩:=f
   obtain ⟨a0,a1,a2,a3,a4,a5⟩:=hfa
   dsimp only at a0 a1 a2 a3 a4 a5
   have i0:(0:Int) ≤ (k:Int):=by omega
   have i1:(k:Int) < (n:Int):=by omega
   go_wp2_with (refine wpList_append_src rfl (.tmp 11) (.tmp 14) 51 51 rfl w.heap.size 9 (.string ⟨#[]⟩) 1 16 Tryz.underlying51 infoStr rfl (by decide) p k d _ rfl (own_below Hown.out (((Below.refl _ _).alloc (Nat.le_refl _) _).alloc (by simp) _)) _ 1 [.string key] rfl (src_rd (by decide) Tryz.underlying51 1 rfl (rd_new2 (by simp)) (by simp [Value.oneCell'])) (by unfold maxLen;omega) (by omega) (by simp;omega) ?_;intro q' c' w6 hown6 hg6 _;have P6:=hid (And.intro hown6 hg6);clear hown6 hg6)
   obtain ⟨hown6,hg6⟩:=P6.out
   go_roundw
   case rel =>
    refine ⟨k + 1,q',c',by omega,by go_num,rfl, ?_,((HB.out.alloc hbs _).alloc (by simp;omega) _).grown hg6 (by simp;omega) (fun g hg=>(Hown.out.lt g hg).1)⟩
    rw [List.take_succ_eq_append_getElem hkl,List.map_append,← Hf.out]
    exact hown6
   case measure=>simp [intOf];omega
  ·obtain rfl:k = n:=by omega
   have htk:fs.take k = fs:=List.take_of_length_le (by rw [Hn.out];exact Nat.le_refl _)
   have hown:=Hown.out
   rw [htk] at hown
   obtain ⟨_,c2,he,hcl,hcm,hrd,_⟩:=(Fr.of_own hown).shape
   rw [Value.slice.injEq] at he
   obtain ⟨rfl,_,rfl⟩:=he
   obtain ⟨b',off',rfl,_⟩:=hrd.cell (k:=0) (by rw [List.length_map,Hn.out];exact h0)
   obtain ⟨Sx,hSx⟩:∃ Sx:Nat → ByteArray,Sx = fun i=>((fs[i]?).map (·.key)).getD ⟨#[]⟩:=⟨_,rfl⟩
   have hSi:∀ i,(h:i < fs.length) → Sx i = fs[i].key:=fun i h=>by rw [hSx];simp [List.getElem?_eq_getElem h]
   have hcells:∀ i,i < k → wr.cell? ⟨b',off' + i,none⟩ = some (.string (Sx i)):=fun i hi=>by
    have hil:i < fs.length:=by rw [Hn.out];exact hi
    obtain ⟨b2,o2,e,h⟩:=hrd.cell (k:=i) (by rw [List.length_map];exact hil)
    cases e
    rw [h,hSi i hil];simp
   have hstr:Lib.strsOf Sx k = fs.map fun f=>f.key.data.toList:=by
    unfold Lib.strsOf
    apply List.ext_getElem
    ·simp [Hn.out]
    ·intro i h1 h2
     simp only [List.length_map,List.length_range] at h1
     simp only [List.getElem_map,List.getElem_range]
     rw [hSi i (by rw [Hn.out];exact h1)]
   have hfz:∀ j,j < k → wr.frozen? ⟨b',off' + j,none⟩ = false:=by
    intro j _
    rcases hown.2 with ⟨h,_⟩ | ⟨g,cap,cur,hv,_,hh,_⟩
    ·cases h
    ·rw [Value.slice.injEq] at hv
     obtain ⟨hv,_⟩:=hv
     cases hv
     exact frozen_of_row _ _ _ _ _ hh
   have hC:=compact_cells b' off' k d Sx wr (by omega) hcl hcells hfz
   rw [hstr] at hC
   have hbw:w.heap.size ≤ b':=(hown.lt b' rfl).1
   have hNl:(namesF fs).length ≤ k:=by
    have:(Lib.compact (fs.map fun f=>f.key.data.toList)).length ≤ (fs.map fun f=>f.key.data.toList).length:=Lib.compact_length_le _
    rw [List.length_map,Hn.out] at this
    exact this
   have hsome:∀ j,j < k → (wr.cell? ⟨b',off' + j,none⟩).isSome = true:=fun j hj=>by rw [hcells j hj];rfl
   generalize hvs:(Lib.compact (fs.map fun f:Fact=>f.key.data.toList) ++ List.replicate (k - (Lib.compact (fs.map fun f:Fact=>f.key.data.toList)).length) []).map Go.Proofs.encStr = VS at hC
   have hvl:VS.length = k:=by
    rw [← hvs]
    simp only [List.length_map,List.length_append,List.length_replicate]
    unfold namesF at hNl
    omega
   have hvg:∀ j,j < (namesF fs).length → VS[j]? = ((namesF fs).map strV)[j]?:=fun j hj=>by
    rw [← hvs,List.getElem?_map,List.getElem?_append_left (by unfold namesF at hj;exact hj),List.getElem?_map]
    rfl
   have hC2:Calls Tryz.prog 93 #[.slice (some ⟨b',off',none⟩) k d] wr fun e w'=>e = .returned (.slice (some ⟨b',off',none⟩) (namesF fs).length d) ∧ ∃ q,w' = (wr.drewN q).setCells b' off' VS:=hC
   obtain ⟨M,hM⟩:∃ M,M = (namesF fs).length:=⟨_,rfl⟩
   rw [← hM] at hC2 hNl hvg
   have HC:=hid hC2
   have HS:=hid hsome
   have HM:=hid hM
   have HVL:=hid hvl
   have HVG:=hid hvg
   clear hC hC2 hsome hcells hstr hSi hSx hfz hrd hown htk hvs hvl hvg hM
   go_wp2_with fail
   refine HC.out.mono ?_
   rintro e w2 ⟨rfl,m,rfl⟩
   go_wp2_with fail
   go_ret
   refine ⟨_,_,by rw [← HM.out];rfl,by rw [← HM.out];exact hNl,.inr ⟨b',off',rfl,fun j u hu => ?_⟩,below_setCells hbw _ _ _ (below_drewN HB.out _)⟩
   have hj:j < M:=by have:=(List.getElem?_eq_some_iff.1 hu).1;rw [HM.out];simpa using this
   have hjv:j < VS.length:=by rw [HVL.out];omega
   rw [World.cell?_setCells_in b' VS off' (wr.drewN m) (fun i hi=>HS.out i (by rw [HVL.out] at hi;exact hi)) j hjv,← hu,← HVG.out j hj,List.getElem?_eq_getElem hjv]
end Go.Proofs.Herb
namespace Go.Proofs.Herb
open Ieee
def fl (n:Int):Nat:=double.nearest (decide (n < 0)) n.natAbs 0
theorem log2_scale (n k:Nat) (h:n ≠ 0):(n * 2 ^ k).log2 = n.log2 + k:=by
 have h2:0 < 2 ^ k:=Nat.two_pow_pos k
 refine (Nat.log2_eq_iff (by have:=Nat.mul_pos (Nat.pos_of_ne_zero h) h2;omega)).2 ?_
 have h1:=(Nat.log2_eq_iff h).1 rfl
 refine ⟨?_, ?_⟩
 ·rw [Nat.pow_add];exact Nat.mul_le_mul_right _ h1.1
 ·rw [show n.log2 + k + 1 = (n.log2 + 1) + k by omega,Nat.pow_add];exact Nat.mul_lt_mul_of_pos_right h1.2 h2
theorem cut_exact (way:Toward) (s:Bool) (n d:Nat):way.cut s (n * 2 ^ d) d = n:=by
 have h2:0 < 2 ^ d:=Nat.two_pow_pos d
 unfold Toward.cut
 by_cases h:n = 0
 ·subst h
  have hg:0 < 1 <<< min d ((0:Nat).log2 + 2):=by rw [Nat.one_shiftLeft];exact Nat.two_pow_pos _
  simp only [Nat.zero_mul,Nat.zero_div,Nat.zero_mod,Nat.mul_zero,Nat.zero_add]
  cases way <;> simp <;> omega
 ·rw [log2_scale n d h,Nat.min_eq_left (by omega),Nat.one_shiftLeft]
  dsimp only
  rw [Nat.mul_div_cancel _ h2,Nat.mul_mod_left]
  cases way <;> simp <;> omega
theorem cut_none (way:Toward) (s:Bool) (n:Nat):way.cut s n 0 = n:=by
 have:=cut_exact way s n 0
 rwa [Nat.pow_zero,Nat.mul_one] at this
def rungOf (n:Nat):Nat:=(1022 + n.log2) * 2 ^ 52 + n * 2 ^ (52 - n.log2)
theorem rung_bd (n:Nat) (h:n ≠ 0) (hn:n < 2 ^ 53):n.log2 ≤ 52 ∧ 2 ^ 52 ≤ n * 2 ^ (52 - n.log2) ∧ n * 2 ^ (52 - n.log2) < 2 ^ 53:=by
 have h1:=(Nat.log2_eq_iff h).1 rfl
 have hl:n.log2 ≤ 52:=by
  have:n.log2 < 53:=(Nat.log2_lt h).2 hn
  omega
 refine ⟨hl, ?_, ?_⟩
 ·have h3:(2:Nat) ^ 52 = 2 ^ n.log2 * 2 ^ (52 - n.log2):=by rw [← Nat.pow_add];congr 1;omega
  rw [h3];exact Nat.mul_le_mul_right _ h1.1
 ·have h3:(2:Nat) ^ 53 = 2 ^ (n.log2 + 1) * 2 ^ (52 - n.log2):=by rw [← Nat.pow_add];congr 1;omega
  rw [h3];exact Nat.mul_lt_mul_of_pos_right h1.2 (Nat.two_pow_pos _)
theorem nearest_val (s:Bool) (n k:Nat) (h:n ≠ 0) (hn:n < 2 ^ 53):double.nearest s (n * 2 ^ k) (-(k:Int)) = double.word s (rungOf n):=by
 obtain ⟨hl,hlo,hhi⟩:=rung_bd n h hn
 have hm:n * 2 ^ k ≠ 0:=by have:=Nat.mul_pos (Nat.pos_of_ne_zero h) (Nat.two_pow_pos k);omega
 have hlp:double.leastPlace = -1074:=by decide
 have hfb:double.fractionBits = 52:=rfl
 have hbi:double.binade = 2 ^ 52:=rfl
 have hinf:double.infRung = 2047 * 2 ^ 52:=by decide
 unfold Format.nearest
 rw [if_neg hm,log2_scale n k h,hlp,hfb,hbi,hinf]
 have hlast:max (-(k:Int) + ((n.log2 + k:Nat):Int) - ((52:Nat):Int)) (-1074) = (n.log2:Int) - 52:=by omega
 rw [hlast]
 have hc:Toward.even.cut s ((n * 2 ^ k) <<< (-(k:Int) - ((n.log2:Int) - 52)).toNat) ((n.log2:Int) - 52 - -(k:Int)).toNat = n * 2 ^ (52 - n.log2):=by
  rw [Nat.shiftLeft_eq]
  by_cases hk:k ≤ 52 - n.log2
  ·rw [show ((n.log2:Int) - 52 - -(k:Int)).toNat = 0 by omega,cut_none,Nat.mul_assoc,← Nat.pow_add]
   congr 2;omega
  ·rw [show (-(k:Int) - ((n.log2:Int) - 52)).toNat = 0 by omega,Nat.pow_zero,Nat.mul_one]
   have e:n * 2 ^ k = (n * 2 ^ (52 - n.log2)) * 2 ^ ((n.log2:Int) - 52 - -(k:Int)).toNat:=by
    rw [Nat.mul_assoc,← Nat.pow_add];congr 2;omega
   rw [e,cut_exact]
 simp only [hc]
 have ht:((n.log2:Int) - 52 - -1074).toNat = 1022 + n.log2:=by omega
 rw [ht,Nat.min_eq_left]
 ·rfl
 ·omega
theorem fl_zero:fl 0 = 0:=by decide
theorem fl_val (n:Int) (h:n ≠ 0) (hn:n.natAbs < 2 ^ 53):fl n = double.word (decide (n < 0)) (rungOf n.natAbs):=by
 have:=nearest_val (decide (n < 0)) n.natAbs 0 (by omega) hn
 rw [Nat.pow_zero,Nat.mul_one] at this
 exact this
theorem write_fl (n:Int) (k:Nat) (hn:n.natAbs < 2 ^ 53):double.write (.number (decide (n < 0)) (n.natAbs * 2 ^ k) (-(k:Int))) = fl n:=by
 show double.nearest _ _ _ = _
 by_cases h:n = 0
 ·subst h
  rw [fl_zero];unfold Format.nearest;rw [if_pos (by simp)];rfl
 ·rw [fl_val n h hn,nearest_val _ _ _ (by omega) hn]
theorem read_word (s:Bool) (n:Nat) (h:n ≠ 0) (hn:n < 2 ^ 53):double.read (double.word s (rungOf n)) = .number s (n * 2 ^ (52 - n.log2)) (-((52 - n.log2:Nat):Int)):=by
 obtain ⟨hl,hlo,hhi⟩:=rung_bd n h hn
 have hlp:double.leastPlace = -1074:=by decide
 have hbi:double.binade = 2 ^ 52:=rfl
 have hinf:double.infRung = 2047 * 2 ^ 52:=by decide
 have hsw:double.signWeight = 2 ^ 63:=rfl
 generalize hM:n * 2 ^ (52 - n.log2) = M at hlo hhi
 have hr:rungOf n = (1022 + n.log2) * 2 ^ 52 + M:=by unfold rungOf;rw [hM]
 have hlt:rungOf n < 2 ^ 63:=by rw [hr];omega
 have hneg:(double.word s (rungOf n) / double.signWeight % 2 == 1) = s:=by
  unfold Format.word;rw [hsw]
  cases s
  ·simp only [Bool.false_eq_true,if_false];rw [Nat.div_eq_of_lt hlt];rfl
  ·simp only [if_true];rw [show (2 ^ 63 + rungOf n) / 2 ^ 63 = 1 by omega];rfl
 have hrung:double.word s (rungOf n) % double.signWeight = rungOf n:=by
  unfold Format.word;rw [hsw]
  cases s
  ·simp only [Bool.false_eq_true,if_false];omega
  ·simp only [if_true];omega
 unfold Format.read
 simp only [hneg,hrung]
 rw [hbi,hinf,if_neg (by omega),if_pos (by omega),hlp]
 congr 1
 ·omega
 ·omega
theorem read_fl (n:Int) (hn:n.natAbs < 2 ^ 53):∃ k:Nat,double.read (fl n) = .number (decide (n < 0)) (n.natAbs * 2 ^ k) (-(k:Int)):=by
 by_cases h:n = 0
 ·subst h;exact ⟨1074,by decide +kernel⟩
 ·rw [fl_val n h hn]
  exact ⟨_,read_word _ _ (by omega) hn⟩
theorem signed_fl (n:Int) (k up:Nat):signed (decide (n < 0)) (n.natAbs * 2 ^ k) up = n * 2 ^ (k + up):=by
 unfold signed
 rw [Nat.shiftLeft_eq,Nat.mul_assoc,← Nat.pow_add]
 by_cases h:n < 0
 ·have e:(n.natAbs:Int) = -n:=by omega
  simp only [h,decide_true,if_true]
  rw [Int.natCast_mul,e,Int.natCast_pow,Int.neg_mul,Int.neg_neg];rfl
 ·have e:(n.natAbs:Int) = n:=by omega
  simp only [h,decide_false,Bool.false_eq_true,if_false]
  rw [Int.natCast_mul,e,Int.natCast_pow];rfl
theorem mul_fl (a b:Int) (hb:0 < b) (ha:a.natAbs < 2 ^ 53) (hb2:b.natAbs < 2 ^ 53) (hab:(a * b).natAbs < 2 ^ 53):floatBits .mul .f64 (fl a) (fl b) = some (fl (a * b)):=by
 obtain ⟨k,hk⟩:=read_fl a ha
 obtain ⟨l,hl⟩:=read_fl b hb2
 show double.mul _ _ = _
 unfold Format.mul
 rw [hk,hl]
 show some (double.write (.number _ _ _)) = _
 rw [← write_fl (a * b) (k + l) hab]
 congr 3
 ·have e:decide (b < 0) = false:=by simp;omega
  rw [e,Bool.xor_false]
  by_cases h:a < 0
  ·have:=Int.mul_neg_of_neg_of_pos h hb
   simp [h,this]
  ·have:=Int.mul_nonneg (a:=a) (b:=b) (by omega) (by omega)
   simp [h];omega
 ·rw [Int.natAbs_mul,Nat.pow_add];simp only [Nat.mul_assoc];congr 1;rw [Nat.mul_left_comm]
 ·omega
theorem pow2_pos (n:Nat):(0:Int) < 2 ^ n:=Int.pow_pos (by omega)
theorem total_fl (a:Int) (m:Nat):(a * 2 ^ m = 0 ↔ a = 0) ∧ (a * 2 ^ m < 0 ↔ a < 0) ∧ (a * 2 ^ m).natAbs = a.natAbs * 2 ^ m:=by
 have hp:=pow2_pos m
 refine ⟨⟨fun h => ?_,fun h=>by rw [h,Int.zero_mul]⟩,⟨fun h => ?_,fun h=>Int.mul_neg_of_neg_of_pos h hp⟩, ?_⟩
 ·rcases Int.mul_eq_zero.1 h with h | h
  ·exact h
  ·omega
 ·rcases Int.lt_or_le a 0 with g | g
  ·exact g
  ·have:=Int.mul_nonneg g (Int.le_of_lt hp);omega
 ·rw [Int.natAbs_mul];congr 1
theorem add_fl (a b:Int) (ha:a.natAbs < 2 ^ 53) (hb:b.natAbs < 2 ^ 53) (hab:(a + b).natAbs < 2 ^ 53):floatBits .add .f64 (fl a) (fl b) = some (fl (a + b)):=by
 obtain ⟨k,hk⟩:=read_fl a ha
 obtain ⟨l,hl⟩:=read_fl b hb
 show double.add _ _ = _
 unfold Format.add
 rw [hk,hl]
 simp only [Datum.sum,signed_fl,Option.map_some]
 generalize hm:max k l = m
 have e1:min (-(k:Int)) (-(l:Int)) = -(m:Int):=by omega
 have e2:k + (-(k:Int) - -(m:Int)).toNat = m:=by omega
 have e3:l + (-(l:Int) - -(m:Int)).toNat = m:=by omega
 rw [e1,e2,e3,← Int.add_mul]
 obtain ⟨t1,t2,t3⟩:=total_fl (a + b) m
 rw [t3]
 have es:(if (a + b) * 2 ^ m = 0 then (decide (a < 0) && decide (b < 0)) else decide ((a + b) * 2 ^ m < 0)) = decide (a + b < 0):=by
  by_cases h:a + b = 0
  ·rw [if_pos (t1.2 h)]
   by_cases h1:a < 0
   ·have h2:¬ b < 0:=by omega
    simp [h2];omega
   ·simp [h1];omega
  ·rw [if_neg (fun g=>h (t1.1 g))];simp [t2]
 rw [es,write_fl (a + b) m hab]
theorem sub_fl (a b:Int) (ha:a.natAbs < 2 ^ 53) (hb:b.natAbs < 2 ^ 53) (hab:(a - b).natAbs < 2 ^ 53):floatBits .sub .f64 (fl a) (fl b) = some (fl (a - b)):=by
 obtain ⟨k,hk⟩:=read_fl a ha
 obtain ⟨l,hl⟩:=read_fl b hb
 show double.sub _ _ = _
 unfold Format.sub
 rw [hk,hl]
 have hopp:∀ up,signed (!decide (b < 0)) (b.natAbs * 2 ^ l) up = (-b) * 2 ^ (l + up):=by
  intro up
  rw [Int.neg_mul,← signed_fl b l up]
  unfold signed
  cases decide (b < 0) <;> simp
 simp only [Datum.opposite,Datum.sum,signed_fl,hopp,Option.map_some]
 generalize hm:max k l = m
 have e1:min (-(k:Int)) (-(l:Int)) = -(m:Int):=by omega
 have e2:k + (-(k:Int) - -(m:Int)).toNat = m:=by omega
 have e3:l + (-(l:Int) - -(m:Int)).toNat = m:=by omega
 rw [e1,e2,e3,← Int.add_mul,← Int.sub_eq_add_neg]
 obtain ⟨t1,t2,t3⟩:=total_fl (a - b) m
 rw [t3]
 have es:(if (a - b) * 2 ^ m = 0 then (decide (a < 0) && !decide (b < 0)) else decide ((a - b) * 2 ^ m < 0)) = decide (a - b < 0):=by
  by_cases h:a - b = 0
  ·rw [if_pos (t1.2 h)]
   have h0:a = b:=by omega
   subst h0
   simp
  ·rw [if_neg (fun g=>h (t1.1 g))];simp [t2]
 rw [es,write_fl (a - b) m hab]
theorem int_fl (n:Int) (hn:n.natAbs < 2 ^ 53):floatToIntVal .f64 (fl n) .i64 = some n:=by
 obtain ⟨k,hk⟩:=read_fl n hn
 unfold floatToIntVal
 have e:(FloatKind.f64.decode (fl n)).toInt .zero = some n:=by
  show (double.read (fl n)).toInt .zero = _
  rw [hk]
  simp only [Datum.toInt,Datum.integral]
  rw [show (-(k:Int)).toNat = 0 by omega,show (- -(k:Int)).toNat = k by omega,Nat.shiftLeft_zero,cut_exact]
  have:=signed_fl n 0 0
  rw [Nat.pow_zero,Nat.mul_one] at this
  rw [this];simp
 rw [e]
 have h1:IntKind.i64.min = -9223372036854775808:=rfl
 have h2:IntKind.i64.max = 9223372036854775807:=rfl
 simp only [h1,h2]
 rw [if_pos (by omega)]
theorem nearest_fl (n:Int):FloatKind.f64.nearest n = fl n:=rfl
theorem turn_fl (a b:Int) (ha:a.natAbs < 2 ^ 40) (hb:b.natAbs < 2 ^ 40):cMulBits (fl a) (fl b) (fl 2) (fl 1) = some (fl (2 * a - b),fl (a + 2 * b)):=by
 unfold cMulBits
 rw [mul_fl a 2 (by omega) (by omega) (by omega) (by omega),Option.bind_some,mul_fl b 1 (by omega) (by omega) (by omega) (by omega),Option.bind_some,sub_fl (a * 2) (b * 1) (by omega) (by omega) (by omega),Option.bind_some,
  mul_fl a 1 (by omega) (by omega) (by omega) (by omega),Option.bind_some,mul_fl b 2 (by omega) (by omega) (by omega) (by omega),Option.bind_some,add_fl (a * 1) (b * 2) (by omega) (by omega) (by omega),Option.bind_some]
 rw [show a * 2 - b * 1 = 2 * a - b by omega,show a * 1 + b * 2 = a + 2 * b by omega]
end Go.Proofs.Herb
