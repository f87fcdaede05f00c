/- The contracts of the laws' copied and kept at bytes, of TwinBytes and LeftBytes. For slices that can be read, of 2^47 bytes at most. The contracts of the reference's More and Of (sums). For slices that can be read. -/
import Derived.WalkLawsBesides
import Derived.WalkSpells
import Derived.Outline
import Derived.Deep.LoopGhost
import Derived.Deep.QuietTactic
import Derived.Deep.DeepCutAuto
import Derived.BigQuiet
import Derived.Test.YtbaohpnfiacchaaGreatDoorProg
import Derived.Test.YtbaohpnfiacchaaGreatDoorQb01
import Derived.Test.YtbaohpnfiacchaaGreatDoorQb07
namespace Go.Proofs.Herb
open Go.RowKit
set_option maxRecDepth 100000 in
set_option maxHeartbeats 400000 in
theorem copied_bytes (a:Option Addr) (n c:Nat) (m:UInt8) (l:List UInt8) (w:World) (hn:l.length = n) (hm:n ≤ 140737488355328) (hr:Rd w a (l.map bv)) :
  Calls Tryz.prog 20 #[.slice a n c,.int .u8 (m.toNat:Int)] w fun e w'=>∃ g,e = .returned (.slice (some ⟨g,0,none⟩) n (n + 2)) ∧ w.heap.size ≤ g ∧ w'.heap[g]? = some (.cells ((l ++ [m,m]).map bv).toArray 5 (0,0)) ∧ Below w.heap.size w w':=by
 have Hn:=hid hn
 have Hr:=hid hr
 clear hn hr
 obtain ⟨i0,hi,hz0,hz1,hz2⟩:=info_parts infoU8
 go_enter Tryz.func20,Tryz.ntmps20
 go_wp2_with (at_make;refine wpList_make_full _ rfl (.tmp 9) (.tmp 9) 22 rfl w.heap.size 5 i0 (.int .u8 0) 1 Tryz.underlying22 hi hz0 hz1 _ _ _ _ (n + 2) rfl rfl (by omega) (by omega) (by rw [hz2];omega) (by unfold maxLen;omega) (Nat.le_refl _) ?_;intro w1 hown hg)
 have hz:=hg.size
 have hB:Below w.heap.size w w1:=(Below.refl _ _).grown hg (Nat.le_refl _) (fun k e=>by cases e)
 have hcur:∃ cur,w1.heap[w.heap.size]? = some (.cells cur 5 (0,0)) ∧ cur.size = n + 2:=by
  rcases hown.2 with ⟨e,_⟩ | ⟨g,cap,cur,e,_,hh,_,_,hs,_⟩
  ·cases e
  ·simp at e;obtain ⟨rfl,rfl⟩:=e;exact ⟨cur,hh,by omega⟩
 clear hown hg
 have hlen:((l ++ [m,m]).map bv).length = n + 2:=by have:=Hn.out;simp;omega
 have Hlen:=hid hlen
 clear hlen
 go_loopw [6] (fun i wr=>∃ k:Nat,k ≤ n + 2 ∧ i = .int .i64 k ∧ ∃ cur,wr.heap[w.heap.size]? = some (.cells cur 5 (0,0)) ∧ cur.size = n + 2 ∧ (∀ j,j < k → cur[j]? = ((l ++ [m,m]).map bv)[j]?) ∧ Below w.heap.size w wr)
  (fun i _=>n + 2 - (intOf i).toNat)
 case atStart =>
  obtain ⟨cur,h1,h2⟩:=hcur
  exact ⟨0,by omega,rfl,cur,h1,h2,fun j hj=>by omega,hB⟩
 case round =>
  clear hcur hB
  obtain ⟨k,hk,rfl,cur,hc,hs,ht,hb⟩:=hrel
  have Hb:=hid hb
  have Ht:=hid ht
  have Hs:=hid hs
  have Hc:=hid hc
  clear hb ht hs
  by_cases hlt:k < n + 2
  ·have hcell:wr.cell? ⟨w.heap.size,k,none⟩ = some (cur[k]'(by have:=Hs.out;omega)):=by rw [cell_of_row _ _ _ _ _ _ hc];simp
   have hfr:wr.frozen? ⟨w.heap.size,k,none⟩ = false:=frozen_of_row _ _ _ _ _ hc
   clear hc
   by_cases hkn:k < n
   ·obtain ⟨b,off,rfl,hbl,hca⟩:=Hr.out.cellB Hb.out (k:=k) (by simp;have:=Hn.out;omega)
    rw [List.getElem_map] at hca
    unfold bv at hca
    go_wp2
    clear hcell hfr hca
    go_roundw
    case rel =>
     refine ⟨k + 1,by omega,by go_num,_,heap_setCell_same _ _ _ _ _ _ (heap_setCell_same _ _ _ _ _ _ Hc.out),by simp [Hs.out], ?_,(Hb.out.setCell (Nat.le_refl _) _).setCell (Nat.le_refl _) _⟩
     intro j hj
     by_cases hjk:j = k
     ·subst hjk;have:=Hs.out;have:=Hn.out;rw [Array.getElem?_setIfInBounds_self_of_lt (by simp;omega),List.map_append,List.getElem?_append_left (by simp;omega),List.getElem?_eq_getElem (by simp;omega),List.getElem_map];rfl
     ·rw [Array.getElem?_setIfInBounds_ne (by omega),Array.getElem?_setIfInBounds_ne (by omega)];exact Ht.out j (by omega)
    case measure=>simp [intOf];omega
   ·go_wp2
    clear hcell hfr
    go_roundw
    case rel =>
     refine ⟨k + 1,by omega,by go_num,_,heap_setCell_same _ _ _ _ _ _ Hc.out,by simp [Hs.out], ?_,Hb.out.setCell (Nat.le_refl _) _⟩
     intro j hj
     by_cases hjk:j = k
     ·subst hjk;have:=Hs.out;have:=Hn.out;rw [Array.getElem?_setIfInBounds_self_of_lt (by omega),List.map_append,List.getElem?_append_right (by simp;omega),List.length_map]
      rcases (show j - l.length = 0 ∨ j - l.length = 1 by omega) with h | h <;> rw [h] <;> rfl
     ·rw [Array.getElem?_setIfInBounds_ne (by omega)];exact Ht.out j (by omega)
    case measure=>simp [intOf];omega
  ·obtain rfl:k = n + 2:=by omega
   go_wp2
   go_ret
   refine ⟨_,rfl,Nat.le_refl _, ?_,Hb.out⟩
   have e:cur = ((l ++ [m,m]).map bv).toArray:=by
    apply Array.ext_getElem?
    intro j
    have:=Hs.out;have:=Hlen.out
    by_cases hj:j < n + 2
    ·rw [Ht.out j hj];simp
    ·rw [Array.getElem?_eq_none (by omega),Array.getElem?_eq_none (by simp at *;omega)]
   rw [← e];exact Hc.out
set_option maxRecDepth 100000 in
set_option maxHeartbeats 800000 in
theorem kept_bytes (a:Option Addr) (g n c:Nat) (m:UInt8) (l:List UInt8) (w:World) (hn:l.length = n) (_hm:n ≤ 140737488355328) (hr:Rd w a (l.map bv))
  (hg:w.heap[g]? = some (.cells ((l ++ [m,m]).map bv).toArray 5 (0,0))) :
  Calls Tryz.prog 28 #[.slice (some ⟨g,0,none⟩) n (n + 2),.slice a n c,.int .u8 (m.toNat:Int)] w fun e w'=>e = .returned (.bool true) ∧ Below w.heap.size w w':=by
 have Hn:=hid hn
 have Hr:=hid hr
 have Hg:=hid hg
 have hgl:=lt_of_block hg
 clear hn hr hg
 have hnn:(((n:Int)) != (n:Int)) = false:=by simp
 have hnn2:(((n:Int) + 2) != ((n:Int) + 2)) = false:=by simp
 go_enter Tryz.func28,Tryz.ntmps28
 go_wp2
 go_loopw [8] (fun i wr=>∃ j:Nat,j ≤ n + 2 ∧ i = .int .i64 j ∧ Below w.heap.size w wr)
  (fun i _=>n + 2 - (intOf i).toNat)
 case atStart=>exact ⟨0,by omega,rfl,Below.refl _ _⟩
 case round =>
  obtain ⟨j,hj1,rfl,hb⟩:=hrel
  have Hb:=hid hb
  clear hb
  by_cases hjn:j < n + 2
  ·have i1:(0:Int) ≤ (j:Int):=by omega
   have i2:(j:Int) < (n:Int) + 2:=by omega
   have hct:wr.cell? ⟨g,j,none⟩ = (((l ++ [m,m]).map bv))[j]?:=by rw [Hb.out.cell (p:=⟨g,j,none⟩) hgl,cell_of_row _ _ _ _ _ _ Hg.out];simp
   by_cases hjm:j < n
   ·obtain ⟨b,off,rfl,hbl,hc⟩:=Hr.out.cellB Hb.out (k:=j) (by simp;have:=Hn.out;omega)
    rw [List.map_append,List.getElem?_append_left (by simp;have:=Hn.out;omega),List.getElem?_eq_getElem (by simp;have:=Hn.out;omega)] at hct
    rw [List.getElem_map] at hc hct
    have i3:(j:Int) < (n:Int):=by omega
    generalize l[j]'(by have:=Hn.out;omega) = p at hc hct
    have hpp:((p.toNat:Int) != (p.toNat:Int)) = false:=by simp
    have hd1:decide (j < n) = true:=by simp;omega
    have hd2:decide (n ≤ j) = false:=by simp;omega
    unfold bv at hc hct
    go_wp2
    go_quiet (fail)
    go_wp2
    go_roundw
    case rel=>exact ⟨j + 1,by omega,by go_num,below_drewN Hb.out _⟩
    case measure=>simp [intOf];omega
   ·have hpp:((m.toNat:Int) != (m.toNat:Int)) = false:=by simp
    have hd1:decide (j < n) = false:=by simp;omega
    have hd2:decide (n ≤ j) = true:=by simp;omega
    have hct':wr.cell? ⟨g,j,none⟩ = some (.int .u8 (m.toNat:Int)):=by
     rw [hct,List.map_append,List.getElem?_append_right (by simp;have:=Hn.out;omega),List.length_map,Hn.out]
     rcases (show j - n = 0 ∨ j - n = 1 by omega) with h | h <;> rw [h] <;> rfl
    clear hct
    go_wp2
    go_quiet (fail)
    go_wp2
    go_roundw
    case rel=>exact ⟨j + 1,by omega,by go_num,below_drewN Hb.out _⟩
    case measure=>simp [intOf];omega
  ·go_wp2
   go_ret
   exact ⟨rfl,Hb.out⟩
end Go.Proofs.Herb
namespace Go.Proofs.Herb
open Go.RowKit
theorem twinB_any (a:Option Addr) (n c:Nat) (l:List UInt8) (w:World) (hn:l.length = n) (hm:n ≤ 140737488355328) (hr:Rd w a (l.map bv)) :
  Calls Tryz.prog 5 #[.slice a n c] w fun e w'=>∃ g,e = .returned (.slice (some ⟨g,0,none⟩) n (n + 2)) ∧ w.heap.size ≤ g ∧ w'.heap[g]? = some (.cells ((l ++ [90,90]).map bv).toArray 5 (0,0)) ∧ Below w.heap.size w w':=by
 have H:=hid (copied_bytes a n c 90 l w hn hm hr)
 clear hn hr
 go_enter Tryz.func5,Tryz.ntmps5
 go_wp2_with (go_at_call 20;refine H.out.mono ?_;rintro e w1 ⟨g,rfl,hg,hh,hb⟩;have HH:=hid hh;clear hh)
 go_ret
 exact ⟨g,rfl,hg,HH.out,hb⟩
theorem leftB_any (a:Option Addr) (g n c:Nat) (l:List UInt8) (w:World) (hn:l.length = n) (hm:n ≤ 140737488355328) (hr:Rd w a (l.map bv)) (hg:w.heap[g]? = some (.cells ((l ++ [90,90]).map bv).toArray 5 (0,0))) :
  Calls Tryz.prog 8 #[.slice (some ⟨g,0,none⟩) n (n + 2),.slice a n c] w fun e w'=>e = .returned (.bool true) ∧ Below w.heap.size w w':=by
 have H:=hid (kept_bytes a g n c 90 l w hn hm hr hg)
 clear hn hr hg
 go_enter Tryz.func8,Tryz.ntmps8
 go_wp2_with (go_at_call 28;refine H.out.mono ?_;rintro e w1 ⟨rfl,hb⟩)
 go_ret
 exact ⟨rfl,hb⟩
theorem twin_rd {w:World} {g:Nat} {l:List UInt8} (h:w.heap[g]? = some (.cells ((l ++ [90,90]).map bv).toArray 5 (0,0))):Rd w (some ⟨g,0,none⟩) (l.map bv):=by
 refine .inr ⟨g,0,rfl,fun j u hj => ?_⟩
 rw [cell_of_row w g (0 + j) _ _ _ h,Nat.zero_add]
 have hl:j < l.length:=by have:=(List.getElem?_eq_some_iff.1 hj).1;simpa using this
 simp only [List.map_append,List.getElem?_toArray]
 rw [List.getElem?_append_left (by simpa using hl)]
 exact hj
end Go.Proofs.Herb
namespace Go.Proofs.Herb
open Go.RowKit
theorem crc_half (X:BitVec 32) (h:X.toNat % 2 = 0):(X.toNat:Int) / 2 = ((crcBit X).toNat:Int):=by
 have hb:X.getLsbD 0 = false:=by rw [BitVec.getLsbD,Nat.testBit_zero];simp [h]
 unfold crcBit
 rw [hb]
 simp [BitVec.toNat_ushiftRight,Nat.shiftRight_eq_div_pow]
theorem crc_odd (X:BitVec 32) (h:X.toNat % 2 = 1):bits BinOp.xor IntKind.u32 ((X.toNat:Int) / 2) 2197175160 = ((crcBit X).toNat:Int):=by
 have hX:=X.isLt
 have hb:X.getLsbD 0 = true:=by rw [BitVec.getLsbD,Nat.testBit_zero];simp [h]
 unfold crcBit
 rw [hb,show ((X.toNat:Int) / 2) = ((X.toNat / 2:Nat):Int) by omega,show (2197175160:Int) = ((2197175160:Nat):Int) from rfl,u32_xor_nat _ _ (by omega) (by decide)]
 simp [BitVec.toNat_ushiftRight,Nat.shiftRight_eq_div_pow]
theorem crc_in_form (X:BitVec 32) (q:UInt8):bits BinOp.xor IntKind.u32 (X.toNat:Int) (q.toNat:Int) = ((X ^^^ q.toBitVec.setWidth 32).toNat:Int):=by
 have hX:=X.isLt
 have hq:q.toNat < 256:=q.toBitVec.isLt
 rw [u32_xor_nat _ _ hX (by omega),BitVec.toNat_xor,BitVec.toNat_setWidth]
 congr 2
 show q.toNat = q.toNat % 2 ^ 32
 omega
set_option maxRecDepth 100000 in
set_option maxHeartbeats 400000 in
theorem ref_more (s:BitVec 32) (a:Option Addr) (n c:Nat) (l:List UInt8) (w:World) (hn:l.length = n) (_hm:n ≤ 4611686018427387904) (hr:Rd w a (l.map bv)) :
  Calls Tryz.prog 97 #[.int .u32 (s.toNat:Int),.slice a n c] w fun e w'=>e = .returned (.int .u32 ((crcMore s l).toNat:Int)) ∧ w = w':=by
 have hs:=s.isLt
 have Hn:=hid hn
 have Hr:=hid hr
 clear hn hr
 go_enter Tryz.func97,Tryz.ntmps97
 go_wp2
 rw [crc_not_form]
 go_loop [5,6] (fun x i=>∃ k:Nat,k ≤ n ∧ i = .int .i64 k ∧ x = .int .u32 ((crcFold (~~~ s) (l.take k)).toNat:Int))
  (fun _ i=>n - (intOf i).toNat)
 case atStart=>exact ⟨0,by omega,rfl,rfl⟩
 case round =>
  obtain ⟨k,hk,rfl,rfl⟩:=hrel
  by_cases hlt:k < n
  ·obtain ⟨b,off,rfl,hc⟩:=Hr.out.cell (k:=k) (by simp;have:=Hn.out;omega)
   rw [List.getElem_map] at hc
   obtain ⟨q,hq⟩:∃ q,q = l[k]'(by have:=Hn.out;omega):=⟨_,rfl⟩
   rw [← hq] at hc
   unfold bv at hc
   have hql:=q.toNat_lt
   have Hq:=hid hq
   clear hq
   generalize hX:crcFold (~~~ s) (l.take k) = X
   have HX:=hid hX
   clear hX
   have hXl:=X.isLt
   have hin:=crc_in_form X q
   go_wp2
   go_loop [5,7] (fun x i=>∃ j:Nat,j ≤ 8 ∧ i = .int .i64 j ∧ x = .int .u32 ((crcBits j (X ^^^ q.toBitVec.setWidth 32)).toNat:Int))
     (fun _ i=>8 - (intOf i).toNat)
   case atStart=>exact ⟨0,by omega,rfl,rfl⟩
   case round =>
    obtain ⟨j,hj,rfl,rfl⟩:=hrel
    have e:=crcBits_snoc j (X ^^^ q.toBitVec.setWidth 32)
    have E:=hid e
    clear e hin
    generalize hYe:crcBits j (X ^^^ q.toBitVec.setWidth 32) = Y at E
    have HYe:=hid hYe
    clear hYe
    have hY:=Y.isLt
    by_cases hjl:j < 8
    ·by_cases h2:Y.toNat % 2 = 1
     ·have h2i:(((Y.toNat:Int) % 2) == 1) = true:=by rw [beq_iff_eq];omega
      have ho:=crc_odd Y h2
      clear h2
      go_wp2
      go_round
      case rel=>exact ⟨j + 1,by omega,by go_num,by rw [E.out]⟩
      case measure=>simp [intOf];omega
     ·have h2i:(((Y.toNat:Int) % 2) == 1) = false:=by rw [beq_eq_false_iff_ne];omega
      have ho:=crc_half Y (by omega)
      clear h2
      go_wp2
      go_round
      case rel=>exact ⟨j + 1,by omega,by go_num,by rw [E.out]⟩
      case measure=>simp [intOf];omega
    ·obtain rfl:j = 8:=by omega
     go_wp2
     refine ⟨⟨k + 1,by omega,by omega, ?_⟩,by simp [intOf];omega⟩
     rw [List.take_succ_eq_append_getElem (by have:=Hn.out;omega),crcFold_snoc,HX.out,← Hq.out,← HYe.out];rfl
  ·go_wp2
   obtain rfl:k = n:=by omega
   rw [crc_not_form]
   go_ret
   refine ⟨?_,rfl⟩
   rw [List.take_of_length_le (by have:=Hn.out;omega)];rfl
set_option maxHeartbeats 400000 in
theorem ref_of (a:Option Addr) (n c:Nat) (l:List UInt8) (w:World) (hn:l.length = n) (hm:n ≤ 4611686018427387904) (hr:Rd w a (l.map bv)) :
  Calls Tryz.prog 59 #[.slice a n c] w fun e w'=>e = .returned (.int .u32 ((crcMore 0 l).toNat:Int)) ∧ w = w':=by
 have Hn:=hid hn
 clear hn
 go_enter Tryz.func59,Tryz.ntmps59
 go_wp2_with (go_at_call 97;refine (ref_more 0 a n c l _ Hn.out hm hr).mono ?_;rintro e w1 ⟨rfl,rfl⟩)
 go_ret
 exact ⟨rfl,rfl⟩
end Go.Proofs.Herb
