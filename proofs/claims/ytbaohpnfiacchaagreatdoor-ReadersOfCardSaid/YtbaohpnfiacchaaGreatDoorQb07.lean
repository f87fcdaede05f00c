/- The contracts of sums.Of, sums.More and sums.made: CRC-32C of a slice of bytes. For slices that can be read. -/
import Derived.WalkLawsBesides
import Derived.WalkSpells
import Derived.Outline
import Derived.Deep.LoopGhost
import Derived.Deep.QuietTactic
import Derived.Deep.DeepCutAuto
import Derived.BigQuiet
import Derived.Test.YtbaohpnfiacchaaGreatDoorProg
import Derived.Test.YtbaohpnfiacchaaGreatDoorQb01
namespace Go.Proofs.Herb
open Go.RowKit
theorem info262:(Tryz.prog.info? 175).map (·.size) = some 256:=by kernel_rfl
theorem size_zero262:Tryz.zeroCells175.size = 256:=by kernel_rfl
set_option maxRecDepth 100000 in
set_option maxHeartbeats 400000 in
theorem made_any (w:World) :
  Calls Tryz.prog 121 #[] w fun e w'=>e = .returned (.agg crcTable) ∧ Below w.heap.size w w':=by
 go_enter Tryz.func121,Tryz.ntmps121
 go_wp2
 go_loopw [1,2,3,8] (fun _ _ i _ wr=>∃ k:Nat,k ≤ 256 ∧ i = .int .i64 k ∧ ∃ cur,wr.heap[w.heap.size]? = some (.cells cur 175 (0,0)) ∧ cur.size = 256 ∧ (∀ j,j < k → cur[j]? = some (crcTab j)) ∧ Below w.heap.size w wr)
  (fun _ _ i _ _=>256 - (intOf i).toNat)
 case atStart=>exact ⟨0,by omega,rfl,_,heap_alloc_new _ _,size_zero262,fun j hj=>by omega,(Below.refl _ _).alloc (Nat.le_refl _) _⟩
 case round =>
  obtain ⟨k,hk,rfl,cur,hc,hs,ht,hb⟩:=hrel
  by_cases hlt:k < 256
  ·have hcell:wr.cell? ⟨w.heap.size,k,none⟩ = some cur[k]:=by rw [cell_of_row _ _ _ _ _ _ hc];simp
   have hfr:wr.frozen? ⟨w.heap.size,k,none⟩ = false:=frozen_of_row _ _ _ _ _ hc
   go_wp2
   go_loop [2,8] (fun x i=>∃ j:Nat,j ≤ 8 ∧ i = .int .i64 j ∧ x = .int .u32 ((crcBits j (BitVec.ofNat 32 k)).toNat:Int))
     (fun _ i=>8 - (intOf i).toNat)
   case atStart=>exact ⟨0,by omega,rfl,by simp [crcBits];omega⟩
   case round => 
    obtain ⟨j,hj,rfl,rfl⟩:=hrel
    have e:=crcBits_snoc j (BitVec.ofNat 32 k)
    have E:=hid e
    clear e
    by_cases hjl:j < 8
    ·go_wp2
     go_round
     case rel=>exact ⟨j + 1,by omega,by go_num,by rw [E.out,← crcBit_form]⟩
     case measure=>simp [intOf];omega
    ·go_wp2
     obtain rfl:j = 8:=by omega
     clear hcell hfr E
     go_roundw
     case rel => 
      refine ⟨k + 1,by omega,by go_num,_,heap_setCell_same _ _ _ _ _ _ hc,by simp [hs], ?_,hb.setCell (Nat.le_refl _) _⟩
      intro i hi
      by_cases hik:i = k
      ·subst hik;simp [hs,hlt,crcTab]
      ·rw [Array.getElem?_setIfInBounds_ne (by omega)];exact ht i (by omega)
     case measure=>simp [intOf];omega
  ·obtain rfl:k = 256:=by omega
   obtain rfl:=crcTable_of hs ht
   go_wp2_with (first | (refine wpList_load_row rfl 175 _ rfl _ rfl _ _ _ _ hc Tryz.underlying175 rfl (by rw [hs];exact info262) ?_) | (refine wpList_store_block rfl 175 _ _ rfl _ _ _ _ rfl rfl hc hs (by rw [hs];exact info262) crcTable_one ?_;rw [setRow_self _ _ _ _ _ hc]))
   exact bodyPost_ret (results_cell_row rfl _ _ _ _ _ _ _ rfl hc Tryz.underlying175 rfl (by rw [hs];exact info262)) rfl ⟨rfl,hb⟩
set_option maxRecDepth 100000 in
set_option maxHeartbeats 400000 in
theorem more_any (s:BitVec 32) (a:Option Addr) (n c:Nat) (l:List UInt8) (w:World) (hn:l.length = n) (hm:n ≤ 4611686018427387904) (hr:Rd w a (l.map bv)) :
  Calls Tryz.prog 94 #[.int .u32 (s.toNat:Int),.slice a n c] w fun e w'=>e = .returned (.int .u32 ((crcMore s l).toNat:Int)) ∧ Below w.heap.size w w':=by
 have hs:=s.isLt
 have Hn:=hid hn
 have Hr:=hid hr
 clear hn hr
 go_enter Tryz.func94,Tryz.ntmps94
 go_wp2_with (first | (go_at_call 121;refine (made_any _).mono ?_;rintro e w1 ⟨rfl,hb1⟩;have hz:=hb1.size;have hb1:=hid hb1) | (refine wpList_store_block rfl 175 _ _ rfl _ _ _ _ rfl rfl (heap_alloc_new _ _) (by rw [size_zero262,crcTable_size]) (by rw [crcTable_size];exact info262) crcTable_one ?_))
 obtain ⟨w2,hw2⟩:∃ w2,(w1.alloc (.cells Tryz.zeroCells175 175)).setRow w1.heap.size crcTable = w2:=⟨_,rfl⟩
 have hT:w2.heap[w1.heap.size]? = some (.cells crcTable 175 (0,0)):=by rw [← hw2];exact setRow_heap _ _ _ _ _ _ (heap_alloc_new _ _)
 have hB:Below w.heap.size w w2:=by rw [← hw2];exact below_setRow (hb1.out.alloc hz _) hz _
 rw [hw2,crc_not_form]
 clear hb1 hw2
 have HB:=hid hB
 have Hr2:=hid (Hr.out.below hB)
 have HT:=hid hT
 clear hB hT Hr
 go_loop [6,8,14] (fun x _ i=>∃ k:Nat,k ≤ n ∧ i = .int .i64 k ∧ x = .int .u32 ((crcFold (~~~ s) (l.take k)).toNat:Int))
  (fun _ _ i=>n - (intOf i).toNat)
 case atStart=>exact ⟨0,by omega,rfl,rfl⟩
 case round =>
  obtain ⟨k,hk,rfl,rfl⟩:=hrel
  by_cases hlt:k < n
  ·obtain ⟨b,off,rfl,hc⟩:=Hr2.out.cell (k:=k) (by simp;have:=Hn.out;omega)
   rw [List.getElem_map] at hc
   obtain ⟨q,hq⟩:∃ q,q = l[k]'(by have:=Hn.out;omega):=⟨_,rfl⟩
   rw [← hq] at hc
   unfold bv at hc
   have Hq:=hid hq
   clear hq
   generalize hX:crcFold (~~~ s) (l.take k) = X
   have HX:=hid hX
   clear hX
   have hidx:=crc_idx_form X q
   have hTl:=(X.setWidth 8 ^^^ q.toBitVec).isLt
   generalize hTe:(X.setWidth 8 ^^^ q.toBitVec).toNat = T at hidx hTl
   have HTe:=hid hTe
   clear hTe
   have hTl:T < 256:=hTl
   have htc:w2.cell? ⟨w1.heap.size,T,none⟩ = some (.int .u32 ((crcBits 8 (BitVec.ofNat 32 T)).toNat:Int)):=by rw [cell_of_row _ _ _ _ _ _ HT.out];exact crcTable_cell hTl
   have hbf:=crc_byte_form X q T HTe.out.symm
   go_wp2
   go_round
   case rel =>
    refine ⟨k + 1,by omega,by go_num, ?_⟩
    rw [List.take_succ_eq_append_getElem (by have:=Hn.out;omega),crcFold_snoc,HX.out,← Hq.out]
   case measure=>simp [intOf];omega
  ·go_wp2
   obtain rfl:k = n:=by omega
   rw [crc_not_form]
   go_ret
   refine ⟨?_,HB.out⟩
   rw [List.take_of_length_le (by have:=Hn.out;omega)];rfl
set_option maxHeartbeats 400000 in
theorem of_any (a:Option Addr) (n c:Nat) (l:List UInt8) (w:World) (hn:l.length = n) (hm:n ≤ 4611686018427387904) (hr:Rd w a (l.map bv)) :
  Calls Tryz.prog 52 #[.slice a n c] w fun e w'=>e = .returned (.int .u32 ((crcMore 0 l).toNat:Int)) ∧ Below w.heap.size w w':=by
 have Hn:=hid hn
 clear hn
 go_enter Tryz.func52,Tryz.ntmps52
 go_wp2_with (go_at_call 94;refine (more_any 0 a n c l _ Hn.out hm hr).mono ?_;rintro e w1 ⟨rfl,hb1⟩)
 go_ret
 exact ⟨rfl,hb1⟩
end Go.Proofs.Herb
