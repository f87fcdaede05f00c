/- The contracts of keys.falling, tailOf, escaped and may. No condition. The contracts of keys.escaped and may. For keys of so many bytes. The contracts of keys.Put and Cmp. For keys of so many bytes. The contracts of cmp.Compare, cmp.Or, and keys.Cmp. No condition. A law of append of whatever source onto a row of the call's own, which tells where the new row lies. For slices that can be read. -/
import Derived.RegionTactic
import Derived.StillTailTactics
import Derived.IntWalk
import Derived.Laws.ShiftsVarLaws
import Derived.Laws.BitsAllLaws
import Derived.Laws.IdiomStrings
import Derived.Deep.RegionLaw
import Derived.Deep.RegionWith
import Derived.WalkLawsBesides
import Derived.BigQuiet
import Derived.Deep.QuietTactic
import Derived.Test.YtbaohpnfiacchaaGreatDoorQb01
namespace Go.Proofs.Herb
open Go.RowKit
def fallB (n many i:Nat):UInt8:=UInt8.ofNat (255 - n / 2 ^ (8 * (many - 1 - i)) % 256)
theorem fall_form (n S many k:Nat) (hS:S = 8 * (many - 1 - k)):bits BinOp.xor IntKind.u8 (if IntKind.u8.signed = true then -1 else IntKind.u8.max) ((n:Int) / 2 ^ S % 256) = ((fallB n many k).toNat:Int):=by
 have e:((n:Int) / 2 ^ S % 256) = ((n / 2 ^ S % 256:Nat):Int):=by simp
 have hlt:n / 2 ^ S % 256 < 256:=Nat.mod_lt _ (by decide)
 rw [e]
 generalize hX:n / 2 ^ S % 256 = X at hlt
 rw [show (if IntKind.u8.signed = true then (-1:Int) else IntKind.u8.max) = ((255:Nat):Int) from rfl,u8_xor_nat _ _ (by decide) hlt]
 unfold fallB
 rw [← hS,hX,UInt8.toNat_ofNat',Nat.mod_eq_of_lt (by omega)]
 congr 1
 have key:∀ x:Fin 256,255 ^^^ x.val = 255 - x.val:=by decide +kernel
 exact key ⟨X,hlt⟩
theorem infoTail:(Tryz.prog.info? 152).map (·.size) = some 13:=by kernel_rfl
set_option maxRecDepth 100000 in
set_option maxHeartbeats 800000 in
theorem falling_any (T from_ many n:Nat) (hfm:from_ + many ≤ 13) (h0:1 ≤ many) (hm8:many ≤ 8) (cur:Array Value) (hs:cur.size = 13) (w:World) (hT:w.heap[T]? = some (.cells cur 152 (0,0))) (b0:Nat) (hb0:b0 ≤ T) :
  Calls Tryz.prog 124 #[.pointer (some ⟨T,0,none⟩),.int .i64 (from_:Int),.int .i64 (many:Int),.int .u64 (n:Int)] w fun e w'=>e = .returned (.tuple #[]) ∧ ∃ cur':Array Value,w'.heap[T]? = some (.cells cur' 152 (0,0)) ∧ cur'.size = 13 ∧ (∀ j,j < many → cur'[from_ + j]? = some (bv (fallB n many j))) ∧ (∀ j,j < from_ → cur'[j]? = cur[j]?) ∧ Below b0 w w':=by
 go_enter Tryz.func124,Tryz.ntmps124
 go_wp2
 go_loopw [10] (fun i wr=>∃ k:Nat,k ≤ many ∧ i = .int .i64 (k:Int) ∧ ∃ cur':Array Value,wr.heap[T]? = some (.cells cur' 152 (0,0)) ∧ cur'.size = 13 ∧ (∀ j,j < k → cur'[from_ + j]? = some (bv (fallB n many j))) ∧ (∀ j,j < from_ → cur'[j]? = cur[j]?) ∧ Below b0 w wr)
  (fun i _=>many - (intOf i).toNat)
 case atStart=>exact ⟨0,Nat.zero_le _,rfl,cur,hT,hs,fun j hj=>by omega,fun _ _=>rfl,Below.refl _ _⟩
 case round =>
  obtain ⟨k,hk,rfl,cur',hc,hs',hd,ho,hb⟩:=hrel
  have Hd:=hid hd
  have Ho:=hid ho
  have Hb:=hid hb
  have Hc:=hid hc
  have Hs':=hid hs'
  clear hd ho hb hs'
  by_cases hlt:k < many
  ·have hcell:wr.cell? ⟨T,from_ + k,none⟩ = some (cur'[from_ + k]'(by have:=Hs'.out;omega)):=by rw [cell_of_row _ _ _ _ _ _ hc];simp
   have hfr:wr.frozen? ⟨T,from_ + k,none⟩ = false:=frozen_of_row _ _ _ _ _ hc
   clear hc
   obtain ⟨S,hS⟩:∃ S:Nat,S = 8 * (many - 1 - k):=⟨_,rfl⟩
   have s1:IntKind.i64.wrap ((from_:Int) + (k:Int)) = (from_:Int) + (k:Int):=IntWalk.i64_in _ (by omega)
   have s2:IntKind.i64.wrap ((many:Int) - 1) = (many:Int) - 1:=IntWalk.i64_in _ (by omega)
   have s3:IntKind.i64.wrap ((many:Int) - 1 - (k:Int)) = (many:Int) - 1 - (k:Int):=IntWalk.i64_in _ (by omega)
   have s4:IntKind.i64.wrap (8 * ((many:Int) - 1 - (k:Int))) = (S:Int):=by rw [IntWalk.i64_in _ (by omega)];omega
   have hS64:min S 64 = S:=by omega
   have i0:(0:Int) ≤ (from_:Int) + (k:Int):=by omega
   have i1:(from_:Int) + (k:Int) < 13:=by omega
   have i2:((from_:Int) + (k:Int)).toNat = from_ + k:=by omega
   have HS:=hid hS
   clear hS
   go_wp2
   go_still_tail 14,(by kernel_rfl)
   go_wp2
   rw [fall_form n S many k HS.out]
   refine ⟨⟨k + 1,by omega,by go_num,_,heap_setCell_same _ _ _ _ _ _ Hc.out,by simp [Hs'.out], ?_, ?_,(Hb.out.setCell (p:=⟨T,from_ + k,none⟩) hb0 _).drew⟩,by simp [intOf];omega⟩
   ·intro j hj
    by_cases hjk:j = k
    ·subst hjk;rw [Array.getElem?_setIfInBounds_self_of_lt (by have:=Hs'.out;omega)];rfl
    ·rw [Array.getElem?_setIfInBounds_ne (by omega)];exact Hd.out j (by omega)
   ·intro j hj
    rw [Array.getElem?_setIfInBounds_ne (by omega)];exact Ho.out j hj
  ·obtain rfl:k = many:=by omega
   go_wp2
   go_end0
   exact ⟨rfl,cur',Hc.out,Hs'.out,Hd.out,Ho.out,Hb.out⟩
def tailB (valid seq kind:Nat):List UInt8:=(List.range 4).map (fallB valid 4) ++ (List.range 8).map (fallB seq 8) ++ [UInt8.ofNat kind]
theorem tailB_len (valid seq kind:Nat):(tailB valid seq kind).length = 13:=by simp [tailB]
theorem tail_of {cur:Array Value} {valid seq kind:Nat} (hk:kind < 256) (hs:cur.size = 13) (h1:∀ j,j < 4 → cur[j]? = some (bv (fallB valid 4 j))) (h2:∀ j,j < 8 → cur[4 + j]? = some (bv (fallB seq 8 j))) :
  cur.setIfInBounds 12 (.int .u8 (kind:Int)) = ((tailB valid seq kind).map bv).toArray:=by
 apply Array.ext_getElem?
 intro i
 have hR:((tailB valid seq kind).map bv).toArray[i]? = (tailB valid seq kind)[i]?.map bv:=by rw [List.getElem?_toArray,List.getElem?_map]
 rw [hR]
 rcases Nat.lt_or_ge i 13 with hi | hi
 ·by_cases h4:i < 4
  ·rw [Array.getElem?_setIfInBounds_ne (by omega),h1 i h4]
   unfold tailB
   rw [List.append_assoc,List.getElem?_append_left (by simpa using h4),List.getElem?_map,List.getElem?_range h4];rfl
  ·by_cases h12:i < 12
   ·obtain ⟨j,rfl⟩:∃ j,i = 4 + j:=⟨i - 4,by omega⟩
    rw [Array.getElem?_setIfInBounds_ne (by omega),h2 j (by omega)]
    unfold tailB
    rw [List.append_assoc,List.getElem?_append_right (by simp),List.getElem?_append_left (by simp;omega),List.getElem?_map,List.getElem?_range (by simp;omega)]
    simp
   ·obtain rfl:i = 12:=by omega
    rw [Array.getElem?_setIfInBounds_self_of_lt (by omega)]
    unfold tailB
    rw [List.getElem?_append_right (by simp)]
    simp [bv,Nat.mod_eq_of_lt hk]
 ·rw [Array.getElem?_eq_none (by simp;omega),List.getElem?_eq_none (by rw [tailB_len];omega)];rfl
theorem tailB_one (valid seq kind:Nat):∀ v ∈ (((tailB valid seq kind).map bv).toArray).toList,v.oneCell' = true:=by intro v hv;exact bv_one v (by simpa using hv)
set_option maxRecDepth 100000 in
set_option maxHeartbeats 800000 in
theorem tailOf_any (valid seq kind:Nat) (hv:valid < 4294967296) (_hq:seq < 18446744073709551616) (hk:kind < 256) (w:World) :
  Calls Tryz.prog 100 #[.int .u32 (valid:Int),.int .u64 (seq:Int),.int .u8 (kind:Int)] w fun e w'=>e = .returned (.agg ((tailB valid seq kind).map bv).toArray) ∧ Below w.heap.size w w':=by
 go_enter Tryz.func100,Tryz.ntmps100
 go_wp2_with fail
 refine (falling_any w.heap.size 0 4 valid (by decide) (by decide) (by decide) _ (by first | rfl | simp) _ (heap_alloc_new w _) w.heap.size (Nat.le_refl _)).mono ?_
 rintro e w1 ⟨rfl,c1,hc1,hs1,hd1,_,hb1⟩
 have Hc1:=hid hc1
 have Hs1:=hid hs1
 have Hd1:=hid hd1
 have Hb1:=hid (((Below.refl _ w).alloc (Nat.le_refl _) _).trans hb1)
 clear hc1 hs1 hd1 hb1
 go_wp2_with fail
 refine (falling_any w.heap.size 4 8 seq (by decide) (by decide) (by decide) c1 Hs1.out w1 Hc1.out w.heap.size (Nat.le_refl _)).mono ?_
 rintro e w2 ⟨rfl,c2,hc2,hs2,hd2,ho2,hb2⟩
 obtain ⟨v12,hcell⟩:∃ v12,w2.cell? ⟨w.heap.size,12,none⟩ = some v12:=⟨c2[12]'(by omega),by rw [cell_of_row _ _ _ _ _ _ hc2];simp⟩
 have hfr:w2.frozen? ⟨w.heap.size,12,none⟩ = false:=frozen_of_row _ _ _ _ _ hc2
 have hfin:=tail_of (valid:=valid) (seq:=seq) hk hs2 (fun j hj=>by have:=Hd1.out j hj;rw [Nat.zero_add] at this;rw [ho2 j hj];exact this) hd2
 have hc3:=heap_setCell_same _ _ 12 _ _ (.int .u8 (kind:Int)) hc2
 rw [hfin] at hc3
 have HC3:=hid hc3
 have HB:=hid ((Hb1.out.trans hb2).setCell (p:=⟨w.heap.size,12,none⟩) (Nat.le_refl _) (.int .u8 (kind:Int)))
 clear hc2 hs2 hd2 ho2 hb2 hfin hc3 Hc1 Hs1 Hd1 Hb1
 obtain ⟨L,hL⟩:∃ L,L = ((tailB valid seq kind).map bv).toArray:=⟨_,rfl⟩
 have hLs:L.size = 13:=by rw [hL];simp [tailB_len]
 have hL1:∀ v ∈ L.toList,v.oneCell' = true:=by rw [hL];exact tailB_one valid seq kind
 rw [← hL] at HC3
 have HL:=hid hL
 have HLs:=hid hLs
 have HL1:=hid hL1
 clear hL hLs hL1
 go_wp2_with (first | (refine wpList_load_row rfl 152 _ rfl _ rfl _ _ _ _ HC3.out Tryz.underlying152 rfl (by rw [HLs.out];exact infoTail) ?_) | (refine wpList_store_block rfl 152 _ _ rfl _ _ _ _ rfl rfl HC3.out rfl (by rw [HLs.out];exact infoTail) HL1.out ?_;rw [setRow_self _ _ _ _ _ HC3.out]))
 refine bodyPost_ret (results_cell_row rfl _ _ _ _ _ _ _ rfl HC3.out Tryz.underlying152 rfl (by rw [HLs.out];exact infoTail)) rfl ?_
 exact ⟨by rw [HL.out],HB.out⟩
end Go.Proofs.Herb
namespace Go.Proofs.Herb
open Go.RowKit
def esc (l:List UInt8):List UInt8:=l.flatMap fun c=>if c = 0 then [0,1] else [c]
theorem esc_len (l:List UInt8):(esc l).length ≤ 2 * l.length:=by
 induction l with
 | nil=>simp [esc]
 | cons c l ih=>simp only [esc,List.flatMap_cons,List.length_append,List.length_cons] at ih ⊢;split <;> simp only [List.length_cons,List.length_nil] <;> omega
theorem esc_snoc (l:List UInt8) (c:UInt8):esc (l ++ [c]) = esc l ++ if c = 0 then [0,1] else [c]:=by simp [esc]
def mayF (f:Fact):Bool:=decide (1 ≤ f.key.size ∧ f.key.size ≤ 32 ∧ 0 < f.seq ∧ f.kind ≤ 1)
theorem str_take (s:ByteArray) (k:Nat) (h:k < s.size):s.data.toList.take (k + 1) = s.data.toList.take k ++ [s[k]]:=by
 rw [List.take_succ_eq_append_getElem (by simpa using h)];rfl
set_option maxRecDepth 100000 in
set_option maxHeartbeats 1000000 in
theorem escaped_any (s:ByteArray) (hs:s.size ≤ 1000000) (w:World) :
  Calls Tryz.prog 101 #[.string s] w fun e w'=>∃ q c,e = .returned (.slice q ((esc s.data.toList).length + 2) c) ∧ w'.ownsRow w.heap.size 5 1 (.slice q ((esc s.data.toList).length + 2) c) ((esc s.data.toList).length + 2) ((esc s.data.toList ++ [0,0]).map bv) ∧ Below w.heap.size w w':=by
 obtain ⟨C,hC⟩:∃ C,C = 2 * s.size + 2:=⟨_,rfl⟩
 have hmk:=run_make_cap (P:=Tryz.prog) 22 5 (.int .u8 0) 1 1 Tryz.underlying22 infoU8 (2 * (s.size:Int) + 2) C (by omega) (by omega) (by omega)
 have hel:=esc_len s.data.toList
 rw [show s.data.toList.length = s.size from by rw [Array.length_toList];rfl] at hel
 have hown0:=World.ownsRow_made (base:=w.heap.size) (e:=5) (size:=1) w (madeCells (Value.int .u8 0).cells (C * 1)) C (Nat.le_refl _) (by unfold maxLen;omega) (by rw [size_madeCells])
 obtain ⟨i0,hi,hz0,hz1,hz2⟩:=info_parts infoU8
 rw [Nat.mul_one] at hown0
 have HC:=hid hC
 have Hel:=hid hel
 have Hown0:=hid hown0
 clear hC hel hown0
 go_enter Tryz.func101,Tryz.ntmps101
 go_wp2_with fail
 clear hmk
 go_loopw [3,12] (fun v i wr=>∃ k:Nat,k ≤ s.size ∧ i = .int .i64 (k:Int) ∧ wr.ownsRow w.heap.size 5 1 v (esc (s.data.toList.take k)).length ((esc (s.data.toList.take k)).map bv) ∧ Below w.heap.size w wr) (fun _ i _=>s.size - (intOf i).toNat)
 case atStart=>exact ⟨0,Nat.zero_le _,rfl,Hown0.out,(Below.refl _ _).alloc (Nat.le_refl _) _⟩
 case round =>
  obtain ⟨k,hk,rfl,hown,hb⟩:=hrel
  obtain ⟨E,hE⟩:∃ E,E = esc (s.data.toList.take k):=⟨_,rfl⟩
  have hEl:E.length ≤ 2 * k:=by
   have:=esc_len (s.data.toList.take k)
   rw [← hE] at this
   have h2:(s.data.toList.take k).length ≤ k:=List.length_take_le _ _
   omega
  rw [← hE] at hown
  obtain ⟨N,hN⟩:∃ N,N = E.length:=⟨_,rfl⟩
  rw [← hN] at hown hEl
  obtain ⟨q,c,rfl,hc,hcm,hq⟩:=own_shape hown
  have Hown:=hid hown
  have HE:=hid hE
  have HN:=hid hN
  have Hb:=hid hb
  have hbs:=hb.size
  clear hown hE hN hb
  by_cases hlt:k < s.size
  ·have hst:=str_take s k hlt
   have hsn:esc (s.data.toList.take (k + 1)) = E ++ if s[k] = 0 then [0,1] else [s[k]]:=by rw [hst,esc_snoc,HE.out]
   by_cases h0:s[k] = 0
   ·rw [if_pos h0] at hsn
    have hq0:((s[k].toNat:Int) == 0) = true:=by rw [h0];rfl
    have HSN:=hid hsn
    have H0:=hid h0
    clear hst hsn h0
    go_wp2_with (first
     | (refine app22 rfl (.tmp 15) (.tmp 19) rfl w.heap.size q N c E rfl (own_below Hown.out ((Below.refl _ _).alloc (Nat.le_refl _) _)) _ 1 1 [s[k]] rfl (fun h=>by cases h) rfl (Rd.new _ (([s[k]]:List UInt8).map bv) 5) (by omega) (by simp;omega) ?_;intro q2 c2 w2 g2;have hs2:=g2.below.size;have G2:=hid g2;rw [World.size_alloc] at hs2;clear g2)
     | (refine app22 rfl (.tmp 25) (.tmp 26) rfl w.heap.size q2 (N + 1) c2 (E ++ [s[k]]) rfl (own_below G2.out.own ((Below.refl _ _).alloc (Nat.le_refl _) _)) _ 1 1 [1] rfl (fun h=>by cases h) rfl (Rd.new _ (([1]:List UInt8).map bv) 5) (by omega) (by simp;omega) ?_;intro q3 c3 w3 g3;have G3:=hid g3;clear g3))
    go_roundw
    case rel =>
     refine ⟨k + 1,by omega,by go_num, ?_,Hb.out.trans (((((Below.refl _ _).alloc hbs _).trans G2.out.below).alloc (by omega) _).trans G3.out.below)⟩
     rw [HSN.out,List.length_append,← HN.out]
     have:=G3.out.own
     rw [H0.out,List.append_assoc] at this
     exact this
    case measure=>simp [intOf];omega
   ·rw [if_neg h0] at hsn
    have hq0:((s[k].toNat:Int) == 0) = false:=by
     rw [beq_eq_false_iff_ne];intro e;exact h0 (UInt8.toNat_inj.1 (by simpa using e))
    have HSN:=hid hsn
    clear hst hsn h0
    go_wp2_with (refine app22 rfl (.tmp 15) (.tmp 19) rfl w.heap.size q N c E rfl (own_below Hown.out ((Below.refl _ _).alloc (Nat.le_refl _) _)) _ 1 1 [s[k]] rfl (fun h=>by cases h) rfl (Rd.new _ (([s[k]]:List UInt8).map bv) 5) (by omega) (by simp;omega) ?_;intro q2 c2 w2 g2;have G2:=hid g2;clear g2)
    go_roundw
    case rel =>
     refine ⟨k + 1,by omega,by go_num, ?_,Hb.out.trans (((Below.refl _ _).alloc hbs _).trans G2.out.below)⟩
     rw [HSN.out,List.length_append,← HN.out]
     exact G2.out.own
    case measure=>simp [intOf];omega
  ·obtain rfl:k = s.size:=by omega
   have hE2:E = esc s.data.toList:=by rw [HE.out,List.take_of_length_le (by rw [Array.length_toList];exact Nat.le_refl _)]
   have HE2:=hid hE2
   clear hE2
   go_wp2_with (refine app22 rfl (.tmp 29) (.tmp 30) rfl w.heap.size q N c E rfl (own_below Hown.out ((Below.refl _ _).alloc (Nat.le_refl _) _)) _ 2 2 [0,0] rfl (fun h=>by cases h) rfl (Rd.new _ (([0,0]:List UInt8).map bv) 5) (by omega) (by simp;omega) ?_;intro q2 c2 w2 g2)
   go_ret
   rw [← HE2.out,← HN.out]
   exact ⟨_,_,rfl,g2.own,Hb.out.trans (((Below.refl _ _).alloc hbs _).trans g2.below)⟩
theorem may_any (f:Fact) (w:World) (hk:f.key.size ≤ maxLen) :
  Calls Tryz.prog 102 #[.agg f.cells.toArray] w fun e w'=>e = .returned (.bool (mayF f)) ∧ Below w.heap.size w w':=by
 unfold maxLen at hk
 have hM:mayF f = decide (1 ≤ f.key.size ∧ f.key.size ≤ 32 ∧ 0 < f.seq ∧ f.kind ≤ 1):=rfl
 unfold Fact.cells
 obtain ⟨b,hb⟩:∃ b,b = mayF f:=⟨_,rfl⟩
 rw [← hb] at hM ⊢
 clear hb
 obtain ⟨key,valid,seq,line,kind,val⟩:=f
 dsimp only at hM hk ⊢
 have hB:Below w.heap.size w (w.alloc (.cells #[.string key,.int .u32 (valid:Int),.int .u64 (seq:Int),.int .u64 (line:Int),.int .u8 (kind:Int),.string val] 27)):=(Below.refl _ _).alloc (Nat.le_refl _) _
 have HB:=hid hB
 clear hB
 by_cases h1:1 ≤ key.size
 ·have b1:decide ((1:Int) ≤ (key.size:Int)) = true:=by simp;omega
  by_cases h2:key.size ≤ 32
  ·have b2:decide ((key.size:Int) ≤ 32) = true:=by simp;omega
   by_cases h3:0 < seq
   ·have hM2:b = decide ((kind:Int) ≤ 1):=by rw [hM];simp [h1,h2,h3];omega
    have HM:=hid hM2
    clear hM hM2
    go_enter Tryz.func102,Tryz.ntmps102
    go_wp2
    all_goals
     go_ret
     refine ⟨?_,HB.out⟩
     rw [HM.out]
     try rfl
   ·have hM2:b = false:=by rw [hM];simp;omega
    subst hM2
    obtain rfl:seq = 0:=by omega
    clear hM h3
    go_enter Tryz.func102,Tryz.ntmps102
    go_wp2
    go_ret
    exact ⟨rfl,HB.out⟩
  ·have b2:decide ((key.size:Int) ≤ 32) = false:=by simp;omega
   have hM2:b = false:=by rw [hM];simp;omega
   subst hM2
   clear hM h2
   go_enter Tryz.func102,Tryz.ntmps102
   go_wp2
   go_ret
   exact ⟨rfl,HB.out⟩
 ·have b1:decide ((1:Int) ≤ (key.size:Int)) = false:=by simp;omega
  have hM2:b = false:=by rw [hM];simp;omega
  subst hM2
  clear hM h1
  go_enter Tryz.func102,Tryz.ntmps102
  go_wp2
  go_ret
  exact ⟨rfl,HB.out⟩
end Go.Proofs.Herb
namespace Go.Proofs.Herb
open Go.RowKit
def kput (f:Fact):List UInt8:=esc f.key.data.toList ++ [0,0] ++ tailB f.valid f.seq f.kind
theorem kput_no (f:Fact) (w:World) (hk:f.key.size ≤ maxLen) (h:mayF f = false) :
  Calls Tryz.prog 67 #[.agg f.cells.toArray] w fun e w'=>e = .returned (.tuple #[.slice none 0 0,.int .i64 1]) ∧ Below w.heap.size w w':=by
 have HM:=hid (may_any f (w.alloc (.cells f.cells.toArray 27)) hk)
 rw [h] at HM
 unfold Fact.cells at HM ⊢
 go_enter Tryz.func67,Tryz.ntmps67
 go_wp2_with fail
 (with_reducible refine HM.out.mono ?_)
 rintro e w1 ⟨rfl,hb1⟩
 have HB:=hid (((Below.refl w.heap.size w).alloc (Nat.le_refl _) _).trans (hb1.mono (by simp)))
 clear hb1
 go_wp2_with fail
 go_ret2
 exact ⟨rfl,HB.out⟩
set_option maxRecDepth 100000 in
set_option maxHeartbeats 1000000 in
theorem kput_ok (f:Fact) (o:f.Ok) (w:World) (h:mayF f = true) :
  Calls Tryz.prog 67 #[.agg f.cells.toArray] w fun e w'=>∃ q,e = .returned (.tuple #[.slice q (kput f).length (kput f).length,.int .i64 0]) ∧ Fr w' w.heap.size 5 1 (.slice q (kput f).length (kput f).length) (kput f).length ((kput f).map bv) ∧ Below w.heap.size w w':=by
 have hm:=h
 unfold mayF at hm
 simp only [decide_eq_true_eq] at hm
 have HM:=hid (may_any f (w.alloc (.cells f.cells.toArray 27)) o.key)
 rw [h] at HM
 obtain ⟨N,hN⟩:∃ N,N = (esc f.key.data.toList).length + 2:=⟨_,rfl⟩
 have hkl:(kput f).length = N + 13:=by
  unfold kput
  rw [List.length_append,List.length_append,tailB_len,hN];rfl
 have hNl:N ≤ 66:=by
  have:=esc_len f.key.data.toList
  have h2:f.key.data.toList.length ≤ 32:=by rw [Array.length_toList];exact hm.2.1
  omega
 have hT:=fun w=>tailOf_any f.valid f.seq f.kind o.valid o.seq o.kind w
 have hE:=fun w=>escaped_any f.key (by omega) w
 simp only [← hN] at hE
 rw [hkl]
 have hkp:(kput f).map bv = (esc f.key.data.toList ++ [0,0]).map bv ++ (tailB f.valid f.seq f.kind).map bv:=by unfold kput;rw [List.map_append]
 rw [hkp]
 have HT:=hid hT
 have HE:=hid hE
 obtain ⟨L,hL⟩:∃ L,L = ((tailB f.valid f.seq f.kind).map bv).toArray:=⟨_,rfl⟩
 have hLs:L.size = 13:=by rw [hL];simp [tailB_len]
 have hL1:∀ v ∈ L.toList,v.oneCell' = true:=by rw [hL];exact tailB_one _ _ _
 have hLl:(tailB f.valid f.seq f.kind).map bv = L.toList:=by rw [hL]
 rw [← hL] at HT
 have HL:=hid hL
 have HLs:=hid hLs
 have HL1:=hid hL1
 have HLl:=hid hLl
 clear hN hkl hT hE hkp o hm hL hLs hL1 hLl h
 unfold Fact.cells at HM ⊢
 go_enter Tryz.func67,Tryz.ntmps67
 go_wp2_with fail
 (with_reducible refine HM.out.mono ?_)
 rintro e w1 ⟨rfl,hb1⟩
 obtain ⟨F,hF⟩:∃ F:List Value,F = [.string f.key,.int .u32 (f.valid:Int),.int .u64 (f.seq:Int),.int .u64 (f.line:Int),.int .u8 (f.kind:Int),.string f.val]:=⟨_,rfl⟩
 have hz:=hb1.size
 rw [World.size_alloc] at hz
 have hbox:w1.heap[w.heap.size]? = some (.cells #[.string f.key,.int .u32 (f.valid:Int),.int .u64 (f.seq:Int),.int .u64 (f.line:Int),.int .u8 (f.kind:Int),.string f.val] 27 (0,0)):=(hb1.block _ (by simp)).trans (heap_alloc_new w _)
 have c0:w1.cell? ⟨w.heap.size,0,none⟩ = some (.string f.key):=by rw [cell_of_row _ _ _ _ _ _ hbox];rfl
 have c1:w1.cell? ⟨w.heap.size,1,none⟩ = some (.int .u32 (f.valid:Int)):=by rw [cell_of_row _ _ _ _ _ _ hbox];rfl
 have c2:w1.cell? ⟨w.heap.size,2,none⟩ = some (.int .u64 (f.seq:Int)):=by rw [cell_of_row _ _ _ _ _ _ hbox];rfl
 have c4:w1.cell? ⟨w.heap.size,4,none⟩ = some (.int .u8 (f.kind:Int)):=by rw [cell_of_row _ _ _ _ _ _ hbox];rfl
 have HB1:=hid (((Below.refl w.heap.size w).alloc (Nat.le_refl _) _).trans (hb1.mono (by simp)))
 have Hbox:=hid hbox
 clear hb1 hbox hF F
 go_upto_region 3 with (fail)
 go_wp2_with (first
  | (go_at_call 100;refine (HT.out _).mono ?_;rintro e w2 ⟨rfl,hb2⟩;have hz2:=hb2.size;have HB2:=hid (HB1.out.trans (hb2.mono (by omega)));have Hbox2:=hid ((hb2.block _ (by omega)).trans Hbox.out);clear hb2)
  | (refine wpList_store_block rfl 152 _ _ rfl _ _ _ _ rfl rfl (heap_alloc_new _ _) (by rw [HLs.out];rfl) (by rw [HLs.out];exact infoTail) HL1.out ?_))
 generalize hw3:(w2.alloc (.cells #[.int .u8 0,.int .u8 0,.int .u8 0,.int .u8 0,.int .u8 0,.int .u8 0,.int .u8 0,.int .u8 0,.int .u8 0,.int .u8 0,.int .u8 0,.int .u8 0,.int .u8 0] 152)).setRow w2.heap.size L = w3
 have hT3:w3.heap[w2.heap.size]? = some (.cells L 152 (0,0)):=by rw [← hw3];exact setRow_heap _ _ _ _ _ _ (heap_alloc_new _ _)
 have hB3:Below w2.heap.size w2 w3:=by rw [← hw3];exact below_setRow ((Below.refl _ _).alloc (Nat.le_refl _) _) (Nat.le_refl _) _
 have d0:w3.drew.cell? ⟨w.heap.size,0,none⟩ = some (.string f.key):=by
  have hb3:w3.heap[w.heap.size]? = _:=(hB3.block _ (by omega)).trans Hbox2.out
  exact (cell_of_row w3 _ _ _ _ _ hb3).trans rfl
 have hs3:=hB3.size
 have HT3:=hid hT3
 have HB3:=hid ((HB2.out.trans (hB3.mono (by omega))).drew)
 have hws:w.heap.size ≤ w3.heap.size:=by omega
 have HRT:=hid (show ∀ w',Below w3.drew.heap.size w3.drew w' → Rd w' (some ⟨w2.heap.size,0,none⟩) ((tailB f.valid f.seq f.kind).map bv) from fun w' hb=>Rd.block ((hb.block w2.heap.size (lt_of_block HT3.out)).trans HT3.out) (fun j u hu=>by rw [Nat.zero_add,← Array.getElem?_toList,← HLl.out];exact hu))
 clear hw3 hT3 hB3 c0 c1 c2 c4 HM HT HB1 Hbox
 go_region_law (first
  | (refine app22s rfl (.tmp 17) (.tmp 18) rfl w.heap.size _ N _ (esc f.key.data.toList ++ [0,0]) rfl (own_mono HO4.out hws) _ 13 13 (tailB f.valid f.seq f.kind) rfl (fun h=>by cases h) (tailB_len _ _ _) (HRT.out _ HB4.out) (by omega) (by omega) ?_;intro q5 c5 w5 g5;have G5:=hid g5;clear g5)
  | (go_simp;go_wp2_with (first | (go_at_call 101;refine (HE.out _).mono ?_;rintro e w4 ⟨q4,c4,rfl,ho4,hb4⟩;have HO4:=hid ho4;have hz4:w3.heap.size ≤ w4.heap.size:=hb4.size;have HB4:=hid hb4;clear ho4 hb4) | (go_at_call 53;refine (clip_bytes _ _ _ _ G5.out.len G5.out.max).mono ?_;rintro e w6 ⟨rfl,rfl⟩))))
 go_wp2_with fail
 go_ret2
 refine ⟨_,rfl, ?_,HB3.out.trans ((HB4.out.mono hws).trans G5.out.below)⟩
 rw [← List.map_append]
 exact (Fr.of_own G5.out.own).clip
end Go.Proofs.Herb
namespace Go.Proofs.Herb
open Go.RowKit
def sLt (a b:ByteArray):Bool:=Op.bytesLess a.toList b.toList
def cmpS (a b:ByteArray):Int:=if sLt a b = true then -1 else if (a.toList == b.toList) = true then 0 else 1
def cmpN (a b:Nat):Int:=if a < b then -1 else if b < a then 1 else 0
def orZ:List Int → Int
 | []=>0
 | x :: l=>if x = 0 then orZ l else x
def cmpF (a b:Fact):Int:=orZ [cmpS a.key b.key,cmpN b.valid a.valid,cmpN b.seq a.seq,cmpN a.kind b.kind]
theorem seqS {a b:ByteArray} (h:a = b):(a.toList == b.toList) = true:=by rw [h];exact beq_self_eq_true _
theorem nanS (a:ByteArray) (w:World):Calls Tryz.prog 129 #[.string a] w fun e w'=>e = .returned (.bool false) ∧ w = w':=by
 have h:=seqS (rfl:a = a)
 go_enter Tryz.func129,Tryz.ntmps129
 go_wp2
 go_ret
 exact ⟨rfl,rfl⟩
theorem nanK (a:Int) (w:World):Calls Tryz.prog 132 #[.int .u8 a] w fun e w'=>e = .returned (.bool false) ∧ w = w':=by
 go_enter Tryz.func132,Tryz.ntmps132
 go_wp2
 go_ret
 exact ⟨rfl,rfl⟩
theorem nan32 (a:Int) (w:World):Calls Tryz.prog 140 #[.int .u32 a] w fun e w'=>e = .returned (.bool false) ∧ w = w':=by
 go_enter Tryz.func140,Tryz.ntmps140
 go_wp2
 go_ret
 exact ⟨rfl,rfl⟩
theorem nan64 (a:Int) (w:World):Calls Tryz.prog 141 #[.int .u64 a] w fun e w'=>e = .returned (.bool false) ∧ w = w':=by
 go_enter Tryz.func141,Tryz.ntmps141
 go_wp2
 go_ret
 exact ⟨rfl,rfl⟩
set_option maxHeartbeats 800000 in
theorem cmpS_any (a b:ByteArray) (w:World):Calls Tryz.prog 116 #[.string a,.string b] w fun e w'=>e = .returned (.int .i64 (cmpS a b)) ∧ w = w':=by
 have hd:cmpS a b = if sLt a b = true then -1 else if (a.toList == b.toList) = true then 0 else 1:=rfl
 unfold sLt at hd
 obtain ⟨C,hC⟩:∃ C,C = cmpS a b:=⟨_,rfl⟩
 rw [← hC] at hd ⊢
 clear hC
 by_cases h1:Op.bytesLess a.toList b.toList = true
 ·rw [if_pos h1] at hd
  subst hd
  go_enter Tryz.func116,Tryz.ntmps116
  go_wp2_with (go_at_call 129;refine (nanS _ _).mono ?_;rintro e w' ⟨rfl,rfl⟩)
  go_ret
  exact ⟨rfl,rfl⟩
 ·rw [if_neg h1] at hd
  have h1:Op.bytesLess a.toList b.toList = false:=by simpa using h1
  by_cases h2:(a.toList == b.toList) = true
  ·rw [if_pos h2] at hd
   subst hd
   go_enter Tryz.func116,Tryz.ntmps116
   go_wp2_with (go_at_call 129;refine (nanS _ _).mono ?_;rintro e w' ⟨rfl,rfl⟩)
   go_ret
   exact ⟨rfl,rfl⟩
  ·rw [if_neg h2] at hd
   have h2:(a.toList == b.toList) = false:=by simpa using h2
   subst hd
   go_enter Tryz.func116,Tryz.ntmps116
   go_wp2_with (go_at_call 129;refine (nanS _ _).mono ?_;rintro e w' ⟨rfl,rfl⟩)
   go_ret
   exact ⟨rfl,rfl⟩
set_option maxHeartbeats 800000 in
theorem cmpK_any (a b:Nat) (w:World):Calls Tryz.prog 119 #[.int .u8 (a:Int),.int .u8 (b:Int)] w fun e w'=>e = .returned (.int .i64 (cmpN a b)) ∧ w = w':=by
 have hd:cmpN a b = if a < b then -1 else if b < a then 1 else 0:=rfl
 obtain ⟨C,hC⟩:∃ C,C = cmpN a b:=⟨_,rfl⟩
 rw [← hC] at hd ⊢
 clear hC
 by_cases h1:a < b
 ·rw [if_pos h1] at hd
  subst hd
  go_enter Tryz.func119,Tryz.ntmps119
  go_wp2_with (go_at_call 132;refine (nanK _ _).mono ?_;rintro e w' ⟨rfl,rfl⟩)
  go_ret
  exact ⟨rfl,rfl⟩
 ·rw [if_neg h1] at hd
  by_cases h2:b < a
  ·rw [if_pos h2] at hd
   subst hd
   go_enter Tryz.func119,Tryz.ntmps119
   go_wp2_with (go_at_call 132;refine (nanK _ _).mono ?_;rintro e w' ⟨rfl,rfl⟩)
   go_ret
   exact ⟨rfl,rfl⟩
  ·rw [if_neg h2] at hd
   subst hd
   go_enter Tryz.func119,Tryz.ntmps119
   go_wp2_with (go_at_call 132;refine (nanK _ _).mono ?_;rintro e w' ⟨rfl,rfl⟩)
   go_ret
   exact ⟨rfl,rfl⟩
set_option maxHeartbeats 800000 in
theorem cmp32_any (a b:Nat) (w:World):Calls Tryz.prog 130 #[.int .u32 (a:Int),.int .u32 (b:Int)] w fun e w'=>e = .returned (.int .i64 (cmpN a b)) ∧ w = w':=by
 have hd:cmpN a b = if a < b then -1 else if b < a then 1 else 0:=rfl
 obtain ⟨C,hC⟩:∃ C,C = cmpN a b:=⟨_,rfl⟩
 rw [← hC] at hd ⊢
 clear hC
 by_cases h1:a < b
 ·rw [if_pos h1] at hd
  subst hd
  go_enter Tryz.func130,Tryz.ntmps130
  go_wp2_with (go_at_call 140;refine (nan32 _ _).mono ?_;rintro e w' ⟨rfl,rfl⟩)
  go_ret
  exact ⟨rfl,rfl⟩
 ·rw [if_neg h1] at hd
  by_cases h2:b < a
  ·rw [if_pos h2] at hd
   subst hd
   go_enter Tryz.func130,Tryz.ntmps130
   go_wp2_with (go_at_call 140;refine (nan32 _ _).mono ?_;rintro e w' ⟨rfl,rfl⟩)
   go_ret
   exact ⟨rfl,rfl⟩
  ·rw [if_neg h2] at hd
   subst hd
   go_enter Tryz.func130,Tryz.ntmps130
   go_wp2_with (go_at_call 140;refine (nan32 _ _).mono ?_;rintro e w' ⟨rfl,rfl⟩)
   go_ret
   exact ⟨rfl,rfl⟩
set_option maxHeartbeats 800000 in
theorem cmp64_any (a b:Nat) (w:World):Calls Tryz.prog 131 #[.int .u64 (a:Int),.int .u64 (b:Int)] w fun e w'=>e = .returned (.int .i64 (cmpN a b)) ∧ w = w':=by
 have hd:cmpN a b = if a < b then -1 else if b < a then 1 else 0:=rfl
 obtain ⟨C,hC⟩:∃ C,C = cmpN a b:=⟨_,rfl⟩
 rw [← hC] at hd ⊢
 clear hC
 by_cases h1:a < b
 ·rw [if_pos h1] at hd
  subst hd
  go_enter Tryz.func131,Tryz.ntmps131
  go_wp2_with (go_at_call 141;refine (nan64 _ _).mono ?_;rintro e w' ⟨rfl,rfl⟩)
  go_ret
  exact ⟨rfl,rfl⟩
 ·rw [if_neg h1] at hd
  by_cases h2:b < a
  ·rw [if_pos h2] at hd
   subst hd
   go_enter Tryz.func131,Tryz.ntmps131
   go_wp2_with (go_at_call 141;refine (nan64 _ _).mono ?_;rintro e w' ⟨rfl,rfl⟩)
   go_ret
   exact ⟨rfl,rfl⟩
  ·rw [if_neg h2] at hd
   subst hd
   go_enter Tryz.func131,Tryz.ntmps131
   go_wp2_with (go_at_call 141;refine (nan64 _ _).mono ?_;rintro e w' ⟨rfl,rfl⟩)
   go_ret
   exact ⟨rfl,rfl⟩
theorem fall32_any (a b:Nat) (w:World):Calls Tryz.prog 117 #[.int .u32 (a:Int),.int .u32 (b:Int)] w fun e w'=>e = .returned (.int .i64 (cmpN b a)) ∧ w = w':=by
 go_enter Tryz.func117,Tryz.ntmps117
 go_wp2_with (go_at_call 130;refine (cmp32_any _ _ _).mono ?_;rintro e w' ⟨rfl,rfl⟩)
 go_ret
 exact ⟨rfl,rfl⟩
theorem fall64_any (a b:Nat) (w:World):Calls Tryz.prog 118 #[.int .u64 (a:Int),.int .u64 (b:Int)] w fun e w'=>e = .returned (.int .i64 (cmpN b a)) ∧ w = w':=by
 go_enter Tryz.func118,Tryz.ntmps118
 go_wp2_with (go_at_call 131;refine (cmp64_any _ _ _).mono ?_;rintro e w' ⟨rfl,rfl⟩)
 go_ret
 exact ⟨rfl,rfl⟩
theorem orZ_skip (l:List Int) (k:Nat) (h:∀ x ∈ l.take k,x = 0):orZ l = orZ (l.drop k):=by
 induction k generalizing l with
 | zero=>rfl
 | succ k ih =>
  cases l with
  | nil=>rfl
  | cons x l =>
   rw [List.take_succ_cons] at h
   rw [orZ,if_pos (h x (by simp)),List.drop_succ_cons]
   exact ih l (fun y hy=>h y (by simp [hy]))
set_option maxHeartbeats 800000 in
theorem or_any (b c:Nat) (l:List Int) (n:Nat) (w:World) (hn:l.length = n) (hm:n ≤ 1000000) (hr:∀ j,(h:j < l.length) → w.cell? ⟨b,j,none⟩ = some (.int .i64 l[j])) :
  Calls Tryz.prog 115 #[.slice (some ⟨b,0,none⟩) n c] w fun e w'=>e = .returned (.int .i64 (orZ l)) ∧ w = w':=by
 have Hn:=hid hn
 have Hr:=hid hr
 clear hn hr
 go_enter Tryz.func115,Tryz.ntmps115
 go_wp2
 go_loop [8] (fun i=>∃ k:Nat,k ≤ n ∧ i = .int .i64 (k:Int) ∧ ∀ x ∈ l.take k,x = 0) (fun i=>n - (intOf i).toNat)
 case atStart=>exact ⟨0,Nat.zero_le _,rfl,by simp⟩
 case round =>
  obtain ⟨k,hk,rfl,hz⟩:=hrel
  have HZ:=hid hz
  clear hz
  by_cases hlt:k < n
  ·have hkl:k < l.length:=by rw [Hn.out];exact hlt
   have hc:=Hr.out k hkl
   obtain ⟨x,hx⟩:∃ x,x = l[k]:=⟨_,rfl⟩
   rw [← hx] at hc
   have HX:=hid hx
   clear hx
   by_cases hx0:x = 0
   ·subst hx0
    go_wp2
    go_round
    case rel =>
     refine ⟨k + 1,by omega,by go_num,fun y hy => ?_⟩
     rw [List.take_succ_eq_append_getElem hkl,List.mem_append] at hy
     rcases hy with hy | hy
     ·exact HZ.out y hy
     ·rw [List.mem_singleton.1 hy];exact HX.out.symm
    case measure=>simp [intOf];omega
   ·have hb:(x != 0) = true:=by simpa using hx0
    have hfin:orZ l = x:=by
     rw [orZ_skip l k HZ.out,List.drop_eq_getElem_cons hkl,orZ,← HX.out,if_neg hx0]
    have HF:=hid hfin
    clear hfin hx0
    go_wp2
    go_ret
    exact ⟨by rw [HF.out];rfl,rfl⟩
  ·have hfin:orZ l = 0:=by
    rw [orZ_skip l l.length (by rw [List.take_length];have:=HZ.out;rwa [List.take_of_length_le (by rw [Hn.out];omega)] at this),List.drop_length];rfl
   have HF:=hid hfin
   clear hfin
   go_wp2
   go_ret
   exact ⟨by rw [HF.out];rfl,rfl⟩
set_option maxRecDepth 100000 in
set_option maxHeartbeats 1000000 in
theorem cmpF_any (f g:Fact) (w:World) :
  Calls Tryz.prog 86 #[.agg f.cells.toArray,.agg g.cells.toArray] w fun e w'=>e = .returned (.int .i64 (cmpF f g)) ∧ Below w.heap.size w w':=by
 obtain ⟨fk,fv,fs,fl,fd,fx⟩:=f
 obtain ⟨gk,gv,gs,gl,gd,gx⟩:=g
 have hd:cmpF ⟨fk,fv,fs,fl,fd,fx⟩ ⟨gk,gv,gs,gl,gd,gx⟩ = orZ [cmpS fk gk,cmpN gv fv,cmpN gs fs,cmpN fd gd]:=rfl
 unfold Fact.cells
 dsimp only
 rw [hd]
 clear hd
 obtain ⟨C1,h1⟩:∃ C,C = cmpS fk gk:=⟨_,rfl⟩
 obtain ⟨C2,h2⟩:∃ C,C = cmpN gv fv:=⟨_,rfl⟩
 obtain ⟨C3,h3⟩:∃ C,C = cmpN gs fs:=⟨_,rfl⟩
 obtain ⟨C4,h4⟩:∃ C,C = cmpN fd gd:=⟨_,rfl⟩
 rw [← h1,← h2,← h3,← h4]
 obtain ⟨Z,hZ⟩:∃ Z,Z = orZ [C1,C2,C3,C4]:=⟨_,rfl⟩
 rw [← hZ]
 have H1:=hid (fun w=>h1 ▸ cmpS_any fk gk w)
 have H2:=hid (fun w=>h2 ▸ fall32_any fv gv w)
 have H3:=hid (fun w=>h3 ▸ fall64_any fs gs w)
 have H4:=hid (fun w=>h4 ▸ cmpK_any fd gd w)
 have HZ:=hid hZ
 clear h1 h2 h3 h4 hZ
 go_enter Tryz.func86,Tryz.ntmps86
 go_wp2
 generalize hw1:(w.alloc (.cells #[.string fk,.int .u32 (fv:Int),.int .u64 (fs:Int),.int .u64 (fl:Int),.int .u8 (fd:Int),.string fx] 27)).alloc (.cells #[.string gk,.int .u32 (gv:Int),.int .u64 (gs:Int),.int .u64 (gl:Int),.int .u8 (gd:Int),.string gx] 27) = w1
 have hs1:w1.heap.size = w.heap.size + 2:=by rw [← hw1];simp
 have hB1:Below w.heap.size w w1:=by rw [← hw1];exact ((Below.refl _ _).alloc (Nat.le_refl _) _).alloc (by simp) _
 have hf:w1.heap[w.heap.size]? = some (.cells #[.string fk,.int .u32 (fv:Int),.int .u64 (fs:Int),.int .u64 (fl:Int),.int .u8 (fd:Int),.string fx] 27 (0,0)):=by
  rw [← hw1];exact (Below.heap_alloc _ _ _ (by simp)).trans (heap_alloc_new w _)
 have hg:w1.heap[w.heap.size + 1]? = some (.cells #[.string gk,.int .u32 (gv:Int),.int .u64 (gs:Int),.int .u64 (gl:Int),.int .u8 (gd:Int),.string gx] 27 (0,0)):=by
  rw [← hw1]
  have:=heap_alloc_new (w.alloc (.cells #[.string fk,.int .u32 (fv:Int),.int .u64 (fs:Int),.int .u64 (fl:Int),.int .u8 (fd:Int),.string fx] 27)) (.cells #[.string gk,.int .u32 (gv:Int),.int .u64 (gs:Int),.int .u64 (gl:Int),.int .u8 (gd:Int),.string gx] 27)
  rwa [World.size_alloc] at this
 have a0:w1.drew.cell? ⟨w.heap.size,0,none⟩ = some (.string fk):=(cell_of_row w1 _ _ _ _ _ hf).trans rfl
 have a1:w1.drew.cell? ⟨w.heap.size,1,none⟩ = some (.int .u32 (fv:Int)):=(cell_of_row w1 _ _ _ _ _ hf).trans rfl
 have a2:w1.drew.cell? ⟨w.heap.size,2,none⟩ = some (.int .u64 (fs:Int)):=(cell_of_row w1 _ _ _ _ _ hf).trans rfl
 have a4:w1.drew.cell? ⟨w.heap.size,4,none⟩ = some (.int .u8 (fd:Int)):=(cell_of_row w1 _ _ _ _ _ hf).trans rfl
 have b0:w1.drew.cell? ⟨w.heap.size + 1,0,none⟩ = some (.string gk):=(cell_of_row w1 _ _ _ _ _ hg).trans rfl
 have b1:w1.drew.cell? ⟨w.heap.size + 1,1,none⟩ = some (.int .u32 (gv:Int)):=(cell_of_row w1 _ _ _ _ _ hg).trans rfl
 have b2:w1.drew.cell? ⟨w.heap.size + 1,2,none⟩ = some (.int .u64 (gs:Int)):=(cell_of_row w1 _ _ _ _ _ hg).trans rfl
 have b4:w1.drew.cell? ⟨w.heap.size + 1,4,none⟩ = some (.int .u8 (gd:Int)):=(cell_of_row w1 _ _ _ _ _ hg).trans rfl
 have HB1:=hid hB1.drew
 clear hw1 hB1 hf hg
 refine wp_region_still_tail 20 (by kernel_rfl) (by kernel_rfl) ?_
 simp only [List.take_succ_cons,List.take_zero,List.drop_succ_cons,List.drop_zero]
 change wpStill Tryz.prog _ w1.drew (fun a'=>wpList _ _ _ _ a' w1.drew) _ _
 have hs2:w1.drew.heap.size = w.heap.size + 2:=hs1
 generalize w1.drew = w2 at *
 clear hs1
 repeat still_step
 still_call (((H1.out w2)).mono (fun _ _ h=>⟨h.1,h.2.symm⟩))
 repeat still_step
 still_call (((H2.out w2)).mono (fun _ _ h=>⟨h.1,h.2.symm⟩))
 repeat still_step
 still_call (((H3.out w2)).mono (fun _ _ h=>⟨h.1,h.2.symm⟩))
 repeat still_step
 still_call (((H4.out w2)).mono (fun _ _ h=>⟨h.1,h.2.symm⟩))
 repeat still_step
 refine wpStill_nil ?_
 have hcells:∀ j,(h:j < [C1,C2,C3,C4].length) → (w2.alloc (.cells #[.int .i64 C1,.int .i64 C2,.int .i64 C3,.int .i64 C4] 3)).cell? ⟨w.heap.size + 2,j,none⟩ = some (.int .i64 [C1,C2,C3,C4][j]):=by
  intro j hj
  rw [← hs2,World.cell?_alloc_new]
  match j,hj with
  | 0,_=>rfl
  | 1,_=>rfl
  | 2,_=>rfl
  | 3,_=>rfl
 have HC:=hid hcells
 clear hcells
 go_wp2_with (go_at_call 115;refine (or_any _ _ [C1,C2,C3,C4] 4 _ rfl (by decide) HC.out).mono ?_;rintro e w' ⟨rfl,rfl⟩)
 go_ret
 exact ⟨by rw [HZ.out];rfl,HB1.out.alloc (by omega) _⟩
end Go.Proofs.Herb
namespace Go.Proofs.Herb
open Go.RowKit
section
variable {P:Program}
theorem run_append_own_src (w:World) (base:Nat) (t tx ty e:TypeId) (i:TypeInfo) (z:Value) (size bytes:Nat) (ht:P.underlying t = some (.slice e)) (hi:P.info? e = some i) (hz:i.zero = some z)
  (hsize:i.size = size) (hby:i.bytes = bytes) (hzs:z.cells.size = size) (hsz:0 < size) (v:Value) (n:Nat) (xs:List Value) (hown:w.ownsRow base e size v n xs) (x:Value) (m:Nat) (news:List Value)
  (hs:Src P size tx x m news w) (h63:n + m ≤ maxLen) (hbytes:(n + m) * bytes ≤ 140737488355328) (hbase:base ≤ w.heap.size) :
  ∃ q' c' w',(Builtin.append_ #[t,tx] ty #[v,x]).run P w = .ok (.slice q' (n + m) c') w' ∧ w'.ownsRow base e size (.slice q' (n + m) c') (n + m) (xs ++ news) ∧ w.grownBy w' v.ownBlock ∧
   (v = .slice q' n c' ∨ ∃ g,q' = some ⟨g,0,none⟩ ∧ w.heap.size ≤ g):=by
 have hlen:(xs ++ news).length = (n + m) * size:=by rw [List.length_append,hown.1,hs.newsLen,Nat.add_mul]
 have grows:∀ (q:Option Addr) (cap:Nat),v = .slice q n cap → Rd w q xs → cap < n + m → ∃ q' c' w',(Builtin.append_ #[t,tx] ty #[v,x]).run P w = .ok (.slice q' (n + m) c') w' ∧ w'.ownsRow base e size (.slice q' (n + m) c') (n + m) (xs ++ news) ∧ w.grownBy w' v.ownBlock ∧
   (v = .slice q' n c' ∨ ∃ g,q' = some ⟨g,0,none⟩ ∧ w.heap.size ≤ g):=by
  intro q cap hv hr hg
  subst hsize
  subst hby
  subst hv
  have hold:(Builtin.firstCells i.size n (.slice q n cap)).run P w.drew = .ok xs.toArray w.drew:=by
   cases q with
   | none=>rw [hr.none];exact run_firstCells_none _ _ _ _ _
   | some b=>exact run_firstCells_some (P:=P) w.drew i.size n b n cap xs hown.1 (by simpa using hr.add)
  have hge:=grownCap_ge w (n + m) cap e
  have hcm:grownCap w (n + m) cap e ≤ maxLen:=grownCap_le_maxLen w (n + m) cap e h63
  have hrun:=run_append_grow_src (P:=P) w t tx ty e i z ht hi hz q n cap xs hold x m news hs hg (by simp only [maxLen] at h63;omega) (growslice_fits hg hbytes)
  refine ⟨_,_,_,hrun,⟨hlen,.inr ⟨w.heap.size,_,_,rfl,hbase,heap_alloc_new w.drew _,hge,hcm, ?_, ?_⟩⟩,⟨rfl,rfl,rfl,by simp,fun k hk _=>Below.heap_alloc w.drew _ k hk⟩,.inr ⟨_,rfl,Nat.le_refl _⟩⟩
  ·simp only [Array.size_append,List.size_toArray,size_zeroCells,hzs,hlen,← Nat.add_mul]
   congr 1
   omega
  ·simp only [Array.toList_append]
   rw [← hlen]
   exact List.take_left
 rcases hown.2 with ⟨rfl,rfl⟩ | ⟨g,cap,cur,rfl,hbg,hg,hnc,hcm,hcs,htake⟩
 ·by_cases hm:m = 0
  ·subst hm
   have hn0:news = []:=List.eq_nil_of_length_eq_zero (by have:=hs.newsLen;omega)
   subst hn0
   have hx0:xs = []:=List.eq_nil_of_length_eq_zero (by have:=hown.1;omega)
   subst hx0
   subst hsize
   have hc:=hs.cells
   refine ⟨none,0,w, ?_,World.ownsRow_nil _ _ _ _,World.grownBy.refl _ _,.inl rfl⟩
   rcases hs.kind with ⟨e',hk⟩ | hk <;> simp [Builtin.append_,run_underlying ht,run_underlying hk,sizeOf,typeInfo,hi,hs.len,hc]
  ·exact grows none 0 rfl (.inl (List.eq_nil_of_length_eq_zero (by have:=hown.1;omega))) (by omega)
 ·by_cases hroom:n + m ≤ cap
  ·have hfit:n * size + news.length ≤ cur.size:=by rw [hs.newsLen,← Nat.add_mul,hcs];exact Nat.mul_le_mul_right _ hroom
   have hst:=run_storeCells_at P g (n * size) e news 0 cur w hg (by simpa using hfit) hs.one
   simp only [Nat.add_zero] at hst
   have hc:=hs.cells
   subst hsize
   refine ⟨_,_,w.setRow g (cur.toList.take (n * i.size) ++ news ++ cur.toList.drop (n * i.size + news.length)).toArray, ?_,⟨hlen,.inr ⟨g,cap,_,rfl,hbg,setRow_heap w g cur _ e _ hg,hroom,hcm, ?_, ?_⟩⟩,⟨rfl,rfl,rfl,by simp,fun k _ hk=>setRow_other w g k _ (fun e=>hk (by simp [Value.ownBlock,e]))⟩,.inl rfl⟩
   ·rcases hs.kind with ⟨e',hk⟩ | hk <;> simp [Builtin.append_,run_underlying ht,run_underlying hk,sizeOf,typeInfo,hi,hs.len,hc,hroom,Addr.add_lit,hst]
   ·simp only [List.size_toArray,List.length_append,List.length_take,List.length_drop,Array.length_toList]
    omega
   ·rw [htake,← hlen]
    exact List.take_left
  ·refine grows _ cap rfl ?_ (by omega)
   exact .inr ⟨g,0,rfl,fun j u hu=>by
    have:=hown.cells (g:=g) rfl j u hu
    rw [Addr.add_lit] at this
    exact this⟩
theorem wpList_append_src {w:World} {ops:Array Oper} {rest:List Oper} {o:Oper} {a:Act} {Q:Exit → Act → World → Prop} (hgd:o.guard = none) (s x:Operand) (t tx:TypeId)
  (ho:o.op = .call { callee:=.builtin .append,args := #[s,x],argTypes := #[t,tx] })
  (base:Nat) (e:TypeId) (z:Value) (size bytes:Nat) (ht:P.underlying t = some (.slice e)) (hinfo:(P.info? e).map (fun i=>(i.zero,i.size,i.bytes)) = some (some z,size,bytes)) (hzs:z.cells.size = size) (hsz:0 < size)
  (q:Option Addr) (n c:Nat) (xs:List Value) (hs:a.eval s = .slice q n c) (hown:w.ownsRow base e size (.slice q n c) n xs)
  (X:Value) (m:Nat) (news:List Value) (hx:a.eval x = X) (hsrc:Src P size tx X m news w) (h63:n + m ≤ maxLen) (hbytes:(n + m) * bytes ≤ 140737488355328) (hbase:base ≤ w.heap.size)
  (h:∀ q' c' w',w'.ownsRow base e size (.slice q' (n + m) c') (n + m) (xs ++ news) → w.grownBy w' (Value.ownBlock (.slice q n c)) → (q' = q ∨ ∃ g,q' = some ⟨g,0,none⟩ ∧ w.heap.size ≤ g) → wpList P ops Q rest (a.put o.dst (.slice q' (n + m) c')) w'):wpList P ops Q (o :: rest) a w:=by
 obtain ⟨i,hi,hz,hsize,hby⟩:=info_parts hinfo
 obtain ⟨q',c',w',hrun,h1,h2,h3⟩:=run_append_own_src (P:=P) w base t tx o.type e i z size bytes ht hi hz hsize hby hzs hsz _ n xs hown X m news hsrc h63 hbytes hbase
 refine wpList_plain hgd fun K hK => ?_
 unfold Oper.wp execOp
 simp only [ho,resolve,invoke,builtin,Sem.run_bind,Sem.run_pure,Result.andThen_ok,List.map_toArray,List.map_cons,List.map_nil,hs,hx,hrun]
 refine hK _ _ (h q' c' w' h1 h2 ?_)
 rcases h3 with h3 | h3
 ·rw [Value.slice.injEq] at h3;exact .inl h3.1.symm
 ·exact .inr h3
end
structure Grew2 (base:Nat) (w w':World) (q q':Option Addr) (m c':Nat) (l:List UInt8):Prop extends Grew base w w' q q' m c' l where
 place:q' = q ∨ ∃ g,q' = some ⟨g,0,none⟩ ∧ w.heap.size ≤ g
section
variable {ops:Array Oper} {rest:List Oper} {o:Oper} {a:Act} {w:World} {Q:Exit → Act → World → Prop}
theorem app2 (hgd:o.guard = none) (s x:Operand) (ho:o.op = .call { callee:=.builtin .append,args := #[s,x],argTypes := #[22,22] })
  (base:Nat) (q:Option Addr) (n c:Nat) (l:List UInt8) (hs:a.eval s = .slice q n c) (hown:w.ownsRow base 5 1 (.slice q n c) n (l.map bv))
  (ad:Option Addr) (m d:Nat) (k:List UInt8) (hx:a.eval x = .slice ad m d) (hl:k.length = m) (hr:Rd w ad (k.map bv)) (hsz:n + m ≤ 1000000000000) (hbase:base ≤ w.heap.size)
  (h:∀ q' c' w',Grew2 base w w' q q' (n + m) c' (l ++ k) → wpList Tryz.prog ops Q rest (a.put o.dst (.slice q' (n + m) c')) w'):wpList Tryz.prog ops Q (o :: rest) a w :=
 wpList_append_src hgd s x 22 22 ho base 5 (.int .u8 0) 1 1 Tryz.underlying22 infoU8 rfl (by decide) q n c (l.map bv) hs hown (.slice ad m d) m (k.map bv) hx (src_rd (by decide) Tryz.underlying22 d (by simp [hl]) hr bv_one) (by unfold maxLen;omega) (by omega) hbase
  (fun q' c' w' h1 h2 h3=>by
   rw [← List.map_append] at h1
   obtain ⟨q2,c2,he,hg⟩:=grew_of hown hbase h1 h2
   rw [Value.slice.injEq] at he
   obtain ⟨rfl,_,rfl⟩:=he
   exact h _ _ w' ⟨hg,h3⟩)
end
def Apart2 (q p:Option Addr):Prop:=∀ b c,q = some b → p = some c → b.block ≠ c.block
theorem Apart2.symm {q p:Option Addr} (h:Apart2 q p):Apart2 p q:=fun b c hb hc e=>h c b hc hb e.symm
theorem Apart2.grew {base:Nat} {w w':World} {q q' p:Option Addr} {m c' n c:Nat} {l:List UInt8} {b0:Nat} {k:List UInt8} (h:Apart2 q p) (g:Grew2 base w w' q q' m c' l) (hp:w.ownsRow b0 5 1 (.slice p n c) n (k.map bv)):Apart2 q' p:=by
 intro b d hb hd
 rcases g.place with rfl | ⟨g',rfl,hg⟩
 ·exact h b d hb hd
 ·cases hb
  subst hd
  intro e
  have:=(hp.lt d.block rfl).2
  simp only at e
  omega
theorem own_grew {base:Nat} {w w':World} {q q' p:Option Addr} {m c' n c:Nat} {l:List UInt8} {b0:Nat} {k:List UInt8} (g:Grew2 base w w' q q' m c' l) (h:Apart2 q p) (hp:w.ownsRow b0 5 1 (.slice p n c) n (k.map bv)):w'.ownsRow b0 5 1 (.slice p n c) n (k.map bv):=by
 obtain ⟨h1,h2⟩:=hp
 refine ⟨h1, ?_⟩
 rcases h2 with h2 | ⟨g',cap,cur,hv,hg,hh,r⟩
 ·exact .inl h2
 ·refine .inr ⟨g',cap,cur,hv,hg,(g.other g' (lt_of_block hh) (fun b hb e => ?_)).trans hh,r⟩
  rw [Value.slice.injEq] at hv
  exact h b ⟨g',0,none⟩ hb hv.1 e.symm
theorem region_quiet_c {P:Program} {C:World → Prop} {id:Nat} {Q:Exit → Act → World → Prop} {a:Act} {w:World} {l:List Oper} (hm:P.follows .mixedOrders = true) (hB:Region.lexB .any l.toArray = true) (hC:C { w with drawn:=w.drawn + 1 })
  (h:wpQuiet P l.toArray C (fun a'=>∀ w',C w' → Q .normal a' w') l a):(Code.region id l.toArray true).wp P Q a w :=
 wp_region_quiet (C:=C) hm hB hC (by simpa using h)
end Go.Proofs.Herb
