/- The reference of chapter 13: pieces. For bytes that can be read. The reference of chapter 13: Open. For bytes that can be read. -/
import Derived.Deep.CutBlock
import Derived.Test.YtbaohpnfiacchaaGreatDoorQb21
import Derived.Test.YtbaohpnfiacchaaGreatDoorQb24
import Derived.Test.YtbaohpnfiacchaaGreatDoorQb35
namespace Go.Proofs.Herb
open Go.RowKit
theorem cells12 {w:World} {B:Nat} {t:TypeId} {v0 v1 v2 v3 v4 v5 v6 v7 v8 v9 v10 v11:Value} (h:w.heap[B]? = some (.cells #[v0,v1,v2,v3,v4,v5,v6,v7,v8,v9,v10,v11] t (0,0))) :
  w.cell? ⟨B,10,none⟩ = some v10 ∧ w.cell? ⟨B,11,none⟩ = some v11:=by
 refine ⟨?_, ?_⟩ <;> (rw [cell_of_row _ _ _ _ _ _ h];rfl)
theorem set12a {w:World} {B:Nat} {t:TypeId} {v0 v1 v2 v3 v4 v5 v6 v7 v8 v9 v10 v11:Value} (h:w.heap[B]? = some (.cells #[v0,v1,v2,v3,v4,v5,v6,v7,v8,v9,v10,v11] t (0,0))) (x:Value) :
  (w.setCell ⟨B,10,none⟩ x).heap[B]? = some (.cells #[v0,v1,v2,v3,v4,v5,v6,v7,v8,v9,x,v11] t (0,0)):=by
 rw [Go.heap_setCell_same w B 10 _ t x h]
 simp only [List.setIfInBounds_toArray,List.set_cons_zero,List.set_cons_succ]
theorem set12b {w:World} {B:Nat} {t:TypeId} {v0 v1 v2 v3 v4 v5 v6 v7 v8 v9 v10 v11:Value} (h:w.heap[B]? = some (.cells #[v0,v1,v2,v3,v4,v5,v6,v7,v8,v9,v10,v11] t (0,0))) (x:Value) :
  (w.setCell ⟨B,11,none⟩ x).heap[B]? = some (.cells #[v0,v1,v2,v3,v4,v5,v6,v7,v8,v9,v10,x] t (0,0)):=by
 rw [Go.heap_setCell_same w B 11 _ t x h]
 simp only [List.setIfInBounds_toArray,List.set_cons_zero,List.set_cons_succ]
theorem own_bel2 {R:Nat} {w w':World} {base:Nat} {e:TypeId} {k n:Nat} {v:Value} {xs:List Value} (h:w.ownsRow base e k v n xs) (hb:Bel2 R w w') (hR:R < base):w'.ownsRow base e k v n xs :=
 bown_keep h fun g hv=>hb.2 g (bown_lt h g hv).2 (by have:=(bown_lt h g hv).1;omega)
theorem Bel2.trans {R:Nat} {w w1 w2:World} (h:Bel2 R w w1) (k:Bel2 R w1 w2):Bel2 R w w2 :=
 ⟨h.1.trans k.1,fun g hg hne=>(k.2 g (by have:=h.1.size;omega) hne).trans (h.2 g hg hne)⟩
theorem Bel2.refl (R:Nat) (w:World):Bel2 R w w:=⟨Below.refl _ _,fun _ _ _=>rfl⟩
def pcB (E1 E2:Int) (T1 T2 VL N1 A N2 fin:Nat):Bool:=decide (E1 = 0 ∧ E2 = 0 ∧ T1 + T2 = VL ∧ N1 = A ∧ 0 < N2 ∧ N2 ≤ fin - A)
theorem idx_piece {fin A:Nat} {x:Item} {r:List Item} {V:List UInt8} (hV:x.val.data.toList = V) {E1 E2:Int} {T1 T2 VL N1 N2:Nat} (hE1:E1 = (getV 0 0 V).2.2) (hT1:T1 = (getV 0 0 V).2.1) (hN1:N1 = (getV 0 0 V).1)
  (hE2:E2 = (getV 0 0 (V.drop T1)).2.2) (hT2:T2 = (getV 0 0 (V.drop T1)).2.1) (hN2:N2 = (getV 0 0 (V.drop T1)).1) (hVL:V.length = VL) :
  idxR fin A (x :: r) = if pcB E1 E2 T1 T2 VL N1 A N2 fin = true then (idxR fin (A + N2) r).map fun l=>⟨x.key,A,A + N2⟩ :: l else none:=by
 have h1:=getV_le V
 have h2:=getV_le (V.drop T1)
 rw [← hT1] at h1
 rw [← hT2,List.length_drop] at h2
 rw [idxR_cons,hV]
 unfold tkB pcB
 rw [← hE1,← hT1,← hN1]
 by_cases a1:E1 = 0
 ·rw [if_pos a1,Option.bind_some]
  dsimp only
  rw [← hE2,← hT2,← hN2]
  by_cases a2:E2 = 0
  ·rw [if_pos a2,Option.bind_some]
   dsimp only
   have e:(V.drop T1).drop T2 = [] ↔ T1 + T2 = VL:=by
    rw [List.drop_eq_nil_iff,List.length_drop];omega
   by_cases a3:T1 + T2 = VL ∧ N1 = A ∧ 0 < N2 ∧ N2 ≤ fin - A
   ·rw [if_pos ⟨e.2 a3.1,a3.2⟩,if_pos (by simp only [decide_eq_true_eq];exact ⟨a1,a2,a3⟩)]
   ·rw [if_neg (fun h=>a3 ⟨e.1 h.1,h.2⟩),if_neg (by simp only [decide_eq_true_eq];exact fun h=>a3 h.2.2)]
  ·rw [if_neg a2,if_neg (by simp only [decide_eq_true_eq];exact fun h=>a2 h.2.1)];rfl
 ·rw [if_neg a1,if_neg (by simp only [decide_eq_true_eq];exact fun h=>a1 h.1)];rfl
def PcsP (bs:List UInt8) (fin R:Nat) (vb vf z0 z1 z2 z3 z4 z5 z6 z7:Value) (w:World) (e:Ending) (w':World):Prop :=
 Bel2 R w w' ∧ (((¬ ∃ l cs,BlkOf bs l ∧ idxR fin 0 l = some cs) ∧ e = .returned (.bool false)) ∨ ∃ l cs,BlkOf bs l ∧ idxR fin 0 l = some cs ∧ e = .returned (.bool true) ∧
  ∃ q1 c1 q2 c2,w'.heap[R]? = some (.cells #[vb,vf,z0,z1,z2,z3,z4,z5,z6,z7,.slice q1 cs.length c1,.slice q2 cs.length c2] 54 (0,0)) ∧ w'.ownsRow w.heap.size 9 1 (.slice q1 cs.length c1) cs.length (cs.map fun c=>stv c.last) ∧ w'.ownsRow w.heap.size 3 1 (.slice q2 cs.length c2) cs.length (cs.map fun c=>nv c.fin))
set_option maxRecDepth 100000 in
set_option maxHeartbeats 20000000 in
theorem pieces_any (R b off m c fin:Nat) (bs:List UInt8) (vb vf z0 z1 z2 z3 z4 z5 z6 z7:Value) (w:World) (hl:bs.length = m) (hc:m ≤ c) (hcm:c ≤ maxLen) (hm:m ≤ 4194304) (hf:fin ≤ 4194304) (hr:Rd w (some ⟨b,off,none⟩) (bs.map bv))
  (hrow:w.heap[R]? = some (.cells #[vb,vf,z0,z1,z2,z3,z4,z5,z6,z7,.slice none 0 0,.slice none 0 0] 54 (0,0))) :
  Calls Tryz.prog 27 #[.pointer (some ⟨R,0,none⟩),.slice (some ⟨b,off,none⟩) m c,.int .i64 (fin:Int)] w (PcsP bs fin R vb vf z0 z1 z2 z3 z4 z5 z6 z7 w):=by
 have hRw:R < w.heap.size:=lt_of_block hrow
 have HG:=hid (rbget_any (some ⟨b,off,none⟩) m c bs w hl hm hc hcm hr)
 have HRow:=hid hrow
 clear hl hr hrow
 go_enter Tryz.func27,Tryz.ntmps27
 go_wp2_with fail
 refine HG.out.mono ?_
 rintro e w1 ⟨hb1,hcase⟩
 have HB1:=hid (two hRw hb1)
 have HRow1:=hid ((hb1.block R hRw).trans HRow.out)
 have hs1:=hb1.size
 clear HG hb1 HRow
 rcases hcase with ⟨hno,er,her,rfl⟩ | ⟨l,hbl,q1,c1,rfl,own1⟩
 ·have he:(er != 0) = true:=by simpa using her
  have HN:=hid (show ¬ ∃ l cs,BlkOf bs l ∧ idxR fin 0 l = some cs from fun ⟨l,cs,h1,_⟩=>hno ⟨l,h1⟩)
  clear hno
  go_wp2
  go_ret
  exact ⟨HB1.out,.inl ⟨HN.out,rfl⟩⟩
 ·have HBl:=hid hbl
  have HSz:=hid (blk_sizes hbl)
  have hll:=(blk_short hbl).2
  obtain ⟨N,hN⟩:∃ N,l.length = N:=⟨_,rfl⟩
  rw [hN] at own1 hll ⊢
  have HN:=hid hN
  have HOwn:=hid own1
  have HNo:=hid (fun (h:idxR fin 0 l = none)=>idx_no hbl h)
  clear own1 hbl hN
  go_wp2_with fail
  go_loopw [9,10] (fun av iv wr=>∃ (k A:Nat) (cs:List Chk) (qa qb:Option Addr) (ca cb:Nat),k ≤ N ∧ iv = .int .i64 (k:Int) ∧ av = .int .i64 (A:Int) ∧ A ≤ fin ∧ Hid (cs.length = k) ∧ Hid (Bel2 R w1 wr) ∧ Hid (wr.heap[R]? = some (.cells #[vb,vf,z0,z1,z2,z3,z4,z5,z6,z7,.slice qa k ca,.slice qb k cb] 54 (0,0))) ∧
   Hid (wr.ownsRow w1.heap.size 9 1 (.slice qa k ca) k (cs.map fun c=>stv c.last)) ∧ Hid (wr.ownsRow w1.heap.size 3 1 (.slice qb k cb) k (cs.map fun c=>nv c.fin)) ∧ Hid (idxR fin 0 l = (idxR fin A (l.drop k)).map (fun x=>cs ++ x))) (fun _ iv _=>N - (intOf iv).toNat)
  case atStart=>exact ⟨0,0,[],none,none,0,0,Nat.zero_le _,rfl,rfl,Nat.zero_le _,rfl,Bel2.refl _ _,HRow1.out,World.ownsRow_nil _ _ _ _,World.ownsRow_nil _ _ _ _,by show _ = _;rw [List.drop_zero];cases idxR fin 0 l <;> rfl⟩
  case round =>
   obtain ⟨k,A,cs,qa,qb,ca,cb,hk,rfl,rfl,hA,HCl,HB,HR,HOa,HOb,HI⟩:=hrel
   have hwr:=HB.out.1.size
   have k0:(0:Int) ≤ (k:Int):=by omega
   have hR1:R < w1.heap.size:=lt_of_block HRow1.out
   by_cases hlt:k < N
   ·have hlt2:k < l.length:=by rw [HN.out];exact hlt
    obtain ⟨K,V,hKV⟩:∃ K V,l[k] = ⟨K,V⟩:=⟨_,_,rfl⟩
    have hdr:l.drop k = ⟨K,V⟩ :: l.drop (k + 1):=by rw [List.drop_eq_getElem_cons hlt2,hKV]
    have hsz:=HSz.out l[k] (List.getElem_mem hlt2)
    rw [hKV] at hsz
    have hV:V.size ≤ 65536:=hsz.2
    have hown2:=own_bel2 HOwn.out HB.out hRw
    obtain ⟨b1,o1,rfl,hb1l,ic0,ic1⟩:=item_at (Fr.of_own hown2).rd hlt2
    rw [hKV] at ic0 ic1
    dsimp only at ic0 ic1
    have hb1w1:b1 < w1.heap.size:=(bown_lt HOwn.out b1 rfl).2
    have hk1:(k:Int) < (N:Int):=by omega
    obtain ⟨c3,w3,cv,rd3,hb3,hc3⟩:=convS wr V
    obtain ⟨VB,hVB⟩:∃ x,x = wr.heap.size:=⟨_,rfl⟩
    rw [← hVB] at cv rd3
    obtain ⟨VL,hVL⟩:∃ x,V.size = x:=⟨_,rfl⟩
    have hvl:V.data.toList.length = VL:=by rw [size_toList];exact hVL
    rw [hVL] at cv hc3 hV
    obtain ⟨VV,hVV⟩:∃ x,V.data.toList = x:=⟨_,rfl⟩
    rw [hVV] at rd3 hvl
    obtain ⟨N1,hN1⟩:∃ x,x = (getV 0 0 VV).1:=⟨_,rfl⟩
    obtain ⟨T1,hT1⟩:∃ x,x = (getV 0 0 VV).2.1:=⟨_,rfl⟩
    obtain ⟨E1,hE1⟩:∃ x,x = (getV 0 0 VV).2.2:=⟨_,rfl⟩
    obtain ⟨N2,hN2⟩:∃ x,x = (getV 0 0 (VV.drop T1)).1:=⟨_,rfl⟩
    obtain ⟨T2,hT2⟩:∃ x,x = (getV 0 0 (VV.drop T1)).2.1:=⟨_,rfl⟩
    obtain ⟨E2,hE2⟩:∃ x,x = (getV 0 0 (VV.drop T1)).2.2:=⟨_,rfl⟩
    have hT1l:=getV_le VV
    have hT2l:=getV_le (VV.drop T1)
    have hN1l:=getV_lt VV 0 0 (by decide) (by decide)
    have hN2l:=getV_lt (VV.drop T1) 0 0 (by decide) (by decide)
    rw [← hT1,hvl] at hT1l
    rw [← hT2,List.length_drop,hvl] at hT2l
    rw [← hN1] at hN1l
    rw [← hN2] at hN2l
    have hpc:=idx_piece (fin:=fin) (A:=A) (x:=⟨K,V⟩) (r:=l.drop (k + 1)) hVV hE1 hT1 hN1 hE2 hT2 hN2 hvl
    rw [← hdr] at hpc
    obtain ⟨OKB,hOKB⟩:∃ x,x = pcB E1 E2 T1 T2 VL N1 A N2 fin:=⟨_,rfl⟩
    rw [← hOKB] at hpc
    have HPC:=hid hpc
    have HOK:=hid hOKB
    obtain ⟨o2,ho2⟩:∃ x,x = if c3 = T1 then 0 else 0 + T1:=⟨_,rfl⟩
    have hsl:=fun w=>slice_from o2 VB 0 VL c3 T1 w hT1l hc3 ho2
    have kv:=rvget_any (some ⟨VB,0,none⟩) VL c3 VV w3 hvl (by omega) rd3
    have hrd4:Rd w3 (some ⟨VB,o2,none⟩) ((VV.drop T1).map bv):=by
     rw [ho2]
     by_cases e:c3 = T1
     ·have:VV.drop T1 = []:=List.drop_eq_nil_of_le (by omega)
      rw [this];exact .inl rfl
     ·rw [if_neg e,List.map_drop];exact rd3.drop T1
    have kt:=rvget_any (some ⟨VB,o2,none⟩) (VL - T1) (c3 - T1) (VV.drop T1) w3 (by rw [List.length_drop,hvl]) (by omega) hrd4
    rw [← hN1,← hT1,← hE1] at kv
    rw [← hN2,← hT2,← hE2] at kt
    have HB3:=hid (HB.out.trans (two (by omega:R < wr.heap.size) hb3))
    have HRr:=hid ((hb3.block R (by omega)).trans HR.out)
    have HOa3:=hid (own_below HOa.out hb3)
    have HOb3:=hid (own_below HOb.out hb3)
    have ic03:=(hb3.cell (p:=⟨b1,o1 + k * 2,none⟩) hb1l).trans ic0
    have hb1l3:b1 < w3.heap.size:=by have:=hb3.size;omega
    have hw3:w1.heap.size ≤ w3.heap.size:=by have:=hb3.size;omega
    obtain ⟨TT,hTT⟩:∃ x,x = T1 + T2:=⟨_,rfl⟩
    have e1:(T1:Int) + (T2:Int) = (TT:Int):=by omega
    have HTT:=hid hTT
    have hTTl:TT ≤ 65536:=by omega
    have u1:IntKind.u64.wrap (A:Int) = (A:Int):=by rw [IntKind.wrap_u64];omega
    have u2:IntKind.u64.wrap (fin:Int) = (fin:Int):=by rw [IntKind.wrap_u64];omega
    clear hVB hVL hVV hN1 hT1 hE1 hN2 hT2 hE2 hpc hOKB ho2 hrd4 rd3 hb3 hTT hdr hKV hsz hown2 hvl hT2l
    go_upto_region 11 with (first
     | (go_at_call 61;(with_reducible refine kv.mono ?_);rintro e w' ⟨rfl,rfl⟩)
     | (go_at_call 61;(with_reducible refine kt.mono ?_);rintro e w' ⟨rfl,rfl⟩))
    clear kv kt hsl cv ic0 ic1
    go_cut [12,15,88] (fun x12 x15 v wd=>x12 = .int .u64 (N1:Int) ∧ x15 = .int .u64 (N2:Int) ∧ v = .bool (!OKB) ∧ w3 = wd)
    case first =>
     by_cases a1:E1 = 0
     rotate_left
     ·have d1:(E1 != 0) = true:=by simpa using a1
      have hf0:OKB = false:=by rw [HOK.out];unfold pcB;simp [a1]
      clear a1
      as_aux_lemma =>
       go_wp2
       all_goals go_meet
       all_goals exact ⟨by first | rfl | exact congrArg (Value.int .u64) (by omega),by first | rfl | exact congrArg (Value.int .u64) (by omega),by first | (rw [hf0];rfl) | (rw [hf0];exact congrArg Value.bool (by simp;omega)),rfl⟩
     subst a1
     by_cases a2:E2 = 0
     rotate_left
     ·have d1:(E2 != 0) = true:=by simpa using a2
      have hf0:OKB = false:=by rw [HOK.out];unfold pcB;simp [a2]
      clear a2
      as_aux_lemma =>
       go_wp2
       all_goals go_meet
       all_goals exact ⟨by first | rfl | exact congrArg (Value.int .u64) (by omega),by first | rfl | exact congrArg (Value.int .u64) (by omega),by first | (rw [hf0];rfl) | (rw [hf0];exact congrArg Value.bool (by simp;omega)),rfl⟩
     subst a2
     by_cases a3:TT = VL
     rotate_left
     ·have hf0:OKB = false:=by rw [HOK.out];unfold pcB;rw [decide_eq_false];rintro ⟨-, -,h, -⟩;exact a3 (by rw [HTT.out];exact h)
      have d1:¬ ((TT:Int) = (VL:Int)):=by omega
      as_aux_lemma =>
       go_wp2
       all_goals go_meet
       all_goals exact ⟨by first | rfl | exact congrArg (Value.int .u64) (by omega),by first | rfl | exact congrArg (Value.int .u64) (by omega),by first | (rw [hf0];rfl) | (rw [hf0];exact congrArg Value.bool (by simp;omega)),rfl⟩
     have d3:(TT:Int) = (VL:Int):=by omega
     by_cases a4:N1 = A
     rotate_left
     ·have hf0:OKB = false:=by rw [HOK.out];unfold pcB;rw [decide_eq_false];rintro ⟨-, -, -,h, -⟩;exact a4 h
      have d1:¬ ((N1:Int) = (A:Int)):=by omega
      clear a3
      as_aux_lemma =>
       go_wp2
       all_goals go_meet
       all_goals exact ⟨by first | rfl | exact congrArg (Value.int .u64) (by omega),by first | rfl | exact congrArg (Value.int .u64) (by omega),by first | (rw [hf0];rfl) | (rw [hf0];exact congrArg Value.bool (by simp;omega)),rfl⟩
     have d4:(N1:Int) = (A:Int):=by omega
     by_cases a5:N2 = 0
     ·have hf0:OKB = false:=by rw [HOK.out];unfold pcB;rw [decide_eq_false];rintro ⟨-, -, -, -,h, -⟩;omega
      have d5:(N2:Int) = 0:=by omega
      clear a3 a4
      as_aux_lemma =>
       go_wp2
       all_goals go_meet
       all_goals exact ⟨by first | rfl | exact congrArg (Value.int .u64) (by omega),by first | rfl | exact congrArg (Value.int .u64) (by omega),by first | (rw [hf0];rfl) | (rw [hf0];exact congrArg Value.bool (by simp;omega)),rfl⟩
     have d5:((N2:Int) == 0) = false:=by rw [beq_eq_false_iff_ne];omega
     by_cases a6:fin < N2
     ·have hf0:OKB = false:=by rw [HOK.out];unfold pcB;rw [decide_eq_false];rintro ⟨-, -, -, -, -,h⟩;omega
      have d6:(fin:Int) < (N2:Int):=by omega
      clear a3 a4 a5
      as_aux_lemma =>
       go_wp2
       all_goals go_meet
       all_goals exact ⟨by first | rfl | exact congrArg (Value.int .u64) (by omega),by first | rfl | exact congrArg (Value.int .u64) (by omega),by first | (rw [hf0];rfl) | (rw [hf0];exact congrArg Value.bool (by simp;omega)),rfl⟩
     have d6:¬ (fin:Int) < (N2:Int):=by omega
     by_cases a7:fin < A + N2
     ·have hf0:OKB = false:=by rw [HOK.out];unfold pcB;rw [decide_eq_false];rintro ⟨-, -, -, -, -,h⟩;omega
      have d7:(fin:Int) < (A:Int) + (N2:Int):=by omega
      clear a3 a4 a5 a6
      as_aux_lemma =>
       go_wp2
       all_goals go_meet
       all_goals exact ⟨by first | rfl | exact congrArg (Value.int .u64) (by omega),by first | rfl | exact congrArg (Value.int .u64) (by omega),by first | (rw [hf0];rfl) | (rw [hf0];exact congrArg Value.bool (by simp;omega)),rfl⟩
     ·have hf0:OKB = true:=by rw [HOK.out];unfold pcB;rw [decide_eq_true_eq];exact ⟨rfl,rfl,by rw [← HTT.out];exact a3,a4,by omega,by omega⟩
      have d7:¬ (fin:Int) < (A:Int) + (N2:Int):=by omega
      clear a3 a4 a5 a6
      as_aux_lemma =>
       go_wp2
       all_goals go_meet
       all_goals exact ⟨by first | rfl | exact congrArg (Value.int .u64) (by omega),by first | rfl | exact congrArg (Value.int .u64) (by omega),by first | (rw [hf0];rfl) | (rw [hf0];exact congrArg Value.bool (by simp;omega)),rfl⟩
    case rest =>
     obtain ⟨rfl,rfl,rfl,rfl⟩:=hcut
     cases OKB with
     | false =>
      have hn0:idxR fin 0 l = none:=by rw [HI.out,HPC.out];rfl
      have HNn:=hid (HNo.out hn0)
      clear hn0
      go_wp2
      go_ret
      exact ⟨HB1.out.trans HB3.out,.inl ⟨HNn.out,rfl⟩⟩
     | true =>
      have hOK:=HOK.out.symm
      unfold pcB at hOK
      simp only [decide_eq_true_eq] at hOK
      obtain ⟨-, -, -, -,hp2,hp3⟩:=hOK
      obtain ⟨A2,hA2⟩:∃ x,x = A + N2:=⟨_,rfl⟩
      have e2:(A:Int) + (N2:Int) = (A2:Int):=by omega
      have hA2f:A2 ≤ fin:=by omega
      have hHI:idxR fin 0 l = (idxR fin A2 (l.drop (k + 1))).map (fun x=>(cs ++ [⟨K,A,A2⟩]) ++ x):=by
       rw [HI.out,HPC.out,if_pos rfl,← hA2]
       cases idxR fin A2 (l.drop (k + 1)) with
       | none=>rfl
       | some x=>simp
      have HI2:=hid hHI
      clear hHI HI HPC HOK hA2 hp2 hp3 e1 u1 u2
      go_upto_region 14 with fail
      obtain ⟨r10,r11⟩:=cells12 HRr.out
      clear r11
      refine wp_region_split (S:=fun w'=>w'.cell? ⟨R,10,none⟩ = some (.slice qa k ca) ∧ w'.cell? ⟨b1,o1 + k * 2,none⟩ = some (.string K)) 12 (by kernel_rfl) (by kernel_rfl) ⟨r10,ic03⟩ (fun hHeld => ?_)
      simp only [List.take_succ_cons,List.take_zero,List.drop_succ_cons,List.drop_zero]
      refine take_held (v := ?_) 0 rfl (by kernel_rfl) (by kernel_rfl) (by kernel_rfl) (fun _ _ _ h=>h) (Or.inl ⟨by rfl, ?_⟩) (by assumption) ?_
      rotate_left
      ·intro wS hSw
       obtain ⟨s0,s1⟩:=hSw
       go_simp
       try with_reducible rfl
      simp only [Act.put,List.setIfInBounds_toArray,List.set_cons_zero,List.set_cons_succ]
      refine take_held (v := ?_) 1 rfl (by kernel_rfl) (by kernel_rfl) (by kernel_rfl) (fun _ _ _ h=>h) (Or.inl ⟨by rfl, ?_⟩) (by assumption) ?_
      rotate_left
      ·intro wS hSw
       obtain ⟨s0,s1⟩:=hSw
       go_simp
       try with_reducible rfl
      simp only [Act.put,List.setIfInBounds_toArray,List.set_cons_zero,List.set_cons_succ]
      refine take_held (v := ?_) 2 rfl (by kernel_rfl) (by kernel_rfl) (by kernel_rfl) (fun _ _ _ h=>h) (Or.inl ⟨by rfl, ?_⟩) (by assumption) ?_
      rotate_left
      ·intro wS hSw
       obtain ⟨s0,s1⟩:=hSw
       go_simp
       try with_reducible rfl
      simp only [Act.put,List.setIfInBounds_toArray,List.set_cons_zero,List.set_cons_succ]
      refine take_held (v := ?_) 3 rfl (by kernel_rfl) (by kernel_rfl) (by kernel_rfl) (fun _ _ _ h=>h) (Or.inl ⟨by rfl, ?_⟩) (by assumption) ?_
      rotate_left
      ·intro wS hSw
       obtain ⟨s0,s1⟩:=hSw
       go_simp
       try with_reducible rfl
      simp only [Act.put,List.setIfInBounds_toArray,List.set_cons_zero,List.set_cons_succ]
      refine take_held (v := ?_) 4 rfl (by kernel_rfl) (by kernel_rfl) (by kernel_rfl) (fun _ _ _ h=>h) (Or.inl ⟨by rfl, ?_⟩) (by assumption) ?_
      rotate_left
      ·intro wS hSw
       obtain ⟨s0,s1⟩:=hSw
       go_simp
       try with_reducible rfl
      simp only [Act.put,List.setIfInBounds_toArray,List.set_cons_zero,List.set_cons_succ]
      refine take_held (v := ?_) 5 rfl (by kernel_rfl) (by kernel_rfl) (by kernel_rfl) (fun _ _ _ h=>h) (Or.inl ⟨by rfl, ?_⟩) (by assumption) ?_
      rotate_left
      ·intro wS hSw
       obtain ⟨s0,s1⟩:=hSw
       go_simp
       try with_reducible rfl
      simp only [Act.put,List.setIfInBounds_toArray,List.set_cons_zero,List.set_cons_succ]
      refine take_held (v := ?_) 6 rfl (by kernel_rfl) (by kernel_rfl) (by kernel_rfl) (fun _ _ _ h=>h) (Or.inl ⟨by rfl, ?_⟩) (by assumption) ?_
      rotate_left
      ·intro wS hSw
       obtain ⟨s0,s1⟩:=hSw
       go_simp
       try with_reducible rfl
      simp only [Act.put,List.setIfInBounds_toArray,List.set_cons_zero,List.set_cons_succ]
      refine take_held (v := ?_) 7 rfl (by kernel_rfl) (by kernel_rfl) (by kernel_rfl) (fun _ _ _ h=>h) (Or.inl ⟨by rfl, ?_⟩) (by assumption) ?_
      rotate_left
      ·intro wS hSw
       obtain ⟨s0,s1⟩:=hSw
       go_simp
       try with_reducible rfl
      simp only [Act.put,List.setIfInBounds_toArray,List.set_cons_zero,List.set_cons_succ]
      refine take_held (v := ?_) 8 rfl (by kernel_rfl) (by kernel_rfl) (by kernel_rfl) (fun _ _ _ h=>h) (Or.inl ⟨by rfl, ?_⟩) (by assumption) ?_
      rotate_left
      ·intro wS hSw
       obtain ⟨s0,s1⟩:=hSw
       go_simp
       try with_reducible rfl
      simp only [Act.put,List.setIfInBounds_toArray,List.set_cons_zero,List.set_cons_succ]
      refine take_held (v := ?_) 9 rfl (by kernel_rfl) (by kernel_rfl) (by kernel_rfl) (fun _ _ _ h=>h) (Or.inl ⟨by rfl, ?_⟩) (by assumption) ?_
      rotate_left
      ·intro wS hSw
       obtain ⟨s0,s1⟩:=hSw
       go_simp
       try with_reducible rfl
      simp only [Act.put,List.setIfInBounds_toArray,List.set_cons_zero,List.set_cons_succ]
      refine wpAnyH_ready (rs:=[10]) (by kernel_rfl) (by simp) ?_
      refine cons_held 10 rfl (fun K' hK => ?_) AllReadyH.nil
      go_simp
      obtain ⟨qq,hqq⟩:∃ g,g = w3.heap.size:=⟨_,rfl⟩
      obtain ⟨w4,hw4⟩:∃ g,g = (w3.alloc (.cells #[.string K] 9)).drew:=⟨_,rfl⟩
      have hb4:Below w3.heap.size w3 w4:=by rw [hw4];exact ((Below.refl _ _).alloc (Nat.le_refl _) _).drew
      have hrd4:Rd w4 (some ⟨qq,0,none⟩) [stv K]:=by rw [hw4,hqq];exact (Rd.new _ [stv K] _).below (Below.refl _ _).drew
      have r104:w4.cell? ⟨R,10,none⟩ = some (.slice qa k ca):=(hb4.cell (World.block_lt_of_cell? w3 _ r10)).trans r10
      have ic04:=(hb4.cell (p:=⟨b1,o1 + k * 2,none⟩) hb1l3).trans ic03
      rw [← hw4,← hqq]
      refine hK.out _ _ ⟨r104,ic04⟩ (fun hHeld2 => ?_)
      clear hK K' hw4 hqq
      refine wpAnyH_ready (rs:=[11]) (by kernel_rfl) (by simp) ?_
      refine cons_held 11 rfl (fun K' hK => ?_) AllReadyH.nil
      refine step_append_rd rfl (.tmp 97) (.tmp 103) 51 rfl w1.heap.size 9 (.string ⟨#[]⟩) 1 16 Tryz.underlying51 infoSt rfl (by decide) (.slice qa k ca) k (cs.map fun c=>stv c.last) rfl (own_below HOa3.out hb4) (some ⟨qq,0,none⟩) 1 1 [stv K] rfl (fun h=>by cases h) rfl hrd4 (by simp [stv,Value.oneCell']) (by unfold maxLen;omega) (by omega) (by have:=hb4.size;omega) ?_
      intro v5 w5 hown5 hg5 _
      obtain ⟨q5,c5,rfl,_,_,_⟩:=own_shape hown5
      have hOa4:=own_below HOa3.out hb4
      have hOb4:=own_below HOb3.out hb4
      have hb45:Below w1.heap.size w4 w5:=(Below.refl _ _).grown hg5 (by have:=hb4.size;omega) (fun g hg=>(hOa4.lt g hg).1)
      have r105:=(hb45.cell (p:=⟨R,10,none⟩) hR1).trans r104
      have ic05:=(hb45.cell (p:=⟨b1,o1 + k * 2,none⟩) hb1w1).trans ic04
      have hrow5:=(hb45.block R hR1).trans ((hb4.block R (by omega)).trans HRr.out)
      have f5:w5.frozen? ⟨R,10,none⟩ = false:=frozen_of_row _ _ _ _ _ hrow5
      refine hK.out _ _ ⟨r105,ic05⟩ (fun hHeld3 => ?_)
      clear hK K'
      refine wpAnyH_done (by kernel_rfl) ?_ _
      have HOb5:=hid (own_kinds hOb4 hOa4 (by decide) hg5)
      have HO5:=hid hown5
      have HRow5:=hid hrow5
      have HB5:=hid (show Below w1.heap.size w3 w5 from (hb4.mono hw3).trans hb45)
      have hs5:w1.heap.size ≤ w5.heap.size:=Nat.le_trans hw3 HB5.out.size
      clear hOa4 hOb4 hb45 hrow5 hown5 hg5 r104 ic04 r10 ic03 hHeld hHeld2 hHeld3 hrd4 hb4 ic05
      go_upto_region 15 with fail
      clear r105 f5
      obtain ⟨w6,hw6⟩:∃ W,W = w5.setCell ⟨R,10,none⟩ (.slice q5 (k + 1) c5):=⟨_,rfl⟩
      rw [← hw6]
      have HRow6:Hid (w6.heap[R]? = some (.cells #[vb,vf,z0,z1,z2,z3,z4,z5,z6,z7,.slice q5 (k + 1) c5,.slice qb k cb] 54 (0,0))):=by show _ = _;rw [hw6];exact set12a HRow5.out _
      have B56:Bel2 R w5 w6:=by rw [hw6];exact (Bel2.refl R w5).cell 10 _
      have HB36:=hid ((show Bel2 R w1 w5 from ⟨HB3.out.1.trans (HB5.out.mono (Nat.le_of_lt hR1)),fun g hg hne=>(HB5.out.block g hg).trans (HB3.out.2 g hg hne)⟩).trans B56)
      have HO6:=hid (own_bel2 HO5.out B56 hR1)
      have HOb6:=hid (own_bel2 HOb5.out B56 hR1)
      have hs6:w1.heap.size ≤ w6.heap.size:=HB36.out.1.size
      obtain ⟨-,r116⟩:=cells12 HRow6.out
      clear hw6 B56 HO5 HOb5 HRow5 HB5
      go_upto_region 7 with (at_builtin;refine wpList_append_rd rfl (.tmp 111) (.tmp 113) 52 rfl w1.heap.size 3 (.int .i64 0) 1 8 Tryz.underlying52 infoI64 rfl (by decide) (.slice qb k cb) k (cs.map fun c=>nv c.fin) rfl (own_below HOb6.out ((Below.refl _ _).alloc (Nat.le_refl _) _)) (some ⟨w6.heap.size,0,none⟩) 1 1 [nv A2] rfl (fun h=>by cases h) rfl (Rd.new _ [nv A2] _) (by simp [nv,Value.oneCell']) (by unfold maxLen;omega) (by omega) (by simp;omega) ?_;intro v8 w8 hown8 hg8 _;obtain ⟨q8,c8,hv8,hz1,hz2,hz3⟩:=own_shape hown8;subst hv8;have b68:Below w1.heap.size w6 w8:=((Below.refl _ _).alloc hs6 _).grown hg8 (by simp;omega) (fun g hg=>(HOb6.out.lt g hg).1);have row8:=(b68.block R hR1).trans HRow6.out;have r118:=(cells12 row8).2;have f8:∀ j,w8.frozen? ⟨R,j,none⟩ = false:=(fun j=>frozen_of_row _ _ _ _ _ row8);have ho8:=own_kinds (own_below HO6.out ((Below.refl w6.heap.size w6).alloc (Nat.le_refl _) (.cells #[.int .i64 (A2:Int)] 3))) (own_below HOb6.out ((Below.refl w6.heap.size w6).alloc (Nat.le_refl _) (.cells #[.int .i64 (A2:Int)] 3))) (by decide) hg8;have HO8:=hid ho8;have HOb8:=hid hown8;have HRow8:=hid row8;have B68:=hid b68;clear hown8 hg8 hz1 hz2 hz3 b68 row8 ho8)
      obtain ⟨w9,hw9⟩:∃ W,W = w8.setCell ⟨R,11,none⟩ (.slice q8 (k + 1) c8):=⟨_,rfl⟩
      rw [← hw9]
      have HRow9:Hid (w9.heap[R]? = some (.cells #[vb,vf,z0,z1,z2,z3,z4,z5,z6,z7,.slice q5 (k + 1) c5,.slice q8 (k + 1) c8] 54 (0,0))):=by show _ = _;rw [hw9];exact set12b HRow8.out _
      have B89:Bel2 R w8 w9:=by rw [hw9];exact (Bel2.refl R w8).cell 11 _
      have HB18:Bel2 R w1 w8:=⟨HB36.out.1.trans (B68.out.mono (Nat.le_of_lt hR1)),fun g hg hne=>(B68.out.block g hg).trans (HB36.out.2 g hg hne)⟩
      have HB19:=hid (HB18.trans B89)
      have HO9:=hid (own_bel2 HO8.out B89 hR1)
      have HOb9:=hid (own_bel2 HOb8.out B89 hR1)
      clear hw9 B89 HB18 r118 f8 r116
      go_wp2
      go_roundw
      case rel=>exact ⟨k + 1,A2,cs ++ [⟨K,A,A2⟩],q5,q8,c5,c8,by omega,by go_num,rfl,hA2f,by show _ = _;rw [List.length_append,HCl.out];rfl,HB19,HRow9,by rw [List.map_append];exact HO9.out,by rw [List.map_append];exact HOb9.out,HI2⟩
      case measure=>simp [intOf];omega
   ·obtain rfl:k = N:=by omega
    have hk1:¬ ((k:Int) < (k:Int)):=by omega
    have hI:=HI.out
    rw [List.drop_eq_nil_of_le (by rw [HN.out];exact Nat.le_refl _),idxR_nil] at hI
    by_cases hAf:A = fin
    ·rw [if_pos hAf,Option.map_some,List.append_nil] at hI
     have HII:=hid hI
     have d1:(A:Int) = (fin:Int):=by omega
     clear hI hAf
     go_wp2
     go_ret
     refine ⟨HB1.out.trans HB.out,.inr ⟨l,cs,HBl.out,HII.out,rfl,qa,ca,qb,cb, ?_, ?_, ?_⟩⟩
     ·rw [HCl.out];exact HR.out
     ·rw [HCl.out];exact own_mono HOa.out hs1
     ·rw [HCl.out];exact own_mono HOb.out hs1
    ·rw [if_neg hAf] at hI
     have HNn:=hid (HNo.out hI)
     have d1:((A:Int) == (fin:Int)) = false:=by rw [beq_eq_false_iff_ne];omega
     clear hI hAf
     go_wp2
     go_ret
     exact ⟨HB1.out.trans HB.out,.inl ⟨HNn.out,rfl⟩⟩
end Go.Proofs.Herb
namespace Go.Proofs.Herb
open Go.RowKit
theorem rsum12_any (a:Option Addr) (n c:Nat) (l:List UInt8) (w:World) (hn:l.length = n) (hm:n ≤ 4611686018427387904) (hr:Rd w a (l.map bv)) :
  Calls Tryz.prog 25 #[.slice a n c] w fun e w'=>e = .returned (.int .u32 ((crcMore 0 l).toNat:Int)) ∧ w = w':=by
 have k:=ref_of a n c l w hn hm hr
 clear hn hm hr
 go_enter Tryz.func25,Tryz.ntmps25
 go_wp2_with (go_at_call 59;(with_reducible refine k.mono ?_);rintro e w' ⟨rfl,rfl⟩)
 go_ret
 exact ⟨rfl,rfl⟩
theorem rfour_k (k:Nat) (K:Int) (hK:K = (k:Int)) (q:Option Addr) (c:Nat) (l:List UInt8) (w:World) (hl:l.length = 40) (h4:k + 4 ≤ 40) (hr:Rd w q (l.map bv)) :
  Calls Tryz.prog 24 #[.slice q 40 c,.int .i64 K] w fun e w'=>e = .returned (.int .i64 (num4 l k:Int)) ∧ Below w.heap.size w w':=by
 subst hK
 exact rfour_any q 40 c k l w hl h4 (by decide) hr
theorem own_neT {w:World} {base:Nat} {e t:TypeId} {k n R:Nat} {v:Value} {xs:List Value} {cs:Array Value} {fr:Nat × Nat} (h:w.ownsRow base e k v n xs) (hR:w.heap[R]? = some (.cells cs t fr)) (he:e ≠ t):∀ g,v.ownBlock = some g → g ≠ R:=by
 obtain ⟨_,h2⟩:=h
 rcases h2 with ⟨rfl,_⟩ | ⟨g',cap,cur,rfl,hg,hh,_⟩
 ·intro g hg;cases hg
 ·intro g hg2
  cases hg2
  rintro rfl
  rw [hR] at hh
  cases hh
  exact he rfl
theorem own_bel3 {R:Nat} {w w':World} {base:Nat} {e t:TypeId} {k n:Nat} {v:Value} {xs:List Value} {cs:Array Value} {fr:Nat × Nat} (h:w.ownsRow base e k v n xs) (hb:Bel2 R w w') (hR:w.heap[R]? = some (.cells cs t fr)) (he:e ≠ t):w'.ownsRow base e k v n xs :=
 bown_keep h fun g hv=>hb.2 g (bown_lt h g hv).2 (own_neT h hR he g hv)
theorem cells12c {w:World} {B:Nat} {t:TypeId} {v0 v1 v2 v3 v4 v5 v6 v7 v8 v9 v10 v11:Value} (h:w.heap[B]? = some (.cells #[v0,v1,v2,v3,v4,v5,v6,v7,v8,v9,v10,v11] t (0,0))) :
  w.cell? ⟨B,0,none⟩ = some v0 ∧ w.cell? ⟨B,1,none⟩ = some v1 ∧ w.cell? ⟨B,2,none⟩ = some v2 ∧ w.cell? ⟨B,3,none⟩ = some v3 ∧ w.cell? ⟨B,4,none⟩ = some v4 ∧ w.cell? ⟨B,5,none⟩ = some v5 ∧ w.cell? ⟨B,6,none⟩ = some v6 ∧ w.cell? ⟨B,7,none⟩ = some v7 ∧ w.cell? ⟨B,8,none⟩ = some v8 ∧ w.cell? ⟨B,9,none⟩ = some v9:=by
 refine ⟨?_, ?_, ?_, ?_, ?_, ?_, ?_, ?_, ?_, ?_⟩ <;> (rw [cell_of_row _ _ _ _ _ _ h];rfl)
theorem set12c {w:World} {B:Nat} {t:TypeId} {v0 v1 v2 v3 v4 v5 v6 v7 v8 v9 v10 v11:Value} (h:w.heap[B]? = some (.cells #[v0,v1,v2,v3,v4,v5,v6,v7,v8,v9,v10,v11] t (0,0))) (y0 y1 y2 y3 y4 y5 y6 y7:Value) :
  ((((((((w.setCell ⟨B,2,none⟩ y0).setCell ⟨B,3,none⟩ y1).setCell ⟨B,4,none⟩ y2).setCell ⟨B,5,none⟩ y3).setCell ⟨B,6,none⟩ y4).setCell ⟨B,7,none⟩ y5).setCell ⟨B,8,none⟩ y6).setCell ⟨B,9,none⟩ y7).heap[B]? = some (.cells #[v0,v1,y0,y1,y2,y3,y4,y5,y6,y7,v10,v11] t (0,0)) ∧
  Bel2 B w ((((((((w.setCell ⟨B,2,none⟩ y0).setCell ⟨B,3,none⟩ y1).setCell ⟨B,4,none⟩ y2).setCell ⟨B,5,none⟩ y3).setCell ⟨B,6,none⟩ y4).setCell ⟨B,7,none⟩ y5).setCell ⟨B,8,none⟩ y6).setCell ⟨B,9,none⟩ y7):=by
 have g0:=Go.heap_setCell_same w B 2 _ t y0 h
 have k0:=(Bel2.refl B w).cell 2 y0
 generalize w.setCell ⟨B,2,none⟩ y0 = w0 at *
 have g1:=Go.heap_setCell_same w0 B 3 _ t y1 g0
 have k1:=k0.cell 3 y1
 generalize w0.setCell ⟨B,3,none⟩ y1 = w1 at *
 have g2:=Go.heap_setCell_same w1 B 4 _ t y2 g1
 have k2:=k1.cell 4 y2
 generalize w1.setCell ⟨B,4,none⟩ y2 = w2 at *
 have g3:=Go.heap_setCell_same w2 B 5 _ t y3 g2
 have k3:=k2.cell 5 y3
 generalize w2.setCell ⟨B,5,none⟩ y3 = w3 at *
 have g4:=Go.heap_setCell_same w3 B 6 _ t y4 g3
 have k4:=k3.cell 6 y4
 generalize w3.setCell ⟨B,6,none⟩ y4 = w4 at *
 have g5:=Go.heap_setCell_same w4 B 7 _ t y5 g4
 have k5:=k4.cell 7 y5
 generalize w4.setCell ⟨B,7,none⟩ y5 = w5 at *
 have g6:=Go.heap_setCell_same w5 B 8 _ t y6 g5
 have k6:=k5.cell 8 y6
 generalize w5.setCell ⟨B,8,none⟩ y6 = w6 at *
 have g7:=Go.heap_setCell_same w6 B 9 _ t y7 g6
 have k7:=k6.cell 9 y7
 generalize w6.setCell ⟨B,9,none⟩ y7 = w7 at *
 refine ⟨?_,k7⟩
 rw [g7]
 simp only [List.setIfInBounds_toArray,List.set_cons_zero,List.set_cons_succ]
def rrRow (b f:Value) (p:Props) (l e:Value):Array Value := #[b,f,.int .u64 (p.line:Int),.int .u64 (p.many:Int),.string p.low,.string p.high,.int .u64 (p.least:Int),.int .u64 (p.greatest:Int),.int .u32 (p.early:Int),.int .u32 (p.late:Int),l,e]
structure RRAt (w:World) (R:Nat) (r:Rdr):Prop where
 ex:∃ bb ob cb fq fc lq lc eq ec,w.heap[R]? = some (.cells (rrRow (.slice (some ⟨bb,ob,none⟩) r.b.length cb) (.slice fq r.filter.length fc) r.props (.slice lq r.chunks.length lc) (.slice eq r.chunks.length ec)) 54 (0,0)) ∧
  r.b.length ≤ cb ∧ cb ≤ maxLen ∧ Rd w (some ⟨bb,ob,none⟩) (r.b.map bv) ∧ Rd w fq (r.filter.map bv) ∧ Rd w lq (r.chunks.map fun c=>stv c.last) ∧ Rd w eq (r.chunks.map fun c=>nv c.fin)
theorem RRAt.below {w w':World} {R:Nat} {r:Rdr} (h:RRAt w R r) (hb:Below w.heap.size w w'):RRAt w' R r:=by
 obtain ⟨bb,ob,cb,fq,fc,lq,lc,eq,ec,h1,h2,h3,h4,h5,h6,h7⟩:=h.ex
 exact ⟨bb,ob,cb,fq,fc,lq,lc,eq,ec,(hb.block _ (lt_of_block h1)).trans h1,h2,h3,h4.below hb,h5.below hb,h6.below hb,h7.below hb⟩
def ROpP (bs:List UInt8) (b0:Nat) (w:World) (e:Ending) (w':World):Prop :=
 Below b0 w w' ∧ (((¬ ∃ r,Opens bs r) ∧ e = .returned (.tuple #[.pointer none,.int .i64 13])) ∨ ∃ r R,Opens bs r ∧ e = .returned (.tuple #[.pointer (some ⟨R,0,none⟩),.int .i64 0]) ∧ ∀ W,Since b0 w' W → RRAt W R r)
theorem own_since {b0:Nat} {A B:World} {base:Nat} {e:TypeId} {k n:Nat} {v:Value} {xs:List Value} (h:A.ownsRow base e k v n xs) (hb:Since b0 A B) (hB:b0 ≤ base):B.ownsRow base e k v n xs :=
 bown_keep h fun g hv=>hb.2 g (Nat.le_trans hB (bown_lt h g hv).1) (bown_lt h g hv).2
set_option maxRecDepth 100000 in
set_option maxHeartbeats 20000000 in
theorem ropen_any (q:Option Addr) (m c:Nat) (bs:List UInt8) (w:World) (hl:bs.length = m) (hc:m ≤ c) (hcm:c ≤ maxLen) (hm:m ≤ 4194304) (hr:Rd w q (bs.map bv)) :
  Calls Tryz.prog 7 #[.slice q m c] w (ROpP bs w.heap.size w):=by
 by_cases h40:m < 40
 ·have hno:¬ ∃ r,Opens bs r:=fun ⟨r,h⟩=>by have:=h.len;omega
  have HNo:=hid hno
  have i0:(m:Int) < 40:=by omega
  clear hno hl hr h40
  go_enter Tryz.func7,Tryz.ntmps7
  go_wp2
  go_ret2
  exact ⟨Below.refl _ _,.inl ⟨HNo.out,rfl⟩⟩
 obtain ⟨b,off,rfl, -⟩:=hr.cell (k:=0) (by rw [List.length_map];omega)
 have i0:¬ (m:Int) < 40:=by omega
 obtain ⟨EN,hEN⟩:∃ x,x = m - 40:=⟨_,rfl⟩
 have eE:(m:Int) - 40 = (EN:Int):=by omega
 obtain ⟨CE,hCE⟩:∃ x,c - EN = x:=⟨_,rfl⟩
 have s40:m - EN = 40:=by omega
 obtain ⟨FT,hFT⟩:∃ x,x = bs.drop EN:=⟨_,rfl⟩
 have hFl:FT.length = 40:=by rw [hFT,List.length_drop,hl];omega
 have hFT2:FT = bs.drop (bs.length - 40):=by rw [hFT,hl,hEN]
 have hFr:∀ W,Below w.heap.size w W → Rd W (some ⟨b,off + EN,none⟩) (FT.map bv):=fun W hW=>by rw [hFT,List.map_drop];exact (hr.below hW).drop EN
 have hf4:∀ (k:Nat) (K:Int),K = (k:Int) → k + 4 ≤ 40 → ∀ W,Below w.heap.size w W → Calls Tryz.prog 24 #[.slice (some ⟨b,off + EN,none⟩) 40 CE,.int .i64 K] W fun e w'=>e = .returned (.int .i64 (num4 FT k:Int)) ∧ Below W.heap.size W w' :=
  fun k K hK h4 W hW=>rfour_k k K hK _ CE FT W hFl h4 (hFr W hW)
 have HF4:=hid hf4
 have HFr:=hid hFr
 obtain ⟨S4,hS4⟩:∃ x:ByteArray,x = ⟨(FT.take 4).toArray⟩:=⟨_,rfl⟩
 obtain ⟨N36,hN36⟩:∃ x,num4 FT 36 = x:=⟨_,rfl⟩
 obtain ⟨C36,hC36⟩:∃ x,(crcMore 0 (FT.take 36)).toNat = x:=⟨_,rfl⟩
 have hC36l:C36 < 4294967296:=by rw [← hC36];exact (crcMore 0 (FT.take 36)).isLt
 have hN36l:N36 < 4294967296:=by rw [← hN36];exact num4_lt _ _
 have hsum:∀ r,Opens bs r → N36 = C36:=fun r h=>by
  have:=h.sum
  unfold ftN at this
  rw [← hFT2,hN36,hC36] at this
  exact this
 have hmag:∀ r,Opens bs r → FT.take 4 = [84,66,76,49]:=fun r h=>by rw [hFT2];exact h.magic
 obtain ⟨TD,D,hD1,hD2⟩:=class_d w
 have cv:∀ z,(convert 22 9 (.slice (some ⟨b,off + EN,none⟩) 4 CE)).run Tryz.prog (D z) = .ok (.string S4) (D z):=fun z=>by
  rw [hS4];exact convB (D z) _ 4 CE (FT.take 4) (by rw [List.length_take,hFl];rfl) (by rw [List.map_take];exact (hFr _ (hD1 z)).take 4)
 have HC1:=hid (fun z=>calls_d hD1 hD2 (f:=24) (vs := #[.slice (some ⟨b,off + EN,none⟩) 40 CE,.int .i64 36]) (v:=.int .i64 (N36:Int)) (fun w' hb=>by
  have k:=hf4 36 36 rfl (by decide) w' hb
  rw [hN36] at k
  exact k) z)
 have HC2:=hid (fun z=>calls_d hD1 hD2 (f:=25) (vs := #[.slice (some ⟨b,off + EN,none⟩) 36 CE]) (v:=.int .u32 (C36:Int)) (fun w' hb=>by
  have k:=rsum12_any (some ⟨b,off + EN,none⟩) 36 CE (FT.take 36) w' (by rw [List.length_take,hFl];rfl) (by decide) (by rw [List.map_take];exact (hFr w' hb).take 36)
  rw [hC36] at k
  exact k.mono (by rintro e w'' ⟨h1,rfl⟩;exact ⟨h1,Below.refl _ _⟩)) z)
 obtain ⟨y0,hy0⟩:=hD2 { w with drawn:=w.drawn + 1 } (Below.refl _ _).drew
 haveI:Nonempty TD:=⟨y0⟩
 have HD1:=hid hD1
 have HL:=hid hl
 have HR:=hid hr
 have HMG:=hid hmag
 have HSM:=hid hsum
 have HFT2:=hid hFT2
 have HFL:=hid hFl
 have HN36:=hid hN36
 have HC36:=hid hC36
 have HEN:=hid hEN
 have w36:IntKind.i64.wrap (C36:Int) = (C36:Int):=by rw [IntWalk.i64_in _ (by omega)]
 have z0:(0:Int) ≤ (EN:Int):=by omega
 have z1:(EN:Int) ≤ (m:Int):=by omega
 have z2:¬ c = EN:=by omega
 have z3:(4:Int) ≤ (CE:Int):=by omega
 have z4:(36:Int) ≤ (CE:Int):=by omega
 have z5:36 ≤ CE:=by omega
 have hcE:EN + 40 ≤ c:=by omega
 clear hD1 hD2 hl hr hmag hsum hFT2 hFl hFr hf4 hN36 hC36 hFT hEN
 go_enter Tryz.func7,Tryz.ntmps7
 go_upto_region 5 with fail
 clear hCE
 by_cases hmg:FT.take 4 = [84,66,76,49]
 rotate_left
 ·have hno:¬ ∃ r,Opens bs r:=fun ⟨r,h⟩=>hmg (HMG.out r h)
  have HNo:=hid hno
  have hbe:(S4.toList == [84,66,76,49]) = false:=beq_eq_false_iff_ne.2 fun e=>hmg (by
   rw [hS4,ByteArray.toList_eq] at e
   exact e)
  clear hno hS4 hmg
  as_aux_lemma =>
   refine region_quiet_d (D:=D) (by kernel_rfl) (by kernel_rfl) y0 hy0 ?_
   repeat (go_big_quiet_step (fail))
   refine wpQuiet_nil ?_
   intro z
   have HBr:=hid (HD1.out z)
   go_wp2
   go_ret2
   exact ⟨HBr.out,.inl ⟨HNo.out,rfl⟩⟩
 have hbe:(S4.toList == [84,66,76,49]) = true:=by
  rw [hS4,ByteArray.toList_eq]
  exact beq_iff_eq.2 hmg
 have HMg:=hid hmg
 clear hS4 hmg
 refine region_quiet_d (D:=D) (by kernel_rfl) (by kernel_rfl) y0 hy0 ?_
 repeat (go_big_quiet_step ((first | (go_at_call 24;with_reducible exact HC1.out _) | (go_at_call 25;with_reducible exact HC2.out _))))
 refine wpQuiet_nil ?_
 intro z
 obtain ⟨wb,hwb⟩:∃ x,x = D z:=⟨_,rfl⟩
 have HBb:=hid (show Below w.heap.size w wb from by rw [hwb];exact HD1.out z)
 rw [← hwb]
 clear hwb hy0 HC1 HC2 HD1 cv hbe
 by_cases hsm:N36 = C36
 rotate_left
 ·have hno:¬ ∃ r,Opens bs r:=fun ⟨r,h⟩=>hsm (HSM.out r h)
  have HNo:=hid hno
  have i1:¬ ((N36:Int) = (C36:Int)):=by omega
  clear hno hsm
  as_aux_lemma =>
   go_wp2
   go_ret2
   exact ⟨HBb.out,.inl ⟨HNo.out,rfl⟩⟩
 have i1:(N36:Int) = (C36:Int):=by omega
 have HSm:=hid hsm
 clear hsm
 obtain ⟨A0,hA0⟩:∃ x,num4 FT 4 = x:=⟨_,rfl⟩
 obtain ⟨L0,hL0⟩:∃ x,num4 FT 8 = x:=⟨_,rfl⟩
 obtain ⟨C0,hC0⟩:∃ x,num4 FT 12 = x:=⟨_,rfl⟩
 obtain ⟨L1,hL1⟩:∃ x,num4 FT 16 = x:=⟨_,rfl⟩
 obtain ⟨D0,hD0⟩:∃ x,num4 FT 20 = x:=⟨_,rfl⟩
 obtain ⟨L2,hL2⟩:∃ x,num4 FT 24 = x:=⟨_,rfl⟩
 have hA0l:A0 < 4294967296:=by rw [← hA0];exact num4_lt _ _
 have hL0l:L0 < 4294967296:=by rw [← hL0];exact num4_lt _ _
 have hC0l:C0 < 4294967296:=by rw [← hC0];exact num4_lt _ _
 have hL1l:L1 < 4294967296:=by rw [← hL1];exact num4_lt _ _
 have hD0l:D0 < 4294967296:=by rw [← hD0];exact num4_lt _ _
 have hL2l:L2 < 4294967296:=by rw [← hL2];exact num4_lt _ _
 have fA:ftN bs 4 = A0:=by unfold ftN;rw [← HFT2.out,hA0]
 have fL:ftN bs 8 = L0:=by unfold ftN;rw [← HFT2.out,hL0]
 have fC:ftN bs 12 = C0:=by unfold ftN;rw [← HFT2.out,hC0]
 have fM:ftN bs 16 = L1:=by unfold ftN;rw [← HFT2.out,hL1]
 have fD:ftN bs 20 = D0:=by unfold ftN;rw [← HFT2.out,hD0]
 have fN:ftN bs 24 = L2:=by unfold ftN;rw [← HFT2.out,hL2]
 have ka:Hid (∀ W,Below w.heap.size w W → Calls Tryz.prog 24 #[.slice (some ⟨b,off + EN,none⟩) 40 CE,.int .i64 4] W fun e w'=>e = .returned (.int .i64 (A0:Int)) ∧ Below W.heap.size W w'):=fun W hW=>by have k:=HF4.out 4 4 rfl (by decide) W hW;rw [hA0] at k;exact k
 have kl:Hid (∀ W,Below w.heap.size w W → Calls Tryz.prog 24 #[.slice (some ⟨b,off + EN,none⟩) 40 CE,.int .i64 8] W fun e w'=>e = .returned (.int .i64 (L0:Int)) ∧ Below W.heap.size W w'):=fun W hW=>by have k:=HF4.out 8 8 rfl (by decide) W hW;rw [hL0] at k;exact k
 have kc:Hid (∀ W,Below w.heap.size w W → Calls Tryz.prog 24 #[.slice (some ⟨b,off + EN,none⟩) 40 CE,.int .i64 12] W fun e w'=>e = .returned (.int .i64 (C0:Int)) ∧ Below W.heap.size W w'):=fun W hW=>by have k:=HF4.out 12 12 rfl (by decide) W hW;rw [hC0] at k;exact k
 have km:Hid (∀ W,Below w.heap.size w W → Calls Tryz.prog 24 #[.slice (some ⟨b,off + EN,none⟩) 40 CE,.int .i64 16] W fun e w'=>e = .returned (.int .i64 (L1:Int)) ∧ Below W.heap.size W w'):=fun W hW=>by have k:=HF4.out 16 16 rfl (by decide) W hW;rw [hL1] at k;exact k
 have kd:Hid (∀ W,Below w.heap.size w W → Calls Tryz.prog 24 #[.slice (some ⟨b,off + EN,none⟩) 40 CE,.int .i64 20] W fun e w'=>e = .returned (.int .i64 (D0:Int)) ∧ Below W.heap.size W w'):=fun W hW=>by have k:=HF4.out 20 20 rfl (by decide) W hW;rw [hD0] at k;exact k
 have kn:Hid (∀ W,Below w.heap.size w W → Calls Tryz.prog 24 #[.slice (some ⟨b,off + EN,none⟩) 40 CE,.int .i64 24] W fun e w'=>e = .returned (.int .i64 (L2:Int)) ∧ Below W.heap.size W w'):=fun W hW=>by have k:=HF4.out 24 24 rfl (by decide) W hW;rw [hL2] at k;exact k
 have HfA:=hid fA
 have HfL:=hid fL
 have HfC:=hid fC
 have HfM:=hid fM
 have HfD:=hid fD
 have HfN:=hid fN
 clear fA fL fC fM fD fN hA0 hL0 hC0 hL1 hD0 hL2 HMG HSM w36
 have ka1:=ka.out _ HBb.out
 go_upto_region 10 with (first
  | (go_at_call 24;(with_reducible refine ka1.mono ?_);rintro e w5 ⟨rfl,b5⟩;have HB5:=hid (HBb.out.trans (b5.mono HBb.out.size));have kc1:=kc.out _ HB5.out;clear b5 ka1)
  | (go_at_call 24;(with_reducible refine kc1.mono ?_);rintro e w6 ⟨rfl,b6⟩;have HB6:=hid (HB5.out.trans (b6.mono HB5.out.size));have kd1:=kd.out _ HB6.out;clear b6 kc1)
  | (go_at_call 24;(with_reducible refine kd1.mono ?_);rintro e w7 ⟨rfl,b7⟩;have HB7:=hid (HB6.out.trans (b7.mono HB6.out.size));clear b7 kd1))
 clear HB5 HB6 ka kc kd
 have kl1:=kl.out _ HB7.out
 by_cases g1:A0 + L0 = C0
 rotate_left
 ·have hno:¬ ∃ r,Opens bs r:=fun ⟨r,h⟩=>g1 (by have:=h.c0;rw [HfA.out,HfL.out,HfC.out] at this;omega)
  have HNo:=hid hno
  have d1:¬ ((A0:Int) + (L0:Int) = (C0:Int)):=by omega
  clear hno g1
  as_aux_lemma =>
   go_wp2_with (go_at_call 24;(with_reducible refine kl1.mono ?_);rintro e w8 ⟨rfl,b8⟩;have HB8:=hid (HB7.out.trans (b8.mono HB7.out.size));clear b8)
   go_ret2
   exact ⟨HB8.out,.inl ⟨HNo.out,rfl⟩⟩
 have d1:(A0:Int) + (L0:Int) = (C0:Int):=by omega
 by_cases g2:C0 + L1 = D0
 rotate_left
 ·have hno:¬ ∃ r,Opens bs r:=fun ⟨r,h⟩=>g2 (by have:=h.c1;rw [HfC.out,HfM.out,HfD.out] at this;omega)
  have HNo:=hid hno
  have d2:¬ ((C0:Int) + (L1:Int) = (D0:Int)):=by omega
  clear hno g2
  as_aux_lemma =>
   go_wp2_with (first
    | (go_at_call 24;(with_reducible refine kl1.mono ?_);rintro e w8 ⟨rfl,b8⟩;have HB8:=hid (HB7.out.trans (b8.mono HB7.out.size));have km1:=km.out _ HB8.out;clear b8 kl1)
    | (go_at_call 24;(with_reducible refine km1.mono ?_);rintro e w9 ⟨rfl,b9⟩;have HB9:=hid (HB8.out.trans (b9.mono HB8.out.size));clear b9 km1))
   go_ret2
   exact ⟨HB9.out,.inl ⟨HNo.out,rfl⟩⟩
 have d2:(C0:Int) + (L1:Int) = (D0:Int):=by omega
 by_cases g3:D0 + L2 = EN
 rotate_left
 ·have hno:¬ ∃ r,Opens bs r:=fun ⟨r,h⟩=>g3 (by have h1:=h.c2;have h2:=HL.out;have h3:=HEN.out;rw [HfD.out,HfN.out] at h1;omega)
  have HNo:=hid hno
  have d3:¬ ((D0:Int) + (L2:Int) = (EN:Int)):=by omega
  clear hno g3
  as_aux_lemma =>
   go_wp2_with (first
    | (go_at_call 24;(with_reducible refine kl1.mono ?_);rintro e w8 ⟨rfl,b8⟩;have HB8:=hid (HB7.out.trans (b8.mono HB7.out.size));have km1:=km.out _ HB8.out;clear b8 kl1)
    | (go_at_call 24;(with_reducible refine km1.mono ?_);rintro e w9 ⟨rfl,b9⟩;have HB9:=hid (HB8.out.trans (b9.mono HB8.out.size));have kn1:=kn.out _ HB9.out;clear b9 km1)
    | (go_at_call 24;(with_reducible refine kn1.mono ?_);rintro e w10 ⟨rfl,b10⟩;have HB10:=hid (HB9.out.trans (b10.mono HB9.out.size));clear b10 kn1))
   go_ret2
   exact ⟨HB10.out,.inl ⟨HNo.out,rfl⟩⟩
 have d3:(D0:Int) + (L2:Int) = (EN:Int):=by omega
 go_upto_region 12 with (first
  | (go_at_call 24;(with_reducible refine kl1.mono ?_);rintro e w8 ⟨rfl,b8⟩;have HB8:=hid (HB7.out.trans (b8.mono HB7.out.size));have km1:=km.out _ HB8.out;clear b8 kl1)
  | (go_at_call 24;(with_reducible refine km1.mono ?_);rintro e w9 ⟨rfl,b9⟩;have HB9:=hid (HB8.out.trans (b9.mono HB8.out.size));have kn1:=kn.out _ HB9.out;clear b9 km1)
  | (go_at_call 24;(with_reducible refine kn1.mono ?_);rintro e w10 ⟨rfl,b10⟩;have HB10:=hid (HB9.out.trans (b10.mono HB9.out.size));clear b10 kn1))
 clear HB8 HB9 kl km kn d1 d2 d3 HB7
 have q0:(0:Int) ≤ (A0:Int):=by omega
 have q1:(0:Int) ≤ (C0:Int):=by omega
 have q2:(0:Int) ≤ (D0:Int):=by omega
 have q3:(A0:Int) ≤ (C0:Int):=by omega
 have q4:(C0:Int) ≤ (D0:Int):=by omega
 have q5:(D0:Int) ≤ (EN:Int):=by omega
 have q6:(C0:Int) ≤ (c:Int):=by omega
 have q7:(D0:Int) ≤ (c:Int):=by omega
 have q8:(EN:Int) ≤ (c:Int):=by omega
 have q9:¬ c = A0:=by omega
 have qA:¬ c = C0:=by omega
 have qB:¬ c = D0:=by omega
 have qC:C0 - A0 = L0:=by omega
 have qD:D0 - C0 = L1:=by omega
 have qE:EN - D0 = L2:=by omega
 have qF:A0 ≤ C0:=by omega
 have qG:C0 ≤ D0:=by omega
 have qH:D0 ≤ EN:=by omega
 have hEm:EN ≤ m:=by omega
 have HP1l:Hid ((ftP bs 1).length = L1):=by show _ = _;unfold ftP;rw [show 4 + 8 * 1 = 12 from rfl,show 8 + 8 * 1 = 16 from rfl,HfC.out,HfM.out,List.length_take,List.length_drop,HL.out];omega
 have HP2l:Hid ((ftP bs 2).length = L2):=by show _ = _;unfold ftP;rw [show 4 + 8 * 2 = 20 from rfl,show 8 + 8 * 2 = 24 from rfl,HfD.out,HfN.out,List.length_take,List.length_drop,HL.out];omega
 have HP0l:Hid ((ftP bs 0).length = L0):=by show _ = _;unfold ftP;rw [show 4 + 8 * 0 = 4 from rfl,show 8 + 8 * 0 = 8 from rfl,HfA.out,HfL.out,List.length_take,List.length_drop,HL.out];omega
 have HP1r:Hid (∀ W,Below w.heap.size w W → Rd W (some ⟨b,off + C0,none⟩) ((ftP bs 1).map bv)):=fun W hW=>by unfold ftP;rw [show 4 + 8 * 1 = 12 from rfl,show 8 + 8 * 1 = 16 from rfl,HfC.out,HfM.out,List.map_take,List.map_drop];exact ((HR.out.below hW).drop C0).take L1
 have HP2r:Hid (∀ W,Below w.heap.size w W → Rd W (some ⟨b,off + D0,none⟩) ((ftP bs 2).map bv)):=fun W hW=>by unfold ftP;rw [show 4 + 8 * 2 = 20 from rfl,show 8 + 8 * 2 = 24 from rfl,HfD.out,HfN.out,List.map_take,List.map_drop];exact ((HR.out.below hW).drop D0).take L2
 have HP0r:Hid (∀ W,Below w.heap.size w W → Rd W (some ⟨b,off + A0,none⟩) ((ftP bs 0).map bv)):=fun W hW=>by unfold ftP;rw [show 4 + 8 * 0 = 4 from rfl,show 8 + 8 * 0 = 8 from rfl,HfA.out,HfL.out,List.map_take,List.map_drop];exact ((HR.out.below hW).drop A0).take L0
 have HG1:=hid g1
 have HG2:=hid g2
 have HG3:=hid g3
 have hs10:=HB10.out.size
 clear g1 g2 g3
 go_cut [9] (fun v9 wd=>∃ (R:Nat) (qb qf:Option Addr) (cb cf:Nat),v9 = .pointer (some ⟨R,0,none⟩) ∧ w.heap.size ≤ R ∧ Hid (Below w.heap.size w wd) ∧ m ≤ cb ∧ cb ≤ maxLen ∧ Hid (wd.heap[R]? = some (.cells #[.slice qb m cb,.slice qf L1 cf,.int .u64 0,.int .u64 0,.string ⟨#[]⟩,.string ⟨#[]⟩,.int .u64 0,.int .u64 0,.int .u32 0,.int .u32 0,.slice none 0 0,.slice none 0 0] 54 (0,0))) ∧
  Hid (wd.ownsRow w.heap.size 5 1 (.slice qb m cb) m (bs.map bv)) ∧ Hid (wd.ownsRow w.heap.size 5 1 (.slice qf L1 cf) L1 ((ftP bs 1).map bv)))
 case first =>
  have hbd:Below w10.heap.size w10 w10.drew:=(Below.refl _ _).drew
  refine wp_region_held_drew (S:=fun _=>True) (by kernel_rfl) trivial (fun _ => ?_)
  refine take_held (v := ?_) 0 rfl (by kernel_rfl) (by kernel_rfl) (by kernel_rfl) (fun _ _ _ h=>h) (Or.inl ⟨by rfl, ?_⟩) trivial ?_
  rotate_left
  ·intro wS hSw
   go_simp
   try with_reducible rfl
  simp only [Act.put,List.setIfInBounds_toArray,List.set_cons_zero,List.set_cons_succ]
  refine take_held (v := ?_) 2 rfl (by kernel_rfl) (by kernel_rfl) (by kernel_rfl) (fun _ _ _ h=>h) (Or.inl ⟨by rfl, ?_⟩) trivial ?_
  rotate_left
  ·intro wS hSw
   go_simp
   try with_reducible rfl
  simp only [Act.put,List.setIfInBounds_toArray,List.set_cons_zero,List.set_cons_succ]
  refine take_held (v := ?_) 3 rfl (by kernel_rfl) (by kernel_rfl) (by kernel_rfl) (fun _ _ _ h=>h) (Or.inl ⟨by rfl, ?_⟩) trivial ?_
  rotate_left
  ·intro wS hSw
   go_simp
   try with_reducible rfl
  simp only [Act.put,List.setIfInBounds_toArray,List.set_cons_zero,List.set_cons_succ]
  refine take_held (v := ?_) 4 rfl (by kernel_rfl) (by kernel_rfl) (by kernel_rfl) (fun _ _ _ h=>h) (Or.inl ⟨by rfl, ?_⟩) trivial ?_
  rotate_left
  ·intro wS hSw
   go_simp
   try with_reducible rfl
  simp only [Act.put,List.setIfInBounds_toArray,List.set_cons_zero,List.set_cons_succ]
  refine take_held (v := ?_) 5 rfl (by kernel_rfl) (by kernel_rfl) (by kernel_rfl) (fun _ _ _ h=>h) (Or.inl ⟨by rfl, ?_⟩) trivial ?_
  rotate_left
  ·intro wS hSw
   go_simp
   try with_reducible rfl
  simp only [Act.put,List.setIfInBounds_toArray,List.set_cons_zero,List.set_cons_succ]
  refine wpAnyH_ready (rs:=[1]) (by kernel_rfl) (by simp) ?_
  refine cons_held 1 rfl (fun KK hK => ?_) AllReadyH.nil
  refine step_append_rd rfl (.const (.slice none 0 0)) (.tmp 61) 22 rfl w.heap.size 5 (.int .u8 0) 1 1 Tryz.underlying22 infoU8 rfl (by decide) (.slice none 0 0) 0 [] rfl (World.ownsRow_nil _ _ _ _) (some ⟨b,off,none⟩) m c (bs.map bv) rfl (fun h=>by cases h) (by rw [List.length_map,HL.out];omega) (HR.out.below (HB10.out.trans (hbd.mono hs10))) bv_one (by unfold maxLen;omega) (by omega) hs10 ?_
  intro v1 w11 hown1 hg1 _
  have hb1:Below w10.heap.size w10 w11:=hbd.grown hg1 (Nat.le_refl _) (fun g hg=>by cases hg)
  rw [Nat.zero_add,List.nil_append] at hown1
  obtain ⟨qb,cb,rfl,hcb1,hcb2,_⟩:=own_shape hown1
  refine hK.out _ _ trivial (fun _ => ?_)
  clear hK KK
  have hs11:w.heap.size ≤ w11.heap.size:=by have:=hb1.size;omega
  refine wpAnyH_ready (rs:=[6]) (by kernel_rfl) (by simp) ?_
  refine cons_held 6 rfl (fun KK hK => ?_) AllReadyH.nil
  refine step_append_rd rfl (.const (.slice none 0 0)) (.tmp 66) 22 rfl w.heap.size 5 (.int .u8 0) 1 1 Tryz.underlying22 infoU8 rfl (by decide) (.slice none 0 0) 0 [] rfl (World.ownsRow_nil _ _ _ _) (some ⟨b,off + C0,none⟩) L1 (c - C0) ((ftP bs 1).map bv) rfl (fun h=>by cases h) (by rw [List.length_map,HP1l.out];omega) (HP1r.out _ (HB10.out.trans (hb1.mono hs10))) bv_one (by unfold maxLen;omega) (by omega) hs11 ?_
  intro v2 w12 hown2 hg2 _
  have hb2:Below w11.heap.size w11 w12:=(Below.refl _ _).grown hg2 (Nat.le_refl _) (fun g hg=>by cases hg)
  rw [Nat.zero_add,List.nil_append] at hown2
  obtain ⟨qf,cf,rfl,_,_,_⟩:=own_shape hown2
  refine hK.out _ _ trivial (fun _ => ?_)
  clear hK KK
  refine take_held (v := ?_) 7 rfl (by kernel_rfl) (by kernel_rfl) (by kernel_rfl) (fun _ _ _ h=>h) (Or.inl ⟨by rfl, ?_⟩) trivial ?_
  rotate_left
  ·intro wS hSw
   go_simp
   try with_reducible rfl
  simp only [Act.put,List.setIfInBounds_toArray,List.set_cons_zero,List.set_cons_succ]
  refine wpAnyH_ready (rs:=[8]) (by kernel_rfl) (by simp) ?_
  refine cons_held 8 rfl (fun KK hK => ?_) AllReadyH.nil
  go_simp
  obtain ⟨R,hR⟩:∃ g,g = w12.heap.size:=⟨_,rfl⟩
  obtain ⟨w13,hw13⟩:∃ g,g = w12.alloc (.cells #[.slice qb m cb,.slice qf L1 cf,.int .u64 0,.int .u64 0,.string ⟨#[]⟩,.string ⟨#[]⟩,.int .u64 0,.int .u64 0,.int .u32 0,.int .u32 0,.slice none 0 0,.slice none 0 0] 54):=⟨_,rfl⟩
  have hb3:Below w12.heap.size w12 w13:=by rw [hw13];exact (Below.refl _ _).alloc (Nat.le_refl _) _
  have hrow:w13.heap[R]? = some (.cells #[.slice qb m cb,.slice qf L1 cf,.int .u64 0,.int .u64 0,.string ⟨#[]⟩,.string ⟨#[]⟩,.int .u64 0,.int .u64 0,.int .u32 0,.int .u32 0,.slice none 0 0,.slice none 0 0] 54 (0,0)):=by rw [hw13,hR];exact World.alloc_heap_new _ _
  have hRw:w.heap.size ≤ R:=by have:=hb2.size;omega
  rw [← hw13,← hR]
  clear hw13 hR
  refine hK.out _ _ trivial (fun _ => ?_)
  clear hK KK
  refine take_held (v := ?_) 9 rfl (by kernel_rfl) (by kernel_rfl) (by kernel_rfl) (fun _ _ _ h=>h) (Or.inl ⟨by rfl, ?_⟩) trivial ?_
  rotate_left
  ·intro wS hSw
   go_simp
   try with_reducible rfl
  simp only [Act.put,List.setIfInBounds_toArray,List.set_cons_zero,List.set_cons_succ]
  refine wpAnyH_done (by kernel_rfl) ?_ _
  go_wp2
  go_meet
  exact ⟨R,qb,qf,cb,cf,rfl,hRw,((HB10.out.trans (hb1.mono hs10)).trans (hb2.mono hs11)).trans (hb3.mono (by have:=hb2.size;omega)),hcb1,hcb2,hrow,own_below (own_below hown1 hb2) hb3,own_below hown2 hb3⟩
 case rest =>
  obtain ⟨R,qb,qf,cb,cf,rfl,hRw,HBc,hcb1,hcb2,HRow,HOb,HOf⟩:=hcut
  have HN28:Hid (∃ x,num4 FT 28 = x):=⟨_,rfl⟩
  obtain ⟨N28,hN28⟩:=HN28.out
  obtain ⟨N32,hN32⟩:∃ x,num4 FT 32 = x:=⟨_,rfl⟩
  obtain ⟨C1,hC1⟩:∃ x,(crcMore 0 (ftP bs 1)).toNat = x:=⟨_,rfl⟩
  obtain ⟨C2,hC2⟩:∃ x,(crcMore 0 (ftP bs 2)).toNat = x:=⟨_,rfl⟩
  have hC1l:C1 < 4294967296:=by rw [← hC1];exact (crcMore 0 (ftP bs 1)).isLt
  have hC2l:C2 < 4294967296:=by rw [← hC2];exact (crcMore 0 (ftP bs 2)).isLt
  have hsg:∀ r,Opens bs r → N28 = C1 ∧ N32 = C2:=fun r h=>by
   have h1:=h.s1
   have h2:=h.s2
   unfold ftN at h1 h2
   rw [← HFT2.out] at h1 h2
   rw [hN28,hC1] at h1
   rw [hN32,hC2] at h2
   exact ⟨h1,h2⟩
  have S28:Hid (ftN bs 28 = N28):=by show _ = _;unfold ftN;rw [← HFT2.out,hN28]
  have S32:Hid (ftN bs 32 = N32):=by show _ = _;unfold ftN;rw [← HFT2.out,hN32]
  obtain ⟨TD,D,hD1,hD2⟩:=class_d wc
  have hwd:∀ {w'},Below wc.heap.size wc w' → Below w.heap.size w w':=fun h=>HBc.out.trans (h.mono HBc.out.size)
  have HC1:=hid (fun z=>calls_d hD1 hD2 (f:=24) (vs := #[.slice (some ⟨b,off + EN,none⟩) 40 CE,.int .i64 28]) (v:=.int .i64 (N28:Int)) (fun w' hb=>by
   have k:=HF4.out 28 28 rfl (by decide) w' (hwd hb)
   rw [hN28] at k
   exact k) z)
  have HC2:=hid (fun z=>calls_d hD1 hD2 (f:=25) (vs := #[.slice (some ⟨b,off + C0,none⟩) L1 (c - C0)]) (v:=.int .u32 (C1:Int)) (fun w' hb=>by
   have k:=rsum12_any (some ⟨b,off + C0,none⟩) L1 (c - C0) (ftP bs 1) w' HP1l.out (by omega) (HP1r.out w' (hwd hb))
   rw [hC1] at k
   exact k.mono (by rintro e w'' ⟨h1,rfl⟩;exact ⟨h1,Below.refl _ _⟩)) z)
  have HC3:=hid (fun z=>calls_d hD1 hD2 (f:=24) (vs := #[.slice (some ⟨b,off + EN,none⟩) 40 CE,.int .i64 32]) (v:=.int .i64 (N32:Int)) (fun w' hb=>by
   have k:=HF4.out 32 32 rfl (by decide) w' (hwd hb)
   rw [hN32] at k
   exact k) z)
  have HC4:=hid (fun z=>calls_d hD1 hD2 (f:=25) (vs := #[.slice (some ⟨b,off + D0,none⟩) L2 (c - D0)]) (v:=.int .u32 (C2:Int)) (fun w' hb=>by
   have k:=rsum12_any (some ⟨b,off + D0,none⟩) L2 (c - D0) (ftP bs 2) w' HP2l.out (by omega) (HP2r.out w' (hwd hb))
   rw [hC2] at k
   exact k.mono (by rintro e w'' ⟨h1,rfl⟩;exact ⟨h1,Below.refl _ _⟩)) z)
  obtain ⟨y0,hy0⟩:=hD2 { wc with drawn:=wc.drawn + 1 } (Below.refl _ _).drew
  haveI:Nonempty TD:=⟨y0⟩
  have HD1:=hid hD1
  have HSG:=hid hsg
  have HC1e:=hid hC1
  have HC2e:=hid hC2
  have w1c:IntKind.i64.wrap (C1:Int) = (C1:Int):=by rw [IntWalk.i64_in _ (by omega)]
  have w2c:IntKind.i64.wrap (C2:Int) = (C2:Int):=by rw [IntWalk.i64_in _ (by omega)]
  clear hD1 hD2 hsg hN28 hN32 hC1 hC2 hwd
  go_upto_region 13 with fail
  by_cases hs1:N28 = C1
  rotate_left
  ·have hno:¬ ∃ r,Opens bs r:=fun ⟨r,h⟩=>hs1 (HSG.out r h).1
   have HNo:=hid hno
   have i2:((N28:Int) != (C1:Int)) = true:=by simp;omega
   clear hno hs1
   as_aux_lemma =>
    refine region_quiet_d (D:=D) (by kernel_rfl) (by kernel_rfl) y0 hy0 ?_
    repeat (go_big_quiet_step ((first | (go_at_call 24;with_reducible exact HC1.out _) | (go_at_call 25;with_reducible exact HC2.out _))))
    refine wpQuiet_nil ?_
    intro z
    have HBr:=hid (HBc.out.trans ((HD1.out z).mono HBc.out.size))
    go_wp2
    go_ret2
    exact ⟨HBr.out,.inl ⟨HNo.out,rfl⟩⟩
  have i2:((N28:Int) != (C1:Int)) = false:=by rw [hs1];simp
  refine region_quiet_d (D:=D) (by kernel_rfl) (by kernel_rfl) y0 hy0 ?_
  repeat (go_big_quiet_step ((first | (go_at_call 24;first | (with_reducible exact HC1.out _) | (with_reducible exact HC3.out _)) | (go_at_call 25;first | (with_reducible exact HC2.out _) | (with_reducible exact HC4.out _)))))
  refine wpQuiet_nil ?_
  intro z
  obtain ⟨we,hwe⟩:∃ x,x = D z:=⟨_,rfl⟩
  have HBce:=hid (show Below wc.heap.size wc we from by rw [hwe];exact HD1.out z)
  rw [← hwe]
  have HS1:=hid hs1
  clear hwe hy0 HC1 HC2 HC3 HC4 HD1 i2 hs1
  by_cases hs2:N32 = C2
  rotate_left
  ·have hno:¬ ∃ r,Opens bs r:=fun ⟨r,h⟩=>hs2 (HSG.out r h).2
   have HNo:=hid hno
   have HBr:=hid (HBc.out.trans (HBce.out.mono HBc.out.size))
   have i3:¬ ((N32:Int) = (C2:Int)):=by omega
   clear hno hs2
   as_aux_lemma =>
    go_wp2
    go_ret2
    exact ⟨HBr.out,.inl ⟨HNo.out,rfl⟩⟩
  have i3:(N32:Int) = (C2:Int):=by omega
  have HS2:=hid hs2
  clear hs2 w1c w2c HSG
  have HBe:=hid (HBc.out.trans (HBce.out.mono HBc.out.size))
  have HRowe:=hid ((HBce.out.block R (lt_of_block HRow.out)).trans HRow.out)
  have HObe:=hid (own_below HOb.out HBce.out)
  have HOfe:=hid (own_below HOf.out HBce.out)
  have kp:=rprops_any b (off + D0) L2 (c - D0) (ftP bs 2) we HP2l.out (by omega) (by omega) (by omega) (HP2r.out _ HBe.out)
  clear HRow HOb HOf HBc HBce HFr HF4
  have hsz:=HBe.out.size
  go_wp2_with fail
  refine kp.mono ?_
  rintro e wf ⟨bf,hp⟩
  have HBf:=hid (HBe.out.trans (bf.mono hsz))
  have Bf:=hid bf
  rcases hp with ⟨hpn,rfl⟩ | ⟨pp,hps,rfl⟩
  ·have hno:¬ ∃ r,Opens bs r:=fun ⟨r,h⟩=>by have h2:=h.props;rw [hpn] at h2;cases h2
   have HNo:=hid hno
   clear hno hpn bf kp
   as_aux_lemma =>
    unfold zP
    go_wp2
    go_ret2
    exact ⟨HBf.out.alloc (Nat.le_trans hsz Bf.out.size) _,.inl ⟨HNo.out,rfl⟩⟩
  have HPS:=hid hps
  rw [show pp.cells.toArray = #[.int .u64 (pp.line:Int),.int .u64 (pp.many:Int),.string pp.low,.string pp.high,.int .u64 (pp.least:Int),.int .u64 (pp.greatest:Int),.int .u32 (pp.early:Int),.int .u32 (pp.late:Int)] from rfl]
  clear hps bf kp
  go_upto_region 16 with fail
  obtain ⟨PB,hPB⟩:∃ x,x = wf.heap.size:=⟨_,rfl⟩
  obtain ⟨wg,hwg⟩:∃ x,x = wf.alloc (.cells #[.int .u64 (pp.line:Int),.int .u64 (pp.many:Int),.string pp.low,.string pp.high,.int .u64 (pp.least:Int),.int .u64 (pp.greatest:Int),.int .u32 (pp.early:Int),.int .u32 (pp.late:Int)] 49):=⟨_,rfl⟩
  have hbg:Below wf.heap.size wf wg:=by rw [hwg];exact (Below.refl _ _).alloc (Nat.le_refl _) _
  have hpb:wg.heap[PB]? = some (.cells #[.int .u64 (pp.line:Int),.int .u64 (pp.many:Int),.string pp.low,.string pp.high,.int .u64 (pp.least:Int),.int .u64 (pp.greatest:Int),.int .u32 (pp.early:Int),.int .u32 (pp.late:Int)] 49 (0,0)):=by rw [hwg,hPB];exact World.alloc_heap_new _ _
  have hRe:R < we.heap.size:=lt_of_block HRowe.out
  have hRf:R < wf.heap.size:=Nat.lt_of_lt_of_le hRe Bf.out.size
  have hPR:PB ≠ R:=by omega
  have hrowg:=(hbg.block R hRf).trans ((Bf.out.block R hRe).trans HRowe.out)
  have HBg:=hid (HBf.out.trans (hbg.mono HBf.out.size))
  have HObg:=hid (own_below (own_below HObe.out Bf.out) hbg)
  have HOfg:=hid (own_below (own_below HOfe.out Bf.out) hbg)
  rw [← hwg,← hPB]
  have kq:=pieces_any R b (off + A0) L0 (c - A0) A0 (ftP bs 0) (.slice qb m cb) (.slice qf L1 cf) (.int .u64 0) (.int .u64 0) (.string ⟨#[]⟩) (.string ⟨#[]⟩) (.int .u64 0) (.int .u64 0) (.int .u32 0) (.int .u32 0) wg HP0l.out (by have:=HG1.out;have:=HG2.out;have:=HG3.out;omega) (by omega) (by have:=HG1.out;have:=HG2.out;have:=HG3.out;omega) (by have:=HG1.out;have:=HG2.out;have:=HG3.out;omega) (HP0r.out _ HBg.out) hrowg
  have HRowg:=hid hrowg
  have HPb:=hid hpb
  have hgsz:=HBg.out.size
  clear hwg hPB hbg hrowg hpb HRowe HObe HOfe Bf HBf
  go_wp2_with fail
  refine kq.mono ?_
  rintro e wh ⟨bh,hq⟩
  have HBh:=hid (HBg.out.trans (bh.1.mono hRw))
  rcases hq with ⟨hn1,rfl⟩ | ⟨l,cs,hbl,hix,rfl,q1',c1',q2',c2',hrowh,hown1,hown2⟩
  ·have hno:¬ ∃ r,Opens bs r:=fun ⟨r,h⟩=>hn1 (by obtain ⟨l,h1,h2⟩:=h.idx;rw [HfA.out] at h2;exact ⟨l,_,h1,h2⟩)
   have HNo:=hid hno
   clear hno hn1 bh kq
   as_aux_lemma =>
    go_wp2
    go_ret2
    exact ⟨HBh.out,.inl ⟨HNo.out,rfl⟩⟩
  have hpb2:=(bh.2 PB (lt_of_block HPb.out) hPR).trans HPb.out
  obtain ⟨p0,p1,p2,p3,p4,p5,p6,p7⟩:=cells8 hpb2
  obtain ⟨r0,r1,r2,r3,r4,r5,r6,r7,r8,r9⟩:=cells12c hrowh
  have fz:∀ j,wh.frozen? ⟨R,j,none⟩ = false:=fun j=>frozen_of_row _ _ _ _ _ hrowh
  have HObh:=hid (own_bel3 HObg.out bh HRowg.out (by decide))
  have HOfh:=hid (own_bel3 HOfg.out bh HRowg.out (by decide))
  have HRowh:=hid hrowh
  have HO1:=hid hown1
  have HO2:=hid hown2
  have HBl:=hid hbl
  have HIx:=hid hix
  clear hpb2 hrowh hown1 hown2 hbl hix bh kq r0 r1
  go_wp2
  obtain ⟨x1,x2⟩:=set12c HRowh.out (.int .u64 (pp.line:Int)) (.int .u64 (pp.many:Int)) (.string pp.low) (.string pp.high) (.int .u64 (pp.least:Int)) (.int .u64 (pp.greatest:Int)) (.int .u32 (pp.early:Int)) (.int .u32 (pp.late:Int))
  go_ret2
  have hRg:R < wg.heap.size:=lt_of_block HRowg.out
  refine ⟨HBh.out.trans (x2.1.mono hRw),.inr ⟨⟨bs,ftP bs 1,pp,cs⟩,R, ?_,rfl,fun W hW => ?_⟩⟩
  ·exact { b:=rfl,len:=(by have:=HL.out;omega),magic:=(by rw [← HFT2.out];exact HMg.out),sum:=(by unfold ftN;rw [← HFT2.out,HN36.out,HC36.out];exact HSm.out),c0:=(by rw [HfA.out,HfL.out,HfC.out];exact HG1.out.symm),c1:=(by rw [HfC.out,HfM.out,HfD.out];exact HG2.out.symm),c2:=(by have h1:=HL.out;have h2:=HEN.out;have h3:=HG3.out;rw [HfD.out,HfN.out];omega),s1:=(by rw [S28.out,HC1e.out];exact HS1.out),s2:=(by rw [S32.out,HC2e.out];exact HS2.out),idx:=⟨l,HBl.out,by rw [HfA.out];exact HIx.out⟩,filter:=rfl,props:=HPS.out }
  ·have k1:=own_since (own_bel3 HObh.out x2 HRowh.out (by decide)) hW (Nat.le_refl _)
   have k2:=own_since (own_bel3 HOfh.out x2 HRowh.out (by decide)) hW (Nat.le_refl _)
   have k3:=own_since (own_bel2 HO1.out x2 hRg) hW hgsz
   have k4:=own_since (own_bel2 HO2.out x2 hRg) hW hgsz
   have r1:=(Fr.of_own k1).rd
   obtain ⟨bb,ob,rfl, -⟩:=r1.cell (k:=0) (by rw [List.length_map,HL.out];omega)
   refine ⟨bb,ob,cb,qf,cf,q1',c1',q2',c2', ?_, ?_,hcb2,r1,(Fr.of_own k2).rd,(Fr.of_own k3).rd,(Fr.of_own k4).rd⟩
   ·refine (hW.2 R hRw (lt_of_block x1)).trans (x1.trans ?_)
    show _ = some (Obj.cells (rrRow (.slice (some ⟨bb,ob,none⟩) bs.length cb) (.slice qf (ftP bs 1).length cf) pp (.slice q1' cs.length c1') (.slice q2' cs.length c2')) _ _)
    rw [HL.out,HP1l.out]
    rfl
   ·show bs.length ≤ cb
    rw [HL.out]
    exact hcb1
end Go.Proofs.Herb
