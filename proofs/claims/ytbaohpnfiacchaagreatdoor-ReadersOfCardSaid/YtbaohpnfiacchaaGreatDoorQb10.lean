/- The contract of blocks.Put. For items that can be read, of so many bytes. -/
import Derived.Lib.IndexBytes
import Derived.Lib.Strings
import Derived.Deep.DeepCutAuto
import Derived.Test.YtbaohpnfiacchaaGreatDoorQb04
import Derived.Test.YtbaohpnfiacchaaGreatDoorQb05
import Derived.Test.YtbaohpnfiacchaaGreatDoorQb07
namespace Go.Proofs.Herb
open Go.RowKit
theorem str_drop (s:ByteArray) (k:Nat):(s.extract k s.size).data.toList = s.data.toList.drop k:=by
 rw [Lib.extract_data,List.take_of_length_le (by rw [List.length_drop,size_toList];exact Nat.le_refl _)]
theorem str_drop_size (s:ByteArray) (k:Nat):(s.extract k s.size).size = s.size - k:=by rw [← size_toList,str_drop,List.length_drop,size_toList]
theorem Fr.nilc {w:World} {base:Nat} {e:TypeId} {k:Nat} {q:Option Addr} {n c:Nat} {xs:List Value} (h:Fr w base e k (.slice q n c) n xs):q = none → c = 0:=by
 obtain ⟨a,c',h1,_,_,_,h2⟩:=h.shape
 rw [Value.slice.injEq] at h1
 obtain ⟨rfl,_,rfl⟩:=h1
 exact fun e=>(h2 e).2
set_option maxRecDepth 100000 in
set_option maxHeartbeats 4000000 in
theorem bput_any (q:Option Addr) (n c:Nat) (l:List Item) (w:World) (hn:l.length = n) (hm:n ≤ 100000) (hr:Rd w q (iCells l)) (hks:∀ x ∈ l,x.key.size ≤ 100000 ∧ x.val.size ≤ 100000) :
  Calls Tryz.prog 45 #[.slice q n c] w (BPut l w.heap.size w):=by
 have HR:=hid (rise_any q n c l w hn (by omega) hr)
 have Hn:=hid hn
 have Hr:=hid hr
 have Hks:=hid hks
 clear hn hr hks
 go_enter Tryz.func45,Tryz.ntmps45
 go_wp2_with fail
 (with_reducible refine HR.out.mono ?_)
 rintro e w1 ⟨b,rfl,hb,hB⟩
 have Hb:=hid hb
 have HB1:=hid hB
 clear hb hB HR
 by_cases hR:RiseI l
 ·obtain rfl:b = true:=Hb.out.2 hR
  have HRi:=hid hR
  clear Hb hR
  go_wp2_with fail
  go_loopw [4,5,16] (fun v4 v5 i wr=>∃ (k:Nat) (q4 q5:Option Addr) (c4 c5:Nat),k ≤ n ∧ i = .int .i64 (k:Int) ∧ v4 = .slice q4 (bUp l k).length c4 ∧ v5 = .slice q5 (pUp l k).length c5 ∧ (bUp l k).length ≤ 265566 ∧
    wr.ownsRow w.heap.size 5 1 (.slice q4 (bUp l k).length c4) (bUp l k).length ((bUp l k).map bv) ∧ wr.ownsRow w.heap.size 5 1 (.slice q5 (pUp l k).length c5) (pUp l k).length ((pUp l k).map bv) ∧ Apart2 q4 q5 ∧ Below w.heap.size w wr) (fun _ _ i _=>n - (intOf i).toNat)
  case atStart=>exact ⟨0,none,none,0,0,Nat.zero_le _,rfl,rfl,rfl,by simp [bUp],World.ownsRow_nil _ _ _ _,World.ownsRow_nil _ _ _ _,(fun b c h=>by cases h),HB1.out⟩
  case round =>
   obtain ⟨k,q4,q5,c4,c5,hk,rfl,rfl,rfl,hbl,ho4,ho5,hap,hB⟩:=hrel
   obtain ⟨N4,hN4⟩:∃ N4,N4 = (bUp l k).length:=⟨_,rfl⟩
   obtain ⟨N5,hN5⟩:∃ N5,N5 = (pUp l k).length:=⟨_,rfl⟩
   rw [← hN4] at ho4 hbl ⊢
   rw [← hN5] at ho5 ⊢
   have h5l:N5 ≤ 400000:=by rw [hN5,pUp_len];omega
   have Ho4:=hid ho4
   have Ho5:=hid ho5
   have Hap:=hid hap
   have HB:=hid hB
   have HN4:=hid hN4
   have HN5:=hid hN5
   have hbs:=hB.size
   clear ho4 ho5 hap hB hN4 hN5 HB1
   by_cases hlt:k < n
   ·have hkl:k < l.length:=by rw [Hn.out];exact hlt
    obtain ⟨bq,off,rfl,hbq,c0,c1⟩:=item_at (Hr.out.below HB.out) hkl
    obtain ⟨key,hkey⟩:∃ x,x = l[k].key:=⟨_,rfl⟩
    obtain ⟨val,hval⟩:∃ x,x = l[k].val:=⟨_,rfl⟩
    rw [← hkey] at c0
    rw [← hval] at c1
    have hsz:=Hks.out _ (List.getElem_mem hkl)
    rw [← hkey,← hval] at hsz
    obtain ⟨hs1,hs2⟩:=hsz
    have hka:kAt l k = key.data.toList:=by rw [kAt_get hkl,hkey]
    have hva:vAt l k = val.data.toList:=by rw [vAt_get hkl,hval]
    have HKA:=hid hka
    have HVA:=hid hva
    have HKEY:=hid hkey
    have i0:(0:Int) ≤ (k:Int):=by omega
    have i1:(k:Int) < (n:Int):=by omega
    clear hkey hval hka hva
    by_cases hbig:65536 < N4
    ·have hfin:65536 < (bAll l).length:=by
      rw [bAll_len]
      have:=bUp_mono l (show k ≤ l.length by omega)
      rw [← HN4.out] at this;omega
     have HF:=hid hfin
     have d1:decide ((65536:Int) < (N4:Int)) = true:=by simp;omega
     clear hfin
     go_wp2_with fail
     go_ret2
     exact ⟨HB.out.alloc hbs _,.inr (.inl ⟨HRi.out,HF.out,rfl⟩)⟩
    ·have d1:decide ((65536:Int) < (N4:Int)) = false:=by simp;omega
     go_upto_if 26 with (fail)
     have hba:(wr.alloc (.cells #[.string key,.string val] 100)).heap[wr.heap.size]? = some (.cells #[.string key,.string val] 100 (0,0)):=heap_alloc_new _ _
     generalize hwa:wr.alloc (.cells #[.string key,.string val] 100) = wa at hba
     obtain ⟨X,hX⟩:∃ X,X = wr.heap.size:=⟨_,rfl⟩
     have hBa:Below wr.heap.size wr wa:=by rw [← hwa];exact (Below.refl _ _).alloc (Nat.le_refl _) _
     have hXa:X < wa.heap.size:=by rw [← hwa,hX];simp
     rw [← hX] at hba ⊢
     have Ho4a:=hid (own_below Ho4.out hBa)
     have Ho5a:=hid (own_below Ho5.out hBa)
     have HBa:=hid (HB.out.trans (hBa.mono hbs))
     have Hba:=hid hba
     have Hr2:=hid (Hr.out.below HBa.out)
     have hwX:w.heap.size ≤ X:=by omega
     clear hba hBa hwa Ho4 Ho5 hX
     obtain ⟨sh,hsh⟩:∃ sh,sh = shAt l k:=⟨_,rfl⟩
     have hsl:sh ≤ key.size:=by
      have:=shAt_le l k
      rw [← hsh,HKA.out,size_toList] at this;exact this
     have HSH:=hid hsh
     clear hsh
     go_cut [5,8] (fun v5 v8 wc=>∃ (p5:Option Addr) (d5:Nat),v5 = .slice p5 (pUp l (k + 1)).length d5 ∧ v8 = .int .i64 (sh:Int) ∧ wc.ownsRow w.heap.size 5 1 (.slice p5 (pUp l (k + 1)).length d5) (pUp l (k + 1)).length ((pUp l (k + 1)).map bv) ∧
      wc.ownsRow w.heap.size 5 1 (.slice q4 N4 c4) N4 ((bUp l k).map bv) ∧ Apart2 q4 p5 ∧ wc.heap[X]? = some (.cells #[.string key,.string val] 100 (0,0)) ∧ Below w.heap.size w wc)
     case first =>
      by_cases hmod:k % 4 = 0
      ·have dm:((k:Int) % 4 == 0) = true:=by
        have:(k:Int) % 4 = 0:=by omega
        rw [this];rfl
       have hs0:sh = 0:=by rw [HSH.out];unfold shAt;rw [if_pos hmod]
       subst hs0
       have hps:pUp l (k + 1) = pUp l k ++ le4 N4:=by rw [pUp_succ,if_pos hmod,HN4.out]
       have HPS:=hid hps
       clear hps hmod
       go_wp2_with (go_at_call 89;refine (number_any w.heap.size q5 N5 c5 (pUp l k) N4 _ (by omega) Ho5a.out (by omega) (by omega)).mono ?_;rintro e w3 ⟨q',c',rfl,g⟩;have G:=hid g;clear g)
       go_meet
       case rel =>
        have hL:(pUp l (k + 1)).length = N5 + 4:=by rw [HPS.out,List.length_append,le4_len,HN5.out]
        refine ⟨q',c',by rw [hL],rfl, ?_,own_grew G.out Hap.out.symm Ho4a.out,(Hap.out.symm.grew G.out Ho4a.out).symm, ?_,HBa.out.trans G.out.below⟩
        ·rw [hL,HPS.out];exact G.out.own
        ·exact (G.out.other X hXa (fun b hb e=>by
          subst hb
          exact own_apart Ho5a.out ⟨_,_,Hba.out⟩ (by decide) b.block rfl e.symm)).trans Hba.out
      ·have dm:((k:Int) % 4 == 0) = false:=by
        have:(k:Int) % 4 ≠ 0:=by omega
        simpa using this
       obtain ⟨j,rfl⟩:∃ j,k = j + 1:=⟨k - 1,by omega⟩
       obtain ⟨b',off',e,_,c0',_⟩:=item_at (j:=j) Hr2.out (by omega)
       cases e
       obtain ⟨prev,hprev⟩:∃ x,x = l[j].key:=⟨_,rfl⟩
       rw [← hprev] at c0'
       have hps':=(Hks.out _ (List.getElem_mem (show j < l.length by omega))).1
       rw [← hprev] at hps'
       have hss:sh = comL prev.data.toList key.data.toList:=by
        rw [HSH.out];unfold shAt;rw [if_neg hmod,HKA.out,Nat.add_sub_cancel,kAt_get (show j < l.length by omega),hprev]
       have hps:pUp l (j + 1 + 1) = pUp l (j + 1):=by rw [pUp_succ,if_neg hmod,List.append_nil]
       have HPS:=hid hps
       have HSS:=hid hss
       have s1:IntKind.i64.wrap (((j + 1:Nat):Int) - 1) = (j:Int):=by rw [IntWalk.i64_in _ (by omega)];omega
       have j0:(0:Int) ≤ (j:Int):=by omega
       have j1:(j:Int) < (n:Int):=by omega
       have cX:wa.cell? ⟨X,0,none⟩ = some (.string key):=(cell_of_row wa _ _ _ _ _ Hba.out).trans rfl
       clear hps hmod hprev hss c0 c1
       go_wp2_with fail
       go_quiet ((go_at_call 90;exact Calls.quiet_of (common_any prev key _ (by omega))))
       go_wp2_with fail
       go_meet
       case rel =>
        refine ⟨q5,c5,by rw [HPS.out,← HN5.out],by rw [HSS.out], ?_,own_below Ho4a.out (below_drewN (Below.refl _ _) _),Hap.out,Hba.out,below_drewN HBa.out _⟩
        rw [HPS.out,← HN5.out];exact own_below Ho5a.out (below_drewN (Below.refl _ _) _)
     case rest =>
      obtain ⟨p5,d5,rfl,rfl,ho5,ho4,hap,hbx,hB⟩:=hcut
      have HO5:=hid ho5
      have HO4:=hid ho4
      have HAP:=hid hap
      have HBX:=hid hbx
      have HBc:=hid hB
      have hXc:=lt_of_block hbx
      have e0:wc.cell? ⟨X,0,none⟩ = some (.string key):=(cell_of_row wc _ _ _ _ _ hbx).trans rfl
      have e1:wc.cell? ⟨X,1,none⟩ = some (.string val):=(cell_of_row wc _ _ _ _ _ hbx).trans rfl
      have hpl:(pUp l (k + 1)).length ≤ 400004:=by rw [pUp_len];omega
      clear ho5 ho4 hap hbx hB Hba Ho4a Ho5a HBa c0 c1 Hap hXa
      go_wp2_with fail
      refine (vput_any none 0 0 sh [] wc (by omega) rfl (Nat.le_refl _) (by omega) (.inl rfl) (fun _=>rfl)).mono ?_
      rintro e w3 ⟨q9,rfl,hf9,hb3⟩
      have hvl:=(vput_len sh).2
      rw [Nat.zero_add,List.nil_append] at hf9
      rw [Nat.zero_add]
      obtain ⟨L1,hL1⟩:∃ L1,L1 = (vput sh).length:=⟨_,rfl⟩
      rw [← hL1] at hf9 hvl ⊢
      have hX3:=(hb3.block X hXc).trans HBX.out
      have hs3:=hb3.size
      have f0:w3.cell? ⟨X,0,none⟩ = some (.string key):=(cell_of_row w3 _ _ _ _ _ hX3).trans rfl
      have f1:w3.cell? ⟨X,1,none⟩ = some (.string val):=(cell_of_row w3 _ _ _ _ _ hX3).trans rfl
      have HF9:=hid hf9
      have HL1:=hid hL1
      have HX3:=hid hX3
      have Hb3:=hid hb3
      clear hf9 hL1 hX3 hb3 e0 e1
      have k0:(0:Int) ≤ (sh:Int):=by omega
      have k1:(sh:Int) ≤ (key.size:Int):=by omega
      go_wp2_with fail
      refine (ptext_any q9 L1 L1 (vput sh) (key.extract sh key.size) w3 (by rw [str_drop_size];omega) HL1.out.symm (Nat.le_refl _) (by omega) HF9.out.rd HF9.out.nilc).mono ?_
      rintro e w4 ⟨q10,rfl,hf10,hb4⟩
      rw [str_drop] at hf10 ⊢
      obtain ⟨L2,hL2⟩:∃ L2,L2 = L1 + (tput (key.data.toList.drop sh)).length:=⟨_,rfl⟩
      have hL2l:L2 ≤ 100030:=by
       have h2:=(vput_len (key.data.toList.drop sh).length).2
       rw [hL2,tput_len]
       rw [List.length_drop,size_toList] at h2 ⊢
       omega
      rw [← hL2] at hf10 ⊢
      have hX4:=(hb4.block X (by omega)).trans HX3.out
      have hs4:=hb4.size
      have g1:w4.cell? ⟨X,1,none⟩ = some (.string val):=(cell_of_row w4 _ _ _ _ _ hX4).trans rfl
      have HF10:=hid hf10
      have HL2:=hid hL2
      have Hb4:=hid (Hb3.out.trans (hb4.mono hs3))
      clear hf10 hL2 hX4 hb4 f0 f1
      go_wp2_with fail
      refine (ptext_any q10 L2 L2 (vput sh ++ tput (key.data.toList.drop sh)) val w4 (by omega) (by rw [List.length_append,← HL1.out,HL2.out]) (Nat.le_refl _) (by omega) HF10.out.rd HF10.out.nilc).mono ?_
      rintro e w5 ⟨q11,rfl,hf11,hb5⟩
      have hit:vput sh ++ tput (key.data.toList.drop sh) ++ tput val.data.toList = itB l k:=by unfold itB;rw [← HSH.out,HKA.out,HVA.out]
      rw [hit] at hf11
      obtain ⟨L3,hL3⟩:∃ L3,L3 = L2 + (tput val.data.toList).length:=⟨_,rfl⟩
      have hL3i:(itB l k).length = L3:=by rw [← hit,List.length_append,List.length_append,← HL1.out,hL3,HL2.out]
      have hL3l:L3 ≤ 200030:=by
       have:=itB_len l k
       rw [hL3i,HKA.out,HVA.out,size_toList,size_toList] at this
       omega
      rw [← hL3] at hf11 ⊢
      have hs5:=hb5.size
      have HF11:=hid hf11.rd
      have HL3:=hid hL3i
      have Hb5:=hid (Hb4.out.trans (hb5.mono (by omega)))
      have HO4b:=hid (own_below HO4.out Hb5.out)
      have HO5b:=hid (own_below HO5.out Hb5.out)
      have hwc:=HBc.out.size
      clear hf11 hL3 hL3i hb5 hit g1
      go_wp2_with (refine app2 rfl (.tmp 50) (.tmp 54) rfl w.heap.size q4 N4 c4 (bUp l k) rfl HO4b.out q11 L3 L3 (itB l k) rfl HL3.out HF11.out (by omega) (by omega) ?_;intro q12 c12 w6 g6;have G6:=hid g6;clear g6)
      go_roundw
      case rel =>
       have hbl2:(bUp l (k + 1)).length = N4 + L3:=by rw [bUp_succ,List.length_append,HL3.out,← HN4.out]
       refine ⟨k + 1,q12,p5,c12,d5,by omega,by go_num,by rw [hbl2],rfl,by rw [hbl2];omega, ?_,own_grew G6.out HAP.out HO5b.out,HAP.out.grew G6.out HO5b.out,(HBc.out.trans (Hb5.out.mono hwc)).trans G6.out.below⟩
       rw [hbl2,bUp_succ];exact G6.out.own
      case measure=>simp [intOf];omega
   ·obtain rfl:k = n:=by omega
    have hln:=Hn.out
    have hbody:bBody l = bUp l k ++ pUp l k ++ le4 (N5 / 4):=by unfold bBody;rw [hln,HN5.out]
    have hall:bAll l = bBody l ++ le4 (crcMore 0 (bBody l)).toNat:=rfl
    have hbl3:(bBody l).length = N4 + N5 + 4:=by rw [hbody,List.length_append,List.length_append,le4_len,← HN4.out,← HN5.out]
    have hal3:(bAll l).length = N4 + N5 + 4 + 4:=by rw [hall,List.length_append,le4_len,hbl3]
    obtain ⟨D,hD⟩:∃ D,D = bBody l:=⟨_,rfl⟩
    obtain ⟨S,hS⟩:∃ S,S = (crcMore 0 D).toNat:=⟨_,rfl⟩
    have hSl:S < 4294967296:=by rw [hS];exact (crcMore 0 D).isLt
    rw [← hD] at hbody hall hbl3
    rw [← hS] at hall
    have hrd5:=(Fr.of_own Ho5.out).rd
    have HD:=hid hD
    have HS:=hid hS
    have Hbody:=hid hbody
    have Hall:=hid hall
    have Hbl3:=hid hbl3
    have Hal3:=hid hal3
    have Hrd5:=hid hrd5
    have hm5:((N5:Int) / 4) = ((N5 / 4:Nat):Int):=by omega
    have Hm5:=hid hm5
    have Hwr:=hid HB.out
    clear hln hD hS hbody hall hbl3 hal3 hrd5 hm5
    go_wp2_with (refine app2 rfl (.tmp 61) (.tmp 62) rfl w.heap.size q4 N4 c4 (bUp l k) rfl Ho4.out q5 N5 c5 (pUp l k) rfl HN5.out.symm Hrd5.out (by omega) (by omega) ?_;intro q12 c12 w6 g6;have hs6:=g6.below.size;have G6:=hid g6;clear g6)
    rw [Hm5.out]
    refine (number_any w.heap.size q12 (N4 + N5) c12 (bUp l k ++ pUp l k) (N5 / 4) w6 (by omega) G6.out.own (by omega) (by omega)).mono ?_
    rintro e w7 ⟨q13,c13,rfl,g7⟩
    rw [← Hbody.out] at g7
    have hs7:=g7.below.size
    have hrd7:=g7.fr.rd
    have G7:=hid g7
    have Hrd7:=hid hrd7
    clear g7 hrd7
    go_wp2_with fail
    refine (of_any q13 (N4 + N5 + 4) c13 D w7 Hbl3.out (by omega) Hrd7.out).mono ?_
    rintro e w8 ⟨rfl,hb8⟩
    rw [← HS.out]
    have hs8:=hb8.size
    have Ho8:=hid (own_below G7.out.own hb8)
    have HB8:=hid (((Hwr.out.trans G6.out.below).trans G7.out.below).trans (hb8.mono (by omega)))
    clear hb8
    go_wp2_with fail
    refine (number_any w.heap.size q13 (N4 + N5 + 4) c13 D S w8 hSl Ho8.out (by omega) (by omega)).mono ?_
    rintro e w9 ⟨q14,c14,rfl,g9⟩
    rw [← Hall.out] at g9
    have G9:=hid g9
    clear g9
    obtain ⟨M,hM⟩:∃ M,M = N4 + N5 + 4 + 4:=⟨_,rfl⟩
    rw [← hM] at G9 Hal3
    have hMl:M ≤ 100000000:=by omega
    have hMe:(N4:Int) + (N5:Int) + 4 + 4 = (M:Int):=by omega
    have hMe2:((N4 + N5 + 4 + 4:Nat):Int) = (M:Int):=by omega
    have HM:=hid hM
    rw [← hM]
    clear hM
    by_cases hbig:65536 < M
    ·have d1:decide ((65536:Int) < (M:Int)) = true:=by simp;omega
     have HF:=hid (show 65536 < (bAll l).length from by rw [Hal3.out];exact hbig)
     go_wp2_with fail
     go_ret2
     exact ⟨HB8.out.trans G9.out.below,.inr (.inl ⟨HRi.out,HF.out,rfl⟩)⟩
    ·have d1:decide ((65536:Int) < (M:Int)) = false:=by simp;omega
     have HF:=hid (show (bAll l).length ≤ 65536 from by rw [Hal3.out];omega)
     go_wp2_with (go_at_call 53;refine (clip_bytes q14 M c14 _ G9.out.len G9.out.max).mono ?_;rintro e w10 ⟨rfl,rfl⟩)
     go_ret2
     refine ⟨HB8.out.trans G9.out.below,.inr (.inr ⟨HRi.out,HF.out,q14,by rw [Hal3.out];rfl, ?_⟩)⟩
     rw [Hal3.out]
     exact (Fr.of_own G9.out.own).clip
 ·have:b = false:=by
   cases b with
   | false=>rfl
   | true=>exact absurd (Hb.out.1 rfl) hR
  subst this
  have HNR:=hid hR
  clear Hb hR
  go_wp2_with fail
  go_ret2
  exact ⟨HB1.out,.inl ⟨HNR.out,rfl⟩⟩
end Go.Proofs.Herb
