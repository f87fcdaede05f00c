/- The contracts of the reference's Places and Of (blooms). For keys of so many bytes. -/
import Derived.Test.YtbaohpnfiacchaaGreatDoorQb09
import Derived.Test.YtbaohpnfiacchaaGreatDoorQb22
import Derived.Test.YtbaohpnfiacchaaGreatDoorQb28
import Derived.Test.YtbaohpnfiacchaaGreatDoorQb29
namespace Go.Proofs.Herb
open Go.RowKit
theorem place_pos (x:Int) (m:Nat) (h:0 ≤ x):x.tmod m = (plAt x m:Int):=by
 unfold plAt
 have h1:=Int.tmod_nonneg (m:Int) h
 rw [if_neg (by omega)]
 omega
theorem place_neg (x:Int) (m:Nat) (hm:0 < m) (h:x < 0):0 ≤ x + m * (1 - x.tdiv m) ∧ x + m * (1 - x.tdiv m) ≤ m ∧ (x + m * (1 - x.tdiv m)).tmod m = (plAt x m:Int):=by
 have h1:=Int.tmod_lt_of_pos x (show (0:Int) < (m:Int) by omega)
 have h2:=Int.lt_tmod_of_pos x (show (0:Int) < (m:Int) by omega)
 have h3:x.tmod m ≤ 0:=by
  have:=Int.tmod_nonneg (m:Int) (show 0 ≤ -x by omega)
  rw [Int.neg_tmod] at this
  omega
 have h4:=Int.mul_tdiv_add_tmod x m
 have h5:x + m * (1 - x.tdiv m) = m + x.tmod m:=by
  rw [Int.mul_sub,Int.mul_one]
  omega
 rw [h5]
 refine ⟨by omega,by omega, ?_⟩
 rw [Int.tmod_eq_emod_of_nonneg (by omega)]
 unfold plAt
 by_cases h6:x.tmod m < 0
 ·rw [if_pos h6,Int.emod_eq_of_lt (by omega) (by omega)]
  omega
 ·have h7:x.tmod m = 0:=by omega
  rw [h7]
  simp
def nv (n:Nat):Value:=.int .i64 (n:Int)
theorem nv_one {l:List Nat}:∀ u ∈ l.map nv,u.oneCell' = true:=by
 intro u hu
 simp at hu
 obtain ⟨a,_,rfl⟩:=hu
 rfl
theorem infoI64:(Tryz.prog.info? 3).map (fun i=>(i.zero,i.size,i.bytes)) = some (some (.int .i64 0),1,8):=by kernel_rfl
theorem pow_step {B k:Nat} (h:B * 3 ^ (6 - k) ≤ 47775744):B ≤ 47775744 ∧ (k < 6 → 3 * B * 3 ^ (6 - (k + 1)) ≤ 47775744):=by
 refine ⟨Nat.le_trans (Nat.le_mul_of_pos_right B (Nat.pow_pos (by decide))) h,fun hk => ?_⟩
 have e:6 - k = (6 - (k + 1)) + 1:=by omega
 rw [e,Nat.pow_succ] at h
 calc 3 * B * 3 ^ (6 - (k + 1)) = B * (3 ^ (6 - (k + 1)) * 3):=by rw [Nat.mul_comm 3 B,Nat.mul_assoc,Nat.mul_comm 3]
  _ ≤ 47775744:=h
set_option maxRecDepth 100000 in
set_option maxHeartbeats 4000000 in
theorem ref_places (key:ByteArray) (m:Nat) (hk:key.size ≤ 1000000) (hm0:0 < m) (hm:m ≤ 1000000000) (w:World) :
  Calls Tryz.prog 85 #[.string key,.int .i64 (m:Int)] w fun e w'=>∃ q c,e = .returned (.slice q 6 c) ∧ Rd w' q ((placesF key.data.toList m).map nv) ∧ Below w.heap.size w w':=by
 obtain ⟨L,hL⟩:∃ L,Hid (L = placesF key.data.toList m):=⟨_,hid rfl⟩
 rw [← hL.out]
 obtain ⟨c,w1,hcv,hr1,hb1, -⟩:=convS w key
 have HR1:=hid hr1
 have HB1:=hid hb1
 have hs1:=hb1.size
 clear hr1 hb1
 go_enter Tryz.func85,Tryz.ntmps85
 go_wp2_with fail
 refine (ref_of _ key.size c key.data.toList w1 (size_toList key) (by omega) HR1.out).mono ?_
 rintro e w2 ⟨rfl,rfl⟩
 obtain ⟨S,hS⟩:∃ S,Hid (S = (crcMore 0 key.data.toList).toNat):=⟨_,hid rfl⟩
 have hSl:S < 4294967296:=by rw [hS.out];exact (crcMore 0 key.data.toList).isLt
 rw [← hS.out]
 clear hcv
 go_wp2_with fail
 have hx0:(S:Int) % 65536 = ((S % 65536:Nat):Int):=by omega
 have hy0:(S:Int) / 65536 = ((S / 65536:Nat):Int):=by omega
 rw [hx0,hy0]
 have hL0:L = plF 6 ((S % 65536:Nat):Int) ((S / 65536:Nat):Int) m:=by rw [hL.out,hS.out];rfl
 have HL0:=hid hL0
 clear hL0 hx0 hy0
 go_loopw [6,7,8,9] (fun v6 v7 v8 i wr=>∃ (k B:Nat) (x y:Int) (pre:List Nat) (q8:Option Addr) (c8:Nat),k ≤ 6 ∧ i = .int .i64 (k:Int) ∧ v6 = .int .i64 x ∧ v7 = .int .i64 y ∧ v8 = .slice q8 k c8 ∧
   -(B:Int) ≤ x ∧ x ≤ B ∧ -(B:Int) ≤ y ∧ y ≤ B ∧ B * 3 ^ (6 - k) ≤ 47775744 ∧ pre ++ plF (6 - k) x y m = L ∧ wr.ownsRow w1.heap.size 3 1 (.slice q8 k c8) k (pre.map nv) ∧ Below w1.heap.size w1 wr) (fun _ _ _ i _=>6 - (intOf i).toNat)
 case atStart=>exact ⟨0,65536,_,_,[],none,0,by omega,rfl,rfl,rfl,rfl,by omega,by omega,by omega,by omega,by decide,by rw [HL0.out];rfl,World.ownsRow_nil _ _ _ _,Below.refl _ _⟩
 case round =>
  obtain ⟨k,B,x,y,pre,q8,c8,hk6,rfl,rfl,rfl,rfl,hx1,hx2,hy1,hy2,hB,hpre,ho8,hb⟩:=hrel
  have HPre:=hid hpre
  have HO8:=hid ho8
  have HB:=hid hb
  have hbs:=hb.size
  obtain ⟨hB1,hB2⟩:=pow_step hB
  have HB2:=hid hB2
  clear hpre ho8 hb hB hB2
  by_cases hlt:k < 6
  ·have d0:decide ((k:Int) < 6) = true:=by simp;omega
   go_wp2_with fail
   go_loopw [10] (fun v wl=>∃ a:Int,v = .int .i64 a ∧ wl = wr ∧ ((a = x) ∨ (x < 0 ∧ 0 ≤ a ∧ a ≤ m ∧ a.tmod m = (plAt x m:Int)))) (fun v _=>(-(intOf v)).toNat)
   case atStart=>exact ⟨x,rfl,rfl,.inl rfl⟩
   case round =>
    obtain ⟨a,rfl,rfl,ha⟩:=hrel
    have HA:=hid ha
    clear ha
    by_cases h0:a < 0
    ·obtain rfl:a = x:=by rcases HA.out with h | h <;> omega
     obtain ⟨n1,n2,n3⟩:=place_neg a m hm0 h0
     obtain ⟨T,hT⟩:∃ T,Hid (T = a.tdiv m):=⟨_,hid rfl⟩
     have hT1 : -47775744 ≤ T ∧ T ≤ 0:=by
      rw [hT.out]
      have h1:=Int.tdiv_nonneg (show 0 ≤ -a by omega) (show (0:Int) ≤ (m:Int) by omega)
      rw [Int.neg_tdiv] at h1
      have h2:=Int.natAbs_tdiv_le_natAbs a m
      omega
     obtain ⟨A2,hA2⟩:∃ z,Hid (z = a + m * (1 - a.tdiv m)):=⟨_,hid rfl⟩
     rw [← hA2.out] at n1 n2 n3
     have hmt:(m:Int) * (1 - T) = A2 - a:=by rw [hA2.out,hT.out];omega
     have w1:IntKind.i64.wrap (1 - a.tdiv m) = 1 - T:=by rw [← hT.out,IntWalk.i64_in _ (by omega)]
     have w2:IntKind.i64.wrap ((m:Int) * (1 - T)) = A2 - a:=by rw [hmt,IntWalk.i64_in _ (by omega)]
     have w3:IntKind.i64.wrap (a + (A2 - a)) = A2:=by rw [show a + (A2 - a) = A2 by omega,IntWalk.i64_in _ (by omega)]
     have N3:=hid n3
     have d1:decide (a < 0) = true:=by simpa using h0
     clear n3
     go_wp2
     go_roundw
     case rel=>exact ⟨A2,rfl,trivial,.inr ⟨h0,n1,n2,N3.out⟩⟩
     case measure=>simp [intOf];omega
    ·have hat:a.tmod m = (plAt x m:Int) ∧ a ≤ 1000000000:=by
      rcases HA.out with h | ⟨h1,h2,h3,h4⟩
      ·rw [h]
       exact ⟨place_pos x m (by omega),by omega⟩
      ·exact ⟨h4,by omega⟩
     obtain ⟨hat,ham⟩:=hat
     have haf:¬ a < 0:=h0
     have h0':0 ≤ a:=by omega
     have d1:decide (a < 0) = false:=by simpa using h0
     have hae:a % (m:Int) = (plAt x m:Int):=by rw [← Int.tmod_eq_emod_of_nonneg h0'];exact hat
     obtain ⟨P,hP⟩:∃ z,Hid (z = plAt x m):=⟨_,hid rfl⟩
     rw [← hP.out] at hae hat
     have u1:IntKind.i64.wrap (2 * x) = 2 * x:=IntWalk.i64_in _ (by omega)
     have u2:IntKind.i64.wrap (2 * x - y) = 2 * x - y:=IntWalk.i64_in _ (by omega)
     have u3:IntKind.i64.wrap (2 * y) = 2 * y:=IntWalk.i64_in _ (by omega)
     have u4:IntKind.i64.wrap (x + 2 * y) = x + 2 * y:=IntWalk.i64_in _ (by omega)
     clear hat
     go_wp2_with (at_builtin;refine wpList_append_rd rfl (.tmp 35) (.tmp 39) 52 rfl w1.heap.size 3 (.int .i64 0) 1 8 Tryz.underlying52 infoI64 rfl (by decide) (.slice q8 k c8) k (pre.map nv) rfl (own_below HO8.out ((Below.refl _ _).alloc (Nat.le_refl _) _)) (some ⟨wr.heap.size,0,none⟩) 1 1 [nv P] rfl (fun h=>by cases h) rfl (Rd.new _ [nv P] 3) (nv_one (l:=[P])) (by unfold maxLen;omega) (by omega) (by simp;omega) ?_;intro v' w' h1 h2 _;have H1:=hid h1;have H2:=hid h2;clear h1 h2)
     go_roundw
     case rel =>
      obtain ⟨p6,d6,rfl, -, -, -⟩:=own_shape H1.out
      have hA:Below wr.heap.size wr (wr.alloc (.cells #[.int .i64 (P:Int)] 3)):=(Below.refl _ _).alloc (Nat.le_refl _) _
      refine ⟨.int .i64 (2 * x - y),.int .i64 (x + 2 * y),.slice p6 (k + 1) d6,.int .i64 ((k + 1:Nat):Int),⟨k + 1,by omega,rfl,3 * B,2 * x - y,rfl,x + 2 * y,rfl,pre ++ [P],p6,d6,rfl,by omega,by omega,by omega,by omega,HB2.out hlt, ?_,by rw [List.map_append];exact H1.out,(HB.out.trans (hA.mono hbs)).grown H2.out (by simp;omega) (fun g e=>((own_below HO8.out hA).lt g e).1)⟩,rfl,rfl,rfl,by go_num⟩
      rw [← HPre.out,show 6 - k = (6 - (k + 1)) + 1 by omega,plF,List.append_assoc,← hP.out]
      rfl
     case measure=>simp [intOf];omega
  ·obtain rfl:k = 6:=by omega
   go_wp2
   go_ret
   refine ⟨q8,c8,rfl, ?_,HB1.out.trans (HB.out.mono hs1)⟩
   have h:=HPre.out
   rw [show 6 - 6 = 0 from rfl,plF,List.append_nil] at h
   rw [← h]
   exact (Fr.of_own HO8.out).rd
theorem setBit_snoc (b:List UInt8) (c:UInt8) (a:Nat) (h:a < 8 * b.length):setBit (b ++ [c]) a = setBit b a ++ [c]:=by
 unfold setBit
 rw [List.set_append_left _ _ (by omega),List.getElem?_append_left (by omega)]
theorem bits_snoc:∀ (l:List Nat) (b:List UInt8) (c:UInt8),(∀ a ∈ l,a < 8 * b.length) → l.foldl setBit (b ++ [c]) = l.foldl setBit b ++ [c]
 | [],_,_,_=>rfl
 | a :: l,b,c,h=>by
  rw [List.foldl_cons,List.foldl_cons,setBit_snoc b c a (h a (by simp)),bits_snoc l _ c fun x hx=>by rw [setBit_len];exact h x (by simp [hx])]
theorem fold_snoc (m:Nat):∀ (ks:List (List UInt8)) (b:List UInt8) (c:UInt8),m = 8 * b.length → 0 < m → ks.foldl (bitsF m) (b ++ [c]) = ks.foldl (bitsF m) b ++ [c]
 | [],_,_,_,_=>rfl
 | k :: ks,b,c,h,h0=>by
  rw [List.foldl_cons,List.foldl_cons]
  have e:bitsF m (b ++ [c]) k = bitsF m b k ++ [c]:=bits_snoc _ _ _ fun a ha=>by rw [← h];exact plF_lt _ _ _ _ h0 a ha
  rw [e]
  exact fold_snoc m ks _ c (by rw [bitsF_len];exact h) h0
theorem ofF_snoc (ks:List (List UInt8)):ofF ks = ks.foldl (bitsF (8 * blN ks.length)) (List.replicate (blN ks.length) 0) ++ [6]:=by
 unfold ofF
 have h0:0 < 8 * blN ks.length:=by unfold blN;omega
 rw [List.replicate_succ',fold_snoc _ _ _ _ (by rw [List.length_replicate]) h0]
 have hl:(ks.foldl (bitsF (8 * blN ks.length)) (List.replicate (blN ks.length) 0)).length = blN ks.length:=by rw [fold_len,List.length_replicate]
 rw [List.set_append_right _ _ (by rw [hl];exact Nat.le_refl _),hl,Nat.sub_self]
 rfl
set_option maxRecDepth 100000 in
set_option maxHeartbeats 4000000 in
theorem ref_filter (q:Option Addr) (n c:Nat) (ks:List (List UInt8)) (w:World) (hn:ks.length = n) (hm:n ≤ 100000) (hr:Rd w q (ks.map fun l=>.string ⟨l.toArray⟩)) (hks:∀ k ∈ ks,k.length ≤ 1000000) :
  Calls Tryz.prog 79 #[.slice q n c] w fun e w'=>∃ q' c',e = .returned (.slice q' (blN n + 1) c') ∧ Fr w' w.heap.size 5 1 (.slice q' (blN n + 1) c') (blN n + 1) ((ofF ks).map bv) ∧ Below w.heap.size w w':=by
 obtain ⟨N,hN⟩:∃ N,Hid (N = blN n):=⟨_,hid rfl⟩
 have hNl:N ≤ 1000001:=by rw [hN.out];unfold blN;omega
 have hN8:8 ≤ N:=by rw [hN.out];unfold blN;omega
 rw [← hN.out]
 have hmk:=run_make_len (P:=Tryz.prog) 22 5 (.int .u8 0) 1 1 Tryz.underlying22 infoU8 (N:Int) N (by omega) (by omega) (by omega)
 have Hn:=hid hn
 have Hr:=hid hr
 have Hks:=hid hks
 have HOf:=hid (ofF_snoc ks)
 rw [hn,← hN.out] at HOf
 have HMk:=hid hmk
 clear hn hr hks hmk
 go_enter Tryz.func79,Tryz.ntmps79
 go_upto_if 14 with (fail)
 go_cut [3] (fun v3 wc=>v3 = .int .i64 (N:Int) ∧ wc = w)
 case first =>
  by_cases h8:(10 * n + 7) / 8 < 8
  ·have hN2:N = 8:=by rw [hN.out];unfold blN;omega
   have h8':(10 * (n:Int) + 7) / 8 < 8:=by omega
   go_wp2
   go_meet
   case rel=>exact ⟨by rw [hN2];rfl,rfl⟩
  ·have hN2:N = (10 * n + 7) / 8:=by rw [hN.out];unfold blN;omega
   have h8':¬ (10 * (n:Int) + 7) / 8 < 8:=by omega
   go_wp2
   go_meet
   case rel=>exact ⟨by rw [hN2];congr 1,rfl⟩
 case rest =>
  obtain ⟨rfl,rfl⟩:=hcut
  have hmk:=HMk.out
  go_wp2_with fail
  clear hmk
  obtain ⟨G,hG⟩:∃ g,Hid (g = wc.heap.size):=⟨_,hid rfl⟩
  rw [← hG.out]
  go_loopw [5] (fun i wr=>∃ k:Nat,k ≤ n ∧ i = .int .i64 (k:Int) ∧ wr.heap[G]? = some (.cells (((ks.take k).foldl (bitsF (8 * N)) (List.replicate N 0)).map bv).toArray 5 (0,0)) ∧ Below wc.heap.size wc wr) (fun i _=>n - (intOf i).toNat)
  case atStart =>
   refine ⟨0,Nat.zero_le _,rfl, ?_,(Below.refl _ _).alloc (Nat.le_refl _) _⟩
   rw [hG.out,heap_alloc_new,made_zeros]
   rfl
  case round =>
   obtain ⟨k,hk,rfl,hg,hb⟩:=hrel
   have HG:=hid hg
   have HB:=hid hb
   have hbs:=hb.size
   clear hg hb
   obtain ⟨CU,hCU⟩:∃ L,Hid (L = (ks.take k).foldl (bitsF (8 * N)) (List.replicate N 0)):=⟨_,hid rfl⟩
   rw [← hCU.out] at HG
   have hCl:CU.length = N:=by rw [hCU.out,fold_len,List.length_replicate]
   have HCl:=hid hCl
   clear hCl
   by_cases hlt:k < n
   ·have d0:decide ((k:Int) < (n:Int)) = true:=by simpa using hlt
    have hkl:k < ks.length:=by rw [Hn.out];exact hlt
    obtain ⟨bk,ok,rfl,hck⟩:=(Hr.out.below HB.out).cell (k:=k) (by rw [List.length_map];exact hkl)
    rw [List.getElem_map] at hck
    obtain ⟨key,hkey⟩:∃ x:ByteArray,Hid (x = ⟨(ks[k]'hkl).toArray⟩):=⟨_,hid rfl⟩
    rw [← hkey.out] at hck
    have hkd:key.data.toList = ks[k]'hkl:=by rw [hkey.out]
    have hks1:key.size ≤ 1000000:=by rw [← size_toList,hkd];exact Hks.out _ (List.getElem_mem hkl)
    have HKd:=hid hkd
    have k0:(0:Int) ≤ (k:Int):=by omega
    have k1:(k:Int) < (n:Int):=by omega
    have HPl:=hid (ref_places key (8 * N) hks1 (by omega) (by omega) wr)
    rw [show (((8 * N:Nat)):Int) = 8 * (N:Int) by omega] at HPl
    clear hkd
    go_wp2_with fail
    refine HPl.out.mono ?_
    rintro e w1 ⟨q1,c1,rfl,hr1,hb1⟩
    obtain ⟨PL,hPL⟩:∃ L,Hid (L = placesF key.data.toList (8 * N)):=⟨_,hid rfl⟩
    rw [← hPL.out] at hr1
    have hPl6:PL.length = 6:=by rw [hPL.out];exact plF_len _ _ _ _
    have hPlt:∀ a ∈ PL,a < 8 * N:=by rw [hPL.out];exact plF_lt _ _ _ _ (by omega)
    have HR1:=hid hr1
    have HG1:=hid ((hb1.block G (lt_of_block HG.out)).trans HG.out)
    have HB1:=hid (HB.out.trans (hb1.mono hbs))
    have HP6:=hid hPl6
    have HPlt:=hid hPlt
    clear hr1 hb1 hPl6 hPlt HPl hck
    have HGw:=hid (show wc.heap.size ≤ G from Nat.le_of_eq hG.out.symm)
    go_wp2_with fail
    go_loopw [7] (fun i wl=>∃ x:Nat,x ≤ 6 ∧ i = .int .i64 (x:Int) ∧ wl.heap[G]? = some (.cells (((PL.take x).foldl setBit CU).map bv).toArray 5 (0,0)) ∧ Rd wl q1 (PL.map nv) ∧ Below wc.heap.size wc wl) (fun i _=>6 - (intOf i).toNat)
    case atStart=>exact ⟨0,Nat.zero_le _,rfl,HG1.out,HR1.out,HB1.out⟩
    case round =>
     obtain ⟨x,hx6,rfl,hg,hr,hb⟩:=hrel
     have HGl:=hid hg
     have HRl:=hid hr
     have HBl:=hid hb
     have hls:=hb.size
     clear hg hr hb
     by_cases hx:x < 6
     ·have d1:decide ((x:Int) < 6) = true:=by simp;omega
      have hxP:x < PL.length:=by rw [HP6.out];exact hx
      obtain ⟨CR,hCR⟩:∃ L,Hid (L = (PL.take x).foldl setBit CU):=⟨_,hid rfl⟩
      rw [← hCR.out] at HGl
      have hCRl:CR.length = N:=by rw [hCR.out,bits_len,HCl.out]
      obtain ⟨a,ha⟩:∃ a,Hid (a = PL[x]):=⟨_,hid rfl⟩
      have haM:a < 8 * N:=by rw [ha.out];exact HPlt.out _ (List.getElem_mem hxP)
      obtain ⟨A8,hA8⟩:∃ z,z = a / 8:=⟨_,rfl⟩
      obtain ⟨R8,hR8⟩:∃ z,z = a % 8:=⟨_,rfl⟩
      have hA8N:A8 < N:=by omega
      have hR88:R8 < 8:=by omega
      have he8:(a:Int) / 8 = (A8:Int):=by omega
      have hr8:(a:Int) % 8 = (R8:Int):=by omega
      obtain ⟨y,hy⟩:∃ y,Hid (y = CR[A8]'(by rw [hCRl];exact hA8N)):=⟨_,hid rfl⟩
      obtain ⟨bq,oq,rfl,hcq⟩:=HRl.out.cell (k:=x) (by rw [List.length_map];exact hxP)
      rw [List.getElem_map,← ha.out] at hcq
      have hcG:wr.cell? ⟨G,A8,none⟩ = some (.int .u8 (y.toNat:Int)):=by
       rw [cell_of_row _ _ _ _ _ _ HGl.out,List.getElem?_toArray,List.getElem?_map,List.getElem?_eq_getElem (by rw [hCRl];exact hA8N),← hy.out]
       rfl
      have hbG:bq ≠ G:=fun e=>by
       subst e
       have h:=cell_of_row _ _ (oq + x) _ _ _ HGl.out
       rw [hcq,List.getElem?_toArray,List.getElem?_map] at h
       cases h2:CR[oq + x]? with
       | none=>rw [h2] at h;cases h
       | some z=>rw [h2] at h;cases h
      obtain ⟨TD,D,hD1,hD2⟩:=class_d wr
      have zG:∀ d,(D d).heap[G]? = some (.cells (CR.map bv).toArray 5 (0,0)):=fun d=>((hD1 d).block _ (lt_of_block HGl.out)).trans HGl.out
      have zc:∀ d,(D d).cell? ⟨G,A8,none⟩ = some (.int .u8 (y.toNat:Int)):=fun d=>by
       rw [← hcG];exact (hD1 d).cell (p:=⟨G,A8,none⟩) (lt_of_block HGl.out)
      have zq:∀ d,(D d).cell? ⟨bq,oq + x,none⟩ = some (.int .i64 (a:Int)):=fun d=>by
       rw [(hD1 d).cell (p:=⟨bq,oq + x,none⟩) (World.block_lt_of_cell? wr _ hcq)];exact hcq
      have hor:=or_pow y R8 hR88
      rw [show min R8 8 = R8 by omega] at hor
      have HOr:=hid hor
      clear hor
      have a0:(0:Int) ≤ (A8:Int):=by omega
      have a1:(A8:Int) < (N:Int):=by omega
      have r0:(0:Int) ≤ (R8:Int):=by omega
      have x0':(0:Int) ≤ (x:Int):=by omega
      have x1':(x:Int) < 6:=by omega
      have HzG:=hid zG
      have HA8:=hid hA8
      have HR8:=hid hR8
      have HCRl:=hid hCRl
      have HD1:=hid hD1
      obtain ⟨x0,hx0⟩:=hD2 { wr with drawn:=wr.drawn + 1 } (Below.refl _ _).drew
      haveI:Nonempty TD:=⟨x0⟩
      clear zG hA8 hR8 hD1 hD2 hcG hcq
      go_upto_region 12 with (fail)
      refine region_last_d (D:=D) 21 (by kernel_rfl) (by kernel_rfl) (by kernel_rfl) x0 hx0 ?_
      simp only [List.take_succ_cons,List.take_zero,List.drop_succ_cons,List.drop_zero]
      repeat (go_big_quiet_step (fail))
      refine wpQuiet_nil ?_
      intro d
      have hfA:(D d).frozen? ⟨G,A8,none⟩ = false:=frozen_of_row _ _ _ _ _ (HzG.out d)
      go_wp2_with fail
      go_roundw
      case rel =>
       rw [HOr.out]
       have hW:=Go.heap_setCell_same (D d) G A8 _ _ (.int .u8 (((y ||| UInt8.ofNat (2 ^ R8)).toNat:Nat):Int)) (HzG.out d)
       refine ⟨x + 1,by omega,by go_num, ?_, ?_, ?_⟩
       ·refine hW.trans ?_
        rw [List.take_succ_eq_append_getElem hxP,List.foldl_append,List.foldl_cons,List.foldl_nil,← hCR.out,← ha.out]
        unfold setBit
        rw [← HA8.out,← HR8.out,List.getElem?_eq_getElem (by rw [HCRl.out];exact hA8N),← hy.out]
        simp [bv,List.map_set]
       ·refine .inr ⟨bq,oq,rfl,fun j u hu => ?_⟩
        have hq:wr.cell? ⟨bq,oq + j,none⟩ = some u:=by
         rcases HRl.out with h | ⟨_,_,h,hc⟩
         ·rw [h] at hu;cases hu
         ·cases h;exact hc j u hu
        have h2:(D d).heap[bq]? = wr.heap[bq]?:=(HD1.out d).block _ (World.block_lt_of_cell? wr _ hq)
        have h3:((D d).setCell ⟨G,A8,none⟩ (.int .u8 ((y ||| UInt8.ofNat (2 ^ R8)).toNat:Int))).heap[bq]? = wr.heap[bq]?:=(heap_setCell_other _ _ _ _ hbG).trans h2
        rw [← hq]
        unfold World.cell?
        simp only [h3]
       ·exact (HBl.out.trans ((HD1.out d).mono hls)).setCell (p:=⟨G,A8,none⟩) HGw.out _
      case measure=>simp [intOf];omega
     ·obtain rfl:x = 6:=by omega
      go_wp2_with fail
      go_roundw
      case rel =>
       refine ⟨k + 1,by omega,by go_num, ?_,HBl.out⟩
       have h:=HGl.out
       rw [show PL.take 6 = PL from List.take_of_length_le (Nat.le_of_eq HP6.out)] at h
       refine h.trans ?_
       rw [List.take_succ_eq_append_getElem hkl,List.foldl_append,List.foldl_cons,List.foldl_nil,← hCU.out,hPL.out,HKd.out]
       rfl
      case measure=>simp [intOf];omega
   ·obtain rfl:k = n:=by omega
    have hGr:=HG.out
    rw [hCU.out,show ks.take k = ks by rw [← Hn.out,List.take_length]] at hGr
    obtain ⟨LL,hLL⟩:∃ L,Hid (L = ks.foldl (bitsF (8 * N)) (List.replicate N 0)):=⟨_,hid rfl⟩
    have hLl:LL.length = N:=by rw [hLL.out,fold_len,List.length_replicate]
    rw [← hLL.out] at hGr
    have hown:wr.ownsRow wc.heap.size 5 1 (.slice (some ⟨G,0,none⟩) N N) N (LL.map bv):=⟨by simp [hLl],.inr ⟨G,N,_,rfl,Nat.le_of_eq hG.out.symm,hGr,Nat.le_refl _,by unfold maxLen;omega,by simp [hLl],List.take_of_length_le (by simp [hLl])⟩⟩
    have HOwn:=hid hown
    clear hown hLl hGr
    go_wp2_with (refine app22 rfl (.tmp 58) (.tmp 59) rfl wc.heap.size (some ⟨G,0,none⟩) N N LL rfl (own_below HOwn.out ((Below.refl _ _).alloc (Nat.le_refl _) _)) _ 1 1 [6] rfl (fun h=>by cases h) rfl (Rd.new _ (([6]:List UInt8).map bv) 5) (by omega) (by simp;omega) ?_;intro q2 c2 w2 g2;have G2:=hid g2;clear g2)
    go_ret
    rw [HOf.out]
    refine ⟨q2,c2,rfl, ?_,HB.out.trans (((Below.refl _ _).alloc hbs _).trans G2.out.below)⟩
    have h:=G2.out.fr
    rw [hLL.out] at h
    exact h
end Go.Proofs.Herb
