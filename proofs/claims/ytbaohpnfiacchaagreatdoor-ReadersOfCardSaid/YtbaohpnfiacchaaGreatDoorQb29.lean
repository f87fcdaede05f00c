/- The contracts of the reference's Bytes, Put and PutText (varints). For slices that can be read. The contracts of the reference's May and Before (keys). For facts whose keys are strings of Go's. The contracts of the reference's turned, key, Seek and Put (keys). For facts whose keys are short. The contracts of the reference's four, Sum and Put (blocks). For items that can be read, of so many bytes. The contract of the reference's May (tables). For facts that can be read. -/
import Derived.Deep.RegionHeld3
import Derived.Test.YtbaohpnfiacchaaGreatDoorQb03
import Derived.Test.YtbaohpnfiacchaaGreatDoorQb04
import Derived.Test.YtbaohpnfiacchaaGreatDoorQb05
import Derived.Test.YtbaohpnfiacchaaGreatDoorQb10
import Derived.Test.YtbaohpnfiacchaaGreatDoorQb22
import Derived.Test.YtbaohpnfiacchaaGreatDoorQb28
namespace Go.Proofs.Herb
open Go.RowKit
set_option maxRecDepth 100000 in
set_option maxHeartbeats 1000000 in
theorem ref_bytes:∀ (f n:Nat),1 ≤ f → f ≤ 10 → n < 128 ^ f → n < 18446744073709551616 → ∀ w:World,
  Calls Tryz.prog 112 #[.int .u64 (n:Int)] w fun e w'=>∃ q c,e = .returned (.slice q (gF f n).length c) ∧ Fr w' w.heap.size 5 1 (.slice q (gF f n).length c) (gF f n).length (((gF f n).map byteOf).map bv) ∧ Below w.heap.size w w':=by
 intro f
 induction f with
 | zero=>intro n h;omega
 | succ f ih =>
  intro n h1 h10 hn hn64 w
  by_cases h:128 ≤ n
  ·obtain ⟨g1,g2,g3⟩:=gF_next hn h1 h
   rw [Nat.add_sub_cancel] at g1 g2 g3
   obtain ⟨r,hr⟩:∃ r,Hid (r = n % 128):=⟨_,hid rfl⟩
   obtain ⟨d,hd⟩:∃ d,Hid (d = n / 128):=⟨_,hid rfl⟩
   rw [← hr.out,← hd.out] at g1
   rw [← hd.out] at g2
   have hr8:r < 128:=by rw [hr.out];omega
   have hi:=ih d g3 (by omega) g2 (by have:=hd.out;omega) (w.alloc (.cells #[.int .u8 ((r + 128:Nat):Int)] 5))
   rw [g1]
   obtain ⟨L,hL⟩:∃ L,Hid (L = gF f d):=⟨_,hid rfl⟩
   rw [← hL.out] at hi ⊢
   have hLl:L.length ≤ 10:=by rw [hL.out];have:=gF_len f d;omega
   obtain ⟨M,hM⟩:∃ M,Hid (M = L.length):=⟨_,hid rfl⟩
   rw [← hM.out] at hi hLl
   obtain ⟨b,hb⟩:∃ b,Hid (b = r + 128):=⟨_,hid rfl⟩
   rw [← hb.out] at hi
   have HI:=hid hi
   have d1:decide (n < 128) = false:=by simpa using h
   have e1:(n:Int) % 128 = (r:Int):=by have:=hr.out;omega
   have e2:(n:Int) / 128 = (d:Int):=by have:=hd.out;omega
   have e3:IntKind.u8.wrap ((r:Int) + 128) = (b:Int):=by have:=hb.out;show ((r:Int) + 128) % 256 = _;omega
   have e4:(r:Int) % 256 = (r:Int):=by omega
   clear hi ih g1 g2 hn
   go_enter Tryz.func112,Tryz.ntmps112
   go_wp2_with fail
   refine HI.out.mono ?_
   rintro e w2 ⟨q,c,rfl,hfr,hb2⟩
   have hbv:bv (UInt8.ofNat b) = .int .u8 (b:Int):=by
    unfold bv
    rw [UInt8.toNat_ofNat',Nat.mod_eq_of_lt (by have:=hb.out;omega)]
   have hown:=own_lit22 w w.heap.size [UInt8.ofNat b] 1 (Nat.le_refl _) rfl (by unfold maxLen;decide)
   rw [List.map_cons,List.map_nil,hbv] at hown
   have HOwn:=hid (own_below hown hb2)
   have HB2:=hid (((Below.refl w.heap.size w).alloc (Nat.le_refl _) (.cells #[.int .u8 (b:Int)] 5)).trans (hb2.mono (by simp)))
   have HFr:=hid hfr
   obtain ⟨q',c',e', -, -, -,hz⟩:=hfr.shape
   cases e'
   have HZ:=hid (fun h=>(hz h).2)
   have hs2:=HB2.out.size
   have HBv:=hid hbv
   clear hown hfr hb2 hz hbv
   go_wp2_with (at_builtin;refine app22 rfl (.tmp 12) (.tmp 15) rfl w.heap.size (some ⟨w.heap.size,0,none⟩) 1 1 [UInt8.ofNat b] rfl (by rw [List.map_cons,List.map_nil,HBv.out];exact HOwn.out) q M c (L.map byteOf) rfl HZ.out (by rw [List.length_map];exact hM.out.symm) HFr.out.rd (by omega) hs2 ?_;intro q3 c3 w3 G3;have HG3:=hid G3;clear G3)
   go_ret
   refine ⟨q3,c3, ?_, ?_,HB2.out.trans HG3.out.below⟩
   ·rw [← hM.out,Nat.add_comm 1 M];rfl
   ·rw [← hM.out,List.map_cons]
    have h:=HG3.out.fr
    rw [Nat.add_comm 1 M] at h
    have hbo:byteOf (r,true) = UInt8.ofNat b:=by unfold byteOf;rw [hb.out];rfl
    rw [hbo]
    exact h
  ·have g:=gF_last (f:=f + 1) h1 h
   rw [g]
   have hn8:n < 128:=by omega
   have d1:decide (n < 128) = true:=by simpa using hn8
   have e4:(n:Int) % 256 = (n:Int):=by omega
   have hbv:bv (byteOf (n % 128,false)) = .int .u8 (n:Int):=by
    unfold bv byteOf
    dsimp only
    rw [Nat.mod_eq_of_lt hn8,UInt8.toNat_ofNat']
    simp
    omega
   have HBv:=hid hbv
   clear hbv ih hn g
   go_enter Tryz.func112,Tryz.ntmps112
   go_wp2_with fail
   go_ret
   refine ⟨some ⟨w.heap.size,0,none⟩,1,rfl, ?_,(Below.refl _ _).alloc (Nat.le_refl _) _⟩
   have h:=own_lit22 w w.heap.size [byteOf (n % 128,false)] 1 (Nat.le_refl _) rfl (by unfold maxLen;decide)
   rw [List.map_cons,List.map_nil,HBv.out] at h
   rw [List.map_cons,List.map_nil,List.map_cons,List.map_nil,HBv.out]
   exact Fr.of_own h
theorem ref_vput (n:Nat) (hn:n < 18446744073709551616) (w:World) :
  Calls Tryz.prog 112 #[.int .u64 (n:Int)] w fun e w'=>∃ q c,e = .returned (.slice q (vput n).length c) ∧ Fr w' w.heap.size 5 1 (.slice q (vput n).length c) (vput n).length ((vput n).map bv) ∧ Below w.heap.size w w':=by
 have h:=ref_bytes 10 n (by decide) (by decide) (by omega) hn w
 unfold vput
 rw [List.length_map]
 exact h
set_option maxRecDepth 100000 in
set_option maxHeartbeats 1000000 in
theorem ref_putv (a:Option Addr) (m c n:Nat) (l:List UInt8) (w:World) (hl:l.length = m) (hm:m ≤ 10000000) (hr:Rd w a (l.map bv)) (ha:a = none → c = 0) (hn:n < 18446744073709551616) :
  Calls Tryz.prog 77 #[.slice a m c,.int .u64 (n:Int)] w fun e w'=>∃ q c',e = .returned (.slice q (m + (vput n).length) c') ∧ w'.ownsRow w.heap.size 5 1 (.slice q (m + (vput n).length) c') (m + (vput n).length) ((l ++ vput n).map bv) ∧ Below w.heap.size w w':=by
 have Hr:=hid hr
 have Ha:=hid ha
 have Hl:=hid hl
 obtain ⟨V,hV⟩:∃ V,Hid (V = vput n):=⟨_,hid rfl⟩
 have hVl:V.length ≤ 10:=by rw [hV.out];exact (vput_len n).2
 have HB:=hid (fun W=>ref_vput n hn W)
 rw [← hV.out] at HB ⊢
 obtain ⟨M,hM⟩:∃ M,Hid (M = V.length):=⟨_,hid rfl⟩
 rw [← hM.out] at HB hVl ⊢
 clear hr ha hl hn
 go_enter Tryz.func77,Tryz.ntmps77
 go_wp2_with (at_builtin;refine app22 rfl (.const (.slice none 0 0)) (.tmp 5) rfl w.heap.size none 0 0 [] rfl (own_nil22 _ _) a m c l rfl Ha.out Hl.out Hr.out (by omega) (Nat.le_refl _) ?_;intro q1 c1 w1 G1;have HG1:=hid G1;have hs1:=G1.below.size;clear G1)
 refine (HB.out w1).mono ?_
 rintro e w2 ⟨q2,c2,rfl,hfr,hb2⟩
 have HO:=hid (show w2.ownsRow w.heap.size 5 1 (.slice q1 m c1) m (l.map bv) by have h:=own_below HG1.out.own hb2;rw [Nat.zero_add,List.nil_append] at h;exact h)
 have HB2:=hid (HG1.out.below.trans (hb2.mono hs1))
 have HFr:=hid hfr
 obtain ⟨q',c',e', -, -, -,hz⟩:=hfr.shape
 cases e'
 have HZ:=hid (fun h=>(hz h).2)
 have hs2:=HB2.out.size
 clear hfr hb2 hz
 go_wp2_with (at_builtin;refine app22 rfl (.tmp 6) (.tmp 8) rfl w.heap.size q1 m c1 l rfl HO.out q2 M c2 V rfl HZ.out hM.out.symm HFr.out.rd (by omega) hs2 ?_;intro q3 c3 w3 G3;have HG3:=hid G3;clear G3)
 go_ret
 exact ⟨q3,c3,rfl,HG3.out.own,HB2.out.trans HG3.out.below⟩
set_option maxHeartbeats 800000 in
theorem ref_ptext (a:Option Addr) (n c:Nat) (l:List UInt8) (s:ByteArray) (w:World) (hs:s.size ≤ 4194304) (hn:l.length = n) (hm:n ≤ 4194304) (hr:Rd w a (l.map bv)) (ha:a = none → c = 0) :
  Calls Tryz.prog 110 #[.slice a n c,.string s] w fun e w'=>∃ q c',e = .returned (.slice q (n + (tput s.data.toList).length) c') ∧ w'.ownsRow w.heap.size 5 1 (.slice q (n + (tput s.data.toList).length) c') (n + (tput s.data.toList).length) ((l ++ tput s.data.toList).map bv) ∧ Below w.heap.size w w':=by
 have hsl:s.data.toList.length = s.size:=by rw [Array.length_toList];rfl
 have htl:(tput s.data.toList).length = (vput s.size).length + s.size:=by unfold tput;rw [List.length_append,hsl]
 have hte:l ++ tput s.data.toList = (l ++ vput s.size) ++ s.data.toList:=by unfold tput;rw [hsl,List.append_assoc]
 rw [htl,hte,← Nat.add_assoc]
 have hvl:=(vput_len s.size).2
 have H:=hid (ref_putv a n c s.size l w hn (by omega) hr ha (by omega))
 obtain ⟨M,hM⟩:∃ M,M = n + (vput s.size).length:=⟨_,rfl⟩
 rw [← hM] at H ⊢
 have hMl:M ≤ 4194314:=by omega
 clear hn hr ha hM hte htl hsl
 go_enter Tryz.func110,Tryz.ntmps110
 go_wp2_with fail
 (with_reducible refine H.out.mono ?_)
 rintro e w2 ⟨q,c2,rfl,hf,hb⟩
 have Hb:=hid hb
 have Hf:=hid hf
 have hsz:=hb.size
 clear hf hb
 go_wp2_with (refine wpList_append_src rfl (.tmp 9) (.tmp 10) 22 9 rfl w.heap.size 5 (.int .u8 0) 1 1 Tryz.underlying22 infoU8 rfl (by decide) q M c2 ((l ++ vput s.size).map bv) rfl Hf.out (.string s) s.size (s.data.toList.map bv) rfl (strCells_bv s ▸ Src.ofString w2 Tryz.underlying9 s) (by unfold maxLen;omega) (by omega) hsz ?_;intro q' c' w3 ho3 hg3 hl3)
 go_ret
 refine ⟨_,_,rfl,by rw [List.map_append];exact ho3,Hb.out.trans (Below.grown' (Below.refl w.heap.size w2) Hf.out hg3 hsz)⟩
end Go.Proofs.Herb
namespace Go.Proofs.Herb
open Go.RowKit
theorem ref_may (f:Fact) (w:World) :
  Calls Tryz.prog 71 #[.agg f.cells.toArray] w fun e w'=>e = .returned (.bool (mayF f)) ∧ Below w.heap.size w w':=by
 have hM:mayF f = decide (1 ≤ f.key.size ∧ f.key.size ≤ 32 ∧ 0 < f.seq ∧ f.kind ≤ 1):=rfl
 unfold Fact.cells
 obtain ⟨b,hb⟩:∃ b,b = mayF f:=⟨_,rfl⟩
 rw [← hb] at hM ⊢
 clear hb
 obtain ⟨key,valid,seq,line,kind,val⟩:=f
 dsimp only at hM ⊢
 have HM:=hid hM
 clear hM
 have hB:Below w.heap.size w (w.alloc (.cells #[.string key,.int .u32 (valid:Int),.int .u64 (seq:Int),.int .u64 (line:Int),.int .u8 (kind:Int),.string val] 27)):=(Below.refl _ _).alloc (Nat.le_refl _) _
 have HB:=hid hB
 clear hB
 obtain ⟨K,hK⟩:∃ K,Hid (K = key.size):=⟨_,hid rfl⟩
 rw [← hK.out] at HM
 by_cases h0:key = ⟨#[]⟩
 ·have hK0:K = 0:=by rw [hK.out,h0];rfl
  subst h0
  have hb:b = false:=by rw [HM.out];simp;omega
  subst hb
  go_enter Tryz.func71,Tryz.ntmps71
  go_wp2
  go_ret
  exact ⟨rfl,HB.out⟩
 ·have hK0:1 ≤ K:=by
   rw [hK.out]
   rcases Nat.eq_zero_or_pos key.size with h | h
   ·exfalso;apply h0
    obtain ⟨⟨d⟩⟩:=key
    have:d.length = 0:=h
    rw [List.eq_nil_of_length_eq_zero this]
   ·exact h
  have d0:key.toList.isEmpty = false:=by
   rw [ByteArray.toList_eq]
   cases hd:key.data.toList with
   | nil =>
    exfalso
    have h1:key.size = key.data.toList.length:=by rw [Array.length_toList];rfl
    rw [hd] at h1
    have h2:([]:List UInt8).length = 0:=rfl
    have h3:=hK.out
    omega
   | cons=>rfl
  have hKs:((key.size:Nat):Int) = (K:Int):=by rw [hK.out]
  clear h0
  go_enter Tryz.func71,Tryz.ntmps71
  go_wp2
  all_goals go_ret
  all_goals refine ⟨?_,(Below.refl _ _).alloc (Nat.le_refl _) _⟩
  all_goals rw [HM.out]
  all_goals
   refine Eq.trans (b:=Ending.returned (Value.bool _)) rfl (congrArg (fun b=>Ending.returned (Value.bool b)) ?_)
   rw [Bool.eq_iff_iff]
   simp
   try omega
def befF (f g:Fact):Bool:=if f.key ≠ g.key then Op.bytesLess f.key.toList g.key.toList else if f.valid ≠ g.valid then decide (g.valid < f.valid) else if f.seq ≠ g.seq then decide (g.seq < f.seq) else decide (f.kind < g.kind)
set_option maxHeartbeats 1000000 in
theorem ref_before (f g:Fact) (w:World) :
  Calls Tryz.prog 109 #[.agg f.cells.toArray,.agg g.cells.toArray] w fun e w'=>e = .returned (.bool (befF f g)) ∧ Below w.heap.size w w':=by
 obtain ⟨k1,v1,s1,l1,d1,x1⟩:=f
 obtain ⟨k2,v2,s2,l2,d2,x2⟩:=g
 unfold befF Fact.cells
 dsimp only
 by_cases hk:k1 = k2
 ·subst hk
  rw [if_neg (fun h=>h rfl)]
  by_cases hv:v1 = v2
  ·subst hv
   rw [if_neg (fun h=>h rfl)]
   by_cases hs:s1 = s2
   ·subst hs
    rw [if_neg (fun h=>h rfl)]
    go_enter Tryz.func109,Tryz.ntmps109
    go_wp2
    go_ret
    exact ⟨rfl,((Below.refl _ _).alloc (Nat.le_refl _) _).alloc (by simp) _⟩
   ·rw [if_pos hs]
    have d:((s1:Int) != (s2:Int)) = true:=by simp;omega
    go_enter Tryz.func109,Tryz.ntmps109
    go_wp2
    go_ret
    exact ⟨rfl,((Below.refl _ _).alloc (Nat.le_refl _) _).alloc (by simp) _⟩
  ·rw [if_pos hv]
   have d:((v1:Int) != (v2:Int)) = true:=by simp;omega
   go_enter Tryz.func109,Tryz.ntmps109
   go_wp2
   go_ret
   exact ⟨rfl,((Below.refl _ _).alloc (Nat.le_refl _) _).alloc (by simp) _⟩
 ·rw [if_pos hk]
  have d:(k1.toList == k2.toList) = false:=by
   rw [beq_eq_false_iff_ne]
   intro h
   rw [ByteArray.toList_eq,ByteArray.toList_eq] at h
   apply hk
   obtain ⟨a1⟩:=k1
   obtain ⟨a2⟩:=k2
   exact congrArg ByteArray.mk (Array.toList_inj.1 h)
  go_enter Tryz.func109,Tryz.ntmps109
  go_wp2
  go_ret
  exact ⟨rfl,((Below.refl _ _).alloc (Nat.le_refl _) _).alloc (by simp) _⟩
theorem befF_cmp (f g:Fact):befF f g = true ↔ cmpF f g < 0:=by
 unfold befF cmpF
 simp only [orZ_cons]
 by_cases hk:f.key = g.key
 ·rw [if_neg (fun h=>h hk),if_pos (cmpS_zero.2 hk)]
  by_cases hv:f.valid = g.valid
  ·rw [if_neg (fun h=>h hv),if_pos (cmpN_zero.2 hv.symm)]
   by_cases hs:f.seq = g.seq
   ·rw [if_neg (fun h=>h hs),if_pos (cmpN_zero.2 hs.symm)]
    by_cases hd:f.kind = g.kind
    ·rw [if_pos (cmpN_zero.2 hd)]
     simp [orZ,hd]
    ·rw [if_neg (fun h=>hd (cmpN_zero.1 h)),cmpN_neg]
     simp
   ·rw [if_pos hs,if_neg (fun h=>hs (cmpN_zero.1 h).symm),cmpN_neg]
    simp
  ·rw [if_pos hv,if_neg (fun h=>hv (cmpN_zero.1 h).symm),cmpN_neg]
   simp
 ·rw [if_pos hk,if_neg (fun h=>hk (cmpS_zero.1 h)),cmpS_neg,ByteArray.toList_eq,ByteArray.toList_eq]
end Go.Proofs.Herb
namespace Go.Proofs.Herb
open Go.RowKit
theorem turned_form (n many k S:Nat) (hS:S = 8 * (many - 1 - k)):(255 - (n:Int) / 2 ^ S % 256) = ((fallB n many k).toNat:Int):=by
 have e:((n:Int) / 2 ^ S % 256) = ((n / 2 ^ S % 256:Nat):Int):=by simp
 have hlt:n / 2 ^ S % 256 < 256:=Nat.mod_lt _ (by decide)
 rw [e]
 unfold fallB
 rw [← hS]
 generalize n / 2 ^ S % 256 = X at hlt ⊢
 rw [UInt8.toNat_ofNat',Nat.mod_eq_of_lt (by omega)]
 omega
set_option maxRecDepth 100000 in
set_option maxHeartbeats 1000000 in
theorem ref_turned (n many:Nat) (_hn:n < 18446744073709551616) (h8:many ≤ 8) (w:World) :
  Calls Tryz.prog 69 #[.int .u64 (n:Int),.int .i64 (many:Int)] w fun e w'=>∃ q c,e = .returned (.slice q many c) ∧ w'.ownsRow w.heap.size 5 1 (.slice q many c) many (((List.range many).map (fallB n many)).map bv) ∧ Below w.heap.size w w':=by
 go_enter Tryz.func69,Tryz.ntmps69
 go_wp2_with fail
 go_loopw [5,6] (fun v i wr=>∃ (k:Nat) (q:Option Addr) (c:Nat),k ≤ many ∧ v = .slice q k c ∧ i = .int .i64 ((many:Int) - 1 - (k:Int)) ∧ wr.ownsRow w.heap.size 5 1 (.slice q k c) k (((List.range k).map (fallB n many)).map bv) ∧ Below w.heap.size w wr) (fun _ i _=>(intOf i + 1).toNat)
 case atStart=>exact ⟨0,none,0,Nat.zero_le _,rfl,by simp,World.ownsRow_nil _ _ _ _,Below.refl _ _⟩
 case round =>
  obtain ⟨k,q,c,hk,rfl,rfl,hown,hb⟩:=hrel
  have HOwn:=hid hown
  have HB:=hid hb
  have hs:=hb.size
  clear hown hb
  by_cases hlt:k < many
  ·obtain ⟨I,hI⟩:∃ I,Hid (I = many - 1 - k):=⟨_,hid rfl⟩
   have e1:((many:Int) - 1 - (k:Int)) = (I:Int):=by have:=hI.out;omega
   rw [e1]
   have hI8:I < 8:=by have:=hI.out;omega
   obtain ⟨S,hS⟩:∃ S,Hid (S = 8 * I):=⟨_,hid rfl⟩
   have s1:IntKind.i64.wrap (8 * (I:Int)) = (S:Int):=by have:=hS.out;rw [IntWalk.i64_in _ (by omega)];omega
   have hS64:min S 64 = S:=by have:=hS.out;omega
   have HF:=hid (turned_form n many k S (by rw [hS.out,hI.out]))
   go_wp2_with (at_builtin;refine app22 rfl (.tmp 13) (.tmp 20) rfl w.heap.size q k c ((List.range k).map (fallB n many)) rfl (own_below HOwn.out ((Below.refl _ _).alloc (Nat.le_refl _) _)) _ 1 1 [fallB n many k] rfl (fun h=>by cases h) rfl (by rw [HF.out];exact Rd.new _ (([fallB n many k]:List UInt8).map bv) 5) (by omega) (by simp;omega) ?_;intro q2 c2 w2 g2;have G2:=hid g2;clear g2)
   go_roundw
   case rel =>
    refine ⟨k + 1,q2,c2,by omega,rfl,by have:=hI.out;go_num, ?_,HB.out.trans (((Below.refl _ _).alloc hs _).trans G2.out.below)⟩
    have h:=G2.out.own
    rw [List.range_succ,List.map_append]
    exact h
   case measure=>simp [intOf]
  ·obtain rfl:k = many:=by omega
   rw [show ((k:Int) - 1 - (k:Int)) = -1 by omega]
   go_wp2
   go_ret
   exact ⟨q,c,rfl,HOwn.out,HB.out⟩
set_option maxRecDepth 100000 in
set_option maxHeartbeats 1000000 in
theorem ref_key (s:ByteArray) (hs:s.size ≤ 1000000) (w:World) :
  Calls Tryz.prog 68 #[.string s] w fun e w'=>∃ q c,e = .returned (.slice q ((esc s.data.toList).length + 2) c) ∧ w'.ownsRow w.heap.size 5 1 (.slice q ((esc s.data.toList).length + 2) c) ((esc s.data.toList).length + 2) ((esc s.data.toList ++ [0,0]).map bv) ∧ Below w.heap.size w w':=by
 go_enter Tryz.func68,Tryz.ntmps68
 go_wp2_with fail
 go_loopw [3,4] (fun v i wr=>∃ k:Nat,k ≤ s.size ∧ i = .int .i64 (k:Int) ∧ wr.ownsRow w.heap.size 5 1 v (esc (s.data.toList.take k)).length ((esc (s.data.toList.take k)).map bv) ∧ Below w.heap.size w wr) (fun _ i _=>s.size - (intOf i).toNat)
 case atStart=>exact ⟨0,Nat.zero_le _,rfl,World.ownsRow_nil _ _ _ _,Below.refl _ _⟩
 case round =>
  obtain ⟨k,hk,rfl,hown,hb⟩:=hrel
  obtain ⟨E,hE⟩:∃ E,E = esc (s.data.toList.take k):=⟨_,rfl⟩
  have hEl:E.length ≤ 2 * k:=by
   have:=esc_len (s.data.toList.take k)
   rw [← hE] at this
   have h2:(s.data.toList.take k).length ≤ k:=List.length_take_le _ _
   omega
  rw [← hE] at hown
  obtain ⟨N,hN⟩:∃ N,N = E.length:=⟨_,rfl⟩
  rw [← hN] at hown hEl
  obtain ⟨q,c,rfl,hc,hcm,hq⟩:=own_shape hown
  have Hown:=hid hown
  have HE:=hid hE
  have HN:=hid hN
  have Hb:=hid hb
  have hbs:=hb.size
  clear hown hE hN hb
  by_cases hlt:k < s.size
  ·have hst:=str_take s k hlt
   have hsn:esc (s.data.toList.take (k + 1)) = E ++ if s[k] = 0 then [0,1] else [s[k]]:=by rw [hst,esc_snoc,HE.out]
   by_cases h0:s[k] = 0
   ·rw [if_pos h0] at hsn
    have hq0:((s[k].toNat:Int) == 0) = true:=by rw [h0];rfl
    have HSN:=hid hsn
    have H0:=hid h0
    clear hst hsn h0
    go_wp2_with (first
     | (refine app22 rfl (.tmp 11) (.tmp 15) rfl w.heap.size q N c E rfl (own_below Hown.out ((Below.refl _ _).alloc (Nat.le_refl _) _)) _ 1 1 [s[k]] rfl (fun h=>by cases h) rfl (Rd.new _ (([s[k]]:List UInt8).map bv) 5) (by omega) (by simp;omega) ?_;intro q2 c2 w2 g2;have hs2:=g2.below.size;have G2:=hid g2;rw [World.size_alloc] at hs2;clear g2)
     | (refine app22 rfl (.tmp 21) (.tmp 22) rfl w.heap.size q2 (N + 1) c2 (E ++ [s[k]]) rfl (own_below G2.out.own ((Below.refl _ _).alloc (Nat.le_refl _) _)) _ 1 1 [1] rfl (fun h=>by cases h) rfl (Rd.new _ (([1]:List UInt8).map bv) 5) (by omega) (by simp;omega) ?_;intro q3 c3 w3 g3;have G3:=hid g3;clear g3))
    go_roundw
    case rel =>
     refine ⟨k + 1,by omega,by go_num, ?_,Hb.out.trans (((((Below.refl _ _).alloc hbs _).trans G2.out.below).alloc (by omega) _).trans G3.out.below)⟩
     rw [HSN.out,List.length_append,← HN.out]
     have:=G3.out.own
     rw [H0.out,List.append_assoc] at this
     exact this
    case measure=>simp [intOf];omega
   ·rw [if_neg h0] at hsn
    have hq0:((s[k].toNat:Int) == 0) = false:=by
     rw [beq_eq_false_iff_ne];intro e;exact h0 (UInt8.toNat_inj.1 (by simpa using e))
    have HSN:=hid hsn
    clear hst hsn h0
    go_wp2_with (refine app22 rfl (.tmp 11) (.tmp 15) rfl w.heap.size q N c E rfl (own_below Hown.out ((Below.refl _ _).alloc (Nat.le_refl _) _)) _ 1 1 [s[k]] rfl (fun h=>by cases h) rfl (Rd.new _ (([s[k]]:List UInt8).map bv) 5) (by omega) (by simp;omega) ?_;intro q2 c2 w2 g2;have G2:=hid g2;clear g2)
    go_roundw
    case rel =>
     refine ⟨k + 1,by omega,by go_num, ?_,Hb.out.trans (((Below.refl _ _).alloc hbs _).trans G2.out.below)⟩
     rw [HSN.out,List.length_append,← HN.out]
     exact G2.out.own
    case measure=>simp [intOf];omega
  ·obtain rfl:k = s.size:=by omega
   have hE2:E = esc s.data.toList:=by rw [HE.out,List.take_of_length_le (by rw [Array.length_toList];exact Nat.le_refl _)]
   have HE2:=hid hE2
   clear hE2
   go_wp2_with (refine app22 rfl (.tmp 24) (.tmp 25) rfl w.heap.size q N c E rfl (own_below Hown.out ((Below.refl _ _).alloc (Nat.le_refl _) _)) _ 2 2 [0,0] rfl (fun h=>by cases h) rfl (Rd.new _ (([0,0]:List UInt8).map bv) 5) (by omega) (by simp;omega) ?_;intro q2 c2 w2 g2)
   go_ret
   rw [← HE2.out,← HN.out]
   exact ⟨_,_,rfl,g2.own,Hb.out.trans (((Below.refl _ _).alloc hbs _).trans g2.below)⟩
def seekR (key:List UInt8) (valid:Nat):List UInt8:=esc key ++ [0,0] ++ (List.range 4).map (fallB valid 4)
set_option maxRecDepth 100000 in
set_option maxHeartbeats 1000000 in
theorem ref_seek (s:ByteArray) (valid:Nat) (hs:s.size ≤ 1000000) (hv:valid < 4294967296) (w:World) :
  Calls Tryz.prog 30 #[.string s,.int .u32 (valid:Int)] w fun e w'=>∃ q c,e = .returned (.slice q ((esc s.data.toList).length + 6) c) ∧ w'.ownsRow w.heap.size 5 1 (.slice q ((esc s.data.toList).length + 6) c) ((esc s.data.toList).length + 6) ((seekR s.data.toList valid).map bv) ∧ Below w.heap.size w w':=by
 obtain ⟨N,hN⟩:∃ N,N = (esc s.data.toList).length + 2:=⟨_,rfl⟩
 have HK:=hid (fun W=>ref_key s hs W)
 have HTr:=hid (fun W=>ref_turned valid 4 (by omega) (by decide) W)
 have hel:=esc_len s.data.toList
 rw [show s.data.toList.length = s.size from by rw [Array.length_toList];rfl] at hel
 rw [show (esc s.data.toList).length + 6 = N + 4 by omega]
 rw [← hN] at HK
 obtain ⟨K,hK⟩:∃ K,Hid (K = esc s.data.toList ++ [0,0]):=⟨_,hid rfl⟩
 obtain ⟨T4,hT4⟩:∃ K,Hid (K = (List.range 4).map (fallB valid 4)):=⟨_,hid rfl⟩
 have hT4l:T4.length = 4:=by rw [hT4.out];simp
 have hNl:N ≤ 2000002:=by omega
 rw [← hK.out] at HK
 rw [← hT4.out] at HTr
 unfold seekR
 rw [← hK.out,← hT4.out]
 have HT4l:=hid hT4l
 have hvv:(valid:Int) < 18446744073709551616:=by omega
 clear hN hel hT4l
 go_enter Tryz.func30,Tryz.ntmps30
 go_wp2_with fail
 refine (HK.out w).mono ?_
 rintro e w1 ⟨q1,c1,rfl,ho1,hb1⟩
 have HO1:=hid ho1
 have HB1:=hid hb1
 have hs1:=hb1.size
 clear ho1 hb1
 go_wp2_with fail
 refine (HTr.out w1).mono ?_
 rintro e w2 ⟨q2,c2,rfl,ho2,hb2⟩
 have HO2:=hid (Fr.of_own ho2)
 have HO12:=hid (own_below HO1.out hb2)
 have HB2:=hid (HB1.out.trans (hb2.mono hs1))
 obtain ⟨_,_,e', -, -, -,hz⟩:=(Fr.of_own ho2).shape
 cases e'
 have HZ:=hid (fun h=>(hz h).2)
 have hs2:=HB2.out.size
 clear ho2 hb2 hz
 go_wp2_with (at_builtin;refine app22 rfl (.tmp 6) (.tmp 9) rfl w.heap.size q1 N c1 K rfl HO12.out q2 4 c2 T4 rfl HZ.out HT4l.out HO2.out.rd (by omega) hs2 ?_;intro q3 c3 w3 g3;have G3:=hid g3;clear g3)
 go_ret
 exact ⟨q3,c3,rfl,G3.out.own,HB2.out.trans G3.out.below⟩
theorem fr_nilc {w:World} {base:Nat} {e:TypeId} {k:Nat} {q:Option Addr} {n c m:Nat} {xs:List Value} (h:Fr w base e k (.slice q n c) m xs):q = none → c = 0:=by
 obtain ⟨_,_,e', -, -, -,hz⟩:=h.shape
 cases e'
 exact fun h=>(hz h).2
theorem app22w {o:Oper} {a:Act} {w:World} {K:Act → World → Prop} {Q:Exit → Act → World → Prop} (s x:Operand) (ho:o.op = .call { callee:=.builtin .append,args := #[s,x],argTypes := #[22,22] })
  (base:Nat) (q:Option Addr) (n c:Nat) (l:List UInt8) (hs:a.eval s = .slice q n c) (hown:w.ownsRow base 5 1 (.slice q n c) n (l.map bv))
  (ad:Option Addr) (m d:Nat) (k:List UInt8) (hx:a.eval x = .slice ad m d) (hnc:ad = none → d = 0) (hl:k.length = m) (hr:Rd w ad (k.map bv)) (hsz:n + m ≤ 1000000000000) (hbase:base ≤ w.heap.size)
  (h:∀ q' c' w',Grew base w w' q q' (n + m) c' (l ++ k) → K (a.put o.dst (.slice q' (n + m) c')) w'):o.wp Tryz.prog a w K Q :=
 wp_append_rd s x 22 ho base 5 (.int .u8 0) 1 1 Tryz.underlying22 infoU8 rfl (by decide) (.slice q n c) n (l.map bv) hs hown ad m d (k.map bv) hx hnc (by simp [hl]) hr bv_one (by unfold maxLen;omega) (by omega) hbase
  (fun v' w' h1 h2 _=>by
   rw [← List.map_append] at h1
   obtain ⟨q',c',rfl,hg⟩:=grew_of hown hbase h1 h2
   exact h q' c' w' hg)
theorem kput_seek (f:Fact):kput f = seekR f.key.data.toList f.valid ++ (List.range 8).map (fallB f.seq 8) ++ [UInt8.ofNat f.kind]:=by
 unfold kput seekR tailB
 simp only [List.append_assoc]
set_option maxRecDepth 100000 in
set_option maxHeartbeats 1000000 in
theorem ref_kput (f:Fact) (o:f.Ok) (w:World) (h:mayF f = true) :
  Calls Tryz.prog 32 #[.agg f.cells.toArray] w fun e w'=>∃ q c,e = .returned (.tuple #[.slice q (kput f).length c,.int .i64 0]) ∧ Fr w' w.heap.size 5 1 (.slice q (kput f).length c) (kput f).length ((kput f).map bv) ∧ Below w.heap.size w w':=by
 have hm:=h
 unfold mayF at hm
 simp only [decide_eq_true_eq] at hm
 have HM:=hid (ref_may f (w.alloc (.cells f.cells.toArray 27)))
 rw [h] at HM
 have hkk:=kput_seek f
 obtain ⟨N,hN⟩:∃ N,N = (esc f.key.data.toList).length + 6:=⟨_,rfl⟩
 have hsl:(seekR f.key.data.toList f.valid).length = N:=by unfold seekR;simp;omega
 have hNl:N ≤ 70:=by
  have:=esc_len f.key.data.toList
  have h2:f.key.data.toList.length ≤ 32:=by rw [Array.length_toList];exact hm.2.1
  omega
 have hkl:(kput f).length = N + 8 + 1:=by rw [hkk];simp;omega
 have HS:=hid (fun W=>ref_seek f.key f.valid (by omega) o.valid W)
 have HT:=hid (fun W=>(show Calls Tryz.prog 69 #[.int .u64 (f.seq:Int),.int .i64 8] W _ from ref_turned f.seq 8 o.seq (by decide) W))
 rw [← hN] at HS
 rw [hkl,hkk]
 have hkd:=o.kind
 obtain ⟨S,hS⟩:∃ S,Hid (S = seekR f.key.data.toList f.valid):=⟨_,hid rfl⟩
 obtain ⟨T8,hT8⟩:∃ S,Hid (S = (List.range 8).map (fallB f.seq 8)):=⟨_,hid rfl⟩
 have hTl:T8.length = 8:=by rw [hT8.out];simp
 have HTl:=hid hTl
 rw [← hS.out] at HS ⊢
 rw [← hT8.out] at HT ⊢
 obtain ⟨kd,hkdd⟩:∃ k,Hid (k = UInt8.ofNat f.kind):=⟨_,hid rfl⟩
 rw [← hkdd.out]
 have hkv:((kd.toNat:Nat):Int) = (f.kind:Int):=by rw [hkdd.out,UInt8.toNat_ofNat',Nat.mod_eq_of_lt (by omega)]
 have HKv:=hid hkv
 clear hN hsl hkl hkk hm o h hkd hkv hTl
 unfold Fact.cells at HM ⊢
 go_enter Tryz.func32,Tryz.ntmps32
 go_wp2_with fail
 (with_reducible refine HM.out.mono ?_)
 rintro e w1 ⟨rfl,hb1⟩
 have hz:=hb1.size
 rw [World.size_alloc] at hz
 have hbox:w1.heap[w.heap.size]? = some (.cells #[.string f.key,.int .u32 (f.valid:Int),.int .u64 (f.seq:Int),.int .u64 (f.line:Int),.int .u8 (f.kind:Int),.string f.val] 27 (0,0)):=(hb1.block _ (by simp)).trans (heap_alloc_new w _)
 have HB1:=hid (((Below.refl w.heap.size w).alloc (Nat.le_refl _) _).trans (hb1.mono (by simp)))
 have hs1:=HB1.out.size
 have hP:w.heap.size < w1.heap.size:=by omega
 have HC:Hid (∀ w',Below w1.heap.size w1 w' → w'.cell? ⟨w.heap.size,0,none⟩ = some (.string f.key) ∧ w'.cell? ⟨w.heap.size,1,none⟩ = some (.int .u32 (f.valid:Int)) ∧ w'.cell? ⟨w.heap.size,2,none⟩ = some (.int .u64 (f.seq:Int)) ∧ w'.cell? ⟨w.heap.size,4,none⟩ = some (.int .u8 (f.kind:Int))):=hid fun w' hb=>by
  have h:=(hb.block _ hP).trans hbox
  exact ⟨(cell_of_row w' _ _ _ _ _ h).trans rfl,(cell_of_row w' _ _ _ _ _ h).trans rfl,(cell_of_row w' _ _ _ _ _ h).trans rfl,(cell_of_row w' _ _ _ _ _ h).trans rfl⟩
 have HD:=hid ((Below.refl w1.heap.size w1).drew)
 clear hb1 hbox
 go_upto_region 3 with (fail)
 go_region_held3 (fun w'=>w'.cell? ⟨w.heap.size,0,none⟩ = some (.string f.key) ∧ w'.cell? ⟨w.heap.size,1,none⟩ = some (.int .u32 (f.valid:Int)) ∧ w'.cell? ⟨w.heap.size,2,none⟩ = some (.int .u64 (f.seq:Int)) ∧ w'.cell? ⟨w.heap.size,4,none⟩ = some (.int .u8 (f.kind:Int))) (first | exact HC.out _ HD.out | exact HC.out _ HBx.out | exact HC.out _ HBy.out | exact HC.out _ HBz.out) ((first
  | (go_at_call 30;(with_reducible refine (HS.out _).mono ?_);rintro e w2 ⟨q1,c1,rfl,ho1,hb1⟩;have HBx:=hid (HD.out.trans (hb1.mono (Nat.le_refl _)));have HO1:=hid ho1;clear ho1 hb1)
  | (go_at_call 69;(with_reducible refine (HT.out _).mono ?_);rintro e w3 ⟨q2,c2,rfl,ho2,hb2⟩;have HO12:=hid (own_below HO1.out hb2);have HBy:=hid (HBx.out.trans (hb2.mono HBx.out.size));have HO2:=hid (Fr.of_own ho2);clear ho2 hb2)
  | (refine app22w (.tmp 12) (.tmp 15) rfl w1.heap.size q1 N c1 S rfl HO12.out q2 8 c2 T8 rfl (fr_nilc HO2.out) HTl.out HO2.out.rd (by omega) (HBy.out.size) ?_;intro q3 c3 w4 g3;have HBz:=hid (HBy.out.trans g3.below);have G3:=hid g3;clear g3)))
 have k4:=(HC.out _ HBz.out).2.2.2
 have hs4:=HBz.out.size
 obtain ⟨M,hM⟩:∃ M,M = N + 8:=⟨_,rfl⟩
 rw [← hM] at G3 ⊢
 have hM':=hid hM
 have hMl:M ≤ 78:=by omega
 clear HC HS HT HM hM
 go_wp2_with (at_builtin;refine app22 rfl (.tmp 17) (.tmp 20) rfl w1.heap.size q3 M c3 (S ++ T8) rfl (own_below G3.out.own ((Below.refl _ _).alloc (Nat.le_refl _) _)) _ 1 1 [kd] rfl (fun h=>by cases h) rfl (by rw [← HKv.out];exact Rd.new _ (([kd]:List UInt8).map bv) 5) (by omega) (by simp;omega) ?_;intro q5 c5 w5 g5;have G5:=hid g5;clear g5)
 go_ret2
 obtain rfl:=hM'.out
 exact ⟨q5,c5,rfl,G5.out.fr.mono hs1,HB1.out.trans ((HBz.out.trans (((Below.refl _ _).alloc hs4 _).trans G5.out.below)).mono hs1)⟩
end Go.Proofs.Herb
namespace Go.Proofs.Herb
open Go.RowKit
theorem ref_four10 (N:Nat) (hN:N < 4294967296) (w:World) :
  Calls Tryz.prog 111 #[.int .u32 (N:Int)] w fun e w'=>∃ q,e = .returned (.slice (some q) 4 4) ∧ Rd w' (some q) ((le4 N).map bv) ∧ Below w.heap.size w w':=by
 have F:=hid (le4_rd N hN)
 go_enter Tryz.func111,Tryz.ntmps111
 go_wp2
 go_ret
 exact ⟨_,rfl,F.out w,(Below.refl _ _).alloc (Nat.le_refl _) _⟩
theorem ref_sum10 (a:Option Addr) (n c:Nat) (l:List UInt8) (w:World) (hn:l.length = n) (hm:n ≤ 4611686018427387904) (hr:Rd w a (l.map bv)) :
  Calls Tryz.prog 82 #[.slice a n c] w fun e w'=>∃ q,e = .returned (.slice (some q) 4 4) ∧ Rd w' (some q) ((le4 (crcMore 0 l).toNat).map bv) ∧ Below w.heap.size w w':=by
 have HO:=hid (ref_of a n c l w hn hm hr)
 have HF:=hid (ref_four10 (crcMore 0 l).toNat (crcMore 0 l).isLt w)
 clear hn hm hr
 go_enter Tryz.func82,Tryz.ntmps82
 go_wp2_with fail
 refine HO.out.mono ?_
 rintro e w1 ⟨rfl,rfl⟩
 go_wp2_with fail
 refine HF.out.mono ?_
 rintro e w2 ⟨q,rfl,hr,hb⟩
 have HR:=hid hr
 have HB:=hid hb
 clear hr hb
 go_wp2
 go_ret
 exact ⟨q,rfl,HR.out,HB.out⟩
def plU (l:List Item) (k:Nat):List Nat:=(List.range k).flatMap fun i=>if i % 4 = 0 then [(bUp l i).length] else []
theorem plU_succ (l:List Item) (k:Nat):plU l (k + 1) = plU l k ++ if k % 4 = 0 then [(bUp l k).length] else []:=by unfold plU;rw [List.range_succ,List.flatMap_append];simp
theorem plU_bytes (l:List Item):∀ k,(plU l k).flatMap le4 = pUp l k
 | 0=>rfl
 | k + 1=>by
  rw [plU_succ,pUp_succ,List.flatMap_append,plU_bytes l k]
  by_cases h:k % 4 = 0
  ·rw [if_pos h,if_pos h];simp
  ·rw [if_neg h,if_neg h];rfl
theorem plU_len (l:List Item):∀ k,(plU l k).length = (k + 3) / 4
 | 0=>rfl
 | k + 1=>by
  rw [plU_succ,List.length_append,plU_len l k]
  by_cases h:k % 4 = 0
  ·rw [if_pos h];simp;omega
  ·rw [if_neg h];simp;omega
def uv (n:Nat):Value:=.int .u32 (n:Int)
theorem uv_one {l:List Nat}:∀ u ∈ l.map uv,u.oneCell' = true:=by
 intro u hu
 simp at hu
 obtain ⟨a,_,rfl⟩:=hu
 rfl
theorem infoU32:(Tryz.prog.info? 23).map (fun i=>(i.zero,i.size,i.bytes)) = some (some (.int .u32 0),1,4):=by kernel_rfl
theorem own_kinds {w w':World} {base b2:Nat} {e e2:TypeId} {k k2:Nat} {v v2:Value} {n n2:Nat} {xs ys:List Value} (h:w.ownsRow base e k v n xs) (h2:w.ownsRow b2 e2 k2 v2 n2 ys) (he:e ≠ e2) (hg:w.grownBy w' v2.ownBlock):w'.ownsRow base e k v n xs:=by
 obtain ⟨h1,h3⟩:=h
 refine ⟨h1, ?_⟩
 rcases h3 with h3 | ⟨g,cap,cur,rfl,hb,hh,r⟩
 ·exact .inl h3
 ·refine .inr ⟨g,cap,cur,rfl,hb,(hg.block g (lt_of_block hh) fun h4 => ?_).trans hh,r⟩
  obtain ⟨-,h5⟩:=h2
  rcases h5 with ⟨rfl, -⟩ | ⟨g2,cap2,cur2,rfl,hb2,hh2,r2⟩
  ·cases h4
  ·cases h4
   rw [hh] at hh2
   cases hh2
   exact he rfl
theorem leS_not (a b:ByteArray):leS a b = !Op.bytesLess b.toList a.toList:=by
 unfold leS
 cases h:Op.bytesLess b.toList a.toList with
 | false =>
  rw [ByteArray.toList_eq,ByteArray.toList_eq] at *
  rw [Bool.not_false,Bool.or_eq_true]
  by_cases e:a.data.toList = b.data.toList
  ·exact .inr (by rw [e];exact beq_self_eq_true _)
  ·exact .inl (bl_total h (fun h=>e h.symm))
 | true =>
  rw [ByteArray.toList_eq,ByteArray.toList_eq] at *
  rw [Bool.not_true,Bool.or_eq_false_iff]
  refine ⟨?_, ?_⟩
  ·cases h2:Op.bytesLess a.data.toList b.data.toList with
   | false=>rfl
   | true=>exact absurd (h2.symm.trans (bl_asymm h)) (by decide)
  ·rw [beq_eq_false_iff_ne]
   intro e
   rw [e] at h
   exact absurd (h.symm.trans (bl_irrefl _)) (by decide)
theorem plU_le (l:List Item):∀ (k x:Nat),x ∈ plU l k → x ≤ (bUp l k).length
 | 0,x,h=>by simp [plU] at h
 | k + 1,x,h=>by
  rw [plU_succ,List.mem_append] at h
  have h1:=bUp_mono l (show k ≤ k + 1 by omega)
  rcases h with h | h
  ·exact Nat.le_trans (plU_le l k x h) h1
  ·by_cases h4:k % 4 = 0
   ·rw [if_pos h4,List.mem_singleton] at h
    rw [h];exact h1
   ·rw [if_neg h4] at h;cases h
theorem own_grewK {w w':World} {base b2 b3:Nat} {e:TypeId} {k:Nat} {v:Value} {n:Nat} {xs:List Value} {q q':Option Addr} {n2 c2 m c':Nat} {ys:List Value} {l:List UInt8} (h:w.ownsRow base e k v n xs) (he:e ≠ 5) (h2:w.ownsRow b2 5 1 (.slice q n2 c2) n2 ys) (g:Grew b3 w w' q q' m c' l):w'.ownsRow base e k v n xs:=by
 obtain ⟨h1,h3⟩:=h
 refine ⟨h1, ?_⟩
 rcases h3 with h3 | ⟨a,cap,cur,rfl,hb,hh,r⟩
 ·exact .inl h3
 ·refine .inr ⟨a,cap,cur,rfl,hb,(g.other a (lt_of_block hh) fun b hq h4 => ?_).trans hh,r⟩
  subst hq
  obtain ⟨-,h5⟩:=h2
  rcases h5 with ⟨h6, -⟩ | ⟨g2,cap2,cur2,hv,hb2,hh2,r2⟩
  ·cases h6
  ·cases hv
   rw [h4] at hh
   rw [hh] at hh2
   cases hh2
   exact he rfl
theorem own_lower {w:World} {base b2:Nat} {e:TypeId} {k:Nat} {v:Value} {n:Nat} {xs:List Value} (h:w.ownsRow base e k v n xs) (hb:b2 ≤ base):w.ownsRow b2 e k v n xs:=by
 obtain ⟨h1,h2⟩:=h
 refine ⟨h1, ?_⟩
 rcases h2 with h2 | ⟨g,cap,cur,hv,hg,r⟩
 ·exact .inl h2
 ·exact .inr ⟨g,cap,cur,hv,Nat.le_trans hb hg,r⟩
def RPut (l:List Item) (b0:Nat) (w:World) (e:Ending) (w':World):Prop :=
 Below b0 w w' ∧ ((¬ RiseI l ∧ e = .returned (.tuple #[.slice none 0 0,.int .i64 1])) ∨ (RiseI l ∧ 65536 < (bAll l).length ∧ e = .returned (.tuple #[.slice none 0 0,.int .i64 3])) ∨
  (RiseI l ∧ (bAll l).length ≤ 65536 ∧ ∃ q c,e = .returned (.tuple #[.slice q (bAll l).length c,.int .i64 0]) ∧ Fr w' b0 5 1 (.slice q (bAll l).length c) (bAll l).length ((bAll l).map bv)))
set_option maxRecDepth 100000 in
set_option maxHeartbeats 4000000 in
theorem ref_bput (q:Option Addr) (n c:Nat) (l:List Item) (w:World) (hn:l.length = n) (hm:n ≤ 100000) (hr:Rd w q (iCells l)) (hks:∀ x ∈ l,x.key.size ≤ 100000 ∧ x.val.size ≤ 100000) :
  Calls Tryz.prog 76 #[.slice q n c] w (RPut l w.heap.size w):=by
 have Hn:=hid hn
 have Hr:=hid hr
 have Hks:=hid hks
 clear hn hr hks
 go_enter Tryz.func76,Tryz.ntmps76
 by_cases hn0:n = 0
 ·have hnr:¬ RiseI l:=fun h=>by have:=h.1;rw [Hn.out] at this;omega
  have HNR:=hid hnr
  subst hn0
  clear hnr
  go_wp2
  go_ret2
  exact ⟨Below.refl _ _,.inl ⟨HNR.out,rfl⟩⟩
 ·have e0:((n:Int) == 0) = false:=by rw [beq_eq_false_iff_ne];omega
  go_wp2_with fail
  go_loopw [4] (fun i wr=>∃ k:Nat,1 ≤ k ∧ k ≤ n ∧ i = .int .i64 (k:Int) ∧ (∀ j,(h:j + 1 < l.length) → j + 1 < k → leS l[j + 1].key l[j].key = false) ∧ Below w.heap.size w wr) (fun i _=>n - (intOf i).toNat)
  case atStart=>exact ⟨1,Nat.le_refl _,by omega,rfl,fun j _ h=>by omega,Below.refl _ _⟩
  case round =>
   obtain ⟨k,hk1,hk,rfl,hz,hb⟩:=hrel
   have HZ:=hid hz
   have HB:=hid hb
   clear hz hb
   by_cases hlt:k < n
   ·obtain ⟨j,rfl⟩:∃ j,k = j + 1:=⟨k - 1,by omega⟩
    have hjl:j + 1 < l.length:=by rw [Hn.out];exact hlt
    have hr2:=Hr.out.below HB.out
    obtain ⟨b,off,rfl,_,c1,_⟩:=item_at hr2 hjl
    obtain ⟨b',off',e,_,c0,_⟩:=item_at (j:=j) hr2 (by omega)
    cases e
    obtain ⟨x,hx⟩:∃ x,x = l[j + 1].key:=⟨_,rfl⟩
    obtain ⟨y,hy⟩:∃ y,y = l[j].key:=⟨_,rfl⟩
    rw [← hx] at c1
    rw [← hy] at c0
    have s1:IntKind.i64.wrap (((j + 1:Nat):Int) - 1) = (j:Int):=by rw [IntWalk.i64_in _ (by omega)];omega
    have i0:(0:Int) ≤ (j:Int):=by omega
    have i1:(j:Int) < (n:Int):=by omega
    have i2:(0:Int) ≤ ((j + 1:Nat):Int):=by omega
    have i3:((j + 1:Nat):Int) < (n:Int):=by omega
    by_cases hle:leS x y = true
    ·have hnr:¬ RiseI l:=fun h=>by
      have:=h.2 j hjl
      rw [← hx,← hy,hle] at this;cases this
     have hlt2:Op.bytesLess y.toList x.toList = false:=by rw [leS_not] at hle;simpa using hle
     have HX:=hid hx
     have HY:=hid hy
     have HNR:=hid hnr
     clear hx hy hr2 hnr hle
     go_upto_region 6 with (fail)
     go_quiet (fail)
     go_wp2
     go_ret2
     exact ⟨below_drewN HB.out nq,.inl ⟨HNR.out,rfl⟩⟩
    ·have hle2:leS x y = false:=by simpa using hle
     have hle3:Op.bytesLess y.toList x.toList = true:=by rw [leS_not] at hle2;simpa using hle2
     have HLE:=hid hle2
     have HX:=hid hx
     have HY:=hid hy
     clear hx hy hr2 hle hle2
     go_upto_region 6 with (fail)
     go_quiet (fail)
     go_wp2
     go_roundw
     case rel =>
      refine ⟨j + 2,by omega,by omega,by go_num,fun i hi hik => ?_,below_drewN HB.out nq⟩
      by_cases e:i = j
      ·subst e;rw [← HX.out,← HY.out];exact HLE.out
      ·exact HZ.out i hi (by omega)
     case measure=>simp [intOf];omega
   ·obtain rfl:k = n:=by omega
    have HRi:=hid (show RiseI l from by
     have hL:=Hn.out
     exact ⟨by omega,fun j hj=>HZ.out j hj (by omega)⟩)
    clear HZ
    have h65:(0:Int) ≤ 65536:=by decide
    go_wp2_with fail
    go_loopw [5,6,7] (fun v5 v6 i wr=>∃ (j:Nat) (q5 q6:Option Addr) (c5 c6:Nat),j ≤ k ∧ i = .int .i64 (j:Int) ∧ v5 = .slice q5 (bUp l j).length c5 ∧ v6 = .slice q6 (plU l j).length c6 ∧ (bUp l j).length ≤ 265600 ∧
     wr.ownsRow w.heap.size 5 1 (.slice q5 (bUp l j).length c5) (bUp l j).length ((bUp l j).map bv) ∧ wr.ownsRow w.heap.size 23 1 (.slice q6 (plU l j).length c6) (plU l j).length ((plU l j).map uv) ∧ Below w.heap.size w wr) (fun _ _ i _=>k - (intOf i).toNat)
    case atStart=>exact ⟨0,none,none,0,0,Nat.zero_le _,rfl,rfl,rfl,by simp [bUp],World.ownsRow_nil _ _ _ _,World.ownsRow_nil _ _ _ _,HB.out⟩
    case round =>
     obtain ⟨j,q5,q6,c5,c6,hj,rfl,rfl,rfl,hbl,ho5,ho6,hb⟩:=hrel
     obtain ⟨N5,hN5⟩:∃ N,Hid (N = (bUp l j).length):=⟨_,hid rfl⟩
     obtain ⟨N6,hN6⟩:∃ N,Hid (N = (plU l j).length):=⟨_,hid rfl⟩
     rw [← hN5.out] at ho5 hbl ⊢
     rw [← hN6.out] at ho6 ⊢
     have h6l:N6 ≤ 25001:=by rw [hN6.out,plU_len];omega
     have Ho5:=hid ho5
     have Ho6:=hid ho6
     have HBr:=hid hb
     have hbs:=hb.size
     clear ho5 ho6 hb HB
     by_cases hgo:j < k ∧ N5 ≤ 65536
     ·obtain ⟨hlt,hN⟩:=hgo
      have hkl:j < l.length:=by rw [Hn.out];exact hlt
      obtain ⟨bq,off,rfl,hbq,c0,c1⟩:=item_at (Hr.out.below HBr.out) hkl
      obtain ⟨key,hkey⟩:∃ x,Hid (x = l[j].key):=⟨_,hid rfl⟩
      obtain ⟨val,hval⟩:∃ x,Hid (x = l[j].val):=⟨_,hid rfl⟩
      rw [← hkey.out] at c0
      rw [← hval.out] at c1
      have hsz:=Hks.out _ (List.getElem_mem hkl)
      rw [← hkey.out,← hval.out] at hsz
      obtain ⟨hs1,hs2⟩:=hsz
      have HKA:=hid (show kAt l j = key.data.toList by rw [kAt_get hkl,hkey.out])
      have HVA:=hid (show vAt l j = val.data.toList by rw [vAt_get hkl,hval.out])
      have i0:(0:Int) ≤ (j:Int):=by omega
      have i1:(j:Int) < (k:Int):=by omega
      have d0:decide ((j:Int) < (k:Int)) = true:=by simpa using hlt
      have d1:decide ((N5:Int) ≤ 65536) = true:=by simp;omega
      go_upto_if 45 with (fail)
      obtain ⟨sh,hsh⟩:∃ sh,Hid (sh = shAt l j):=⟨_,hid rfl⟩
      have hsl:sh ≤ key.size:=by
       have:=shAt_le l j
       rw [← hsh.out,HKA.out,size_toList] at this;exact this
      go_cut [6,8] (fun v6 v8 wc=>∃ (p6:Option Addr) (d6:Nat),v6 = .slice p6 (plU l (j + 1)).length d6 ∧ v8 = .int .i64 (sh:Int) ∧ wc.ownsRow w.heap.size 23 1 (.slice p6 (plU l (j + 1)).length d6) (plU l (j + 1)).length ((plU l (j + 1)).map uv) ∧
       wc.ownsRow w.heap.size 5 1 (.slice q5 N5 c5) N5 ((bUp l j).map bv) ∧ Below w.heap.size w wc)
      case first =>
       by_cases hmod:j % 4 = 0
       ·have dm:((j:Int) % 4 == 0) = true:=by
         have:(j:Int) % 4 = 0:=by omega
         rw [this];rfl
        have hs0:sh = 0:=by rw [hsh.out];unfold shAt;rw [if_pos hmod]
        subst hs0
        have HPS:=hid (show plU l (j + 1) = plU l j ++ [N5] by rw [plU_succ,if_pos hmod,hN5.out])
        have hw:(N5:Int) % 4294967296 = (N5:Int):=by omega
        clear hmod c0 c1
        go_wp2_with (refine wpList_append_rd rfl (.tmp 46) (.tmp 50) 164 rfl w.heap.size 23 (.int .u32 0) 1 4 Tryz.underlying164 infoU32 rfl (by decide) (.slice q6 N6 c6) N6 ((plU l j).map uv) rfl (own_below Ho6.out ((Below.refl _ _).alloc (Nat.le_refl _) _)) (some ⟨wr.heap.size,0,none⟩) 1 1 [uv N5] rfl (fun h=>by cases h) rfl (Rd.new _ [uv N5] 23) (uv_one (l:=[N5])) (by unfold maxLen;omega) (by omega) (by simp;omega) ?_;intro v' w' h1 h2 _;have H1:=hid h1;have H2:=hid h2;clear h1 h2)
        go_meet
        case rel =>
         obtain ⟨p6,d6,rfl, -, -, -⟩:=own_shape H1.out
         have hA:Below wr.heap.size wr (wr.alloc (.cells #[.int .u32 (N5:Int)] 23)):=(Below.refl _ _).alloc (Nat.le_refl _) _
         have hL:(plU l (j + 1)).length = N6 + 1:=by rw [HPS.out,List.length_append,← hN6.out];rfl
         refine ⟨p6,d6,by rw [hL],rfl, ?_,own_kinds (own_below Ho5.out hA) (own_below Ho6.out hA) (by decide) H2.out,(HBr.out.trans (hA.mono hbs)).grown H2.out (by simp;omega) (fun g e=>((own_below Ho6.out hA).lt g e).1)⟩
         rw [hL,HPS.out,List.map_append]
         exact H1.out
       ·have dm:((j:Int) % 4 == 0) = false:=by
         have:(j:Int) % 4 ≠ 0:=by omega
         simpa using this
        obtain ⟨i,rfl⟩:∃ i,j = i + 1:=⟨j - 1,by omega⟩
        obtain ⟨b',off',e,_,c0',_⟩:=item_at (j:=i) (Hr.out.below HBr.out) (by omega)
        cases e
        obtain ⟨prev,hprev⟩:∃ x,Hid (x = l[i].key):=⟨_,hid rfl⟩
        rw [← hprev.out] at c0'
        have hps':=(Hks.out _ (List.getElem_mem (show i < l.length by omega))).1
        rw [← hprev.out] at hps'
        have HSS:=hid (show sh = comL prev.data.toList key.data.toList by
         rw [hsh.out];unfold shAt;rw [if_neg hmod,HKA.out,Nat.add_sub_cancel,kAt_get (show i < l.length by omega),hprev.out])
        have HPS:=hid (show plU l (i + 1 + 1) = plU l (i + 1) by rw [plU_succ,if_neg hmod,List.append_nil])
        have s1:IntKind.i64.wrap (((i + 1:Nat):Int) - 1) = (i:Int):=by rw [IntWalk.i64_in _ (by omega)];omega
        have j0:(0:Int) ≤ (i:Int):=by omega
        have j1:(i:Int) < (k:Int):=by omega
        have Hc0:=hid (show ∀ W,Below wr.heap.size wr W → W.cell? ⟨bq,off + (i + 1) * 2,none⟩ = some (.string key) from fun W hb=>by
         rw [hb.cell (p:=⟨bq,off + (i + 1) * 2,none⟩) (by have:=HBr.out;exact World.block_lt_of_cell? wr _ c0)];exact c0)
        clear c0 c1
        go_wp2_with fail
        clear c0'
        go_loopw [8] (fun n wl=>∃ x:Nat,x ≤ prev.size ∧ x ≤ key.size ∧ n = .int .i64 (x:Int) ∧ prev.data.toList.take x = key.data.toList.take x ∧ Below wr.heap.size wr wl) (fun n _=>prev.size - (intOf n).toNat)
        case atStart=>exact ⟨0,Nat.zero_le _,Nat.zero_le _,rfl,rfl,Below.refl _ _⟩
        case round =>
         obtain ⟨x,hxp,hxk,rfl,htk,hbl⟩:=hrel
         have HTk:=hid htk
         have HBl:=hid hbl
         clear htk hbl
         go_upto_region 17 with (fail)
         have c0:=Hc0.out _ HBl.out
         by_cases hx1:x < prev.size
         ·have x1:decide ((x:Int) < (prev.size:Int)) = true:=by simpa using hx1
          by_cases hx2:x < key.size
          ·have x2:decide ((x:Int) < (key.size:Int)) = true:=by simpa using hx2
           by_cases hxx:prev.data.toList.take (x + 1) = key.data.toList.take (x + 1)
           ·have hex:((prev.extract 0 (x + 1)).toList == (key.extract 0 (x + 1)).toList) = true:=by
             rw [ByteArray.toList_eq,ByteArray.toList_eq,Lib.extract_data,Lib.extract_data,List.drop_zero,List.drop_zero,Nat.sub_zero,hxx]
             exact beq_self_eq_true _
            have HXX:=hid hxx
            clear hxx
            go_quiet (fail)
            go_wp2
            go_roundw
            case rel=>exact ⟨x + 1,by omega,by omega,by go_num,HXX.out,below_drewN HBl.out _⟩
            case measure=>simp [intOf];omega
           ·have hex:((prev.extract 0 (x + 1)).toList == (key.extract 0 (x + 1)).toList) = false:=by
             rw [ByteArray.toList_eq,ByteArray.toList_eq,Lib.extract_data,Lib.extract_data,List.drop_zero,List.drop_zero,Nat.sub_zero,beq_eq_false_iff_ne]
             exact hxx
            have HF:=hid (show comL prev.data.toList key.data.toList = x from comL_of x _ _ (by rw [size_toList];exact hxp) (by rw [size_toList];exact hxk) HTk.out (.inr (.inr fun he=>hxx (by
             rw [List.take_add_one,List.take_add_one,HTk.out,he]))))
            clear hxx
            go_quiet (fail)
            go_wp2
            go_meet
            case rel=>exact ⟨q6,c6,by rw [HPS.out,← hN6.out],by rw [HSS.out,HF.out],by rw [HPS.out,← hN6.out];exact own_below Ho6.out (below_drewN HBl.out _),own_below Ho5.out (below_drewN HBl.out _),HBr.out.trans ((below_drewN HBl.out _).mono hbs)⟩
          ·have x2:decide ((x:Int) < (key.size:Int)) = false:=by simp;omega
           have HF:=hid (show comL prev.data.toList key.data.toList = x from comL_of x _ _ (by rw [size_toList];exact hxp) (by rw [size_toList];exact hxk) HTk.out (.inr (.inl (by rw [size_toList];omega))))
           go_quiet (fail)
           go_wp2
           go_meet
           case rel=>exact ⟨q6,c6,by rw [HPS.out,← hN6.out],by rw [HSS.out,HF.out],by rw [HPS.out,← hN6.out];exact own_below Ho6.out (below_drewN HBl.out _),own_below Ho5.out (below_drewN HBl.out _),HBr.out.trans ((below_drewN HBl.out _).mono hbs)⟩
         ·have x1:decide ((x:Int) < (prev.size:Int)) = false:=by simp;omega
          have HF:=hid (show comL prev.data.toList key.data.toList = x from comL_of x _ _ (by rw [size_toList];exact hxp) (by rw [size_toList];exact hxk) HTk.out (.inl (by rw [size_toList];omega)))
          go_quiet (fail)
          go_wp2
          go_meet
          case rel=>exact ⟨q6,c6,by rw [HPS.out,← hN6.out],by rw [HSS.out,HF.out],by rw [HPS.out,← hN6.out];exact own_below Ho6.out (below_drewN HBl.out _),own_below Ho5.out (below_drewN HBl.out _),HBr.out.trans ((below_drewN HBl.out _).mono hbs)⟩
      case rest =>
       obtain ⟨p6,d6,rfl,rfl,ho6,ho5,hb⟩:=hcut
       have HO6:=hid ho6
       have HO5:=hid ho5
       have HBc:=hid hb
       have hcs:=hb.size
       obtain ⟨N7,hN7⟩:∃ N,Hid (N = (plU l (j + 1)).length):=⟨_,hid rfl⟩
       rw [← hN7.out] at HO6 ⊢
       have h7l:N7 ≤ 25001:=by rw [hN7.out,plU_len];omega
       have Hcc:=hid (show ∀ W,Below wc.heap.size wc W → W.cell? ⟨bq,off + j * 2,none⟩ = some (.string key) ∧ W.cell? ⟨bq,off + j * 2 + 1,none⟩ = some (.string val) from fun W hb2=>by
        obtain ⟨b',off',e,_,c0',c1'⟩:=item_at (Hr.out.below (HBc.out.trans (hb2.mono hcs))) hkl
        cases e
        rw [← hkey.out] at c0'
        rw [← hval.out] at c1'
        exact ⟨c0',c1'⟩)
       clear ho6 ho5 hb Ho5 Ho6 HBr c0 c1
       have hvl:=(vput_len sh).2
       obtain ⟨L1,hL1⟩:∃ L,Hid (L = N5 + (vput sh).length):=⟨_,hid rfl⟩
       have hL1l:L1 ≤ 65546:=by rw [hL1.out];omega
       have HP1:=hid (ref_putv q5 N5 c5 sh (bUp l j) wc hN5.out.symm (by omega) (Fr.of_own HO5.out).rd (Fr.of_own HO5.out).nilc (by omega))
       rw [← hL1.out] at HP1
       go_wp2_with fail
       refine HP1.out.mono ?_
       rintro e w1 ⟨p1,d1,rfl,ho1,hb1⟩
       have HO1:=hid ho1
       have HB1:=hid hb1
       have hs1:=hb1.size
       obtain ⟨e0,e1⟩:=Hcc.out _ HB1.out
       clear ho1 hb1 HP1
       obtain ⟨key2,hkey2⟩:∃ x,Hid (x = key.extract sh key.size):=⟨_,hid rfl⟩
       have hk2:key2.size ≤ 100000:=by rw [hkey2.out,str_drop_size];omega
       have htl2:(tput key2.data.toList).length ≤ 100010:=by rw [tput_len,size_toList];have:=(vput_len key2.size).2;omega
       obtain ⟨L2,hL2⟩:∃ L,Hid (L = L1 + (tput key2.data.toList).length):=⟨_,hid rfl⟩
       have hL2l:L2 ≤ 165556:=by rw [hL2.out];omega
       have HP2:=hid (ref_ptext p1 L1 d1 (bUp l j ++ vput sh) key2 w1 (by omega) (by rw [List.length_append,← hN5.out,hL1.out]) (by omega) (Fr.of_own HO1.out).rd (Fr.of_own HO1.out).nilc)
       rw [← hL2.out] at HP2
       have hsi:(sh:Int) ≤ (key.size:Int):=by omega
       have hsi0:(0:Int) ≤ (sh:Int):=by omega
       go_wp2_with fail
       rw [← hkey2.out]
       refine HP2.out.mono ?_
       rintro e w2 ⟨p2,d2,rfl,ho2,hb2⟩
       have HO2:=hid ho2
       have HB2:=hid (HB1.out.trans (hb2.mono hs1))
       have hs2:=HB2.out.size
       obtain ⟨f0,f1⟩:=Hcc.out _ HB2.out
       clear ho2 hb2 HP2 e0 e1
       have htl3:(tput val.data.toList).length ≤ 100010:=by rw [tput_len,size_toList];have:=(vput_len val.size).2;omega
       obtain ⟨L3,hL3⟩:∃ L,Hid (L = L2 + (tput val.data.toList).length):=⟨_,hid rfl⟩
       have hL3l:L3 ≤ 265600:=by rw [hL3.out];omega
       have HP3:=hid (ref_ptext p2 L2 d2 (bUp l j ++ vput sh ++ tput key2.data.toList) val w2 (by omega) (by rw [List.length_append,List.length_append,← hN5.out,← hL1.out,hL2.out]) (by omega) (Fr.of_own HO2.out).rd (Fr.of_own HO2.out).nilc)
       rw [← hL3.out] at HP3
       go_wp2_with fail
       refine HP3.out.mono ?_
       rintro e w3 ⟨p3,d3,rfl,ho3,hb3⟩
       have HO3:=hid ho3
       have HB3:=hid (HB2.out.trans (hb3.mono hs2))
       clear ho3 hb3 HP3 f0 f1
       go_wp2
       go_roundw
       case rel =>
        have hbu:bUp l (j + 1) = bUp l j ++ vput sh ++ tput key2.data.toList ++ tput val.data.toList:=by
         rw [bUp_succ,itB,HKA.out,HVA.out,← hsh.out,hkey2.out,str_drop]
         simp only [List.append_assoc]
        have hll:(bUp l (j + 1)).length = L3:=by rw [hbu,List.length_append,List.length_append,List.length_append,← hN5.out,← hL1.out,← hL2.out,← hL3.out]
        refine ⟨j + 1,p3,p6,d3,d6,by omega,by go_num,by rw [hll],by rw [hN7.out],by rw [hll];exact hL3l, ?_,by rw [← hN7.out];exact own_below HO6.out HB3.out,HBc.out.trans (HB3.out.mono hcs)⟩
        rw [hll,hbu]
        exact own_lower HO3.out (by omega)
       case measure=>simp [intOf];omega
     ·go_upto_region 11 with (fail)
      go_cut [40] (fun v40 wc=>v40 = .bool false ∧ wc = wr)
      case first =>
       by_cases hlt:j < k
       ·have d0:decide ((j:Int) < (k:Int)) = true:=by simpa using hlt
        have hN:65536 < N5:=by omega
        have d1:decide ((N5:Int) ≤ 65536) = false:=by simp;omega
        go_wp2
        go_meet
        case rel=>exact ⟨rfl,rfl⟩
       ·have d0:decide ((j:Int) < (k:Int)) = false:=by simp;omega
        go_wp2
        go_meet
        case rel=>exact ⟨rfl,rfl⟩
      case rest =>
       obtain ⟨rfl,rfl⟩:=hcut
       go_wp2_with fail
       have HFm:=hid (fun (W:World) (x:Nat) (hx:x < 4294967296)=>ref_four10 x hx W)
       obtain ⟨P,hP⟩:∃ P,Hid (P = plU l j):=⟨_,hid rfl⟩
       obtain ⟨B,hB⟩:∃ P,Hid (P = bUp l j):=⟨_,hid rfl⟩
       rw [← hP.out] at Ho6
       rw [← hB.out] at Ho5
       have hPl:P.length = N6:=by rw [hP.out,← hN6.out]
       have hPx:∀ x ∈ P,x < 4294967296:=fun x hx=>by
        have:=plU_le l j x (by rw [← hP.out];exact hx)
        rw [← hN5.out] at this
        omega
       have HPl:=hid hPl
       have HPx:=hid hPx
       clear hPl hPx
       go_loopw [5,10] (fun v5 i wl=>∃ (x:Nat) (p5:Option Addr) (d5:Nat),x ≤ N6 ∧ i = .int .i64 (x:Int) ∧ v5 = .slice p5 (N5 + 4 * x) d5 ∧ wl.ownsRow w.heap.size 5 1 (.slice p5 (N5 + 4 * x) d5) (N5 + 4 * x) ((B ++ (P.take x).flatMap le4).map bv) ∧
        wl.ownsRow w.heap.size 23 1 (.slice q6 N6 c6) N6 (P.map uv) ∧ Below w.heap.size w wl) (fun _ i _=>N6 - (intOf i).toNat)
       case atStart=>exact ⟨0,q5,c5,Nat.zero_le _,rfl,rfl,by rw [List.take_zero];show wc.ownsRow _ _ _ _ _ ((B ++ []).map bv);rw [List.append_nil];exact Ho5.out,Ho6.out,HBr.out⟩
       case round =>
        obtain ⟨x,p5,d5,hx,rfl,rfl,ho5,ho6,hb⟩:=hrel
        have HO5:=hid ho5
        have HO6:=hid ho6
        have HBl:=hid hb
        have hls:=hb.size
        clear ho5 ho6 hb
        by_cases hlt:x < N6
        ·have hxP:x < P.length:=by rw [HPl.out];exact hlt
         obtain ⟨N,hN⟩:∃ N,Hid (N = P[x]):=⟨_,hid rfl⟩
         have hNl:=HPx.out _ (List.getElem_mem hxP)
         rw [← hN.out] at hNl
         obtain ⟨bu,ou,rfl,hcu⟩:=(Fr.of_own HO6.out).rd.cell (k:=x) (by rw [List.length_map];exact hxP)
         rw [List.getElem_map,← hN.out] at hcu
         unfold uv at hcu
         have x0:(0:Int) ≤ (x:Int):=by omega
         have x1:(x:Int) < (N6:Int):=by omega
         have d0:decide ((x:Int) < (N6:Int)) = true:=by simpa using hlt
         go_wp2_with fail
         refine (HFm.out _ N hNl).mono ?_
         rintro e w1 ⟨p,rfl,hr1,hb1⟩
         have HR1:=hid hr1
         have HO51:=hid (own_below HO5.out hb1)
         have HO61:=hid (own_below HO6.out hb1)
         have HB1:=hid (HBl.out.trans (hb1.mono hls))
         have hs1:=HB1.out.size
         clear hr1 hb1 hcu
         obtain ⟨M,hM⟩:∃ M,Hid (M = N5 + 4 * x):=⟨_,hid rfl⟩
         rw [← hM.out] at HO51 ⊢
         have hMl:M ≤ 400000:=by rw [hM.out];omega
         go_wp2_with (at_builtin;refine app22 rfl (.tmp 115) (.tmp 120) rfl w.heap.size p5 M d5 (B ++ (P.take x).flatMap le4) rfl HO51.out (some p) 4 4 (le4 N) rfl (fun h=>by cases h) rfl HR1.out (by omega) hs1 ?_;intro p6 d6 w2 g2;have G2:=hid g2;clear g2)
         go_roundw
         case rel =>
          refine ⟨x + 1,p6,d6,by omega,by go_num,by rw [show N5 + 4 * (x + 1) = M + 4 by rw [hM.out];omega], ?_,own_grewK HO61.out (by decide) HO51.out G2.out,HB1.out.trans G2.out.below⟩
          rw [show N5 + 4 * (x + 1) = M + 4 by rw [hM.out];omega,List.take_succ_eq_append_getElem hxP,List.flatMap_append,← List.append_assoc,← hN.out]
          have h:=G2.out.own
          simpa using h
         case measure=>simp [intOf];omega
        ·obtain rfl:x = N6:=by omega
         have d0:decide ((x:Int) < (x:Int)) = false:=by simp
         have hfl:(P.take x).flatMap le4 = pUp l j:=by rw [List.take_of_length_le (by rw [HPl.out];exact Nat.le_refl _),hP.out];exact plU_bytes l j
         rw [hfl] at HO5
         have hw:(x:Int) % 4294967296 = (x:Int):=by omega
         have hpl:(pUp l j).length = 4 * x:=by rw [pUp_len,hN6.out,plU_len]
         have hbl5:B.length = N5:=by rw [hB.out,← hN5.out]
         obtain ⟨M,hM⟩:∃ M,Hid (M = N5 + 4 * x):=⟨_,hid rfl⟩
         rw [← hM.out] at HO5 ⊢
         have hMl:M ≤ 400000:=by rw [hM.out];omega
         have HX:=hid (show (B ++ pUp l j).length = M by rw [List.length_append,hpl,hbl5,hM.out])
         obtain ⟨X,hX⟩:∃ X,Hid (X = B ++ pUp l j):=⟨_,hid rfl⟩
         rw [← hX.out] at HO5 HX
         have Hpl:=hid hpl
         have Hb5:=hid hbl5
         clear hfl hpl hbl5
         go_wp2_with fail
         refine (HFm.out _ x (by omega)).mono ?_
         rintro e w1 ⟨p,rfl,hr1,hb1⟩
         have HR1:=hid hr1
         have HO51:=hid (own_below HO5.out hb1)
         have HB1:=hid (HBl.out.trans (hb1.mono hls))
         have hs1:=HB1.out.size
         clear hr1 hb1
         go_wp2_with (at_builtin;refine app22 rfl (.tmp 122) (.tmp 126) rfl w.heap.size p5 M d5 X rfl HO51.out (some p) 4 4 (le4 x) rfl (fun h=>by cases h) rfl HR1.out (by omega) hs1 ?_;intro p6 d6 w2 g2;have hs2:=g2.below.size;have G2:=hid g2;clear g2)
         refine (ref_of p6 (M + 4) d6 (X ++ le4 x) w2 (by rw [List.length_append,HX.out];rfl) (by omega) G2.out.fr.rd).mono ?_
         rintro e w3 ⟨rfl,rfl⟩
         obtain ⟨S,hS⟩:∃ S,Hid (S = (crcMore 0 (X ++ le4 x)).toNat):=⟨_,hid rfl⟩
         have hSl:S < 4294967296:=by rw [hS.out];exact (crcMore 0 (X ++ le4 x)).isLt
         rw [← hS.out]
         go_wp2_with fail
         refine (HFm.out _ S hSl).mono ?_
         rintro e w4 ⟨p4,rfl,hr4,hb4⟩
         have HR4:=hid hr4
         have HO4:=hid (own_below G2.out.own hb4)
         have HB4:=hid (HB1.out.trans (G2.out.below.trans (hb4.mono (Nat.le_trans hs1 hs2))))
         have hs4:=HB4.out.size
         clear hr4 hb4
         obtain ⟨M4,hM4⟩:∃ m,Hid (m = M + 4):=⟨_,hid rfl⟩
         rw [← hM4.out] at HO4 ⊢
         have hM4l:M4 ≤ 400004:=by rw [hM4.out];omega
         go_upto_region 28 with (at_builtin;refine app22 rfl (.tmp 128) (.tmp 131) rfl w.heap.size p6 M4 d6 (X ++ le4 x) rfl HO4.out (some p4) 4 4 (le4 S) rfl (fun h=>by cases h) rfl HR4.out (by omega) hs4 ?_;intro p7 d7 w5 g5;have G5:=hid g5;clear g5)
         have HB5:=hid (HB4.out.trans G5.out.below)
         have hbA:j = k → bAll l = X ++ le4 x ++ le4 S:=fun h=>by
          subst h
          unfold bAll
          have hbb:bBody l = X ++ le4 x:=by
           unfold bBody
           rw [Hn.out,Hpl.out,Nat.mul_div_cancel_left _ (by decide),hX.out,hB.out]
          rw [hbb,← hS.out]
         have hbN:j < k → 65536 < (bAll l).length:=fun h=>by
          rw [bAll_len]
          have:=bUp_mono l (show j ≤ l.length by rw [Hn.out];omega)
          rw [← hN5.out] at this
          omega
         have hlA:(X ++ le4 x ++ le4 S).length = M4 + 4:=by rw [List.length_append,List.length_append,HX.out,hM4.out];rfl
         have HbA:=hid hbA
         have HbN:=hid hbN
         have HlA:=hid hlA
         clear hbA hbN hlA
         by_cases hbig:65536 < M4 + 4
         ·have hb':(65536:Int) < (M4:Int) + 4:=by omega
          go_wp2
          go_ret2
          refine ⟨HB5.out,.inr (.inl ⟨HRi.out, ?_,rfl⟩)⟩
          rcases Nat.lt_or_ge j k with h | h
          ·exact HbN.out h
          ·rw [HbA.out (by omega),HlA.out];exact hbig
         ·have hb':¬ (65536:Int) < (M4:Int) + 4:=by omega
          have hjk:j = k:=by
           rcases Nat.lt_or_ge j k with h | h
           ·have:=hM4.out;have:=hM.out;omega
           ·omega
          have HJ:=hid hjk
          clear hjk
          go_wp2
          go_ret2
          refine ⟨HB5.out,.inr (.inr ⟨HRi.out,by rw [HbA.out HJ.out,HlA.out];omega,p7,d7, ?_, ?_⟩)⟩
          ·rw [HbA.out HJ.out,HlA.out];rfl
          ·rw [HbA.out HJ.out,HlA.out];exact G5.out.fr
end Go.Proofs.Herb
namespace Go.Proofs.Herb
open Go.RowKit
noncomputable def mayT (line:Nat) (fs:List Fact):Bool:=open Classical in decide (GoodF line fs ∧ 0 < fs.length)
theorem mayT_iff {line:Nat} {fs:List Fact}:mayT line fs = true ↔ GoodF line fs ∧ 0 < fs.length:=by unfold mayT;simp
theorem mayT_not {line:Nat} {fs:List Fact} (h:¬ (GoodF line fs ∧ 0 < fs.length)):mayT line fs = false:=by
 cases e:mayT line fs with
 | false=>rfl
 | true=>exact absurd (mayT_iff.1 e) h
set_option maxRecDepth 100000 in
set_option maxHeartbeats 4000000 in
theorem ref_mayT (line:Nat) (q:Option Addr) (n c:Nat) (fs:List Fact) (w:World) (hn:fs.length = n) (hm:n ≤ 1000000) (hr:Rd w q (fCells fs)) :
  Calls Tryz.prog 74 #[.int .u64 (line:Int),.slice q n c] w fun e w'=>e = .returned (.bool (mayT line fs)) ∧ Below w.heap.size w w':=by
 have Hn:=hid hn
 have Hr:=hid hr
 clear hn hr
 obtain ⟨MT,hMT⟩:∃ b,Hid (b = mayT line fs):=⟨_,hid rfl⟩
 rw [← hMT.out]
 go_enter Tryz.func74,Tryz.ntmps74
 go_wp2_with fail
 go_loopw [5] (fun i wr=>∃ k:Nat,k ≤ n ∧ i = .int .i64 (k:Int) ∧ (∀ i,i < k → GoodAt line fs i) ∧ Below w.heap.size w wr) (fun i _=>n - (intOf i).toNat)
 case atStart=>exact ⟨0,Nat.zero_le _,rfl,fun i h=>by omega,Below.refl _ _⟩
 case round =>
  obtain ⟨k,hk,rfl,hgd,hB⟩:=hrel
  have Hgd:=hid hgd
  have HB:=hid hB
  have hbs:=hB.size
  clear hgd hB
  by_cases hlt:k < n
  ·have hkl:k < fs.length:=by rw [Hn.out];exact hlt
   obtain ⟨bq,off,rfl, -, -⟩:=fact_at (Hr.out.below HB.out) hkl
   obtain ⟨TD,D,hD1,hD2⟩:=class_d wr
   obtain ⟨x0,hx0⟩:=hD2 { wr with drawn:=wr.drawn + 1 } (Below.refl _ _).drew
   haveI:Nonempty TD:=⟨x0⟩
   have hcall:∀ {f:Nat} {vs:Array Value} {v:Value},(∀ w',Below wr.heap.size wr w' → Calls Tryz.prog f vs w' fun e w''=>e = .returned v ∧ Below w'.heap.size w' w'') → ∀ x,Calls Tryz.prog f vs (D x) fun e w''=>e = .returned v ∧ ∃ y,w'' = D y:=fun hf x=>calls_d hD1 hD2 hf x
   have hfa:∀ j,(h:j < fs.length) → ∀ x,FactAt (D x) bq (off + j * 6) fs[j]:=fun j h x=>by
    obtain ⟨b',off',e,_,h'⟩:=fact_at (Hr.out.below (HB.out.trans ((hD1 x).mono hbs))) h
    cases e
    exact h'
   obtain ⟨f,hf⟩:∃ f,f = fs[k]:=⟨_,rfl⟩
   have hfk:=hfa k hkl
   rw [← hf] at hfk
   have HFA:=hid hfa
   have Hf:=hid hf
   obtain ⟨mf,hmf⟩:∃ b,b = mayF f:=⟨_,rfl⟩
   have HMy:Hid (∀ x,Calls Tryz.prog 71 #[.agg f.cells.toArray] (D x) fun e w''=>e = .returned (.bool mf) ∧ ∃ y,w'' = D y):=hid (hcall fun w' hb=>by rw [hmf];exact ref_may f w')
   have Hmf:=hid hmf
   have hbad:∀ h:¬ GoodAt line fs k,MT = false:=fun h=>by rw [hMT.out];exact mayT_not fun hg=>h (hg.1 k hkl)
   have HBad:=hid hbad
   have HD1:=hid hD1
   have HBf:Hid (∀ g x,Calls Tryz.prog 109 #[.agg (Fact.cells g).toArray,.agg f.cells.toArray] (D x) fun e w''=>e = .returned (.bool (befF g f)) ∧ ∃ y,w'' = D y):=hid fun g=>hcall fun w' hb=>ref_before g f w'
   clear hf hfa hmf hbad hcall hD1 hD2
   obtain ⟨key,valid,seq,fl,kind,val⟩:=f
   unfold Fact.cells at HMy HBf
   dsimp only at HMy HBf
   have z0:=fun x=>(hfk x).c0
   have z1:=fun x=>(hfk x).c1
   have z2:=fun x=>(hfk x).c2
   have z3:=fun x=>(hfk x).c3
   have z4:=fun x=>(hfk x).c4
   have z5:=fun x=>(hfk x).c5
   dsimp only at z0 z1 z2 z3 z4 z5
   clear hfk
   have i0:(0:Int) ≤ (k:Int):=by omega
   have i1:(k:Int) < (n:Int):=by omega
   by_cases c1:mf = true
   ·subst c1
    have Hm1:mayF fs[k] = true:=by rw [← Hf.out];exact Hmf.out.symm
    have HM1:=hid Hm1
    clear Hm1
    by_cases c2:val.size ≤ 256
    ·have b2:decide ((256:Int) < (val.size:Int)) = false:=by simp;omega
     have HV:=hid (show fs[k].val.size ≤ 256 by rw [← Hf.out];exact c2)
     by_cases c3:fl = line
     ·have b3:((fl:Int) != (line:Int)) = false:=by simp [c3]
      have HL:=hid (show fs[k].line = line by rw [← Hf.out];exact c3)
      clear c3 c2
      by_cases c4:k = 0
      ·have b4:decide ((0:Int) < (k:Int)) = false:=by simp;omega
       have b4':decide (0 < k) = false:=by simp;omega
       have HGood:=hid (show GoodAt line fs k from ⟨hkl,HM1.out,HL.out,HV.out,fun j hj=>by omega⟩)
       clear c4
       go_upto_region 4 with (fail)
       refine region_quiet_d (D:=D) (by kernel_rfl) (by kernel_rfl) x0 hx0 ?_
       repeat (go_big_quiet_step ((go_at_call 71;with_reducible exact HMy.out _)))
       refine wpQuiet_nil ?_
       intro x
       go_wp2
       go_roundw
       case rel =>
        refine ⟨k + 1,by omega,by go_num,fun i hi => ?_,HB.out.trans ((HD1.out x).mono hbs)⟩
        by_cases e:i = k
        ·subst e;exact HGood.out
        ·exact Hgd.out i (by omega)
       case measure=>simp [intOf];omega
      ·have b4:decide ((0:Int) < (k:Int)) = true:=by simp;omega
       have b4':decide (0 < k) = true:=by simp;omega
       obtain ⟨j,hj⟩:∃ j,Hid (j + 1 = k):=⟨k - 1,hid (by omega)⟩
       have hjl:j < fs.length:=by have:=hj.out;omega
       have s1:IntKind.i64.wrap ((k:Int) - 1) = (j:Int):=by have:=hj.out;rw [IntWalk.i64_in _ (by omega)];omega
       have j0:(0:Int) ≤ (j:Int):=by omega
       have j1:(j:Int) < (n:Int):=by have:=hj.out;omega
       obtain ⟨g,hg⟩:∃ g,g = fs[j]:=⟨_,rfl⟩
       have hgk:=HFA.out j hjl
       rw [← hg] at hgk
       have Hg:=hid hg
       obtain ⟨bf,hbf⟩:∃ b,b = befF g ⟨key,valid,seq,fl,kind,val⟩:=⟨_,rfl⟩
       have HBg:=hid (HBf.out g)
       rw [← hbf] at HBg
       have Hbf:=hid hbf
       clear hg hbf c4
       obtain ⟨gk,gv,gs,gl,gd,gx⟩:=g
       dsimp only [Fact.cells] at HBg
       have y0:=fun x=>(hgk x).c0
       have y1:=fun x=>(hgk x).c1
       have y2:=fun x=>(hgk x).c2
       have y3:=fun x=>(hgk x).c3
       have y4:=fun x=>(hgk x).c4
       have y5:=fun x=>(hgk x).c5
       dsimp only at y0 y1 y2 y3 y4 y5
       clear hgk
       by_cases c5:bf = true
       ·subst c5
        have HGood:=hid (show GoodAt line fs k from ⟨hkl,HM1.out,HL.out,HV.out,fun i hi=>by
         have:=hj.out
         obtain rfl:i = j:=by omega
         rw [← Hg.out,← Hf.out]
         exact (befF_cmp _ _).1 Hbf.out.symm⟩)
        go_upto_region 4 with (fail)
        refine region_quiet_d (D:=D) (by kernel_rfl) (by kernel_rfl) x0 hx0 ?_
        repeat (go_big_quiet_step (first | (go_at_call 71;with_reducible exact HMy.out _) | (go_at_call 109;with_reducible exact HBg.out _)))
        refine wpQuiet_nil ?_
        intro x
        go_wp2
        go_roundw
        case rel =>
         refine ⟨k + 1,by omega,by go_num,fun i hi => ?_,HB.out.trans ((HD1.out x).mono hbs)⟩
         by_cases e:i = k
         ·subst e;exact HGood.out
         ·exact Hgd.out i (by omega)
        case measure=>simp [intOf];omega
       ·obtain rfl:bf = false:=by simpa using c5
        have HNo:=hid (show ¬ GoodAt line fs k from fun ⟨_,_,_,_,h⟩=>by
         have h1:=(befF_cmp _ _).2 (h j hj.out)
         rw [← Hg.out,← Hf.out,← Hbf.out] at h1
         cases h1)
        clear c5
        go_upto_region 4 with (fail)
        refine region_quiet_d (D:=D) (by kernel_rfl) (by kernel_rfl) x0 hx0 ?_
        repeat (go_big_quiet_step (first | (go_at_call 71;with_reducible exact HMy.out _) | (go_at_call 109;with_reducible exact HBg.out _)))
        refine wpQuiet_nil ?_
        intro x
        go_wp2
        go_ret
        exact ⟨by rw [HBad.out HNo.out];rfl,HB.out.trans ((HD1.out x).mono hbs)⟩
     ·have b3:((fl:Int) != (line:Int)) = true:=by simp;omega
      have HNo:=hid (show ¬ GoodAt line fs k from fun ⟨_,_,h,_,_⟩=>by rw [← Hf.out] at h;exact c3 h)
      clear c3 c2
      go_upto_region 4 with (fail)
      refine region_quiet_d (D:=D) (by kernel_rfl) (by kernel_rfl) x0 hx0 ?_
      repeat (go_big_quiet_step ((go_at_call 71;with_reducible exact HMy.out _)))
      refine wpQuiet_nil ?_
      intro x
      go_wp2
      go_ret
      exact ⟨by rw [HBad.out HNo.out];rfl,HB.out.trans ((HD1.out x).mono hbs)⟩
    ·have b2:decide ((256:Int) < (val.size:Int)) = true:=by simp;omega
     have HNo:=hid (show ¬ GoodAt line fs k from fun ⟨_,_,_,h,_⟩=>by rw [← Hf.out] at h;exact c2 h)
     clear c2
     go_upto_region 4 with (fail)
     refine region_quiet_d (D:=D) (by kernel_rfl) (by kernel_rfl) x0 hx0 ?_
     repeat (go_big_quiet_step ((go_at_call 71;with_reducible exact HMy.out _)))
     refine wpQuiet_nil ?_
     intro x
     go_wp2
     go_ret
     exact ⟨by rw [HBad.out HNo.out];rfl,HB.out.trans ((HD1.out x).mono hbs)⟩
   ·obtain rfl:mf = false:=by simpa using c1
    have HNo:=hid (show ¬ GoodAt line fs k from fun ⟨_,h,_⟩=>by rw [← Hf.out,← Hmf.out] at h;cases h)
    clear c1
    go_upto_region 4 with (fail)
    refine region_quiet_d (D:=D) (by kernel_rfl) (by kernel_rfl) x0 hx0 ?_
    repeat (go_big_quiet_step ((go_at_call 71;with_reducible exact HMy.out _)))
    refine wpQuiet_nil ?_
    intro x
    go_wp2
    go_ret
    exact ⟨by rw [HBad.out HNo.out];rfl,HB.out.trans ((HD1.out x).mono hbs)⟩
  ·obtain rfl:k = n:=by omega
   have HG:=hid (show GoodF line fs from fun i hi=>Hgd.out i (by rw [← Hn.out];exact hi))
   by_cases c0:0 < k
   ·have b0:decide (0 < k) = true:=by simp;omega
    have HT:=hid (show MT = true by rw [hMT.out];exact mayT_iff.2 ⟨HG.out,by rw [Hn.out];exact c0⟩)
    clear c0
    go_wp2
    go_ret
    exact ⟨by rw [HT.out];rfl,HB.out⟩
   ·have b0:decide (0 < k) = false:=by simp;omega
    have HT:=hid (show MT = false by rw [hMT.out];exact mayT_not fun h=>c0 (by rw [← Hn.out];exact h.2))
    clear c0
    go_wp2
    go_ret
    exact ⟨by rw [HT.out];rfl,HB.out⟩
end Go.Proofs.Herb
