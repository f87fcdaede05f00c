/- When two facts are other ones, as the program compares them. No condition. The contract of the laws' SameFacts. For facts that can be read. -/
import Derived.Laws.StructEq
import Derived.Test.YtbaohpnfiacchaaGreatDoorQb01
namespace Go.Proofs.Herb
open Go.RowKit
theorem toList_inj {a b:ByteArray}:a.toList = b.toList ↔ a = b:=by
 rw [ByteArray.toList_eq,ByteArray.toList_eq]
 exact ⟨fun h=>by cases a;cases b;simp only [ByteArray.mk.injEq];exact Array.toList_inj.1 h,fun h=>by rw [h]⟩
theorem neq_same (f:Fact) (w:World):(binOp .neq 27 (.agg f.cells.toArray) (.agg f.cells.toArray)).run Tryz.prog w = .ok (.bool false) w:=by
 unfold Fact.cells
 go_simp
theorem neq_other {f g:Fact} (h:f ≠ g) (w:World):(binOp .neq 27 (.agg f.cells.toArray) (.agg g.cells.toArray)).run Tryz.prog w = .ok (.bool true) w:=by
 obtain ⟨a0,a1,a2,a3,a4,a5⟩:=f
 obtain ⟨b0,b1,b2,b3,b4,b5⟩:=g
 unfold Fact.cells
 dsimp only
 go_simp
 simp only [toList_inj,Int.natCast_inj]
 by_cases h0:a0 = b0
 ·by_cases h1:a1 = b1
  ·by_cases h2:a2 = b2
   ·by_cases h3:a3 = b3
    ·by_cases h4:a4 = b4
     ·by_cases h5:a5 = b5
      ·exact absurd (by rw [h0,h1,h2,h3,h4,h5]) h
      ·simp [h0,h1,h2,h3,h4,h5]
     ·simp [h0,h1,h2,h3,h4]
    ·simp [h0,h1,h2,h3]
   ·simp [h0,h1,h2]
  ·simp [h0,h1]
 ·simp [h0]
end Go.Proofs.Herb
namespace Go.Proofs.Herb
open Go.RowKit
set_option maxRecDepth 100000 in
set_option maxHeartbeats 1000000 in
theorem equal_facts (a b:Option Addr) (n c m d:Nat) (l k:List Fact) (w:World) (hn:l.length = n) (hm:k.length = m) (_hn':n ≤ 4611686018427387904) (_hm':m ≤ 4611686018427387904) (hr:Rd w a (fCells l)) (hs:Rd w b (fCells k)) :
  Calls Tryz.prog 38 #[.slice a n c,.slice b m d] w fun e w'=>∃ x:Bool,e = .returned (.bool x) ∧ (x = true ↔ l = k) ∧ Below w.heap.size w w':=by
 have Hn:=hid hn
 have Hm:=hid hm
 have Hr:=hid hr
 have Hs:=hid hs
 clear hn hr hm hs
 go_enter Tryz.func38,Tryz.ntmps38
 go_wp2
 go_loopw [5] (fun i wr=>∃ j:Nat,j ≤ n ∧ j ≤ m ∧ i = .int .i64 j ∧ l.take j = k.take j ∧ Below w.heap.size w wr)
  (fun i _=>n - (intOf i).toNat)
 case atStart=>exact ⟨0,by omega,by omega,rfl,rfl,Below.refl _ _⟩
 case round =>
  obtain ⟨j,hj1,hj2,rfl,he,hb⟩:=hrel
  have He:=hid he
  have Hb:=hid hb
  clear he hb
  by_cases hjn:j < n
  ·by_cases hjm:j < m
   ·have hjl:j < l.length:=by rw [Hn.out];exact hjn
    have hjk:j < k.length:=by rw [Hm.out];exact hjm
    obtain ⟨b1,o1,rfl,_,hc1⟩:=fact_at (Hr.out.below Hb.out) hjl
    obtain ⟨b2,o2,rfl,_,hc2⟩:=fact_at (Hs.out.below Hb.out) hjk
    have i1:(0:Int) ≤ (j:Int):=by omega
    have i2:(j:Int) < (n:Int):=by omega
    have i3:(j:Int) < (m:Int):=by omega
    obtain ⟨f,hp⟩:∃ p,p = l[j]:=⟨_,rfl⟩
    obtain ⟨g,hq⟩:∃ q,q = k[j]:=⟨_,rfl⟩
    rw [← hp] at hc1
    rw [← hq] at hc2
    have Hp:=hid hp
    have Hq:=hid hq
    obtain ⟨x0,x1,x2,x3,x4,x5⟩:=hc1
    obtain ⟨y0,y1,y2,y3,y4,y5⟩:=hc2
    clear hp hq
    by_cases hpq:f = g
    ·subst hpq
     have hbb:=neq_same f
     unfold Fact.cells at hbb
     go_upto_region 4 with (fail)
     go_quiet (fail)
     go_wp2
     go_roundw
     case rel =>
      refine ⟨j + 1,by omega,by omega,by go_num, ?_,below_drewN Hb.out _⟩
      rw [List.take_succ_eq_append_getElem hjl,List.take_succ_eq_append_getElem hjk,He.out,← Hp.out,← Hq.out]
     case measure=>simp [intOf];omega
    ·have hbb:=neq_other hpq
     unfold Fact.cells at hbb
     go_upto_region 4 with (fail)
     go_quiet (fail)
     go_wp2
     go_ret
     refine ⟨false,rfl,⟨fun h=>(by cases h),fun h => ?_⟩,below_drewN Hb.out _⟩
     subst h
     exact absurd (Hp.out.trans Hq.out.symm) hpq
   ·go_wp2
    go_ret
    refine ⟨_,rfl, ?_,Hb.out⟩
    have h1:=Hn.out
    have h2:=Hm.out
    rw [beq_iff_eq]
    constructor
    ·intro h
     have:=He.out
     rw [List.take_of_length_le (by omega),List.take_of_length_le (by omega)] at this
     exact this
    ·intro h;rw [← h1,← h2,h]
  ·go_wp2
   go_ret
   refine ⟨_,rfl, ?_,Hb.out⟩
   have h1:=Hn.out
   have h2:=Hm.out
   rw [beq_iff_eq]
   constructor
   ·intro h
    have:=He.out
    rw [List.take_of_length_le (by omega),List.take_of_length_le (by omega)] at this
    exact this
   ·intro h;rw [← h1,← h2,h]
theorem same_facts (a b:Option Addr) (n c m d:Nat) (l k:List Fact) (w:World) (hn:l.length = n) (hm:k.length = m) (hn':n ≤ 4611686018427387904) (hm':m ≤ 4611686018427387904) (hr:Rd w a (fCells l)) (hs:Rd w b (fCells k)) :
  Calls Tryz.prog 13 #[.slice a n c,.slice b m d] w fun e w'=>∃ x:Bool,e = .returned (.bool x) ∧ (x = true ↔ l = k) ∧ Below w.heap.size w w':=by
 have HE:=hid (equal_facts a b n c m d l k w hn hm hn' hm' hr hs)
 clear hn hm hn' hm' hr hs
 go_enter Tryz.func13,Tryz.ntmps13
 go_wp2_with fail
 refine HE.out.mono ?_
 rintro e w' ⟨x,rfl,hx,hb⟩
 have HX:=hid hx
 have HB:=hid hb
 clear hx hb
 go_wp2
 go_ret
 exact ⟨x,rfl,HX.out,HB.out⟩
end Go.Proofs.Herb
