/- The contract of blooms.Has. For bytes that can be read. -/
import Derived.Test.YtbaohpnfiacchaaGreatDoorQb05
import Derived.Test.YtbaohpnfiacchaaGreatDoorQb09
namespace Go.Proofs.Herb
open Go.RowKit
attribute [local go_sem] Oper.semAt_some
def bitAt (fb:List UInt8) (a:Nat):Bool:=((fb[a / 8]?).getD 0).toNat / 2 ^ (a % 8) % 2 == 1
def hasF (fb key:List UInt8):Bool:=if fb.length ≤ 8 ∨ (fb[fb.length - 1]?).getD 0 ≠ 6 then true else (placesF key (8 * (fb.length - 1))).all (bitAt fb)
structure HasI (w:World) (b2 b4 b:Nat) (off m c:Nat) (fb:List UInt8) (pre:List Nat) (W:World):Prop where
 bx:Boxed W b2 22 (.slice (some ⟨b,off,none⟩) m c)
 rs:Boxed W b4 4 (.bool false)
 rd:Rd W (some ⟨b,off,none⟩) (fb.map bv)
 below:Below w.heap.size w W
 set:∀ a ∈ pre,bitAt fb a = true
theorem HasI.stays (w:World) (b2 b4 b off m c:Nat) (fb:List UInt8) (pre:List Nat):Stays (HasI w b2 b4 b off m c fb pre):=by
 rintro A B ⟨h1,h2,h3,h4,h5⟩ hb
 exact ⟨(hb.block _ h1.lt).trans h1,(hb.block _ h2.lt).trans h2,h3.below hb,h4.trans (hb.mono h4.size),h5⟩
theorem HasI.only (w:World) (b2 b4 b off m c:Nat) (fb:List UInt8) (pre:List Nat) (A B:World) (h:HasI w b2 b4 b off m c fb pre A) (hr:Only (fun _=>False) A B):HasI w b2 b4 b off m c fb pre B :=
 HasI.stays _ _ _ _ _ _ _ _ _ _ _ h (hr.below (Nat.le_refl _) (fun _ _=>id))
theorem HasI.turns (w:World) (b2 b4 b off m c b0:Nat) (fb:List UInt8) (hw:w.heap.size ≤ b0) (hb:b < b0) (pre:List Nat):Turns b0 (HasI w b2 b4 b off m c fb pre):=by
 rintro W l o o' ⟨h1,h2,h3,h4,h5⟩ hl ho hc
 exact ⟨boxed_putObj h1 o' ho hc,boxed_putObj h2 o' ho hc,rd_keep h3 (KeepB.putObj W l o o' (by omega)),below_putObj h4 (by omega) o' ho,h5⟩
def HasX (w:World) (b4 N:Nat) (fb key:List UInt8) (c:Code) (W:World):Prop:=c = .ret ∧ Boxed W b4 4 (.bool false) ∧ Below w.heap.size w W ∧ (placesF key (8 * N)).all (bitAt fb) = false
theorem bit_form (y:UInt8) (r:Nat):bits .and .u8 (((y.toNat / 2 ^ r:Nat):Int)) 1 = ((y.toNat / 2 ^ r % 2:Nat):Int):=by
 rw [show (1:Int) = ((1:Nat):Int) from rfl,u8_and_nat _ _ (Nat.lt_of_le_of_lt (Nat.div_le_self _ _) y.toNat_lt) (by decide),Nat.and_one_is_mod]
theorem has_results {tmps:Array Value} {w:World} {B:Nat} {v:Value} (h4:tmps.getD 4 undef = .pointer (some ⟨B,0,none⟩)) (g4:Boxed w B 4 v):(results Tryz.f41 tmps).run Tryz.prog w = .ok v w:=by
 have c4:=g4.cell
 have hr:(Tryz.f41).results = #[.cell 4 4]:=rfl
 have e4:(loadVar 4 ⟨B,0,none⟩).run Tryz.prog w = .ok v w:=by go_simp
 simp [results,asAddr] at h4 ⊢
 simp [h4,e4]
set_option maxRecDepth 100000 in
set_option maxHeartbeats 4000000 in
theorem has_any (q:Option Addr) (m c:Nat) (fb:List UInt8) (key:ByteArray) (w:World) (hm:fb.length = m) (hml:m ≤ 100000) (hk:key.size ≤ 1000000) (hr:Rd w q (fb.map bv)) :
  Calls Tryz.prog 41 #[.slice q m c,.string key] w fun e w'=>e = .returned (.bool (hasF fb key.data.toList)) ∧ Below w.heap.size w w':=by
 refine (callsIn_wide (n:=3)).1 (callsIn_of_wp_marks Tryz.func41 rfl trivial ?_ rfl)
 refine wpIn_wide.2 ?_
 simp only [Tryz.ntmps41,List.size_toArray,List.length_cons,List.length_nil,Nat.reduceAdd,Nat.reduceSub,Array.replicate_succ,Array.replicate_zero,List.push_toArray,List.append_toArray,List.nil_append,List.cons_append]
 have Hm:=hid hm
 have Hr:=hid hr
 clear hm hr
 by_cases h8:m ≤ 8
 ·have hh:hasF fb key.data.toList = true:=by unfold hasF;rw [if_pos (.inl (by rw [Hm.out];exact h8))]
  rw [hh]
  clear hh
  have d0:decide ((m:Int) ≤ 8) = true:=by simp;omega
  go_wp2_with fail
  refine leaves_marks (base:=w.heap.size) [] _ trivial (fun w' hs => ?_)
  obtain ⟨W,hW⟩:∃ x,x = ((w.alloc (.cells #[.slice q m c] 22)).alloc (.cells #[.bool true] 4)):=⟨_,rfl⟩
  rw [← hW] at hs
  have hx:Boxed W (w.heap.size + 1) 4 (.bool true):=by
   rw [hW]
   have h:=Boxed.new (w.alloc (.cells #[.slice q m c] 22)) 4 (.bool true)
   rw [World.size_alloc] at h
   exact h
  have hb:Below w.heap.size w W:=by
   rw [hW]
   exact ((Below.refl _ _).alloc (Nat.le_refl _) _).alloc (by simp) _
  have hx':Boxed w' (w.heap.size + 1) 4 (.bool true):=hs.cells _ _ _ _ hx
  exact ⟨_,has_results rfl hx',rfl,hb.trans (hs.below _ (Nat.le_refl _))⟩
 ·have d0:decide ((m:Int) ≤ 8) = false:=by simp;omega
  obtain ⟨N,hN⟩:∃ N,m = N + 1:=⟨m - 1,by omega⟩
  subst hN
  obtain ⟨b,off,rfl,hbl,hcl⟩:=Hr.out.cellB (Below.refl _ w) (k:=N) (by rw [List.length_map,Hm.out];omega)
  rw [List.getElem_map] at hcl
  obtain ⟨y,hy⟩:∃ y,y = fb[N]'(by rw [Hm.out];omega):=⟨_,rfl⟩
  rw [← hy] at hcl
  unfold bv at hcl
  have hy2:(fb[fb.length - 1]?).getD 0 = y:=by
   rw [Hm.out,Nat.add_sub_cancel,List.getElem?_eq_getElem (by rw [Hm.out];omega),hy];rfl
  have Hy:=hid hy2
  have s0:IntKind.i64.wrap (((N + 1:Nat):Int) - 1) = (N:Int):=by rw [IntWalk.i64_in _ (by omega)];omega
  have i0:(0:Int) ≤ (N:Int):=by omega
  have i1:(N:Int) < ((N + 1:Nat):Int):=by omega
  clear hy hy2
  by_cases hy6:y = 6
  ·have hh:hasF fb key.data.toList = (placesF key.data.toList (8 * N)).all (bitAt fb):=by
    unfold hasF
    rw [if_neg (by rw [Hy.out,hy6,Hm.out];simp;omega),Hm.out,Nat.add_sub_cancel]
   have HH:=hid hh
   have b1:(((y.toNat:Nat):Int) != 6) = false:=by rw [hy6];rfl
   clear hh hy6
   go_wp2_with (go_at_call 84;refine (places_any _ _ _).mono ?_;rintro e w4 ⟨rfl,rfl⟩)
   obtain ⟨b2,hb2⟩:∃ x,x = w.heap.size:=⟨_,rfl⟩
   obtain ⟨b4,hb4⟩:∃ x,x = w.heap.size + 1:=⟨_,rfl⟩
   obtain ⟨B1,hB1⟩:∃ x,x = w.heap.size + 2:=⟨_,rfl⟩
   obtain ⟨B2,hB2⟩:∃ x,x = w.heap.size + 3:=⟨_,rfl⟩
   obtain ⟨w3,hw3⟩:∃ x,x = (w.alloc (.cells #[.slice (some ⟨b,off,none⟩) (N + 1) c] 22)).alloc (.cells #[.bool false] 4):=⟨_,rfl⟩
   have h3s:w3.heap.size = w.heap.size + 2:=by rw [hw3];simp
   have hbx:Boxed w3 b2 22 (.slice (some ⟨b,off,none⟩) (N + 1) c):=by rw [hw3,hb2];exact (Boxed.new _ _ _).alloc _
   have hrs:Boxed w3 b4 4 (.bool false):=by
    rw [hw3,hb4]
    have h:=Boxed.new (w.alloc (.cells #[.slice (some ⟨b,off,none⟩) (N + 1) c] 22)) 4 (.bool false)
    rw [World.size_alloc] at h
    exact h
   have hb3:Below w.heap.size w w3:=by rw [hw3];exact ((Below.refl _ _).alloc (Nat.le_refl _) _).alloc (by simp) _
   obtain ⟨w4,hw4⟩:∃ x,x = (w3.alloc (.cells #[.string key] 9)).alloc (.cells #[.int .i64 (8 * (N:Int))] 3):=⟨_,rfl⟩
   have hb4':Below w3.heap.size w3 w4:=by rw [hw4];exact ((Below.refl _ _).alloc (Nat.le_refl _) _).alloc (by simp) _
   have hx1:Boxed w4 B1 9 (.string key):=by rw [hw4,hB1,← h3s];exact (Boxed.new _ _ _).alloc _
   have hx2:Boxed w4 B2 3 (.int .i64 ((8 * N:Nat):Int)):=by
    rw [hw4,hB2]
    have h:=Boxed.new (w3.alloc (.cells #[.string key] 9)) 3 (.int .i64 (8 * (N:Int)))
    rw [World.size_alloc,h3s] at h
    rw [show ((8 * N:Nat):Int) = 8 * (N:Int) by omega];exact h
   have hs4:w4.heap.size = w.heap.size + 4:=by rw [hw4];simp [h3s]
   rw [hw3] at hw4
   rw [← hw4,show w.heap.size + 1 + 1 = B1 by omega,show B1 + 1 = B2 by omega,← hb4,← hb2]
   have hI4:HasI w b2 b4 b off (N + 1) c fb [] w4:=HasI.stays _ _ _ _ _ _ _ _ _ _ _ ⟨hbx,hrs,Hr.out.below hb3,hb3,fun a ha=>by cases ha⟩ hb4'
   have HX1:=hid hx1
   have HX2:=hid hx2
   have HI4:=hid hI4
   have hw4s:w.heap.size ≤ w4.heap.size:=by omega
   have hB2lt:B2 < w4.heap.size:=by omega
   have hbw:b < w4.heap.size:=by omega
   have HBb:=hid (show w.heap.size ≤ b4 by omega)
   clear hw3 hw4 hbx hrs hb3 hb4' hx1 hx2 hI4 hB1 hB2 hb2 hb4 h3s
   refine wpIn_wide.1 (wpIn_range_stop (n:=3) rfl (by omega) (gf:=114) (lb := #[.pointer (some ⟨B1,0,none⟩),.pointer (some ⟨B2,0,none⟩)]) rfl trivial (enters_of Tryz.func114 (by kernel_rfl) rfl)
    (fun _=>rfl) (places1_in 2 B1 B2 w4.heap.size (8 * N) (by omega) key hk (by omega) (by omega)) (Nat.le_refl _) (fun W hb=>⟨(hb.block _ HX1.out.lt).trans HX1.out,(hb.block _ HX2.out.lt).trans HX2.out⟩) KeepB.trans (fun W l o o' hl _ _=>KeepB.putObj W l o o' (by omega))
    (fun A B h=>h.keeps _) (HasI w b2 b4 b off (N + 1) c fb) (fun c' _ W=>HasX w b4 N fb key.data.toList c' W) (HasI.stays _ _ _ _ _ _ _ _) (HasI.only _ _ _ _ _ _ _ _) ?xr (HasI.turns _ _ _ _ _ _ _ _ _ hw4s hbw) ?xt (fun _ _ _ _ _ _ h _ _ _=>h)
    HI4.out ?a1 ?assign ?body ?done ?stop)
   case xr =>
    rintro c' s A W ⟨rfl,h1,h2,h3⟩ hr
    have hb:Below A.heap.size A W:=hr.below (Nat.le_refl _) (fun _ _=>id)
    exact ⟨rfl,(hb.block _ h1.lt).trans h1,h2.trans (hb.mono h2.size),h3⟩
   case xt =>
    rintro c' s W g o o' ⟨rfl,h1,h2,h3⟩ hg ho hc
    exact ⟨rfl,boxed_putObj h1 o' ho hc,below_putObj h2 (by omega) o' ho,h3⟩
   case assign =>
    intro g x W K hK
    gi_wp2
    exact hK
   case stop =>
    rintro D c' pre W hD ⟨rfl,h1,h2,h3⟩ hD0
    refine wpIn_wide.2 ?_
    go_wp2
    refine leaves_marks (base:=w.heap.size) _ _ ⟨⟨D,rfl,by omega,hD0,fun d hd=>by cases hd⟩,trivial⟩ (fun w' hs => ?_)
    rw [HH.out,h3]
    have h1':Boxed w' b4 4 (.bool false):=hs.cells _ _ _ _ h1
    exact ⟨_,has_results rfl h1',rfl,h2.trans (hs.below _ (Nat.le_refl _))⟩
   case done =>
    intro D xs W hD hxs hW hD0
    subst hxs
    have hres:hasF fb key.data.toList = true:=by rw [HH.out,List.all_eq_true];exact hW.set
    have HRes:=hid hres
    have c4:=hW.rs.cell
    have f4:=hW.rs.frozen
    have HW:=hid hW
    have HD0:=hid hD0
    clear hW hres hD0
    go_wp2
    have hn:∀ k:Nat,k ≠ b4 → (W.setCell ⟨b4,0,none⟩ (.bool true)).heap[k]? = W.heap[k]?:=fun k hk=>heap_setCell_other _ _ _ _ hk
    have hDb:D ≠ b4:=fun e=>by subst e;have h:=HD0.out;rw [show W.heap[D]? = _ from HW.out.rs] at h;cases h
    refine leaves_marks (base:=w.heap.size) _ _ ⟨⟨D,rfl,by omega,(hn D hDb).trans HD0.out,fun d hd=>by cases hd⟩,trivial⟩ (fun w' hs => ?_)
    have hx:=HW.out.rs.set (.bool true)
    have hx':Boxed w' b4 4 (.bool true):=hs.cells _ _ _ _ hx
    exact ⟨_,has_results rfl hx',by rw [HRes.out],(HW.out.below.setCell (p:=⟨b4,0,none⟩) (by show w.heap.size ≤ b4;have:=HBb.out;omega) _).trans (hs.below _ (Nat.le_refl _))⟩
   case body =>
    rintro l pre x W hl hI ⟨hx8,rest,hrest⟩
    have hxf:x / 8 < fb.length:=by rw [Hm.out];omega
    obtain ⟨z,hz⟩:∃ z,z = fb[x / 8]:=⟨_,rfl⟩
    obtain ⟨D,hD⟩:∃ D,D = x / 8:=⟨_,rfl⟩
    have cX:=hI.bx.cell
    have c4:=hI.rs.cell
    have f4:=hI.rs.frozen
    have cG:W.cell? ⟨b,off + D,none⟩ = some (.int .u8 (z.toNat:Int)):=by
     obtain ⟨b',o',e,hc⟩:=hI.rd.cell (k:=x / 8) (by rw [List.length_map];exact hxf)
     cases e
     rw [List.getElem_map,← hz,← hD] at hc
     exact hc
    have e1:(x:Int) / 8 = (D:Int):=by omega
    have j0:(0:Int) ≤ (D:Int):=by omega
    have j1:(D:Int) < (N:Int) + 1:=by omega
    have s1:IntKind.i64.wrap (D:Int) = (D:Int):=IntWalk.i64_in _ (by omega)
    obtain ⟨r,hr⟩:∃ r,r = x % 8:=⟨_,rfl⟩
    have hr8:r < 8:=by omega
    have s2:(x:Int).tmod 8 = (r:Int):=by rw [Int.tmod_eq_emod_of_nonneg (by omega)];omega
    have s3:(0:Int) ≤ (r:Int):=by omega
    have hbit:bitAt fb x = (z.toNat / 2 ^ r % 2 == 1):=by unfold bitAt;rw [List.getElem?_eq_getElem hxf,← hz,← hr];rfl
    obtain ⟨V,hV⟩:∃ V,V = z.toNat / 2 ^ r % 2:=⟨_,rfl⟩
    have hf1:=bit_form z r
    rw [← hV] at hf1 hbit
    have hV2:V < 2:=by omega
    have HBit:=hid hbit
    have HR8:=hid hr8
    have HI:=hid hI
    have HRe:=hid hrest
    clear hz hD hr hV hbit hI hrest hxf hx8 hr8
    have hf2:bits .and .u8 ((z.toNat:Int) / 2 ^ min r 8) 1 = (V:Int):=by
     rw [show min r 8 = r by have:=HR8.out;omega,← hf1]
     congr 1
    clear hf1
    by_cases hV0:V = 0
    ·have d1:((V:Int) == 0) = true:=by rw [hV0];rfl
     have hno:(placesF key.data.toList (8 * N)).all (bitAt fb) = false:=by
      rw [HRe.out,List.all_append,List.all_cons,HBit.out,hV0];simp
     have HNo:=hid hno
     clear hno hV0
     gi_wp2
     refine ⟨⟨by simp,fun k o hk ho hc=>(heap_setCell_other _ _ _ _ (fun e => ?_)).trans ho⟩,rfl,HI.out.rs.set _,HI.out.below.setCell (p:=⟨b4,0,none⟩) HBb.out _,HNo.out⟩
     subst e
     rw [show W.heap[_]? = _ from HI.out.rs] at ho
     cases ho;cases hc
    ·have d1:((V:Int) == 0) = false:=by rw [beq_eq_false_iff_ne];omega
     have hyes:bitAt fb x = true:=by rw [HBit.out,beq_iff_eq];omega
     have HYes:=hid hyes
     clear hyes hV0
     gi_wp2
     refine ⟨KeepsFrom.refl _ _,fun o ho=>ho,HI.out.bx,HI.out.rs,HI.out.rd,HI.out.below,fun a ha => ?_⟩
     rcases List.mem_append.1 ha with h | h
     ·exact HI.out.set a h
     ·rw [List.mem_singleton] at h;rw [h];exact HYes.out
  ·have hh:hasF fb key.data.toList = true:=by unfold hasF;rw [if_pos (.inr (by rw [Hy.out];exact hy6))]
   rw [hh]
   have b1:(((y.toNat:Nat):Int) != 6) = true:=by rw [bne_iff_ne];intro h;exact hy6 (UInt8.toNat_inj.1 (by show y.toNat = 6;omega))
   clear hh
   go_wp2_with fail
   refine leaves_marks (base:=w.heap.size) [] _ trivial (fun w' hs => ?_)
   obtain ⟨W,hW⟩:∃ x,x = ((w.alloc (.cells #[.slice (some ⟨b,off,none⟩) (N + 1) c] 22)).alloc (.cells #[.bool true] 4)):=⟨_,rfl⟩
   rw [← hW] at hs
   have hx:Boxed W (w.heap.size + 1) 4 (.bool true):=by
    rw [hW]
    have h:=Boxed.new (w.alloc (.cells #[.slice (some ⟨b,off,none⟩) (N + 1) c] 22)) 4 (.bool true)
    rw [World.size_alloc] at h
    exact h
   have hb:Below w.heap.size w W:=by
    rw [hW]
    exact ((Below.refl _ _).alloc (Nat.le_refl _) _).alloc (by simp) _
   have hx':Boxed w' (w.heap.size + 1) 4 (.bool true):=hs.cells _ _ _ _ hx
   exact ⟨_,has_results rfl hx',rfl,hb.trans (hs.below _ (Nat.le_refl _))⟩
end Go.Proofs.Herb
