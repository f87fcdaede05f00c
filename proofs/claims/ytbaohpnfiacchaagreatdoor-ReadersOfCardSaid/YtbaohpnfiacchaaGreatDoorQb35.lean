/- The reference of chapter 13: props. For bytes that can be read. -/
import Derived.Test.YtbaohpnfiacchaaGreatDoorQb22
import Derived.Test.YtbaohpnfiacchaaGreatDoorQb33
import Derived.Test.YtbaohpnfiacchaaGreatDoorQb34
namespace Go.Proofs.Herb
open Go.RowKit
def prK:Nat → Nat → List Nat → List ByteArray → List UInt8 → Option Props
 | 0,_,ns,ss,r=>if r = [] ∧ ns.getD 4 0 ≤ 4294967295 ∧ ns.getD 5 0 ≤ 4294967295 then some ⟨ns.getD 0 0,ns.getD 1 0,ss.getD 0 ⟨#[]⟩,ss.getD 1 ⟨#[]⟩,ns.getD 2 0,ns.getD 3 0,ns.getD 4 0,ns.getD 5 0⟩ else none
 | f + 1,i,ns,ss,r=>if i = 2 ∨ i = 3 then (txB r).bind fun x=>prK f (i + 1) ns (ss ++ [x.1]) x.2 else (tkB r).bind fun x=>prK f (i + 1) (ns ++ [x.1]) ss x.2
theorem propsR_prK (l:List UInt8):propsR l = prK 8 0 [] [] l:=by
 unfold propsR
 simp [prK]
def nI (i:Nat):Nat:=if i ≤ 2 then i else if i = 3 then 2 else i - 2
def sI (i:Nat):Nat:=if i ≤ 2 then 0 else if i = 3 then 1 else 2
theorem nI_succ {i:Nat} (h:¬ (i = 2 ∨ i = 3)):nI (i + 1) = nI i + 1:=by
 unfold nI
 repeat' split
 all_goals omega
theorem sI_succ {i:Nat} (h:¬ (i = 2 ∨ i = 3)):sI (i + 1) = sI i:=by
 unfold sI
 repeat' split
 all_goals omega
def u64v (n:Nat):Value:=.int .u64 (n:Int)
def stv (s:ByteArray):Value:=.string s
theorem infoU64:(Tryz.prog.info? 24).map (fun i=>(i.zero,i.size,i.bytes)) = some (some (.int .u64 0),1,8):=by kernel_rfl
theorem infoSt:(Tryz.prog.info? 9).map (fun i=>(i.zero,i.size,i.bytes)) = some (some (.string ⟨#[]⟩),1,16):=by kernel_rfl
def zP:Array Value := #[.int .u64 0,.int .u64 0,.string ⟨#[]⟩,.string ⟨#[]⟩,.int .u64 0,.int .u64 0,.int .u32 0,.int .u32 0]
theorem list8k {α:Type}:∀ (l:List α),l.length = 8 → ∃ a b c d e f g h,l = [a,b,c,d,e,f,g,h]
 | [a,b,c,d,e,f,g,h],_=>⟨a,b,c,d,e,f,g,h,rfl⟩
theorem list6n:∀ (l:List Nat),l.length = 6 → ∃ a b c d e f,l = [a,b,c,d,e,f]
 | [a,b,c,d,e,f],_=>⟨a,b,c,d,e,f,rfl⟩
theorem list2n:∀ (l:List ByteArray),l.length = 2 → ∃ a b,l = [a,b]
 | [a,b],_=>⟨a,b,rfl⟩
theorem set8 {w:World} {B b0:Nat} {t:TypeId} {cs:Array Value} (h:w.heap[B]? = some (.cells cs t (0,0))) (hs:cs.size = 8) (hb:b0 ≤ B) (v0 v1 v2 v3 v4 v5 v6 v7:Value) :
  ((((((((w.setCell ⟨B,0,none⟩ v0).setCell ⟨B,1,none⟩ v1).setCell ⟨B,2,none⟩ v2).setCell ⟨B,3,none⟩ v3).setCell ⟨B,4,none⟩ v4).setCell ⟨B,5,none⟩ v5).setCell ⟨B,6,none⟩ v6).setCell ⟨B,7,none⟩ v7).heap[B]? = some (.cells #[v0,v1,v2,v3,v4,v5,v6,v7] t (0,0)) ∧
  Below b0 w ((((((((w.setCell ⟨B,0,none⟩ v0).setCell ⟨B,1,none⟩ v1).setCell ⟨B,2,none⟩ v2).setCell ⟨B,3,none⟩ v3).setCell ⟨B,4,none⟩ v4).setCell ⟨B,5,none⟩ v5).setCell ⟨B,6,none⟩ v6).setCell ⟨B,7,none⟩ v7):=by
 have g0:=Go.heap_setCell_same w B 0 cs t v0 h
 have k0:=(Below.refl b0 w).setCell (p:=⟨B,0,none⟩) hb v0
 generalize w.setCell ⟨B,0,none⟩ v0 = w0 at *
 have g1:=Go.heap_setCell_same w0 B 1 _ t v1 g0
 have k1:=k0.setCell (p:=⟨B,1,none⟩) hb v1
 generalize w0.setCell ⟨B,1,none⟩ v1 = w1 at *
 have g2:=Go.heap_setCell_same w1 B 2 _ t v2 g1
 have k2:=k1.setCell (p:=⟨B,2,none⟩) hb v2
 generalize w1.setCell ⟨B,2,none⟩ v2 = w2 at *
 have g3:=Go.heap_setCell_same w2 B 3 _ t v3 g2
 have k3:=k2.setCell (p:=⟨B,3,none⟩) hb v3
 generalize w2.setCell ⟨B,3,none⟩ v3 = w3 at *
 have g4:=Go.heap_setCell_same w3 B 4 _ t v4 g3
 have k4:=k3.setCell (p:=⟨B,4,none⟩) hb v4
 generalize w3.setCell ⟨B,4,none⟩ v4 = w4 at *
 have g5:=Go.heap_setCell_same w4 B 5 _ t v5 g4
 have k5:=k4.setCell (p:=⟨B,5,none⟩) hb v5
 generalize w4.setCell ⟨B,5,none⟩ v5 = w5 at *
 have g6:=Go.heap_setCell_same w5 B 6 _ t v6 g5
 have k6:=k5.setCell (p:=⟨B,6,none⟩) hb v6
 generalize w5.setCell ⟨B,6,none⟩ v6 = w6 at *
 have g7:=Go.heap_setCell_same w6 B 7 _ t v7 g6
 have k7:=k6.setCell (p:=⟨B,7,none⟩) hb v7
 generalize w6.setCell ⟨B,7,none⟩ v7 = w7 at *
 refine ⟨?_,k7⟩
 rw [g7]
 have e:((((((((cs.setIfInBounds 0 v0).setIfInBounds 1 v1).setIfInBounds 2 v2).setIfInBounds 3 v3).setIfInBounds 4 v4).setIfInBounds 5 v5).setIfInBounds 6 v6).setIfInBounds 7 v7) = #[v0,v1,v2,v3,v4,v5,v6,v7]:=by
  obtain ⟨l⟩:=cs
  obtain ⟨a,b,c,d,e,f,g,h,rfl⟩:=list8k l hs
  simp only [List.setIfInBounds_toArray,List.set_cons_zero,List.set_cons_succ]
 rw [e]
theorem cells8 {w:World} {B:Nat} {t:TypeId} {v0 v1 v2 v3 v4 v5 v6 v7:Value} (h:w.heap[B]? = some (.cells #[v0,v1,v2,v3,v4,v5,v6,v7] t (0,0))) :
  w.cell? ⟨B,0,none⟩ = some v0 ∧ w.cell? ⟨B,1,none⟩ = some v1 ∧ w.cell? ⟨B,2,none⟩ = some v2 ∧ w.cell? ⟨B,3,none⟩ = some v3 ∧ w.cell? ⟨B,4,none⟩ = some v4 ∧ w.cell? ⟨B,5,none⟩ = some v5 ∧ w.cell? ⟨B,6,none⟩ = some v6 ∧ w.cell? ⟨B,7,none⟩ = some v7:=by
 refine ⟨?_, ?_, ?_, ?_, ?_, ?_, ?_, ?_⟩ <;> (rw [cell_of_row _ _ _ _ _ _ h];rfl)
theorem rpp_results {tmps:Array Value} {w:World} {B:Nat} {C:Array Value} {v:Value} (h2:tmps.getD 2 undef = .pointer (some ⟨B,0,none⟩)) (h3:tmps.getD 3 undef = v) (g:w.heap[B]? = some (.cells C 49 (0,0))) (hC:C.size = 8) :
  (results Tryz.f26 tmps).run Tryz.prog w = .ok (.tuple #[.agg C,v]) w:=by
 have r2:=run_loadVar_row (P:=Tryz.prog) w B _ 49 C (0,0) _ g Tryz.underlying49 rfl (by rw [hC];exact infoProps8)
 have hr:(Tryz.f26).results = #[.cell 2 49,.tmp 3]:=rfl
 simp [results,asAddr] at h2 h3 ⊢
 simp [h2,h3,r2]
def PprP (l:List UInt8) (b0:Nat) (w:World) (e:Ending) (w':World):Prop :=
 Below b0 w w' ∧ ((propsR l = none ∧ e = .returned (.tuple #[.agg zP,.bool false])) ∨ ∃ p,propsR l = some p ∧ e = .returned (.tuple #[.agg p.cells.toArray,.bool true]))
set_option maxRecDepth 100000 in
set_option maxHeartbeats 8000000 in
theorem rprops_any (b off m c:Nat) (l:List UInt8) (w:World) (hl:l.length = m) (hm:m ≤ 4194304) (hc:m ≤ c) (hcm:c ≤ maxLen) (hr:Rd w (some ⟨b,off,none⟩) (l.map bv)) :
  Calls Tryz.prog 26 #[.slice (some ⟨b,off,none⟩) m c] w (PprP l w.heap.size w):=by
 obtain ⟨B,hB⟩:∃ B,w.heap.size = B:=⟨_,rfl⟩
 obtain ⟨w1,hw1⟩:∃ w1,w.alloc (.cells #[.int .u64 0,.int .u64 0,.string ⟨#[]⟩,.string ⟨#[]⟩,.int .u64 0,.int .u64 0,.int .u32 0,.int .u32 0] 49) = w1:=⟨_,rfl⟩
 have HB1:Hid (Below w.heap.size w w1):=by show Below _ _ _;rw [← hw1];exact (Below.refl _ _).alloc (Nat.le_refl _) _
 have hbox:w1.heap[B]? = some (.cells #[.int .u64 0,.int .u64 0,.string ⟨#[]⟩,.string ⟨#[]⟩,.int .u64 0,.int .u64 0,.int .u32 0,.int .u32 0] 49 (0,0)):=by rw [← hw1,← hB];exact World.alloc_heap_new _ _
 have HBox:=hid hbox
 have HL:=hid hl
 have HR:=hid (hr.below HB1.out)
 clear hl hr hbox
 go_enter Tryz.func26,Tryz.ntmps26
 go_wp2
 have HBw:=hid hB
 clear hw1 hB
 go_loopw [4,5,6,7] (fun nv sv av iv wr=>∃ (i at_ nn sn:Nat) (ns:List Nat) (ss:List ByteArray) (qn qs:Option Addr) (cn cs:Nat),i ≤ 8 ∧ at_ ≤ m ∧ iv = .int .i64 (i:Int) ∧ av = .int .i64 (at_:Int) ∧ nv = .slice qn nn cn ∧ sv = .slice qs sn cs ∧ Hid (ns.length = nn) ∧ Hid (ss.length = sn) ∧ nn = nI i ∧ sn = sI i ∧
  Hid (propsR l = prK (8 - i) i ns ss (l.drop at_)) ∧ Hid (∀ x ∈ ns,x < 18446744073709551616) ∧ Hid (wr.ownsRow w1.heap.size 24 1 (.slice qn nn cn) nn (ns.map u64v)) ∧ Hid (wr.ownsRow w1.heap.size 9 1 (.slice qs sn cs) sn (ss.map stv)) ∧ Hid (Below w1.heap.size w1 wr)) (fun _ _ _ iv _=>8 - (intOf iv).toNat)
 case atStart=>exact ⟨0,0,0,0,[],[],none,none,0,0,Nat.zero_le _,Nat.zero_le _,rfl,rfl,rfl,rfl,rfl,rfl,rfl,rfl,propsR_prK l,fun x hx=>(by cases hx),World.ownsRow_nil _ _ _ _,World.ownsRow_nil _ _ _ _,Below.refl _ _⟩
 case round =>
  obtain ⟨i,at_,nn,sn,ns,ss,qn,qs,cn,cs,hi8,hat,rfl,rfl,rfl,rfl,HNL,HSL,hnn,hsn,HP,HX,HN,HS,HB⟩:=hrel
  have i0:(0:Int) ≤ (i:Int):=by omega
  have a0:(0:Int) ≤ (at_:Int):=by omega
  have a1:(at_:Int) ≤ (m:Int):=by omega
  have hwr:=HB.out.size
  have hbox2:=(HB.out.block B (lt_of_block HBox.out)).trans HBox.out
  have HBox2:=hid hbox2
  have HBw2:=hid (HB1.out.trans (HB.out.mono HB1.out.size))
  obtain ⟨z0,z1,z2,z3,z4,z5,z6,z7⟩:=cells8 hbox2
  have fz:∀ j,wr.frozen? ⟨B,j,none⟩ = false:=fun j=>frozen_of_row _ _ _ _ _ hbox2
  clear hbox2
  by_cases hlt:i < 8
  ·have i1:(i:Int) < 8:=by omega
   obtain ⟨o1,ho1⟩:∃ x,x = if c = at_ then off else off + at_:=⟨_,rfl⟩
   have hsl:=fun w=>slice_from o1 b off m c at_ w hat hc ho1
   obtain ⟨REM,hREM⟩:∃ x,x = l.drop at_:=⟨_,rfl⟩
   have hRl:REM.length = m - at_:=by rw [hREM,List.length_drop,HL.out]
   have hRd:Rd wr (some ⟨b,o1,none⟩) (REM.map bv):=by
    rw [ho1]
    by_cases e:c = at_
    ·have:REM = []:=List.eq_nil_of_length_eq_zero (by omega)
     rw [this];exact .inl rfl
    ·rw [if_neg e,hREM,List.map_drop];exact (HR.out.below HB.out).drop at_
   rw [← hREM] at HP
   obtain ⟨ML,hML⟩:∃ x,m - at_ = x:=⟨_,rfl⟩
   obtain ⟨CL,hCL⟩:∃ x,c - at_ = x:=⟨_,rfl⟩
   rw [hML] at hRl
   simp only [hML,hCL] at hsl
   have hMC:ML ≤ CL:=by omega
   have HRd:=hid hRd
   have HRl:=hid hRl
   have hr8:8 - i = (7 - i) + 1:=by omega
   have e7:7 - i = 8 - (i + 1):=by omega
   by_cases h23:i = 2 ∨ i = 3
   ·obtain ⟨S,hS⟩:∃ x:ByteArray,x = ⟨(getT REM).1.toArray⟩:=⟨_,rfl⟩
    obtain ⟨T,hT⟩:∃ x,x = (getT REM).2.1:=⟨_,rfl⟩
    obtain ⟨E,hE⟩:∃ x,x = (getT REM).2.2:=⟨_,rfl⟩
    have hTl:=getT_took REM
    have kt:=rvtext_any (some ⟨b,o1,none⟩) ML CL REM wr hRl (by omega) hMC (by omega) hRd
    have htx:txB REM = if E = 0 then some (S,REM.drop T) else none:=by unfold txB;rw [hE,hS,hT]
    rw [← hS,← hT,← hE] at kt
    rw [← hT,hRl] at hTl
    have HPN:Hid (propsR l = (txB REM).bind fun x=>prK (8 - (i + 1)) (i + 1) ns (ss ++ [x.1]) x.2):=by
     show _ = _
     rw [HP.out,hr8,prK,if_pos h23,e7]
    obtain ⟨AT2,hAT2⟩:∃ x,x = at_ + T:=⟨_,rfl⟩
    have e1:(at_:Int) + (T:Int) = (AT2:Int):=by omega
    have hdr:REM.drop T = l.drop AT2:=by rw [hREM,List.drop_drop,hAT2]
    have HDR:=hid hdr
    have HTX:=hid htx
    have hA2:AT2 ≤ m:=by omega
    have hs1:sn ≤ 2:=by rw [hsn];unfold sI;split <;> (try split) <;> omega
    have hs2:sI (i + 1) = sn + 1:=by rw [hsn];rcases h23 with rfl | rfl <;> rfl
    have hn2:nI (i + 1) = nn:=by rw [hnn];rcases h23 with rfl | rfl <;> rfl
    clear hS hT hE hREM hRl hRd hML hCL hAT2 hdr htx ho1 hr8 e7 hsn hnn
    rcases h23 with rfl | rfl
    all_goals
     by_cases hE0:E = 0
     ·subst hE0
      have HPO:Hid (propsR l = prK (8 - (_ + 1)) (_ + 1) ns (ss ++ [S]) (l.drop AT2)):=HPN.out.trans (by rw [HTX.out,if_pos rfl,HDR.out];rfl)
      have HSN:Hid ((ss ++ [S]).length = sn + 1):=by show _ = _;rw [List.length_append,HSL.out];rfl
      clear HPN HTX HDR HP
      go_upto_region 12 with (first
       | (go_at_call 60;(with_reducible refine kt.mono ?_);rintro e w' ⟨rfl,rfl⟩)
       | (at_builtin;refine wpList_append_rd rfl (.tmp 35) (.tmp 37) 51 rfl w1.heap.size 9 (.string ⟨#[]⟩) 1 16 Tryz.underlying51 infoSt rfl (by decide) (.slice qs sn cs) sn (ss.map stv) rfl (own_below HS.out ((Below.refl _ _).alloc (Nat.le_refl _) _)) (some ⟨wr.heap.size,0,none⟩) 1 1 [stv S] rfl (fun h=>by cases h) rfl (Rd.new _ [stv S] _) (by simp [stv,Value.oneCell']) (by unfold maxLen;omega) (by omega) (by simp;omega) ?_;intro v' w6 hown6 hg6 _;have P6:=hid (And.intro hown6 hg6);clear hown6 hg6))
      obtain ⟨hown6,hg6⟩:=P6.out
      obtain ⟨q6,c6,rfl,_,_,_⟩:=own_shape hown6
      have ba:=(Below.refl wr.heap.size wr).alloc (Nat.le_refl _) (.cells #[.string S] 9)
      have hSa:=own_below HS.out ba
      have hn6:=own_kinds (own_below HN.out ba) hSa (by decide) hg6
      have hb6:Below w1.heap.size w1 w6:=(HB.out.alloc hwr _).grown hg6 (by simp;omega) (fun g hg=>(HS.out.lt g hg).1)
      have HO6:=hid hown6
      have HN6:=hid hn6
      have HB6:=hid hb6
      clear hown6 hg6 hb6 P6 hn6 hSa ba
      go_wp2
      go_roundw
      case rel=>exact ⟨_,AT2,nn,sn + 1,ns,ss ++ [S],qn,q6,cn,c6,by omega,hA2,by go_num,rfl,rfl,rfl,HNL,HSN,hn2.symm,hs2.symm,HPO,HX,HN6,by rw [List.map_append];exact HO6.out,HB6⟩
      case measure=>simp [intOf]
     ·have d1:(E != 0) = true:=by simpa using hE0
      have hno:propsR l = none:=by rw [HPN.out,HTX.out,if_neg hE0];rfl
      have HNo:=hid hno
      clear hno hE0
      go_wp2_with (go_at_call 60;(with_reducible refine kt.mono ?_);rintro e w' ⟨rfl,rfl⟩)
      obtain ⟨x1,x2⟩:=set8 (b0:=w.heap.size) HBox2.out rfl (by rw [HBw.out];exact Nat.le_refl _) (.int .u64 0) (.int .u64 0) (.string ⟨#[]⟩) (.string ⟨#[]⟩) (.int .u64 0) (.int .u64 0) (.int .u32 0) (.int .u32 0)
      refine bodyPost_ret (rpp_results rfl rfl x1 rfl) rfl ?_
      exact ⟨HBw2.out.trans x2,.inl ⟨HNo.out,rfl⟩⟩
   ·obtain ⟨N,hNe⟩:∃ x,x = (getV 0 0 REM).1:=⟨_,rfl⟩
    obtain ⟨T,hT⟩:∃ x,x = (getV 0 0 REM).2.1:=⟨_,rfl⟩
    obtain ⟨E,hE⟩:∃ x,x = (getV 0 0 REM).2.2:=⟨_,rfl⟩
    have hTl:=getV_le REM
    have hNl:=getV_lt REM 0 0 (by decide) (by decide)
    have kt:=rvget_any (some ⟨b,o1,none⟩) ML CL REM wr hRl (by omega) hRd
    have htx:tkB REM = if E = 0 then some (N,REM.drop T) else none:=by unfold tkB;rw [hE,hNe,hT]
    rw [← hNe,← hT,← hE] at kt
    rw [← hT,hRl] at hTl
    rw [← hNe] at hNl
    have HPN:Hid (propsR l = (tkB REM).bind fun x=>prK (8 - (i + 1)) (i + 1) (ns ++ [x.1]) ss x.2):=by
     show _ = _
     rw [HP.out,hr8,prK,if_neg h23,e7]
    obtain ⟨AT2,hAT2⟩:∃ x,x = at_ + T:=⟨_,rfl⟩
    have e1:(at_:Int) + (T:Int) = (AT2:Int):=by omega
    have hdr:REM.drop T = l.drop AT2:=by rw [hREM,List.drop_drop,hAT2]
    have HDR:=hid hdr
    have HTX:=hid htx
    have hA2:AT2 ≤ m:=by omega
    have hn1:nn ≤ 8:=by rw [hnn];unfold nI;split <;> (try split) <;> omega
    have hn2:nI (i + 1) = nn + 1:=by rw [hnn];exact nI_succ h23
    have hs2:sI (i + 1) = sn:=by rw [hsn];exact sI_succ h23
    have x2:((i:Int) == 2) = false:=by rw [beq_eq_false_iff_ne];omega
    have x3:((i:Int) == 3) = false:=by rw [beq_eq_false_iff_ne];omega
    clear hNe hT hE hREM hRl hRd hML hCL hAT2 hdr htx ho1 hr8 e7 hsn hnn h23
    by_cases hE0:E = 0
    ·subst hE0
     have HPO:Hid (propsR l = prK (8 - (i + 1)) (i + 1) (ns ++ [N]) ss (l.drop AT2)):=HPN.out.trans (by rw [HTX.out,if_pos rfl,HDR.out];rfl)
     have HNN:Hid ((ns ++ [N]).length = nn + 1):=by show _ = _;rw [List.length_append,HNL.out];rfl
     have HXN:Hid (∀ x ∈ ns ++ [N],x < 18446744073709551616):=by
      intro x hx
      rcases List.mem_append.1 hx with h | h
      ·exact HX.out x h
      ·rw [List.mem_singleton.1 h];exact hNl
     clear HPN HTX HDR HP
     go_upto_region 17 with (first
      | (go_at_call 61;(with_reducible refine kt.mono ?_);rintro e w' ⟨rfl,rfl⟩)
      | (at_builtin;refine wpList_append_rd rfl (.tmp 53) (.tmp 55) 111 rfl w1.heap.size 24 (.int .u64 0) 1 8 Tryz.underlying111 infoU64 rfl (by decide) (.slice qn nn cn) nn (ns.map u64v) rfl (own_below HN.out ((Below.refl _ _).alloc (Nat.le_refl _) _)) (some ⟨wr.heap.size,0,none⟩) 1 1 [u64v N] rfl (fun h=>by cases h) rfl (Rd.new _ [u64v N] _) (by simp [u64v,Value.oneCell']) (by unfold maxLen;omega) (by omega) (by simp;omega) ?_;intro v' w6 hown6 hg6 _;have P6:=hid (And.intro hown6 hg6);clear hown6 hg6))
     obtain ⟨hown6,hg6⟩:=P6.out
     obtain ⟨q6,c6,rfl,_,_,_⟩:=own_shape hown6
     have ba:=(Below.refl wr.heap.size wr).alloc (Nat.le_refl _) (.cells #[.int .u64 (N:Int)] 24)
     have hNa:=own_below HN.out ba
     have hs6:=own_kinds (own_below HS.out ba) hNa (by decide) hg6
     have hb6:Below w1.heap.size w1 w6:=(HB.out.alloc hwr _).grown hg6 (by simp;omega) (fun g hg=>(HN.out.lt g hg).1)
     have HO6:=hid hown6
     have HS6:=hid hs6
     have HB6:=hid hb6
     clear hown6 hg6 hb6 P6 hs6 hNa ba
     go_wp2
     go_roundw
     case rel=>exact ⟨i + 1,AT2,nn + 1,sn,ns ++ [N],ss,q6,qs,c6,cs,by omega,hA2,by go_num,rfl,rfl,rfl,HNN,HSL,hn2.symm,hs2.symm,HPO,HXN,by rw [List.map_append];exact HO6.out,HS6,HB6⟩
     case measure=>simp [intOf];omega
    ·have d1:(E != 0) = true:=by simpa using hE0
     have hno:propsR l = none:=by rw [HPN.out,HTX.out,if_neg hE0];rfl
     have HNo:=hid hno
     clear hno hE0
     go_wp2_with (go_at_call 61;(with_reducible refine kt.mono ?_);rintro e w' ⟨rfl,rfl⟩)
     obtain ⟨x1,x2⟩:=set8 (b0:=w.heap.size) HBox2.out rfl (by rw [HBw.out];exact Nat.le_refl _) (.int .u64 0) (.int .u64 0) (.string ⟨#[]⟩) (.string ⟨#[]⟩) (.int .u64 0) (.int .u64 0) (.int .u32 0) (.int .u32 0)
     refine bodyPost_ret (rpp_results rfl rfl x1 rfl) rfl ?_
     exact ⟨HBw2.out.trans x2,.inl ⟨HNo.out,rfl⟩⟩
  ·obtain rfl:i = 8:=by omega
   obtain rfl:nn = 6:=hnn
   obtain rfl:sn = 2:=hsn
   obtain ⟨n0,n1,n2,n3,n4,n5,rfl⟩:=list6n ns HNL.out
   obtain ⟨s0,s1,rfl⟩:=list2n ss HSL.out
   have hP:=HP.out
   rw [show 8 - 8 = 0 from rfl,prK] at hP
   have hrn:=(Fr.of_own HN.out).rd
   have hrs:=(Fr.of_own HS.out).rd
   obtain ⟨bn,on,rfl,g0⟩:=hrn.cell (k:=0) (by simp)
   obtain ⟨bn1,on1,e1,g1⟩:=hrn.cell (k:=1) (by simp)
   obtain ⟨bn2,on2,e2,g2⟩:=hrn.cell (k:=2) (by simp)
   obtain ⟨bn3,on3,e3,g3⟩:=hrn.cell (k:=3) (by simp)
   obtain ⟨bn4,on4,e4,g4⟩:=hrn.cell (k:=4) (by simp)
   obtain ⟨bn5,on5,e5,g5⟩:=hrn.cell (k:=5) (by simp)
   cases e1;cases e2;cases e3;cases e4;cases e5
   obtain ⟨bs,os,rfl,t0⟩:=hrs.cell (k:=0) (by simp)
   obtain ⟨bs1,os1,e6,t1⟩:=hrs.cell (k:=1) (by simp)
   cases e6
   have g0':wr.cell? ⟨bn,on,none⟩ = some (.int .u64 (n0:Int)):=g0
   have g1':wr.cell? ⟨bn,on + 1,none⟩ = some (.int .u64 (n1:Int)):=g1
   have g2':wr.cell? ⟨bn,on + 2,none⟩ = some (.int .u64 (n2:Int)):=g2
   have g3':wr.cell? ⟨bn,on + 3,none⟩ = some (.int .u64 (n3:Int)):=g3
   have g4':wr.cell? ⟨bn,on + 4,none⟩ = some (.int .u64 (n4:Int)):=g4
   have g5':wr.cell? ⟨bn,on + 5,none⟩ = some (.int .u64 (n5:Int)):=g5
   have t0':wr.cell? ⟨bs,os,none⟩ = some (.string s0):=t0
   have t1':wr.cell? ⟨bs,os + 1,none⟩ = some (.string s1):=t1
   clear g0 g1 g2 g3 g4 g5 t0 t1 hrn hrs
   have hat2:l.drop at_ = [] ↔ at_ = m:=by
    rw [List.drop_eq_nil_iff,HL.out];omega
   have HPf:=hid hP
   clear hP HP HN HS HX
   by_cases hA:at_ = m
   rotate_left
   ·have hno:propsR l = none:=by rw [HPf.out,if_neg (fun h=>hA (hat2.1 h.1))]
    have HNo:=hid hno
    have d1:¬ ((at_:Int) = (m:Int)):=by omega
    clear hno hA hat2
    go_wp2
    obtain ⟨x1,x2⟩:=set8 (b0:=w.heap.size) HBox2.out rfl (by rw [HBw.out];exact Nat.le_refl _) (.int .u64 0) (.int .u64 0) (.string ⟨#[]⟩) (.string ⟨#[]⟩) (.int .u64 0) (.int .u64 0) (.int .u32 0) (.int .u32 0)
    refine bodyPost_ret (rpp_results rfl rfl x1 rfl) rfl ?_
    exact ⟨HBw2.out.trans x2,.inl ⟨HNo.out,rfl⟩⟩
   by_cases h4:n4 ≤ 4294967295
   rotate_left
   ·have hno:propsR l = none:=by rw [HPf.out,if_neg (fun h=>h4 h.2.1)]
    have HNo:=hid hno
    have d1:(at_:Int) = (m:Int):=by omega
    have d2:(4294967296:Int) ≤ (n4:Int):=by omega
    clear hno hA hat2 h4
    go_wp2
    obtain ⟨x1,x2⟩:=set8 (b0:=w.heap.size) HBox2.out rfl (by rw [HBw.out];exact Nat.le_refl _) (.int .u64 0) (.int .u64 0) (.string ⟨#[]⟩) (.string ⟨#[]⟩) (.int .u64 0) (.int .u64 0) (.int .u32 0) (.int .u32 0)
    refine bodyPost_ret (rpp_results rfl rfl x1 rfl) rfl ?_
    exact ⟨HBw2.out.trans x2,.inl ⟨HNo.out,rfl⟩⟩
   by_cases h5:n5 ≤ 4294967295
   rotate_left
   ·have hno:propsR l = none:=by rw [HPf.out,if_neg (fun h=>h5 h.2.2)]
    have HNo:=hid hno
    have d1:(at_:Int) = (m:Int):=by omega
    have d2:¬ (4294967296:Int) ≤ (n4:Int):=by omega
    have d3:(4294967296:Int) ≤ (n5:Int):=by omega
    clear hno hA hat2 h4 h5
    go_wp2
    obtain ⟨x1,x2⟩:=set8 (b0:=w.heap.size) HBox2.out rfl (by rw [HBw.out];exact Nat.le_refl _) (.int .u64 0) (.int .u64 0) (.string ⟨#[]⟩) (.string ⟨#[]⟩) (.int .u64 0) (.int .u64 0) (.int .u32 0) (.int .u32 0)
    refine bodyPost_ret (rpp_results rfl rfl x1 rfl) rfl ?_
    exact ⟨HBw2.out.trans x2,.inl ⟨HNo.out,rfl⟩⟩
   have hyes:=HPf.out
   rw [if_pos ⟨hat2.2 hA,h4,h5⟩] at hyes
   have HYes:=hid hyes
   have d1:(at_:Int) = (m:Int):=by omega
   have d2:¬ (4294967296:Int) ≤ (n4:Int):=by omega
   have d3:¬ (4294967296:Int) ≤ (n5:Int):=by omega
   clear hyes hA hat2 HPf
   go_upto_region 20 with fail
   obtain ⟨TD,D,hD1,hD2⟩:=class_d wr
   have xx:∀ (z:TD) (p:Addr) v,wr.cell? p = some v → (D z).cell? p = some v:=fun z p v hv=>((hD1 z).cell (World.block_lt_of_cell? wr _ hv)).trans hv
   have y0:∀ z,(D z).cell? ⟨bn,on,none⟩ = some (.int .u64 (n0:Int)):=fun z=>xx z _ _ g0'
   have y1:∀ z,(D z).cell? ⟨bn,on + 1,none⟩ = some (.int .u64 (n1:Int)):=fun z=>xx z _ _ g1'
   have y2:∀ z,(D z).cell? ⟨bn,on + 2,none⟩ = some (.int .u64 (n2:Int)):=fun z=>xx z _ _ g2'
   have y3:∀ z,(D z).cell? ⟨bn,on + 3,none⟩ = some (.int .u64 (n3:Int)):=fun z=>xx z _ _ g3'
   have y4:∀ z,(D z).cell? ⟨bn,on + 4,none⟩ = some (.int .u64 (n4:Int)):=fun z=>xx z _ _ g4'
   have y5:∀ z,(D z).cell? ⟨bn,on + 5,none⟩ = some (.int .u64 (n5:Int)):=fun z=>xx z _ _ g5'
   have y6:∀ z,(D z).cell? ⟨bs,os,none⟩ = some (.string s0):=fun z=>xx z _ _ t0'
   have y7:∀ z,(D z).cell? ⟨bs,os + 1,none⟩ = some (.string s1):=fun z=>xx z _ _ t1'
   have v4:IntKind.u32.wrap (n4:Int) = (n4:Int):=by rw [IntKind.wrap_u32];omega
   have v5:IntKind.u32.wrap (n5:Int) = (n5:Int):=by rw [IntKind.wrap_u32];omega
   obtain ⟨q0,hq0⟩:=hD2 { wr with drawn:=wr.drawn + 1 } (Below.refl _ _).drew
   haveI:Nonempty TD:=⟨q0⟩
   have HD1:=hid hD1
   clear hD1 hD2 xx g0' g1' g2' g3' g4' g5' t0' t1' z0 z1 z2 z3 z4 z5 z6 z7 fz d1 d2 d3
   refine region_last_d (D:=D) 27 (by kernel_rfl) (by kernel_rfl) (by kernel_rfl) q0 hq0 ?_
   simp only [List.take_succ_cons,List.take_zero,List.drop_succ_cons,List.drop_zero]
   repeat (go_big_quiet_step (fail))
   refine wpQuiet_nil ?_
   intro d
   obtain ⟨w5,hw5⟩:∃ W,W = D d:=⟨_,rfl⟩
   have hb5:Below wr.heap.size wr w5:=hw5 ▸ HD1.out d
   rw [← hw5]
   have hbox5:=(hb5.block B (lt_of_block HBox2.out)).trans HBox2.out
   have HBox5:=hid hbox5
   have HB5:=hid (HBw2.out.trans (hb5.mono HBw2.out.size))
   obtain ⟨z0,z1,z2,z3,z4,z5,z6,z7⟩:=cells8 hbox5
   have fz:∀ j,w5.frozen? ⟨B,j,none⟩ = false:=fun j=>frozen_of_row _ _ _ _ _ hbox5
   clear hbox5 hb5 hw5 y0 y1 y2 y3 y4 y5 y6 y7 hq0
   go_wp2
   obtain ⟨x1,x2⟩:=set8 (b0:=w.heap.size) HBox5.out rfl (by rw [HBw.out];exact Nat.le_refl _) (.int .u64 (n0:Int)) (.int .u64 (n1:Int)) (.string s0) (.string s1) (.int .u64 (n2:Int)) (.int .u64 (n3:Int)) (.int .u32 (n4:Int)) (.int .u32 (n5:Int))
   refine bodyPost_ret (rpp_results rfl rfl x1 rfl) rfl ?_
   exact ⟨HB5.out.trans x2,.inr ⟨_,HYes.out,rfl⟩⟩
end Go.Proofs.Herb
