/- The contract of slices.Equal at bytes. For slices that can be read. The contract of blocks.all. For bytes that can be read. The contract of blocks.all and Get: the walk. For bytes that can be read. The contract of blocks.Get. For bytes that can be read. The plain law of TablesParts: chunks, their places, their sizes. No program. The plain law of TablesParts: what the walk asks of the i-th chunk. No program. -/
import Derived.Sort.CutIn
import Derived.Test.YtbaohpnfiacchaaGreatDoorQb10
import Derived.Test.YtbaohpnfiacchaaGreatDoorQb13
import Derived.Test.YtbaohpnfiacchaaGreatDoorQb17
import Derived.Test.YtbaohpnfiacchaaGreatDoorQb18
namespace Go.Proofs.Herb
open Go.RowKit
set_option maxRecDepth 100000 in
set_option maxHeartbeats 400000 in
theorem seq_any (a b:Option Addr) (n c m d:Nat) (l k:List UInt8) (w:World) (hn:l.length = n) (hm:k.length = m) (_hn':n ≤ 4611686018427387904) (_hm':m ≤ 4611686018427387904) (hr:Rd w a (l.map bv)) (hs:Rd w b (k.map bv)) :
  Calls Tryz.prog 35 #[.slice a n c,.slice b m d] w fun e w'=>e = .returned (.bool (l == k)) ∧ Below w.heap.size w w':=by
 have Hn:=hid hn
 have Hm:=hid hm
 have Hr:=hid hr
 have Hs:=hid hs
 clear hn hr hm hs
 by_cases hnm:n = m
 ·subst hnm
  have d0:((n:Int) != (n:Int)) = false:=by simp
  go_enter Tryz.func35,Tryz.ntmps35
  go_wp2
  go_loopw [13] (fun i wr=>∃ j:Nat,j ≤ n ∧ i = .int .i64 j ∧ l.take j = k.take j ∧ Below w.heap.size w wr)
   (fun i _=>n - (intOf i).toNat)
  case atStart=>exact ⟨0,by omega,rfl,rfl,Below.refl _ _⟩
  case round =>
   obtain ⟨j,hj1,rfl,he,hb⟩:=hrel
   have He:=hid he
   have Hb:=hid hb
   clear he hb
   by_cases hjn:j < n
   ·obtain ⟨b1,o1,rfl,hb1,hc1⟩:=Hr.out.cellB Hb.out (k:=j) (by simp;have:=Hn.out;omega)
    obtain ⟨b2,o2,rfl,hb2,hc2⟩:=Hs.out.cellB Hb.out (k:=j) (by simp;have:=Hm.out;omega)
    have i1:(0:Int) ≤ (j:Int):=by omega
    have i2:(j:Int) < (n:Int):=by omega
    rw [List.getElem_map] at hc1 hc2
    obtain ⟨p,hp⟩:∃ p,p = l[j]'(by have:=Hn.out;omega):=⟨_,rfl⟩
    obtain ⟨q,hq⟩:∃ q,q = k[j]'(by have:=Hm.out;omega):=⟨_,rfl⟩
    rw [← hp] at hc1
    rw [← hq] at hc2
    unfold bv at hc1 hc2
    have Hp:=hid hp
    have Hq:=hid hq
    clear hp hq
    by_cases hpq:p = q
    ·subst hpq
     have hbb:(((p.toNat:Int)) != (p.toNat:Int)) = false:=by simp
     go_wp2
     go_quiet (fail)
     go_wp2
     go_roundw
     case rel=>exact ⟨j + 1,by omega,by go_num,eq_round _ _ _ He.out (by have:=Hn.out;omega) (by have:=Hm.out;omega) (Hp.out.symm.trans Hq.out),below_drewN Hb.out _⟩
     case measure=>simp [intOf];omega
    ·have hbb:(((p.toNat:Int)) != (q.toNat:Int)) = true:=by rw [bne_iff_ne];intro h;exact hpq (UInt8.toNat_inj.1 (by omega))
     go_wp2
     go_quiet (fail)
     go_wp2
     go_ret
     refine ⟨?_,below_drewN Hb.out _⟩
     rw [eq_not l k j (by have:=Hn.out;omega) (by have:=Hm.out;omega) (by rw [← Hp.out,← Hq.out];exact hpq)]
     rfl
   ·obtain rfl:j = n:=by omega
    go_wp2
    go_ret
    refine ⟨?_,Hb.out⟩
    rw [← eq_end l k j He.out (by have:=Hn.out;omega) (by have:=Hm.out;omega) (by have:=Hn.out;omega),Hn.out,Hm.out]
    simp
 ·have d0:((n:Int) != (m:Int)) = true:=by rw [bne_iff_ne];omega
  have hne:(l == k) = false:=by rw [beq_eq_false_iff_ne];intro h;exact hnm (by rw [← Hn.out,← Hm.out,h])
  have HNe:=hid hne
  clear hne hnm
  go_enter Tryz.func35,Tryz.ntmps35
  go_wp2
  go_ret
  exact ⟨by rw [HNe.out];rfl,Below.refl _ _⟩
end Go.Proofs.Herb
namespace Go.Proofs.Herb
open Go.RowKit
attribute [local go_sem] Oper.semAt_some
def BlkOf (b:List UInt8) (l:List Item):Prop:=RiseI l ∧ bAll l = b ∧ b.length ≤ 65536
theorem oneI_ok {last:Item} {b:List UInt8} (h:(oneI last b).2.1 = true):(oneI last b).1.key.size + (oneI last b).2.2.length + 1 ≤ last.key.size + b.length ∧ (oneI last b).1.val.size + (oneI last b).2.2.length ≤ b.length ∧ (oneI last b).2.2.length + 1 ≤ b.length:=by
 unfold oneI at h ⊢
 simp only at h ⊢
 split at h
 ·rename_i hc
  rw [if_pos hc]
  obtain ⟨h1,h2,h3,h4⟩:=hc
  have k1:=getV_took b 0 0 h1
  have k2:=getT_took (b.drop (getV 0 0 b).2.1)
  have k3:=getT_len (b.drop (getV 0 0 b).2.1)
  have k4:=getT_took ((b.drop (getV 0 0 b).2.1).drop (getT (b.drop (getV 0 0 b).2.1)).2.1)
  have k5:=getT_len ((b.drop (getV 0 0 b).2.1).drop (getT (b.drop (getV 0 0 b).2.1)).2.1)
  generalize hv:getV 0 0 b = v at *
  generalize ht:getT (b.drop v.2.1) = s at *
  generalize hu:getT ((b.drop v.2.1).drop s.2.1) = u at *
  have e1:(⟨(last.key.data.toList.take v.1 ++ s.1).toArray⟩:ByteArray).size = v.1 + s.1.length:=by
   simp only [ByteArray.size,List.size_toArray,List.length_append,List.length_take,Array.length_toList]
   have e:last.key.data.size = last.key.size:=rfl
   omega
  have e2:(⟨u.1.toArray⟩:ByteArray).size = u.1.length:=by simp only [ByteArray.size,List.size_toArray]
  show (⟨(last.key.data.toList.take v.1 ++ s.1).toArray⟩:ByteArray).size + (((b.drop v.2.1).drop s.2.1).drop u.2.1).length + 1 ≤ _ ∧ (⟨u.1.toArray⟩:ByteArray).size + (((b.drop v.2.1).drop s.2.1).drop u.2.1).length ≤ _ ∧ (((b.drop v.2.1).drop s.2.1).drop u.2.1).length + 1 ≤ _
  rw [e1,e2]
  simp only [List.length_drop] at k2 k4 ⊢
  omega
 ·simp at h
theorem oneI_no {last:Item} {b:List UInt8} (h:(oneI last b).2.1 = false):(oneI last b).1 = last:=by
 unfold oneI at h ⊢
 simp only at h ⊢
 split at h
 ·simp at h
 ·rename_i hc
  rw [if_neg hc]
theorem parse_sizes:∀ (f:Nat) (last:Item) (b:List UInt8),(parseI f last b).length ≤ b.length ∧ ∀ x ∈ parseI f last b,x.1.key.size ≤ last.key.size + b.length ∧ x.1.val.size ≤ last.val.size + b.length
 | 0,_,_=>by simp [parseI]
 | f + 1,last,b=>by
  rw [parseI]
  by_cases hb:b = []
  ·rw [if_pos hb];simp
  ·rw [if_neg hb]
   have h0:0 < b.length:=List.length_pos_iff.2 hb
   by_cases ho:(oneI last b).2.1 = true
   ·obtain ⟨h1,h2,h2'⟩:=oneI_ok ho
    obtain ⟨h3,h4⟩:=parse_sizes f (oneI last b).1 (oneI last b).2.2
    rw [if_pos ho]
    refine ⟨by rw [List.length_cons];omega,fun x hx => ?_⟩
    rcases List.mem_cons.1 hx with rfl | hx
    ·simp only;omega
    ·have:=h4 x hx;omega
   ·rw [if_neg ho]
    refine ⟨h0,fun x hx => ?_⟩
    rw [List.mem_singleton] at hx
    subst hx
    simp only
    rw [oneI_no (by simpa using ho)]
    omega
theorem kAt_len (l:List Item):∀ i,(kAt l i).length ≤ (bUp l (i + 1)).length ∧ (vAt l i).length ≤ (bUp l (i + 1)).length
 | 0=>by
  rw [bUp_succ]
  unfold itB
  have h0:shAt l 0 = 0:=rfl
  rw [h0]
  simp only [List.length_append,tput_len,List.drop_zero]
  omega
 | i + 1=>by
  obtain ⟨h1,h2⟩:=kAt_len l i
  rw [bUp_succ]
  have hk:=kAt_sh l (i + 1)
  have hkl:=congrArg List.length hk
  rw [List.length_append,List.length_take] at hkl
  rw [Nat.add_sub_cancel] at hkl
  unfold itB
  simp only [List.length_append,tput_len]
  omega
theorem blk_short {b:List UInt8} {l:List Item} (h:BlkOf b l):Short l ∧ l.length ≤ 65536:=by
 obtain ⟨h1,h2,h3⟩:=h
 have h4:=bAll_len l
 rw [h2] at h4
 have hl:l.length ≤ 65536:=by
  have:∀ k,k ≤ (bUp l k).length:=by
   intro k
   induction k with
   | zero=>exact Nat.zero_le _
   | succ k ih =>
    rw [bUp_succ,List.length_append]
    have:=List.length_pos_iff.2 (itB_ne l k)
    omega
  have:=this l.length
  omega
 refine ⟨fun x hx => ?_,hl⟩
 obtain ⟨i,hi,rfl⟩:=List.mem_iff_getElem.1 hx
 have h5:=kAt_len l i
 rw [kAt_get hi,vAt_get hi,size_toList,size_toList] at h5
 have h6:=bUp_mono l (show i + 1 ≤ l.length by omega)
 omega
theorem blk_open {b:List UInt8} {l:List Item} (h:BlkOf b l):openB b = (0,(bUp l l.length).length):=by
 obtain ⟨h1,h2,h3⟩:=h
 rw [← h2]
 exact open_bAll h1.1 (by rw [h2];exact h3)
theorem blk_parse {b:List UInt8} {l:List Item} (h:BlkOf b l) (f:Nat) (hf:l.length ≤ f):parseI f nilI (b.take (openB b).2) = l.map fun x=>(x,true):=by
 have hs:=(blk_short h).1
 rw [blk_open h]
 obtain ⟨h1,h2,h3⟩:=h
 have ht:b.take (bUp l l.length).length = bUp l l.length:=by
  rw [← h2]
  unfold bAll bBody
  simp only [List.append_assoc]
  rw [List.take_left]
 have:=parse_bUp hs l.length 0 nilI f (by omega) hf (fun h=>by omega)
 simp only [List.drop_zero] at this
 show parseI f nilI (b.take (bUp l l.length).length) = _
 rw [ht]
 have e:(bUp l 0).length = 0:=rfl
 rw [e,List.drop_zero] at this
 exact this
def BalP (b:List UInt8) (b0:Nat) (w:World) (e:Ending) (w':World):Prop :=
 Below b0 w w' ∧ ∃ x:Array Value,x.size = 2 ∧ (∀ v ∈ x.toList,v.oneCell' = true) ∧ (((¬ ∃ l,BlkOf b l) ∧ ∃ er:Int,er ≠ 0 ∧ e = .returned (.tuple #[.agg x,.slice none 0 0,.int .i64 er])) ∨
  ∃ l,BlkOf b l ∧ ∃ q c,e = .returned (.tuple #[.agg x,.slice q l.length c,.int .i64 0]) ∧ Rd w' q (iCells l) ∧ l.length ≤ c ∧ c ≤ maxLen)
structure ARes (W:World) (B:Nat) (x:Array Value) (v:Value) (e:Int):Prop where
 r2:W.heap[B]? = some (.cells x 155 (0,0))
 r3:Boxed W (B + 1) 91 v
 r4:Boxed W (B + 2) 31 (.int .i64 e)
 hs:x.size = 2
theorem ARes.below {W A:World} {B:Nat} {x:Array Value} {v:Value} {e:Int} (h:ARes A B x v e) (hb:Below A.heap.size A W):ARes W B x v e :=
 ⟨(hb.block _ (lt_of_block h.r2)).trans h.r2,(hb.block _ h.r3.lt).trans h.r3,(hb.block _ h.r4.lt).trans h.r4,h.hs⟩
theorem ARes.putObj {W:World} {B:Nat} {x:Array Value} {v:Value} {e:Int} (h:ARes W B x v e) {g:Nat} {o:Obj} (o':Obj) (ho:W.heap[g]? = some o) (hc:o.isCells = false):ARes (W.putObj g o') B x v e :=
 ⟨(World.putObj_heap_other (fun e=>by subst e;have:=h.r2;rw [ho] at this;cases this;cases hc)).trans h.r2,boxed_putObj h.r3 o' ho hc,boxed_putObj h.r4 o' ho hc,h.hs⟩
def setA (W:World) (B:Nat) (x:Array Value) (v:Value) (e:Int):World:=((W.setRow B x).setCell ⟨B + 1,0,none⟩ v).setCell ⟨B + 2,0,none⟩ (.int .i64 e)
theorem ARes.step {W:World} {B:Nat} {x:Array Value} {v:Value} {e:Int} (h:ARes W B x v e) (x':Array Value) (v':Value) (hs:x'.size = 2) :
  (W.setRow B x').cell? ⟨B + 1,0,none⟩ = some v ∧ (W.setRow B x').frozen? ⟨B + 1,0,none⟩ = false ∧ ((W.setRow B x').setCell ⟨B + 1,0,none⟩ v').cell? ⟨B + 2,0,none⟩ = some (.int .i64 e) ∧ ((W.setRow B x').setCell ⟨B + 1,0,none⟩ v').frozen? ⟨B + 2,0,none⟩ = false ∧
  ∀ e',ARes (setA W B x' v' e') B x' v' e':=by
 have h3:Boxed (W.setRow B x') (B + 1) 91 v:=(setRow_other _ _ _ _ (by omega)).trans h.r3
 have h4:Boxed ((W.setRow B x').setCell ⟨B + 1,0,none⟩ v') (B + 2) 31 (.int .i64 e):=(heap_setCell_other _ _ _ _ (show B + 2 ≠ B + 1 by omega)).trans ((setRow_other _ _ _ _ (by omega)).trans h.r4)
 refine ⟨h3.cell,h3.frozen,h4.cell,h4.frozen,fun e'=>⟨?_, ?_,h4.set _,hs⟩⟩
 ·exact (heap_setCell_other _ _ _ _ (show B ≠ B + 2 by omega)).trans ((heap_setCell_other _ _ _ _ (show B ≠ B + 1 by omega)).trans (setRow_heap _ _ _ _ _ _ h.r2))
 ·exact (heap_setCell_other _ _ _ _ (show B + 1 ≠ B + 2 by omega)).trans (h3.set v')
theorem setA_below {W0 W:World} {B b0:Nat} (hb:Below b0 W0 W) (h:b0 ≤ B) (x:Array Value) (v:Value) (e:Int):Below b0 W0 (setA W B x v e) :=
 ((below_setRow hb h x).setCell (p:=⟨B + 1,0,none⟩) (by show b0 ≤ B + 1;omega) v).setCell (p:=⟨B + 2,0,none⟩) (by show b0 ≤ B + 2;omega) _
theorem setA_keeps {W:World} {B:Nat} {x:Array Value} {v:Value} {e:Int} (h:ARes W B x v e) (x':Array Value) (v':Value) (e':Int) (b:Nat):KeepsFrom b W (setA W B x' v' e'):=by
 refine ⟨by unfold setA;simp,fun k o hk ho hc => ?_⟩
 have n1:k ≠ B:=fun e=>by subst e;rw [h.r2] at ho;cases ho;cases hc
 have n2:k ≠ B + 1:=fun e=>by subst e;rw [show W.heap[_]? = _ from h.r3] at ho;cases ho;cases hc
 have n3:k ≠ B + 2:=fun e=>by subst e;rw [show W.heap[_]? = _ from h.r4] at ho;cases ho;cases hc
 unfold setA
 exact (heap_setCell_other _ _ _ _ n3).trans ((heap_setCell_other _ _ _ _ n2).trans ((setRow_other _ _ _ _ n1).trans ho))
theorem all_results {tmps:Array Value} {w:World} {B:Nat} {x:Array Value} {v:Value} {e:Int} (h:ARes w B x v e) (h2:tmps.getD 2 undef = .pointer (some ⟨B,0,none⟩)) (h3:tmps.getD 3 undef = .pointer (some ⟨B + 1,0,none⟩)) (h4:tmps.getD 4 undef = .pointer (some ⟨B + 2,0,none⟩)) :
  (results Tryz.f104 tmps).run Tryz.prog w = .ok (.tuple #[.agg x,v,.int .i64 e]) w:=by
 have r2:=run_loadVar_row (P:=Tryz.prog) w B _ 155 x (0,0) _ h.r2 Tryz.underlying155 rfl (by rw [h.hs];exact infoBlk)
 have c3:=h.r3.cell
 have c4:=h.r4.cell
 have hr:(Tryz.f104).results = #[.cell 2 155,.cell 3 91,.cell 4 31]:=rfl
 have e3:(loadVar 91 ⟨B + 1,0,none⟩).run Tryz.prog w = .ok v w:=by go_simp
 have e4:(loadVar 31 ⟨B + 2,0,none⟩).run Tryz.prog w = .ok (.int .i64 e) w:=by go_simp
 simp [results,asAddr] at h2 h3 h4 ⊢
 simp [h2,h3,h4,e3,e4,r2]
end Go.Proofs.Herb
namespace Go.Proofs.Herb
open Go.RowKit
attribute [local go_sem] Oper.semAt_some
theorem blk_fuel {b:List UInt8} {l:List Item} (h:BlkOf b l):l.length ≤ (openB b).2:=by
 rw [blk_open h]
 show l.length ≤ (bUp l l.length).length
 have:∀ k,k ≤ (bUp l k).length:=by
  intro k
  induction k with
  | zero=>exact Nat.zero_le _
  | succ k ih =>
   rw [bUp_succ,List.length_append]
   have:=List.length_pos_iff.2 (itB_ne l k)
   omega
 exact this _
theorem blk_not {b:List UInt8} {pre rest:List (Item × Bool)} {x:Item × Bool} {N:Nat} (hN:N = (openB b).2) (hp:parseI (N + 1) nilI (b.take N) = pre ++ x :: rest) (hx:x.2 = false):¬ ∃ l,BlkOf b l:=by
 rintro ⟨l,h⟩
 have h1:=blk_parse h (N + 1) (by have:=blk_fuel h;omega)
 rw [← hN,hp] at h1
 have h2:x ∈ l.map fun x=>(x,true):=by rw [← h1];simp
 obtain ⟨y, -,rfl⟩:=List.mem_map.1 h2
 cases hx
theorem bridge1a {G A:Prop} (body:A → G) (main:A):G:=body main
structure BamI (w:World) (B b4 bb:Nat) (ob:Obj) (x:Array Value) (pre:List (Item × Bool)) (W:World):Prop where
 r2:W.heap[B]? = some (.cells x 155 (0,0))
 r4:Boxed W (B + 2) 31 (.int .i64 0)
 r3:∃ q c,Boxed W (B + 1) 91 (.slice q pre.length c) ∧ W.ownsRow (b4 + 2) 100 2 (.slice q pre.length c) pre.length (iCells (pre.map (·.1)))
 all:∀ y ∈ pre,y.2 = true
 blk:W.heap[bb]? = some ob
 below:Below w.heap.size w W
theorem BamI.stays (w:World) (B b4 bb:Nat) (ob:Obj) (x:Array Value) (pre:List (Item × Bool)):Stays (BamI w B b4 bb ob x pre):=by
 rintro A W ⟨h1,h2,⟨q,c,h3,h4⟩,h5,h6,h7⟩ hb
 exact ⟨(hb.block _ (lt_of_block h1)).trans h1,(hb.block _ h2.lt).trans h2,⟨q,c,(hb.block _ h3.lt).trans h3,own_below h4 hb⟩,h5,(hb.block _ (lt_of_block h6)).trans h6,h7.trans (hb.mono h7.size)⟩
theorem BamI.only (w:World) (B b4 bb:Nat) (ob:Obj) (x:Array Value) (hB:B + 2 < b4) (hbb:bb < b4) (hw:w.heap.size ≤ b4) (pre:List (Item × Bool)) (A W:World) (h:BamI w B b4 bb ob x pre A) (hr:Only (fun g=>g = b4 ∨ g = b4 + 1) A W):BamI w B b4 bb ob x pre W:=by
 obtain ⟨h1,h2,⟨q,c,h3,h4⟩,h5,h6,h7⟩:=h
 exact ⟨hr.same _ _ h1 (by omega),hr.same _ _ h2 (by omega),⟨q,c,hr.same _ _ h3 (by omega),own_only hr h4 (fun g hg e=>by have:=(own_lt2 h4 g hg).1;omega)⟩,h5,hr.same _ _ h6 (by omega),h7.trans (hr.below h7.size (fun g hg e=>by omega))⟩
theorem own_putObj2 {W:World} {base:Nat} {e:TypeId} {k n:Nat} {v:Value} {xs:List Value} (h:W.ownsRow base e k v n xs) {l:Nat} {o:Obj} (o':Obj) (ho:W.heap[l]? = some o) (hc:o.isCells = false):(W.putObj l o').ownsRow base e k v n xs :=
 own_keep2 h fun g hg=>World.putObj_heap_other (fun e=>by
  obtain ⟨_,h2⟩:=h
  rcases h2 with ⟨rfl,_⟩ | ⟨g',cap,cur,rfl,_,hh,_⟩
  ·cases hg
  ·cases hg
   subst e
   rw [ho] at hh
   cases hh
   cases hc)
theorem BamI.turns (w:World) (B b4 bb:Nat) (ob:Obj) (x:Array Value) (b0:Nat) (hbb:bb < b0) (hw:w.heap.size ≤ b0) (hB:B + 2 < b0) (pre:List (Item × Bool)):Turns b0 (BamI w B b4 bb ob x pre):=by
 rintro W l o o' ⟨h1,h2,⟨q,c,h3,h4⟩,h5,h6,h7⟩ hl ho hc
 exact ⟨(World.putObj_heap_other (by omega)).trans h1,boxed_putObj h2 o' ho hc,⟨q,c,boxed_putObj h3 o' ho hc,own_putObj2 h4 o' ho hc⟩,h5,(World.putObj_heap_other (by omega)).trans h6,below_putObj h7 (by omega) o' ho⟩
def BamX (w:World) (B:Nat) (bs:List UInt8) (c:Code) (W:World):Prop:=c = .ret ∧ (∃ x,ARes W B x (.slice none 0 0) 4 ∧ ∀ v ∈ x.toList,v.oneCell' = true) ∧ Below w.heap.size w W ∧ ¬ ∃ l,BlkOf bs l
set_option maxRecDepth 100000 in
set_option maxHeartbeats 4000000 in
theorem all_any (q:Option Addr) (m c:Nat) (bs:List UInt8) (w:World) (hl:bs.length = m) (hc:m ≤ c) (hcm:c ≤ maxLen) (hm:m ≤ 4194304) (hr:Rd w q (bs.map bv)) :
  Calls Tryz.prog 104 #[.slice q m c] w (BalP bs w.heap.size w):=by
 refine (callsIn_wide (n:=3)).1 (callsIn_of_wp_marks Tryz.func104 rfl trivial ?_ rfl)
 refine wpIn_wide.2 ?_
 simp only [Tryz.ntmps104,List.size_toArray,List.length_cons,List.length_nil,Nat.reduceAdd,Nat.reduceSub,Array.replicate_succ,Array.replicate_zero,List.push_toArray,List.append_toArray,List.nil_append,List.cons_append]
 have Hl:=hid hl
 have Hr:=hid hr
 clear hl hr
 go_wp2_with fail
 obtain ⟨B,hB⟩:∃ B,B = w.heap.size:=⟨_,rfl⟩
 obtain ⟨w1,hw1⟩:∃ w1,((w.alloc (.cells zBlk 155)).alloc (.cells #[.slice none 0 0] 91)).alloc (.cells #[.int .i64 0] 31) = w1:=⟨_,rfl⟩
 have hA1:Below w.heap.size w w1:=by rw [← hw1];exact (((Below.refl _ _).alloc (Nat.le_refl _) _).alloc (by simp) _).alloc (by simp;omega) _
 have hs1:w1.heap.size = B + 3:=by rw [← hw1,hB];simp
 have hR1:ARes w1 B zBlk (.slice none 0 0) 0:=by
  rw [← hw1,hB]
  refine ⟨?_, ?_, ?_,rfl⟩
  ·exact (Below.heap_alloc _ _ _ (by simp;omega)).trans ((Below.heap_alloc _ _ _ (by simp)).trans (heap_alloc_new w _))
  ·have h:=Boxed.new (w.alloc (.cells zBlk 155)) 91 (.slice none 0 0)
   rw [World.size_alloc] at h
   exact h.alloc _
  ·have h:=Boxed.new ((w.alloc (.cells zBlk 155)).alloc (.cells #[.slice none 0 0] 91)) 31 (.int .i64 0)
   simpa [World.size_alloc] using h
 unfold zBlk at hw1
 rw [hw1,show w.heap.size + 1 + 1 = B + 2 by omega,← hB]
 have hA1s:=hA1.size
 have HA1:=hid hA1
 have HR1:=hid hR1
 have HB:=hid hB
 clear hA1 hR1 hw1 hB
 refine (opened_any q m c bs w1 Hl.out hc hcm hm (Hr.out.below HA1.out)).mono ?_
 rintro e w2 ⟨hb2,hcase⟩
 have HB2:=hid hb2
 have HR2:=hid (HR1.out.below hb2)
 have hs2:=hb2.size
 clear hb2
 have fin:∀ (W:World) (x:Array Value) (v:Value) (e:Int) (tmps:Array Value) (P:Ending → World → Prop),ARes W B x v e → tmps.getD 2 undef = .pointer (some ⟨B,0,none⟩) → tmps.getD 3 undef = .pointer (some ⟨B + 1,0,none⟩) → tmps.getD 4 undef = .pointer (some ⟨B + 2,0,none⟩) →
   (∀ w',Shut w.heap.size W w' → P (.returned (.tuple #[.agg x,v,.int .i64 e])) w') → LeavesInM Fence.wide 3 Tryz.prog Tryz.f104 tmps P [] .returning W:=by
  intro W x v e tmps P h h2 h3 h4 hP
  refine leaves_marks (base:=w.heap.size) [] _ trivial (fun w' hs => ?_)
  have h':ARes w' B x v e:=⟨hs.cells _ _ _ _ h.r2,hs.cells _ _ _ _ h.r3,hs.cells _ _ _ _ h.r4,h.hs⟩
  exact ⟨_,all_results h' h2 h3 h4,hP w' hs⟩
 have HFin:=hid fin
 clear fin
 rcases hcase with ⟨hne,rfl⟩ | ⟨hz,⟨v,rfl,hv1⟩,hNm⟩
 ·obtain ⟨E,hE⟩:∃ E,E = (openB bs).1:=⟨_,rfl⟩
  rw [← hE] at hne ⊢
  have HNo:=hid (show ¬ ∃ l,BlkOf bs l from fun ⟨l,h⟩=>hne (by rw [hE,blk_open h]))
  have b1:(E != 0) = true:=by simpa using hne
  have HNe:=hid hne
  obtain ⟨w3,hw3⟩:∃ x,x = (w2.setRow B zBlk).setCell ⟨B + 2,0,none⟩ (.int .i64 E):=⟨_,rfl⟩
  have hr4:Boxed (w2.setRow B zBlk) (B + 2) 31 (.int .i64 0):=(setRow_other _ _ _ _ (by omega)).trans HR2.out.r4
  have hR3:ARes w3 B zBlk (.slice none 0 0) E:=by
   rw [hw3]
   exact ⟨(heap_setCell_other _ _ _ _ (show B ≠ B + 2 by omega)).trans (setRow_heap _ _ _ _ _ _ HR2.out.r2),(heap_setCell_other _ _ _ _ (show B + 1 ≠ B + 2 by omega)).trans ((setRow_other _ _ _ _ (by omega)).trans HR2.out.r3),hr4.set _,rfl⟩
  have hb3:Below w.heap.size w w3:=by
   rw [hw3]
   exact (below_setRow (HA1.out.trans (HB2.out.mono hA1s)) (by have:=HB.out;omega) _).setCell (p:=⟨B + 2,0,none⟩) (by show w.heap.size ≤ B + 2;have:=HB.out;omega) _
  have c4:=hr4.cell
  have f4:=hr4.frozen
  have f4':=HR2.out.r4.frozen
  have HR3:=hid hR3
  have HB3:=hid hb3
  have HW3:=hid hw3
  clear hE hne hw3 hr4 hR3 hb3
  go_upto_region 2 with (refine wpList_store_block rfl 155 _ _ rfl _ _ _ _ rfl rfl HR2.out.r2 rfl infoBlk (by simp [Value.oneCell',zBlk]) ?_)
  rw [← HW3.out]
  clear HW3 c4 f4 f4'
  have c4:=HR3.out.r4.cell
  have c3:=HR3.out.r3.cell
  have hrow:=HR3.out.r2
  have c20:w3.cell? ⟨B,0,none⟩ = some (.slice none 0 0):=(cell_of_row _ B 0 _ _ _ hrow).trans rfl
  have c21:w3.cell? ⟨B,1,none⟩ = some (.slice none 0 0):=(cell_of_row _ B 1 _ _ _ hrow).trans rfl
  clear hrow
  go_upto_region 3 with (fail)
  clear c3 c4 c20 c21
  obtain ⟨w4,hw4⟩:∃ x,x = w3.drew:=⟨_,rfl⟩
  obtain ⟨XX,hXX⟩:∃ x,x = zBlk:=⟨_,rfl⟩
  have HB4:=hid (show Below w.heap.size w w4 by rw [hw4];exact HB3.out.drew)
  have HR4:=hid (show ARes w4 B XX (.slice none 0 0) E by rw [hw4,hXX];exact HR3.out.below (Below.refl _ _).drew)
  have HX1:=hid (show ∀ v ∈ XX.toList,v.oneCell' = true by rw [hXX];simp [Value.oneCell',zBlk])
  have HXX:=hid hXX
  rw [← hXX]
  clear hXX
  have c4:=HR4.out.r4.cell
  obtain ⟨d3,g3,d4,g4,hfin⟩:=HR4.out.step XX (.slice none 0 0) HR4.out.hs
  have g3':=HR4.out.r3.frozen
  have g4':=HR4.out.r4.frozen
  have d4':(w4.setRow B XX).cell? ⟨B + 2,0,none⟩ = some (.int .i64 E):=(show Boxed (w4.setRow B XX) (B + 2) 31 (.int .i64 E) from (setRow_other _ _ _ _ (by omega)).trans HR4.out.r4).cell
  have HF:=hid (hfin E)
  rename_i K hK
  clear hfin
  refine (wpIn_wide (n:=3)).1 (wpIn_calm (wpIn_region_any (by kernel_rfl) ?_))
  try (change wpAnyIn _ _ _ _ _ _ _ _ _ (World.drew _))
  rw [← hw4]
  clear hw4
  apply bridge1a
  ·intro hmain
--G3
   refine wpAnyIn_ready (rs:=[0,1]) (by kernel_rfl) (by simp) ?_
   refine AllReadyIn.cons rfl (fun K hK => ?_) ?_
   ·skip
    refine Eq.mpr (if_pos rfl) ?_
    refine opIn_load_row 155 (.tmp 2) rfl B rfl XX (run_loadVar_row _ _ 155 _ _ _ _ HR4.out.r2 Tryz.underlying155 rfl (by rw [HR4.out.hs];exact infoBlk)) ?_
    refine hK _ _ ?_
    clear hK K
    refine wpAnyIn_ready (rs:=[1,2]) (by kernel_rfl) (by simp) ?_
    refine AllReadyIn.cons rfl (fun K hK => ?_) ?_
    ·skip
     go_simp
     refine hK _ _ ?_
     clear hK K
     refine wpAnyIn_ready (rs:=[2]) (by kernel_rfl) (by simp) ?_
     refine AllReadyIn.cons rfl (fun K hK => ?_) ?_
     ·skip
      refine Eq.mpr (if_pos rfl) ?_
      refine opIn_store_block 155 _ _ rfl _ _ _ _ rfl rfl HR4.out.r2 rfl (by rw [HR4.out.hs];exact infoBlk) HX1.out ?_
      refine hK _ _ ?_
      clear hK K
      refine wpAnyIn_ready (rs:=[3]) (by kernel_rfl) (by simp) ?_
      refine AllReadyIn.cons rfl (fun K hK => ?_) ?_
      ·skip
       go_simp
       refine hK _ _ ?_
       clear hK K
       refine wpAnyIn_ready (rs:=[4]) (by kernel_rfl) (by simp) ?_
       refine AllReadyIn.cons rfl (fun K hK => ?_) ?_
       ·skip
        go_simp
        refine hK _ _ ?_
        clear hK K
        refine wpAnyIn_done (by kernel_rfl) ?_ _
        exact hmain
       exact AllReadyIn.nil
      exact AllReadyIn.nil
     exact AllReadyIn.nil
    refine AllReadyIn.cons rfl (fun K hK => ?_) ?_
    ·skip
     refine Eq.mpr (if_pos rfl) ?_
     refine opIn_store_block 155 _ _ rfl _ _ _ _ rfl rfl HR4.out.r2 rfl (by rw [HR4.out.hs];exact infoBlk) HX1.out ?_
     refine hK _ _ ?_
     clear hK K
     refine wpAnyIn_ready (rs:=[1,3]) (by kernel_rfl) (by simp) ?_
     refine AllReadyIn.cons rfl (fun K hK => ?_) ?_
     ·skip
      go_simp
      refine hK _ _ ?_
      clear hK K
      refine wpAnyIn_ready (rs:=[3]) (by kernel_rfl) (by simp) ?_
      refine AllReadyIn.cons rfl (fun K hK => ?_) ?_
      ·skip
       go_simp
       refine hK _ _ ?_
       clear hK K
       refine wpAnyIn_ready (rs:=[4]) (by kernel_rfl) (by simp) ?_
       refine AllReadyIn.cons rfl (fun K hK => ?_) ?_
       ·skip
        go_simp
        refine hK _ _ ?_
        clear hK K
        refine wpAnyIn_done (by kernel_rfl) ?_ _
        exact hmain
       exact AllReadyIn.nil
      exact AllReadyIn.nil
     refine AllReadyIn.cons rfl (fun K hK => ?_) ?_
     ·skip
      go_simp
      refine hK _ _ ?_
      clear hK K
      refine wpAnyIn_ready (rs:=[1]) (by kernel_rfl) (by simp) ?_
      refine AllReadyIn.cons rfl (fun K hK => ?_) ?_
      ·skip
       go_simp
       refine hK _ _ ?_
       clear hK K
       refine wpAnyIn_ready (rs:=[4]) (by kernel_rfl) (by simp) ?_
       refine AllReadyIn.cons rfl (fun K hK => ?_) ?_
       ·skip
        go_simp
        refine hK _ _ ?_
        clear hK K
        refine wpAnyIn_done (by kernel_rfl) ?_ _
        exact hmain
       exact AllReadyIn.nil
      exact AllReadyIn.nil
     exact AllReadyIn.nil
    exact AllReadyIn.nil
   refine AllReadyIn.cons rfl (fun K hK => ?_) ?_
   ·skip
    go_simp
    refine hK _ _ ?_
    clear hK K
    refine wpAnyIn_ready (rs:=[0]) (by kernel_rfl) (by simp) ?_
    refine AllReadyIn.cons rfl (fun K hK => ?_) ?_
    ·skip
     refine Eq.mpr (if_pos rfl) ?_
     refine opIn_load_row 155 (.tmp 2) rfl B rfl XX (run_loadVar_row _ _ 155 _ _ _ _ HR4.out.r2 Tryz.underlying155 rfl (by rw [HR4.out.hs];exact infoBlk)) ?_
     refine hK _ _ ?_
     clear hK K
     refine wpAnyIn_ready (rs:=[2]) (by kernel_rfl) (by simp) ?_
     refine AllReadyIn.cons rfl (fun K hK => ?_) ?_
     ·skip
      refine Eq.mpr (if_pos rfl) ?_
      refine opIn_store_block 155 _ _ rfl _ _ _ _ rfl rfl HR4.out.r2 rfl (by rw [HR4.out.hs];exact infoBlk) HX1.out ?_
      refine hK _ _ ?_
      clear hK K
      refine wpAnyIn_ready (rs:=[3]) (by kernel_rfl) (by simp) ?_
      refine AllReadyIn.cons rfl (fun K hK => ?_) ?_
      ·skip
       go_simp
       refine hK _ _ ?_
       clear hK K
       refine wpAnyIn_ready (rs:=[4]) (by kernel_rfl) (by simp) ?_
       refine AllReadyIn.cons rfl (fun K hK => ?_) ?_
       ·skip
        go_simp
        refine hK _ _ ?_
        clear hK K
        refine wpAnyIn_done (by kernel_rfl) ?_ _
        exact hmain
       exact AllReadyIn.nil
      exact AllReadyIn.nil
     exact AllReadyIn.nil
    exact AllReadyIn.nil
   exact AllReadyIn.nil
--G3E
  ·refine hK _ _ ?_
   clear c4 d3 g3 d4 g4 g3' g4' d4'
   go_wp2_with fail
   refine HFin.out _ _ _ _ _ _ HF.out rfl rfl rfl (fun w' hs => ?_)
   exact ⟨(setA_below HB4.out (by have:=HB.out;omega) _ _ _).trans (hs.below _ (Nat.le_refl _)),XX,HR4.out.hs,HX1.out,.inl ⟨HNo.out,E,HNe.out,rfl⟩⟩
 ·have hm12:12 ≤ m:=by
   rcases Nat.lt_or_ge m 12 with h | h
   ·exfalso
    unfold openB at hz
    rw [Hl.out,if_pos h] at hz
    simp at hz
   ·exact h
  obtain ⟨N,hN⟩:∃ N,N = (openB bs).2:=⟨_,rfl⟩
  obtain ⟨bb,off,rfl,hbbl, -⟩:=Hr.out.cellB (Below.refl _ w) (k:=0) (by rw [List.length_map,Hl.out];omega)
  obtain ⟨ob,hob⟩:∃ ob,w.heap[bb]? = some ob:=⟨_,Array.getElem?_eq_getElem hbbl⟩
  rw [← hN] at hNm ⊢
  obtain ⟨XA,hXA⟩:∃ x:Array Value,x = #[.slice (some ⟨bb,off,none⟩) N N,v]:=⟨_,rfl⟩
  have hXs:XA.size = 2:=by rw [hXA];rfl
  have hX1:∀ u ∈ XA.toList,u.oneCell' = true:=by
   rw [hXA];intro u hu
   simp only [List.mem_cons,List.not_mem_nil,or_false] at hu
   rcases hu with rfl | rfl
   ·rfl
   ·exact hv1
  obtain ⟨w3,hw3⟩:∃ x,x = (w2.setRow B XA).setCell ⟨B + 2,0,none⟩ (.int .i64 0):=⟨_,rfl⟩
  have hr4:Boxed (w2.setRow B XA) (B + 2) 31 (.int .i64 0):=(setRow_other _ _ _ _ (by omega)).trans HR2.out.r4
  have hR3:ARes w3 B XA (.slice none 0 0) 0:=by
   rw [hw3]
   exact ⟨(heap_setCell_other _ _ _ _ (show B ≠ B + 2 by omega)).trans (setRow_heap _ _ _ _ _ _ HR2.out.r2),(heap_setCell_other _ _ _ _ (show B + 1 ≠ B + 2 by omega)).trans ((setRow_other _ _ _ _ (by omega)).trans HR2.out.r3),hr4.set _,hXs⟩
  have hb3:Below w.heap.size w w3:=by
   rw [hw3]
   exact (below_setRow (HA1.out.trans (HB2.out.mono hA1s)) (by have:=HB.out;omega) _).setCell (p:=⟨B + 2,0,none⟩) (by show w.heap.size ≤ B + 2;have:=HB.out;omega) _
  have hs3:w3.heap.size = w2.heap.size:=by rw [hw3];simp
  have c4:=hr4.cell
  have f4:=hr4.frozen
  have f4':=HR2.out.r4.frozen
  have HR3:=hid hR3
  have HB3:=hid hb3
  have HW3:=hid hw3
  have HXA:=hid hXA
  have HXs:=hid hXs
  have HX1:=hid hX1
  have HN:=hid hN
  have HOb:=hid hob
  have HZ:=hid hz
  have Hv1:=hid hv1
  rw [← hXA]
  clear hw3 hr4 hR3 hb3 hXA hXs hX1 hN hob hz hv1
  go_upto_region 2 with (refine wpList_store_block rfl 155 _ _ rfl _ _ _ _ rfl rfl HR2.out.r2 (by rw [HXs.out];rfl) (by rw [HXs.out];exact infoBlk) HX1.out ?_)
  rw [← HW3.out]
  clear HW3 c4 f4 f4'
  have c4:=HR3.out.r4.cell
  have hrow:=HR3.out.r2
  rw [HXA.out] at hrow
  have c20:w3.cell? ⟨B,0,none⟩ = some (.slice (some ⟨bb,off,none⟩) N N):=(cell_of_row _ B 0 _ _ _ hrow).trans rfl
  have c21:w3.cell? ⟨B,1,none⟩ = some v:=(cell_of_row _ B 1 _ _ _ hrow).trans rfl
  clear hrow
  go_wp2_with fail
  rw [← HXA.out]
  refine (from_any XA 0 w3 HXs.out HX1.out).mono ?_
  rintro e w4 ⟨rfl,hw4⟩
  obtain ⟨bx,hbx⟩:∃ x,x = w3.heap.size:=⟨_,rfl⟩
  obtain ⟨bat,hbat⟩:∃ x,x = w3.heap.size + 1:=⟨_,rfl⟩
  have hb4:Below w3.heap.size w3 w4:=by rw [hw4];exact ((Below.refl _ _).alloc (Nat.le_refl _) _).alloc (by simp) _
  have hs4:w4.heap.size = w3.heap.size + 2:=by rw [hw4];simp
  have hrx:w4.heap[bx]? = some (.cells #[.slice (some ⟨bb,off,none⟩) N N,v] 155 (0,0)):=by
   rw [hw4,hbx,← HXA.out];exact (Below.heap_alloc _ _ _ (by simp)).trans (heap_alloc_new w3 _)
  have hrt:Boxed w4 bat 3 (.int .i64 0):=by
   rw [hw4,hbat]
   have h:=Boxed.new (w3.alloc (.cells XA 155)) 3 (.int .i64 0)
   rw [World.size_alloc] at h
   exact h
  clear hw4 c4 c20 c21
  rw [← hbat,← hbx]
  have Hbx:=hid hbx
  have Hbat:=hid hbat
  have Hs3:=hid hs3
  have Hs4:=hid hs4
  clear hbx hbat hs3 hs4
  go_wp2_with fail
  have hbx:=Hbx.out
  have hbat:=Hbat.out
  have hs3:=Hs3.out
  have hs4:=Hs4.out
  obtain ⟨b4,hb4e⟩:∃ x,x = w4.heap.size + 2:=⟨_,rfl⟩
  have hb04:Below w.heap.size w w4:=HB3.out.trans (hb4.mono HB3.out.size)
  have hBw:=HB.out
  have hws3:=HB3.out.size
  have hR4:=HR3.out.below hb4
  have hI0:BamI w B b4 bb ob XA [] w4:=⟨hR4.r2,hR4.r4,⟨none,0,hR4.r3,World.ownsRow_nil _ _ _ _⟩,(fun y hy=>by cases hy),(hb04.block bb hbbl).trans HOb.out,hb04⟩
  have hfr:∀ W,Below w4.heap.size w4 W → W.heap.size = w4.heap.size + 2 → (W.heap.size = b4 ∧ W.heap[bx]? = some (.cells #[.slice (some ⟨bb,off,none⟩) N N,v] 155 (0,0)) ∧ Boxed W bat 3 (.int .i64 0) ∧ Rd W (some ⟨bb,off,none⟩) ((bs.take N).map bv)):=fun W hb hs=>by
   refine ⟨by omega,(hb.block _ (lt_of_block hrx)).trans hrx,(hb.block _ hrt.lt).trans hrt, ?_⟩
   rw [List.map_take]
   exact ((Hr.out.below hb04).below hb).take N
  have HI0:=hid hI0
  have HFr:=hid hfr
  have hbat4:bat < w4.heap.size:=by omega
  have hbb4:bb < w4.heap.size:=by omega
  have hw4w:w.heap.size ≤ w4.heap.size:=by omega
  have hB4:B + 2 < w4.heap.size:=by omega
  have hBb4:B + 2 < b4:=by omega
  have hbbb4:bb < b4:=by omega
  have hwb4:w.heap.size ≤ b4:=by omega
  obtain ⟨F,hF⟩:∃ F:Item × Bool → Nat → Act,F = fun x X => { tmps := #[.slice (some ⟨bb,off,none⟩) m c,undef,.pointer (some ⟨B,0,none⟩),.pointer (some ⟨B + 1,0,none⟩),.pointer (some ⟨B + 2,0,none⟩),.pointer (some ⟨X,0,none⟩),.bool x.2,undef,undef,.tuple #[.agg XA,.int .i64 0],.slice (some ⟨bb,off,none⟩) m c,.tuple #[.agg XA,.int .i64 0],.agg XA,.int .i64 0,.int .i64 0,.bool false,undef,undef,.agg XA,.func (.func 134) #[] #[.pointer (some ⟨bx,0,none⟩),.pointer (some ⟨bat,0,none⟩)],.agg #[.string x.1.key,.string x.1.val],.bool x.2,undef,undef,undef,undef,undef,undef,undef,undef,undef,undef,undef,undef,undef,undef,undef,undef,undef,undef,undef,undef,undef,undef,undef],defers:=[] }:=⟨_,rfl⟩
  have HF:=hid hF
  have hb4g:w4.heap.size + 2 ≤ b4:=by omega
  have hBge:w.heap.size ≤ B:=by omega
  clear hb4 hrx hrt hI0 hfr hR4 hF hbx hbat hs3 hs4 hb4e hBw Hbx Hbat Hs3 Hs4 hs1 hs2 hA1s
  refine wpIn_wide.1 (wpIn_range_stop3 (n:=3) rfl (by omega) (gf:=134) (lb := #[.pointer (some ⟨bx,0,none⟩),.pointer (some ⟨bat,0,none⟩)]) rfl trivial (enters_of Tryz.func134 (by kernel_rfl) rfl)
   (fun _=>rfl) (from1_in 2 b4 bx bat bb off N v (by omega) (bs.take N) (by rw [List.length_take,Hl.out];omega) (by omega) hbbb4) (Nat.zero_le _) HFr.out
   (fun A B C h k=>⟨KeepB.trans A B C h.1 k.1,KeepB.trans A B C h.2.1 k.2.1,KeepB.trans A B C h.2.2 k.2.2⟩) ?kb
   (fun A B h=>h.keeps _) (BamI w B b4 bb ob XA) (fun c _ W=>BamX w B bs c W) (BamI.stays _ _ _ _ _ _) (BamI.only _ _ _ _ _ _ hBb4 hbbb4 hwb4) ?xr (BamI.turns _ _ _ _ _ _ _ hbb4 hw4w hB4) ?xt (fun s x W l o o' h hl ho hc=>⟨h.1,by have:=h.2;simpa [World.putObj] using this⟩)
   (fun s x A W h hb=>⟨h.1,Nat.le_trans h.2 hb.size⟩) ?kl HI0.out (fun x a W=>∃ X,a = F x X ∧ W.heap[X]? = some (.cells #[.string x.1.key,.string x.1.val] 100 (0,0)) ∧ w4.heap.size ≤ X) ?ap ?assign ?rbody ?rdone ?rstop)
  case kb=>exact fun W l o o' h1 h2 _ _=>⟨KeepB.putObj W l o o' (by omega),KeepB.putObj W l o o' (by omega),KeepB.putObj W l o o' (by omega)⟩
  case xr =>
   rintro c _ A W ⟨rfl,⟨x,h1,h2⟩,h3,h4⟩ hr
   exact ⟨rfl,⟨x,⟨hr.same _ _ h1.r2 (by omega),hr.same _ _ h1.r3 (by omega),hr.same _ _ h1.r4 (by omega),h1.hs⟩,h2⟩,h3.trans (hr.below h3.size (fun g hg e=>by omega)),h4⟩
  case xt =>
   rintro c _ W l o o' ⟨rfl,⟨x,h1,h2⟩,h3,h4⟩ hl ho hc
   exact ⟨rfl,⟨x,h1.putObj o' ho hc,h2⟩,below_putObj h3 (by omega) o' ho,h4⟩
  case kl =>
   have k:∀ b (A W:World),Below A.heap.size A W → KeepB b A W:=fun b A W hb o ho=>(hb.block _ (Array.getElem?_eq_some_iff.1 ho).1).trans ho
   exact fun A W hb=>⟨k _ _ _ hb,k _ _ _ hb,k _ _ _ hb⟩
  case ap =>
   rintro x a W l o o' ⟨X,h1,h2,h3⟩ hl ho hc
   exact ⟨X,h1,(World.putObj_heap_other (fun e=>by subst e;rw [ho] at h2;cases h2;cases hc)).trans h2,h3⟩
  case assign =>
   intro l x W K hs hK
   have hx:=heap_alloc_new W (.cells #[.string ⟨#[]⟩,.string ⟨#[]⟩] 100)
   have HK:=hid hK
   clear hK
   gi_wp2_with (refine wpListIn_store_block rfl 100 _ _ rfl _ _ _ _ rfl rfl hx rfl infoI2 (by simp [Value.oneCell']) ?_)
   refine HK.out _ _ ⟨W.heap.size, ?_,setRow_heap _ _ _ _ _ _ hx,hs⟩ (below_setRow ((Below.refl _ _).alloc (Nat.le_refl _) _) (Nat.le_refl _) _)
   rw [HF.out]
  case rbody =>
   rintro l pre x a' W hl hI ⟨⟨rest,hp⟩,hbs⟩ ⟨X,rfl,hX,hXl⟩
   rw [HF.out]
   dsimp only
   obtain ⟨q0,c0,hr3,hown⟩:=hI.r3
   have hR:ARes W B XA (.slice q0 pre.length c0) 0:=⟨hI.r2,hr3,hI.r4,HXs.out⟩
   have hlen:pre.length ≤ 4194304:=by
    have h:=(parse_sizes (N + 1) nilI (bs.take N)).1
    rw [hp,List.length_append,List.length_take] at h
    omega
   obtain ⟨bl,hbl⟩:∃ b,b = x.2:=⟨_,rfl⟩
   have HI:=hid hI
   have HX:=hid hX
   have HR:=hid hR
   have Hp:=hid hp
   have Hown:=hid hown
   rw [← hbl]
   have Hbl:=hid hbl
   clear hI hX hR hp hown hr3 hbl
   cases bl with
   | false =>
    have hrow:=HR.out.r2
    rw [HXA.out] at hrow
    have c20:W.cell? ⟨B,0,none⟩ = some (.slice (some ⟨bb,off,none⟩) N N):=(cell_of_row _ B 0 _ _ _ hrow).trans rfl
    have c21:W.cell? ⟨B,1,none⟩ = some v:=(cell_of_row _ B 1 _ _ _ hrow).trans rfl
    clear hrow
    obtain ⟨d3,g3,d4,g4,hfin⟩:=HR.out.step XA (.slice none 0 0) HXs.out
    have HFi:=hid hfin
    clear hfin
    have hX1':=HX1.out
    rw [HXA.out] at hX1' d3 g3 d4 g4
    gi_wp2_with (refine wpListIn_store_block rfl 155 _ _ rfl _ _ _ _ rfl rfl HR.out.r2 (by rw [HXs.out];rfl) infoBlk hX1' ?_)
    rw [← HXA.out]
    refine ⟨setA_keeps HR.out _ _ _ _,rfl,⟨XA,HFi.out 4,HX1.out⟩,setA_below HI.out.below hBge _ _ _, ?_⟩
    exact blk_not HN.out Hp.out Hbl.out.symm
   | true =>
    have hW0:=HI.out.below.size
    obtain ⟨M,hM⟩:∃ M,M = pre.length:=⟨_,rfl⟩
    have hMl:M ≤ 4194304:=by omega
    rw [← hM] at HR Hown
    have x3:=HR.out.r3
    have c3:=x3.cell
    have x0:W.cell? ⟨X,0,none⟩ = some (.string x.1.key):=(cell_of_row _ X 0 _ _ _ HX.out).trans rfl
    have x1:W.cell? ⟨X,1,none⟩ = some (.string x.1.val):=(cell_of_row _ X 1 _ _ _ HX.out).trans rfl
    obtain ⟨WA,hWA⟩:∃ y,y = W.alloc (.cells #[.string x.1.key,.string x.1.val] 100):=⟨_,rfl⟩
    have hbA:Below W.heap.size W WA:=by rw [hWA];exact (Below.refl _ _).alloc (Nat.le_refl _) _
    have c3b:WA.cell? ⟨B + 1,0,none⟩ = some (.slice q0 M c0):=Boxed.cell ((hbA.block _ x3.lt).trans x3)
    have hoa:WA.ownsRow (b4 + 2) 100 2 (.slice q0 M c0) M (iCells (pre.map (·.1))):=own_below Hown.out hbA
    have hsrc:Src Tryz.prog 2 91 (.slice (some ⟨W.heap.size,0,none⟩) 1 1) 1 [.string x.1.key,.string x.1.val] WA:=by
     rw [hWA]
     exact src_rd (by decide) Tryz.underlying91 1 rfl (Rd.new W [.string x.1.key,.string x.1.val] 100) (by simp [Value.oneCell'])
    have hsz:b4 + 2 ≤ WA.heap.size:=Nat.le_trans hbs hbA.size
    obtain ⟨Hst,hHst⟩:∃ H:Option Addr → Nat → World → Prop,H = fun q6 c6 W5=>BoxStep W (W5.setCell ⟨B + 1,0,none⟩ (.slice q6 (M + 1) c6)) (B + 1) (b4 + 2) w.heap.size 91 100 2 (.slice q0 M c0) (.slice q6 (M + 1) c6) (M + 1) (iCells ((pre ++ [x]).map (·.1))):=⟨_,rfl⟩
    have hst:∀ q6 c6 W5,W5.ownsRow (b4 + 2) 100 2 (.slice q6 (M + 1) c6) (M + 1) (iCells (pre.map (·.1)) ++ [.string x.1.key,.string x.1.val]) → WA.grownBy W5 (Value.ownBlock (.slice q0 M c0)) → W5.cell? ⟨B + 1,0,none⟩ = some (.slice q0 M c0) ∧ W5.frozen? ⟨B + 1,0,none⟩ = false ∧ Hst q6 c6 W5:=by
     intro q6 c6 W5 h1 h2
     have h1':W5.ownsRow (b4 + 2) 100 2 (.slice q6 (M + 1) c6) (M + 1) (iCells ((pre ++ [x]).map (·.1))):=by rw [List.map_append,iCells_append];exact h1
     obtain ⟨k1,k2⟩:=box_step (b0:=w.heap.size) x3 Hown.out hbA h1' h2 (by decide) (by omega) (by omega) (by omega)
     rw [hHst]
     exact ⟨k1.cell,k1.frozen,k2⟩
    subst hWA
    have HOa:=hid hoa
    have HSrc:=hid hsrc
    have HSz:=hid hsz
    have HSt:=hid hst
    have HHst:=hid hHst
    have HM:=hid hM
    have HBa:=hid hbA
    clear hoa hsrc hsz hst hHst hM hbA x3
    gi_wp2_with (gi_at_builtin;refine wpListIn_append_src rfl (.tmp 25) (.tmp 27) 91 91 rfl (b4 + 2) 100 (.agg #[.string ⟨#[]⟩,.string ⟨#[]⟩]) 2 32 Tryz.underlying91 infoItem rfl (by decide) q0 M c0 _ rfl HOa.out _ 1 [.string x.1.key,.string x.1.val] rfl HSrc.out (by unfold maxLen;omega) (by omega) HSz.out ?_;intro q6 c6 W5 h1 h2 h3;obtain ⟨c11,f11,hst⟩:=HSt.out q6 c6 W5 h1 h2)
    rw [HHst.out] at hst
    have hlo:=own_lt2 Hown.out
    clear h1 h2 h3 c11 f11
    obtain ⟨W8,hW8⟩:∃ x,x = W5.setCell ⟨B + 1,0,none⟩ (.slice q6 (M + 1) c6):=⟨_,rfl⟩
    rw [← hW8] at hst ⊢
    clear hW8
    have far:∀ g,g < b4 + 2 → g ≠ B + 1 → W8.heap[g]? = W.heap[g]?:=fun g h1 h2=>hst.far g (by omega) h2 (fun e=>by have:=(hlo g e).1;omega)
    have kk:∀ g,g < b4 + 2 → g ≠ B + 1 → KeepB g W W8:=fun g h1 h2 o ho=>(far g h1 h2).trans ho
    refine ⟨hst.keeps _,⟨kk b4 (by omega) (by omega),kk (b4 + 1) (by omega) (by omega),kk bb (by omega) (by omega)⟩, ?_⟩
    have hn:(pre ++ [x]).length = M + 1:=by rw [List.length_append,HM.out];rfl
    refine ⟨(far B (by omega) (by omega)).trans HI.out.r2,(far (B + 2) (by omega) (by omega)).trans HI.out.r4,⟨q6,c6, ?_, ?_⟩,fun y hy => ?_,(far bb (by omega) (by omega)).trans HI.out.blk,HI.out.below.trans hst.below⟩
    ·rw [hn];exact hst.box
    ·rw [hn];exact hst.own
    ·rcases List.mem_append.1 hy with h | h
     ·exact HI.out.all y h
     ·rw [List.mem_singleton] at h;rw [h];exact Hbl.out.symm
  case rdone =>
   intro D xs W hD hxs hW hD0
   obtain ⟨q0,c0,hr3,hown⟩:=hW.r3
   have hR:ARes W B XA (.slice q0 xs.length c0) 0:=⟨hW.r2,hr3,hW.r4,HXs.out⟩
   obtain ⟨ys,hys⟩:∃ ys:List Item,ys = xs.map (·.1):=⟨_,rfl⟩
   obtain ⟨M,hM⟩:∃ M,M = xs.length:=⟨_,rfl⟩
   rw [← hys] at hown
   rw [← hM] at hown hR
   have hyl:ys.length = M:=by rw [hys,List.length_map,hM]
   have hall:=hW.all
   have hxy:xs = ys.map fun x=>(x,true):=by
    rw [hys,List.map_map]
    conv=>lhs;rw [← List.map_id xs]
    exact List.map_congr_left fun y hy=>by
     have:=hall y hy
     show y = (y.1,true)
     rw [← this]
   have hm65:m ≤ 65536:=by
    rcases Nat.lt_or_ge 65536 m with h | h
    ·exfalso
     have hz:=HZ.out
     unfold openB at hz
     rw [Hl.out,if_neg (by omega)] at hz
     split at hz
     ·simp at hz
     ·simp at hz
    ·exact h
   have hps:=parse_sizes (N + 1) nilI (bs.take N)
   rw [← hxs] at hps
   have hbl:=hW.below
   have hws:=hbl.size
   obtain ⟨a,c1,e,hc1,hc2,hrd, -⟩:=(Fr.of_own hown).shape
   cases e
   have HRd:=hid hrd
   clear hrd
   have HR:=hid hR
   have Hown:=hid hown
   have HbW:=hid hbl
   have HD0:=hid hD0
   have Hxs:=hid hxs
   have Hxy:=hid hxy
   have c3:=hR.r3.cell
   have HPs:=hid hps
   have hysz:∀ x ∈ ys,x.key.size ≤ 100000 ∧ x.val.size ≤ 100000:=fun x hx=>by
    rw [hys] at hx
    obtain ⟨y,hy,rfl⟩:=List.mem_map.1 hx
    have h1:=hps.2 y hy
    rw [List.length_take] at h1
    have h2:nilI.key.size = 0:=rfl
    have h3:nilI.val.size = 0:=rfl
    omega
   have hM1:M ≤ 100000:=by
    have h1:=hps.1
    rw [List.length_take] at h1
    omega
   have HYs:=hid hysz
   have HYl:=hid hyl
   clear hW hR hown hbl hD0 hxs hxy hr3 hall hps hysz hys hM hyl
   go_wp2_with fail
   refine (bput_any q0 M c0 ys W HYl.out hM1 HRd.out HYs.out).mono ?_
   rintro e w5 ⟨hb5,hcase⟩
   have HNl:=hid (show ∀ l,BlkOf bs l → l = ys from fun l h=>by
    have h1:=blk_parse h (N + 1) (by have:=blk_fuel h;have:=HN.out;omega)
    rw [← HN.out,← Hxs.out,Hxy.out] at h1
    have h2:=congrArg (List.map Prod.fst) h1
    simpa [List.map_map,Function.comp_def] using h2.symm)
   have HB5:=hid (HbW.out.trans (hb5.mono hws))
   have HR5:=hid (HR.out.below hb5)
   have HD5:=hid ((hb5.block D (Array.getElem?_eq_some_iff.1 HD0.out).1).trans HD0.out)
   have HRd5:=hid (HRd.out.below hb5)
   have HC5:=hid hb5
   clear hb5 c3
   rcases hcase with ⟨hnr,rfl⟩ | ⟨hr5,hlong,rfl⟩ | ⟨hr5,hshort,q5,rfl,hfr⟩
   ·have HNo:=hid (show ¬ ∃ l,BlkOf bs l from fun ⟨l,h⟩=>hnr (HNl.out l h ▸ h.1))
    clear hnr
    have hrow:=HR5.out.r2
    rw [HXA.out] at hrow
    have c20:w5.cell? ⟨B,0,none⟩ = some (.slice (some ⟨bb,off,none⟩) N N):=(cell_of_row _ B 0 _ _ _ hrow).trans rfl
    have c21:w5.cell? ⟨B,1,none⟩ = some v:=(cell_of_row _ B 1 _ _ _ hrow).trans rfl
    clear hrow
    obtain ⟨d3,g3,d4,g4,hfin⟩:=HR5.out.step XA (.slice none 0 0) HXs.out
    have HFi:=hid hfin
    clear hfin
    have hX1':=HX1.out
    rw [HXA.out] at hX1' d3 g3 d4 g4
    go_wp2_with (refine wpList_store_block rfl 155 _ _ rfl _ _ _ _ rfl rfl HR5.out.r2 (by rw [HXs.out];rfl) infoBlk hX1' ?_)
    rw [← HXA.out]
    refine leaves_marks (base:=w.heap.size) _ _ ⟨⟨D,rfl,by omega,(setA_keeps HR5.out _ _ _ 0).same D _ (Nat.zero_le _) HD5.out rfl,fun d hd=>by cases hd⟩,trivial⟩ (fun w' hs => ?_)
    have h1:=HFi.out 4
    have h':ARes w' B XA (.slice none 0 0) 4:=⟨hs.cells _ _ _ _ h1.r2,hs.cells _ _ _ _ h1.r3,hs.cells _ _ _ _ h1.r4,h1.hs⟩
    exact ⟨_,all_results h' rfl rfl rfl,(setA_below HB5.out hBge _ _ _).trans (hs.below _ (Nat.le_refl _)),XA,HXs.out,HX1.out,.inl ⟨HNo.out,4,by decide,rfl⟩⟩
   ·have HNo:=hid (show ¬ ∃ l,BlkOf bs l from fun ⟨l,h⟩=>by
     have h1:=HNl.out l h
     subst h1
     have h2:=h.2.1
     have h3:=h.2.2
     rw [h2] at hlong
     omega)
    clear hr5 hlong
    have hrow:=HR5.out.r2
    rw [HXA.out] at hrow
    have c20:w5.cell? ⟨B,0,none⟩ = some (.slice (some ⟨bb,off,none⟩) N N):=(cell_of_row _ B 0 _ _ _ hrow).trans rfl
    have c21:w5.cell? ⟨B,1,none⟩ = some v:=(cell_of_row _ B 1 _ _ _ hrow).trans rfl
    clear hrow
    obtain ⟨d3,g3,d4,g4,hfin⟩:=HR5.out.step XA (.slice none 0 0) HXs.out
    have HFi:=hid hfin
    clear hfin
    have hX1':=HX1.out
    rw [HXA.out] at hX1' d3 g3 d4 g4
    go_wp2_with (refine wpList_store_block rfl 155 _ _ rfl _ _ _ _ rfl rfl HR5.out.r2 (by rw [HXs.out];rfl) infoBlk hX1' ?_)
    rw [← HXA.out]
    refine leaves_marks (base:=w.heap.size) _ _ ⟨⟨D,rfl,by omega,(setA_keeps HR5.out _ _ _ 0).same D _ (Nat.zero_le _) HD5.out rfl,fun d hd=>by cases hd⟩,trivial⟩ (fun w' hs => ?_)
    have h1:=HFi.out 4
    have h':ARes w' B XA (.slice none 0 0) 4:=⟨hs.cells _ _ _ _ h1.r2,hs.cells _ _ _ _ h1.r3,hs.cells _ _ _ _ h1.r4,h1.hs⟩
    exact ⟨_,all_results h' rfl rfl rfl,(setA_below HB5.out hBge _ _ _).trans (hs.below _ (Nat.le_refl _)),XA,HXs.out,HX1.out,.inl ⟨HNo.out,4,by decide,rfl⟩⟩
   ·obtain ⟨L,hL⟩:∃ L,L = (bAll ys).length:=⟨_,rfl⟩
    rw [← hL] at hshort hfr ⊢
    have HL:=hid hL
    have HFr5:=hid hfr
    have HRise:=hid hr5
    clear hL hfr hr5
    go_wp2_with fail
    refine (seq_any (some ⟨bb,off,none⟩) q5 m c L L bs (bAll ys) w5 Hl.out HL.out.symm (by omega) (by omega) (Hr.out.below HB5.out) HFr5.out.rd).mono ?_
    rintro e w6 ⟨rfl,hb6⟩
    have HB6:=hid (HB5.out.trans (hb6.mono HB5.out.size))
    have HR6:=hid (HR5.out.below hb6)
    have HD6:=hid ((hb6.block D (Array.getElem?_eq_some_iff.1 HD5.out).1).trans HD5.out)
    have HRd6:=hid (HRd5.out.below hb6)
    have HC6:=hid (HC5.out.trans (hb6.mono HC5.out.size))
    clear hb6
    by_cases hEq:bs = bAll ys
    ·rw [show (bs == bAll ys) = true by rw [hEq];exact beq_self_eq_true _]
     have HEq:=hid hEq
     clear hEq
     go_upto_region 13 with (fail)
     obtain ⟨w7,hw7⟩:∃ x,x = w6.drew:=⟨_,rfl⟩
     have hb7:Below w6.heap.size w6 w7:=by rw [hw7];exact (Below.refl _ _).drew
     have HR7:=hid (HR6.out.below hb7)
     have HB7:=hid (HB6.out.trans (hb7.mono HB6.out.size))
     have HD7:=hid ((hb7.block D (Array.getElem?_eq_some_iff.1 HD6.out).1).trans HD6.out)
     have HRd7:=hid (HRd6.out.below hb7)
     have HC7:=hid (HC6.out.trans (hb7.mono HC6.out.size))
     clear hb7
     have c3:=HR7.out.r3.cell
     have c4:=HR7.out.r4.cell
     obtain ⟨d3,g3,d4,g4,hfin⟩:=HR7.out.step XA (.slice q0 M c0) HXs.out
     have g3':=HR7.out.r3.frozen
     have g4':=HR7.out.r4.frozen
     have d4':(w7.setRow B XA).cell? ⟨B + 2,0,none⟩ = some (.int .i64 0):=(show Boxed (w7.setRow B XA) (B + 2) 31 (.int .i64 0) from (setRow_other _ _ _ _ (by omega)).trans HR7.out.r4).cell
     have HFi:=hid (hfin 0)
     rename_i K hK
     clear hfin
     refine (wpIn_wide (n:=3)).1 (wpIn_calm (wpIn_region_any (by kernel_rfl) ?_))
     try (change wpAnyIn _ _ _ _ _ _ _ _ _ (World.drew _))
     rw [← hw7]
     clear hw7
     apply bridge1a
     ·intro hmain
--G13
      refine wpAnyIn_ready (rs:=[0,1]) (by kernel_rfl) (by simp) ?_
      refine AllReadyIn.cons rfl (fun K hK => ?_) ?_
      ·skip
       refine Eq.mpr (if_pos rfl) ?_
       refine opIn_load_row 155 (.tmp 2) rfl B rfl XA (run_loadVar_row _ _ 155 _ _ _ _ HR7.out.r2 Tryz.underlying155 rfl (by rw [HR7.out.hs];exact infoBlk)) ?_
       refine hK _ _ ?_
       clear hK K
       refine wpAnyIn_ready (rs:=[1,2]) (by kernel_rfl) (by simp) ?_
       refine AllReadyIn.cons rfl (fun K hK => ?_) ?_
       ·skip
        go_simp
        refine hK _ _ ?_
        clear hK K
        refine wpAnyIn_ready (rs:=[2]) (by kernel_rfl) (by simp) ?_
        refine AllReadyIn.cons rfl (fun K hK => ?_) ?_
        ·skip
         refine Eq.mpr (if_pos rfl) ?_
         refine opIn_store_block 155 _ _ rfl _ _ _ _ rfl rfl HR7.out.r2 rfl (by rw [HR7.out.hs];exact infoBlk) HX1.out ?_
         refine hK _ _ ?_
         clear hK K
         refine wpAnyIn_ready (rs:=[3]) (by kernel_rfl) (by simp) ?_
         refine AllReadyIn.cons rfl (fun K hK => ?_) ?_
         ·skip
          go_simp
          refine hK _ _ ?_
          clear hK K
          refine wpAnyIn_ready (rs:=[4]) (by kernel_rfl) (by simp) ?_
          refine AllReadyIn.cons rfl (fun K hK => ?_) ?_
          ·skip
           go_simp
           refine hK _ _ ?_
           clear hK K
           refine wpAnyIn_done (by kernel_rfl) ?_ _
           exact hmain
          exact AllReadyIn.nil
         exact AllReadyIn.nil
        exact AllReadyIn.nil
       refine AllReadyIn.cons rfl (fun K hK => ?_) ?_
       ·skip
        refine Eq.mpr (if_pos rfl) ?_
        refine opIn_store_block 155 _ _ rfl _ _ _ _ rfl rfl HR7.out.r2 rfl (by rw [HR7.out.hs];exact infoBlk) HX1.out ?_
        refine hK _ _ ?_
        clear hK K
        refine wpAnyIn_ready (rs:=[1]) (by kernel_rfl) (by simp) ?_
        refine AllReadyIn.cons rfl (fun K hK => ?_) ?_
        ·skip
         go_simp
         refine hK _ _ ?_
         clear hK K
         refine wpAnyIn_ready (rs:=[3]) (by kernel_rfl) (by simp) ?_
         refine AllReadyIn.cons rfl (fun K hK => ?_) ?_
         ·skip
          go_simp
          refine hK _ _ ?_
          clear hK K
          refine wpAnyIn_ready (rs:=[4]) (by kernel_rfl) (by simp) ?_
          refine AllReadyIn.cons rfl (fun K hK => ?_) ?_
          ·skip
           go_simp
           refine hK _ _ ?_
           clear hK K
           refine wpAnyIn_done (by kernel_rfl) ?_ _
           exact hmain
          exact AllReadyIn.nil
         exact AllReadyIn.nil
        exact AllReadyIn.nil
       exact AllReadyIn.nil
      refine AllReadyIn.cons rfl (fun K hK => ?_) ?_
      ·skip
       go_simp
       refine hK _ _ ?_
       clear hK K
       refine wpAnyIn_ready (rs:=[0]) (by kernel_rfl) (by simp) ?_
       refine AllReadyIn.cons rfl (fun K hK => ?_) ?_
       ·skip
        refine Eq.mpr (if_pos rfl) ?_
        refine opIn_load_row 155 (.tmp 2) rfl B rfl XA (run_loadVar_row _ _ 155 _ _ _ _ HR7.out.r2 Tryz.underlying155 rfl (by rw [HR7.out.hs];exact infoBlk)) ?_
        refine hK _ _ ?_
        clear hK K
        refine wpAnyIn_ready (rs:=[2]) (by kernel_rfl) (by simp) ?_
        refine AllReadyIn.cons rfl (fun K hK => ?_) ?_
        ·skip
         refine Eq.mpr (if_pos rfl) ?_
         refine opIn_store_block 155 _ _ rfl _ _ _ _ rfl rfl HR7.out.r2 rfl (by rw [HR7.out.hs];exact infoBlk) HX1.out ?_
         refine hK _ _ ?_
         clear hK K
         refine wpAnyIn_ready (rs:=[3]) (by kernel_rfl) (by simp) ?_
         refine AllReadyIn.cons rfl (fun K hK => ?_) ?_
         ·skip
          go_simp
          refine hK _ _ ?_
          clear hK K
          refine wpAnyIn_ready (rs:=[4]) (by kernel_rfl) (by simp) ?_
          refine AllReadyIn.cons rfl (fun K hK => ?_) ?_
          ·skip
           go_simp
           refine hK _ _ ?_
           clear hK K
           refine wpAnyIn_done (by kernel_rfl) ?_ _
           exact hmain
          exact AllReadyIn.nil
         exact AllReadyIn.nil
        exact AllReadyIn.nil
       exact AllReadyIn.nil
      exact AllReadyIn.nil
--G13E
     ·refine hK _ _ ?_
      clear c3 c4 d3 g3 d4 g4 g3' g4' d4'
      go_wp2_with fail
      refine leaves_marks (base:=w.heap.size) _ _ ⟨⟨D,rfl,by omega,(setA_keeps HR7.out _ _ _ 0).same D _ (Nat.zero_le _) HD7.out rfl,fun d hd=>by cases hd⟩,trivial⟩ (fun w' hs => ?_)
      have h1:=HFi.out
      have h':ARes w' B XA (.slice q0 M c0) 0:=⟨hs.cells _ _ _ _ h1.r2,hs.cells _ _ _ _ h1.r3,hs.cells _ _ _ _ h1.r4,h1.hs⟩
      refine ⟨_,all_results h' rfl rfl rfl,(setA_below HB7.out hBge _ _ _).trans (hs.below _ (Nat.le_refl _)),XA,HXs.out,HX1.out,.inr ⟨ys,⟨HRise.out,HEq.out.symm,by rw [Hl.out];exact hm65⟩,q0,c0, ?_, ?_, ?_,hc2⟩⟩
      ·rw [HYl.out]
      ·refine (Fr.of_own (own_keep2 Hown.out fun g hg => ?_)).rd
       have hlo:=own_lt2 Hown.out g hg
       obtain ⟨_,h2⟩:=Hown.out
       rcases h2 with ⟨e,_⟩ | ⟨g2,cap,cur,e,_,hh,_⟩
       ·rw [e] at hg;cases hg
       ·rw [e] at hg;cases hg
        have e7:=HC7.out.block g2 hlo.2
        have e8:(setA w7 B XA (.slice q0 M c0) 0).heap[g2]? = w7.heap[g2]?:=(heap_setCell_other _ _ _ _ (show g2 ≠ B + 2 by omega)).trans ((heap_setCell_other _ _ _ _ (show g2 ≠ B + 1 by omega)).trans (setRow_other _ _ _ _ (by omega)))
        rw [hh]
        exact hs.cells _ _ _ _ (e8.trans (e7.trans hh))
      ·rw [HYl.out];exact hc1
    ·rw [show (bs == bAll ys) = false from beq_eq_false_iff_ne.2 hEq]
     have HNo:=hid (show ¬ ∃ l,BlkOf bs l from fun ⟨l,h⟩=>by
      have h1:=HNl.out l h
      subst h1
      exact hEq h.2.1.symm)
     clear hEq
     have hrow:=HR6.out.r2
     rw [HXA.out] at hrow
     have c20:w6.cell? ⟨B,0,none⟩ = some (.slice (some ⟨bb,off,none⟩) N N):=(cell_of_row _ B 0 _ _ _ hrow).trans rfl
     have c21:w6.cell? ⟨B,1,none⟩ = some v:=(cell_of_row _ B 1 _ _ _ hrow).trans rfl
     clear hrow
     obtain ⟨d3,g3,d4,g4,hfin⟩:=HR6.out.step XA (.slice none 0 0) HXs.out
     have HFi:=hid hfin
     clear hfin
     have hX1':=HX1.out
     rw [HXA.out] at hX1' d3 g3 d4 g4
     go_wp2_with (refine wpList_store_block rfl 155 _ _ rfl _ _ _ _ rfl rfl HR6.out.r2 (by rw [HXs.out];rfl) infoBlk hX1' ?_)
     rw [← HXA.out]
     refine leaves_marks (base:=w.heap.size) _ _ ⟨⟨D,rfl,by omega,(setA_keeps HR6.out _ _ _ 0).same D _ (Nat.zero_le _) HD6.out rfl,fun d hd=>by cases hd⟩,trivial⟩ (fun w' hs => ?_)
     have h1:=HFi.out 4
     have h':ARes w' B XA (.slice none 0 0) 4:=⟨hs.cells _ _ _ _ h1.r2,hs.cells _ _ _ _ h1.r3,hs.cells _ _ _ _ h1.r4,h1.hs⟩
     exact ⟨_,all_results h' rfl rfl rfl,(setA_below HB6.out hBge _ _ _).trans (hs.below _ (Nat.le_refl _)),XA,HXs.out,HX1.out,.inl ⟨HNo.out,4,by decide,rfl⟩⟩
  case rstop =>
   rintro D c' pre W hD ⟨rfl,⟨x,h1,h2⟩,h3,h4⟩ hD0
   refine wpIn_wide.2 ?_
   go_wp2
   refine leaves_marks (base:=w.heap.size) _ _ ⟨⟨D,rfl,by omega,hD0,fun d hd=>by cases hd⟩,trivial⟩ (fun w' hs => ?_)
   have h':ARes w' B x (.slice none 0 0) 4:=⟨hs.cells _ _ _ _ h1.r2,hs.cells _ _ _ _ h1.r3,hs.cells _ _ _ _ h1.r4,h1.hs⟩
   exact ⟨_,all_results h' rfl rfl rfl,h3.trans (hs.below _ (Nat.le_refl _)),x,h1.hs,h2,.inl ⟨h4,4,by decide,rfl⟩⟩
end Go.Proofs.Herb
namespace Go.Proofs.Herb
open Go.RowKit
attribute [local go_sem] Oper.semAt_some
theorem clip_items (a:Option Addr) (n c:Nat) (w:World) (hn:n ≤ c) (_hc:c ≤ maxLen) :
  Calls Tryz.prog 105 #[.slice a n c] w fun e w'=>e = .returned (.slice a n n) ∧ w = w':=by
 unfold maxLen at _hc
 go_enter Tryz.func105,Tryz.ntmps105
 go_wp2
 go_ret
 exact ⟨rfl,rfl⟩
def BgtP (b:List UInt8) (b0:Nat) (w:World) (e:Ending) (w':World):Prop :=
 Below b0 w w' ∧ (((¬ ∃ l,BlkOf b l) ∧ ∃ er:Int,er ≠ 0 ∧ e = .returned (.tuple #[.slice none 0 0,.int .i64 er])) ∨
  ∃ l,BlkOf b l ∧ ∃ q,e = .returned (.tuple #[.slice q l.length l.length,.int .i64 0]) ∧ Rd w' q (iCells l))
set_option maxRecDepth 100000 in
set_option maxHeartbeats 1000000 in
theorem bget_any (q:Option Addr) (m c:Nat) (bs:List UInt8) (w:World) (hl:bs.length = m) (hc:m ≤ c) (hcm:c ≤ maxLen) (hm:m ≤ 4194304) (hr:Rd w q (bs.map bv)) :
  Calls Tryz.prog 72 #[.slice q m c] w (BgtP bs w.heap.size w):=by
 have HA:=hid (all_any q m c bs w hl hc hcm hm hr)
 clear hl hr
 go_enter Tryz.func72,Tryz.ntmps72
 go_wp2_with fail
 refine HA.out.mono ?_
 rintro e w1 ⟨hb1,x,hx2,hx1,hcase⟩
 have HB1:=hid hb1
 have hs1:=hb1.size
 have HX2:=hid hx2
 have HX1:=hid hx1
 obtain ⟨w2,hw2⟩:∃ y,y = (w1.alloc (.cells zBlk 155)).setRow w1.heap.size x:=⟨_,rfl⟩
 have hb2:Below w1.heap.size w1 w2:=by rw [hw2];exact below_setRow ((Below.refl _ _).alloc (Nat.le_refl _) _) (Nat.le_refl _) _
 have HB2:=hid hb2
 have HW2:=hid hw2
 have hn:=heap_alloc_new w1 (.cells zBlk 155)
 unfold zBlk at hn
 have HNw:=hid hn
 clear hb1 hb2 hx1 hx2 hw2 HA hn
 rcases hcase with ⟨hno,er,her,rfl⟩ | ⟨l,hl,q1,c1,rfl,hrd,hc1,hc2⟩
 ·have HNo:=hid hno
  have HEr:=hid her
  clear hno her
  go_wp2_with (refine wpList_store_block rfl 155 _ _ rfl _ _ _ _ rfl rfl HNw.out (by rw [HX2.out];rfl) (by rw [HX2.out];exact infoBlk) HX1.out ?_)
  refine (clip_items none 0 0 _ (Nat.le_refl _) (Nat.zero_le _)).mono ?_
  rintro e w3 ⟨rfl,rfl⟩
  have hW2:=HW2.out
  unfold zBlk at hW2
  rw [← hW2]
  clear hW2
  go_wp2_with fail
  go_ret2
  exact ⟨HB1.out.trans (HB2.out.mono hs1),.inl ⟨HNo.out,er,HEr.out,rfl⟩⟩
 ·have HRd:=hid hrd
  have HBk:=hid hl
  obtain ⟨n,hn⟩:∃ n,n = l.length:=⟨_,rfl⟩
  rw [← hn] at hc1 ⊢
  have HN:=hid hn
  clear hrd hl hn
  go_wp2_with (refine wpList_store_block rfl 155 _ _ rfl _ _ _ _ rfl rfl HNw.out (by rw [HX2.out];rfl) (by rw [HX2.out];exact infoBlk) HX1.out ?_)
  refine (clip_items q1 n c1 _ hc1 hc2).mono ?_
  rintro e w3 ⟨rfl,rfl⟩
  have hW2:=HW2.out
  unfold zBlk at hW2
  rw [← hW2]
  clear hW2
  go_wp2_with fail
  go_ret2
  exact ⟨HB1.out.trans (HB2.out.mono hs1),.inr ⟨l,HBk.out,q1,by rw [HN.out];rfl,HRd.out.below HB2.out⟩⟩
end Go.Proofs.Herb
namespace Go.Proofs.Herb
def sumS (sz:Nat → Nat) (a:Nat):Nat → Nat
 | 0=>0
 | j + 1=>sumS sz a j + sz (a + j)
def ChainS (sz:Nat → Nat) (n:Nat):Nat → List (Nat × Nat) → Prop
 | a,[]=>a = n
 | a,x :: r=>x.1 = a ∧ a < x.2 ∧ x.2 ≤ n ∧ (∀ j,j < x.2 - a → sumS sz a j < 512) ∧ (512 ≤ sumS sz a (x.2 - a) ∨ r = []) ∧ ChainS sz n x.2 r
theorem chF_end (sz:Nat → Nat) (n f k a m:Nat) (h:¬ k < n):chF sz n f k a m = []:=by
 cases f with
 | zero=>rfl
 | succ f=>rw [chF,if_neg h]
theorem chF_chainS (sz:Nat → Nat) (n:Nat):∀ (f k a m:Nat),a ≤ k → k + f = n → (k < n ∨ a = k) → m = sumS sz a (k - a) → (∀ j,j ≤ k - a → sumS sz a j < 512) → ChainS sz n a (chF sz n f k a m)
 | 0,k,a,m,h1,h2,h3,_,_=>by
  unfold chF ChainS
  omega
 | f + 1,k,a,m,h1,h2,h3,hm,hs=>by
  have hk:k < n:=by omega
  have e:sumS sz a (k + 1 - a) = m + sz k:=by
   rw [show k + 1 - a = (k - a) + 1 by omega,sumS,← hm,show a + (k - a) = k by omega]
  rw [chF,if_pos hk]
  by_cases h:m + sz k < 512 ∧ k + 1 < n
  ·rw [if_pos h]
   refine chF_chainS sz n f (k + 1) a (m + sz k) (by omega) (by omega) (.inl h.2) e.symm (fun j hj => ?_)
   rcases Nat.lt_or_ge j (k + 1 - a) with h' | h'
   ·exact hs j (by omega)
   ·rw [show j = k + 1 - a by omega,e];exact h.1
  ·rw [if_neg h,ChainS]
   refine ⟨rfl,by omega,hk,fun j hj=>hs j (by omega), ?_,chF_chainS sz n f (k + 1) (k + 1) 0 (Nat.le_refl _) (by omega) (.inr rfl) (by rw [Nat.sub_self];rfl) (fun j hj => ?_)⟩
   ·rw [e]
    rcases Nat.lt_or_ge (m + sz k) 512 with h' | h'
    ·exact .inr (chF_end _ _ _ _ _ _ (fun h2=>h ⟨h',h2⟩))
    ·exact .inl h'
   ·rw [show j = 0 by omega];exact (by decide:(0:Nat) < 512)
def fromC (n:Nat) (r:List (Nat × Nat)) (i:Nat):Nat:=((r[i]?).map (·.1)).getD n
theorem fromC_get {n:Nat} {r:List (Nat × Nat)} {i:Nat} (h:i < r.length):fromC n r i = r[i].1:=by unfold fromC;rw [List.getElem?_eq_getElem h];rfl
theorem fromC_end {n:Nat} {r:List (Nat × Nat)} {i:Nat} (h:r.length ≤ i):fromC n r i = n:=by unfold fromC;rw [List.getElem?_eq_none h];rfl
theorem chainS_at {sz:Nat → Nat} {n:Nat}:∀ {r:List (Nat × Nat)} {a:Nat},ChainS sz n a r → fromC n r 0 = a ∧ ∀ i,(h:i < r.length) →
  r[i].1 < r[i].2 ∧ r[i].2 ≤ n ∧ fromC n r (i + 1) = r[i].2 ∧ (∀ j,j < r[i].2 - r[i].1 → sumS sz r[i].1 j < 512) ∧ (512 ≤ sumS sz r[i].1 (r[i].2 - r[i].1) ∨ i + 1 = r.length)
 | [],a,h=>⟨by unfold ChainS at h;exact h.symm,fun i hi=>absurd hi (Nat.not_lt_zero _)⟩
 | x :: r,a,h=>by
  rw [ChainS] at h
  obtain ⟨h1,h2,h3,h4,h5,h6⟩:=h
  obtain ⟨k1,k2⟩:=chainS_at h6
  refine ⟨by rw [fromC_get (by simp)];exact h1,fun i hi => ?_⟩
  cases i with
  | zero =>
   simp only [List.getElem_cons_zero]
   rw [h1]
   refine ⟨h2,h3, ?_,h4, ?_⟩
   ·rw [← k1];unfold fromC;simp
   ·rcases h5 with h5 | h5
    ·exact .inl h5
    ·exact .inr (by rw [h5];rfl)
  | succ i =>
   have hi':i < r.length:=by simpa using hi
   simp only [List.getElem_cons_succ]
   obtain ⟨m1,m2,m3,m4,m5⟩:=k2 i hi'
   refine ⟨m1,m2, ?_,m4, ?_⟩
   ·rw [← m3];unfold fromC;simp
   ·rcases m5 with m5 | m5
    ·exact .inl m5
    ·exact .inr (by rw [List.length_cons];omega)
theorem chunks_at (l:List Item):fromC l.length (chunksOf l) 0 = 0 ∧ ∀ i,(h:i < (chunksOf l).length) →
  (chunksOf l)[i].1 < (chunksOf l)[i].2 ∧ (chunksOf l)[i].2 ≤ l.length ∧ fromC l.length (chunksOf l) (i + 1) = (chunksOf l)[i].2 ∧
   (∀ j,j < (chunksOf l)[i].2 - (chunksOf l)[i].1 → sumS (szAt l) (chunksOf l)[i].1 j < 512) ∧ (512 ≤ sumS (szAt l) (chunksOf l)[i].1 ((chunksOf l)[i].2 - (chunksOf l)[i].1) ∨ i + 1 = (chunksOf l).length) :=
 chainS_at (chF_chainS _ _ _ 0 0 0 (Nat.le_refl _) (by omega) (by omega) rfl (fun j hj=>by rw [show j = 0 by omega];exact (by decide:(0:Nat) < 512)))
def atC (l:List Item) (i:Nat):Nat:=(upB l ((chunksOf l).take i)).1.length
theorem upB_app (l:List Item):∀ (b a:List (Nat × Nat)),(∃ r,(upB l (a ++ b)).1 = (upB l a).1 ++ r) ∧ ∃ r,(upB l (a ++ b)).2 = (upB l a).2 ++ r
 | [],a=>⟨⟨[],by simp⟩,⟨[],by simp⟩⟩
 | x :: b,a=>by
  obtain ⟨⟨r,h⟩,⟨s,h'⟩⟩:=upB_app l b (a ++ [x])
  rw [List.append_assoc,List.singleton_append] at h h'
  rw [upB_snoc] at h h'
  refine ⟨⟨bAll (subI l x) ++ r,by rw [h];unfold stepB;simp⟩,⟨⟨lastKey (subI l x),⟨(vput (upB l a).1.length ++ vput (bAll (subI l x)).length).toArray⟩⟩ :: s,by rw [h'];unfold stepB;simp only [List.append_assoc,List.singleton_append]⟩⟩
theorem take_succ_get {α:Type} {r:List α} {i:Nat} (h:i < r.length):r.take (i + 1) = r.take i ++ [r[i]]:=by
 rw [List.take_add_one,List.getElem?_eq_getElem h];rfl
theorem atC_zero (l:List Item):atC l 0 = 0:=rfl
theorem atC_succ (l:List Item) {i:Nat} (h:i < (chunksOf l).length):atC l (i + 1) = atC l i + (bAll (subI l (chunksOf l)[i])).length:=by
 unfold atC;rw [take_succ_get h,upB_snoc];unfold stepB;simp
theorem atC_end (l:List Item):atC l (chunksOf l).length = (upB l (chunksOf l)).1.length:=by unfold atC;rw [List.take_length]
theorem out_at (l:List Item) {i:Nat} (h:i < (chunksOf l).length):atC l i + (bAll (subI l (chunksOf l)[i])).length ≤ (upB l (chunksOf l)).1.length ∧ (((upB l (chunksOf l)).1).drop (atC l i)).take (bAll (subI l (chunksOf l)[i])).length = bAll (subI l (chunksOf l)[i]):=by
 obtain ⟨⟨r,hr⟩, -⟩:=upB_app l ((chunksOf l).drop (i + 1)) ((chunksOf l).take (i + 1))
 rw [List.take_append_drop,take_succ_get h,upB_snoc] at hr
 have hr':(upB l (chunksOf l)).1 = (upB l ((chunksOf l).take i)).1 ++ (bAll (subI l (chunksOf l)[i]) ++ r):=by rw [hr];unfold stepB;simp
 rw [hr']
 unfold atC
 refine ⟨by simp only [List.length_append];omega, ?_⟩
 rw [List.drop_left,List.take_left]
theorem idx_at (l:List Item) {i:Nat} (h:i < (chunksOf l).length):(upB l (chunksOf l)).2[i]? = some ⟨lastKey (subI l (chunksOf l)[i]),⟨(vput (atC l i) ++ vput (bAll (subI l (chunksOf l)[i])).length).toArray⟩⟩:=by
 obtain ⟨-,⟨r,hr⟩⟩:=upB_app l ((chunksOf l).drop (i + 1)) ((chunksOf l).take (i + 1))
 rw [List.take_append_drop,take_succ_get h,upB_snoc] at hr
 have hl:(upB l ((chunksOf l).take i)).2.length = i:=by rw [upB_len2,List.length_take];omega
 rw [hr]
 unfold stepB atC
 simp only [List.append_assoc,List.singleton_append]
 rw [List.getElem?_append_right (by omega),hl,Nat.sub_self,List.getElem?_cons_zero]
theorem sub_at {l:List Item} {x:Nat × Nat} (h:x.2 ≤ l.length) {j:Nat} (hj:j < x.2 - x.1):(subI l x)[j]? = some (l[x.1 + j]'(by omega)):=by
 unfold subI
 rw [List.getElem?_take,if_pos hj,List.getElem?_drop,List.getElem?_eq_getElem (by omega)]
def footB (line:Nat) (fs:List Fact):List UInt8:=foot0 line fs ++ le4 (crcMore 0 (foot0 line fs)).toNat
theorem footB_drop (line:Nat) (fs:List Fact):(tabB line fs).drop ((tabB line fs).length - 40) = footB line fs:=by
 have h1:(tabB line fs).length = (bodyB line fs).length + 40:=by unfold tabB;simp only [List.length_append,foot0_len,le4_len]
 rw [h1,Nat.add_sub_cancel]
 unfold tabB
 rw [List.drop_left]
 rfl
theorem num4_drop (l:List UInt8) (k:Nat):num4 (l.drop k) 0 = num4 l k:=by unfold num4;simp only [List.getElem?_drop,Nat.add_zero]
theorem footB_take4 (line:Nat) (fs:List Fact):(footB line fs).take 4 = [84,66,76,49]:=by
 unfold footB foot0
 simp only [List.append_assoc]
 exact List.take_left' rfl
theorem footB_take36 (line:Nat) (fs:List Fact):(footB line fs).take 36 = foot0 line fs:=List.take_left' (foot0_len line fs)
theorem footB_28 (line:Nat) (fs:List Fact):num4 ((footB line fs).drop 28) 0 = (crcMore 0 (filB fs)).toNat:=by
 rw [num4_drop]
 have h:=num4_le4 (crcMore 0 (filB fs)).toNat (UInt32.toNat_lt _) ([84,66,76,49] ++ le4 (outB fs).length ++ le4 (idxB fs).length ++ le4 (outB fs ++ idxB fs).length ++ le4 (filB fs).length ++ le4 (outB fs ++ idxB fs ++ filB fs).length ++ le4 (tailB2 line fs).length) (le4 (crcMore 0 (tailB2 line fs)).toNat ++ le4 (crcMore 0 (foot0 line fs)).toNat)
 have e:([84,66,76,49] ++ le4 (outB fs).length ++ le4 (idxB fs).length ++ le4 (outB fs ++ idxB fs).length ++ le4 (filB fs).length ++ le4 (outB fs ++ idxB fs ++ filB fs).length ++ le4 (tailB2 line fs).length).length = 28:=by simp only [List.length_append,le4_len,List.length_cons,List.length_nil]
 rw [e] at h
 rw [← h]
 unfold footB foot0
 simp only [List.append_assoc]
theorem footB_32 (line:Nat) (fs:List Fact):num4 ((footB line fs).drop 32) 0 = (crcMore 0 (tailB2 line fs)).toNat:=by
 rw [num4_drop]
 have h:=num4_le4 (crcMore 0 (tailB2 line fs)).toNat (UInt32.toNat_lt _) ([84,66,76,49] ++ le4 (outB fs).length ++ le4 (idxB fs).length ++ le4 (outB fs ++ idxB fs).length ++ le4 (filB fs).length ++ le4 (outB fs ++ idxB fs ++ filB fs).length ++ le4 (tailB2 line fs).length ++ le4 (crcMore 0 (filB fs)).toNat) (le4 (crcMore 0 (foot0 line fs)).toNat)
 have e:([84,66,76,49] ++ le4 (outB fs).length ++ le4 (idxB fs).length ++ le4 (outB fs ++ idxB fs).length ++ le4 (filB fs).length ++ le4 (outB fs ++ idxB fs ++ filB fs).length ++ le4 (tailB2 line fs).length ++ le4 (crcMore 0 (filB fs)).toNat).length = 32:=by simp only [List.length_append,le4_len,List.length_cons,List.length_nil]
 rw [e] at h
 rw [← h]
 unfold footB foot0
 simp only [List.append_assoc]
theorem footB_36 (line:Nat) (fs:List Fact):num4 ((footB line fs).drop 36) 0 = (crcMore 0 (foot0 line fs)).toNat:=by
 rw [num4_drop]
 have h:=num4_le4 (crcMore 0 (foot0 line fs)).toNat (UInt32.toNat_lt _) (foot0 line fs) []
 rw [foot0_len,List.append_nil] at h
 exact h
end Go.Proofs.Herb
namespace Go.Proofs.Herb
theorem blk_one {b:List UInt8} {l m:List Item} (h:BlkOf b l) (k:BlkOf b m):m = l:=by
 obtain ⟨h1,h2⟩:=blk_short h
 obtain ⟨k1,k2⟩:=blk_short k
 exact bAll_inj k1 h1 (by omega) (by omega) (k.2.1.trans h.2.1.symm)
theorem idx_blk {line:Nat} {l:List Fact} (h:GoodF line l ∧ 0 < l.length) (ho:∀ f ∈ l,f.Ok) (hl:(tabB line l).length ≤ 65536):BlkOf (idxB l) (idxI l) :=
 ⟨(good_rise h.1 h.2 ho).2,rfl,Nat.le_trans (idx_le line l) hl⟩
def atF (l:List Fact) (i:Nat):Nat:=atC (itemsF l) i
def fromF (l:List Fact) (i:Nat):Nat:=fromC (itemsF l).length (chunksOf (itemsF l)) i
theorem itemsF_len (l:List Fact):(itemsF l).length = l.length:=by simp [itemsF]
theorem idxI_len (l:List Fact):(idxI l).length = (chunksOf (itemsF l)).length:=by unfold idxI;exact upB_len2 _ _
theorem atF_zero (l:List Fact):atF l 0 = 0:=atC_zero _
theorem atF_end (l:List Fact):atF l (idxI l).length = (outB l).length:=by unfold atF;rw [idxI_len,atC_end];rfl
theorem fromF_zero (l:List Fact):fromF l 0 = 0:=(chunks_at (itemsF l)).1
theorem fromF_end (l:List Fact):fromF l (idxI l).length = l.length:=by unfold fromF;rw [fromC_end (by rw [idxI_len];exact Nat.le_refl _),itemsF_len]
structure ChunkF (line:Nat) (l:List Fact) (i:Nat) (A N S m:Nat) (xs:List Item) (K V:ByteArray):Prop where
 idx:(idxI l)[i]? = some ⟨K,V⟩
 val:V.data.toList = vput A ++ vput S
 inn:A + S ≤ (outB l).length
 cut:((tabB line l).drop A).take S = bAll xs
 len:(bAll xs).length = S
 blk:BlkOf (bAll xs) xs
 many:xs.length = m
 pos:0 < m
 last:∀ h:m - 1 < xs.length,xs[m - 1].key = K
 fits:N + m ≤ l.length
 item:∀ k,k < m → xs[k]? = (l[N + k]?).map itemF
 less:∀ k,k < m → sumS (szAt (itemsF l)) N k < 512
 full:512 ≤ sumS (szAt (itemsF l)) N m ∨ i + 1 = (idxI l).length
 next:atF l (i + 1) = A + S
 nextN:fromF l (i + 1) = N + m
theorem chunk_all {line:Nat} {l:List Fact} (h:GoodF line l ∧ 0 < l.length) (ho:∀ f ∈ l,f.Ok) (hl:(tabB line l).length ≤ 65536) {i:Nat} (hi:i < (idxI l).length) :
  ∃ S m xs K V,ChunkF line l i (atF l i) (fromF l i) S m xs K V:=by
 rw [idxI_len] at hi
 have hx:=idx_at (itemsF l) hi
 obtain ⟨o1,o2⟩:=out_at (itemsF l) hi
 have hn:=atC_succ (itemsF l) hi
 obtain ⟨-,hc⟩:=chunks_at (itemsF l)
 obtain ⟨c1,c2,c3,c4,c5⟩:=hc i hi
 have hf:fromF l i = (chunksOf (itemsF l))[i].1:=fromC_get hi
 have hrise:=(good_rise h.1 h.2 ho).1 _ (List.getElem_mem hi)
 have hsl:=sub_len c2
 have hlk:=lastKey_eq (l:=subI (itemsF l) (chunksOf (itemsF l))[i]) (k:=(chunksOf (itemsF l))[i].2 - (chunksOf (itemsF l))[i].1 - 1) (by rw [hsl];omega)
 have hout:=out_le line l
 have hoe:(upB (itemsF l) (chunksOf (itemsF l))).1 = outB l:=rfl
 rw [hoe] at o1 o2
 have hatf:atC (itemsF l) i = atF l i:=rfl
 rw [hatf] at o1 o2 hn hx
 have hil:=itemsF_len l
 refine ⟨_,(chunksOf (itemsF l))[i].2 - (chunksOf (itemsF l))[i].1,subI (itemsF l) (chunksOf (itemsF l))[i],_,_,⟨hx,rfl,o1, ?_,rfl,⟨hrise,rfl,by omega⟩,hsl,by omega,fun h'=>hlk.symm,by omega, ?_, ?_, ?_,hn, ?_⟩⟩
 ·have ht:tabB line l = outB l ++ (idxB l ++ filB l ++ tailB2 line l ++ (foot0 line l ++ le4 (crcMore 0 (foot0 line l)).toNat)):=by unfold tabB bodyB;simp only [List.append_assoc]
  rw [ht,List.drop_append,List.take_append]
  rw [show (bAll (subI (itemsF l) (chunksOf (itemsF l))[i])).length - (List.drop (atF l i) (outB l)).length = 0 by rw [List.length_drop];omega,List.take_zero,List.append_nil]
  exact o2
 ·intro k hk
  rw [sub_at c2 hk,hf]
  rw [List.getElem?_eq_getElem (show (chunksOf (itemsF l))[i].1 + k < l.length by omega)]
  simp [itemsF]
 ·intro k hk
  rw [hf]
  exact c4 k hk
 ·rw [hf,idxI_len]
  exact c5
 ·unfold fromF
  rw [c3]
  have hf':fromC (itemsF l).length (chunksOf (itemsF l)) i = (chunksOf (itemsF l))[i].1:=hf
  rw [hf']
  omega
end Go.Proofs.Herb
