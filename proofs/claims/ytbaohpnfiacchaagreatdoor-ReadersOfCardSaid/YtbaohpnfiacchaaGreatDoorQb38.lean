/- A Book's sheets of facts: paint, spill, clean; strconv.Itoa in plain words; mark, keep, Facts, Apart. For slices of no room behind, whose rows stand in memory, and worlds in which the library's table of powers of ten reads as it was laid. -/
import Derived.Deep.MidRow
import Derived.Deep.Cut
import Derived.BigQuiet
import Derived.Shelf.Strconv.Itoa3
import Derived.Lib.AppendIntMem
import Derived.Lib.SmallJoins
import Derived.Ground.NamesProg
import Derived.RangeFuncBox
import Derived.Laws.AppendOwn
import Derived.OwnWalk
import Derived.Lib.ItoaLen
import Derived.WalkLawsBesides
import Derived.WalkSpells
import Derived.Deep.QuietTactic
import Derived.Deep.DeepCutAuto
import Derived.Test.YtbaohpnfiacchaaGreatDoorProg
import Derived.Test.YtbaohpnfiacchaaGreatDoorQb01
import Derived.Test.YtbaohpnfiacchaaGreatDoorQb06
namespace Go.Proofs.Herb
open Go.RowKit
attribute [local go_sem] Oper.semAt_some
structure Sh where
 q:Option Addr
 n:Nat
 s:ByteArray
 m:Nat
def Sh.sl (s:Sh):Value:=.slice s.q s.n s.n
def Sh.agg (s:Sh):Value:=.agg #[.slice s.q s.n s.n,.string s.s,.int .u32 0,.int .u64 (s.m:Int),.int .u64 0,.int .u8 0,.string ⟨#[]⟩]
def Sh.v (s:Sh):Value:=.iface 87 s.agg
def Sh.blk (s:Sh):Option Nat:=s.q.map (·.block)
def mcs (S:ByteArray) (M:Nat):List Value:=[.string S,.int .u32 0,.int .u64 (M:Int),.int .u64 0,.int .u8 0,.string ⟨#[]⟩]
structure PR (w:World) (g:Nat) (S:ByteArray) (M n k:Nat):Prop where
 row:∃ cur,w.heap[g]? = some (.cells cur 27 (0,0)) ∧ n * 6 ≤ cur.size
 marks:∀ i,i < k → w.rangeAt g (i * 6) (mcs S M)
theorem PR.of_eq {w w':World} {g:Nat} {S:ByteArray} {M n k:Nat} (h:PR w g S M n k) (e:w'.heap[g]? = w.heap[g]?):PR w' g S M n k:=by
 obtain ⟨⟨cur,h1,h2⟩,h3⟩:=h
 exact ⟨⟨cur,e.trans h1,h2⟩,fun i hi j v hv=>(World.cell?_of_block (w:=w) (a:=⟨g,i * 6 + j,none⟩) e).trans (h3 i hi j v hv)⟩
theorem PR.there {w:World} {g:Nat} {S:ByteArray} {M n k i:Nat} (h:PR w g S M n k) (hi:i < n):w.there g (i * 6) 6:=fun j hj=>by
 obtain ⟨⟨cur,h1,h2⟩, -⟩:=h
 refine ⟨?_,frozen_of_row _ _ _ _ _ h1⟩
 rw [cell_of_row _ _ _ _ _ _ h1,Array.getElem?_eq_getElem (by omega)]
 rfl
theorem setCells_row:∀ (vs:List Value) (w:World) (b o:Nat) (cur:Array Value) (t:TypeId),w.heap[b]? = some (.cells cur t (0,0)) → ∃ cur',(w.setCells b o vs).heap[b]? = some (.cells cur' t (0,0)) ∧ cur'.size = cur.size
 | [],_,_,_,cur,_,h=>⟨cur,h,rfl⟩
 | v :: r,w,b,o,cur,t,h=>by
  obtain ⟨cur',h1,h2⟩:=setCells_row r (w.setCell ⟨b,o,none⟩ v) b (o + 1) _ t (heap_setCell_same w b o cur t v h)
  exact ⟨cur',h1,by simpa using h2⟩
theorem grownBy_cells:∀ (vs:List Value) (W:World) (b o:Nat),W.grownBy (W.setCells b o vs) (some b)
 | [],_,_,_=>⟨rfl,rfl,rfl,Nat.le_refl _,fun _ _ _=>rfl⟩
 | v :: r,W,b,o=>(show W.grownBy (W.setCell ⟨b,o,none⟩ v) (some b) from ⟨rfl,rfl,rfl,by simp [World.setCell],fun i _ hne=>Below.heap_setCell _ _ _ _ (fun e=>hne (by rw [e]))⟩).trans (grownBy_cells r (W.setCell ⟨b,o,none⟩ v) b (o + 1))
theorem mcs_len (S:ByteArray) (M:Nat):(mcs S M).length = 6:=rfl
theorem setCells_away:∀ (vs:List Value) (w:World) (b o k:Nat),k ≠ b → (w.setCells b o vs).heap[k]? = w.heap[k]?
 | [],_,_,_,_,_=>rfl
 | v :: r,w,b,o,k,h=>(setCells_away r _ b (o + 1) k h).trans (heap_setCell_other w ⟨b,o,none⟩ k v h)
theorem store_mark {w0 wr:World} {g n k X M:Nat} {S:ByteArray} {box:Array Value} {t:TypeId} (h:PR wr g S M n k) (hk:k < n) (hX:wr.heap[X]? = some (.cells box t (0,0))) (ht:t ≠ 27) (hb:w0.grownBy wr (some g)) :
  PR (wr.setCells g (k * 6) (mcs S M)) g S M n (k + 1) ∧ (wr.setCells g (k * 6) (mcs S M)).heap[X]? = some (.cells box t (0,0)) ∧ w0.grownBy (wr.setCells g (k * 6) (mcs S M)) (some g):=by
 obtain ⟨cur,h1,h2⟩:=h.row
 obtain ⟨cur',k1,k2⟩:=setCells_row (mcs S M) wr g (k * 6) cur _ h1
 refine ⟨⟨⟨cur',k1,by omega⟩,fun i hi => ?_⟩,(setCells_away _ _ _ _ _ (fun e=>by subst e;rw [h1] at hX;cases hX;exact ht rfl)).trans hX,hb.trans (grownBy_cells _ _ _ _)⟩
 by_cases e:i = k
 ·subst e
  exact World.rangeAt_setCells_same wr g (i * 6) (mcs S M) (h.there hk)
 ·exact World.rangeAt_setCells_apart (h.marks i (by omega)) g (k * 6) (mcs S M) (.inr (.inl (by rw [mcs_len];omega)))
def ShRow (w:World) (s:Sh) (k:Nat):Prop :=
 s.n ≤ maxLen ∧ (s.q = none ∧ s.n = 0 ∨ ∃ g,s.q = some ⟨g,0,none⟩ ∧ PR w g s.s s.m s.n k)
theorem ShRow.kept {w w':World} {s:Sh} {k:Nat} {ex:Option Nat} (h:ShRow w s k) (hg:w.grownBy w' ex) (hne:∀ g,s.blk = some g → ex ≠ some g):ShRow w' s k:=by
 obtain ⟨h1,h4⟩:=h
 refine ⟨h1, ?_⟩
 rcases h4 with h4 | ⟨g,e1,e2⟩
 ·exact .inl h4
 ·obtain ⟨cur,c1, -⟩:=e2.row
  exact .inr ⟨g,e1,e2.of_eq (hg.block g (Array.getElem?_eq_some_iff.1 c1).1 (fun e=>hne g (by unfold Sh.blk;rw [e1];rfl) e.symm))⟩
theorem infoF6:(Tryz.prog.info? 27).map (·.size) = some 6:=by kernel_rfl
theorem neqFact (w:World) (S:ByteArray) (M:Nat):(binOp .neq 27 (.agg #[.string S,.int .u32 0,.int .u64 (M:Int),.int .u64 0,.int .u8 0,.string ⟨#[]⟩]) (.agg #[.string S,.int .u32 0,.int .u64 (M:Int),.int .u64 0,.int .u8 0,.string ⟨#[]⟩])).run Tryz.prog w = .ok (.bool false) w:=by
 go_simp
theorem box7 {w:World} {B:Nat} {t:TypeId} {v0 v1 v2 v3 v4 v5 v6:Value} (h:w.heap[B]? = some (.cells #[v0,v1,v2,v3,v4,v5,v6] t (0,0))) :
  w.cell? ⟨B,0,none⟩ = some v0 ∧ w.cell? ⟨B,1,none⟩ = some v1 ∧ w.cell? ⟨B,2,none⟩ = some v2 ∧ w.cell? ⟨B,3,none⟩ = some v3 ∧ w.cell? ⟨B,4,none⟩ = some v4 ∧ w.cell? ⟨B,5,none⟩ = some v5 ∧ w.cell? ⟨B,6,none⟩ = some v6:=by
 refine ⟨?_, ?_, ?_, ?_, ?_, ?_, ?_⟩ <;> (rw [cell_of_row _ _ _ _ _ _ h];rfl)
theorem mark6 {w:World} {g o:Nat} {S:ByteArray} {M:Nat} (h:w.rangeAt g o (mcs S M)):w.cell? ⟨g,o,none⟩ = some (.string S) ∧ w.cell? ⟨g,o + 1,none⟩ = some (.int .u32 0) ∧ w.cell? ⟨g,o + 2,none⟩ = some (.int .u64 (M:Int)) ∧ w.cell? ⟨g,o + 3,none⟩ = some (.int .u64 0) ∧ w.cell? ⟨g,o + 4,none⟩ = some (.int .u8 0) ∧ w.cell? ⟨g,o + 5,none⟩ = some (.string ⟨#[]⟩) :=
 ⟨h 0 _ rfl,h 1 _ rfl,h 2 _ rfl,h 3 _ rfl,h 4 _ rfl,h 5 _ rfl⟩
set_option maxRecDepth 100000 in
set_option maxHeartbeats 2000000 in
theorem paint_none (S:ByteArray) (M:Nat) (w:World) :
  Calls Tryz.prog 166 #[.agg #[.slice none 0 0,.string S,.int .u32 0,.int .u64 (M:Int),.int .u64 0,.int .u8 0,.string ⟨#[]⟩]] w fun e w'=>e = .returned (.tuple #[]) ∧ w.grownBy w' none:=by
 go_enter Tryz.func166,Tryz.ntmps166
 go_wp2
 go_loopw [2] (fun i wr=>i = .int .i64 0 ∧ wr.heap[w.heap.size]? = some (.cells #[.slice none 0 0,.string S,.int .u32 0,.int .u64 (M:Int),.int .u64 0,.int .u8 0,.string ⟨#[]⟩] 87 (0,0)) ∧ w.grownBy wr none) (fun _ _=>0)
 case atStart=>exact ⟨rfl,heap_alloc_new _ _,World.grownBy_alloc _ _ _⟩
 case round =>
  obtain ⟨rfl,hX,hb⟩:=hrel
  have x0:wr.cell? ⟨w.heap.size,0,none⟩ = some (.slice none 0 0):=(cell_of_row _ _ 0 _ _ _ hX).trans rfl
  go_wp2
  go_end0
  exact ⟨rfl,hb⟩
set_option maxRecDepth 100000 in
set_option maxHeartbeats 2000000 in
theorem paint_row (g n:Nat) (S:ByteArray) (M:Nat) (w:World) (hg:PR w g S M n 0) (hc:n ≤ maxLen) :
  Calls Tryz.prog 166 #[.agg #[.slice (some ⟨g,0,none⟩) n n,.string S,.int .u32 0,.int .u64 (M:Int),.int .u64 0,.int .u8 0,.string ⟨#[]⟩]] w fun e w'=>e = .returned (.tuple #[]) ∧ PR w' g S M n n ∧ w.grownBy w' (some g):=by
 unfold maxLen at hc
 have HG:=hid hg
 clear hg
 have HN:=hid infoF6
 go_enter Tryz.func166,Tryz.ntmps166
 go_wp2
 go_loopw [2] (fun i wr=>∃ k:Nat,k ≤ n ∧ i = .int .i64 (k:Int) ∧ PR wr g S M n k ∧ wr.heap[w.heap.size]? = some (.cells #[.slice (some ⟨g,0,none⟩) n n,.string S,.int .u32 0,.int .u64 (M:Int),.int .u64 0,.int .u8 0,.string ⟨#[]⟩] 87 (0,0)) ∧ w.grownBy wr (some g)) (fun i _=>n - (intOf i).toNat)
 case atStart =>
  refine ⟨0,Nat.zero_le _,rfl, ?_,heap_alloc_new _ _,World.grownBy_alloc _ _ _⟩
  obtain ⟨cur,c1, -⟩:=HG.out.row
  exact HG.out.of_eq (Below.heap_alloc _ _ _ (Array.getElem?_eq_some_iff.1 c1).1)
 case round =>
  obtain ⟨k,hk,rfl,hP,hX,hb⟩:=hrel
  obtain ⟨x0,x1,x2,x3,x4,x5,x6⟩:=box7 hX
  by_cases hlt:k < n
  ·have HS:=hid (store_mark hP hlt hX (by decide) hb)
   have HTk:=hid (hP.there hlt)
   have i0:(0:Int) ≤ (k:Int):=by omega
   have i1:(k:Int) < (n:Int):=by omega
   obtain ⟨w3,hw3⟩:∃ x,wr.setCells g (k * 6) [.string S,.int .u32 0,.int .u64 (M:Int),.int .u64 0,.int .u8 0,.string ⟨#[]⟩] = x:=⟨_,rfl⟩
   have HS3:=hid (show PR w3 g S M n (k + 1) ∧ w3.heap[w.heap.size]? = some (.cells #[.slice (some ⟨g,0,none⟩) n n,.string S,.int .u32 0,.int .u64 (M:Int),.int .u64 0,.int .u8 0,.string ⟨#[]⟩] 87 (0,0)) ∧ w.grownBy w3 (some g) from hw3 ▸ HS.out)
   clear hP hX hb HS
   go_upto_region 3 with (refine wpList_store_mid rfl 27 _ _ rfl g (k * 6) #[.string S,.int .u32 0,.int .u64 (M:Int),.int .u64 0,.int .u8 0,.string ⟨#[]⟩] rfl rfl HTk.out infoF6 (by simp [Value.oneCell']) ?_)
   rw [hw3]
   clear hw3 x0 x1 x2 x3 x4 x5 x6 HTk
   go_wp2
   obtain ⟨s1,s2,s3⟩:=HS3.out
   go_roundw
   case rel=>exact ⟨k + 1,by omega,by go_num,s1,s2,s3⟩
   case measure=>simp [intOf];omega
  ·obtain rfl:k = n:=by omega
   have H3:=hid hP
   have HB:=hid hb
   clear hP hb hX
   go_wp2
   go_end0
   exact ⟨rfl,H3.out,HB.out⟩
set_option maxRecDepth 100000 in
set_option maxHeartbeats 2000000 in
theorem spill_all (q:Option Addr) (n:Nat) (S:ByteArray) (M:Nat) (w:World) (hc:n ≤ maxLen) (hq:q = none ∧ n = 0 ∨ ∃ g,q = some ⟨g,0,none⟩) :
  Calls Tryz.prog 167 #[.agg #[.slice q n n,.string S,.int .u32 0,.int .u64 (M:Int),.int .u64 0,.int .u8 0,.string ⟨#[]⟩]] w fun e w'=>e = .returned (.tuple #[]) ∧ w.grownBy w' none:=by
 unfold maxLen at hc
 have hX:=heap_alloc_new w (.cells #[.slice q n n,.string S,.int .u32 0,.int .u64 (M:Int),.int .u64 0,.int .u8 0,.string ⟨#[]⟩] 87)
 have hb:=World.grownBy_alloc w (.cells #[.slice q n n,.string S,.int .u32 0,.int .u64 (M:Int),.int .u64 0,.int .u8 0,.string ⟨#[]⟩] 87) none
 obtain ⟨w1,hw1⟩:∃ x,x = w.alloc (.cells #[.slice q n n,.string S,.int .u32 0,.int .u64 (M:Int),.int .u64 0,.int .u8 0,.string ⟨#[]⟩] 87):=⟨_,rfl⟩
 rw [← hw1] at hX hb
 have x0:w1.cell? ⟨w.heap.size,0,none⟩ = some (.slice q n n):=(cell_of_row _ _ 0 _ _ _ hX).trans rfl
 have HW:=hid hw1
 have HB:=hid hb
 clear hX hw1 hb
 have HE:Hid (Calls Tryz.prog 167 #[.agg #[.slice q n n,.string S,.int .u32 0,.int .u64 (M:Int),.int .u64 0,.int .u8 0,.string ⟨#[]⟩]] w fun e w'=>e = .returned (.tuple #[]) ∧ w.grownBy w' none):=by
  refine hid ?_
  rcases hq with ⟨rfl,rfl⟩ | ⟨g,rfl⟩
  all_goals
   go_enter Tryz.func167,Tryz.ntmps167
   go_upto_region 1 with (fail)
   first | (have hww:=HW.out;simp only [Int.natCast_zero,Nat.cast_zero,Int.ofNat_zero] at hww;rw [← hww]) | rw [← HW.out]
   go_wp2
   clear x0
  ·go_loopw [3] (fun i wr=>i = .int .i64 0 ∧ w.grownBy wr none) (fun _ _=>0)
   case atStart=>exact ⟨rfl,HB.out⟩
   case round =>
    obtain ⟨rfl,hb⟩:=hrel
    go_wp2
    go_end0
    exact ⟨rfl,hb⟩
  ·go_loopw [3] (fun i wr=>i = .int .i64 (n:Int) ∧ w.grownBy wr none) (fun _ _=>0)
   case atStart=>exact ⟨rfl,HB.out⟩
   case round =>
    obtain ⟨rfl,hb⟩:=hrel
    have i1:¬ ((n:Int) < (n:Int)):=by omega
    go_wp2
    go_end0
    exact ⟨rfl,hb⟩
 exact HE.out
set_option maxRecDepth 100000 in
set_option maxHeartbeats 2000000 in
theorem clean_none (S:ByteArray) (M:Nat) (w:World) :
  Calls Tryz.prog 165 #[.agg #[.slice none 0 0,.string S,.int .u32 0,.int .u64 (M:Int),.int .u64 0,.int .u8 0,.string ⟨#[]⟩]] w fun e w'=>e = .returned (.bool true) ∧ w.grownBy w' none:=by
 go_enter Tryz.func165,Tryz.ntmps165
 have hX:=heap_alloc_new w (.cells #[.slice none 0 0,.string S,.int .u32 0,.int .u64 (M:Int),.int .u64 0,.int .u8 0,.string ⟨#[]⟩] 87)
 have hb:=World.grownBy_alloc w (.cells #[.slice none 0 0,.string S,.int .u32 0,.int .u64 (M:Int),.int .u64 0,.int .u8 0,.string ⟨#[]⟩] 87) none
 obtain ⟨w1,hw1⟩:∃ x,x = w.alloc (.cells #[.slice none 0 0,.string S,.int .u32 0,.int .u64 (M:Int),.int .u64 0,.int .u8 0,.string ⟨#[]⟩] 87):=⟨_,rfl⟩
 rw [← hw1] at hX hb
 have x0:w1.cell? ⟨w.heap.size,0,none⟩ = some (.slice none 0 0):=(cell_of_row _ _ 0 _ _ _ hX).trans rfl
 have HW:=hid hw1
 have HX:=hid hX
 clear hX hw1
 go_upto_region 1 with (fail)
 rw [← HW.out]
 go_wp2
 go_loopw [4] (fun i wr=>i = .int .i64 0 ∧ w.grownBy wr none) (fun _ _=>0)
 case atStart=>exact ⟨rfl,hb⟩
 case round =>
  obtain ⟨rfl,hb⟩:=hrel
  go_wp2
  go_ret
  exact ⟨rfl,hb⟩
set_option maxRecDepth 100000 in
set_option maxHeartbeats 2000000 in
theorem clean_row (g n:Nat) (S:ByteArray) (M:Nat) (w:World) (hg:PR w g S M n n) (hc:n ≤ maxLen) :
  Calls Tryz.prog 165 #[.agg #[.slice (some ⟨g,0,none⟩) n n,.string S,.int .u32 0,.int .u64 (M:Int),.int .u64 0,.int .u8 0,.string ⟨#[]⟩]] w fun e w'=>e = .returned (.bool true) ∧ w.grownBy w' none:=by
 unfold maxLen at hc
 have HG:=hid (show PR (w.alloc (.cells #[.slice (some ⟨g,0,none⟩) n n,.string S,.int .u32 0,.int .u64 (M:Int),.int .u64 0,.int .u8 0,.string ⟨#[]⟩] 87)) g S M n n by obtain ⟨cur,c1, -⟩:=hg.row;exact hg.of_eq (Below.heap_alloc _ _ _ (Array.getElem?_eq_some_iff.1 c1).1))
 have hX:=heap_alloc_new w (.cells #[.slice (some ⟨g,0,none⟩) n n,.string S,.int .u32 0,.int .u64 (M:Int),.int .u64 0,.int .u8 0,.string ⟨#[]⟩] 87)
 have hb:=World.grownBy_alloc w (.cells #[.slice (some ⟨g,0,none⟩) n n,.string S,.int .u32 0,.int .u64 (M:Int),.int .u64 0,.int .u8 0,.string ⟨#[]⟩] 87) none
 obtain ⟨w1,hw1⟩:∃ x,x = w.alloc (.cells #[.slice (some ⟨g,0,none⟩) n n,.string S,.int .u32 0,.int .u64 (M:Int),.int .u64 0,.int .u8 0,.string ⟨#[]⟩] 87):=⟨_,rfl⟩
 rw [← hw1] at hX hb HG
 have x0:w1.cell? ⟨w.heap.size,0,none⟩ = some (.slice (some ⟨g,0,none⟩) n n):=(cell_of_row _ _ 0 _ _ _ hX).trans rfl
 have HW:=hid hw1
 have HX:=hid hX
 have HB:=hid hb
 have hneq:=fun W=>neqFact W S M
 clear hg hX hw1 hb
 go_enter Tryz.func165,Tryz.ntmps165
 go_upto_region 1 with (fail)
 rw [← HW.out]
 go_wp2
 clear x0
 go_loopw [4] (fun i wr=>∃ k:Nat,k ≤ n ∧ i = .int .i64 (k:Int) ∧ PR wr g S M n n ∧ wr.heap[w.heap.size]? = some (.cells #[.slice (some ⟨g,0,none⟩) n n,.string S,.int .u32 0,.int .u64 (M:Int),.int .u64 0,.int .u8 0,.string ⟨#[]⟩] 87 (0,0)) ∧ w.grownBy wr none) (fun i _=>n - (intOf i).toNat)
 case atStart=>exact ⟨0,Nat.zero_le _,rfl,HG.out,HX.out,HB.out⟩
 case round =>
  obtain ⟨k,hk,rfl,h1,hX,hb⟩:=hrel
  by_cases hlt:k < n
  ·obtain ⟨x0,x1,x2,x3,x4,x5,x6⟩:=box7 hX
   obtain ⟨y0,y1,y2,y3,y4,y5⟩:=mark6 (h1.marks k hlt)
   have i0:(0:Int) ≤ (k:Int):=by omega
   have i1:(k:Int) < (n:Int):=by omega
   have H1:=hid h1
   have HX2:=hid hX
   have HB2:=hid hb
   clear h1 hX hb
   go_upto_region 5 with (fail)
   go_quiet (fail)
   obtain ⟨w2,hw2⟩:∃ x,x = wr.drewN nq:=⟨_,rfl⟩
   rw [← hw2]
   have k1:PR w2 g S M n n:=by rw [hw2];exact H1.out.of_eq rfl
   have k2:w2.heap[w.heap.size]? = some (.cells #[.slice (some ⟨g,0,none⟩) n n,.string S,.int .u32 0,.int .u64 (M:Int),.int .u64 0,.int .u8 0,.string ⟨#[]⟩] 87 (0,0)):=by rw [hw2];exact HX2.out
   have k3:w.grownBy w2 none:=by rw [hw2];exact HB2.out.trans ⟨rfl,rfl,rfl,Nat.le_refl _,fun _ _ _=>rfl⟩
   have K1:=hid k1
   have K2:=hid k2
   have K3:=hid k3
   clear k1 k2 k3 hw2
   go_wp2
   go_roundw
   case rel=>exact ⟨k + 1,by omega,by go_num,K1.out,K2.out,K3.out⟩
   case measure=>simp [intOf];omega
  ·obtain rfl:k = n:=by omega
   have HB:=hid hb
   clear h1 hb hX
   go_wp2
   go_ret
   exact ⟨rfl,HB.out⟩
end Go.Proofs.Herb
namespace Go.Proofs.Herb
open Go.RowKit Go.Shelf
def laysMLay_ren:Go.Shelf.Ren:=⟨fun | 171=>83 | 243=>113 | 246=>128 | 283=>136 | 284=>137 | 285=>138 | 286=>139 | 129=>143 | 317=>142 | 318=>144 | 319=>145 | 320=>146 | 337=>147 | 338=>148 | n=>n,fun | 3=>3 | 9=>9 | 2=>2 | 4=>4 | 171=>189 | 0=>0 | 53=>24 | 37=>22 | 5=>5 | 173=>192 | 212=>198 | 51=>23 | 20=>20 | 213=>199 | 46=>143 | 232=>202 | 233=>203 | n=>n,fun | 17=>0 | 18=>1 | 19=>2 | n=>n⟩
theorem laysMLay:Go.Proofs.LaysM.n171 Tryz.prog laysMLay_ren := {
 mixed:=by kernel_rfl
 f129:=Tryz.func143.trans (congrArg some (by kernel_rfl))
 f171:=Tryz.func83.trans (congrArg some (by kernel_rfl))
 f243:=Tryz.func113.trans (congrArg some (by kernel_rfl))
 f246:=Tryz.func128.trans (congrArg some (by kernel_rfl))
 f283:=Tryz.func136.trans (congrArg some (by kernel_rfl))
 f284:=Tryz.func137.trans (congrArg some (by kernel_rfl))
 f285:=Tryz.func138.trans (congrArg some (by kernel_rfl))
 f286:=Tryz.func139.trans (congrArg some (by kernel_rfl))
 f317:=Tryz.func142.trans (congrArg some (by kernel_rfl))
 f318:=Tryz.func144.trans (congrArg some (by kernel_rfl))
 f319:=Tryz.func145.trans (congrArg some (by kernel_rfl))
 f320:=Tryz.func146.trans (congrArg some (by kernel_rfl))
 f337:=Tryz.func147.trans (congrArg some (by kernel_rfl))
 f338:=Tryz.func148.trans (congrArg some (by kernel_rfl))
 t0:=Tryz.underlying0
 a0:=Tryz.isAgg0
 z0:=Tryz.sizeOf0
 v0:=Tryz.zeroValue0
 t2:=Tryz.underlying2
 a2:=Tryz.isAgg2
 z2:=Tryz.sizeOf2
 v2:=Tryz.zeroValue2
 t3:=Tryz.underlying3
 a3:=Tryz.isAgg3
 z3:=Tryz.sizeOf3
 v3:=Tryz.zeroValue3
 t4:=Tryz.underlying4
 a4:=Tryz.isAgg4
 z4:=Tryz.sizeOf4
 v4:=Tryz.zeroValue4
 t5:=Tryz.underlying5
 a5:=Tryz.isAgg5
 z5:=Tryz.sizeOf5
 v5:=Tryz.zeroValue5
 t9:=Tryz.underlying9
 a9:=Tryz.isAgg9
 z9:=Tryz.sizeOf9
 v9:=Tryz.zeroValue9
 t20:=Tryz.underlying20
 a20:=Tryz.isAgg20
 z20:=Tryz.sizeOf20
 v20:=Tryz.zeroValue20
 t37:=Tryz.underlying22
 a37:=Tryz.isAgg22
 z37:=Tryz.sizeOf22
 v37:=Tryz.zeroValue22
 t46:=Tryz.underlying143
 a46:=Tryz.isAgg143
 z46:=Tryz.sizeOf143
 v46:=Tryz.zeroValue143
 t51:=Tryz.underlying23
 a51:=Tryz.isAgg23
 z51:=Tryz.sizeOf23
 v51:=Tryz.zeroValue23
 t53:=Tryz.underlying24
 a53:=Tryz.isAgg24
 z53:=Tryz.sizeOf24
 v53:=Tryz.zeroValue24
 t171:=Tryz.underlying189
 a171:=Tryz.isAgg189
 z171:=Tryz.sizeOf189
 v171:=Tryz.zeroValue189
 t173:=Tryz.underlying192
 a173:=Tryz.isAgg192
 z173:=Tryz.sizeOf192
 v173:=Tryz.zeroValue192
 t212:=Tryz.underlying198
 a212:=Tryz.isAgg198
 z212:=Tryz.sizeOf198
 v212:=Tryz.zeroValue198
 t213:=Tryz.underlying199
 a213:=Tryz.isAgg199
 z213:=Tryz.sizeOf199
 t232:=Tryz.underlying202
 a232:=Tryz.isAgg202
 z232:=Tryz.sizeOf202
 v232:=Tryz.zeroValue202
 t233:=Tryz.underlying203
 a233:=Tryz.isAgg203
 z233:=Tryz.sizeOf203
 v233:=Tryz.zeroValue203
 g17:=by kernel_rfl
 g18:=by kernel_rfl
 g19:=by kernel_rfl
 i0:=by kernel_rfl
 i2:=by kernel_rfl
 i3:=by kernel_rfl
 i4:=by kernel_rfl
 i5:=by kernel_rfl
 i9:=by kernel_rfl
 i20:=by kernel_rfl
 i37:=by kernel_rfl
 i46:=by kernel_rfl
 i51:=by kernel_rfl
 i53:=by kernel_rfl
 i171:=by kernel_rfl
 i173:=by kernel_rfl
 i212:=by kernel_rfl
 i232:=by kernel_rfl
 i233:=by kernel_rfl
 m17:=by kernel_rfl
 m18:=by kernel_rfl
 m19:=by kernel_rfl }
def Pow10 (w:World):Prop:=Lib.TabIs Tryz.prog w "internal/strconv.uint64pow10" .u64 Lib.pow10Tab
theorem gPow10:Tryz.prog.globalNamed "internal/strconv.uint64pow10" = some 0:=by kernel_rfl
theorem Pow10.below {w w':World} {B:Nat} (h:Pow10 w) (hb:Below B w w') (hB:w.heap.size ≤ B):Pow10 w':=Go.Joins.tab_stays gPow10 h hb hB
theorem itoa_any (n:Nat) (hn:n ≤ 9223372036854775807) (w:World) (ht:Pow10 w) :
  Calls Tryz.prog 83 #[.int .i64 (n:Int)] w fun e w'=>e = .returned (.string ⟨(Lib.itoa (n:Int)).toArray⟩) ∧ Below w.heap.size w w':=by
 refine (Any.strconv_Itoa laysMLay (n:Int) (by omega) (by omega) w ht).mono ?_
 rintro e w' ⟨rfl,k,os,rfl⟩
 exact ⟨rfl,Lib.below_grow _ w (Nat.le_refl _) k os⟩
end Go.Proofs.Herb
namespace Go.Proofs.Herb
open Go.RowKit
attribute [local go_sem] Oper.semAt_some
theorem infoSheet:(Tryz.prog.info? 90).map (fun i=>(i.zero,i.size,i.bytes)) = some (some .nilIface,1,16):=by kernel_rfl
structure BookAt (w:World) (K base:Nat) (ss:List Sh):Prop where
 row:∃ q c,w.heap[K]? = some (.cells #[.slice q ss.length c] 46 (0,0)) ∧ w.ownsRow base 90 1 (.slice q ss.length c) ss.length (ss.map Sh.v)
def KpB (w w':World):Prop:=w.heap.size ≤ w'.heap.size ∧ ∀ (g:Nat) (cs:Array Value) (t:TypeId) (fr:Nat × Nat),w.heap[g]? = some (.cells cs t fr) → t ≠ 46 → t ≠ 90 → w'.heap[g]? = w.heap[g]?
theorem KpB.refl (w:World):KpB w w:=⟨Nat.le_refl _,fun _ _ _ _ _ _ _=>rfl⟩
theorem KpB.trans {a b c:World} (h:KpB a b) (k:KpB b c):KpB a c:=⟨Nat.le_trans h.1 k.1,fun g cs t fr hg h1 h2=>(k.2 g cs t fr ((h.2 g cs t fr hg h1 h2).trans hg) h1 h2).trans (h.2 g cs t fr hg h1 h2)⟩
theorem KpB.of_below {w w':World} (h:Below w.heap.size w w'):KpB w w':=⟨h.size,fun g _ _ _ hg _ _=>h.block g (Array.getElem?_eq_some_iff.1 hg).1⟩
theorem BookAt.below {w w':World} {K base:Nat} {ss:List Sh} (h:BookAt w K base ss) (hb:Below w.heap.size w w'):BookAt w' K base ss:=by
 obtain ⟨q,c,h1,h2⟩:=h.row
 exact ⟨q,c,(hb.block K (Array.getElem?_eq_some_iff.1 h1).1).trans h1,own_below h2 hb⟩
set_option maxRecDepth 100000 in
set_option maxHeartbeats 1000000 in
theorem mark_any (K base:Nat) (ss:List Sh) (w:World) (h:BookAt w K base ss) (hl:ss.length ≤ 1000000) (ht:Pow10 w) :
  Calls Tryz.prog 39 #[.pointer (some ⟨K,0,none⟩)] w fun e w'=>(∃ S,e = .returned (.tuple #[.int .u64 ((ss.length + 1:Nat):Int),.string S])) ∧ Below w.heap.size w w':=by
 obtain ⟨q,c,h1,h2⟩:=h.row
 obtain ⟨N,hN⟩:∃ N,N = ss.length:=⟨_,rfl⟩
 rw [← hN] at h1 h2 hl ⊢
 have k0:w.cell? ⟨K,0,none⟩ = some (.slice q N c):=(cell_of_row _ _ 0 _ _ _ h1).trans rfl
 have HT:=hid ht
 have HI:=itoa_any (N + 1) (by omega) w HT.out
 rw [show ((N + 1:Nat):Int) = (N:Int) + 1 by omega] at HI ⊢
 have HI2:=hid HI
 clear h h1 h2 hN ht HI
 go_enter Tryz.func39,Tryz.ntmps39
 go_wp2_with fail
 refine HI2.out.mono ?_
 rintro e w' ⟨rfl,hb⟩
 have HB:=hid hb
 obtain ⟨S,hS⟩:∃ S:ByteArray,S = ⟨(Lib.itoa ((N:Int) + 1)).toArray⟩:=⟨_,rfl⟩
 have hSz:S.size ≤ 21:=by
  rw [hS]
  have h:=Lib.itoa_length_le ((N:Int) + 1) (by omega) (by omega)
  simpa [ByteArray.size] using h
 rw [← hS]
 clear hb hS
 go_wp2
 go_ret2
 exact ⟨⟨_,rfl⟩,HB.out⟩
theorem own_keep0 {w w':World} {base:Nat} {e:TypeId} {k:Nat} {v:Value} {n:Nat} {xs:List Value} (h:w.ownsRow base e k v n xs) (hb:∀ g,v.ownBlock = some g → w'.heap[g]? = w.heap[g]?):w'.ownsRow base e k v n xs:=by
 obtain ⟨h1,h2⟩:=h
 refine ⟨h1, ?_⟩
 rcases h2 with h2 | ⟨g,cap,cur,e,hl,hh,r⟩
 ·exact .inl h2
 ·exact .inr ⟨g,cap,cur,e,hl,(hb g (by rw [e];rfl)).trans hh,r⟩
theorem keep_done {w W:World} {K base N c c2:Nat} {q q2:Option Addr} {xs ys:List Value} {tmp:Obj} (h1:w.heap[K]? = some (.cells #[.slice q N c] 46 (0,0))) (h2:w.ownsRow base 90 1 (.slice q N c) N xs)
  (hown:W.ownsRow base 90 1 (.slice q2 (N + 1) c2) (N + 1) ys) (hg:(w.alloc tmp).grownBy W (Value.slice q N c).ownBlock) (hK:base ≤ K) (hbs:base ≤ w.heap.size) :
  W.heap[K]? = some (.cells #[.slice q N c] 46 (0,0)) ∧ (W.setCell ⟨K,0,none⟩ (.slice q2 (N + 1) c2)).heap[K]? = some (.cells #[.slice q2 (N + 1) c2] 46 (0,0)) ∧
   (W.setCell ⟨K,0,none⟩ (.slice q2 (N + 1) c2)).ownsRow base 90 1 (.slice q2 (N + 1) c2) (N + 1) ys ∧ KpB w (W.setCell ⟨K,0,none⟩ (.slice q2 (N + 1) c2)) ∧ Below base w (W.setCell ⟨K,0,none⟩ (.slice q2 (N + 1) c2)):=by
 have hKl:=(Array.getElem?_eq_some_iff.1 h1).1
 have ob:∀ g,(Value.slice q N c).ownBlock = some g → base ≤ g ∧ ∃ cur,w.heap[g]? = some (.cells cur 90 (0,0)):=by
  intro g hg'
  rcases h2.2 with ⟨e,_⟩ | ⟨g',cap,cur,e,hb,hh,_⟩
  ·rw [e] at hg';cases hg'
  ·rw [e] at hg';cases hg';exact ⟨hb,cur,hh⟩
 have ob2:∀ g,(Value.slice q2 (N + 1) c2).ownBlock = some g → ∃ cur,W.heap[g]? = some (.cells cur 90 (0,0)):=by
  intro g hg'
  rcases hown.2 with ⟨e,_⟩ | ⟨g',cap,cur,e,hb,hh,_⟩
  ·rw [e] at hg';cases hg'
  ·rw [e] at hg';cases hg';exact ⟨cur,hh⟩
 have hs:=hg.size
 rw [World.size_alloc] at hs
 have same:∀ g,g < w.heap.size → (Value.slice q N c).ownBlock ≠ some g → W.heap[g]? = w.heap[g]?:=fun g hl hne =>
  (hg.block g (by rw [World.size_alloc];omega) (fun e=>hne e.symm)).trans (Below.heap_alloc _ _ _ hl)
 have hKW:=(same K hKl (fun e=>by obtain ⟨_,cur,hh⟩:=ob K e;rw [h1] at hh;cases hh)).trans h1
 refine ⟨hKW,(heap_setCell_same _ _ 0 _ _ _ hKW).trans rfl,own_keep0 hown (fun g hg'=>heap_setCell_other _ _ _ _ (fun e=>by subst e;obtain ⟨cur,hh⟩:=ob2 _ hg';rw [hKW] at hh;cases hh)),⟨by simp [World.setCell];omega,fun g cs t fr hgc t1 t2 => ?_⟩, ?_⟩
 ·have hgl:=(Array.getElem?_eq_some_iff.1 hgc).1
  rw [heap_setCell_other _ _ _ _ (show g ≠ K from fun e=>by subst e;rw [h1] at hgc;cases hgc;exact t1 rfl)]
  exact same g hgl (fun e=>by obtain ⟨_,cur,hh⟩:=ob g e;rw [hgc] at hh;cases hh;exact t2 rfl)
 ·exact ((((Below.refl base w).alloc hbs tmp).grown hg (by rw [World.size_alloc];omega) (fun k e=>(ob k e).1)).setCell (p:=⟨K,0,none⟩) hK _)
set_option maxRecDepth 100000 in
set_option maxHeartbeats 1000000 in
theorem keep_any (K base:Nat) (ss:List Sh) (s:Sh) (w:World) (h:BookAt w K base ss) (hl:ss.length ≤ 1000000) (hK:base ≤ K) (hbs:base ≤ w.heap.size) :
  Calls Tryz.prog 40 #[.pointer (some ⟨K,0,none⟩),s.v] w fun e w'=>e = .returned (.tuple #[]) ∧ BookAt w' K base (ss ++ [s]) ∧ KpB w w' ∧ Below base w w':=by
 obtain ⟨q,c,h1,h2⟩:=h.row
 obtain ⟨N,hN⟩:∃ N,N = ss.length:=⟨_,rfl⟩
 rw [← hN] at h1 h2 hl
 have k0:w.cell? ⟨K,0,none⟩ = some (.slice q N c):=(cell_of_row _ _ 0 _ _ _ h1).trans rfl
 obtain ⟨G,hV⟩:∃ G,G = s.agg:=⟨_,rfl⟩
 show Calls _ _ #[_,.iface 87 s.agg] _ _
 rw [← hV]
 obtain ⟨i0,hi,hz0,hz1,hz2⟩:=info_parts infoSheet
 have k0:w.cell? ⟨K,0,none⟩ = some (.slice q N c):=(cell_of_row _ _ 0 _ _ _ h1).trans rfl
 have HV:=hid hV
 have H1:=hid h1
 have H2:=hid h2
 have HN:=hid hN
 clear h h1 h2 hN hV
 go_enter Tryz.func40,Tryz.ntmps40
 go_wp2_with (at_builtin;refine wpList_append_own _ rfl (.tmp 8) (.tmp 10) 44 rfl base 90 i0 .nilIface 1 16 Tryz.underlying44 hi hz0 hz1 hz2 rfl (by decide) (.slice q N c) N (ss.map Sh.v) rfl (H2.out.alloc _) ⟨w.heap.size,0,none⟩ 1 1 [.iface 87 G] rfl rfl (cell_one_new _ _ _) (by simp [Value.oneCell']) (by unfold maxLen;omega) (by omega) (by simp;omega) ?_;intro v' w1 hown hg _;obtain ⟨q2,c2,rfl⟩:∃ q2 c2,v' = .slice q2 (N + 1) c2:=(by obtain ⟨g2,c2,e⟩:=ownsRow_succ hown;exact ⟨_,_,e⟩);have HD:=hid (keep_done H1.out H2.out hown hg hK hbs);have k1:w1.cell? ⟨K,0,none⟩ = some (.slice q N c):=(cell_of_row _ _ 0 _ _ _ HD.out.1).trans rfl;have f1:w1.frozen? ⟨K,0,none⟩ = false:=frozen_of_row _ _ _ _ _ HD.out.1;clear hown hg k0)
 refine bodyPost_end (results_none rfl _ _ _) rfl ?_
 refine ⟨rfl,⟨_,_,by rw [List.length_append,← HN.out];exact HD.out.2.1,by rw [List.length_append,← HN.out,List.map_append];simpa [HV.out,Sh.v] using HD.out.2.2.1⟩,HD.out.2.2.2.1,HD.out.2.2.2.2⟩
end Go.Proofs.Herb
namespace Go.Proofs.Herb
open Go.RowKit
attribute [local go_sem] Oper.semAt_some
set_option maxRecDepth 100000 in
set_option maxHeartbeats 1000000 in
theorem bfacts_any (K base:Nat) (ss:List Sh) (q:Option Addr) (n:Nat) (w:World) (h:BookAt w K base ss) (hl:ss.length ≤ 1000000) (hK:base ≤ K) (hbs:base ≤ w.heap.size) (ht:Pow10 w) :
  Calls Tryz.prog 14 #[.pointer (some ⟨K,0,none⟩),.slice q n n] w fun e w'=>e = .returned (.tuple #[]) ∧ (∃ S,BookAt w' K base (ss ++ [⟨q,n,S,ss.length + 1⟩])) ∧ KpB w w' ∧ Below base w w':=by
 have HM:=hid (mark_any K base ss w h hl ht)
 have H:=hid h
 clear h ht
 go_enter Tryz.func14,Tryz.ntmps14
 go_wp2_with fail
 refine HM.out.mono ?_
 rintro e w1 ⟨⟨S,rfl⟩,hb1⟩
 have HB1:=hid hb1
 have hs1:=hb1.size
 obtain ⟨M,hM⟩:∃ M,M = ss.length + 1:=⟨_,rfl⟩
 have HK:=hid (keep_any K base ss ⟨q,n,S,M⟩ w1 (H.out.below hb1) hl hK (by omega))
 rw [← hM]
 have HM2:=hid hM
 clear hb1 hM
 go_wp2_with fail
 refine HK.out.mono ?_
 rintro e w2 ⟨rfl,h1,h2,h3⟩
 have H1:=hid h1
 have H2:=hid h2
 have H3:=hid h3
 clear h1 h2 h3
 go_wp2
 go_end0
 exact ⟨rfl,⟨S,HM2.out ▸ H1.out⟩,(KpB.of_below HB1.out).trans H2.out,(HB1.out.mono hbs).trans H3.out⟩
theorem Fr.kpB {w w':World} {base:Nat} {e:TypeId} {k:Nat} {v:Value} {n:Nat} {xs:List Value} (h:Fr w base e k v n xs) (hk:KpB w w') (h1:e ≠ 46) (h2:e ≠ 90):Fr w' base e k v n xs:=by
 obtain ⟨f1,f2⟩:=h
 refine ⟨f1, ?_⟩
 rcases f2 with f2 | ⟨g,cap,cur,hv,hg,hh,r⟩
 ·exact .inl f2
 ·exact .inr ⟨g,cap,cur,hv,hg,(hk.2 g _ _ _ hh h1 h2).trans hh,r⟩
theorem ShRow.kpB {w w':World} {s:Sh} {k:Nat} (h:ShRow w s k) (hk:KpB w w'):ShRow w' s k:=by
 obtain ⟨h1,h4⟩:=h
 refine ⟨h1, ?_⟩
 rcases h4 with h4 | ⟨g,e1,e2⟩
 ·exact .inl h4
 ·obtain ⟨cur,c1, -⟩:=e2.row
  exact .inr ⟨g,e1,e2.of_eq (hk.2 g _ _ _ c1 (by decide) (by decide))⟩
theorem ShRow.of_fr {w:World} {base:Nat} {s:Sh} {xs:List Value} (h:Fr w base 27 6 s.sl s.n xs):ShRow w s 0 ∧ ∀ g,s.blk = some g → base ≤ g ∧ g < w.heap.size:=by
 obtain ⟨q,n,S,mk⟩:=s
 rcases h.2 with ⟨e,hn⟩ | ⟨g,cap,cur,e,hg,hh,h1,h2,h3,h4⟩
 ·unfold Sh.sl at e
  cases e
  exact ⟨⟨Nat.zero_le _,.inl ⟨rfl,rfl⟩⟩,fun g hg=>by cases hg⟩
 ·unfold Sh.sl at e
  cases e
  refine ⟨⟨h2,.inr ⟨g,rfl,⟨cur,hh,h3⟩,fun i hi=>absurd hi (Nat.not_lt_zero _)⟩⟩,fun g' hg' => ?_⟩
  cases hg'
  exact ⟨hg,(Array.getElem?_eq_some_iff.1 hh).1⟩
def AheadS (s t:Sh):Prop:=∀ g h,s.blk = some g → t.blk = some h → g < h
structure ShsOk (w:World) (lo hi:Nat) (hs:List Sh):Prop where
 row:∀ s ∈ hs,ShRow w s 0
 lo:∀ s ∈ hs,∀ g,s.blk = some g → lo ≤ g
 hi:∀ s ∈ hs,∀ g,s.blk = some g → g < hi
 ap:hs.Pairwise AheadS
theorem ShsOk.kpB {w w':World} {lo hi:Nat} {hs:List Sh} (h:ShsOk w lo hi hs) (hk:KpB w w'):ShsOk w' lo hi hs:=⟨fun s hs=>(h.row s hs).kpB hk,h.lo,h.hi,h.ap⟩
theorem ShsOk.append {w:World} {lo mid hi:Nat} {hs ks:List Sh} (h:ShsOk w lo mid hs) (k:ShsOk w mid hi ks) (h1:mid ≤ hi) (h2:lo ≤ mid):ShsOk w lo hi (hs ++ ks):=by
 refine ⟨fun s hs' => ?_,fun s hs' => ?_,fun s hs' => ?_,List.pairwise_append.2 ⟨h.ap,k.ap,fun a ha b hb g g' hg hg'=>Nat.lt_of_lt_of_le (h.hi a ha g hg) (k.lo b hb g' hg')⟩⟩
 all_goals rcases List.mem_append.1 hs' with q | q
 ·exact h.row s q
 ·exact k.row s q
 ·exact h.lo s q
 ·intro g hg;exact Nat.le_trans h2 (k.lo s q g hg)
 ·intro g hg;exact Nat.lt_of_lt_of_le (h.hi s q g hg) h1
 ·exact k.hi s q
end Go.Proofs.Herb
namespace Go.Proofs.Herb
open Go.RowKit
attribute [local go_sem] Oper.semAt_some
theorem paint_any (s:Sh) (w:World) (h:ShRow w s 0) :
  Calls Tryz.prog 166 #[s.agg] w fun e w'=>e = .returned (.tuple #[]) ∧ ShRow w' s s.n ∧ w.grownBy w' s.blk:=by
 obtain ⟨q,n,S,M⟩:=s
 obtain ⟨h1,⟨e1,e2⟩ | ⟨g,e1,e2⟩⟩:=h
 ·dsimp only at e1 e2
  subst e1;subst e2
  exact (paint_none S M w).mono fun _ _ ⟨a,b⟩=>⟨a,⟨h1,.inl ⟨rfl,rfl⟩⟩,b⟩
 ·dsimp only at e1
  subst e1
  exact (paint_row g n S M w e2 h1).mono fun _ _ ⟨a,b,c⟩=>⟨a,⟨h1,.inr ⟨g,rfl,b⟩⟩,c⟩
theorem spill_any (s:Sh) (w:World) (h:ShRow w s s.n) :
  Calls Tryz.prog 167 #[s.agg] w fun e w'=>e = .returned (.tuple #[]) ∧ ShRow w' s s.n ∧ w.grownBy w' s.blk:=by
 obtain ⟨q,n,S,M⟩:=s
 have h0:=h
 obtain ⟨h1,h2⟩:=h
 refine (spill_all q n S M w h1 ?_).mono fun _ _ ⟨a,b⟩=>⟨a,h0.kept b (fun g _ e=>by cases e),⟨b.os,b.tape,b.output,b.size,fun i hi _=>b.block i hi (fun e=>by cases e)⟩⟩
 rcases h2 with h2 | ⟨g,e,_⟩
 ·exact .inl h2
 ·exact .inr ⟨g,e⟩
theorem clean_any (s:Sh) (w:World) (h:ShRow w s s.n) :
  Calls Tryz.prog 165 #[s.agg] w fun e w'=>e = .returned (.bool true) ∧ w.grownBy w' none:=by
 obtain ⟨q,n,S,M⟩:=s
 obtain ⟨h1,⟨e1,e2⟩ | ⟨g,e1,e2⟩⟩:=h
 ·dsimp only at e1 e2
  subst e1;subst e2
  exact clean_none S M w
 ·dsimp only at e1
  subst e1
  exact clean_row g n S M w e2 h1
structure BookI (W:World) (K R base:Nat) (ss:List Sh) (f:Nat → Sh → Nat) (w:World):Prop where
 book:w.heap[K]? = W.heap[K]?
 row:w.heap[R]? = W.heap[R]?
 sh:∀ (j:Nat) (h:j < ss.length),ShRow w ss[j] (f j ss[j])
 below:Below base W w
theorem BookI.step {W w w':World} {K R base k:Nat} {ss:List Sh} {f f':Nat → Sh → Nat} (h:BookI W K R base ss f w) (hk:k < ss.length) (hr:ShRow w' ss[k] (f' k ss[k])) (hg:w.grownBy w' ss[k].blk)
  (hf:∀ j s,j ≠ k → f' j s = f j s) (hap:ss.Pairwise AheadS) (hlo:∀ s ∈ ss,∀ g,s.blk = some g → base ≤ g) (hbs:base ≤ W.heap.size) (hKl:K < W.heap.size) (hRl:R < W.heap.size) (hK:ss[k].blk ≠ some K) (hR:ss[k].blk ≠ some R):BookI W K R base ss f' w':=by
 have hs:=h.below.size
 refine ⟨(hg.block K (by omega) (fun e=>hK e.symm)).trans h.book,(hg.block R (by omega) (fun e=>hR e.symm)).trans h.row,fun j hj => ?_,h.below.grown hg (by omega) (fun g e=>hlo _ (List.getElem_mem hk) g e)⟩
 by_cases e:j = k
 ·subst e;exact hr
 ·rw [hf j _ e]
  refine (h.sh j hj).kept hg (fun g hg' e' => ?_)
  rcases Nat.lt_or_ge j k with q | q
  ·have:=List.pairwise_iff_getElem.1 hap j k hj hk q g g hg' e';omega
  ·have:=List.pairwise_iff_getElem.1 hap k j hk hj (by omega) g g e' hg';omega
theorem m_paint (k:Nat) (q:Option Addr) (n:Nat) (S:ByteArray) (x:Int) (w:World):(method (k + 1) 87 (.agg #[.slice q n n,.string S,.int .u32 0,.int .u64 x,.int .u64 0,.int .u8 0,.string ⟨#[]⟩]) "herbarium/herbariumlaw01.paint").run Tryz.prog w = .ok (166,.agg #[.slice q n n,.string S,.int .u32 0,.int .u64 x,.int .u64 0,.int .u8 0,.string ⟨#[]⟩]) w:=by kernel_rfl
theorem m_spill (k:Nat) (q:Option Addr) (n:Nat) (S:ByteArray) (x:Int) (w:World):(method (k + 1) 87 (.agg #[.slice q n n,.string S,.int .u32 0,.int .u64 x,.int .u64 0,.int .u8 0,.string ⟨#[]⟩]) "herbarium/herbariumlaw01.spill").run Tryz.prog w = .ok (167,.agg #[.slice q n n,.string S,.int .u32 0,.int .u64 x,.int .u64 0,.int .u8 0,.string ⟨#[]⟩]) w:=by kernel_rfl
theorem m_clean (k:Nat) (q:Option Addr) (n:Nat) (S:ByteArray) (x:Int) (w:World):(method (k + 1) 87 (.agg #[.slice q n n,.string S,.int .u32 0,.int .u64 x,.int .u64 0,.int .u8 0,.string ⟨#[]⟩]) "herbarium/herbariumlaw01.clean").run Tryz.prog w = .ok (165,.agg #[.slice q n n,.string S,.int .u32 0,.int .u64 x,.int .u64 0,.int .u8 0,.string ⟨#[]⟩]) w:=by kernel_rfl
theorem sh_tag {w:World} {s:Sh} {k g:Nat} (h:ShRow w s k) (hg:s.blk = some g):∃ cur,w.heap[g]? = some (.cells cur 27 (0,0)):=by
 rcases h.2 with ⟨e,_⟩ | ⟨g',e1,e2⟩
 ·unfold Sh.blk at hg;rw [e] at hg;cases hg
 ·unfold Sh.blk at hg;rw [e1] at hg;cases hg;exact e2.row.imp fun _ h=>h.1
theorem BookI.cells {W w:World} {K R base N c:Nat} {ss:List Sh} {f:Nat → Sh → Nat} {q:Option Addr} (h:BookI W K R base ss f w) (h1:W.heap[K]? = some (.cells #[.slice q N c] 46 (0,0))) (h2:∀ (k:Nat) (hk:k < ss.length),q = some ⟨R,0,none⟩ ∧ W.cell? ⟨R,k,none⟩ = some ss[k].v) :
  w.cell? ⟨K,0,none⟩ = some (.slice q N c) ∧ ∀ (k:Nat) (hk:k < ss.length),w.cell? ⟨R,k,none⟩ = some ss[k].v :=
 ⟨(cell_of_row _ _ 0 _ _ _ (h.book.trans h1)).trans rfl,fun k hk=>(World.cell?_of_block (w:=W) (a:=⟨R,k,none⟩) h.row).trans (h2 k hk).2⟩
set_option maxRecDepth 100000 in
set_option maxHeartbeats 4000000 in
theorem apart_any (K base:Nat) (ss:List Sh) (lo hi:Nat) (w:World) (h:BookAt w K base ss) (hs:ShsOk w lo hi ss) (hlo:base ≤ lo) (hbs:base ≤ w.heap.size) (hl:ss.length ≤ 1000000) :
  Calls Tryz.prog 18 #[.pointer (some ⟨K,0,none⟩)] w fun e w'=>e = .returned (.bool true) ∧ Below base w w':=by
 obtain ⟨q,c,h1,h2⟩:=h.row
 obtain ⟨N,hN⟩:∃ N,N = ss.length:=⟨_,rfl⟩
 rw [← hN] at h1 h2 hl
 have k0:w.cell? ⟨K,0,none⟩ = some (.slice q N c):=(cell_of_row _ _ 0 _ _ _ h1).trans rfl
 by_cases hbig:250 < N
 ·have d1:decide ((250:Int) < (N:Int)) = true:=by simp;omega
  clear h h1 h2 hs hN
  go_enter Tryz.func18,Tryz.ntmps18
  go_wp2_with fail
  go_ret
  exact ⟨rfl,Below.refl _ _⟩
 ·have d1:decide ((250:Int) < (N:Int)) = false:=by simp;omega
  have hKl:=(Array.getElem?_eq_some_iff.1 h1).1
  obtain ⟨R,hRl,hRt,hrow⟩:∃ R,R < w.heap.size ∧ (∀ s ∈ ss,s.blk ≠ some R) ∧ ∀ (k:Nat) (hk:k < ss.length),q = some ⟨R,0,none⟩ ∧ w.cell? ⟨R,k,none⟩ = some ss[k].v:=by
   rcases h2.2 with ⟨e,hn⟩ | ⟨g,cap,cur,e,hb,hh, -⟩
   ·exact ⟨K,hKl,fun s hs' e'=>(by obtain ⟨cur,hc⟩:=sh_tag (hs.row s hs') e';rw [h1] at hc;cases hc),fun k hk=>by omega⟩
   ·have hgl:=(Array.getElem?_eq_some_iff.1 hh).1
    cases e
    refine ⟨g,hgl,fun s hs' e'=>(by obtain ⟨cur,hc⟩:=sh_tag (hs.row s hs') e';rw [hh] at hc;cases hc),fun k hk=>⟨rfl, ?_⟩⟩
    obtain ⟨b,o,e3,hc⟩:=(Fr.of_own h2).rd.cell (k:=k) (by rw [List.length_map];exact hk)
    cases e3
    rw [Nat.zero_add] at hc
    rw [hc,List.getElem_map]
  have hKt:∀ s ∈ ss,s.blk ≠ some K:=fun s hs' e'=>by obtain ⟨cur,hc⟩:=sh_tag (hs.row s hs') e';rw [h1] at hc;cases hc
  have HStart:=hid (show BookI w K R base ss (fun j s=>if j < 0 then s.n else 0) w from ⟨rfl,rfl,fun j hj=>by rw [if_neg (Nat.not_lt_zero _)];exact hs.row _ (List.getElem_mem hj),Below.refl _ _⟩)
  have HLo:=hid (show ∀ s ∈ ss,∀ g,s.blk = some g → base ≤ g from fun s hs' g hg=>Nat.le_trans hlo (hs.lo s hs' g hg))
  have HAp:=hid hs.ap
  have HN:=hid hN
  have H1:=hid h1
  have HRow:=hid hrow
  have HKt:=hid hKt
  have HRt:=hid hRt
  clear h h1 h2 hs hN hrow hKt hRt
  go_enter Tryz.func18,Tryz.ntmps18
  have hm1:=m_paint
  have hm2:=m_spill
  have hm3:=m_clean
  go_wp2_with fail
  clear k0
  go_loopw [3] (fun i wr=>∃ k:Nat,k ≤ N ∧ i = .int .i64 (k:Int) ∧ BookI w K R base ss (fun j s=>if j < k then s.n else 0) wr) (fun i _=>N - (intOf i).toNat)
  case atStart=>exact ⟨0,Nat.zero_le _,rfl,HStart.out⟩
  case round =>
   obtain ⟨k,hk,rfl,hI⟩:=hrel
   have HI:=hid hI
   obtain ⟨k0,kr⟩:=hI.cells H1.out HRow.out
   clear hI
   by_cases hlt:k < N
   ·have hks:k < ss.length:=by rw [← HN.out];exact hlt
    have kk:=kr k hks
    obtain ⟨s,hs⟩:∃ s,s = ss[k]:=⟨_,rfl⟩
    rw [← hs] at kk
    have hq:=(HRow.out k hks).1
    subst hq
    have HSe:=hid hs
    have HMem:=hid (show s ∈ ss by rw [hs];exact List.getElem_mem hks)
    clear hs kr
    have HP:=hid (paint_any s wr (by have:=HI.out.sh k hks;rw [if_neg (Nat.lt_irrefl _),← HSe.out] at this;exact this))
    unfold Sh.v Sh.agg at kk
    unfold Sh.agg at HP
    have i0:(0:Int) ≤ (k:Int):=by omega
    have i1:(k:Int) < (N:Int):=by omega
    go_wp2_with fail
    refine HP.out.mono ?_
    rintro e w2 ⟨rfl,hr2,hg2⟩
    have hI2:BookI w K R base ss (fun j s=>if j < k + 1 then s.n else 0) w2:=by
     have hb:=HSe.out
     refine BookI.step HI.out hks (by rw [← hb,if_pos (Nat.lt_succ_self _)];exact hr2) (by rw [← hb];exact hg2) (fun j s hj => ?_) HAp.out HLo.out hbs hKl hRl (by rw [← hb];exact HKt.out s HMem.out) (by rw [← hb];exact HRt.out s HMem.out)
     by_cases q:j < k
     ·rw [if_pos q,if_pos (by omega)]
     ·rw [if_neg q,if_neg (by omega)]
    have HI2:=hid hI2
    clear hr2 hg2 hI2
    go_wp2
    go_roundw
    case rel=>exact ⟨k + 1,by omega,by go_num,HI2.out⟩
    case measure=>simp [intOf];omega
   ·obtain rfl:N = k:=by omega
    clear kr
    have HI1:=hid (show BookI w K R base ss (fun j s=>if j < 0 then s.n else s.n) wr from ⟨HI.out.book,HI.out.row,fun j hj=>by rw [if_neg (Nat.not_lt_zero _)];have:=HI.out.sh j hj;rw [if_pos (by rw [HN.out];exact hj)] at this;exact this,HI.out.below⟩)
    clear HI HStart
    go_wp2_with fail
    clear k0
    go_loopw [4] (fun i wr=>∃ k:Nat,k ≤ N ∧ i = .int .i64 (k:Int) ∧ BookI w K R base ss (fun j s=>if j < k then s.n else s.n) wr) (fun i _=>N - (intOf i).toNat)
    case atStart=>exact ⟨0,Nat.zero_le _,rfl,HI1.out⟩
    case round =>
     obtain ⟨k,hk,rfl,hI⟩:=hrel
     have HI:=hid hI
     obtain ⟨k0,kr⟩:=hI.cells H1.out HRow.out
     clear hI
     by_cases hlt:k < N
     ·have hks:k < ss.length:=by rw [← HN.out];exact hlt
      have kk:=kr k hks
      obtain ⟨s,hs⟩:∃ s,s = ss[k]:=⟨_,rfl⟩
      rw [← hs] at kk
      have hq:=(HRow.out k hks).1
      subst hq
      have HSe:=hid hs
      have HMem:=hid (show s ∈ ss by rw [hs];exact List.getElem_mem hks)
      clear hs kr
      have HP:=hid (spill_any s wr (by have:=HI.out.sh k hks;rw [if_neg (Nat.lt_irrefl _),← HSe.out] at this;exact this))
      unfold Sh.v Sh.agg at kk
      unfold Sh.agg at HP
      have i0:(0:Int) ≤ (k:Int):=by omega
      have i1:(k:Int) < (N:Int):=by omega
      go_wp2_with fail
      refine HP.out.mono ?_
      rintro e w2 ⟨rfl,hr2,hg2⟩
      have hI2:BookI w K R base ss (fun j s=>if j < k + 1 then s.n else s.n) w2:=by
       have hb:=HSe.out
       refine BookI.step HI.out hks (by rw [← hb,if_pos (Nat.lt_succ_self _)];exact hr2) (by rw [← hb];exact hg2) (fun j s hj => ?_) HAp.out HLo.out hbs hKl hRl (by rw [← hb];exact HKt.out s HMem.out) (by rw [← hb];exact HRt.out s HMem.out)
       by_cases q:j < k
       ·rw [if_pos q,if_pos (by omega)]
       ·rw [if_neg q,if_neg (by omega)]
      have HI2:=hid hI2
      clear hr2 hg2 hI2
      go_wp2
      go_roundw
      case rel=>exact ⟨k + 1,by omega,by go_num,HI2.out⟩
      case measure=>simp [intOf];omega
     ·obtain rfl:N = k:=by omega
      clear kr
      have HI3:=hid (show BookI w K R base ss (fun _ s=>s.n) wr from ⟨HI.out.book,HI.out.row,fun j hj=>by have:=HI.out.sh j hj;rw [if_pos (by rw [HN.out];exact hj)] at this;exact this,HI.out.below⟩)
      clear HI HI1
      go_wp2_with fail
      clear k0
      go_loopw [5] (fun i wr=>∃ k:Nat,k ≤ N ∧ i = .int .i64 (k:Int) ∧ BookI w K R base ss (fun _ s=>s.n) wr) (fun i _=>N - (intOf i).toNat)
      case atStart=>exact ⟨0,Nat.zero_le _,rfl,HI3.out⟩
      case round =>
       obtain ⟨k,hk,rfl,hI⟩:=hrel
       have HI:=hid hI
       obtain ⟨k0,kr⟩:=hI.cells H1.out HRow.out
       clear hI
       by_cases hlt:k < N
       ·have hks:k < ss.length:=by rw [← HN.out];exact hlt
        have kk:=kr k hks
        obtain ⟨s,hs⟩:∃ s,s = ss[k]:=⟨_,rfl⟩
        rw [← hs] at kk
        have hq:=(HRow.out k hks).1
        subst hq
        have HSe:=hid hs
        have HMem:=hid (show s ∈ ss by rw [hs];exact List.getElem_mem hks)
        clear hs kr
        have HP:=hid (clean_any s wr (by have:=HI.out.sh k hks;rw [← HSe.out] at this;exact this))
        unfold Sh.v Sh.agg at kk
        unfold Sh.agg at HP
        have i0:(0:Int) ≤ (k:Int):=by omega
        have i1:(k:Int) < (N:Int):=by omega
        go_wp2_with fail
        refine HP.out.mono ?_
        rintro e w2 ⟨rfl,hg2⟩
        have hI2:BookI w K R base ss (fun _ s=>s.n) w2:=by
         have hi:=HI.out
         have hsz:=hi.below.size
         exact ⟨(hg2.block K (by omega) (fun e=>by cases e)).trans hi.book,(hg2.block R (by omega) (fun e=>by cases e)).trans hi.row,fun j hj=>(hi.sh j hj).kept hg2 (fun g _ e=>by cases e),hi.below.grown hg2 (by omega) (fun g e=>by cases e)⟩
        have HI2:=hid hI2
        clear hg2 hI2
        go_wp2
        go_roundw
        case rel=>exact ⟨k + 1,by omega,by go_num,HI2.out⟩
        case measure=>simp [intOf];omega
       ·obtain rfl:N = k:=by omega
        clear kr
        go_wp2
        go_ret
        exact ⟨rfl,HI.out.below⟩
end Go.Proofs.Herb
