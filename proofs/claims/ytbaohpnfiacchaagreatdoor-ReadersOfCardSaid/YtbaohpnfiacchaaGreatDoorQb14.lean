/- The contract of tables.Build. For facts that can be read. -/
import Derived.Test.YtbaohpnfiacchaaGreatDoorQb04
import Derived.Test.YtbaohpnfiacchaaGreatDoorQb05
import Derived.Test.YtbaohpnfiacchaaGreatDoorQb06
import Derived.Test.YtbaohpnfiacchaaGreatDoorQb09
import Derived.Test.YtbaohpnfiacchaaGreatDoorQb10
import Derived.Test.YtbaohpnfiacchaaGreatDoorQb11
import Derived.Test.YtbaohpnfiacchaaGreatDoorQb12
import Derived.Test.YtbaohpnfiacchaaGreatDoorQb13
namespace Go.Proofs.Herb
open Go.RowKit
attribute [local go_sem] Oper.semAt_some
def BuildP (line:Nat) (fs:List Fact) (b0:Nat) (w:World) (e:Ending) (w':World):Prop :=
 Below b0 w w' ∧ ((¬ (GoodF line fs ∧ 0 < fs.length) ∧ e = .returned (.tuple #[.slice none 0 0,.agg zProps,.int .i64 1])) ∨
  (GoodF line fs ∧ 0 < fs.length ∧ ¬ FitsB line fs ∧ e = .returned (.tuple #[.slice none 0 0,.agg zProps,.int .i64 3])) ∨
  (GoodF line fs ∧ 0 < fs.length ∧ FitsB line fs ∧ ∃ q,e = .returned (.tuple #[.slice q (tabB line fs).length (tabB line fs).length,.agg (propsF line fs).cells.toArray,.int .i64 0]) ∧ Fr w' b0 5 1 (.slice q (tabB line fs).length (tabB line fs).length) (tabB line fs).length ((tabB line fs).map bv)))
theorem bown_keep {w w':World} {base:Nat} {e:TypeId} {k:Nat} {v:Value} {n:Nat} {xs:List Value} (h:w.ownsRow base e k v n xs) (hb:∀ g,v.ownBlock = some g → w'.heap[g]? = w.heap[g]?):w'.ownsRow base e k v n xs:=by
 obtain ⟨h1,h2⟩:=h
 refine ⟨h1, ?_⟩
 rcases h2 with h2 | ⟨g,cap,cur,rfl,hg,hh,r⟩
 ·exact .inl h2
 ·exact .inr ⟨g,cap,cur,rfl,hg,(hb g rfl).trans hh,r⟩
theorem own_putObj {W:World} {base:Nat} {e:TypeId} {k n:Nat} {v:Value} {xs:List Value} (h:W.ownsRow base e k v n xs) {l:Nat} {o:Obj} (o':Obj) (ho:W.heap[l]? = some o) (hc:o.isCells = false):(W.putObj l o').ownsRow base e k v n xs :=
 bown_keep h fun g hg=>World.putObj_heap_other (fun e=>by
  obtain ⟨_,h2⟩:=h
  rcases h2 with ⟨rfl,_⟩ | ⟨g',cap,cur,rfl,_,hh,_⟩
  ·cases hg
  ·cases hg
   subst e
   rw [ho] at hh
   cases hh
   cases hc)
structure BldI (w:World) (B b9 b11 b3 b2:Nat) (l:List Item) (pre:List (Nat × Nat)) (W:World):Prop where
 res:Res W B (.slice none 0 0) zProps 0
 out:∃ q c,Boxed W b9 22 (.slice q (upB l pre).1.length c) ∧ W.ownsRow b3 5 1 (.slice q (upB l pre).1.length c) (upB l pre).1.length ((upB l pre).1.map bv)
 idx:∃ q c,Boxed W b11 91 (.slice q (upB l pre).2.length c) ∧ W.ownsRow b3 100 2 (.slice q (upB l pre).2.length c) (upB l pre).2.length (iCells (upB l pre).2)
 all:Rd W (some ⟨b2,0,none⟩) (iCells l)
 below:Below w.heap.size w W
 short:(upB l pre).1.length ≤ 131072
 size:b3 ≤ W.heap.size
theorem bown_lt {W:World} {base:Nat} {e:TypeId} {k n:Nat} {v:Value} {xs:List Value} (h:W.ownsRow base e k v n xs):∀ g,v.ownBlock = some g → base ≤ g ∧ g < W.heap.size:=by
 obtain ⟨_,h2⟩:=h
 rcases h2 with ⟨rfl,_⟩ | ⟨g',cap,cur,rfl,hg,hh,_⟩
 ·intro g hg;cases hg
 ·intro g hg;cases hg;exact ⟨by assumption,lt_of_block hh⟩
theorem BldI.stays (w:World) (B b9 b11 b3 b2:Nat) (l:List Item) (pre:List (Nat × Nat)):Stays (BldI w B b9 b11 b3 b2 l pre):=by
 rintro A W ⟨h1,⟨q,c,h2,h3⟩,⟨q',c',h4,h5⟩,h6,h7,h8,h9⟩ hb
 exact ⟨h1.below hb,⟨q,c,(hb.block _ h2.lt).trans h2,own_below h3 hb⟩,⟨q',c',(hb.block _ h4.lt).trans h4,own_below h5 hb⟩,h6.below hb,h7.trans (hb.mono h7.size),h8,Nat.le_trans h9 hb.size⟩
theorem BldI.only (w:World) (B b9 b11 b3 b2:Nat) (l:List Item) (pre:List (Nat × Nat)) (A W:World) (h:BldI w B b9 b11 b3 b2 l pre A) (hr:Only (fun _=>False) A W):BldI w B b9 b11 b3 b2 l pre W:=by
 have hb:Below A.heap.size A W:=hr.below (Nat.le_refl _) (fun _ _=>id)
 exact BldI.stays _ _ _ _ _ _ _ _ _ _ h hb
theorem BldI.turns (w:World) (B b9 b11 b3 b2:Nat) (l:List Item) (b0:Nat) (hb:w.heap.size ≤ b0) (hb2:b2 < b0) (pre:List (Nat × Nat)):Turns b0 (BldI w B b9 b11 b3 b2 l pre):=by
 rintro W g o o' ⟨h1,⟨q,c,h2,h3⟩,⟨q',c',h4,h5⟩,h6,h7,h8,h9⟩ hl ho hc
 refine ⟨⟨boxed_putObj h1.r4 o' ho hc,(World.putObj_heap_other (fun e=>by subst e;have:=h1.r5;rw [ho] at this;cases this;cases hc)).trans h1.r5,boxed_putObj h1.r6 o' ho hc,h1.hs⟩,⟨q,c,boxed_putObj h2 o' ho hc,own_putObj h3 o' ho hc⟩,⟨q',c',boxed_putObj h4 o' ho hc,own_putObj h5 o' ho hc⟩, ?_,below_putObj h7 (by omega) o' ho,h8,by simpa [World.putObj] using h9⟩
 exact rd_keep h6 (KeepB.putObj W g o o' (by omega))
theorem setRes_keeps {W W1:World} {B base:Nat} (h:Below W.heap.size W W1) (hB:B + 2 < base) (v:Value) (arr:Array Value) (e:Int):KeepsFrom base W (setRes W1 B v arr e):=by
 refine ⟨by unfold setRes;simpa using h.size,fun k o hk ho _ => ?_⟩
 unfold setRes
 exact (heap_setCell_other _ _ _ _ (show k ≠ B + 2 by omega)).trans ((setRow_other _ _ _ _ (by omega)).trans ((heap_setCell_other _ _ _ _ (show k ≠ B by omega)).trans ((h.block k (Array.getElem?_eq_some_iff.1 ho).1).trans ho)))
theorem setRes_keeps2 {W1:World} {B:Nat} {v:Value} {arr:Array Value} {e:Int} (h:Res W1 B v arr e) (v':Value) (arr':Array Value) (x:Int) (b:Nat):KeepsFrom b W1 (setRes W1 B v' arr' x):=by
 refine ⟨by unfold setRes;simp,fun k o hk ho hc => ?_⟩
 have n1:k ≠ B:=fun e=>by subst e;rw [show W1.heap[_]? = _ from h.r4] at ho;cases ho;cases hc
 have n2:k ≠ B + 1:=fun e=>by subst e;rw [h.r5] at ho;cases ho;cases hc
 have n3:k ≠ B + 2:=fun e=>by subst e;rw [show W1.heap[_]? = _ from h.r6] at ho;cases ho;cases hc
 unfold setRes
 exact (heap_setCell_other _ _ _ _ n3).trans ((setRow_other _ _ _ _ n2).trans ((heap_setCell_other _ _ _ _ n1).trans ho))
def BldX (line:Nat) (fs:List Fact) (w:World) (B:Nat) (c:Code) (W:World):Prop:=c = .ret ∧ Res W B (.slice none 0 0) zProps 3 ∧ Below w.heap.size w W ∧ ¬ FitsB line fs
theorem bridge3 {α β γ:Type} {G:Prop} {H A : α → β → γ → Prop} (body:(∀ x y z,H x y z → A x y z) → G) (main:∀ x y z,H x y z → A x y z):G:=body main
theorem bridge1 {G A:Prop} (body:A → G) (main:A):G:=body main
theorem bridge5 {α β γ δ ε:Type} {G:Prop} {H A : α → β → γ → δ → ε → Prop} (body:(∀ x y z u v,H x y z u v → A x y z u v) → G) (main:∀ x y z u v,H x y z u v → A x y z u v):G:=body main
theorem bridge6 {α β γ δ ε ζ:Type} {G:Prop} {H : α → β → γ → δ → Prop} {A : ε → ζ → α → β → γ → δ → Prop} (body:(∀ a b x y z u,H x y z u → A a b x y z u) → G) (main:∀ a b x y z u,H x y z u → A a b x y z u):G:=body main
def partsB (line:Nat) (fs:List Fact):List (List UInt8):=[idxB fs,filB fs,tailB2 line fs]
def outK (line:Nat) (fs:List Fact) (k:Nat):List UInt8:=outB fs ++ ((partsB line fs).take k).flatten
def footK (line:Nat) (fs:List Fact):Nat → List UInt8
 | 0=>[84,66,76,49]
 | k + 1=>footK line fs k ++ le4 (outK line fs k).length ++ le4 (((partsB line fs)[k]?).getD []).length
theorem footK_len (line:Nat) (fs:List Fact) (k:Nat):(footK line fs k).length = 4 + 8 * k:=by
 induction k with
 | zero=>rfl
 | succ k ih=>unfold footK;rw [List.length_append,List.length_append,ih];show 4 + 8 * k + 4 + 4 = _;omega
theorem outK_succ (line:Nat) (fs:List Fact) (k:Nat) (h:k < 3):outK line fs (k + 1) = outK line fs k ++ (((partsB line fs)[k]?).getD []):=by
 unfold outK
 have hl:k < (partsB line fs).length:=h
 rw [List.take_succ_eq_append_getElem hl,List.flatten_append,List.append_assoc,List.getElem?_eq_getElem hl]
 simp
theorem foot_eq (line:Nat) (fs:List Fact):footK line fs 3 ++ le4 (crcMore 0 (filB fs)).toNat ++ le4 (crcMore 0 (tailB2 line fs)).toNat = foot0 line fs:=by
 unfold foot0
 simp only [footK,outK,partsB,List.take_zero,List.take_succ_cons,List.flatten_nil,List.flatten_cons,List.append_nil,List.append_assoc,List.getElem?_cons_zero,List.getElem?_cons_succ,Option.getD_some]
theorem body_eq (line:Nat) (fs:List Fact):outK line fs 3 = bodyB line fs:=by
 unfold outK partsB bodyB
 simp only [List.take_zero,List.take_succ_cons,List.flatten_nil,List.flatten_cons,List.append_nil,List.append_assoc]
theorem zProps1:∀ v ∈ zProps.toList,v.oneCell' = true:=by unfold zProps;simp [Value.oneCell']
set_option maxRecDepth 100000 in
set_option maxHeartbeats 4000000 in
theorem build_any (line:Nat) (q:Option Addr) (n c:Nat) (fs:List Fact) (w:World) (hn:fs.length = n) (hm:n ≤ 24000) (hr:Rd w q (fCells fs)) (ho:∀ f ∈ fs,f.Ok) :
  Calls Tryz.prog 19 #[.int .u64 (line:Int),.slice q n c] w (BuildP line fs w.heap.size w):=by
 refine (callsIn_wide (n:=3)).1 (callsIn_of_wp_marks Tryz.func19 rfl trivial ?_ rfl)
 refine wpIn_wide.2 ?_
 simp only [Tryz.ntmps19,List.size_toArray,List.length_cons,List.length_nil,Nat.reduceAdd,Nat.reduceSub,Array.replicate_succ,Array.replicate_zero,List.push_toArray,List.append_toArray,List.nil_append,List.cons_append]
 have HN:=hid hn
 have HR:=hid hr
 have HO:=hid ho
 clear hn hr ho
 go_wp2_with fail
 obtain ⟨B,hB⟩:∃ B,B = w.heap.size:=⟨_,rfl⟩
 obtain ⟨w1,hw1⟩:∃ w1,((w.alloc (.cells #[.slice none 0 0] 22)).alloc (.cells zProps 49)).alloc (.cells #[.int .i64 0] 31) = w1:=⟨_,rfl⟩
 have hA1:Below w.heap.size w w1:=by rw [← hw1];exact (((Below.refl _ _).alloc (Nat.le_refl _) _).alloc (by simp) _).alloc (by simp;omega) _
 have hs1:w1.heap.size = B + 3:=by rw [← hw1,hB];simp
 have hR1:Res w1 B (.slice none 0 0) zProps 0:=by
  rw [← hw1,hB]
  refine ⟨((Boxed.new _ _ _).alloc _).alloc _, ?_, ?_,rfl⟩
  ·have h:=heap_alloc_new (w.alloc (.cells #[.slice none 0 0] 22)) (.cells zProps 49)
   rw [World.size_alloc] at h
   exact (Below.heap_alloc _ _ _ (by simp)).trans h
  ·have h:=Boxed.new ((w.alloc (.cells #[.slice none 0 0] 22)).alloc (.cells zProps 49)) 31 (.int .i64 0)
   simpa [World.size_alloc] using h
 unfold zProps at hw1
 rw [hw1,show w.heap.size + 1 + 1 = B + 2 by omega,← hB]
 have hA1s:=hA1.size
 have HA1:=hid hA1
 have HR1:=hid hR1
 have HB:=hid hB
 clear hA1 hR1 hw1 hB
 refine (items_any line q n c fs w1 HN.out hm (HR.out.below HA1.out) HO.out).mono ?_
 rintro e w2 ⟨hb2,q2,c2,b,hcase,m,rfl,hown⟩
 have HB2:=hid hb2
 have HR2:=hid (HR1.out.below hb2)
 have hs2:=hb2.size
 have HO2:=hid hown
 clear hb2 hown
 rcases hcase with ⟨rfl,hng⟩ | ⟨rfl,hg⟩
 ·obtain ⟨c4,f4,g5,c6,f6,hfin⟩:=HR2.out.step (.slice none 0 0) zProps rfl
  have H5:=hid g5
  have HF:=hid hfin
  have HNG:=hid hng
  clear g5 hfin hng
  unfold zProps at c6 f6
  go_wp2_with (refine wpList_store_block rfl 49 _ _ rfl _ _ _ _ rfl rfl H5.out rfl infoProps zProps1 ?_)
  refine ⟨_,(HF.out 1).done rfl rfl rfl,setRes_below (HA1.out.trans (HB2.out.mono hA1s)) (by rw [HB.out];exact Nat.le_refl _) _ _ _,.inl ⟨HNG.out,rfl⟩⟩
 ·obtain ⟨rfl,hown⟩:=HO2.out rfl
  clear HO2
  obtain ⟨l,hl⟩:∃ l,l = itemsF fs:=⟨_,rfl⟩
  rw [← hl] at hown
  have hll:l.length = fs.length:=by rw [hl];simp [itemsF]
  have hq2:∃ b2,q2 = some ⟨b2,0,none⟩ ∧ b2 < w2.heap.size:=by
   obtain ⟨_,h2⟩:=hown
   rcases h2 with ⟨e,h0⟩ | ⟨g',cap,cur,e,_,hh,_⟩
   ·have:=hg.2;omega
   ·rw [Value.slice.injEq] at e
    exact ⟨g',e.1,lt_of_block hh⟩
  obtain ⟨b2,rfl,hb2⟩:=hq2
  have hcs:fs.length ≤ c2 ∧ c2 ≤ maxLen:=by
   obtain ⟨_,h2⟩:=hown
   rcases h2 with ⟨e,h0⟩ | ⟨g',cap,cur,e,_,hh,h3,h4,_⟩
   ·have:=hg.2;omega
   ·rw [Value.slice.injEq] at e
    obtain ⟨_,_,rfl⟩:=e
    exact ⟨h3,h4⟩
  have hrd:Rd w2 (some ⟨b2,0,none⟩) (iCells l):=(Fr.of_own hown).rd
  have HG:=hid hg
  have HL:=hid hl
  have HLL:=hid hll
  have HRD:=hid hrd
  have hgp:=hg.2
  have hn6:fs.length ≤ 24000:=by rw [HN.out];exact hm
  clear hown hl hll hrd hg
  go_wp2_with fail
  refine (chunks_any _ _ ⟨_,_,_,rfl⟩).mono ?_
  rintro e w4 ⟨rfl,hw4⟩
  obtain ⟨b9,hb9⟩:∃ b,b = w2.heap.size:=⟨_,rfl⟩
  obtain ⟨b11,hb11⟩:∃ b,b = w2.heap.size + 1:=⟨_,rfl⟩
  obtain ⟨bn,hbn⟩:∃ b,b = w2.heap.size + 2:=⟨_,rfl⟩
  have hx9:Boxed w4 b9 22 (.slice none 0 0):=by rw [hw4,hb9];exact ((Boxed.new _ _ _).alloc _).alloc _
  have hx11:Boxed w4 b11 91 (.slice none 0 0):=by
   rw [hw4,hb11]
   have h:=Boxed.new (w2.alloc (.cells #[.slice none 0 0] 22)) 91 (.slice none 0 0)
   rw [World.size_alloc] at h
   exact h.alloc _
  have hxn:Boxed w4 bn 91 (.slice (some ⟨b2,0,none⟩) fs.length c2):=by
   rw [hw4,hbn]
   have h:=Boxed.new ((w2.alloc (.cells #[.slice none 0 0] 22)).alloc (.cells #[.slice none 0 0] 91)) 91 (.slice (some ⟨b2,0,none⟩) fs.length c2)
   simpa only [World.size_alloc] using h
  have hb4:Below w2.heap.size w2 w4:=by rw [hw4];exact (((Below.refl _ _).alloc (Nat.le_refl _) _).alloc (by simp) _).alloc (by simp;omega) _
  have hs4:w4.heap.size = w2.heap.size + 3:=by rw [hw4];simp
  clear hw4
  go_wp2_with fail
  rw [show w2.heap.size + 1 + 1 = bn by omega,← hb11,← hb9]
  have hI0:BldI w B b9 b11 w4.heap.size b2 l [] w4 :=
   ⟨HR2.out.below hb4,⟨none,0,hx9,World.ownsRow_nil _ _ _ _⟩,⟨none,0,hx11,World.ownsRow_nil _ _ _ _⟩,HRD.out.below hb4,(HA1.out.trans (HB2.out.mono hA1s)).trans (hb4.mono (by omega)),Nat.zero_le _,Nat.le_refl _⟩
  have HXN:=hid hxn
  have HI0:=hid hI0
  have hbn4:bn < w4.heap.size:=by omega
  have hb24:b2 < w4.heap.size:=by omega
  have hw4:w.heap.size ≤ w4.heap.size:=by omega
  have hbs:∀ x ∈ l,x.key.size + x.val.size ≤ 100000:=by rw [HL.out];exact item_size HG.out.1
  have HBS:=hid hbs
  have HRD4:=hid (HRD.out.below hb4)
  have hB9:B + 2 < b9:=by omega
  have hB11:b9 < b11:=by omega
  have hBn:b11 < bn:=by omega
  have HB2N:=hid (show b2 < b9 by omega)
  clear hx9 hx11 hxn hb4 hI0 hbs hb9 hb11 hbn
  refine wpIn_wide.1 (wpIn_range_stop (n:=3) rfl (by omega) (gf:=87) (lb := #[.pointer (some ⟨bn,0,none⟩)]) rfl trivial (enters_of Tryz.func87 (by kernel_rfl) rfl)
   (fun _=>rfl) (chunks1_in 2 bn b2 0 c2 w4.heap.size fs.length (by omega) l HLL.out (by omega) hcs.1 hcs.2 HBS.out) (Nat.le_refl _) (fun W hb=>⟨(hb.block _ HXN.out.lt).trans HXN.out,HRD4.out.below hb⟩)
   (fun A B' C h k=>⟨KeepB.trans A B' C h.1 k.1,KeepB.trans A B' C h.2 k.2⟩) (fun W g o o' hg _ _=>⟨KeepB.putObj W g o o' (by omega),KeepB.putObj W g o o' (by omega)⟩)
   (fun A B' h=>h.keeps _) (BldI w B b9 b11 w4.heap.size b2 l) (fun c _ W=>BldX line fs w B c W) (BldI.stays _ _ _ _ _ _ _) (BldI.only _ _ _ _ _ _ _) ?xr (BldI.turns _ _ _ _ _ _ _ _ hw4 hb24) ?xt (fun _ _ _ _ _ _ h _ _ _=>h)
   HI0.out ?a1 ?assign ?body ?done ?stop)
  case xr =>
   rintro c s A W ⟨rfl,h1,h2,h3⟩ hr
   have hb:Below A.heap.size A W:=hr.below (Nat.le_refl _) (fun _ _=>id)
   exact ⟨rfl,h1.below hb,h2.trans (hb.mono h2.size),h3⟩
  case xt =>
   rintro c s W g o o' ⟨rfl,h1,h2,h3⟩ hg ho hc
   exact ⟨rfl,⟨boxed_putObj h1.r4 o' ho hc,(World.putObj_heap_other (fun e=>by subst e;have:=h1.r5;rw [ho] at this;cases this;cases hc)).trans h1.r5,boxed_putObj h1.r6 o' ho hc,h1.hs⟩,below_putObj h2 (by omega) o' ho,h3⟩
  case assign =>
   intro g x W K hK
   gi_wp2
   exact hK
  case stop =>
   rintro D c pre W hD ⟨rfl,h1,h2,h3⟩ hD0
   refine wpIn_wide.2 ?_
   go_wp2
   refine leaves_marks (base:=w.heap.size) _ _ ⟨⟨D,rfl,by omega,hD0,fun d hd=>by cases hd⟩,trivial⟩ (fun w' hs => ?_)
   have h1':Res w' B (.slice none 0 0) zProps 3:=⟨hs.cells _ _ _ _ h1.r4,hs.cells _ _ _ _ h1.r5,hs.cells _ _ _ _ h1.r6,h1.hs⟩
   exact ⟨_,h1'.done rfl rfl rfl,h2.trans (hs.below _ (Nat.le_refl _)),.inr (.inl ⟨HG.out.1,HG.out.2,h3,rfl⟩)⟩
  case body =>
   rintro g pre ⟨x0,x1⟩ W hg hI hgd
   obtain ⟨hx01,hx1,rest,hrest⟩:ChGood l pre (x0,x1):=hgd
   dsimp only at hx01 hx1
   obtain ⟨Y,hY⟩:∃ Y,Y = x1 - x0:=⟨_,rfl⟩
   obtain ⟨Z,hZ⟩:∃ Z,Z = Y - 1:=⟨_,rfl⟩
   dsimp only
   rw [← hY]
   obtain ⟨sb,hsb⟩:∃ sb,sb = subI l (x0,x1):=⟨_,rfl⟩
   have hsl:sb.length = Y:=by rw [hsb];unfold subI;simp;omega
   have hsr:Rd W (some ⟨b2,0 + x0 * 2,none⟩) (iCells sb):=by
    have h:=(hI.all.drop (x0 * 2)).take (Y * 2)
    rwa [← iCells_drop,← iCells_take,← show sb = (l.drop x0).take Y from (by rw [hY];exact hsb)] at h
   have hsk:∀ x ∈ sb,x.key.size ≤ 100000 ∧ x.val.size ≤ 100000:=fun x hx=>by
    rw [hsb] at hx
    have:=HBS.out x (List.mem_of_mem_drop (List.mem_of_mem_take hx))
    omega
   rw [Nat.zero_add] at hsr
   have HP:=hid (bput_any (some ⟨b2,x0 * 2,none⟩) Y Y sb W hsl (by have:=HLL.out;omega) hsr hsk)
   have HI:=hid hI
   have HSB:=hid hsb
   have HSL:=hid hsl
   have HRE:=hid hrest
   have HSR:=hid hsr
   have HSK:=hid hsk
   have z0:(Y:Int) - 1 = (Z:Int):=by omega
   have z1:(0:Int) ≤ (Z:Int):=by omega
   have z2:(Z:Int) < (Y:Int):=by omega
   have hYZ:Y = Z + 1:=by omega
   have zw:IntKind.i64.wrap (Z:Int) = (Z:Int):=IntWalk.i64_in _ (by have:=HLL.out;omega)
   have HYZ:=hid hYZ
   have HY:=hid hY
   clear hI hsb hsl hrest hsr hsk hY hZ hYZ
   gi_wp2
   refine ⟨trivial,(CallsIn.inRound g (callsIn_wide.2 HP.out)).mono ?_⟩
   rintro e W1 ⟨hb1,hcase⟩
   have hout:(upB l pre).1.length + (bAll sb).length ≤ (outB fs).length:=by
    have h:=upB_mono l rest (pre ++ [(x0,x1)])
    rw [List.append_assoc,List.singleton_append,← HRE.out,upB_snoc] at h
    unfold stepB at h
    rw [← HSB.out,List.length_append] at h
    unfold outB
    rw [← HL.out]
    exact h
   have hbad:¬ RiseI sb ∨ 65536 < (bAll sb).length → ¬ FitsB line fs:=by
    rintro h ⟨h1,_,h3⟩
    rcases h with h | h
    ·refine h ?_
     rw [HSB.out,HL.out]
     refine h1 _ ?_
     rw [← HL.out,HRE.out]
     simp
    ·have:=out_le line fs
     omega
   have hbad2:65536 < (upB l pre).1.length → ¬ FitsB line fs:=by
    rintro h ⟨h1,_,h3⟩
    have:=out_le line fs
    omega
   have HI1:=hid (BldI.stays _ _ _ _ _ _ _ _ _ _ HI.out hb1)
   have HB1:=hid hb1
   have HBad:=hid hbad
   clear hb1 hbad hout
   rcases hcase with ⟨hri,rfl⟩ | ⟨hri,hlen,rfl⟩ | ⟨hri,hlen,q3,rfl,hf3⟩
   ·have HX:=hid (HBad.out (.inl hri))
    clear hri hbad2
    obtain ⟨c4,f4,g5,c6,f6,hfin⟩:=HI1.out.res.step (.slice none 0 0) zProps rfl
    have H5:=hid g5
    have HF:=hid hfin
    clear g5 hfin
    unfold zProps at c6 f6
    gi_wp2_with (refine wpListIn_store_block rfl 49 _ _ rfl _ _ _ _ rfl rfl H5.out rfl infoProps zProps1 ?_)
    exact ⟨setRes_keeps HB1.out (by omega) _ _ _,rfl,HF.out 3,setRes_below HI1.out.below (by rw [HB.out];exact Nat.le_refl _) _ _ _,HX.out⟩
   ·have HX:=hid (HBad.out (.inr hlen))
    clear hri hlen hbad2
    obtain ⟨c4,f4,g5,c6,f6,hfin⟩:=HI1.out.res.step (.slice none 0 0) zProps rfl
    have H5:=hid g5
    have HF:=hid hfin
    clear g5 hfin
    unfold zProps at c6 f6
    gi_wp2_with (refine wpListIn_store_block rfl 49 _ _ rfl _ _ _ _ rfl rfl H5.out rfl infoProps zProps1 ?_)
    exact ⟨setRes_keeps HB1.out (by omega) _ _ _,rfl,HF.out 3,setRes_below HI1.out.below (by rw [HB.out];exact Nat.le_refl _) _ _ _,HX.out⟩
   ·obtain ⟨qo,co,ho1,ho2⟩:=HI.out.out
    obtain ⟨qi,ci,hi1,hi2⟩:=HI.out.idx
    have hlo:=bown_lt ho2
    have hli:=bown_lt hi2
    have ho1:=(HB1.out.block _ ho1.lt).trans ho1
    have hi1:=(HB1.out.block _ hi1.lt).trans hi1
    have ho2:=own_below ho2 HB1.out
    have hi2:=own_below hi2 HB1.out
    have ho1:Boxed W1 b9 22 (.slice qo (upB l pre).1.length co):=ho1
    have hi1:Boxed W1 b11 91 (.slice qi (upB l pre).2.length ci):=hi1
    have hshort:=HI1.out.short
    have HB9W:=hid (show b9 < W.heap.size ∧ b11 < W.heap.size from ⟨by have:=HI.out.size;omega,by have:=HI.out.size;omega⟩)
    obtain ⟨SO,hSO⟩:∃ x,x = (upB l pre).1:=⟨_,rfl⟩
    obtain ⟨SI,hSI⟩:∃ x,x = (upB l pre).2:=⟨_,rfl⟩
    rw [← hSO] at ho1 ho2 hshort hbad2 hlo
    rw [← hSI] at hi1 hi2 hli
    obtain ⟨L,hL⟩:∃ x,x = SO.length:=⟨_,rfl⟩
    obtain ⟨M,hM⟩:∃ x,x = SI.length:=⟨_,rfl⟩
    obtain ⟨T,hT⟩:∃ x,x = (bAll sb).length:=⟨_,rfl⟩
    rw [← hL] at ho1 ho2 hshort hbad2 hlo
    rw [← hM] at hi1 hi2 hli
    have HLo:=hid hlo
    have HLi:=hid hli
    clear hlo hli
    rw [← hT] at hlen hf3 ⊢
    have c9:=ho1.cell
    have HO1:=hid ho1
    have HO2:=hid ho2
    have HI2:=hid hi2
    have HI1x:=hid hi1
    have HSO:=hid hSO
    have HSI:=hid hSI
    have HLl:=hid hL
    have HMl:=hid hM
    have HTl:=hid hT
    have HF3:=hid hf3
    have HRi:=hid hri
    have HTlen:=hid hlen
    clear ho1 ho2 hi1 hi2 hSO hSI hL hM hT hf3 hri
    by_cases hbig:65536 < L
    ·have HX:=hid (hbad2 hbig)
     have i1:(65536:Int) < (L:Int):=by omega
     clear hbad2
     obtain ⟨c4,f4,g5,c6,f6,hfin⟩:=HI1.out.res.step (.slice none 0 0) zProps rfl
     have H5:=hid g5
     have HF:=hid hfin
     clear g5 hfin
     unfold zProps at c6 f6
     gi_wp2_with (refine wpListIn_store_block rfl 49 _ _ rfl _ _ _ _ rfl rfl H5.out rfl infoProps zProps1 ?_)
     exact ⟨setRes_keeps HB1.out (by omega) _ _ _,rfl,HF.out 3,setRes_below HI1.out.below (by rw [HB.out];exact Nat.le_refl _) _ _ _,HX.out⟩
    ·have i1:¬ (65536:Int) < (L:Int):=by omega
     clear hbad2
     gi_wp2
     have hv1:=hid (vput_any none 0 0 L [] W1 (by omega) rfl (Nat.le_refl _) (by decide) (.inl rfl) (fun _=>rfl))
     simp only [Nat.zero_add,List.nil_append] at hv1
     have hvl1:=(vput_len L).2
     obtain ⟨V1,hV1⟩:∃ V,V = (vput L).length:=⟨_,rfl⟩
     rw [← hV1] at hv1 hvl1
     refine ⟨trivial,(CallsIn.inRound g (callsIn_wide.2 hv1.out)).mono ?_⟩
     rintro e W2 ⟨q4,rfl,hf4,hb2'⟩
     have HF4:=hid hf4
     have HB2':=hid hb2'
     have HV1:=hid hV1
     clear hf4 hb2' hV1 hv1
     gi_wp2
     have hvl2:=(vput_len T).2
     refine ⟨trivial,(CallsIn.inRound g (callsIn_wide.2 (vput_step W1.heap.size V1 T q4 (vput L) W2 (by omega) HF4.out (by omega) HB2'.out.size))).mono ?_⟩
     rintro e W3 ⟨q5,rfl,hf5,hb3⟩
     have HF5:=hid hf5
     have HB3:=hid hb3
     obtain ⟨V2,hV2⟩:∃ V,V = V1 + (vput T).length:=⟨_,rfl⟩
     have hV2l:V2 ≤ 20:=by omega
     have hf5':=hf5
     rw [← hV2] at hf5' ⊢
     have HF5:=hid hf5'
     have HV2:=hid hV2
     clear hf5 hf5' hb3 hV2
     gi_wp2
     obtain ⟨lk,hlk⟩:∃ x,x = lastKey sb:=⟨_,rfl⟩
     obtain ⟨KS,hKS⟩:∃ x:ByteArray,x = ⟨(vput L ++ vput T).toArray⟩:=⟨_,rfl⟩
     have hb13:Below W1.heap.size W1 W3:=HB2'.out.trans (HB3.out.mono HB2'.out.size)
     have hs13:=hb13.size
     have hb03:Below W.heap.size W W3:=HB1.out.trans (hb13.mono HB1.out.size)
     have cl:W3.cell? ⟨b2,x0 * 2 + Z * 2,none⟩ = some (.string lk):=by
      have hsl':sb.length = Z + 1:=by rw [HSL.out,HYZ.out]
      obtain ⟨b',off',e,_,h,_⟩:=item_at (HSR.out.below hb03) (j:=Z) (by omega)
      rw [Option.some.injEq,Addr.mk.injEq] at e
      obtain ⟨rfl,rfl,_⟩:=e
      rw [hlk,lastKey_eq hsl']
      exact h
     have hcv:(convert 22 9 (.slice q5 V2 V2)).run Tryz.prog W3.drew = .ok (.string KS) W3.drew:=by
      rw [hKS]
      exact convB W3.drew q5 V2 V2 (vput L ++ vput T) (by rw [HV2.out,List.length_append,HV1.out]) (HF5.out.rd.below ((Below.refl _ _).drew))
     have x11:Boxed W3 b11 91 (.slice qi M ci):=(hb13.block b11 HI1x.out.lt).trans HI1x.out
     have c11a:=x11.cell
     have hMl:M ≤ 24000:=by
      have h:=chunks_len l
      rw [HRE.out] at h
      simp only [List.length_append,List.length_cons] at h
      have:=HLL.out
      rw [HMl.out,HSI.out,upB_len2]
      omega
     have hi3:W3.ownsRow w4.heap.size 100 2 (.slice qi M ci) M (iCells SI):=own_below HI2.out hb13
     obtain ⟨WA,hWA⟩:∃ x,x = (W3.alloc (.cells #[.string lk,.string KS] 100)).drew:=⟨_,rfl⟩
     have hbA:Below W3.heap.size W3 WA:=by rw [hWA];exact ((Below.refl _ _).alloc (Nat.le_refl _) _).drew
     have c11b:WA.cell? ⟨b11,0,none⟩ = some (.slice qi M ci):=Boxed.cell ((hbA.block b11 x11.lt).trans x11)
     have hi3a:WA.ownsRow w4.heap.size 100 2 (.slice qi M ci) M (iCells SI):=own_below hi3 hbA
     have hsrc:Src Tryz.prog 2 91 (.slice (some ⟨W3.heap.size,0,none⟩) 1 1) 1 [.string lk,.string KS] WA:=by
      rw [hWA]
      exact src_rd (by decide) Tryz.underlying91 1 rfl ((Rd.new W3 [.string lk,.string KS] 100).below (Below.refl _ _).drew) (by simp [Value.oneCell'])
     have hW4:w4.heap.size ≤ W3.heap.size:=Nat.le_trans HI.out.size hb03.size
     have hsz:w4.heap.size ≤ WA.heap.size:=Nat.le_trans hW4 hbA.size
     obtain ⟨it,hit⟩:∃ it:Item,it = ⟨lk,KS⟩:=⟨_,rfl⟩
     obtain ⟨Hst,hHst⟩:∃ H:Option Addr → Nat → World → Prop,H = fun q6 c6 W5=>BoxStep W3 (W5.setCell ⟨b11,0,none⟩ (.slice q6 (M + 1) c6)) b11 w4.heap.size w.heap.size 91 100 2 (.slice qi M ci) (.slice q6 (M + 1) c6) (M + 1) (iCells (SI ++ [it])):=⟨_,rfl⟩
     have hst:∀ q6 c6 W5,W5.ownsRow w4.heap.size 100 2 (.slice q6 (M + 1) c6) (M + 1) (iCells SI ++ [.string lk,.string KS]) → WA.grownBy W5 (Value.ownBlock (.slice qi M ci)) → W5.cell? ⟨b11,0,none⟩ = some (.slice qi M ci) ∧ W5.frozen? ⟨b11,0,none⟩ = false ∧ Hst q6 c6 W5:=by
      intro q6 c6 W5 h1 h2
      have h1':W5.ownsRow w4.heap.size 100 2 (.slice q6 (M + 1) c6) (M + 1) (iCells (SI ++ [it])):=by rw [iCells_append,hit];exact h1
      obtain ⟨k1,k2⟩:=box_step (b0:=w.heap.size) x11 hi3 hbA h1' h2 (by decide) (by omega) hw4 (by omega)
      rw [hHst]
      exact ⟨k1.cell,k1.frozen,k2⟩
     subst hWA
     have HI3a:=hid hi3a
     have HSrc:=hid hsrc
     have HSz:=hid hsz
     have HSt:=hid hst
     have HHst:=hid hHst
     have HIt:=hid hit
     have HKS:=hid hKS
     have Hlk:=hid hlk
     have HB13:=hid hb13
     have HB03:=hid hb03
     have HX11:=hid x11
     clear hi3 hi3a hsrc hsz hst hHst hit hKS hlk hb13 hb03 hbA x11 hs13
     refine wpIn_region_round rfl (by kernel_rfl) (by kernel_rfl) ?_
     try (change wpAnyIn _ _ _ _ _ _ _ _ _ (World.drew _))
     apply bridge3 (H:=Hst)
     ·intro hmain
      refine wpAnyIn_take (i:=1) (v := ?v1_1) rfl rfl (by kernel_rfl) (by kernel_rfl) (by kernel_rfl) (fun _ _ _ h=>h) ⟨Or.inl ⟨by rfl, ?y1_1⟩,fun _=>rfl⟩ ?r1_1
      case y1_1=>(intro w0;go_simp;try (with_reducible rfl))
      refine wpAnyIn_take (i:=2) (v := ?v2_2) rfl rfl (by kernel_rfl) (by kernel_rfl) (by kernel_rfl) (fun _ _ _ h=>h) ⟨Or.inl ⟨by rfl, ?y2_2⟩,fun _=>rfl⟩ ?r2_2
      case y2_2=>(intro w0;go_simp;try (with_reducible rfl))
      refine wpAnyIn_take (i:=3) (v := ?v3_3) rfl rfl (by kernel_rfl) (by kernel_rfl) (by kernel_rfl) (fun _ _ _ h=>h) ⟨Or.inl ⟨by rfl, ?y3_3⟩,fun _=>rfl⟩ ?r3_3
      case y3_3=>(intro w0;go_simp;try (with_reducible rfl))
      refine wpAnyIn_take (i:=4) (v := ?v4_4) rfl rfl (by kernel_rfl) (by kernel_rfl) (by kernel_rfl) (fun _ _ _ h=>h) ⟨Or.inl ⟨by rfl, ?y4_4⟩,fun _=>rfl⟩ ?r4_4
      case y4_4=>(intro w0;go_simp;try (with_reducible rfl))
      refine wpAnyIn_take (i:=5) (v := ?v5_5) rfl rfl (by kernel_rfl) (by kernel_rfl) (by kernel_rfl) (fun _ _ _ h=>h) ⟨Or.inl ⟨by rfl, ?y5_5⟩,fun _=>rfl⟩ ?r5_5
      case y5_5=>(intro w0;go_simp;try (with_reducible rfl))
      refine wpAnyIn_take (i:=6) (v := ?v6_6) rfl rfl (by kernel_rfl) (by kernel_rfl) (by kernel_rfl) (fun _ _ _ h=>h) ⟨Or.inl ⟨by rfl, ?y6_6⟩,fun _=>rfl⟩ ?r6_6
      case y6_6=>(intro w0;go_simp;try (with_reducible rfl))
      refine wpAnyIn_take (i:=8) (v := ?v8_7) rfl rfl (by kernel_rfl) (by kernel_rfl) (by kernel_rfl) (fun _ _ _ h=>h) ⟨Or.inl ⟨by rfl, ?y8_7⟩,fun _=>rfl⟩ ?r8_7
      case y8_7=>(intro w0;go_simp;try (with_reducible rfl))
      refine wpAnyIn_ready (rs:=[0,7,9]) (by kernel_rfl) (by simp) ?_
      refine AllReadyIn.cons rfl (fun K hK => ?_) ?_
      ·skip
       go_simp
       refine hK _ _ ?_
       clear hK K
       refine wpAnyIn_ready (rs:=[7,9]) (by kernel_rfl) (by simp) ?_
       refine AllReadyIn.cons rfl (fun K hK => ?_) ?_
       ·skip
        go_simp
        refine hK _ _ ?_
        clear hK K
        refine wpAnyIn_ready (rs:=[9]) (by kernel_rfl) (by simp) ?_
        refine AllReadyIn.cons rfl (fun K hK => ?_) ?_
        ·skip
         go_simp
         refine hK _ _ ?_
         clear hK K
         refine wpAnyIn_take (i:=10) (v := ?v10_8) rfl rfl (by kernel_rfl) (by kernel_rfl) (by kernel_rfl) (fun _ _ _ h=>h) ⟨Or.inl ⟨by rfl, ?y10_8⟩,fun _=>rfl⟩ ?r10_8
         case y10_8=>(intro w0;go_simp;try (with_reducible rfl))
         refine wpAnyIn_ready (rs:=[11]) (by kernel_rfl) (by simp) ?_
         refine AllReadyIn.cons rfl (fun K hK => ?_) ?_
         ·skip
          go_simp
          refine hK _ _ ?_
          clear hK K
          refine wpAnyIn_ready (rs:=[12]) (by kernel_rfl) (by simp) ?_
          refine AllReadyIn.cons rfl (fun K hK => ?_) ?_
          ·skip
           refine Eq.mpr (if_pos rfl) ?_
           refine opIn_append_src (.tmp 56) (.tmp 67) 91 91 rfl w4.heap.size 100 (.agg #[.string ⟨#[]⟩,.string ⟨#[]⟩]) 2 32 Tryz.underlying91 infoItem rfl (by decide) qi M ci _ rfl HI3a.out _ 1 [.string lk,.string KS] rfl HSrc.out (by unfold maxLen;omega) (by omega) HSz.out ?_
           intro q6 c6 W5 h1 h2 h3
           obtain ⟨c11,f11,hst⟩:=HSt.out q6 c6 W5 h1 h2
           refine hK _ _ ?_
           clear hK K
           refine wpAnyIn_ready (rs:=[13]) (by kernel_rfl) (by simp) ?_
           refine AllReadyIn.cons rfl (fun K hK => ?_) ?_
           ·skip
            go_simp
            refine hK _ _ ?_
            clear hK K
            refine wpAnyIn_done (by kernel_rfl) ?_ _
            exact hmain _ _ _ hst
           exact AllReadyIn.nil
          exact AllReadyIn.nil
         exact AllReadyIn.nil
        exact AllReadyIn.nil
       refine AllReadyIn.cons rfl (fun K hK => ?_) ?_
       ·skip
        go_simp
        refine hK _ _ ?_
        clear hK K
        refine wpAnyIn_ready (rs:=[7]) (by kernel_rfl) (by simp) ?_
        refine AllReadyIn.cons rfl (fun K hK => ?_) ?_
        ·skip
         go_simp
         refine hK _ _ ?_
         clear hK K
         refine wpAnyIn_take (i:=10) (v := ?v10_9) rfl rfl (by kernel_rfl) (by kernel_rfl) (by kernel_rfl) (fun _ _ _ h=>h) ⟨Or.inl ⟨by rfl, ?y10_9⟩,fun _=>rfl⟩ ?r10_9
         case y10_9=>(intro w0;go_simp;try (with_reducible rfl))
         refine wpAnyIn_ready (rs:=[11]) (by kernel_rfl) (by simp) ?_
         refine AllReadyIn.cons rfl (fun K hK => ?_) ?_
         ·skip
          go_simp
          refine hK _ _ ?_
          clear hK K
          refine wpAnyIn_ready (rs:=[12]) (by kernel_rfl) (by simp) ?_
          refine AllReadyIn.cons rfl (fun K hK => ?_) ?_
          ·skip
           refine Eq.mpr (if_pos rfl) ?_
           refine opIn_append_src (.tmp 56) (.tmp 67) 91 91 rfl w4.heap.size 100 (.agg #[.string ⟨#[]⟩,.string ⟨#[]⟩]) 2 32 Tryz.underlying91 infoItem rfl (by decide) qi M ci _ rfl HI3a.out _ 1 [.string lk,.string KS] rfl HSrc.out (by unfold maxLen;omega) (by omega) HSz.out ?_
           intro q6 c6 W5 h1 h2 h3
           obtain ⟨c11,f11,hst⟩:=HSt.out q6 c6 W5 h1 h2
           refine hK _ _ ?_
           clear hK K
           refine wpAnyIn_ready (rs:=[13]) (by kernel_rfl) (by simp) ?_
           refine AllReadyIn.cons rfl (fun K hK => ?_) ?_
           ·skip
            go_simp
            refine hK _ _ ?_
            clear hK K
            refine wpAnyIn_done (by kernel_rfl) ?_ _
            exact hmain _ _ _ hst
           exact AllReadyIn.nil
          exact AllReadyIn.nil
         exact AllReadyIn.nil
        exact AllReadyIn.nil
       exact AllReadyIn.nil
      refine AllReadyIn.cons rfl (fun K hK => ?_) ?_
      ·skip
       go_simp
       refine hK _ _ ?_
       clear hK K
       refine wpAnyIn_ready (rs:=[0,9]) (by kernel_rfl) (by simp) ?_
       refine AllReadyIn.cons rfl (fun K hK => ?_) ?_
       ·skip
        go_simp
        refine hK _ _ ?_
        clear hK K
        refine wpAnyIn_ready (rs:=[9]) (by kernel_rfl) (by simp) ?_
        refine AllReadyIn.cons rfl (fun K hK => ?_) ?_
        ·skip
         go_simp
         refine hK _ _ ?_
         clear hK K
         refine wpAnyIn_take (i:=10) (v := ?v10_10) rfl rfl (by kernel_rfl) (by kernel_rfl) (by kernel_rfl) (fun _ _ _ h=>h) ⟨Or.inl ⟨by rfl, ?y10_10⟩,fun _=>rfl⟩ ?r10_10
         case y10_10=>(intro w0;go_simp;try (with_reducible rfl))
         refine wpAnyIn_ready (rs:=[11]) (by kernel_rfl) (by simp) ?_
         refine AllReadyIn.cons rfl (fun K hK => ?_) ?_
         ·skip
          go_simp
          refine hK _ _ ?_
          clear hK K
          refine wpAnyIn_ready (rs:=[12]) (by kernel_rfl) (by simp) ?_
          refine AllReadyIn.cons rfl (fun K hK => ?_) ?_
          ·skip
           refine Eq.mpr (if_pos rfl) ?_
           refine opIn_append_src (.tmp 56) (.tmp 67) 91 91 rfl w4.heap.size 100 (.agg #[.string ⟨#[]⟩,.string ⟨#[]⟩]) 2 32 Tryz.underlying91 infoItem rfl (by decide) qi M ci _ rfl HI3a.out _ 1 [.string lk,.string KS] rfl HSrc.out (by unfold maxLen;omega) (by omega) HSz.out ?_
           intro q6 c6 W5 h1 h2 h3
           obtain ⟨c11,f11,hst⟩:=HSt.out q6 c6 W5 h1 h2
           refine hK _ _ ?_
           clear hK K
           refine wpAnyIn_ready (rs:=[13]) (by kernel_rfl) (by simp) ?_
           refine AllReadyIn.cons rfl (fun K hK => ?_) ?_
           ·skip
            go_simp
            refine hK _ _ ?_
            clear hK K
            refine wpAnyIn_done (by kernel_rfl) ?_ _
            exact hmain _ _ _ hst
           exact AllReadyIn.nil
          exact AllReadyIn.nil
         exact AllReadyIn.nil
        exact AllReadyIn.nil
       refine AllReadyIn.cons rfl (fun K hK => ?_) ?_
       ·skip
        go_simp
        refine hK _ _ ?_
        clear hK K
        refine wpAnyIn_take (i:=10) (v := ?v10_11) rfl rfl (by kernel_rfl) (by kernel_rfl) (by kernel_rfl) (fun _ _ _ h=>h) ⟨Or.inl ⟨by rfl, ?y10_11⟩,fun _=>rfl⟩ ?r10_11
        case y10_11=>(intro w0;go_simp;try (with_reducible rfl))
        refine wpAnyIn_ready (rs:=[0,11]) (by kernel_rfl) (by simp) ?_
        refine AllReadyIn.cons rfl (fun K hK => ?_) ?_
        ·skip
         go_simp
         refine hK _ _ ?_
         clear hK K
         refine wpAnyIn_ready (rs:=[11]) (by kernel_rfl) (by simp) ?_
         refine AllReadyIn.cons rfl (fun K hK => ?_) ?_
         ·skip
          go_simp
          refine hK _ _ ?_
          clear hK K
          refine wpAnyIn_ready (rs:=[12]) (by kernel_rfl) (by simp) ?_
          refine AllReadyIn.cons rfl (fun K hK => ?_) ?_
          ·skip
           refine Eq.mpr (if_pos rfl) ?_
           refine opIn_append_src (.tmp 56) (.tmp 67) 91 91 rfl w4.heap.size 100 (.agg #[.string ⟨#[]⟩,.string ⟨#[]⟩]) 2 32 Tryz.underlying91 infoItem rfl (by decide) qi M ci _ rfl HI3a.out _ 1 [.string lk,.string KS] rfl HSrc.out (by unfold maxLen;omega) (by omega) HSz.out ?_
           intro q6 c6 W5 h1 h2 h3
           obtain ⟨c11,f11,hst⟩:=HSt.out q6 c6 W5 h1 h2
           refine hK _ _ ?_
           clear hK K
           refine wpAnyIn_ready (rs:=[13]) (by kernel_rfl) (by simp) ?_
           refine AllReadyIn.cons rfl (fun K hK => ?_) ?_
           ·skip
            go_simp
            refine hK _ _ ?_
            clear hK K
            refine wpAnyIn_done (by kernel_rfl) ?_ _
            exact hmain _ _ _ hst
           exact AllReadyIn.nil
          exact AllReadyIn.nil
         exact AllReadyIn.nil
        refine AllReadyIn.cons rfl (fun K hK => ?_) ?_
        ·skip
         go_simp
         refine hK _ _ ?_
         clear hK K
         refine wpAnyIn_ready (rs:=[0]) (by kernel_rfl) (by simp) ?_
         refine AllReadyIn.cons rfl (fun K hK => ?_) ?_
         ·skip
          go_simp
          refine hK _ _ ?_
          clear hK K
          refine wpAnyIn_ready (rs:=[12]) (by kernel_rfl) (by simp) ?_
          refine AllReadyIn.cons rfl (fun K hK => ?_) ?_
          ·skip
           refine Eq.mpr (if_pos rfl) ?_
           refine opIn_append_src (.tmp 56) (.tmp 67) 91 91 rfl w4.heap.size 100 (.agg #[.string ⟨#[]⟩,.string ⟨#[]⟩]) 2 32 Tryz.underlying91 infoItem rfl (by decide) qi M ci _ rfl HI3a.out _ 1 [.string lk,.string KS] rfl HSrc.out (by unfold maxLen;omega) (by omega) HSz.out ?_
           intro q6 c6 W5 h1 h2 h3
           obtain ⟨c11,f11,hst⟩:=HSt.out q6 c6 W5 h1 h2
           refine hK _ _ ?_
           clear hK K
           refine wpAnyIn_ready (rs:=[13]) (by kernel_rfl) (by simp) ?_
           refine AllReadyIn.cons rfl (fun K hK => ?_) ?_
           ·skip
            go_simp
            refine hK _ _ ?_
            clear hK K
            refine wpAnyIn_done (by kernel_rfl) ?_ _
            exact hmain _ _ _ hst
           exact AllReadyIn.nil
          exact AllReadyIn.nil
         exact AllReadyIn.nil
        exact AllReadyIn.nil
       exact AllReadyIn.nil
      refine AllReadyIn.cons rfl (fun K hK => ?_) ?_
      ·skip
       go_simp
       refine hK _ _ ?_
       clear hK K
       refine wpAnyIn_ready (rs:=[0,7]) (by kernel_rfl) (by simp) ?_
       refine AllReadyIn.cons rfl (fun K hK => ?_) ?_
       ·skip
        go_simp
        refine hK _ _ ?_
        clear hK K
        refine wpAnyIn_ready (rs:=[7]) (by kernel_rfl) (by simp) ?_
        refine AllReadyIn.cons rfl (fun K hK => ?_) ?_
        ·skip
         go_simp
         refine hK _ _ ?_
         clear hK K
         refine wpAnyIn_take (i:=10) (v := ?v10_12) rfl rfl (by kernel_rfl) (by kernel_rfl) (by kernel_rfl) (fun _ _ _ h=>h) ⟨Or.inl ⟨by rfl, ?y10_12⟩,fun _=>rfl⟩ ?r10_12
         case y10_12=>(intro w0;go_simp;try (with_reducible rfl))
         refine wpAnyIn_ready (rs:=[11]) (by kernel_rfl) (by simp) ?_
         refine AllReadyIn.cons rfl (fun K hK => ?_) ?_
         ·skip
          go_simp
          refine hK _ _ ?_
          clear hK K
          refine wpAnyIn_ready (rs:=[12]) (by kernel_rfl) (by simp) ?_
          refine AllReadyIn.cons rfl (fun K hK => ?_) ?_
          ·skip
           refine Eq.mpr (if_pos rfl) ?_
           refine opIn_append_src (.tmp 56) (.tmp 67) 91 91 rfl w4.heap.size 100 (.agg #[.string ⟨#[]⟩,.string ⟨#[]⟩]) 2 32 Tryz.underlying91 infoItem rfl (by decide) qi M ci _ rfl HI3a.out _ 1 [.string lk,.string KS] rfl HSrc.out (by unfold maxLen;omega) (by omega) HSz.out ?_
           intro q6 c6 W5 h1 h2 h3
           obtain ⟨c11,f11,hst⟩:=HSt.out q6 c6 W5 h1 h2
           refine hK _ _ ?_
           clear hK K
           refine wpAnyIn_ready (rs:=[13]) (by kernel_rfl) (by simp) ?_
           refine AllReadyIn.cons rfl (fun K hK => ?_) ?_
           ·skip
            go_simp
            refine hK _ _ ?_
            clear hK K
            refine wpAnyIn_done (by kernel_rfl) ?_ _
            exact hmain _ _ _ hst
           exact AllReadyIn.nil
          exact AllReadyIn.nil
         exact AllReadyIn.nil
        exact AllReadyIn.nil
       refine AllReadyIn.cons rfl (fun K hK => ?_) ?_
       ·skip
        go_simp
        refine hK _ _ ?_
        clear hK K
        refine wpAnyIn_take (i:=10) (v := ?v10_13) rfl rfl (by kernel_rfl) (by kernel_rfl) (by kernel_rfl) (fun _ _ _ h=>h) ⟨Or.inl ⟨by rfl, ?y10_13⟩,fun _=>rfl⟩ ?r10_13
        case y10_13=>(intro w0;go_simp;try (with_reducible rfl))
        refine wpAnyIn_ready (rs:=[0,11]) (by kernel_rfl) (by simp) ?_
        refine AllReadyIn.cons rfl (fun K hK => ?_) ?_
        ·skip
         go_simp
         refine hK _ _ ?_
         clear hK K
         refine wpAnyIn_ready (rs:=[11]) (by kernel_rfl) (by simp) ?_
         refine AllReadyIn.cons rfl (fun K hK => ?_) ?_
         ·skip
          go_simp
          refine hK _ _ ?_
          clear hK K
          refine wpAnyIn_ready (rs:=[12]) (by kernel_rfl) (by simp) ?_
          refine AllReadyIn.cons rfl (fun K hK => ?_) ?_
          ·skip
           refine Eq.mpr (if_pos rfl) ?_
           refine opIn_append_src (.tmp 56) (.tmp 67) 91 91 rfl w4.heap.size 100 (.agg #[.string ⟨#[]⟩,.string ⟨#[]⟩]) 2 32 Tryz.underlying91 infoItem rfl (by decide) qi M ci _ rfl HI3a.out _ 1 [.string lk,.string KS] rfl HSrc.out (by unfold maxLen;omega) (by omega) HSz.out ?_
           intro q6 c6 W5 h1 h2 h3
           obtain ⟨c11,f11,hst⟩:=HSt.out q6 c6 W5 h1 h2
           refine hK _ _ ?_
           clear hK K
           refine wpAnyIn_ready (rs:=[13]) (by kernel_rfl) (by simp) ?_
           refine AllReadyIn.cons rfl (fun K hK => ?_) ?_
           ·skip
            go_simp
            refine hK _ _ ?_
            clear hK K
            refine wpAnyIn_done (by kernel_rfl) ?_ _
            exact hmain _ _ _ hst
           exact AllReadyIn.nil
          exact AllReadyIn.nil
         exact AllReadyIn.nil
        refine AllReadyIn.cons rfl (fun K hK => ?_) ?_
        ·skip
         go_simp
         refine hK _ _ ?_
         clear hK K
         refine wpAnyIn_ready (rs:=[0]) (by kernel_rfl) (by simp) ?_
         refine AllReadyIn.cons rfl (fun K hK => ?_) ?_
         ·skip
          go_simp
          refine hK _ _ ?_
          clear hK K
          refine wpAnyIn_ready (rs:=[12]) (by kernel_rfl) (by simp) ?_
          refine AllReadyIn.cons rfl (fun K hK => ?_) ?_
          ·skip
           refine Eq.mpr (if_pos rfl) ?_
           refine opIn_append_src (.tmp 56) (.tmp 67) 91 91 rfl w4.heap.size 100 (.agg #[.string ⟨#[]⟩,.string ⟨#[]⟩]) 2 32 Tryz.underlying91 infoItem rfl (by decide) qi M ci _ rfl HI3a.out _ 1 [.string lk,.string KS] rfl HSrc.out (by unfold maxLen;omega) (by omega) HSz.out ?_
           intro q6 c6 W5 h1 h2 h3
           obtain ⟨c11,f11,hst⟩:=HSt.out q6 c6 W5 h1 h2
           refine hK _ _ ?_
           clear hK K
           refine wpAnyIn_ready (rs:=[13]) (by kernel_rfl) (by simp) ?_
           refine AllReadyIn.cons rfl (fun K hK => ?_) ?_
           ·skip
            go_simp
            refine hK _ _ ?_
            clear hK K
            refine wpAnyIn_done (by kernel_rfl) ?_ _
            exact hmain _ _ _ hst
           exact AllReadyIn.nil
          exact AllReadyIn.nil
         exact AllReadyIn.nil
        exact AllReadyIn.nil
       exact AllReadyIn.nil
      exact AllReadyIn.nil
     ·intro q6 c6 W5 hst
      rw [HHst.out] at hst
      obtain ⟨W6,hW6⟩:∃ x,x = W5.setCell ⟨b11,0,none⟩ (.slice q6 (M + 1) c6):=⟨_,rfl⟩
      rw [← hW6] at hst ⊢
      clear hW6 c11a c11b
      have hx9:Boxed W3 b9 22 (.slice qo L co):=(HB13.out.block b9 HO1.out.lt).trans HO1.out
      have hx9':Boxed W6 b9 22 (.slice qo L co):=(hst.kind b9 _ ⟨_,_,hx9⟩ (by decide) (by omega)).trans hx9
      have ho3:=own_below HO2.out HB13.out
      have ho6:W6.ownsRow w4.heap.size 5 1 (.slice qo L co) L (SO.map bv):=by
       refine bown_keep ho3 fun g' hg' => ?_
       obtain ⟨_,h2⟩:=ho3
       rcases h2 with ⟨e,_⟩ | ⟨g2,cap,cur,e,_,hh,_⟩
       ·rw [e] at hg';cases hg'
       ·rw [e] at hg';cases hg'
        exact hst.kind _ _ ⟨_,_,hh⟩ (by decide) (fun e=>by subst e;rw [show W3.heap[_]? = _ from HX11.out] at hh;cases hh)
      have c9:=hx9'.cell
      have hf6:Fr W6 W.heap.size 5 1 (.slice q3 T T) T ((bAll sb).map bv):=by
       refine (HF3.out.below HB13.out).kept fun g' hg' hl'=>hst.far g' hl' (by have:=HI1x.out.lt;have:=HB9W.out;omega) (fun e=>by have:=(HLi.out g' e).2;omega)
      have hs6:W3.heap.size ≤ W6.heap.size:=hst.below.size
      have hst2:∀ q7 c7 W7,W7.ownsRow w4.heap.size 5 1 (.slice q7 (L + T) c7) (L + T) (SO.map bv ++ (bAll sb).map bv) → W6.grownBy W7 (Value.ownBlock (.slice qo L co)) →
        W7.cell? ⟨b9,0,none⟩ = some (.slice qo L co) ∧ W7.frozen? ⟨b9,0,none⟩ = false ∧ BoxStep W6 (W7.setCell ⟨b9,0,none⟩ (.slice q7 (L + T) c7)) b9 w4.heap.size w.heap.size 22 5 1 (.slice qo L co) (.slice q7 (L + T) c7) (L + T) (SO.map bv ++ (bAll sb).map bv):=by
       intro q7 c7 W7 h1 h2
       obtain ⟨k1,k2⟩:=box_step (b0:=w.heap.size) hx9' ho6 (Below.refl _ _) h1 h2 (by decide) (by omega) hw4 (by omega)
       exact ⟨k1.cell,k1.frozen,k2⟩
      have HSt2:=hid hst2
      have HO6:=hid ho6
      have HF6:=hid hf6
      have Hst6:=hid hst
      have hs46:w4.heap.size ≤ W6.heap.size:=by omega
      have HX9:=hid hx9'
      clear hst2 ho6 hf6 hst hx9 hx9' ho3
      gi_wp2_with (gi_at_builtin;refine wpListIn_append_src rfl (.tmp 69) (.tmp 70) 22 22 rfl w4.heap.size 5 (.int .u8 0) 1 1 Tryz.underlying22 infoU8 rfl (by decide) qo L co (SO.map bv) rfl HO6.out _ T ((bAll sb).map bv) rfl (src_rd (by decide) Tryz.underlying22 T (by rw [List.length_map,← HTl.out,Nat.mul_one]) HF6.out.rd bv_one) (by unfold maxLen;omega) (by omega) hs46 ?_;intro q7 c7 W7 h1 h2 h3;obtain ⟨c9b,f9b,hst7⟩:=HSt2.out q7 c7 W7 h1 h2)
      have hst6:=Hst6.out
      clear h1 h2 h3 c9b f9b
      obtain ⟨W8,hW8⟩:∃ x,x = W7.setCell ⟨b9,0,none⟩ (.slice q7 (L + T) c7):=⟨_,rfl⟩
      rw [← hW8] at hst7 ⊢
      clear hW8
      have hWw4:w4.heap.size ≤ W.heap.size:=HI.out.size
      have hs3:W.heap.size ≤ W3.heap.size:=HB03.out.size
      have hfar:∀ g',g' < w4.heap.size → g' ≠ b9 → g' ≠ b11 → W8.heap[g']? = W.heap[g']?:=fun g' h1 h2 h3 =>
       ((hst7.far g' (by omega) h2 (fun e=>by have:=(HLo.out g' e).1;omega)).trans (hst6.far g' (by omega) h3 (fun e=>by have:=(HLi.out g' e).1;omega))).trans (HB03.out.block g' (by omega))
      have hkeepB:∀ g',g' < w4.heap.size → g' ≠ b9 → g' ≠ b11 → KeepB g' W W8:=fun g' h1 h2 h3 o ho=>(hfar g' h1 h2 h3).trans ho
      have hb2n9:b2 < b9:=by have:=HB2N.out;omega
      have hkf:KeepsFrom w4.heap.size W W8:=((keepsFrom_below HB03.out).trans (hst6.keeps _)).trans (hst7.keeps _)
      have hup:upB l (pre ++ [(x0,x1)]) = (SO ++ bAll sb,SI ++ [it]):=by
       rw [upB_snoc]
       unfold stepB
       rw [← HSO.out,← HSI.out,← HSB.out,HIt.out,Hlk.out,HKS.out,← HLl.out,← HTl.out]
      refine ⟨hkf,⟨hkeepB bn (by omega) (by omega) (by omega),hkeepB b2 (by omega) (by omega) (by omega)⟩, ?_⟩
      have ho8:=hst7.own
      rw [← List.map_append] at ho8
      have e1:(SO ++ bAll sb).length = L + T:=by rw [List.length_append,← HLl.out,← HTl.out]
      have e2:(SI ++ [it]).length = M + 1:=by rw [List.length_append,← HMl.out];rfl
      refine ⟨HI.out.res.keep (fun k h1 h2=>hfar k (by omega) (by omega) (by omega)),⟨q7,c7, ?_⟩,⟨q6,c6, ?_⟩,rd_keep HI.out.all (hkeepB b2 (by omega) (by omega) (by omega)), ?_, ?_, ?_⟩
      ·rw [hup]
       dsimp only
       rw [e1]
       exact ⟨hst7.box,ho8⟩
      ·rw [hup]
       dsimp only
       rw [e2]
       refine ⟨(hst7.kind b11 _ ⟨_,_,hst6.box⟩ (by decide) (by omega)).trans hst6.box,bown_keep hst6.own fun g' hg' => ?_⟩
       obtain ⟨_,h2⟩:=hst6.own
       rcases h2 with ⟨e,_⟩ | ⟨g2,cap,cur,e,_,hh,_⟩
       ·rw [e] at hg';cases hg'
       ·rw [e] at hg';cases hg'
        exact hst7.kind _ _ ⟨_,_,hh⟩ (by decide) (fun e=>by subst e;rw [show W6.heap[_]? = _ from HX9.out] at hh;cases hh)
      ·exact ((HI.out.below.trans (HB03.out.mono HI.out.below.size)).trans (hst6.below)).trans hst7.below
      ·rw [hup]
       dsimp only
       rw [e1]
       have:=HTlen.out
       omega
      ·have:=hst6.below.size
       have:=hst7.below.size
       omega
  case done =>
   intro D xs W hD hxs hW hD0
   subst hxs
   obtain ⟨qo,co,ho1,ho2⟩:=hW.out
   obtain ⟨qi,ci,hi1,hi2⟩:=hW.idx
   have hshort:=hW.short
   have hso:(upB l (chunksOf l)).1 = outB fs:=by unfold outB;rw [← HL.out]
   have hsi:(upB l (chunksOf l)).2 = idxI fs:=by unfold idxI;rw [← HL.out]
   have hsz:=upB_sizes (fun x hx=>by have:=HBS.out x hx;omega) (chunksOf l)
   have hMl:(upB l (chunksOf l)).2.length ≤ 24000:=by
    have h:=chunks_len l
    have:=HLL.out
    rw [upB_len2]
    omega
   rw [hso] at ho1 ho2 hshort
   rw [hsi] at hi1 hi2 hsz hMl
   obtain ⟨SO,hSO⟩:∃ x,x = outB fs:=⟨_,rfl⟩
   obtain ⟨SI,hSI⟩:∃ x,x = idxI fs:=⟨_,rfl⟩
   rw [← hSO] at ho1 ho2 hshort
   rw [← hSI] at hi1 hi2 hsz hMl
   obtain ⟨L,hL⟩:∃ x,x = SO.length:=⟨_,rfl⟩
   obtain ⟨M,hM⟩:∃ x,x = SI.length:=⟨_,rfl⟩
   rw [← hL] at ho1 ho2 hshort
   rw [← hM] at hi1 hi2 hMl
   have HP:=hid (bput_any qi M ci SI W hM.symm (by omega) (Fr.of_own hi2).rd hsz)
   have c11:=hi1.cell
   have HO1:=hid ho1
   have HO2:=hid ho2
   have HSO:=hid hSO
   have HSI:=hid hSI
   have HLl:=hid hL
   have HD0:=hid hD0
   have HW:=hid hW
   have hWw:=hW.below.size
   clear ho1 ho2 hi1 hi2 hsz hSO hSI hL hM hso hsi hD0 hW hMl
   go_wp2_with fail
   refine HP.out.mono ?_
   rintro e W1 ⟨hb1,hcase⟩
   have HR1:=hid (HW.out.res.below hb1)
   have HB1:=hid hb1
   have hmk:∀ w',KeepsFrom w.heap.size W w' → Marks w.heap.size [({ target:=.collected D,args := #[] }:Deferred)] w':=fun w' hk =>
    ⟨⟨D,rfl,by omega,hk.same D _ (by omega) HD0.out rfl,fun d hd=>by cases hd⟩,trivial⟩
   have HMk:=hid hmk
   clear hb1 hmk
   have hbad:∀ x:Int,x = 3 → ¬ FitsB line fs → ∀ (tmps:Array Value),tmps.getD 4 undef = .pointer (some ⟨B,0,none⟩) → tmps.getD 5 undef = .pointer (some ⟨B + 1,0,none⟩) → tmps.getD 6 undef = .pointer (some ⟨B + 2,0,none⟩) →
     LeavesInM Fence.wide 3 Tryz.prog Tryz.f19 tmps (BuildP line fs w.heap.size w) [{ target:=.collected D,args := #[] }] .returning (setRes W1 B (.slice none 0 0) zProps x):=by
    intro x hx hnf tmps t4 t5 t6
    have hr:=(HR1.out.step (.slice none 0 0) zProps rfl).2.2.2.2.2 x
    have hB:=HB.out
    have hk:KeepsFrom w.heap.size W (setRes W1 B (.slice none 0 0) zProps x):=by
     refine (keepsFrom_below HB1.out).trans ⟨by unfold setRes;simp,fun k o hk ho hc => ?_⟩
     have n1:k ≠ B:=fun e=>by subst e;rw [show W1.heap[_]? = _ from HR1.out.r4] at ho;cases ho;cases hc
     have n2:k ≠ B + 1:=fun e=>by subst e;rw [HR1.out.r5] at ho;cases ho;cases hc
     have n3:k ≠ B + 2:=fun e=>by subst e;rw [show W1.heap[_]? = _ from HR1.out.r6] at ho;cases ho;cases hc
     unfold setRes
     exact (heap_setCell_other _ _ _ _ n3).trans ((setRow_other _ _ _ _ n2).trans ((heap_setCell_other _ _ _ _ n1).trans ho))
    refine leaves_marks _ _ (HMk.out _ hk) (fun w' hs => ?_)
    have hr':Res w' B (.slice none 0 0) zProps x:=⟨hs.cells _ _ _ _ hr.r4,hs.cells _ _ _ _ hr.r5,hs.cells _ _ _ _ hr.r6,hr.hs⟩
    exact ⟨_,hr'.done t4 t5 t6,(setRes_below (HW.out.below.trans (HB1.out.mono hWw)) (by omega) _ _ _).trans (hs.below _ (Nat.le_refl _)),.inr (.inl ⟨HG.out.1,HG.out.2,hnf,by rw [hx]⟩)⟩
   have HBad:=hid hbad
   clear hbad
   rcases hcase with ⟨hri,rfl⟩ | ⟨hri,hlen,rfl⟩ | ⟨hri,hlen,q8,rfl,hf8⟩
   ·exact (hri (by rw [HSI.out];exact (good_rise HG.out.1 HG.out.2 HO.out).2)).elim
   ·have HX:=hid (show ¬ FitsB line fs from fun h=>by have h1:=idx_le line fs;have h2:=h.2.2;unfold idxB at h1;rw [HSI.out] at hlen;exact absurd hlen (by have:(bAll (idxI fs)).length ≤ (tabB line fs).length:=h1;omega))
    obtain ⟨c4,f4,g5,c6,f6,hfin⟩:=HR1.out.step (.slice none 0 0) zProps rfl
    have H5:=hid g5
    clear g5 hfin hri hlen
    unfold zProps at c6 f6
    go_wp2_with (refine wpList_store_block rfl 49 _ _ rfl _ _ _ _ rfl rfl H5.out rfl infoProps zProps1 ?_)
    exact HBad.out 3 rfl HX.out _ rfl rfl rfl
   ·obtain ⟨T8,hT8⟩:∃ x,x = (bAll SI).length:=⟨_,rfl⟩
    rw [← hT8] at hlen hf8 ⊢
    have HRi:=hid hri
    have HF8:=hid hf8
    have HT8:=hid hT8
    have hRf:=hid (HR.out.below (HW.out.below.trans (HB1.out.mono hWw)))
    clear hri hf8 hT8
    go_wp2_with fail
    refine (props_any line q n c fs W1 HN.out (by rw [← HN.out];exact hgp) hm hRf.out HO.out).mono ?_
    rintro e W2 ⟨rfl,hb2'⟩
    have HB2':=hid hb2'
    obtain ⟨PC,hPC⟩:∃ x,x = (propsF line fs).cells.toArray:=⟨_,rfl⟩
    have hPs:PC.size = 8:=by rw [hPC];rfl
    have hP1:∀ v ∈ PC.toList,v.oneCell' = true:=by rw [hPC];simp [Props.cells,Value.oneCell']
    rw [← hPC]
    have HPs:=hid hPs
    have HP1:=hid hP1
    have HPC:=hid hPC
    clear hb2' hPC hPs hP1
    go_wp2_with (refine wpList_store_block rfl 49 _ _ rfl _ _ _ _ rfl rfl (heap_alloc_new _ _) (by rw [HPs.out];rfl) (by rw [HPs.out];exact infoProps) HP1.out ?_)
    simp only [Act.put]
    obtain ⟨b18,hb18⟩:∃ b,b = W2.heap.size:=⟨_,rfl⟩
    obtain ⟨WP,hWP⟩:∃ x,x = (W2.alloc (.cells zProps 49)).setRow W2.heap.size PC:=⟨_,rfl⟩
    have hbP:Below W2.heap.size W2 WP:=by rw [hWP];exact below_setRow ((Below.refl _ _).alloc (Nat.le_refl _) _) (Nat.le_refl _) _
    have hrowP:WP.heap[b18]? = some (.cells PC 49 (0,0)):=by rw [hWP,hb18];exact setRow_heap _ _ _ _ _ _ (heap_alloc_new _ _)
    unfold zProps at hWP
    rw [← hWP,← hb18]
    have hW1P:Below W1.heap.size W1 WP:=HB2'.out.trans (hbP.mono HB2'.out.size)
    have hs1:=HB2'.out.size
    have hs2:=hbP.size
    have hb18W:b18 < WP.heap.size:=lt_of_block hrowP
    have hb18W1:W1.heap.size ≤ b18:=by omega
    have HLo:=hid (show ∀ w',Below WP.heap.size WP.drew w' → w'.heap[b18]? = some (.cells PC 49 (0,0)) from fun w' hb=>(hb.block b18 hb18W).trans hrowP)
    have HNm:=hid (names_any q n c fs WP.drew HN.out (by rw [← HN.out];exact hgp) hm ((hRf.out.below hW1P).below (Below.refl _ _).drew))
    have HOf:=hid (fun (w':World) (p:Option Addr) (d:Nat) (h:Rd w' p ((namesF fs).map strV)) (hl:(namesF fs).length ≤ n)=>of_keys p (namesF fs).length d (namesF fs) w' rfl (by omega) h (names_short HG.out.1))
    have HPp:=hid (fun w':World=>pp_any (propsF line fs) (props_ok HG.out.1 HG.out.2 hn6 HO.out) w')
    rw [← HPC.out] at HPp
    obtain ⟨H,hH⟩:∃ H:Nat → Nat → Option Addr → World → Prop,H = fun x x2 y z=>Below WP.heap.size WP z ∧ (blN (namesF fs).length + 1 ≤ x2 ∧ x2 ≤ maxLen ∧ WP.heap.size ≤ x ∧ z.heap[x]? = some (.cells ((filB fs).map bv).toArray 5 (0,0))) ∧ Fr z WP.heap.size 5 1 (.slice y (tailB2 line fs).length (tailB2 line fs).length) (tailB2 line fs).length ((tailB2 line fs).map bv):=⟨_,rfl⟩
    have hHH:∀ (g9 cap9:Nat) (q10:Option Addr) (W4 W5 W9:World),Below WP.drew.heap.size WP.drew W4 → blN (namesF fs).length + 1 ≤ cap9 → cap9 ≤ maxLen → W4.heap.size ≤ g9 → W5.heap[g9]? = some (.cells ((ofF (namesF fs)).map bv).toArray 5 (0,0)) → Below W4.heap.size W4 W5 →
      Fr W9 W5.heap.size 5 1 (.slice q10 (ppB (propsF line fs)).length (ppB (propsF line fs)).length) (ppB (propsF line fs)).length ((ppB (propsF line fs)).map bv) → Below W5.heap.size W5 W9 → H g9 cap9 q10 W9:=by
     intro g9 cap9 q10 W4 W5 W9 h1 h2 h3 h4 h5 h6 h7 h8
     rw [hH]
     have h0:Below WP.heap.size WP WP.drew:=(Below.refl _ _).drew
     have h1':Below WP.heap.size WP W4:=h0.trans h1
     have h6':Below WP.heap.size WP W5:=h1'.trans (h6.mono h1'.size)
     exact ⟨h6'.trans (h8.mono h6'.size),⟨h2,h3,Nat.le_trans h1'.size h4,(h8.block g9 (lt_of_block h5)).trans h5⟩,h7.mono h6'.size⟩
    have HH:=hid hHH
    have HHe:=hid hH
    clear hHH hH
    have HW1P:=hid hW1P
    have HrP:=hid hrowP
    clear hWP hb18 hbP hrowP hW1P
    go_wp2_with fail
    refine (wpIn_wide (n:=3)).1 (wpIn_region_any (by kernel_rfl) ?_)
    try (change wpAnyIn _ _ _ _ _ _ _ _ _ (World.drew _))
    apply bridge6 (H:=H)
    ·intro hmain
     refine wpAnyIn_ready (rs:=[0,3]) (by kernel_rfl) (by simp) ?_
     refine AllReadyIn.cons rfl (fun K hK => ?_) ?_
     ·skip
      go_simp
      refine hK _ _ ?_
      clear hK K
      refine wpAnyIn_ready (rs:=[1,3]) (by kernel_rfl) (by simp) ?_
      refine AllReadyIn.cons rfl (fun K hK => ?_) ?_
      ·skip
       go_simp
       refine ⟨trivial,(callsIn_wide.2 HNm.out).mono ?_⟩
       rintro e W4 ⟨p9,d9,rfl,hx1,hx2,hx3⟩
       refine hK _ _ ?_
       clear hK K
       refine wpAnyIn_ready (rs:=[2,3]) (by kernel_rfl) (by simp) ?_
       refine AllReadyIn.cons rfl (fun K hK => ?_) ?_
       ·skip
        go_simp
        refine ⟨trivial,(callsIn_wide.2 (HOf.out W4 p9 d9 hx2 hx1)).mono ?_⟩
        rintro e W5 ⟨g9,cap9,rfl,hy1,hy2,hy4,hy5,hy6⟩
        refine hK _ _ ?_
        clear hK K
        refine wpAnyIn_ready (rs:=[3]) (by kernel_rfl) (by simp) ?_
        refine AllReadyIn.cons rfl (fun K hK => ?_) ?_
        ·skip
         refine Eq.mpr (if_pos rfl) ?_
         refine opIn_load_row 49 (.tmp 18) rfl b18 rfl PC (run_loadVar_row _ _ 49 _ _ _ _ (HLo.out _ (by first | exact Below.refl _ _ | exact hx3 | exact hx3.trans (hy6.mono hx3.size))) Tryz.underlying49 rfl (by rw [HPs.out];exact infoProps)) ?_
         refine hK _ _ ?_
         clear hK K
         refine wpAnyIn_ready (rs:=[4]) (by kernel_rfl) (by simp) ?_
         refine AllReadyIn.cons rfl (fun K hK => ?_) ?_
         ·skip
          go_simp
          refine ⟨trivial,(callsIn_wide.2 (HPp.out W5)).mono ?_⟩
          rintro e W9 ⟨q10,rfl,hz1,hz2⟩
          refine hK _ _ ?_
          clear hK K
          refine wpAnyIn_ready (rs:=[5]) (by kernel_rfl) (by simp) ?_
          refine AllReadyIn.cons rfl (fun K hK => ?_) ?_
          ·skip
           go_simp
           refine hK _ _ ?_
           clear hK K
           refine wpAnyIn_ready (rs:=[6]) (by kernel_rfl) (by simp) ?_
           refine AllReadyIn.cons rfl (fun K hK => ?_) ?_
           ·skip
            go_simp
            refine hK _ _ ?_
            clear hK K
            refine wpAnyIn_done (by kernel_rfl) ?_ _
            exact hmain p9 d9 g9 cap9 q10 W9 (HH.out g9 cap9 q10 W4 W5 W9 hx3 hy1 hy2 hy4 hy5 hy6 hz1 hz2)
           exact AllReadyIn.nil
          exact AllReadyIn.nil
         exact AllReadyIn.nil
        exact AllReadyIn.nil
       refine AllReadyIn.cons rfl (fun K hK => ?_) ?_
       ·skip
        refine Eq.mpr (if_pos rfl) ?_
        refine opIn_load_row 49 (.tmp 18) rfl b18 rfl PC (run_loadVar_row _ _ 49 _ _ _ _ (HLo.out _ (by first | exact Below.refl _ _ | exact hx3 | exact hx3.trans (hy6.mono hx3.size))) Tryz.underlying49 rfl (by rw [HPs.out];exact infoProps)) ?_
        refine hK _ _ ?_
        clear hK K
        refine wpAnyIn_ready (rs:=[2]) (by kernel_rfl) (by simp) ?_
        refine AllReadyIn.cons rfl (fun K hK => ?_) ?_
        ·skip
         go_simp
         refine ⟨trivial,(callsIn_wide.2 (HOf.out W4 p9 d9 hx2 hx1)).mono ?_⟩
         rintro e W5 ⟨g9,cap9,rfl,hy1,hy2,hy4,hy5,hy6⟩
         refine hK _ _ ?_
         clear hK K
         refine wpAnyIn_ready (rs:=[4]) (by kernel_rfl) (by simp) ?_
         refine AllReadyIn.cons rfl (fun K hK => ?_) ?_
         ·skip
          go_simp
          refine ⟨trivial,(callsIn_wide.2 (HPp.out W5)).mono ?_⟩
          rintro e W9 ⟨q10,rfl,hz1,hz2⟩
          refine hK _ _ ?_
          clear hK K
          refine wpAnyIn_ready (rs:=[5]) (by kernel_rfl) (by simp) ?_
          refine AllReadyIn.cons rfl (fun K hK => ?_) ?_
          ·skip
           go_simp
           refine hK _ _ ?_
           clear hK K
           refine wpAnyIn_ready (rs:=[6]) (by kernel_rfl) (by simp) ?_
           refine AllReadyIn.cons rfl (fun K hK => ?_) ?_
           ·skip
            go_simp
            refine hK _ _ ?_
            clear hK K
            refine wpAnyIn_done (by kernel_rfl) ?_ _
            exact hmain p9 d9 g9 cap9 q10 W9 (HH.out g9 cap9 q10 W4 W5 W9 hx3 hy1 hy2 hy4 hy5 hy6 hz1 hz2)
           exact AllReadyIn.nil
          exact AllReadyIn.nil
         exact AllReadyIn.nil
        exact AllReadyIn.nil
       exact AllReadyIn.nil
      refine AllReadyIn.cons rfl (fun K hK => ?_) ?_
      ·skip
       refine Eq.mpr (if_pos rfl) ?_
       refine opIn_load_row 49 (.tmp 18) rfl b18 rfl PC (run_loadVar_row _ _ 49 _ _ _ _ (HLo.out _ (by first | exact Below.refl _ _ | exact hx3 | exact hx3.trans (hy6.mono hx3.size))) Tryz.underlying49 rfl (by rw [HPs.out];exact infoProps)) ?_
       refine hK _ _ ?_
       clear hK K
       refine wpAnyIn_ready (rs:=[1]) (by kernel_rfl) (by simp) ?_
       refine AllReadyIn.cons rfl (fun K hK => ?_) ?_
       ·skip
        go_simp
        refine ⟨trivial,(callsIn_wide.2 HNm.out).mono ?_⟩
        rintro e W4 ⟨p9,d9,rfl,hx1,hx2,hx3⟩
        refine hK _ _ ?_
        clear hK K
        refine wpAnyIn_ready (rs:=[2]) (by kernel_rfl) (by simp) ?_
        refine AllReadyIn.cons rfl (fun K hK => ?_) ?_
        ·skip
         go_simp
         refine ⟨trivial,(callsIn_wide.2 (HOf.out W4 p9 d9 hx2 hx1)).mono ?_⟩
         rintro e W5 ⟨g9,cap9,rfl,hy1,hy2,hy4,hy5,hy6⟩
         refine hK _ _ ?_
         clear hK K
         refine wpAnyIn_ready (rs:=[4]) (by kernel_rfl) (by simp) ?_
         refine AllReadyIn.cons rfl (fun K hK => ?_) ?_
         ·skip
          go_simp
          refine ⟨trivial,(callsIn_wide.2 (HPp.out W5)).mono ?_⟩
          rintro e W9 ⟨q10,rfl,hz1,hz2⟩
          refine hK _ _ ?_
          clear hK K
          refine wpAnyIn_ready (rs:=[5]) (by kernel_rfl) (by simp) ?_
          refine AllReadyIn.cons rfl (fun K hK => ?_) ?_
          ·skip
           go_simp
           refine hK _ _ ?_
           clear hK K
           refine wpAnyIn_ready (rs:=[6]) (by kernel_rfl) (by simp) ?_
           refine AllReadyIn.cons rfl (fun K hK => ?_) ?_
           ·skip
            go_simp
            refine hK _ _ ?_
            clear hK K
            refine wpAnyIn_done (by kernel_rfl) ?_ _
            exact hmain p9 d9 g9 cap9 q10 W9 (HH.out g9 cap9 q10 W4 W5 W9 hx3 hy1 hy2 hy4 hy5 hy6 hz1 hz2)
           exact AllReadyIn.nil
          exact AllReadyIn.nil
         exact AllReadyIn.nil
        exact AllReadyIn.nil
       exact AllReadyIn.nil
      exact AllReadyIn.nil
     refine AllReadyIn.cons rfl (fun K hK => ?_) ?_
     ·skip
      refine Eq.mpr (if_pos rfl) ?_
      refine opIn_load_row 49 (.tmp 18) rfl b18 rfl PC (run_loadVar_row _ _ 49 _ _ _ _ (HLo.out _ (by first | exact Below.refl _ _ | exact hx3 | exact hx3.trans (hy6.mono hx3.size))) Tryz.underlying49 rfl (by rw [HPs.out];exact infoProps)) ?_
      refine hK _ _ ?_
      clear hK K
      refine wpAnyIn_ready (rs:=[0]) (by kernel_rfl) (by simp) ?_
      refine AllReadyIn.cons rfl (fun K hK => ?_) ?_
      ·skip
       go_simp
       refine hK _ _ ?_
       clear hK K
       refine wpAnyIn_ready (rs:=[1]) (by kernel_rfl) (by simp) ?_
       refine AllReadyIn.cons rfl (fun K hK => ?_) ?_
       ·skip
        go_simp
        refine ⟨trivial,(callsIn_wide.2 HNm.out).mono ?_⟩
        rintro e W4 ⟨p9,d9,rfl,hx1,hx2,hx3⟩
        refine hK _ _ ?_
        clear hK K
        refine wpAnyIn_ready (rs:=[2]) (by kernel_rfl) (by simp) ?_
        refine AllReadyIn.cons rfl (fun K hK => ?_) ?_
        ·skip
         go_simp
         refine ⟨trivial,(callsIn_wide.2 (HOf.out W4 p9 d9 hx2 hx1)).mono ?_⟩
         rintro e W5 ⟨g9,cap9,rfl,hy1,hy2,hy4,hy5,hy6⟩
         refine hK _ _ ?_
         clear hK K
         refine wpAnyIn_ready (rs:=[4]) (by kernel_rfl) (by simp) ?_
         refine AllReadyIn.cons rfl (fun K hK => ?_) ?_
         ·skip
          go_simp
          refine ⟨trivial,(callsIn_wide.2 (HPp.out W5)).mono ?_⟩
          rintro e W9 ⟨q10,rfl,hz1,hz2⟩
          refine hK _ _ ?_
          clear hK K
          refine wpAnyIn_ready (rs:=[5]) (by kernel_rfl) (by simp) ?_
          refine AllReadyIn.cons rfl (fun K hK => ?_) ?_
          ·skip
           go_simp
           refine hK _ _ ?_
           clear hK K
           refine wpAnyIn_ready (rs:=[6]) (by kernel_rfl) (by simp) ?_
           refine AllReadyIn.cons rfl (fun K hK => ?_) ?_
           ·skip
            go_simp
            refine hK _ _ ?_
            clear hK K
            refine wpAnyIn_done (by kernel_rfl) ?_ _
            exact hmain p9 d9 g9 cap9 q10 W9 (HH.out g9 cap9 q10 W4 W5 W9 hx3 hy1 hy2 hy4 hy5 hy6 hz1 hz2)
           exact AllReadyIn.nil
          exact AllReadyIn.nil
         exact AllReadyIn.nil
        exact AllReadyIn.nil
       exact AllReadyIn.nil
      exact AllReadyIn.nil
     exact AllReadyIn.nil
    ·intro p9 d9 g9 cap9 q10 W9 hh
     rw [HHe.out] at hh
     obtain ⟨hb9,⟨hc1,hc2,hc3,hc4⟩,hf10⟩:=hh
     have HB9:=hid hb9
     have HFil:=hid hc4
     have HTai:=hid hf10
     have Hc3:=hid hc3
     obtain ⟨NL,hNL⟩:∃ x,x = blN (namesF fs).length + 1:=⟨_,rfl⟩
     obtain ⟨TL,hTL⟩:∃ x,x = (ppB (propsF line fs)).length:=⟨_,rfl⟩
     rw [← hNL,← hTL]
     rw [← hNL] at hc1
     have HNL:=hid hNL
     have HTL:=hid hTL
     clear hb9 hc4 hf10 hNL hTL hc3
     go_wp2_with (refine wpList_append_src rfl (.tmp 89) (.const (.string ⟨#[84,66,76,49]⟩)) 22 9 rfl W9.heap.size 5 (.int .u8 0) 1 1 Tryz.underlying22 infoU8 rfl (by decide) none 0 0 [] rfl (World.ownsRow_nil _ _ _ _) _ 4 ([84,66,76,49].map bv) rfl (Src.ofString _ Tryz.underlying9 _) (by decide) (by decide) (Nat.le_refl _) ?_;intro qf cf WF hF1 hF2 hF3)
     obtain ⟨WQ,hWQ⟩:∃ x,x = WF.alloc (.cells #[.slice q8 T8 T8,.slice (some ⟨g9,0,none⟩) NL cap9,.slice q10 TL TL] 22):=⟨_,rfl⟩
     obtain ⟨bq,hbq⟩:∃ x,x = WF.heap.size:=⟨_,rfl⟩
     rw [← hWQ,← hbq]
     have hW9F:W9.heap.size ≤ WF.heap.size:=hF2.size
     have hbWF:Below W9.heap.size W9 WF:=⟨hF2.os,hF2.tape,hF2.output,hF2.size,fun g hg=>hF2.block g hg (by simp [Value.ownBlock])⟩
     have hbFQ:Below WF.heap.size WF WQ:=by rw [hWQ];exact (Below.refl _ _).alloc (Nat.le_refl _) _
     have hb9Q:Below W9.heap.size W9 WQ:=hbWF.trans (hbFQ.mono hW9F)
     have hsQ:WQ.heap.size = bq + 1:=by rw [hWQ,hbq];simp
     have hrowQ:WQ.heap[bq]? = some (.cells #[.slice q8 T8 T8,.slice (some ⟨g9,0,none⟩) NL cap9,.slice q10 TL TL] 22 (0,0)):=by rw [hWQ,hbq];exact heap_alloc_new _ _
     have hWW1:=HB1.out.size
     have hW1P:=HW1P.out.size
     have hWP9:=HB9.out.size
     have hloQ:∀ a,qo = some a → a.block < W.heap.size:=fun a ha=>(own_lt2 HO2.out a.block (own_some HO2.out a ha).1).2
     have hloF:∀ a,qf = some a → W9.heap.size ≤ a.block ∧ a.block < WF.heap.size:=fun a ha=>own_lt2 hF1 a.block (own_some hF1 a ha).1
     have hb9W:=HO1.out.lt
     have hfil:Rd WQ (some ⟨g9,0,none⟩) ((filB fs).map bv):=(Rd.block ((hb9Q.block g9 (lt_of_block HFil.out)).trans HFil.out) (fun j u hu=>by simpa using hu))
     have hfilL:=lt_of_block HFil.out
     have hp8:Rd WQ q8 ((idxB fs).map bv):=by
      show Rd WQ q8 ((bAll (idxI fs)).map bv)
      rw [← HSI.out]
      exact ((HF8.out.rd.below HW1P.out).below HB9.out).below hb9Q
     have hp10:Rd WQ q10 ((tailB2 line fs).map bv):=HTai.out.rd.below hb9Q
     have h8in:=fr_in HF8.out
     have h10in:=fr_in HTai.out
     have hpt:∀ wr:World,(∀ g,g < WQ.heap.size → g ≠ b9 → (∀ a,qo = some a → g ≠ a.block) → (∀ a,qf = some a → g ≠ a.block) → wr.heap[g]? = WQ.heap[g]?) → ∀ k,k < 3 →
       ∃ pq pm pc,wr.cell? ⟨bq,k,none⟩ = some (.slice pq pm pc) ∧ pm = (((partsB line fs)[k]?).getD []).length ∧ Rd wr pq ((((partsB line fs)[k]?).getD []).map bv) ∧ pm ≤ 1000000:=by
      intro wr hf k hk
      have hq:wr.heap[bq]? = _:=(hf bq (by omega) (by omega) (fun a ha=>by have:=hloQ a ha;omega) (fun a ha=>by have:=hloF a ha;omega)).trans hrowQ
      match k,hk with
      | 0,_=>exact ⟨q8,T8,T8,(cell_of_row _ _ _ _ _ _ hq).trans rfl,by rw [HT8.out,HSI.out];rfl,rd_far hp8 (fun a ha=>hf _ (by have:=h8in a ha;omega) (by have:=h8in a ha;omega) (fun b hb=>by have:=h8in a ha;have:=hloQ b hb;omega) (fun b hb=>by have:=h8in a ha;have:=hloF b hb;omega)),by omega⟩
      | 1,_=>exact ⟨some ⟨g9,0,none⟩,NL,cap9,(cell_of_row _ _ _ _ _ _ hq).trans rfl,by rw [HNL.out];exact (ofF_len _).symm,rd_far hfil (fun a ha=>by cases ha;exact hf _ (by show g9 < _;omega) (by show g9 ≠ _;have:=Hc3.out;omega) (fun b hb=>by have:=hloQ b hb;have:=Hc3.out;show g9 ≠ _;omega) (fun b hb=>by have:=hloF b hb;show g9 ≠ _;omega)),by have:=names_len fs;rw [HNL.out];unfold blN;omega⟩
      | 2,_=>exact ⟨q10,TL,TL,(cell_of_row _ _ _ _ _ _ hq).trans rfl,HTL.out,rd_far hp10 (fun a ha=>hf _ (by have:=h10in a ha;omega) (by have:=h10in a ha;omega) (fun b hb=>by have:=h10in a ha;have:=hloQ b hb;omega) (fun b hb=>by have:=h10in a ha;have:=hloF b hb;omega)),by have:=pp_len (props_ok HG.out.1 HG.out.2 hn6 HO.out);rw [HTL.out];omega⟩
     have hOK:∀ k,k ≤ 3 → (outK line fs k).length ≤ 4000000:=by
      intro k hk
      have h1:(outB fs).length = L:=by rw [HLl.out,HSO.out]
      have h2:(idxB fs).length = T8:=by rw [HT8.out,HSI.out];rfl
      have h3:(filB fs).length ≤ 1000000:=by unfold filB;rw [ofF_len];have:=names_len fs;unfold blN;omega
      have h4:(tailB2 line fs).length ≤ 300000:=pp_len (props_ok HG.out.1 HG.out.2 hn6 HO.out)
      match k,hk with
      | 0,_=>unfold outK partsB;simp;omega
      | 1,_=>unfold outK partsB;simp;omega
      | 2,_=>unfold outK partsB;simp;omega
      | 3,_=>unfold outK partsB;simp;omega
     have hft0:Ftr WQ WQ b9 w4.heap.size W9.heap.size w.heap.size qo qf (footK line fs 0) (outK line fs 0) qf qo cf co:=by
      have e0:outK line fs 0 = SO:=by unfold outK;rw [HSO.out];simp
      rw [e0]
      refine ⟨own_below hF1 hbFQ, ?_, ?_,fun b d hb hd => ?_,fun _ _ _ _ _=>rfl,.inl rfl,.inl rfl,KeepsFrom.refl _ _,Below.refl _ _⟩
      ·rw [← HLl.out]
       exact ((hb9Q.block b9 (by omega)).trans ((HB9.out.block b9 (by omega)).trans ((HW1P.out.block b9 (by omega)).trans (HB1.out.block b9 hb9W)))).trans HO1.out
      ·rw [← HLl.out]
       exact own_below (own_below (own_below (own_below HO2.out HB1.out) HW1P.out) HB9.out) hb9Q
      ·have:=hloF b hb
       have:=hloQ d hd
       omega
     have hpt2:∀ wr:World,(∀ g,g < WQ.heap.size → g ≠ b9 → (∀ a,qo = some a → g ≠ a.block) → (∀ a,qf = some a → g ≠ a.block) → wr.heap[g]? = WQ.heap[g]?) → Rd wr (some ⟨g9,0,none⟩) ((filB fs).map bv) ∧ Rd wr q10 ((tailB2 line fs).map bv):=fun wr hf =>
      ⟨rd_far hfil (fun a ha=>by cases ha;exact hf _ (by show g9 < _;omega) (by show g9 ≠ _;have:=Hc3.out;omega) (fun b hb=>by have:=hloQ b hb;have:=Hc3.out;show g9 ≠ _;omega) (fun b hb=>by have:=hloF b hb;show g9 ≠ _;omega)),
       rd_far hp10 (fun a ha=>hf _ (by have:=h10in a ha;omega) (by have:=h10in a ha;omega) (fun b hb=>by have:=h10in a ha;have:=hloQ b hb;omega) (fun b hb=>by have:=h10in a ha;have:=hloF b hb;omega))⟩
     have hNLl:NL = (filB fs).length:=by rw [HNL.out];exact (ofF_len _).symm
     have HPt2:=hid hpt2
     have HNLl:=hid hNLl
     clear hpt2 hNLl
     have HPt:=hid hpt
     have HBQ:=hid (show bq < WQ.heap.size ∧ bq ≠ b9 ∧ (∀ a,qo = some a → bq ≠ a.block) ∧ (∀ a,qf = some a → bq ≠ a.block) from ⟨by omega,by omega,fun a ha=>by have:=hloQ a ha;omega,fun a ha=>by have:=hloF a ha;omega⟩)
     have HOK:=hid hOK
     have HFt0:=hid hft0
     have HlQ:=hid hloQ
     have HlF:=hid hloF
     have hqw:w.heap.size ≤ WQ.heap.size:=by omega
     have hqw9:W9.heap.size ≤ WQ.heap.size:=by omega
     have hqw4:w4.heap.size ≤ WQ.heap.size:=by have:=HW.out.size;omega
     have hww9:w.heap.size ≤ W9.heap.size:=by omega
     have HQ:=hid hb9Q
     clear hWQ hbq hF1 hF2 hF3 hbWF hbFQ hb9Q hrowQ hfil hp8 hp10 h8in h10in hpt hOK hft0 hloQ hloF
     go_loopw [10,96] (fun v i wr=>∃ (k:Nat) (qf' qo':Option Addr) (cf' co':Nat),k ≤ 3 ∧ i = .int .i64 (k:Int) ∧ v = .slice qf' (footK line fs k).length cf' ∧ Ftr WQ wr b9 w4.heap.size W9.heap.size w.heap.size qo qf (footK line fs k) (outK line fs k) qf' qo' cf' co') (fun _ i _=>3 - (intOf i).toNat)
     case atStart=>exact ⟨0,qf,qo,cf,co,by omega,rfl,rfl,HFt0.out⟩
     case round =>
      obtain ⟨k,qf',qo',cf',co',hk,rfl,rfl,hft⟩:=hrel
      by_cases hlt:k < 3
      ·obtain ⟨pq,pm,pc,cp,hpm,hpr,hpl⟩:=HPt.out wr hft.far k hlt
       obtain ⟨X,hX⟩:∃ X,X = ((partsB line fs)[k]?).getD []:=⟨_,rfl⟩
       rw [← hX] at hpm hpr
       obtain ⟨FB,hFB⟩:∃ X,X = footK line fs k:=⟨_,rfl⟩
       obtain ⟨OB,hOB⟩:∃ X,X = outK line fs k:=⟨_,rfl⟩
       have hFl:FB.length ≤ 100:=by rw [hFB,footK_len];omega
       have hOl:OB.length ≤ 4000000:=by rw [hOB];exact HOK.out k hk
       rw [← hFB]
       rw [← hFB,← hOB] at hft
       obtain ⟨F,hF⟩:∃ x,x = FB.length:=⟨_,rfl⟩
       obtain ⟨LO,hLO⟩:∃ x,x = OB.length:=⟨_,rfl⟩
       rw [← hF] at hFl ⊢
       rw [← hLO] at hOl
       have hft9:=hft.box
       rw [← hLO] at hft9
       have c9:=hft9.cell
       have i0:(0:Int) ≤ (k:Int):=by omega
       have i1:(k:Int) < 3:=by omega
       have u1:(LO:Int) % 4294967296 = (LO:Int):=by omega
       have u2:(pm:Int) % 4294967296 = (pm:Int):=by omega
       have hsr:=hft.below.size
       have HX:=hid hX
       have HFB:=hid hFB
       have HOB:=hid hOB
       have HF:=hid hF
       have HLO:=hid hLO
       have HFt:=hid hft
       have HPm:=hid hpm
       have HPr:=hid hpr
       clear hX hFB hOB hF hLO hft hpm hpr hft9
       go_wp2_with fail
       refine (four_any W9.heap.size qf' F cf' FB LO wr (by omega) (by rw [HF.out];exact HFt.out.foot) (by omega) (by omega)).mono ?_
       rintro e Wa ⟨qa,ca,rfl,ga⟩
       have hfa:=HFt.out.foot_step hww9 (by rw [List.length_append,← HF.out];rfl) ga
       have hsa:=ga.below.size
       have HFa:=hid hfa
       clear ga hfa
       go_wp2_with fail
       have lA:(FB ++ le4 LO).length = F + 4:=by rw [List.length_append,← HF.out];rfl
       refine (four_any W9.heap.size qa (F + 4) ca (FB ++ le4 LO) pm Wa (by omega) (by rw [← lA];exact HFa.out.foot) (by omega) (by omega)).mono ?_
       rintro e Wb ⟨qb,cb,rfl,gb⟩
       have hfb:=HFa.out.foot_step hww9 (by rw [List.length_append,lA];rfl) gb
       have hsb:=gb.below.size
       have HFb:=hid hfb
       have hboxb:=hfb.box
       rw [← HLO.out] at hboxb
       have c9b:=hboxb.cell
       have hoB:=hfb.out
       rw [← HLO.out] at hoB
       have hprb:Rd Wb pq (X.map bv):=by
        have hk:=HPt.out Wb hfb.far k hlt
        obtain ⟨pq',pm',pc',cp',_,hpr',_⟩:=hk
        rw [← HX.out] at hpr'
        have hq1:=hfb.far
        have hq2:=HFt.out.far
        have:wr.cell? ⟨bq,k,none⟩ = Wb.cell? ⟨bq,k,none⟩:=by
         have hb:=HBQ.out
         simp only [World.cell?]
         rw [hq1 bq hb.1 hb.2.1 hb.2.2.1 hb.2.2.2,hq2 bq hb.1 hb.2.1 hb.2.2.1 hb.2.2.2]
        rw [← this,cp,Option.some.injEq,Value.slice.injEq] at cp'
        obtain ⟨rfl,_,_⟩:=cp'
        exact hpr'
       have HoB:=hid hoB
       have HPb:=hid hprb
       clear gb hfb hboxb hoB hprb c9 cp
       go_wp2_with (refine wpList_append_src rfl (.tmp 109) (.tmp 110) 22 22 rfl w4.heap.size 5 (.int .u8 0) 1 1 Tryz.underlying22 infoU8 rfl (by decide) qo' LO co' (OB.map bv) rfl HoB.out _ pm (X.map bv) rfl (src_rd (by decide) Tryz.underlying22 pc (by rw [List.length_map,HPm.out,Nat.mul_one]) HPb.out bv_one) (by unfold maxLen;omega) (by omega) (by omega) ?_;intro qc cc Wc h1 h2 h3;obtain ⟨c9c,f9c,hfc⟩:=HFb.out.out_step (x:=X) hw4 (by omega) (by omega) HPm.out.symm (by rw [← HLO.out];exact h1) (by rw [← HLO.out];exact h2) h3;rw [← HLO.out] at c9c)
       have ef:footK line fs (k + 1) = FB ++ le4 LO ++ le4 pm:=by
        show footK line fs k ++ le4 (outK line fs k).length ++ le4 (((partsB line fs)[k]?).getD []).length = _
        rw [← HFB.out,← HOB.out,← HX.out,← HLO.out,← HPm.out]
       have eo:outK line fs (k + 1) = OB ++ X:=by rw [outK_succ line fs k hlt,← HOB.out,← HX.out]
       refine ⟨⟨k + 1,qb,qc,cb,cc,hlt,by go_num, ?_, ?_⟩,by simp [intOf];omega⟩
       ·rw [ef,List.length_append,lA];rfl
       ·rw [ef,eo]
        rw [List.length_append,← HLO.out,← HPm.out] at hfc
        exact hfc
      ·have hk3:k = 3:=by omega
       subst hk3
       have hn3:¬ ((3:Nat):Int) < 3:=by omega
       have HFt:=hid hft
       have hsr:=hft.below.size
       clear hft
       go_wp2_with fail
       refine (of_any (some ⟨g9,0,none⟩) NL cap9 (filB fs) wr HNLl.out.symm (by have:=names_len fs;rw [HNL.out];unfold blN;omega) (HPt2.out wr HFt.out.far).1).mono ?_
       rintro e Wa ⟨rfl,hba⟩
       have HFa:=hid (HFt.out.world hqw hba)
       have hsa:=hba.size
       clear hba
       go_wp2_with fail
       have hf3:=footK_len line fs 3
       refine (four_any W9.heap.size qf' (footK line fs 3).length cf' (footK line fs 3) (crcMore 0 (filB fs)).toNat Wa (crcMore 0 (filB fs)).isLt HFa.out.foot (by omega) (by omega)).mono ?_
       rintro e Wb ⟨qb,cb,rfl,gb⟩
       have HFb:=hid (HFa.out.foot_step hww9 (by rw [List.length_append];rfl) gb)
       have hsb:=gb.below.size
       clear gb
       go_wp2_with fail
       refine (of_any q10 TL TL (tailB2 line fs) Wb HTL.out.symm (by have:=pp_len (props_ok HG.out.1 HG.out.2 hn6 HO.out);rw [HTL.out];omega) (HPt2.out Wb HFb.out.far).2).mono ?_
       rintro e Wc ⟨rfl,hbc⟩
       have HFc:=hid (HFb.out.world hqw hbc)
       have hsc:=hbc.size
       clear hbc
       go_wp2_with fail
       have hlb:(footK line fs 3 ++ le4 (crcMore 0 (filB fs)).toNat).length = (footK line fs 3).length + 4:=by rw [List.length_append];rfl
       refine (four_any W9.heap.size qb ((footK line fs 3).length + 4) cb (footK line fs 3 ++ le4 (crcMore 0 (filB fs)).toNat) (crcMore 0 (tailB2 line fs)).toNat Wc (crcMore 0 (tailB2 line fs)).isLt (by rw [← hlb];exact HFc.out.foot) (by omega) (by omega)).mono ?_
       rintro e Wd ⟨qd,cd,rfl,gd⟩
       have HFd:=hid (HFc.out.foot_step hww9 (by rw [List.length_append,hlb];rfl) gd)
       have hsd:=gd.below.size
       clear gd
       go_wp2_with fail
       have hft3:footK line fs 3 ++ le4 (crcMore 0 (filB fs)).toNat ++ le4 (crcMore 0 (tailB2 line fs)).toNat = foot0 line fs:=foot_eq line fs
       have hl3:(foot0 line fs).length = 36:=by rw [← hft3,List.length_append,hlb,hf3];rfl
       obtain ⟨FT,hFT⟩:∃ x,x = foot0 line fs:=⟨_,rfl⟩
       obtain ⟨OB,hOB⟩:∃ x,x = outK line fs 3:=⟨_,rfl⟩
       obtain ⟨FL,hFL⟩:∃ x,x = 36:=⟨_,rfl⟩
       obtain ⟨LO,hLO⟩:∃ x,x = OB.length:=⟨_,rfl⟩
       have hFd:=HFd.out
       rw [hft3,← hFT,← hOB] at hFd
       rw [show Value.slice qd 36 cd = Value.slice qd FL cd by rw [hFL]]
       rw [← hFL,← hFT] at hl3
       have hFl9:FL ≤ 40:=by omega
       have hOl9:LO ≤ 4000000:=by rw [hLO,hOB];exact HOK.out 3 (Nat.le_refl _)
       have hFD:Ftr WQ Wd.drew b9 w4.heap.size W9.heap.size w.heap.size qo qf FT OB qd qo' cd co':=hFd.world hqw (Below.refl _ _).drew
       have hsdr:Wd.drew.heap.size = Wd.heap.size:=rfl
       have HSum:=hid (of_any qd FL cd FT Wd.drew hl3 (by omega) (by have:=(Fr.of_own hFD.foot).rd;exact this))
       have HFour:=hid (fun (We:World) (hbe:Below Wd.drew.heap.size Wd.drew We)=>four_any W9.heap.size qd FL cd FT (crcMore 0 FT).toNat We (crcMore 0 FT).isLt (by have h:=(hFD.world hqw hbe).foot;rw [hl3] at h;exact h) (by omega) (by have:=hbe.size;omega))
       have HFD:=hid hFD
       have hboxd:=hFD.box
       rw [← hLO] at hboxd
       have c9d:=hboxd.cell
       have Hl3:=hid hl3
       have HFT:=hid hFT
       have HOB:=hid hOB
       have HLO:=hid hLO
       have hbx:∀ (We:World) (FB':List UInt8) (q':Option Addr) (c':Nat),Ftr WQ We b9 w4.heap.size W9.heap.size w.heap.size qo qf FB' OB q' qo' c' co' → We.cell? ⟨b9,0,none⟩ = some (.slice qo' LO co'):=fun We FB' q' c' h=>by
        have h2:=h.box
        rw [← HLO.out] at h2
        exact h2.cell
       have HBx:=hid hbx
       obtain ⟨H,hH⟩:∃ H:Option Addr → Nat → Option Addr → Nat → World → Prop,H = fun qe ce qg cg z=>Ftr WQ z b9 w4.heap.size W9.heap.size w.heap.size qo qf (FT ++ le4 (crcMore 0 FT).toNat) (OB ++ (FT ++ le4 (crcMore 0 FT).toNat)) qe qg ce cg:=⟨_,rfl⟩
       have HHe:=hid hH
       have hAp:∀ (Wf:World) (qe:Option Addr) (ce:Nat),Ftr WQ Wf b9 w4.heap.size W9.heap.size w.heap.size qo qf (FT ++ le4 (crcMore 0 FT).toNat) OB qe qo' ce co' → WQ.heap.size ≤ Wf.heap.size → Wf.ownsRow w4.heap.size 5 1 (.slice qo' LO co') LO (OB.map bv) ∧ Rd Wf qe ((FT ++ le4 (crcMore 0 FT).toNat).map bv) ∧
         ∀ (q':Option Addr) (c':Nat) (Wg:World),Wg.ownsRow w4.heap.size 5 1 (.slice q' (LO + (FL + 4)) c') (LO + (FL + 4)) (OB.map bv ++ (FT ++ le4 (crcMore 0 FT).toNat).map bv) → Wf.grownBy Wg (Value.ownBlock (.slice qo' LO co')) → (q' = qo' ∨ ∃ g,q' = some ⟨g,0,none⟩ ∧ Wf.heap.size ≤ g) →
          Wg.cell? ⟨b9,0,none⟩ = some (.slice qo' LO co') ∧ Wg.frozen? ⟨b9,0,none⟩ = false ∧ H qe ce q' c' (Wg.setCell ⟨b9,0,none⟩ (.slice q' (LO + (FL + 4)) c')):=by
        intro Wf qe ce hf hs
        have ho:=hf.out
        rw [← HLO.out] at ho
        have hll:(FT ++ le4 (crcMore 0 FT).toNat).length = FL + 4:=by rw [List.length_append,Hl3.out];rfl
        refine ⟨ho,(Fr.of_own hf.foot).rd,fun q' c' Wg h1 h2 h3 => ?_⟩
        have h4:=hf.out_step (by omega) (by omega) (by omega) hll (by rw [← HLO.out];exact h1) (by rw [← HLO.out];exact h2) h3
        rw [List.length_append,← HLO.out,hll] at h4
        rw [HHe.out]
        exact h4
       have HAp:=hid hAp
       clear hH hbx hAp hboxd hFD hFd HFd hl3 hFT hOB hLO hft3 hFL
       refine (wpIn_wide (n:=3)).1 (wpIn_calm (wpIn_region_any (by kernel_rfl) ?_))
       try (change wpAnyIn _ _ _ _ _ _ _ _ _ (World.drew _))
       apply bridge5 (H:=H)
       ·intro hmain
        refine wpAnyIn_take (i:=1) (v := ?v1_1b) rfl rfl (by kernel_rfl) (by kernel_rfl) (by kernel_rfl) (fun _ _ _ h=>h) ⟨Or.inl ⟨by rfl, ?y1_1b⟩,fun _=>rfl⟩ ?r1_1b
        case y1_1b=>(intro w0;go_simp;try (with_reducible rfl))
        refine wpAnyIn_take (i:=2) (v := ?v2_2b) rfl rfl (by kernel_rfl) (by kernel_rfl) (by kernel_rfl) (fun _ _ _ h=>h) ⟨Or.inl ⟨by rfl, ?y2_2b⟩,fun _=>rfl⟩ ?r2_2b
        case y2_2b=>(intro w0;go_simp;try (with_reducible rfl))
        refine wpAnyIn_ready (rs:=[0,3]) (by kernel_rfl) (by simp) ?_
        refine AllReadyIn.cons rfl (fun K hK => ?_) ?_
        ·skip
         go_simp
         refine hK _ _ ?_
         clear hK K
         refine wpAnyIn_ready (rs:=[3]) (by kernel_rfl) (by simp) ?_
         refine AllReadyIn.cons rfl (fun K hK => ?_) ?_
         ·skip
          go_simp
          refine ⟨trivial,(callsIn_wide.2 HSum.out).mono ?_⟩
          rintro e We ⟨rfl,hbe⟩
          have hFe:=HFD.out.world hqw hbe
          have c9e:=HBx.out _ _ _ _ hFe
          refine hK _ _ ?_
          clear hK K
          refine wpAnyIn_ready (rs:=[4]) (by kernel_rfl) (by simp) ?_
          refine AllReadyIn.cons rfl (fun K hK => ?_) ?_
          ·skip
           go_simp
           refine ⟨trivial,(callsIn_wide.2 (HFour.out We hbe)).mono ?_⟩
           rintro e Wf ⟨qe,ce,rfl,gf⟩
           have hFf:=hFe.foot_step hww9 (by rw [List.length_append,Hl3.out];rfl) gf
           have c9f:=HBx.out _ _ _ _ hFf
           have hsf:WQ.heap.size ≤ Wf.heap.size:=hFf.below.size
           obtain ⟨p1,p2,p3⟩:=HAp.out Wf qe ce hFf hsf
           refine hK _ _ ?_
           clear hK K
           refine wpAnyIn_ready (rs:=[5]) (by kernel_rfl) (by simp) ?_
           refine AllReadyIn.cons rfl (fun K hK => ?_) ?_
           ·skip
            refine Eq.mpr (if_pos rfl) ?_
            refine opIn_append_src (.tmp 120) (.tmp 124) 22 22 rfl w4.heap.size 5 (.int .u8 0) 1 1 Tryz.underlying22 infoU8 rfl (by decide) qo' LO co' (OB.map bv) rfl p1 _ (FL + 4) ((FT ++ le4 (crcMore 0 FT).toNat).map bv) rfl (src_rd (by decide) Tryz.underlying22 ce (by rw [List.length_map,List.length_append,Hl3.out,Nat.mul_one];rfl) p2 bv_one) (by unfold maxLen;omega) (by omega) (by omega) ?_
            intro qg cg Wg h1 h2 h3
            obtain ⟨k1,k2,k3⟩:=p3 qg cg Wg h1 h2 h3
            refine hK _ _ ?_
            clear hK K
            refine wpAnyIn_ready (rs:=[6]) (by kernel_rfl) (by simp) ?_
            refine AllReadyIn.cons rfl (fun K hK => ?_) ?_
            ·skip
             go_simp
             refine hK _ _ ?_
             clear hK K
             refine wpAnyIn_done (by kernel_rfl) ?_ _
             exact hmain _ _ _ _ _ k3
            exact AllReadyIn.nil
           exact AllReadyIn.nil
          exact AllReadyIn.nil
         exact AllReadyIn.nil
        refine AllReadyIn.cons rfl (fun K hK => ?_) ?_
        ·skip
         go_simp
         refine ⟨trivial,(callsIn_wide.2 HSum.out).mono ?_⟩
         rintro e We ⟨rfl,hbe⟩
         have hFe:=HFD.out.world hqw hbe
         have c9e:=HBx.out _ _ _ _ hFe
         refine hK _ _ ?_
         clear hK K
         refine wpAnyIn_ready (rs:=[0,4]) (by kernel_rfl) (by simp) ?_
         refine AllReadyIn.cons rfl (fun K hK => ?_) ?_
         ·skip
          go_simp
          refine hK _ _ ?_
          clear hK K
          refine wpAnyIn_ready (rs:=[4]) (by kernel_rfl) (by simp) ?_
          refine AllReadyIn.cons rfl (fun K hK => ?_) ?_
          ·skip
           go_simp
           refine ⟨trivial,(callsIn_wide.2 (HFour.out We hbe)).mono ?_⟩
           rintro e Wf ⟨qe,ce,rfl,gf⟩
           have hFf:=hFe.foot_step hww9 (by rw [List.length_append,Hl3.out];rfl) gf
           have c9f:=HBx.out _ _ _ _ hFf
           have hsf:WQ.heap.size ≤ Wf.heap.size:=hFf.below.size
           obtain ⟨p1,p2,p3⟩:=HAp.out Wf qe ce hFf hsf
           refine hK _ _ ?_
           clear hK K
           refine wpAnyIn_ready (rs:=[5]) (by kernel_rfl) (by simp) ?_
           refine AllReadyIn.cons rfl (fun K hK => ?_) ?_
           ·skip
            refine Eq.mpr (if_pos rfl) ?_
            refine opIn_append_src (.tmp 120) (.tmp 124) 22 22 rfl w4.heap.size 5 (.int .u8 0) 1 1 Tryz.underlying22 infoU8 rfl (by decide) qo' LO co' (OB.map bv) rfl p1 _ (FL + 4) ((FT ++ le4 (crcMore 0 FT).toNat).map bv) rfl (src_rd (by decide) Tryz.underlying22 ce (by rw [List.length_map,List.length_append,Hl3.out,Nat.mul_one];rfl) p2 bv_one) (by unfold maxLen;omega) (by omega) (by omega) ?_
            intro qg cg Wg h1 h2 h3
            obtain ⟨k1,k2,k3⟩:=p3 qg cg Wg h1 h2 h3
            refine hK _ _ ?_
            clear hK K
            refine wpAnyIn_ready (rs:=[6]) (by kernel_rfl) (by simp) ?_
            refine AllReadyIn.cons rfl (fun K hK => ?_) ?_
            ·skip
             go_simp
             refine hK _ _ ?_
             clear hK K
             refine wpAnyIn_done (by kernel_rfl) ?_ _
             exact hmain _ _ _ _ _ k3
            exact AllReadyIn.nil
           exact AllReadyIn.nil
          exact AllReadyIn.nil
         refine AllReadyIn.cons rfl (fun K hK => ?_) ?_
         ·skip
          go_simp
          refine ⟨trivial,(callsIn_wide.2 (HFour.out We hbe)).mono ?_⟩
          rintro e Wf ⟨qe,ce,rfl,gf⟩
          have hFf:=hFe.foot_step hww9 (by rw [List.length_append,Hl3.out];rfl) gf
          have c9f:=HBx.out _ _ _ _ hFf
          have hsf:WQ.heap.size ≤ Wf.heap.size:=hFf.below.size
          obtain ⟨p1,p2,p3⟩:=HAp.out Wf qe ce hFf hsf
          refine hK _ _ ?_
          clear hK K
          refine wpAnyIn_ready (rs:=[0]) (by kernel_rfl) (by simp) ?_
          refine AllReadyIn.cons rfl (fun K hK => ?_) ?_
          ·skip
           go_simp
           refine hK _ _ ?_
           clear hK K
           refine wpAnyIn_ready (rs:=[5]) (by kernel_rfl) (by simp) ?_
           refine AllReadyIn.cons rfl (fun K hK => ?_) ?_
           ·skip
            refine Eq.mpr (if_pos rfl) ?_
            refine opIn_append_src (.tmp 120) (.tmp 124) 22 22 rfl w4.heap.size 5 (.int .u8 0) 1 1 Tryz.underlying22 infoU8 rfl (by decide) qo' LO co' (OB.map bv) rfl p1 _ (FL + 4) ((FT ++ le4 (crcMore 0 FT).toNat).map bv) rfl (src_rd (by decide) Tryz.underlying22 ce (by rw [List.length_map,List.length_append,Hl3.out,Nat.mul_one];rfl) p2 bv_one) (by unfold maxLen;omega) (by omega) (by omega) ?_
            intro qg cg Wg h1 h2 h3
            obtain ⟨k1,k2,k3⟩:=p3 qg cg Wg h1 h2 h3
            refine hK _ _ ?_
            clear hK K
            refine wpAnyIn_ready (rs:=[6]) (by kernel_rfl) (by simp) ?_
            refine AllReadyIn.cons rfl (fun K hK => ?_) ?_
            ·skip
             go_simp
             refine hK _ _ ?_
             clear hK K
             refine wpAnyIn_done (by kernel_rfl) ?_ _
             exact hmain _ _ _ _ _ k3
            exact AllReadyIn.nil
           exact AllReadyIn.nil
          exact AllReadyIn.nil
         exact AllReadyIn.nil
        exact AllReadyIn.nil
       ·intro qe ce qg cg Wz hz
        rename_i K hK
        rw [HHe.out] at hz
        have hTB:OB ++ (FT ++ le4 (crcMore 0 FT).toNat) = tabB line fs:=by rw [HOB.out,body_eq,HFT.out];rfl
        rw [hTB] at hz
        obtain ⟨TBl,hTBl⟩:∃ x,x = (tabB line fs).length:=⟨_,rfl⟩
        have hTs:LO + (FL + 4) = TBl:=by rw [hTBl,← hTB,List.length_append,List.length_append,← HLO.out,Hl3.out];rfl
        have hTm:TBl ≤ 4000100:=by omega
        rw [hTs]
        have hcg:TBl ≤ cg ∧ cg ≤ maxLen:=by
         have h:=hz.out
         rw [← hTBl] at h
         obtain ⟨_,h2⟩:=h
         rcases h2 with ⟨e,h0⟩ | ⟨g',cap,cur,e,_,hh,h3,h4,_⟩
         ·have:=hTs;omega
         ·rw [Value.slice.injEq] at e
          obtain ⟨_,_,rfl⟩:=e
          exact ⟨h3,h4⟩
        have hs1P:=HW1P.out.size
        have hsP9:=HB9.out.size
        have hs9Q:=HQ.out.size
        have hWQ:Below W1.heap.size W1 WQ:=(HW1P.out.trans (HB9.out.mono hs1P)).trans (HQ.out.mono (by omega))
        have hlow:∀ Wx,Ftr WQ Wx b9 w4.heap.size W9.heap.size w.heap.size qo qf (FT ++ le4 (crcMore 0 FT).toNat) (tabB line fs) qe qg ce cg → ∀ k,k < W1.heap.size → k ≠ b9 → (∀ a,qo = some a → k ≠ a.block) → Wx.heap[k]? = W1.heap[k]?:=fun Wx hx k h1 h2 h3 =>
         (hx.far k (by omega) h2 h3 (fun a ha=>by have:=HlF.out a ha;omega)).trans (hWQ.block k h1)
        have hall:∀ Wx,Ftr WQ Wx b9 w4.heap.size W9.heap.size w.heap.size qo qf (FT ++ le4 (crcMore 0 FT).toNat) (tabB line fs) qe qg ce cg → Res Wx B (.slice none 0 0) zProps 0 ∧ Wx.heap[b18]? = some (.cells PC 49 (0,0)) ∧ KeepsFrom w.heap.size W Wx ∧ Below w.heap.size w Wx ∧ Wx.cell? ⟨b9,0,none⟩ = some (.slice qg TBl cg) ∧ Wx.ownsRow w4.heap.size 5 1 (.slice qg TBl cg) TBl ((tabB line fs).map bv):=fun Wx hx=>by
         refine ⟨HR1.out.keep (fun k h1 h2=>hlow Wx hx k (by have:=lt_of_block HR1.out.r5;have:=HR1.out.r6.lt;omega) (by omega) (fun a ha=>by have:=(own_lt2 HO2.out a.block (own_some HO2.out a ha).1).1;omega)), ?_,((keepsFrom_below HB1.out).trans (keepsFrom_below hWQ)).trans hx.keeps,((HW.out.below.trans (HB1.out.mono hWw)).trans (hWQ.mono (by have:=HB1.out.size;omega))).trans hx.below, ?_, ?_⟩
         ·exact (hx.far b18 (by omega) (by have:=HO1.out.lt;have:=HB1.out.size;omega) (fun a ha=>by have:=(own_lt2 HO2.out a.block (own_some HO2.out a ha).1).2;have:=HB1.out.size;omega) (fun a ha=>by have:=HlF.out a ha;omega)).trans ((HQ.out.block b18 (by omega)).trans ((HB9.out.block b18 hb18W).trans HrP.out))
         ·have h:=hx.box
          rw [← hTBl] at h
          exact h.cell
         ·have h:=hx.out
          rw [← hTBl] at h
          exact h
        have hfin:∀ Wx,Ftr WQ Wx b9 w4.heap.size W9.heap.size w.heap.size qo qf (FT ++ le4 (crcMore 0 FT).toNat) (tabB line fs) qe qg ce cg → ∀ (v:Value) (arr:Array Value) (x:Int) (tmps:Array Value),arr.size = 8 → tmps.getD 4 undef = .pointer (some ⟨B,0,none⟩) → tmps.getD 5 undef = .pointer (some ⟨B + 1,0,none⟩) → tmps.getD 6 undef = .pointer (some ⟨B + 2,0,none⟩) →
          (∀ w',Shut w.heap.size (setRes Wx B v arr x) w' → BuildP line fs w.heap.size w (.returned (.tuple #[v,.agg arr,.int .i64 x])) w') →
          LeavesInM Fence.wide 3 Tryz.prog Tryz.f19 tmps (BuildP line fs w.heap.size w) [{ target:=.collected D,args := #[] }] .returning (setRes Wx B v arr x):=by
         intro Wx hx v arr x tmps hs t4 t5 t6 hP
         obtain ⟨a1,_,a3,_,_,_⟩:=hall Wx hx
         have hr:=(a1.step v arr hs).2.2.2.2.2 x
         refine leaves_marks _ _ (HMk.out _ (a3.trans (setRes_keeps2 a1 v arr x _))) (fun w' hsh => ?_)
         have hr':Res w' B v arr x:=⟨hsh.cells _ _ _ _ hr.r4,hsh.cells _ _ _ _ hr.r5,hsh.cells _ _ _ _ hr.r6,hr.hs⟩
         exact ⟨_,hr'.done t4 t5 t6,hP w' hsh⟩
        have HAll:=hid hall
        have HFin:=hid hfin
        have HZ:=hid hz
        have HTBl:=hid hTBl
        have HTB:=hid hTB
        have HTs:=hid hTs
        have HCg:=hid hcg
        clear hall hfin hz hTBl hTB hTs hcg hlow hWQ
        refine hK _ _ ?_
        by_cases hbig:65536 < TBl
        ·have i9:(65536:Int) < (TBl:Int):=by omega
         obtain ⟨a1,_,_,a4,c9z,_⟩:=HAll.out Wz HZ.out
         obtain ⟨c4,f4,g5,c6,f6,_⟩:=a1.step (.slice none 0 0) zProps rfl
         have H5:=hid g5
         have H4:=hid a4
         have HX:=hid (show ¬ FitsB line fs from fun h=>by have h2:=h.2.2;rw [← HTBl.out] at h2;omega)
         clear g5 a4 a1 hK
         unfold zProps at c6 f6
         go_wp2_with (refine wpList_store_block rfl 49 _ _ rfl _ _ _ _ rfl rfl H5.out rfl infoProps zProps1 ?_)
         exact HFin.out Wz HZ.out _ _ _ _ rfl rfl rfl rfl (fun w' hsh=>⟨(setRes_below H4.out (by rw [HB.out];exact Nat.le_refl _) _ _ _).trans (hsh.below _ (Nat.le_refl _)),.inr (.inl ⟨HG.out.1,HG.out.2,HX.out,rfl⟩)⟩)
        ·have i9:¬ (65536:Int) < (TBl:Int):=by omega
         obtain ⟨_,_,_,_,c9z,_⟩:=HAll.out Wz HZ.out
         go_wp2_with fail
         rename_i K2 hK2
         clear c9z
         obtain ⟨Wy,hWy⟩:∃ x,x = Wz.drew:=⟨_,rfl⟩
         have HZd:=hid (show Ftr WQ Wy b9 w4.heap.size W9.heap.size w.heap.size qo qf (FT ++ le4 (crcMore 0 FT).toNat) (tabB line fs) qe qg ce cg from (by rw [hWy];exact HZ.out.world hqw (Below.refl _ _).drew))
         obtain ⟨a1,a2,_,a4,c9d,a6⟩:=HAll.out _ HZd.out
         have HClip:=hid (clip_bytes qg TBl cg Wy HCg.out.1 HCg.out.2)
         obtain ⟨c4,f4,g5,c6,f6,_⟩:=a1.step (.slice qg TBl TBl) PC HPs.out
         have H5:=hid g5
         have H4:=hid a4
         have H6:=hid a6
         have HRw:=hid a2
         have HRs:=hid (show (Wy.setCell ⟨B,0,none⟩ (.slice qg TBl TBl)).heap[b18]? = _ from (heap_setCell_other _ _ _ _ (show b18 ≠ B by omega)).trans a2)
         have HFits:=hid (show FitsB line fs from (fits_iff HG.out.1 HG.out.2 HO.out).2 (by rw [← HTBl.out];omega))
         clear g5 a4 a1 a2 a6 hK
         refine (wpIn_wide (n:=3)).1 (wpIn_calm (wpIn_region_any (by kernel_rfl) ?_))
         try (change wpAnyIn _ _ _ _ _ _ _ _ _ (World.drew _))
         rw [← hWy]
         clear hWy
         apply bridge1
         ·intro hmain
          refine wpAnyIn_ready (rs:=[0,2]) (by kernel_rfl) (by simp) ?_
          refine AllReadyIn.cons rfl (fun K hK => ?_) ?_
          ·skip
           go_simp
           refine hK _ _ ?_
           clear hK K
           refine wpAnyIn_ready (rs:=[1,2]) (by kernel_rfl) (by simp) ?_
           refine AllReadyIn.cons rfl (fun K hK => ?_) ?_
           ·skip
            go_simp
            refine ⟨trivial,(callsIn_wide.2 HClip.out).mono ?_⟩
            rintro e _ ⟨rfl,rfl⟩
            refine hK _ _ ?_
            clear hK K
            refine wpAnyIn_ready (rs:=[2,3]) (by kernel_rfl) (by simp) ?_
            refine AllReadyIn.cons rfl (fun K hK => ?_) ?_
            ·skip
             refine Eq.mpr (if_pos rfl) ?_
             refine opIn_load_row 49 (.tmp 18) rfl b18 rfl PC (run_loadVar_row _ _ 49 _ _ _ _ (by first | exact HRw.out | exact HRs.out) Tryz.underlying49 rfl (by rw [HPs.out];exact infoProps)) ?_
             refine hK _ _ ?_
             clear hK K
             refine wpAnyIn_ready (rs:=[3]) (by kernel_rfl) (by simp) ?_
             refine AllReadyIn.cons rfl (fun K hK => ?_) ?_
             ·skip
              go_simp
              refine hK _ _ ?_
              clear hK K
              refine wpAnyIn_ready (rs:=[4]) (by kernel_rfl) (by simp) ?_
              refine AllReadyIn.cons rfl (fun K hK => ?_) ?_
              ·skip
               refine Eq.mpr (if_pos rfl) ?_
               refine opIn_store_block 49 _ _ rfl _ _ _ _ rfl rfl H5.out (by rw [HPs.out];rfl) (by rw [HPs.out];exact infoProps) HP1.out ?_
               refine hK _ _ ?_
               clear hK K
               refine wpAnyIn_ready (rs:=[5]) (by kernel_rfl) (by simp) ?_
               refine AllReadyIn.cons rfl (fun K hK => ?_) ?_
               ·skip
                go_simp
                refine hK _ _ ?_
                clear hK K
                refine wpAnyIn_done (by kernel_rfl) ?_ _
                exact hmain
               exact AllReadyIn.nil
              exact AllReadyIn.nil
             exact AllReadyIn.nil
            refine AllReadyIn.cons rfl (fun K hK => ?_) ?_
            ·skip
             go_simp
             refine hK _ _ ?_
             clear hK K
             refine wpAnyIn_ready (rs:=[2]) (by kernel_rfl) (by simp) ?_
             refine AllReadyIn.cons rfl (fun K hK => ?_) ?_
             ·skip
              refine Eq.mpr (if_pos rfl) ?_
              refine opIn_load_row 49 (.tmp 18) rfl b18 rfl PC (run_loadVar_row _ _ 49 _ _ _ _ (by first | exact HRw.out | exact HRs.out) Tryz.underlying49 rfl (by rw [HPs.out];exact infoProps)) ?_
              refine hK _ _ ?_
              clear hK K
              refine wpAnyIn_ready (rs:=[4]) (by kernel_rfl) (by simp) ?_
              refine AllReadyIn.cons rfl (fun K hK => ?_) ?_
              ·skip
               refine Eq.mpr (if_pos rfl) ?_
               refine opIn_store_block 49 _ _ rfl _ _ _ _ rfl rfl H5.out (by rw [HPs.out];rfl) (by rw [HPs.out];exact infoProps) HP1.out ?_
               refine hK _ _ ?_
               clear hK K
               refine wpAnyIn_ready (rs:=[5]) (by kernel_rfl) (by simp) ?_
               refine AllReadyIn.cons rfl (fun K hK => ?_) ?_
               ·skip
                go_simp
                refine hK _ _ ?_
                clear hK K
                refine wpAnyIn_done (by kernel_rfl) ?_ _
                exact hmain
               exact AllReadyIn.nil
              exact AllReadyIn.nil
             exact AllReadyIn.nil
            exact AllReadyIn.nil
           refine AllReadyIn.cons rfl (fun K hK => ?_) ?_
           ·skip
            refine Eq.mpr (if_pos rfl) ?_
            refine opIn_load_row 49 (.tmp 18) rfl b18 rfl PC (run_loadVar_row _ _ 49 _ _ _ _ (by first | exact HRw.out | exact HRs.out) Tryz.underlying49 rfl (by rw [HPs.out];exact infoProps)) ?_
            refine hK _ _ ?_
            clear hK K
            refine wpAnyIn_ready (rs:=[1]) (by kernel_rfl) (by simp) ?_
            refine AllReadyIn.cons rfl (fun K hK => ?_) ?_
            ·skip
             go_simp
             refine ⟨trivial,(callsIn_wide.2 HClip.out).mono ?_⟩
             rintro e _ ⟨rfl,rfl⟩
             refine hK _ _ ?_
             clear hK K
             refine wpAnyIn_ready (rs:=[3]) (by kernel_rfl) (by simp) ?_
             refine AllReadyIn.cons rfl (fun K hK => ?_) ?_
             ·skip
              go_simp
              refine hK _ _ ?_
              clear hK K
              refine wpAnyIn_ready (rs:=[4]) (by kernel_rfl) (by simp) ?_
              refine AllReadyIn.cons rfl (fun K hK => ?_) ?_
              ·skip
               refine Eq.mpr (if_pos rfl) ?_
               refine opIn_store_block 49 _ _ rfl _ _ _ _ rfl rfl H5.out (by rw [HPs.out];rfl) (by rw [HPs.out];exact infoProps) HP1.out ?_
               refine hK _ _ ?_
               clear hK K
               refine wpAnyIn_ready (rs:=[5]) (by kernel_rfl) (by simp) ?_
               refine AllReadyIn.cons rfl (fun K hK => ?_) ?_
               ·skip
                go_simp
                refine hK _ _ ?_
                clear hK K
                refine wpAnyIn_done (by kernel_rfl) ?_ _
                exact hmain
               exact AllReadyIn.nil
              exact AllReadyIn.nil
             exact AllReadyIn.nil
            exact AllReadyIn.nil
           exact AllReadyIn.nil
          refine AllReadyIn.cons rfl (fun K hK => ?_) ?_
          ·skip
           refine Eq.mpr (if_pos rfl) ?_
           refine opIn_load_row 49 (.tmp 18) rfl b18 rfl PC (run_loadVar_row _ _ 49 _ _ _ _ (by first | exact HRw.out | exact HRs.out) Tryz.underlying49 rfl (by rw [HPs.out];exact infoProps)) ?_
           refine hK _ _ ?_
           clear hK K
           refine wpAnyIn_ready (rs:=[0]) (by kernel_rfl) (by simp) ?_
           refine AllReadyIn.cons rfl (fun K hK => ?_) ?_
           ·skip
            go_simp
            refine hK _ _ ?_
            clear hK K
            refine wpAnyIn_ready (rs:=[1]) (by kernel_rfl) (by simp) ?_
            refine AllReadyIn.cons rfl (fun K hK => ?_) ?_
            ·skip
             go_simp
             refine ⟨trivial,(callsIn_wide.2 HClip.out).mono ?_⟩
             rintro e _ ⟨rfl,rfl⟩
             refine hK _ _ ?_
             clear hK K
             refine wpAnyIn_ready (rs:=[3]) (by kernel_rfl) (by simp) ?_
             refine AllReadyIn.cons rfl (fun K hK => ?_) ?_
             ·skip
              go_simp
              refine hK _ _ ?_
              clear hK K
              refine wpAnyIn_ready (rs:=[4]) (by kernel_rfl) (by simp) ?_
              refine AllReadyIn.cons rfl (fun K hK => ?_) ?_
              ·skip
               refine Eq.mpr (if_pos rfl) ?_
               refine opIn_store_block 49 _ _ rfl _ _ _ _ rfl rfl H5.out (by rw [HPs.out];rfl) (by rw [HPs.out];exact infoProps) HP1.out ?_
               refine hK _ _ ?_
               clear hK K
               refine wpAnyIn_ready (rs:=[5]) (by kernel_rfl) (by simp) ?_
               refine AllReadyIn.cons rfl (fun K hK => ?_) ?_
               ·skip
                go_simp
                refine hK _ _ ?_
                clear hK K
                refine wpAnyIn_done (by kernel_rfl) ?_ _
                exact hmain
               exact AllReadyIn.nil
              exact AllReadyIn.nil
             exact AllReadyIn.nil
            exact AllReadyIn.nil
           exact AllReadyIn.nil
          exact AllReadyIn.nil
         ·refine hK2 _ _ ?_
          go_wp2_with fail
          refine HFin.out _ HZd.out _ _ _ _ HPs.out rfl rfl rfl (fun w' hsh => ?_)
          refine ⟨(setRes_below H4.out (by rw [HB.out];exact Nat.le_refl _) _ _ _).trans (hsh.below _ (Nat.le_refl _)),.inr (.inr ⟨HG.out.1,HG.out.2,HFits.out,qg,by rw [← HTBl.out,HPC.out], ?_⟩)⟩
          rw [← HTBl.out]
          have hnB:∀ g,(Value.slice qg TBl cg).ownBlock = some g → (setRes Wy B (.slice qg TBl TBl) PC 0).heap[g]? = Wy.heap[g]?:=fun g hg=>by
           have:=(own_lt2 H6.out g hg).1
           unfold setRes
           exact (heap_setCell_other _ _ _ _ (show g ≠ B + 2 by omega)).trans ((setRow_other _ _ _ _ (by omega)).trans (heap_setCell_other _ _ _ _ (show g ≠ B by omega)))
          obtain ⟨o1,o2⟩:=own_keep2 H6.out hnB
          refine Fr.clip (c:=cg) ⟨o1, ?_⟩
          rcases o2 with o2 | ⟨g,cap,cur,hv,hg,hh,hn,hc,hs,ht⟩
          ·exact .inl o2
          ·exact .inr ⟨g,cap,cur,hv,by omega,hsh.cells _ _ _ _ hh,hn,hc,by omega,ht⟩
end Go.Proofs.Herb
