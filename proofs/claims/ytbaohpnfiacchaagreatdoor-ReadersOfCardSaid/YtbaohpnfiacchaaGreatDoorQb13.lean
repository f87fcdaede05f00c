/- A region that defers nothing is walked in a round as outside of one. Plain: props that can be told, names that are short. The footer's loop of tables.Build: two own rows that grow, one of them in a box. -/
import Derived.RegionIn
import Derived.Test.YtbaohpnfiacchaaGreatDoorQb03
import Derived.Test.YtbaohpnfiacchaaGreatDoorQb04
import Derived.Test.YtbaohpnfiacchaaGreatDoorQb05
import Derived.Test.YtbaohpnfiacchaaGreatDoorQb06
import Derived.Test.YtbaohpnfiacchaaGreatDoorQb08
namespace Go
section
variable {F:Fence} {n:Nat} {P:Program} {ops:Array Oper} {Q:Exit → Act → World → Prop} {md:Region.Mode}
def Region.noDefer (ops:Array Oper):Bool:=ops.all fun o=>match o.op with | .defer _=>false | _=>true
theorem uponIn_inRound (l:Nat) (o:Oper) (a:Act) (next:Act → World → Prop) (r:Result Next) (h:o.uponIn F n P a next Q r):o.uponIn (F.inRound l) n P a next Q r:=by
 cases r with
 | ok x w=>cases x <;> exact h
 | halt x w=>cases x <;> exact h
theorem wpOpIn_inRound (l:Nat) (hF:F.round = none) (hnd:Region.noDefer ops = true) {i:Nat} {K:Act → World → Prop} {a:Act} {w:World} (h:wpOpIn F n P ops Q i K a w):wpOpIn (F.inRound l) n P ops Q i K a w:=by
 unfold wpOpIn at *
 cases ho:ops[i]? with
 | none=>simp only [ho] at h ⊢;exact h
 | some o =>
  simp only [ho] at h ⊢
  by_cases hw:Region.wanted o (yielded ops a.tmps) = true
  ·rw [if_pos hw] at h ⊢
   refine ⟨h.1, ?_⟩
   have h2:=h.2
   rw [hF,Oper.semAt_none] at h2
   rw [Oper.semAt_eq _ _ _ (fun c hc=>by
    have:=Array.all_eq_true'.1 hnd o (Array.mem_of_getElem? ho)
    simp [hc] at this)]
   exact uponIn_inRound l _ _ _ _ h2
  ·rw [if_neg hw] at h ⊢
   exact h
theorem wpAnyIn_inRound (l:Nat) (hF:F.round = none) (hnd:Region.noDefer ops = true):∀ (fuel:Nat) (listed:Array Bool) (a:Act) (w:World),wpAnyIn F n P md ops Q fuel listed a w → wpAnyIn (F.inRound l) n P md ops Q fuel listed a w
 | 0,_,_,_,h=>h
 | fuel + 1,_,_,_,h=>⟨h.1,fun i hi=>wpOpIn_inRound l hF hnd (wpOpIn_mono (fun a' w'=>wpAnyIn_inRound l hF hnd fuel _ a' w') (h.2 i hi))⟩
theorem wpIn_region_round {id l:Nat} {a:Act} {w:World} (hF:F.round = none) (hm:P.follows .mixedOrders = true) (hnd:Region.noDefer ops = true)
  (h:wpAnyIn F n P .any ops Q ops.size (Array.replicate ops.size false) a { w with drawn:=w.drawn + 1 }):(Code.region id ops true).wpIn (F.inRound l) n P Q a w :=
 wpIn_region_any hm (wpAnyIn_inRound l hF hnd _ _ _ _ h)
end
def calmQ (Q:Exit → Act → World → Prop):Exit → Act → World → Prop:=fun e a w=>match e with
 | .panic _=>False
 | e=>Q e a w
theorem wpIn_calm {F:Fence} {n:Nat} {P:Program} {c:Code} {Q:Exit → Act → World → Prop} {a:Act} {w:World} (h:c.wpIn F n P (calmQ Q) a w):c.wpIn F n P Q a w :=
 Code.wpIn_mono (fun e a w h=>by cases e <;> first | exact h | exact h.elim) h
end Go
namespace Go.Proofs.Herb
theorem compact_mem {l:List (List UInt8)}:∀ x ∈ Lib.compact l,x ∈ l:=by
 intro x hx
 unfold Lib.compact Lib.compactUpTo at hx
 obtain ⟨i,hi,rfl⟩:=List.mem_map.1 hx
 have h1:=List.mem_range.1 (List.mem_filter.1 hi).1
 rw [getElem!_pos l.toArray i (by simpa using h1)]
 simp
theorem good_key {line:Nat} {fs:List Fact} (hg:GoodF line fs):∀ f ∈ fs,f.key.size ≤ 32:=by
 intro f hf
 obtain ⟨i,hi,rfl⟩:=List.mem_iff_getElem.1 hf
 obtain ⟨_,h1,_⟩:=hg i hi
 unfold mayF at h1
 exact (of_decide_eq_true h1).2.1
theorem names_short {line:Nat} {fs:List Fact} (hg:GoodF line fs):∀ k ∈ namesF fs,k.length ≤ 1000000:=by
 intro k hk
 obtain ⟨f,hf,rfl⟩:=List.mem_map.1 (compact_mem k hk)
 have h:=good_key hg f hf
 have:f.key.data.toList.length = f.key.size:=by rw [Array.length_toList];rfl
 omega
theorem fold_min_le {g:Fact → Nat}:∀ (l:List Fact) (a:Nat),l.foldl (fun a f=>min a (g f)) a ≤ a
 | [],_=>Nat.le_refl _
 | f :: r,a=>by rw [List.foldl_cons];exact Nat.le_trans (fold_min_le r _) (Nat.min_le_left _ _)
theorem fold_max_lt {g:Fact → Nat} {b:Nat}:∀ (l:List Fact) (a:Nat),a < b → (∀ f ∈ l,g f < b) → l.foldl (fun a f=>max a (g f)) a < b
 | [],_,h,_=>h
 | f :: r,a,h,hl=>by
  rw [List.foldl_cons]
  exact fold_max_lt r _ (Nat.max_lt.2 ⟨h,hl f (by simp)⟩) (fun x hx=>hl x (by simp [hx]))
theorem props_ok {line:Nat} {fs:List Fact} (hg:GoodF line fs) (h0:0 < fs.length) (hm:fs.length ≤ 24000) (ho:∀ f ∈ fs,f.Ok):(propsF line fs).Ok:=by
 have hl:line < 18446744073709551616:=by
  obtain ⟨_,_,h,_⟩:=hg 0 h0
  have:=(ho _ (List.getElem_mem h0)).line
  omega
 have hk:=good_key hg
 cases fs with
 | nil=>simp at h0
 | cons f0 r =>
  have o0:=ho f0 (by simp)
  unfold propsF propsT
  refine ⟨hl,by dsimp only;omega, ?_, ?_, ?_, ?_, ?_, ?_⟩
  ·exact Nat.le_trans (hk f0 (by simp)) (by decide)
  ·exact Nat.le_trans (hk _ (List.getLast_mem (by simp))) (by decide)
  ·exact Nat.lt_of_le_of_lt (fold_min_le (g:=fun f=>f.seq) _ _) o0.seq
  ·exact fold_max_lt (g:=fun f=>f.seq) _ _ (by decide) (fun f hf=>(ho f hf).seq)
  ·exact Nat.lt_of_le_of_lt (fold_min_le (g:=fun f=>f.valid) _ _) o0.valid
  ·exact fold_max_lt (g:=fun f=>f.valid) _ _ (by decide) (fun f hf=>(ho f hf).valid)
theorem names_len (fs:List Fact):(namesF fs).length ≤ fs.length:=by
 unfold namesF Lib.compact Lib.compactUpTo
 rw [List.length_map]
 refine Nat.le_trans (List.length_filter_le _ _) ?_
 rw [List.length_range,List.length_map]
 exact Nat.le_refl _
theorem pp_len {p:Props} (o:p.Ok):(ppB p).length ≤ 300000:=by
 have h1:=(vput_len p.line).2
 have h2:=(vput_len p.many).2
 have h3:=(vput_len p.least).2
 have h4:=(vput_len p.greatest).2
 have h5:=(vput_len p.early).2
 have h6:=(vput_len p.late).2
 have h7:=tput_len2 p.low.data.toList
 have h8:=tput_len2 p.high.data.toList
 have h9:=(vput_len p.low.data.toList.length).2
 have h10:=(vput_len p.high.data.toList.length).2
 have h11:=size_toList2 p.low
 have h12:=size_toList2 p.high
 have h13:=o.low
 have h14:=o.high
 unfold ppB
 simp only [List.length_append]
 omega
end Go.Proofs.Herb
namespace Go.Proofs.Herb
open Go.RowKit
structure Ftr (WQ wr:World) (b9 bo bf b0:Nat) (qo qf:Option Addr) (FB OB:List UInt8) (qf' qo':Option Addr) (cf' co':Nat):Prop where
 foot:wr.ownsRow bf 5 1 (.slice qf' FB.length cf') FB.length (FB.map bv)
 box:Boxed wr b9 22 (.slice qo' OB.length co')
 out:wr.ownsRow bo 5 1 (.slice qo' OB.length co') OB.length (OB.map bv)
 apart:Apart2 qf' qo'
 far:∀ g,g < WQ.heap.size → g ≠ b9 → (∀ a,qo = some a → g ≠ a.block) → (∀ a,qf = some a → g ≠ a.block) → wr.heap[g]? = WQ.heap[g]?
 placeF:qf' = qf ∨ ∀ a,qf' = some a → WQ.heap.size ≤ a.block
 placeO:qo' = qo ∨ ∀ a,qo' = some a → WQ.heap.size ≤ a.block
 keeps:KeepsFrom b0 WQ wr
 below:Below b0 WQ wr
theorem own_keep2 {w w':World} {base:Nat} {e:TypeId} {k:Nat} {v:Value} {n:Nat} {xs:List Value} (h:w.ownsRow base e k v n xs) (hb:∀ g,v.ownBlock = some g → w'.heap[g]? = w.heap[g]?):w'.ownsRow base e k v n xs:=by
 obtain ⟨h1,h2⟩:=h
 refine ⟨h1, ?_⟩
 rcases h2 with h2 | ⟨g,cap,cur,rfl,hg,hh,r⟩
 ·exact .inl h2
 ·exact .inr ⟨g,cap,cur,rfl,hg,(hb g rfl).trans hh,r⟩
theorem own_lt2 {W:World} {base:Nat} {e:TypeId} {k n:Nat} {v:Value} {xs:List Value} (h:W.ownsRow base e k v n xs):∀ g,v.ownBlock = some g → base ≤ g ∧ g < W.heap.size:=by
 obtain ⟨_,h2⟩:=h
 rcases h2 with ⟨rfl,_⟩ | ⟨g',cap,cur,rfl,hg,hh,_⟩
 ·intro g hg;cases hg
 ·intro g hg;cases hg;exact ⟨by assumption,lt_of_block hh⟩
theorem own_some {W:World} {base k n c:Nat} {e:TypeId} {q:Option Addr} {xs:List Value} (h:W.ownsRow base e k (.slice q n c) n xs):∀ a,q = some a → (Value.slice q n c).ownBlock = some a.block ∧ ∃ cs,W.heap[a.block]? = some (.cells cs e (0,0)):=by
 intro a ha
 obtain ⟨_,h2⟩:=h
 rcases h2 with ⟨e,_⟩ | ⟨g',cap,cur,e,_,hh,_⟩
 ·rw [Value.slice.injEq] at e;rw [ha] at e;cases e.1
 ·rw [Value.slice.injEq] at e
  obtain ⟨e1,_,e3⟩:=e
  rw [ha] at e1
  cases e1
  subst ha
  exact ⟨rfl,_,hh⟩
theorem Ftr.foot_step {WQ wr wa:World} {b9 bo bf b0:Nat} {qo qf:Option Addr} {FB OB x:List UInt8} {qf' qo' qf2:Option Addr} {cf' co' m c2:Nat} (h:Ftr WQ wr b9 bo bf b0 qo qf FB OB qf' qo' cf' co') (hb:b0 ≤ bf) (hm:m = (FB ++ x).length) (g:Grew2 bf wr wa qf' qf2 m c2 (FB ++ x)) :
  Ftr WQ wa b9 bo bf b0 qo qf (FB ++ x) OB qf2 qo' c2 co':=by
 subst hm
 have ne9:∀ a,qf' = some a → b9 ≠ a.block:=fun a ha e=>own_apart h.foot ⟨_,_,h.box⟩ (by decide) a.block (own_some h.foot a ha).1 e.symm
 have hrec:∀ (k:Nat) (o:Obj),wr.heap[k]? = some o → o.isCells = false → wa.heap[k]? = some o:=fun k o hk hc =>
  (g.other k (lt_of_block hk) (fun a ha e=>by
   obtain ⟨_,cs,hcs⟩:=own_some h.foot a ha
   rw [← e,hk] at hcs
   cases hcs
   cases hc)).trans hk
 refine ⟨g.own,(g.other b9 h.box.lt ne9).trans h.box,own_grew g h.apart h.out,h.apart.grew g h.out,fun k h1 h2 h3 h4 => ?_, ?_,h.placeO,h.keeps.trans ⟨g.below.size,fun k o _ hk hc=>hrec k o hk hc⟩,h.below.trans (g.below.mono hb)⟩
 ·refine (g.other k (Nat.lt_of_lt_of_le h1 h.below.size) (fun a ha e => ?_)).trans (h.far k h1 h2 h3 h4)
  rcases h.placeF with hp | hp
  ·exact h4 a (by rw [← hp];exact ha) e
  ·have:=hp a ha;omega
 ·rcases g.place with hp | ⟨g',hp,hg⟩
  ·rw [hp];exact h.placeF
  ·exact .inr (fun a ha=>by rw [hp] at ha;cases ha;exact Nat.le_trans h.below.size hg)
theorem Ftr.out_step {WQ wr wc:World} {b9 bo bf b0:Nat} {qo qf:Option Addr} {FB OB x:List UInt8} {qf' qo' qo2:Option Addr} {cf' co' m c2:Nat} (h:Ftr WQ wr b9 bo bf b0 qo qf FB OB qf' qo' cf' co') (hbo:b0 ≤ bo) (hb9:b0 ≤ b9) (hb0:b0 ≤ wr.heap.size) (hm:x.length = m)
  (h1:wc.ownsRow bo 5 1 (.slice qo2 (OB.length + m) c2) (OB.length + m) (OB.map bv ++ x.map bv)) (h2:wr.grownBy wc (Value.ownBlock (.slice qo' OB.length co'))) (h3:qo2 = qo' ∨ ∃ g,qo2 = some ⟨g,0,none⟩ ∧ wr.heap.size ≤ g) :
  wc.cell? ⟨b9,0,none⟩ = some (.slice qo' OB.length co') ∧ wc.frozen? ⟨b9,0,none⟩ = false ∧ Ftr WQ (wc.setCell ⟨b9,0,none⟩ (.slice qo2 (OB ++ x).length c2)) b9 bo bf b0 qo qf FB (OB ++ x) qf' qo2 cf' c2:=by
 have hl:OB.length + m = (OB ++ x).length:=by rw [List.length_append,hm]
 rw [hl,← List.map_append] at h1
 obtain ⟨k1,k2⟩:=box_step (b0:=b0) h.box h.out (Below.refl _ _) h1 h2 (by decide) hb9 hbo hb0
 have hfar:∀ g,g < wr.heap.size → g ≠ b9 → (∀ a,qo' = some a → g ≠ a.block) → (wc.setCell ⟨b9,0,none⟩ (.slice qo2 (OB ++ x).length c2)).heap[g]? = wr.heap[g]?:=fun g hg n1 n2 =>
  k2.far g hg n1 (fun e=>by
   obtain ⟨_,hh⟩:=h.out
   rcases hh with ⟨e2,_⟩ | ⟨g',cap,cur,e2,_,_,_⟩
   ·rw [e2] at e;cases e
   ·rw [e2] at e
    cases e
    rw [Value.slice.injEq] at e2
    exact n2 _ e2.1 rfl)
 refine ⟨k1.cell,k1.frozen,own_keep2 h.foot fun g hg => ?_,k2.box,k2.own, ?_,fun g g1 g2 g3 g4 => ?_,h.placeF, ?_,h.keeps.trans (k2.keeps _),h.below.trans k2.below⟩
 ·have hlt:=(own_lt2 h.foot g hg).2
  refine hfar g hlt (fun e=>own_apart h.foot ⟨_,_,h.box⟩ (by decide) g hg e) (fun a ha e => ?_)
  obtain ⟨b,hb,hbe⟩:∃ b,qf' = some b ∧ b.block = g:=by
   obtain ⟨_,hh⟩:=h.foot
   rcases hh with ⟨e2,_⟩ | ⟨g',cap,cur,e2,_,_,_⟩
   ·rw [e2] at hg;cases hg
   ·rw [e2] at hg
    cases hg
    rw [Value.slice.injEq] at e2
    exact ⟨_,e2.1,rfl⟩
  exact h.apart b a hb ha (by rw [hbe];exact e)
 ·intro b d hb hd e
  rcases h3 with h3 | ⟨g',h3,hg⟩
  ·exact h.apart b d hb (by rw [← h3];exact hd) e
  ·rw [h3] at hd
   cases hd
   have hlt:=(own_lt2 h.foot b.block (own_some h.foot b hb).1).2
   simp only at e
   omega
 ·refine (hfar g (Nat.lt_of_lt_of_le g1 h.below.size) g2 (fun a ha e => ?_)).trans (h.far g g1 g2 g3 g4)
  rcases h.placeO with hp | hp
  ·exact g3 a (by rw [← hp];exact ha) e
  ·have:=hp a ha;omega
 ·rcases h3 with h3 | ⟨g',h3,hg⟩
  ·rw [h3];exact h.placeO
  ·exact .inr (fun a ha=>by rw [h3] at ha;cases ha;exact Nat.le_trans h.below.size hg)
theorem Ftr.world {WQ wr wa:World} {b9 bo bf b0:Nat} {qo qf:Option Addr} {FB OB:List UInt8} {qf' qo':Option Addr} {cf' co':Nat} (h:Ftr WQ wr b9 bo bf b0 qo qf FB OB qf' qo' cf' co') (hb0:b0 ≤ WQ.heap.size) (hb:Below wr.heap.size wr wa) :
  Ftr WQ wa b9 bo bf b0 qo qf FB OB qf' qo' cf' co' :=
 ⟨own_below h.foot hb,(hb.block _ h.box.lt).trans h.box,own_below h.out hb,h.apart,fun g h1 h2 h3 h4=>(hb.block g (Nat.lt_of_lt_of_le h1 h.below.size)).trans (h.far g h1 h2 h3 h4),h.placeF,h.placeO,
  h.keeps.trans ⟨hb.size,fun k _ _ hk _=>(hb.block k (lt_of_block hk)).trans hk⟩,h.below.trans (hb.mono (Nat.le_trans hb0 h.below.size))⟩
theorem rd_far {A B:World} {q:Option Addr} {xs:List Value} (h:Rd A q xs) (hk:∀ a,q = some a → B.heap[a.block]? = A.heap[a.block]?):Rd B q xs:=by
 rcases h with rfl | ⟨b,off,rfl,hc⟩
 ·exact .inl rfl
 ·refine .inr ⟨b,off,rfl,fun j v hv => ?_⟩
  have h1:=hc j v hv
  have h2:=hk _ rfl
  simp only at h2
  simp only [World.cell?] at h1 ⊢
  rw [h2]
  exact h1
theorem fr_in {W:World} {base k n c:Nat} {e:TypeId} {q:Option Addr} {xs:List Value} (h:Fr W base e k (.slice q n c) n xs):∀ a,q = some a → base ≤ a.block ∧ a.block < W.heap.size:=by
 intro a ha
 obtain ⟨_,h2⟩:=h
 rcases h2 with ⟨e,_⟩ | ⟨g',cap,cur,e,hg,hh,_⟩
 ·rw [Value.slice.injEq] at e;rw [ha] at e;cases e.1
 ·rw [Value.slice.injEq] at e
  obtain ⟨e1,_,_⟩:=e
  rw [ha] at e1
  cases e1
  exact ⟨hg,lt_of_block hh⟩
end Go.Proofs.Herb
