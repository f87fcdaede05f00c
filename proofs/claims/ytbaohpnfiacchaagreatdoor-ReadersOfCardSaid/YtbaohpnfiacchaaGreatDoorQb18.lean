/- A range over a function whose iterator lays blocks of its own as it begins: where these lie is known. No program. The contract of the iterator of blocks.from. For bytes that can be read. -/
import Derived.Test.YtbaohpnfiacchaaGreatDoorQb04
import Derived.Test.YtbaohpnfiacchaaGreatDoorQb12
import Derived.Test.YtbaohpnfiacchaaGreatDoorQb17
namespace Go.Proofs.Herb
open Go.RowKit
variable {F:Fence} {n:Nat} {P:Program}
theorem wpIn_range_stop3 {α:Type} {g:Operand} {ps:Array Tmp} {assign body:Code} {Q:Exit → Act → World → Prop} {a:Act} {w:World}
  (hro:F.round = none) (h1:1 ≤ n) {gf:Nat} {lb:Array Value} (hg:a.eval g = .func (.func gf) #[] lb) (hFg:F.fn gf) (eg:∀ args w,(callFunc gf args).run P w = .ok (.enter gf args) w)
  {encs : α → Array Value} (hps:∀ x,(encs x).size = ps.size) {Rw:World → World → Prop} {Gd:List α → α → World → Prop} {Kp:World → World → Prop} {S:List α → Prop} {base:Nat} {Ok:World → Prop}
  (hseq:SeqGood F (n - 1) P gf lb encs Rw Gd Kp S base Ok) (hbase:base ≤ w.heap.size) (hOk:∀ W,Below w.heap.size w W → W.heap.size = w.heap.size + 2 → Ok W)
  (hKt:∀ A B C,Kp A B → Kp B C → Kp A C) (hKb:∀ (W:World) (l:Nat) (o o':Obj),w.heap.size ≤ l → l < w.heap.size + 2 → W.heap[l]? = some o → o.isCells = false → Kp W (W.putObj l o'))
  (hRk:∀ A B,Rw A B → KeepsFrom w.heap.size A B)
  (I:List α → World → Prop) (Ix:Code → List α → World → Prop) (hIb:∀ s,Stays (I s)) (hIr:∀ s A B,I s A → Rw A B → I s B) (hXr:∀ c s A B,Ix c s A → Rw A B → Ix c s B) (hIp:∀ s,Turns w.heap.size (I s)) (hXp:∀ c s,Turns w.heap.size (Ix c s)) (hGp:∀ s x,Turns w.heap.size (Gd s x)) (hGb:∀ s x,Stays (Gd s x)) (hKl:∀ A B,Below A.heap.size A B → Kp A B) (h0:I [] w) (A1 : α → Act → World → Prop) (hAp:∀ x a,Turns w.heap.size (A1 x a))
  (hassign:∀ (l:Nat) (x : α) (W:World) (K:Act → World → Prop),w.heap.size ≤ W.heap.size → (∀ a' W',A1 x a' W' → Below W.heap.size W W' → K a' W') →
   assign.wpIn (F.inRound l) (n - 1 - 1) P (Exit.then K (fun _ _ _=>False)) { tmps:=(ps.zip (encs x)).foldl (fun t (p,v)=>t.setIfInBounds p v) a.tmps,defers:=[] } W)
  (hbody:∀ (l:Nat) (pre:List α) (x : α) (a':Act) (W:World),w.heap.size ≤ l → I pre W → Gd pre x W → A1 x a' W → body.wpIn (F.inRound l) (n - 1 - 1) P (Goes w.heap.size Kp I Ix (pre ++ [x]) W) a' W)
  (hdone:∀ (D:Nat) (xs:List α) (W:World),w.heap.size ≤ D → S xs → I xs W → W.heap[D]? = some (.deferred (some [])) → Q .normal { a with defers := { target:=.collected D,args := #[] } :: a.defers } W)
  (hstop:∀ (D:Nat) (c:Code) (pre:List α) (W:World),w.heap.size ≤ D → Ix c pre W → W.heap[D]? = some (.deferred (some [])) → c.wpIn F n P Q { a with defers := { target:=.collected D,args := #[] } :: a.defers } W) :
  (Code.rangeFunc g ps assign body).wpIn F n P Q a w:=by
 refine wpIn_rangeFunc fun fn hfn => ?_
 rw [hro]
 obtain ⟨rec,hrec⟩:∃ rec:LoopState → Option Code → Loop,rec = fun st pe => { state:=st,pending:=pe,fn,tmps:=a.tmps,params:=ps,assign,body,defers:=w.heap.size }:=⟨_,rfl⟩
 obtain ⟨V,hV⟩:∃ V,(w.alloc (.deferred (some []))).alloc (.loop (rec .ready none)) = V:=⟨_,rfl⟩
 have hVb:Below w.heap.size w V:=by rw [← hV];exact ((Below.refl _ w).alloc (Nat.le_refl _) _).alloc (by simp) _
 have hVD:V.heap[w.heap.size]? = some (.deferred (some [])):=by rw [← hV];exact (Below.heap_alloc _ _ _ (by simp)).trans (World.alloc_heap_new w _)
 have hVL:V.heap[w.heap.size + 1]? = some (.loop (rec .ready none)):=by
  rw [← hV];have h:=World.alloc_heap_new (w.alloc (.deferred (some []))) (.loop (rec .ready none))
  rwa [World.size_alloc] at h
 have lt_of:∀ {W:World} {k:Nat} {o:Obj},W.heap[k]? = some o → k < W.heap.size:=fun h=>(Array.getElem?_eq_some_iff.1 h).1
 have hVs:w.heap.size ≤ V.heap.size:=hVb.size
 refine ⟨w.heap.size + 1,[{ target:=.collected w.heap.size,args := #[] }],V, { target:=.fn (.func gf) lb,args := #[.func (.yield (w.heap.size + 1)) #[] #[]] },V,gf,
  #[.func (.yield (w.heap.size + 1)) #[] #[]] ++ lb,V, ?_, ?_, ?_, ?_,fun _=>h1, ?_⟩
 ·rw [← hV,hrec];exact run_enterLoop_outer _ _ _ _ _
 ·simp only [resolve,hg];simp [go_sem]
 ·intro f' hf';simp [Target.leads] at hf';subst hf';exact hFg
 ·simp [invoke,go_sem,eg]
 ·refine (hseq (w.heap.size + 1)
   (fun s W=>I s W ∧ W.heap[w.heap.size + 1]? = some (.loop (rec .ready none)) ∧ W.heap[w.heap.size]? = some (.deferred (some [])))
   (fun s W=>∃ c,Ix c s W ∧ W.heap[w.heap.size + 1]? = some (.loop (rec .done (some c))) ∧ W.heap[w.heap.size]? = some (.deferred (some [])))
   V (by omega) (hOk V hVb (by rw [← hV];simp)) ?_ ?_ ?_ ⟨hIb _ _ _ h0 hVb,hVL,hVD⟩).mono ?_
  ·intro s A B h hr
   have k:=hRk A B hr
   exact ⟨hIr s A B h.1 hr,k.same _ _ (by omega) h.2.1 rfl,k.same _ _ (Nat.le_refl _) h.2.2 rfl⟩
  ·rintro s A B ⟨c,hc,hl,hd⟩ hr
   have k:=hRk A B hr
   exact ⟨c,hXr c s A B hc hr,k.same _ _ (by omega) hl rfl,k.same _ _ (Nat.le_refl _) hd rfl⟩
  ·intro pre x W0 hJW0 hgd0
   have hy:=run_yield (P:=P) (args:=encs x) hJW0.2.1 (by rw [hrec];exact hps x)
   rw [hrec] at hy
   refine ⟨fn,_,assign,body,hy,roundIn_of_wpIn hfn (hassign _ x W0 _ (by have:=lt_of hJW0.2.1;omega) ?_)⟩
   clear hy
   intro a' W hA hbW
   have hJW:I pre W ∧ W.heap[w.heap.size + 1]? = some (.loop (rec .ready none)) ∧ W.heap[w.heap.size]? = some (.deferred (some [])) :=
    ⟨hIb _ _ _ hJW0.1 hbW,(hbW.block _ (lt_of hJW0.2.1)).trans hJW0.2.1,(hbW.block _ (lt_of hJW0.2.2)).trans hJW0.2.2⟩
   have hgd:=hGb _ _ _ _ hgd0 hbW
   have hK0:=hKl _ _ hbW
   refine ⟨_,run_beginRound hJW.2.1 (by rw [hrec]), ?_⟩
   obtain ⟨W2,hW2⟩:∃ W2,W.putObj (w.heap.size + 1) (.loop { rec .ready none with state:=.busy }) = W2:=⟨_,rfl⟩
   have hL2:W2.heap[w.heap.size + 1]? = some (.loop { rec .ready none with state:=.busy }):=by rw [← hW2];exact World.putObj_heap_same (lt_of hJW.2.1)
   have hD2:W2.heap[w.heap.size]? = some (.deferred (some [])):=by rw [← hW2];exact (World.putObj_heap_other (by omega)).trans hJW.2.2
   have hI2:I pre W2:=by rw [← hW2];exact hIp _ _ _ _ _ hJW.1 (by omega) hJW.2.1 rfl
   have hG2:Gd pre x W2:=by rw [← hW2];exact hGp _ _ _ _ _ _ hgd (by omega) hJW.2.1 rfl
   have hA2:A1 x a' W2:=by rw [← hW2];exact hAp _ _ _ _ _ _ hA (by omega) hJW.2.1 rfl
   have hK2:Kp W W2:=by rw [← hW2];exact hKb _ _ _ _ (by omega) (by omega) hJW.2.1 rfl
   rw [hW2]
   have fin:∀ (jump:Option Code) (W3:World),KeepsFrom w.heap.size W2 W3 →
     (Instr.endRound (w.heap.size + 1) jump).run P W3 = .ok (.bool jump.isNone) (W3.putObj (w.heap.size + 1) (.loop (rec (if jump.isNone then .ready else .done) jump))) ∧
     W3.heap[w.heap.size + 1]? = some (.loop { rec .ready none with state:=.busy }) ∧
     (W3.putObj (w.heap.size + 1) (.loop (rec (if jump.isNone then .ready else .done) jump))).heap[w.heap.size + 1]? = some (.loop (rec (if jump.isNone then .ready else .done) jump)) ∧
     (W3.putObj (w.heap.size + 1) (.loop (rec (if jump.isNone then .ready else .done) jump))).heap[w.heap.size]? = some (.deferred (some [])):=fun jump W3 hk3=>by
    have hl3:=hk3.same _ _ (by omega) hL2 rfl
    have:=run_endRound (P:=P) jump hl3
    rw [hrec] at this ⊢
    exact ⟨this,by rw [hrec] at hl3;exact hl3,World.putObj_heap_same (lt_of hl3),(World.putObj_heap_other (by omega)).trans (hk3.same _ _ (Nat.le_refl _) hD2 rfl)⟩
   refine wpIn_mono (hbody _ pre x a' W2 (by omega) hI2 hG2 hA2) fun e a3 W3 hp => ?_
   cases e with
   | normal =>
    obtain ⟨hk,hkp,hi⟩:=hp
    obtain ⟨hr,hl3,hl4,hk4⟩:=fin none W3 hk
    exact ⟨_,_,hr,.inl ⟨rfl,⟨hIp _ _ _ _ _ hi (by omega) hl3 rfl,hl4,hk4⟩,hKt _ _ _ (hKt _ _ _ hK0 (hKt _ _ _ hK2 hkp)) (hKb _ _ _ _ (by omega) (by omega) hl3 rfl)⟩⟩
   | ret =>
    obtain ⟨hk,hi⟩:=hp
    obtain ⟨hr,hl3,hl4,hk4⟩:=fin (some .ret) W3 hk
    exact ⟨_,_,hr,.inr ⟨rfl,.ret,hXp _ _ _ _ _ _ hi (by omega) hl3 rfl,hl4,hk4⟩⟩
   | exit id =>
    obtain ⟨hk,hi⟩:=hp
    obtain ⟨hr,hl3,hl4,hk4⟩:=fin (some (.exit id)) W3 hk
    exact ⟨_,_,hr,.inr ⟨rfl,.exit id,hXp _ _ _ _ _ _ hi (by omega) hl3 rfl,hl4,hk4⟩⟩
   | _=>exact hp.elim
  ·rintro e W ⟨⟨v,rfl⟩,(⟨xs,hS,hi,hl,hd⟩ | ⟨pre,c,hi,hl,hd⟩)⟩
   ·exact ⟨none,_,by have:=run_endLoop (P:=P) hl (by rw [hrec];simp);rw [hrec] at this;exact this,hdone _ xs _ (Nat.le_refl _) hS (hIp _ _ _ _ _ hi (by omega) hl rfl) ((World.putObj_heap_other (by omega)).trans hd)⟩
   ·exact ⟨some c,_,by have:=run_endLoop (P:=P) hl (by rw [hrec];simp);rw [hrec] at this;exact this,hstop _ c pre _ (Nat.le_refl _) (hXp _ _ _ _ _ _ hi (by omega) hl rfl) ((World.putObj_heap_other (by omega)).trans hd)⟩
theorem Only.row {R:Nat → Prop} {A:World} {g:Nat} {t:TypeId} {cs:Array Value} {fr:Nat × Nat} (hb:A.heap[g]? = some (.cells cs t fr)) (hg:R g) (ds:Array Value):Only R A (A.setRow g ds):=by
 have ho:∀ k,k ≠ g → (A.setRow g ds).heap[k]? = A.heap[k]?:=fun k hk=>setRow_other _ _ _ _ hk
 have hs:(A.setRow g ds).heap[g]? = some (.cells ds t fr):=setRow_heap _ _ _ _ _ _ hb
 refine ⟨rfl,rfl,rfl,by simp,fun k o h1 hn=>(ho k (fun e=>hn (by rw [e];exact hg))).trans h1,fun k o h1 hc => ?_,fun k cs' t' fr' h1 => ?_⟩
 ·by_cases e:k = g
  ·subst e;rw [hb] at h1;cases h1;cases hc
  ·exact (ho k e).trans h1
 ·by_cases e:k = g
  ·subst e;rw [hb] at h1;cases h1;exact ⟨_,hs⟩
  ·exact ⟨cs',(ho k e).trans h1⟩
end Go.Proofs.Herb
namespace Go.Proofs.Herb
open Go.RowKit
attribute [local go_sem] Oper.semAt_some
theorem getT_took (l:List UInt8):(getT l).2.1 ≤ l.length:=by
 unfold getT
 split
 ·exact Nat.zero_le _
 ·rename_i h
  split
  ·exact Nat.zero_le _
  ·have:=getV_took l 0 0 (by simpa using h)
   show (getV 0 0 l).2.1 + (getV 0 0 l).1 ≤ l.length
   omega
set_option maxRecDepth 100000 in
set_option maxHeartbeats 1000000 in
theorem textc_any (b5 bq off m c:Nat) (l:List UInt8) (w:World) (hbx:Boxed w b5 22 (.slice (some ⟨bq,off,none⟩) m c)) (hl:l.length = m) (hc:m ≤ c) (hcm:c ≤ 9223372036854775806) (hr:Rd w (some ⟨bq,off,none⟩) (l.map bv)) (hne:bq ≠ b5) :
  Calls Tryz.prog 135 #[.pointer (some ⟨b5,0,none⟩)] w fun e w'=>e = .returned (.tuple #[.string ⟨(getT l).1.toArray⟩,.bool ((getT l).2.2 == 0)]) ∧ Only (· = b5) w w' ∧
   ∃ off',Boxed w' b5 22 (.slice (some ⟨bq,off',none⟩) (m - (getT l).2.1) (c - (getT l).2.1)) ∧ Rd w' (some ⟨bq,off',none⟩) ((l.drop (getT l).2.1).map bv):=by
 have HT:=hid (vtext_any (some ⟨bq,off,none⟩) m c l w hl hc hcm hr)
 have htk:=getT_took l
 rw [hl] at htk
 obtain ⟨S,hS⟩:∃ S:ByteArray,S = ⟨(getT l).1.toArray⟩:=⟨_,rfl⟩
 obtain ⟨T,hT⟩:∃ T,T = (getT l).2.1:=⟨_,rfl⟩
 obtain ⟨E,hE⟩:∃ E,E = (getT l).2.2:=⟨_,rfl⟩
 rw [← hS,← hT,← hE] at HT
 rw [← hT] at htk ⊢
 rw [← hS,← hE]
 have c5:=hbx.cell
 have HBx:=hid hbx
 have Hr:=hid hr
 have Hl:=hid hl
 clear hS hT hE hbx hr hl
 go_enter Tryz.func135,Tryz.ntmps135
 go_wp2_with fail
 refine HT.out.mono ?_
 rintro e w1 ⟨rfl,hb1⟩
 have hbx1:Boxed w1 b5 22 (.slice (some ⟨bq,off,none⟩) m c):=(hb1.block _ HBx.out.lt).trans HBx.out
 have c5':=hbx1.cell
 have f5':=hbx1.frozen
 have HBx1:=hid hbx1
 have HB1:=hid hb1
 have hs1:=hb1.size
 clear hbx1 hb1 HT c5
 have i0:(0:Int) ≤ (T:Int):=by omega
 have i1:(T:Int) ≤ (m:Int):=by omega
 by_cases hcT:c = T
 ·have hmT:m = T:=by omega
  subst hcT
  subst hmT
  go_wp2
  go_ret2
  have hset:=HBx1.out.set (.slice (some ⟨bq,off,none⟩) (m - m) (m - m))
  rw [Nat.sub_self] at hset ⊢
  exact ⟨rfl,(Only.of_below HB1.out).trans (Only.set (R:=(· = b5)) HBx1.out rfl _),off,hset,.inl (by rw [List.map_eq_nil_iff,← Hl.out,List.drop_length])⟩
 ·go_wp2
  go_ret2
  refine ⟨rfl,(Only.of_below HB1.out).trans (Only.set (R:=(· = b5)) HBx1.out rfl _),off + T,HBx1.out.set _, ?_⟩
  rw [List.map_drop]
  refine rd_far (((Hr.out.below HB1.out)).drop T) (fun a ha => ?_)
  cases ha
  exact heap_setCell_other _ _ _ _ hne
theorem getT_len (l:List UInt8):(getT l).1.length ≤ (getT l).2.1:=by
 unfold getT
 split
 ·exact Nat.zero_le _
 ·split
  ·exact Nat.zero_le _
  ·show (List.take _ _).length ≤ _ + _
   rw [List.length_take]
   omega
theorem getV_fail:∀ (l:List UInt8) (n i:Nat),(getV n i l).2.2 ≠ 0 → (getV n i l).2.1 = 0
 | [],_,_,_=>rfl
 | c :: r,n,i,h=>by
  rw [getV] at h ⊢
  split at h
  ·rename_i h1;rw [if_pos h1]
  ·split at h
   ·simp at h
   ·rename_i h1 h2
    rw [if_neg h1,if_neg h2]
    exact getV_fail r _ _ h
def boxL (b:Nat) (w:World):Nat:=match w.cell? ⟨b,0,none⟩ with
 | some (.slice _ n _)=>n
 | _=>0
theorem boxL_of {w:World} {b:Nat} {t:TypeId} {q:Option Addr} {m c:Nat} (h:Boxed w b t (.slice q m c)):boxL b w = m:=by
 unfold boxL;rw [h.cell]
theorem from_any (v:Array Value) (i:Int) (w:World) (hv:v.size = 2) (h1:∀ x ∈ v.toList,x.oneCell' = true) :
  Calls Tryz.prog 126 #[.agg v,.int .i64 i] w fun e w'=>e = .returned (.func (.func 134) #[] #[.pointer (some ⟨w.heap.size,0,none⟩),.pointer (some ⟨w.heap.size + 1,0,none⟩)]) ∧ w' = (w.alloc (.cells v 155)).alloc (.cells #[.int .i64 i] 3):=by
 obtain ⟨cl⟩:=v
 match cl,hv with
 | [x,y],_ =>
  have hx:=h1 x (by simp)
  have hy:=h1 y (by simp)
  go_enter Tryz.func126,Tryz.ntmps126
  go_wp2
  go_ret
  exact ⟨rfl,rfl⟩
theorem slice_from (o1 bq o m c T:Nat) (w:World) (hT:T ≤ m) (hc:m ≤ c) (ho:o1 = if c = T then o else o + T) :
  (Instr.slice 22 (.slice (some ⟨bq,o,none⟩) m c) (some (.int .i64 (T:Int))) none none).run Tryz.prog w = .ok (.slice (some ⟨bq,o1,none⟩) (m - T) (c - T)) w:=by
 have i0:(0:Int) ≤ (T:Int):=by omega
 have i1:(T:Int) ≤ (m:Int):=by omega
 by_cases h:c = T
 ·rw [if_pos h] at ho
  subst ho
  subst h
  have:m = c:=by omega
  subst this
  go_simp
 ·rw [if_neg h] at ho
  subst ho
  go_simp
theorem Only.weaken {R R':Nat → Prop} {A B:World} (h:Only R A B) (hR:∀ g,R g → R' g):Only R' A B :=
 ⟨h.os,h.tape,h.output,h.size,fun g o ho hn=>h.same g o ho (fun h'=>hn (hR g h')),h.recd,h.kind⟩
theorem cat_run (k:ByteArray) (N:Nat) (K1:ByteArray) (g:List UInt8) (NK:ByteArray) (w:World) (h1:K1 = ⟨g.toArray⟩) (h2:NK = ⟨(k.data.toList.take N ++ g).toArray⟩) (hb:k.size + g.length ≤ 8388608) (hN:N ≤ k.size) :
  (Op.stringOp .add (k.extract 0 N) K1).run Tryz.prog w = .ok (.string NK) w:=by
 have hd:(k.extract 0 N).data.toList = k.data.toList.take N:=by rw [Lib.extract_data];simp
 have hs:(k.extract 0 N).size = N:=by rw [← size_toList,hd,List.length_take,size_toList];omega
 have hs1:K1.size = g.length:=by rw [← size_toList,h1]
 have he:k.extract 0 N ++ K1 = NK:=by
  apply Go.WideShapes.bytes_inj
  rw [ByteArray.data_append,Array.toList_append,hd,h2,h1]
 unfold Op.stringOp
 simp only [hs,hs1,he]
 rw [if_neg (by rw [show IntKind.i64.max = 9223372036854775807 from rfl];omega)]
 rfl
theorem infoI2:(Tryz.prog.info? 100).map (·.size) = some 2:=by kernel_rfl
structure GitS (b4 bq B f:Nat) (its:List UInt8) (last:Item) (rem:List UInt8) (o c:Nat) (pre:List (Item × Bool)) (wr:World):Prop where
 box:Boxed wr (b4 + 1) 22 (.slice (some ⟨bq,o,none⟩) rem.length c)
 le:rem.length ≤ c ∧ c ≤ 4194304
 rd:Rd wr (some ⟨bq,o,none⟩) (rem.map bv)
 it:wr.heap[b4]? = some (.cells #[.string last.key,.string last.val] 100 (0,0))
 par:parseI (B + 1) nilI its = pre ++ parseI f last rem
 fuel:rem.length < f
 short:last.key.size + rem.length ≤ 4194304
set_option maxRecDepth 100000 in
set_option maxHeartbeats 4000000 in
theorem from1_in (nn b4 bx bat bq off B:Nat) (v:Value) (hnn:1 ≤ nn) (its:List UInt8) (hB:its.length = B) (hBm:B ≤ 4194304) (hq:bq < b4) :
  SeqGood Fence.wide nn Tryz.prog 134 #[.pointer (some ⟨bx,0,none⟩),.pointer (some ⟨bat,0,none⟩)] (fun x:Item × Bool => #[.agg #[.string x.1.key,.string x.1.val],.bool x.2]) (Only (fun g=>g = b4 ∨ g = b4 + 1))
   (fun pre x W=>(∃ rest,parseI (B + 1) nilI its = pre ++ x :: rest) ∧ b4 + 2 ≤ W.heap.size) (fun A C=>KeepB b4 A C ∧ KeepB (b4 + 1) A C ∧ KeepB bq A C) (fun xs=>xs = parseI (B + 1) nilI its) 0
   (fun W=>W.heap.size = b4 ∧ W.heap[bx]? = some (.cells #[.slice (some ⟨bq,off,none⟩) B B,v] 155 (0,0)) ∧ Boxed W bat 3 (.int .i64 0) ∧ Rd W (some ⟨bq,off,none⟩) (its.map bv)):=by
 intro lp J Jx W hb hOk hJ hJx hY h0
 obtain ⟨hs0,hbx,hat,hrd⟩:=hOk
 have HY:=hid hY
 have HJ:=hid hJ
 have HBl:=hid hB
 have Hrd:=hid hrd
 have H0:=hid h0
 have cx:W.cell? ⟨bx,0,none⟩ = some (.slice (some ⟨bq,off,none⟩) B B):=(cell_of_row W bx 0 _ _ _ hbx).trans rfl
 have cat:=hat.cell
 have hbxl:bx < W.heap.size:=lt_of_block hbx
 have hatl:bat < W.heap.size:=hat.lt
 have nbx:bx ≠ W.heap.size:=by omega
 have nbat:bat ≠ W.heap.size:=by omega
 have Hs0:=hid hs0
 clear hY hJ hJx hb hB hrd hbx hat h0 hs0
 refine callsIn_of_wp Tryz.func134 rfl trivial ?_ rfl
 simp only [Tryz.ntmps134,List.size_toArray,List.length_cons,List.length_nil,Nat.reduceAdd,Nat.reduceSub,Array.replicate_succ,Array.replicate_zero,List.push_toArray,List.append_toArray,List.nil_append,List.cons_append]
 gi_wp2
 obtain ⟨w0,hw0⟩:∃ x,x = (W.alloc (.cells #[.string ⟨#[]⟩,.string ⟨#[]⟩] 100)).alloc (.cells #[.slice (some ⟨bq,off,none⟩) B B] 22):=⟨_,rfl⟩
 have hb0:Below W.heap.size W w0:=by rw [hw0];exact ((Below.refl _ _).alloc (Nat.le_refl _) _).alloc (by simp) _
 have hi0:w0.heap[b4]? = some (.cells #[.string nilI.key,.string nilI.val] 100 (0,0)):=by
  rw [hw0,← Hs0.out];exact (Below.heap_alloc _ _ _ (by simp)).trans (heap_alloc_new W _)
 have hx0:Boxed w0 (b4 + 1) 22 (.slice (some ⟨bq,off,none⟩) its.length B):=by
  rw [hw0,HBl.out,← Hs0.out]
  have h:=Boxed.new (W.alloc (.cells #[.string ⟨#[]⟩,.string ⟨#[]⟩] 100)) 22 (.slice (some ⟨bq,off,none⟩) B B)
  rw [World.size_alloc] at h
  exact h
 have hg0:GitS b4 bq B (B + 1) its nilI its off B [] w0:=⟨hx0,⟨by rw [HBl.out];exact Nat.le_refl _,hBm⟩,Hrd.out.below hb0,hi0,rfl,by rw [HBl.out];omega,by show (0:Nat) + its.length ≤ _;rw [HBl.out];omega⟩
 have hj0:J [] w0:=HJ.out _ _ _ H0.out (Only.of_below hb0)
 rw [← hw0,Hs0.out]
 have HG0:=hid hg0
 have HJ0:=hid hj0
 clear hw0 hb0 hi0 hx0 hg0 hj0 cx cat hbxl hatl nbx nbat
 gi_loopw [] (fun wr=>∃ (f:Nat) (last:Item) (rem:List UInt8) (o c:Nat) (pre:List (Item × Bool)),GitS b4 bq B f its last rem o c pre wr ∧ J pre wr) (fun wr=>boxL (b4 + 1) wr)
 case atStart=>exact ⟨_,_,_,_,_,_,HG0.out,HJ0.out⟩
 case round =>
  obtain ⟨f,last,rem,o,c,pre,hG,hJp⟩:=hrel
  obtain ⟨m,hm⟩:∃ m,m = rem.length:=⟨_,rfl⟩
  have hbox:=hG.box
  have hle:=hG.le
  rw [← hm] at hbox hle
  have c5:=hbox.cell
  have f5:=hbox.frozen
  have HBx:=hid hbox
  have HGs:=hid hG
  have HJp:=hid hJp
  have Hm:=hid hm
  clear hG hJp hbox hm HG0 HJ0
  by_cases hlt:0 < m
  ·have d0:decide ((0:Int) < (m:Int)) = true:=by simp;omega
   have hne:rem ≠ []:=fun h=>by have:=Hm.out;rw [h] at this;simp at this;omega
   obtain ⟨f',rfl⟩:∃ f',f = f' + 1:=⟨f - 1,by have:=HGs.out.fuel;omega⟩
   have hpar:=HGs.out.par
   have hstep:parseI (f' + 1) last rem = ((oneI last rem).1,(oneI last rem).2.1) :: if (oneI last rem).2.1 = true then parseI f' (oneI last rem).1 (oneI last rem).2.2 else []:=by rw [parseI,if_neg hne]
   rw [hstep] at hpar
   have HPar:=hid hpar
   have HV:=hid (vget_any (some ⟨bq,o,none⟩) m c rem wr Hm.out.symm (by omega) HGs.out.rd)
   have htk:=getV_took rem 0 0
   have hnl:=getV_lt rem 0 0 (by decide) (by decide)
   obtain ⟨N,hN⟩:∃ N,N = (getV 0 0 rem).1:=⟨_,rfl⟩
   obtain ⟨T,hT⟩:∃ N,N = (getV 0 0 rem).2.1:=⟨_,rfl⟩
   obtain ⟨E,hE⟩:∃ N,N = (getV 0 0 rem).2.2:=⟨_,rfl⟩
   rw [← hN,← hT,← hE] at HV
   have hTm:T ≤ m:=by
    rw [hT]
    by_cases he:(getV 0 0 rem).2.2 = 0
    ·have:=(htk he).1;have:=Hm.out;omega
    ·rw [getV_fail _ _ _ he];exact Nat.zero_le _
   rw [← hN] at hnl
   have HN:=hid hN
   have HT:=hid hT
   have HE:=hid hE
   clear hpar hstep hN hT hE htk hne
   gi_wp2
   refine ⟨trivial,(callsIn_wide.2 HV.out).mono ?_⟩
   rintro e w1 ⟨rfl,hb1⟩
   have hbx1:Boxed w1 (b4 + 1) 22 (.slice (some ⟨bq,o,none⟩) m c):=(hb1.block _ HBx.out.lt).trans HBx.out
   have c51:=hbx1.cell
   have f51:=hbx1.frozen
   have HBx1:=hid hbx1
   have HB1:=hid hb1
   have i0:(0:Int) ≤ (T:Int):=by omega
   have i1:(T:Int) ≤ (m:Int):=by omega
   obtain ⟨o1,ho1⟩:∃ o1,o1 = if c = T then o else o + T:=⟨_,rfl⟩
   have HO1:=hid ho1
   clear hbx1 hb1 c5 f5 ho1
   have hsl:=fun w=>slice_from o1 bq o m c T w hTm hle.1 HO1.out
   gi_wp2
   obtain ⟨w2,hw2⟩:∃ x,x = w1.setCell ⟨b4 + 1,0,none⟩ (.slice (some ⟨bq,o1,none⟩) (m - T) (c - T)):=⟨_,rfl⟩
   have hbx2:Boxed w2 (b4 + 1) 22 (.slice (some ⟨bq,o1,none⟩) (m - T) (c - T)):=by rw [hw2];exact HBx1.out.set _
   have hon2:Only (fun g=>g = b4 ∨ g = b4 + 1) wr w2:=by rw [hw2];exact (Only.of_below HB1.out).trans (Only.set HBx1.out (.inr rfl) _)
   obtain ⟨m1,hm1⟩:∃ x,x = m - T:=⟨_,rfl⟩
   obtain ⟨c1,hc1⟩:∃ x,x = c - T:=⟨_,rfl⟩
   obtain ⟨R1,hR1⟩:∃ x,x = rem.drop T:=⟨_,rfl⟩
   have hR1l:R1.length = m1:=by rw [hR1,List.length_drop,hm1,← Hm.out]
   have hrd2:Rd w2 (some ⟨bq,o1,none⟩) (R1.map bv):=by
    by_cases hcT:c = T
    ·exact .inl (by rw [List.map_eq_nil_iff,hR1,List.drop_eq_nil_iff];have:=Hm.out;omega)
    ·rw [HO1.out,if_neg hcT,hR1,List.map_drop]
     refine (rd_far HGs.out.rd (fun a ha => ?_)).drop T
     cases ha
     have hl:=HGs.out.rd
     rw [hw2]
     refine (heap_setCell_other _ _ _ _ (show bq ≠ b4 + 1 by omega)).trans (HB1.out.block bq ?_)
     have:=HBx.out.lt
     omega
   rw [← hw2]
   rw [← hm1,← hc1] at hbx2
   have hT1:=getT_took R1
   have hR2:w2.heap[b4]? = some (.cells #[.string last.key,.string last.val] 100 (0,0)):=by
    rw [hw2]
    exact (heap_setCell_other _ _ _ _ (show b4 ≠ b4 + 1 by omega)).trans ((HB1.out.block _ (lt_of_block HGs.out.it)).trans HGs.out.it)
   have HTx:=hid (textc_any (b4 + 1) bq o1 m1 c1 R1 w2 hbx2 hR1l (by omega) (by omega) hrd2 (by omega))
   obtain ⟨G1,hG1⟩:∃ x,x = getT R1:=⟨_,rfl⟩
   rw [← hG1] at HTx hT1
   obtain ⟨K1,hK1⟩:∃ x:ByteArray,x = ⟨G1.1.toArray⟩:=⟨_,rfl⟩
   obtain ⟨X1,hX1⟩:∃ x,x = (G1.2.2 == 0):=⟨_,rfl⟩
   rw [← hK1,← hX1] at HTx
   have HOn2:=hid hon2
   have HR2:=hid hR2
   have HG1:=hid hG1
   have HK1:=hid hK1
   have HX1:=hid hX1
   have HR1:=hid hR1
   have HR1l:=hid hR1l
   have Hmc:=hid (And.intro hm1 hc1)
   clear hw2 hbx2 hon2 hR2 hG1 hK1 hX1 hR1 hR1l hm1 hc1 hrd2 c51 f51 HV hsl
   refine ⟨trivial,(callsIn_wide.2 HTx.out).mono ?_⟩
   rintro e w3 ⟨rfl,hon3,o2,hbx3,hrd3⟩
   obtain ⟨m2,hm2⟩:∃ x,x = m1 - G1.2.1:=⟨_,rfl⟩
   obtain ⟨c2,hc2⟩:∃ x,x = c1 - G1.2.1:=⟨_,rfl⟩
   obtain ⟨R2,hR2⟩:∃ x,x = R1.drop G1.2.1:=⟨_,rfl⟩
   rw [← hm2,← hc2] at hbx3
   rw [← hR2] at hrd3
   have hR2l:R2.length = m2:=by rw [hR2,List.length_drop,hm2,HR1l.out]
   have hT2:=getT_took R2
   have hmc1:=Hmc.out
   have hT1':=hT1
   rw [HR1l.out] at hT1'
   have HTy:=hid (textc_any (b4 + 1) bq o2 m2 c2 R2 w3 hbx3 hR2l (by omega) (by omega) hrd3 (by omega))
   obtain ⟨G2,hG2⟩:∃ x,x = getT R2:=⟨_,rfl⟩
   rw [← hG2] at HTy hT2
   obtain ⟨K2,hK2⟩:∃ x:ByteArray,x = ⟨G2.1.toArray⟩:=⟨_,rfl⟩
   obtain ⟨X2,hX2⟩:∃ x,x = (G2.2.2 == 0):=⟨_,rfl⟩
   rw [← hK2,← hX2] at HTy
   have hon3':Only (fun g=>g = b4 ∨ g = b4 + 1) w2 w3:=Only.weaken hon3 (fun g h=>.inr h)
   have hR3:=hon3.same _ _ HR2.out (show b4 ≠ b4 + 1 by omega)
   have HOn3:=hid (HOn2.out.trans hon3')
   have HR3:=hid hR3
   have HG2:=hid hG2
   have HK2:=hid hK2
   have HX2:=hid hX2
   have HRR2:=hid hR2
   have HR2l:=hid hR2l
   have Hmc2:=hid (And.intro hm2 hc2)
   clear hon3 hon3' hbx3 hrd3 hm2 hc2 hR2 hR2l hR3 hG2 hK2 hX2 hmc1 HTx
   gi_wp2
   refine ⟨trivial,(callsIn_wide.2 HTy.out).mono ?_⟩
   rintro e w4 ⟨rfl,hon4,o3,hbx4,hrd4⟩
   obtain ⟨m3,hm3⟩:∃ x,x = m2 - G2.2.1:=⟨_,rfl⟩
   obtain ⟨c3,hc3⟩:∃ x,x = c2 - G2.2.1:=⟨_,rfl⟩
   obtain ⟨R3,hR3⟩:∃ x,x = R2.drop G2.2.1:=⟨_,rfl⟩
   rw [← hm3,← hc3] at hbx4
   rw [← hR3] at hrd4
   have hR3l:R3.length = m3:=by rw [hR3,List.length_drop,hm3,HR2l.out]
   have hon4':Only (fun g=>g = b4 ∨ g = b4 + 1) w3 w4:=Only.weaken hon4 (fun g h=>.inr h)
   have hr4:=hon4.same _ _ HR3.out (show b4 ≠ b4 + 1 by omega)
   have hon:=HOn3.out.trans hon4'
   have hj4:J pre w4:=HJ.out _ _ _ HJp.out hon
   have hone:oneI last rem = if E = 0 ∧ G1.2.2 = 0 ∧ G2.2.2 = 0 ∧ N ≤ last.key.size then (⟨⟨(last.key.data.toList.take N ++ G1.1).toArray⟩,⟨G2.1.toArray⟩⟩,true,R3) else (last,false,R3):=by
    unfold oneI
    simp only [← HN.out,← HT.out,← HE.out,← HR1.out,← HG1.out,← HRR2.out,← HG2.out,← hR3]
   have q0:w4.cell? ⟨b4,0,none⟩ = some (.string last.key):=(cell_of_row w4 b4 0 _ _ _ hr4).trans rfl
   have q1:w4.cell? ⟨b4,1,none⟩ = some (.string last.val):=(cell_of_row w4 b4 1 _ _ _ hr4).trans rfl
   have HOn:=hid hon
   have HR4:=hid hr4
   have HJ4:=hid hj4
   have HBx4:=hid hbx4
   have HRd4:=hid hrd4
   have HR3l:=hid hR3l
   have HOne:=hid hone
   have Hmc3:=hid (And.intro hm3 hc3)
   have hsh:=HGs.out.short
   rw [← Hm.out] at hsh
   have hgl1:=getT_len R1
   rw [← HG1.out] at hgl1
   obtain ⟨LK,hLK⟩:∃ x,x = last.key.size:=⟨_,rfl⟩
   rw [← hLK] at hsh hone
   have HLK:=hid hLK
   have s1:IntKind.u64.wrap (LK:Int) = (LK:Int):=by rw [IntKind.wrap_u64];omega
   have s2:((last.key.size:Nat):Int) = (LK:Int):=by rw [hLK]
   clear hon4 hon4' hr4 hon hj4 hbx4 hrd4 hm3 hc3 hR3 hR3l HTy hLK
   have hg1m:G1.1.length ≤ G1.2.1 ∧ G1.2.1 + R2.length = m - T:=by have h1:=HR1l.out;have h2:=Hmc.out;have h3:=HR2l.out;have h4:=Hmc2.out;omega
   have hg2m:G2.2.1 + R3.length = R2.length:=by have h1:=HR3l.out;have h2:=Hmc3.out;have h3:=HR2l.out;omega
   by_cases hok:E = 0 ∧ G1.2.2 = 0 ∧ G2.2.2 = 0 ∧ N ≤ LK
   ·rw [if_pos hok] at hone
    obtain ⟨ok1,ok2,ok3,ok4⟩:=hok
    have x1:X1 = true:=by rw [HX1.out,ok2];rfl
    have x2:X2 = true:=by rw [HX2.out,ok3];rfl
    subst ok1
    subst x1
    subst x2
    have HOne2:=hid hone
    have d4:decide ((N:Int) ≤ (LK:Int)) = true:=by simp;omega
    obtain ⟨NK,hNK⟩:∃ x:ByteArray,x = ⟨(last.key.data.toList.take N ++ G1.1).toArray⟩:=⟨_,rfl⟩
    have hcat:=fun w=>cat_run last.key N K1 G1.1 NK w HK1.out hNK (by have:=HLK.out;omega) (by have:=HLK.out;omega)
    have hrow5:(w4.setRow b4 #[.string NK,.string K2]).heap[b4]? = some (.cells #[.string NK,.string K2] 100 (0,0)):=setRow_heap _ _ _ _ _ _ HR4.out
    have e0:(w4.setRow b4 #[.string NK,.string K2]).cell? ⟨b4,0,none⟩ = some (.string NK):=(cell_of_row _ b4 0 _ _ _ hrow5).trans rfl
    have e1:(w4.setRow b4 #[.string NK,.string K2]).cell? ⟨b4,1,none⟩ = some (.string K2):=(cell_of_row _ b4 1 _ _ _ hrow5).trans rfl
    have hon5:=HOn.out.trans (Only.row HR4.out (.inl rfl) #[.string NK,.string K2])
    have hj5:J pre (w4.setRow b4 #[.string NK,.string K2]):=HJ.out _ _ _ HJp.out hon5
    rw [← hNK,← HK2.out] at HOne2
    have HPar2:=HPar.out
    rw [HOne2.out] at HPar2
    simp only [if_true] at HPar2
    obtain ⟨fn,tmps,assign,body,hy,hR⟩:=HY.out pre (⟨NK,K2⟩,true) _ hj5 ⟨⟨_,HPar2⟩,by have h:=HBx4.out.lt;simp;omega⟩
    dsimp only at hy
    have HR:=hid hR
    have HP2:=hid HPar2
    have HNK:=hid hNK
    have HRow5:=hid hrow5
    clear hone HOne HX1 HX2 hon5 hj5 hNK hR HPar2 HPar hrow5
    gi_wp2_with (refine wpListIn_store_block rfl 100 _ _ rfl _ _ _ _ rfl rfl HR4.out rfl infoI2 (by simp [Value.oneCell']) ?_)
    refine HR.out.mono ?_
    rintro e W2 (⟨rfl,hJ2,hk1,hk2,hk3⟩ | ⟨rfl,hJ2⟩)
    ·have hbx5:Boxed W2 (b4 + 1) 22 (.slice (some ⟨bq,o3,none⟩) m3 c3):=hk2 _ ((setRow_other _ _ _ _ (show b4 + 1 ≠ b4 by omega)).trans HBx4.out)
     have hrw5:=hk1 _ HRow5.out
     have hrd5:Rd W2 (some ⟨bq,o3,none⟩) (R3.map bv):=rd_keep (rd_far HRd4.out (fun a ha=>by cases ha;exact setRow_other _ _ _ _ (show bq ≠ b4 by omega))) hk3
     have hT0:1 ≤ T:=by
      have:=(getV_took rem 0 0 HE.out.symm).2
      rw [← HT.out] at this
      exact this
     have hg5:GitS b4 bq B f' its ⟨NK,K2⟩ R3 o3 c3 (pre ++ [(⟨NK,K2⟩,true)]) W2:=by
      refine ⟨by rw [HR3l.out];exact hbx5,by have h1:=Hmc3.out;have h2:=Hmc2.out;have h3:=Hmc.out;have h4:=HR3l.out;omega,hrd5,hrw5,by rw [HP2.out];simp,by have:=HGs.out.fuel;have:=Hm.out;omega, ?_⟩
      have h1:NK.size = N + G1.1.length:=by
       rw [← size_toList,HNK.out,List.length_append,List.length_take,size_toList]
       have:=HLK.out
       omega
      show NK.size + R3.length ≤ _
      omega
     have HG5:=hid hg5
     have HJ2:=hid hJ2
     have hb5:=hg5.box
     have hmeas:m3 < m:=by have:=HR3l.out;omega
     clear hJ2 hk1 hk2 hk3 hbx5 hrw5 hrd5 hg5 hy HR e0 e1
     gi_wp2
     go_roundw
     case rel=>exact ⟨_,_,_,_,_,_,HG5.out,HJ2.out⟩
     case measure=>rw [boxL_of HG5.out.box,boxL_of HBx.out,HR3l.out];exact hmeas
    ·have HJ2:=hid hJ2
     clear hJ2 hy HR
     gi_wp2
     refine bodyPost_ret (results_none rfl _ _ _) rfl ?_
     exact ⟨⟨_,rfl⟩,.inr ⟨_,HJ2.out⟩⟩
   ·rw [if_neg hok] at hone
    have HPar2:=HPar.out
    rw [hone] at HPar2
    simp only [Bool.false_eq_true,if_false] at HPar2
    obtain ⟨fn,tmps,assign,body,hy,hR⟩:=HY.out pre (last,false) _ HJ4.out ⟨⟨_,HPar2⟩,HBx4.out.lt⟩
    dsimp only at hy
    have HR:=hid hR
    have HP2:=hid HPar2
    have HX:=hid (show E ≠ 0 ∨ X1 = false ∨ X2 = false ∨ ¬ N ≤ LK from by
     rw [HX1.out,HX2.out,beq_eq_false_iff_ne,beq_eq_false_iff_ne]
     by_cases h1:E = 0
     ·by_cases h2:G1.2.2 = 0
      ·by_cases h3:G2.2.2 = 0
       ·exact .inr (.inr (.inr (fun h4=>hok ⟨h1,h2,h3,h4⟩)))
       ·exact .inr (.inr (.inl h3))
      ·exact .inr (.inl h2)
     ·exact .inl h1)
    clear hone HOne hR HPar2 HPar HX1 HX2 hok
    by_cases h1:E = 0
    ·have e1:(E == 0) = true:=by rw [h1];rfl
     cases X1 with
     | false =>
      clear HX h1
      gi_wp2
      refine HR.out.mono ?_
      rintro e W2 (⟨rfl,hJ2, -⟩ | ⟨rfl,hJ2⟩)
      ·have HJ2:=hid hJ2
       clear hJ2 hy HR
       gi_wp2
       refine bodyPost_ret (results_none rfl _ _ _) rfl ?_
       exact ⟨⟨_,rfl⟩,.inl ⟨pre ++ [(last,false)],HP2.out.symm,HJ2.out⟩⟩
      ·have HJ2:=hid hJ2
       clear hJ2 hy HR
       gi_wp2
       refine bodyPost_ret (results_none rfl _ _ _) rfl ?_
       exact ⟨⟨_,rfl⟩,.inr ⟨_,HJ2.out⟩⟩
     | true =>
      cases X2 with
      | false =>
       clear HX h1
       gi_wp2
       refine HR.out.mono ?_
       rintro e W2 (⟨rfl,hJ2, -⟩ | ⟨rfl,hJ2⟩)
       ·have HJ2:=hid hJ2
        clear hJ2 hy HR
        gi_wp2
        refine bodyPost_ret (results_none rfl _ _ _) rfl ?_
        exact ⟨⟨_,rfl⟩,.inl ⟨pre ++ [(last,false)],HP2.out.symm,HJ2.out⟩⟩
       ·have HJ2:=hid hJ2
        clear hJ2 hy HR
        gi_wp2
        refine bodyPost_ret (results_none rfl _ _ _) rfl ?_
        exact ⟨⟨_,rfl⟩,.inr ⟨_,HJ2.out⟩⟩
      | true =>
       have hNl:¬ N ≤ LK:=by
        rcases HX.out with h | h | h | h
        ·exact absurd h1 h
        ·cases h
        ·cases h
        ·exact h
       have d4:decide ((N:Int) ≤ (LK:Int)) = false:=by simp;omega
       clear HX h1
       gi_wp2
       refine HR.out.mono ?_
       rintro e W2 (⟨rfl,hJ2, -⟩ | ⟨rfl,hJ2⟩)
       ·have HJ2:=hid hJ2
        clear hJ2 hy HR
        gi_wp2
        refine bodyPost_ret (results_none rfl _ _ _) rfl ?_
        exact ⟨⟨_,rfl⟩,.inl ⟨pre ++ [(last,false)],HP2.out.symm,HJ2.out⟩⟩
       ·have HJ2:=hid hJ2
        clear hJ2 hy HR
        gi_wp2
        refine bodyPost_ret (results_none rfl _ _ _) rfl ?_
        exact ⟨⟨_,rfl⟩,.inr ⟨_,HJ2.out⟩⟩
    ·have e1:(E == 0) = false:=by rw [beq_eq_false_iff_ne];exact h1
     clear HX h1
     gi_wp2
     refine HR.out.mono ?_
     rintro e W2 (⟨rfl,hJ2, -⟩ | ⟨rfl,hJ2⟩)
     ·have HJ2:=hid hJ2
      clear hJ2 hy HR
      gi_wp2
      refine bodyPost_ret (results_none rfl _ _ _) rfl ?_
      exact ⟨⟨_,rfl⟩,.inl ⟨pre ++ [(last,false)],HP2.out.symm,HJ2.out⟩⟩
     ·have HJ2:=hid hJ2
      clear hJ2 hy HR
      gi_wp2
      refine bodyPost_ret (results_none rfl _ _ _) rfl ?_
      exact ⟨⟨_,rfl⟩,.inr ⟨_,HJ2.out⟩⟩
  ·have d0:decide ((0:Int) < (m:Int)) = false:=by simp;omega
   have hnil:rem = []:=List.eq_nil_of_length_eq_zero (by have:=Hm.out;omega)
   have hpar:=HGs.out.par
   have hend:parseI (B + 1) nilI its = pre:=by
    rw [hpar,hnil]
    cases f <;> simp [parseI]
   have HEnd:=hid hend
   clear hnil hpar hend
   gi_wp2
   refine ⟨rfl,_,results_none rfl _ _ _, ?_⟩
   exact ⟨⟨_,rfl⟩,.inl ⟨pre,HEnd.out.symm,HJp.out⟩⟩
end Go.Proofs.Herb
