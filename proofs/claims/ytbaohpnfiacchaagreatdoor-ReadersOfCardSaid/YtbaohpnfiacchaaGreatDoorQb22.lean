/- A load of several cells that can be read, at an address inside of a row: laws. A region that draws its order, walked in a class of worlds that a letter tells. No program. A region that draws its order, whose last operations wait for all others: its head walked in a class of worlds, its tail in order. No program. A law of regions that draw their order: the last operations, each of which waits for all ahead of them, through others, may be walked behind the others, some of which may not be wanted. No program. A law of regions that draw their order: some operations in whatever order, some in a row, the others in whatever order. No program. -/
import Derived.Laws.Rows
import Derived.Test.YtbaohpnfiacchaaGreatDoorQb01
import Derived.Test.YtbaohpnfiacchaaGreatDoorQb03
import Derived.Test.YtbaohpnfiacchaaGreatDoorQb21
namespace Go.Proofs.Herb
section
variable {P:Program}
theorem run_loadVar_rd (w:World) (b off:Nat) (ty:TypeId) (cs:List Value) (d:TypeDesc) (hr:∀ (j:Nat) (u:Value),cs[j]? = some u → w.cell? ⟨b,off + j,none⟩ = some u)
  (hu:P.underlying ty = some d) (hd:(match d with | .struct _ | .array _ _=>true | _=>false) = true) (hi:(P.info? ty).map (·.size) = some cs.length) :
  (loadVar ty ⟨b,off,none⟩).run P w = .ok (.agg cs.toArray) w:=by
 have hl:(loadCells ⟨b,off,none⟩ cs.length).run P w = .ok cs.toArray w :=
  run_loadCells_list (P:=P) w ⟨b,off,none⟩ cs (fun j v hv=>by
   have hadd:(⟨b,off,none⟩:Addr).add j = ⟨b,off + j,none⟩:=by unfold Addr.add;split <;> simp_all
   rw [hadd]
   exact hr j v hv)
 cases hq:P.info? ty with
 | none=>simp [hq] at hi
 | some i =>
  have hs:i.size = cs.length:=by simpa [hq] using hi
  have hagg:(isAgg ty).run P w = .ok true w:=by
   unfold isAgg
   rw [Sem.run_bind,run_underlying hu w]
   cases d <;> simp_all
  simp [loadVar,Sem.run_bind,hagg,sizeOf,typeInfo,hq,hs,hl]
theorem wp_load_rd {o:Oper} {a:Act} {w:World} {K:Act → World → Prop} {Q:Exit → Act → World → Prop} (ty:TypeId) (x:Operand) (ho:o.op = .load ty x)
  (b off:Nat) (hx:a.eval x = .pointer (some ⟨b,off,none⟩)) (cs:List Value) (d:TypeDesc) (hr:∀ (j:Nat) (u:Value),cs[j]? = some u → w.cell? ⟨b,off + j,none⟩ = some u)
  (hu:P.underlying ty = some d) (hd:(match d with | .struct _ | .array _ _=>true | _=>false) = true) (hi:(P.info? ty).map (·.size) = some cs.length)
  (h:K (a.put o.dst (.agg cs.toArray)) w):o.wp P a w K Q:=by
 unfold Oper.wp execOp
 simp only [ho,hx,Instr.loadAt,Instr.sureAddr,Sem.run_bind,Sem.run_pure,Result.andThen_ok,run_loadVar_rd w b off ty cs d hr hu hd hi]
 exact h
theorem wpList_load_rd {ops:Array Oper} {rest:List Oper} {o:Oper} {a:Act} {w:World} {Q:Exit → Act → World → Prop} (hgd:o.guard = none) (ty:TypeId) (x:Operand) (ho:o.op = .load ty x)
  (b off:Nat) (hx:a.eval x = .pointer (some ⟨b,off,none⟩)) (cs:List Value) (d:TypeDesc) (hr:∀ (j:Nat) (u:Value),cs[j]? = some u → w.cell? ⟨b,off + j,none⟩ = some u)
  (hu:P.underlying ty = some d) (hd:(match d with | .struct _ | .array _ _=>true | _=>false) = true) (hi:(P.info? ty).map (·.size) = some cs.length)
  (h:wpList P ops Q rest (a.put o.dst (.agg cs.toArray)) w):wpList P ops Q (o :: rest) a w :=
 wpList_plain hgd fun _ hK=>wp_load_rd ty x ho b off hx cs d hr hu hd hi (hK _ _ h)
end
end Go.Proofs.Herb
namespace Go.Proofs.Herb
open Go.RowKit
theorem region_quiet_d {P:Program} {T:Type} {D:T → World} {id:Nat} {Q:Exit → Act → World → Prop} {a:Act} {w:World} {l:List Oper} (hm:P.follows .mixedOrders = true) (hB:Region.lexB .any l.toArray = true) (x0:T) (hx0 : { w with drawn:=w.drawn + 1 } = D x0)
  (h:wpQuiet P l.toArray (fun w'=>∃ x,w' = D x) (fun a'=>∀ x,Q .normal a' (D x)) l a):(Code.region id l.toArray true).wp P Q a w :=
 region_quiet_c (C:=fun w'=>∃ x,w' = D x) hm hB ⟨x0,hx0⟩ (by
  have e:(fun a'=>∀ x,Q .normal a' (D x)) = fun a'=>∀ w',(∃ x,w' = D x) → Q .normal a' w':=by
   funext a'
   exact propext ⟨fun h w' ⟨x,hx⟩=>hx ▸ h x,fun h x=>h _ ⟨x,rfl⟩⟩
  rw [e] at h
  exact h)
theorem class_d (w:World):∃ (T:Type) (D:T → World),(∀ x,Below w.heap.size w (D x)) ∧ ∀ w',Below w.heap.size w w' → ∃ x,w' = D x :=
 ⟨{ w' // Below w.heap.size w w' },Subtype.val,fun x=>x.2,fun w' h=>⟨⟨w',h⟩,rfl⟩⟩
theorem calls_d {P:Program} {w:World} {T:Type} {D:T → World} (h1:∀ x,Below w.heap.size w (D x)) (h2:∀ w',Below w.heap.size w w' → ∃ x,w' = D x) {f:Nat} {vs:Array Value} {v:Value}
  (hf:∀ w',Below w.heap.size w w' → Calls P f vs w' fun e w''=>e = .returned v ∧ Below w'.heap.size w' w'') (x:T):Calls P f vs (D x) fun e w''=>e = .returned v ∧ ∃ y,w'' = D y:=by
 refine (hf _ (h1 x)).mono ?_
 rintro e w'' ⟨k1,k2⟩
 exact ⟨k1,h2 _ ((h1 x).trans (k2.mono (h1 x).size))⟩
end Go.Proofs.Herb
namespace Go.Proofs.Herb
open Go.RowKit
end Go.Proofs.Herb
namespace Go.Proofs.Herb
open Go.RowKit
section
variable {P:Program} {md:Region.Mode} {Q:Exit → Act → World → Prop} {R:Act → World → Prop} {ops:Array Oper}
def tlB2 (md:Region.Mode) (l1 l2:List Oper):Bool :=
 l1.all (fun o=>match o.guard with | none=>true | some (j,_)=>decide (j < l1.length)) &&
  l2.all (fun o=>(o.after.any fun e=>Region.binds md e && (decide (l1.length ≤ e.on) && decide (e.on < l1.length + l2.length))) || (List.range l1.length).all fun k=>(o.after.any fun e=>Region.binds md e && e.on == k) || (List.range l1.length).any fun j=>decide (k < j) && ((l1[j]?).map fun oj=>oj.after.any fun e=>Region.binds md e && e.on == k).getD false) &&
  (List.range l1.length).all fun j=>((l1[j]?).map (fun o=>o.after.all fun e => !Region.binds md e || decide (e.on < j))).getD true
def ClosedL (md:Region.Mode) (l1:List Oper) (lh:Array Bool):Prop:=∀ j o,l1[j]? = some o → lh.getD j true = true → ∀ e ∈ o.after,Region.binds md e = true → lh.getD e.on true = true
theorem wpAny_split2 {l1 l2:List Oper} (hB:tlB2 md l1 l2 = true)
  (hR:∀ a w,R a w → wpAny P md (l1 ++ l2).toArray Q l2.length (Array.replicate l1.length true ++ Array.replicate l2.length false) a w) :
  ∀ (f:Nat) (lh:Array Bool) (a:Act) (w:World),lh.size = l1.length → ClosedL md l1 lh → wpAny P md l1.toArray (headQ R Q) f lh a w → wpAny P md (l1 ++ l2).toArray Q (f + l2.length) (lh ++ Array.replicate l2.length false) a w:=by
 simp only [tlB2,Bool.and_eq_true,List.all_eq_true,Bool.or_eq_true (Array.any _ _),List.mem_range] at hB
 obtain ⟨⟨hg,hT⟩,hA⟩:=hB
 have hA':∀ j o,l1[j]? = some o → ∀ e ∈ o.after,Region.binds md e = true → e.on < j:=by
  intro j o ho e he hb
  have h:=hA j (List.getElem?_eq_some_iff.1 ho).1
  rw [ho] at h
  simp only [Option.map_some,Option.getD_some,Array.all_eq_true_iff_forall_mem] at h
  have h2:=h e he
  rw [hb] at h2
  simpa using h2
 have hall:∀ lh:Array Bool,lh.size = l1.length → Region.ready md l1.toArray lh = [] → lh = Array.replicate l1.length true:=by
  intro lh hs hr
  have key:∀ j,j < l1.length → lh.getD j true = true:=by
   intro j
   induction j using Nat.strongRecOn with
   | _ j ih =>
    intro hj
    cases hc:lh.getD j true with
    | true=>rfl
    | false =>
     exfalso
     have hm:j ∈ Region.ready md l1.toArray lh:=mem_ready.2 ⟨hc,l1[j],by simp [hj],fun e he hb=>by
      have hlt:=hA' j _ (List.getElem?_eq_getElem hj) e he hb
      have h1:=ih e.on hlt (by omega)
      have h2:e.on < lh.size:=by omega
      simpa [Array.getD,h2] using h1⟩
     rw [hr] at hm
     cases hm
  apply Array.ext
  ·simpa using hs
  ·intro i h1 h2
   have:=key i (by omega)
   simpa [Array.getD,h1] using this
 have hend:∀ (f:Nat) (lh:Array Bool) (a:Act) (w:World),lh.size = l1.length → Region.ready md l1.toArray lh = [] → R a w → wpAny P md (l1 ++ l2).toArray Q (f + l2.length) (lh ++ Array.replicate l2.length false) a w:=by
  intro f lh a w hs hr h
  rw [hall lh hs hr]
  exact wpAny_le (hR a w h) f
 intro f
 induction f with
 | zero=>intro lh a w hs _ h;exact hend 0 lh a w hs h.1 h.2
 | succ f ih =>
  intro lh a w hs hcl h
  by_cases hr:Region.ready md l1.toArray lh = []
  ·exact hend (f + 1) lh a w hs hr (h.1 hr)
  ·obtain ⟨k,hk⟩:=List.exists_mem_of_ne_nil _ hr
   obtain ⟨hk1,ok,hok,_⟩:=mem_ready.1 hk
   have hkl:k < l1.length:=by simpa using (Array.getElem?_eq_some_iff.1 hok).1
   have hks:lh[k]? = some false:=by
    have h2:k < lh.size:=by omega
    simp [Array.getD,h2] at hk1
    simp [h2,hk1]
   have hmem:∀ i,i ∈ Region.ready md (l1 ++ l2).toArray (lh ++ Array.replicate l2.length false) → i < l1.length ∧ i ∈ Region.ready md l1.toArray lh:=by
    intro i hi
    obtain ⟨h1,o,ho,h3⟩:=mem_ready.1 hi
    by_cases hil:i < l1.length
    ·have ho1:l1[i]? = some o:=by
      have:(l1 ++ l2)[i]? = some o:=by simpa using ho
      rwa [List.getElem?_append_left hil] at this
     refine ⟨hil,mem_ready.2 ⟨?_,o,by simpa using ho1,fun e he hb => ?_⟩⟩
     ·have h2:i < lh.size:=by omega
      simpa [Array.getD_eq_getD_getElem?,Array.getElem?_append_left h2] using h1
     ·have hlt:=hA' i o ho1 e he hb
      have h2:e.on < lh.size:=by omega
      have h4:=h3 e he hb
      simpa [Array.getD_eq_getD_getElem?,Array.getElem?_append_left h2] using h4
    ·exfalso
     have ho2:o ∈ l2:=by
      have:(l1 ++ l2)[i]? = some o:=by simpa using ho
      rw [List.getElem?_append_right (by omega)] at this
      exact List.mem_of_getElem? this
     have hT2:=hT o ho2
     rcases hT2 with hT2 | hT2
     ·simp only [Array.any_eq_true',Bool.and_eq_true,decide_eq_true_eq] at hT2
      obtain ⟨e,he,hb,hlo,hhi⟩:=hT2
      have h5:=h3 e he hb
      have h2:¬ e.on < lh.size:=by omega
      have h6:(lh ++ Array.replicate l2.length false)[e.on]? = some false:=by
       rw [Array.getElem?_append_right (by omega),Array.getElem?_replicate,if_pos (by omega)]
      simp [Array.getD_eq_getD_getElem?,h6] at h5
     have key:∀ d k,k + d = l1.length → k < l1.length → lh.getD k true = true:=by
      intro d
      induction d using Nat.strongRecOn with
      | _ d ih =>
       intro k hkd hkl
       have h4:=hT2 k hkl
       simp only [List.any_eq_true,List.mem_range,Array.any_eq_true',Bool.and_eq_true,beq_iff_eq,decide_eq_true_eq] at h4
       rcases h4 with ⟨e,he,hb,hon⟩ | ⟨j,hj,hkj,h5⟩
       ·have h5:=h3 e he hb
        rw [hon] at h5
        have h2:k < lh.size:=by omega
        simpa [Array.getD_eq_getD_getElem?,Array.getElem?_append_left h2,h2] using h5
       ·rw [List.getElem?_eq_getElem hj] at h5
        simp only [Option.map_some,Option.getD_some,Array.any_eq_true',Bool.and_eq_true,beq_iff_eq] at h5
        obtain ⟨e,he,hb,hon⟩:=h5
        have h6:=ih (l1.length - j) (by omega) j (by omega) hj
        have h7:=hcl j _ (List.getElem?_eq_getElem hj) h6 e he hb
        rw [hon] at h7
        exact h7
     have h8:=key (l1.length - k) k (by omega) hkl
     have h2:k < lh.size:=by omega
     simp [Array.getD_eq_getD_getElem?,hks] at h8
   rw [show f + 1 + l2.length = (f + l2.length) + 1 from by omega]
   refine ⟨fun hn => ?_,fun i hi => ?_⟩
   ·exfalso
    have:k ∈ Region.ready md (l1 ++ l2).toArray (lh ++ Array.replicate l2.length false):=by
     obtain ⟨_,o,ho,h3⟩:=mem_ready.1 hk
     have ho1:l1[k]? = some o:=by simpa using ho
     have h2:k < lh.size:=by omega
     refine mem_ready.2 ⟨by simp [Array.getD_eq_getD_getElem?,Array.getElem?_append_left h2,hks],o,by simp [List.getElem?_append_left hkl,ho1],fun e he hb => ?_⟩
     have hlt:=hA' k o ho1 e he hb
     have h6:e.on < lh.size:=by omega
     have h4:=h3 e he hb
     simpa [Array.getD_eq_getD_getElem?,Array.getElem?_append_left h6] using h4
    rw [hn] at this
    cases this
   ·obtain ⟨hil,hi2⟩:=hmem i hi
    have hw:=h.2 i hi2
    have hl:(l1 ++ l2).toArray[i]? = l1.toArray[i]?:=by simp [List.getElem?_append_left hil]
    have hgi:∀ o,l1.toArray[i]? = some o → Region.wanted o (yielded (l1 ++ l2).toArray a.tmps) = Region.wanted o (yielded l1.toArray a.tmps):=fun o ho=>by
     have hm:o ∈ l1:=List.mem_of_getElem? (by simpa using ho)
     have h9:=hg o hm
     unfold Region.wanted
     cases hgo:o.guard with
     | none=>rfl
     | some x =>
      obtain ⟨j,want⟩:=x
      rw [hgo] at h9
      simp only [decide_eq_true_eq] at h9
      have e:(l1 ++ l2).toArray[j]? = l1.toArray[j]?:=by simp [List.getElem?_append_left h9]
      simp only [yielded,e]
    have hcl2:ClosedL md l1 (lh.setIfInBounds i true):=by
     intro j oj hoj hlj e he hb
     have hjl:j < l1.length:=(List.getElem?_eq_some_iff.1 hoj).1
     have hon:=hA' j oj hoj e he hb
     have hd:lh.getD e.on true = true:=by
      by_cases hji:j = i
      ·subst hji
       obtain ⟨_,o',ho',h3⟩:=mem_ready.1 hi2
       have:o' = oj:=by
        have h1:l1[j]? = some o':=by simpa using ho'
        rw [hoj] at h1
        exact (Option.some.inj h1).symm
       subst this
       have h5:=h3 e he hb
       simp only [Array.getD_eq_getD_getElem?] at h5 ⊢
       cases hh:lh[e.on]? with
       | none=>rw [hh] at h5;cases h5
       | some v=>rw [hh] at h5;exact h5
      ·refine hcl j oj hoj ?_ e he hb
       simpa [Array.getD_eq_getD_getElem?,Array.getElem?_setIfInBounds_ne (Ne.symm hji)] using hlj
     by_cases hei:e.on = i
     ·subst hei
      simp [Array.getD_eq_getD_getElem?,Array.getElem?_setIfInBounds]
      split <;> simp
     ·simpa [Array.getD_eq_getD_getElem?,Array.getElem?_setIfInBounds_ne (Ne.symm hei)] using hd
    have hset:(lh ++ Array.replicate l2.length false).setIfInBounds i true = lh.setIfInBounds i true ++ Array.replicate l2.length false:=by
     rw [Array.setIfInBounds_append_left (by omega)]
    unfold wpOp at hw ⊢
    rw [hl]
    rw [hset]
    cases ho:l1.toArray[i]? with
    | none=>rw [ho] at hw;exact ih _ _ _ (by simpa using hs) hcl2 hw
    | some o =>
     rw [ho] at hw
     have hgo:=hgi o ho
     simp only [hgo] at hw ⊢
     by_cases hwd:Region.wanted o (yielded l1.toArray a.tmps) = true
     ·simp only [hwd,if_true] at hw ⊢
      rcases hw with hw | ⟨hw1,hw2⟩
      ·exact .inl (Oper.wp_mono (fun a' w' h'=>ih _ _ _ (by simpa using hs) hcl2 h') (wp_headQ hw))
      ·exact .inr ⟨hw1,hw2⟩
     ·simp only [hwd] at hw ⊢
      exact ih _ _ _ (by simpa using hs) hcl2 hw
def splitB2 (l:List Oper) (n:Nat):Bool :=
 tlB2 .any (l.take n) (l.drop n) && Region.seqB .any (l.take n ++ l.drop n).toArray (l.drop n).length (l.take n).length (Array.replicate (l.take n).length true ++ Array.replicate (l.drop n).length false)
theorem region_last {C:World → Prop} {id:Nat} {a:Act} {w:World} {l:List Oper} (n:Nat) (hm:P.follows .mixedOrders = true) (hB:splitB2 l n = true) (hL:Region.lexB .any (l.take n).toArray = true) (hC:C { w with drawn:=w.drawn + 1 })
  (h:wpQuiet P (l.take n).toArray C (fun a'=>∀ w',C w' → wpList P l.toArray Q (l.drop n) a' w') (l.take n) a):(Code.region id l.toArray true).wp P Q a w:=by
 simp only [splitB2,Bool.and_eq_true] at hB
 obtain ⟨h1,h2⟩:=hB
 have hl:l.take n ++ l.drop n = l:=List.take_append_drop n l
 simp only [Region.lexB,Bool.and_eq_true] at hL
 have hq:=wpAnyQ_lex (P:=P) (C:=C) (md:=.any) hL.1 (l.take n) 0 (Array.replicate (l.take n).length false) a (by simp) (by simpa using hL.2) h
 have h3:=wpAny_of_quiet (Q':=headQ (fun a w=>wpList P l.toArray Q (l.drop n) a w) Q) (fun a w hw' h=>h w hw') _ _ _ _ hC hq
 have hcl:ClosedL .any (l.take n) (Array.replicate (l.take n).length false):=by
  intro j o ho hj
  have:j < (l.take n).length:=(List.getElem?_eq_some_iff.1 ho).1
  simp [Array.getD_eq_getD_getElem?,Array.getElem?_replicate] at hj
  rw [List.length_take] at this
  rw [if_pos (by omega)] at hj
  cases hj
 have h4:=wpAny_split2 (P:=P) (Q:=Q) h1 (R:=fun a w=>wpList P l.toArray Q (l.drop n) a w) (fun a w hw=>by
  refine wpAny_of_seq (l.drop n) (l.take n).length _ a w (fun j => ?_) h2 (by rw [hl];exact hw)
  simp only [List.getElem?_toArray]
  rw [List.getElem?_append_right (by omega)]
  congr 1
  omega) _ _ a { w with drawn:=w.drawn + 1 } (by simp) hcl h3
 refine wp_region_any hm ?_
 rw [hl] at h4
 have e1:l.toArray.size = (l.take n).length + (l.drop n).length:=by rw [← List.length_append,hl];simp
 rw [e1]
 have e2:Array.replicate ((l.take n).length + (l.drop n).length) false = Array.replicate (l.take n).length false ++ Array.replicate (l.drop n).length false:=by simp
 rw [e2]
 exact h4
theorem region_last_d {T:Type} {D:T → World} {id:Nat} {a:Act} {w:World} {l:List Oper} (n:Nat) (hm:P.follows .mixedOrders = true) (hB:splitB2 l n = true) (hL:Region.lexB .any (l.take n).toArray = true) (x0:T) (hx0 : { w with drawn:=w.drawn + 1 } = D x0)
  (h:wpQuiet P (l.take n).toArray (fun w'=>∃ x,w' = D x) (fun a'=>∀ x,wpList P l.toArray Q (l.drop n) a' (D x)) (l.take n) a):(Code.region id l.toArray true).wp P Q a w :=
 region_last (C:=fun w'=>∃ x,w' = D x) n hm hB hL ⟨x0,hx0⟩ (by
  have e:(fun a'=>∀ x,wpList P l.toArray Q (l.drop n) a' (D x)) = fun a'=>∀ w',(∃ x,w' = D x) → wpList P l.toArray Q (l.drop n) a' w':=by
   funext a'
   exact propext ⟨fun h w' ⟨x,hx⟩=>hx ▸ h x,fun h x=>h _ ⟨x,rfl⟩⟩
  rw [e] at h
  exact h)
end
end Go.Proofs.Herb
namespace Go.Proofs.Herb
open Go.RowKit
section
variable {P:Program} {md:Region.Mode} {Q:Exit → Act → World → Prop} {R:Act → World → Prop} {ops:Array Oper}
def midB (md:Region.Mode) (ops:Array Oper):Nat → Nat → Nat → Array Bool → Bool
 | 0,p,k,listed=>Region.lexFrom md ops p k listed
 | m + 1,p,k,listed=>decide (Region.ready md ops listed = [k]) && midB md ops m p (k + 1) (listed.setIfInBounds k true)
theorem wpOp_headQ {i:Nat} {K:Act → World → Prop} {a:Act} {w:World} (h:wpOp P ops (headQ R Q) i K a w):wpOp P ops Q i K a w:=by
 unfold wpOp at h ⊢
 cases ho:ops[i]? with
 | none=>rw [ho] at h;exact h
 | some o =>
  rw [ho] at h
  simp only at h ⊢
  split at h
  ·rename_i hw
   rw [if_pos hw]
   rcases h with h | h
   ·exact .inl (wp_headQ h)
   ·exact .inr h
  ·rename_i hw
   rw [if_neg hw]
   exact h
theorem wpAny_mid (hs:Region.noSelect ops = true):∀ (mid post:List Oper) (k:Nat) (listed:Array Bool) (a:Act) (w:World),(∀ j,j < mid.length → mid[j]? = ops[k + j]?) → (∀ j,post[j]? = ops[k + mid.length + j]?) →
  midB md ops mid.length post.length k listed = true → wpList P ops (headQ (fun a' w'=>wpQuiet P ops (fun x=>x = w') (fun a''=>Q .normal a'' w') post a') Q) mid a w → wpAny P md ops Q (mid.length + post.length) listed a w
 | [],post,k,listed,a,w,_,hp,hB,h=>by
  rw [List.length_nil,Nat.zero_add]
  exact wpAny_of_quiet (C:=fun x=>x = w) (fun a'' w'' hw h=>by subst hw;exact h) _ _ _ _ rfl (wpAnyQ_lex hs post k listed a (by simpa using hp) hB h)
 | o :: mid,post,k,listed,a,w,hm,hp,hB,h=>by
  have h0:ops[k]? = some o:=by simpa using (hm 0 (by simp)).symm
  simp only [List.length_cons,midB,Bool.and_eq_true,decide_eq_true_eq] at hB
  rw [List.length_cons,show mid.length + 1 + post.length = mid.length + post.length + 1 from by omega]
  refine ⟨fun h1=>(by rw [hB.1] at h1;cases h1),fun i hi => ?_⟩
  rw [hB.1] at hi
  have hik:i = k:=by simpa using hi
  subst hik
  refine wpOp_headQ (R:=fun a' w'=>wpQuiet P ops (fun x=>x = w') (fun a''=>Q .normal a'' w') post a') ?_
  have hw:wpOp P ops (headQ (fun a' w'=>wpQuiet P ops (fun x=>x = w') (fun a''=>Q .normal a'' w') post a') Q) i (wpList P ops (headQ (fun a' w'=>wpQuiet P ops (fun x=>x = w') (fun a''=>Q .normal a'' w') post a') Q) mid) a w:=by unfold wpOp;simp only [h0];exact h
  exact wpOp_mono (fun a' w' h'=>wpAny_mid hs mid post (i + 1) _ a' w' (fun j hj=>by have:=hm (j + 1) (by simpa using hj);simpa [Nat.add_assoc,Nat.add_comm 1 j] using this) (fun j=>by have:=hp j;rw [this];congr 1;simp only [List.length_cons];omega) hB.2 h') hw
def splitB3 (l:List Oper) (n m:Nat):Bool :=
 tlB2 .any (l.take n) (l.drop n) && Region.noSelect l.toArray && midB .any (l.take n ++ l.drop n).toArray ((l.drop n).take m).length ((l.drop n).drop m).length (l.take n).length (Array.replicate (l.take n).length true ++ Array.replicate (l.drop n).length false)
theorem region_mid {C:World → Prop} {id:Nat} {a:Act} {w:World} {l:List Oper} (n m:Nat) (hm:P.follows .mixedOrders = true) (hB:splitB3 l n m = true) (hL:Region.lexB .any (l.take n).toArray = true) (hC:C { w with drawn:=w.drawn + 1 })
  (h:wpQuiet P (l.take n).toArray C (fun a'=>∀ w',C w' → wpList P l.toArray (headQ (fun a' w'=>wpQuiet P l.toArray (fun x=>x = w') (fun a''=>Q .normal a'' w') ((l.drop n).drop m) a') Q) ((l.drop n).take m) a' w') (l.take n) a):(Code.region id l.toArray true).wp P Q a w:=by
 simp only [splitB3,Bool.and_eq_true] at hB
 obtain ⟨⟨h1,hns⟩,h2⟩:=hB
 have hl:l.take n ++ l.drop n = l:=List.take_append_drop n l
 simp only [Region.lexB,Bool.and_eq_true] at hL
 have hq:=wpAnyQ_lex (P:=P) (C:=C) (md:=.any) hL.1 (l.take n) 0 (Array.replicate (l.take n).length false) a (by simp) (by simpa using hL.2) h
 have h3:=wpAny_of_quiet (Q':=headQ (fun a w=>wpList P l.toArray (headQ (fun a' w'=>wpQuiet P l.toArray (fun x=>x = w') (fun a''=>Q .normal a'' w') ((l.drop n).drop m) a') Q) ((l.drop n).take m) a w) Q) (fun a w hw' h=>h w hw') _ _ _ _ hC hq
 have hcl:ClosedL .any (l.take n) (Array.replicate (l.take n).length false):=by
  intro j o ho hj
  have:j < (l.take n).length:=(List.getElem?_eq_some_iff.1 ho).1
  simp [Array.getD_eq_getD_getElem?,Array.getElem?_replicate] at hj
  rw [List.length_take] at this
  rw [if_pos (by omega)] at hj
  cases hj
 have hlen:((l.drop n).take m).length + ((l.drop n).drop m).length = (l.drop n).length:=by rw [← List.length_append,List.take_append_drop]
 have h4:=wpAny_split2 (P:=P) (Q:=Q) h1 (R:=fun a w=>wpList P l.toArray (headQ (fun a' w'=>wpQuiet P l.toArray (fun x=>x = w') (fun a''=>Q .normal a'' w') ((l.drop n).drop m) a') Q) ((l.drop n).take m) a w) (fun a w hw=>by
  rw [hl] at h2 ⊢
  rw [← hlen] at h2 ⊢
  refine wpAny_mid hns _ _ (l.take n).length _ a w (fun j hj => ?_) (fun j => ?_) h2 hw
  ·simp only [List.getElem?_toArray]
   rw [List.getElem?_take_of_lt (by rw [List.length_take] at hj;omega),List.getElem?_drop,List.length_take]
   have:j < (l.drop n).length:=by omega
   rw [List.length_drop] at this
   congr 1
   omega
  ·simp only [List.getElem?_toArray]
   rw [List.getElem?_drop,List.getElem?_drop]
   by_cases hn:n ≤ l.length
   ·by_cases hmm:m ≤ l.length - n
    ·congr 1
     rw [List.length_take,List.length_take,List.length_drop]
     omega
    ·rw [List.getElem?_eq_none (by omega),List.getElem?_eq_none (by rw [List.length_take,List.length_take,List.length_drop];omega)]
   ·rw [List.getElem?_eq_none (by omega),List.getElem?_eq_none (by rw [List.length_take,List.length_take,List.length_drop];omega)]) _ _ a { w with drawn:=w.drawn + 1 } (by simp) hcl h3
 refine wp_region_any hm ?_
 rw [hl] at h4
 have e1:l.toArray.size = (l.take n).length + (l.drop n).length:=by rw [← List.length_append,hl];simp
 rw [e1]
 have e2:Array.replicate ((l.take n).length + (l.drop n).length) false = Array.replicate (l.take n).length false ++ Array.replicate (l.drop n).length false:=by simp
 rw [e2]
 exact h4
theorem region_mid_d {T:Type} {D:T → World} {id:Nat} {a:Act} {w:World} {l:List Oper} (n m:Nat) (hm:P.follows .mixedOrders = true) (hB:splitB3 l n m = true) (hL:Region.lexB .any (l.take n).toArray = true) (x0:T) (hx0 : { w with drawn:=w.drawn + 1 } = D x0)
  (h:wpQuiet P (l.take n).toArray (fun w'=>∃ x,w' = D x) (fun a'=>∀ x,wpList P l.toArray (headQ (fun a' w'=>wpQuiet P l.toArray (fun x=>x = w') (fun a''=>Q .normal a'' w') ((l.drop n).drop m) a') Q) ((l.drop n).take m) a' (D x)) (l.take n) a):(Code.region id l.toArray true).wp P Q a w :=
 region_mid (C:=fun w'=>∃ x,w' = D x) n m hm hB hL ⟨x0,hx0⟩ (by
  have e:(fun a'=>∀ x,wpList P l.toArray (headQ (fun a' w'=>wpQuiet P l.toArray (fun x=>x = w') (fun a''=>Q .normal a'' w') ((l.drop n).drop m) a') Q) ((l.drop n).take m) a' (D x)) = fun a'=>∀ w',(∃ x,w' = D x) → wpList P l.toArray (headQ (fun a' w'=>wpQuiet P l.toArray (fun x=>x = w') (fun a''=>Q .normal a'' w') ((l.drop n).drop m) a') Q) ((l.drop n).take m) a' w':=by
   funext a'
   exact propext ⟨fun h w' ⟨x,hx⟩=>hx ▸ h x,fun h x=>h _ ⟨x,rfl⟩⟩
  rw [e] at h
  exact h)
end
end Go.Proofs.Herb
