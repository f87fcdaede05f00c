/- A law of regions that draw their order: the last operations, each of which waits for all ahead of them, may be walked behind the others. No program. -/
import Derived.StillTailTactics
import Derived.Orders
import Derived.Tactics
import Derived.Deep.RegionHeld3
namespace Go.Proofs.Herb
def headQ (R:Act → World → Prop) (Q:Exit → Act → World → Prop):Exit → Act → World → Prop
 | .normal,a,w=>R a w
 | e,a,w=>Q e a w
section
variable {P:Program} {md:Region.Mode} {Q:Exit → Act → World → Prop} {R:Act → World → Prop} {ops:Array Oper}
@[go_sem] theorem headQ_normal (a:Act) (w:World):headQ R Q .normal a w = R a w:=rfl
@[go_sem] theorem headQ_exit (id:Nat) (a:Act) (w:World):headQ R Q (.exit id) a w = Q (.exit id) a w:=rfl
@[go_sem] theorem headQ_ret (a:Act) (w:World):headQ R Q .ret a w = Q .ret a w:=rfl
@[go_sem] theorem headQ_panic (ch:List PanicEntry) (a:Act) (w:World):headQ R Q (.panic ch) a w = Q (.panic ch) a w:=rfl
theorem wp_headQ {o:Oper} {a:Act} {w:World} {K:Act → World → Prop} (hh:o.wp P a w K (headQ R Q)):o.wp P a w K Q:=by
 unfold Oper.wp at *
 generalize (execOp a.eval o).run P w = r at *
 cases r with
 | ok n w' =>
  cases n <;> simp only [Oper.upon] at hh ⊢ <;>
   first
    | exact hh
    | exact Calls.mono hh (fun e w'' he=>by cases e <;> exact he)
 | halt x w'=>cases x <;> simp only [Oper.upon] at hh ⊢ <;> exact hh
theorem wpAny_more:∀ (f:Nat) (listed:Array Bool) (a:Act) (w:World),wpAny P md ops Q f listed a w → wpAny P md ops Q (f + 1) listed a w
 | 0,_,_,_,h=>⟨fun _=>h.2,fun i hi=>by rw [h.1] at hi;cases hi⟩
 | f + 1,_,_,_,h=>⟨h.1,fun i hi=>wpOp_mono (fun a' w' h'=>wpAny_more f _ a' w' h') (h.2 i hi)⟩
theorem wpAny_le {f:Nat} {listed:Array Bool} {a:Act} {w:World} (h:wpAny P md ops Q f listed a w):∀ g,wpAny P md ops Q (g + f) listed a w
 | 0=>by rw [Nat.zero_add];exact h
 | g + 1=>by rw [Nat.succ_add];exact wpAny_more _ _ _ _ (wpAny_le h g)
def tlB (md:Region.Mode) (l1 l2:List Oper):Bool :=
 l1.all (fun o=>o.guard.isNone) && l2.all (fun o=>(List.range l1.length).all fun i=>o.after.any fun e=>Region.binds md e && e.on == i) &&
  (List.range l1.length).all fun j=>((l1[j]?).map (fun o=>o.after.all fun e => !Region.binds md e || decide (e.on < j))).getD true
theorem wpAny_split {l1 l2:List Oper} (hB:tlB md l1 l2 = true)
  (hR:∀ a w,R a w → wpAny P md (l1 ++ l2).toArray Q l2.length (Array.replicate l1.length true ++ Array.replicate l2.length false) a w) :
  ∀ (f:Nat) (lh:Array Bool) (a:Act) (w:World),lh.size = l1.length → wpAny P md l1.toArray (headQ R Q) f lh a w → wpAny P md (l1 ++ l2).toArray Q (f + l2.length) (lh ++ Array.replicate l2.length false) a w:=by
 simp only [tlB,Bool.and_eq_true,List.all_eq_true,List.mem_range] at hB
 obtain ⟨⟨hg,hT⟩,hA⟩:=hB
 have hA':∀ j o,l1[j]? = some o → ∀ e ∈ o.after,Region.binds md e = true → e.on < j:=by
  intro j o ho e he hb
  have h:=hA j (List.getElem?_eq_some_iff.1 ho).1
  rw [ho] at h
  simp only [Option.map_some,Option.getD_some,Array.all_eq_true_iff_forall_mem] at h
  have h2:=h e he
  rw [hb] at h2
  simpa using h2
 have hall:∀ lh:Array Bool,lh.size = l1.length → Region.ready md l1.toArray lh = [] → lh = Array.replicate l1.length true:=by
  intro lh hs hr
  have key:∀ j,j < l1.length → lh.getD j true = true:=by
   intro j
   induction j using Nat.strongRecOn with
   | _ j ih =>
    intro hj
    cases hc:lh.getD j true with
    | true=>rfl
    | false =>
     exfalso
     have hm:j ∈ Region.ready md l1.toArray lh:=mem_ready.2 ⟨hc,l1[j],by simp [hj],fun e he hb=>by
      have hlt:=hA' j _ (List.getElem?_eq_getElem hj) e he hb
      have h1:=ih e.on hlt (by omega)
      have h2:e.on < lh.size:=by omega
      simpa [Array.getD,h2] using h1⟩
     rw [hr] at hm
     cases hm
  apply Array.ext
  ·simpa using hs
  ·intro i h1 h2
   have:=key i (by omega)
   simpa [Array.getD,h1] using this
 have hend:∀ (f:Nat) (lh:Array Bool) (a:Act) (w:World),lh.size = l1.length → Region.ready md l1.toArray lh = [] → R a w → wpAny P md (l1 ++ l2).toArray Q (f + l2.length) (lh ++ Array.replicate l2.length false) a w:=by
  intro f lh a w hs hr h
  rw [hall lh hs hr]
  exact wpAny_le (hR a w h) f
 intro f
 induction f with
 | zero=>intro lh a w hs h;exact hend 0 lh a w hs h.1 h.2
 | succ f ih =>
  intro lh a w hs h
  by_cases hr:Region.ready md l1.toArray lh = []
  ·exact hend (f + 1) lh a w hs hr (h.1 hr)
  ·obtain ⟨k,hk⟩:=List.exists_mem_of_ne_nil _ hr
   obtain ⟨hk1,ok,hok,_⟩:=mem_ready.1 hk
   have hkl:k < l1.length:=by simpa using (Array.getElem?_eq_some_iff.1 hok).1
   have hks:lh[k]? = some false:=by
    have h2:k < lh.size:=by omega
    simp [Array.getD,h2] at hk1
    simp [h2,hk1]
   have hmem:∀ i,i ∈ Region.ready md (l1 ++ l2).toArray (lh ++ Array.replicate l2.length false) → i < l1.length ∧ i ∈ Region.ready md l1.toArray lh:=by
    intro i hi
    obtain ⟨h1,o,ho,h3⟩:=mem_ready.1 hi
    by_cases hil:i < l1.length
    ·have ho1:l1[i]? = some o:=by
      have:(l1 ++ l2)[i]? = some o:=by simpa using ho
      rwa [List.getElem?_append_left hil] at this
     refine ⟨hil,mem_ready.2 ⟨?_,o,by simpa using ho1,fun e he hb => ?_⟩⟩
     ·have h2:i < lh.size:=by omega
      simpa [Array.getD_eq_getD_getElem?,Array.getElem?_append_left h2] using h1
     ·have hlt:=hA' i o ho1 e he hb
      have h2:e.on < lh.size:=by omega
      have h4:=h3 e he hb
      simpa [Array.getD_eq_getD_getElem?,Array.getElem?_append_left h2] using h4
    ·exfalso
     have ho2:o ∈ l2:=by
      have:(l1 ++ l2)[i]? = some o:=by simpa using ho
      rw [List.getElem?_append_right (by omega)] at this
      exact List.mem_of_getElem? this
     have h4:=hT o ho2 k hkl
     simp only [Array.any_eq_true',Bool.and_eq_true,beq_iff_eq] at h4
     obtain ⟨e,he,hb,hon⟩:=h4
     have h5:=h3 e he hb
     rw [hon] at h5
     have h2:k < lh.size:=by omega
     simp [Array.getD_eq_getD_getElem?,Array.getElem?_append_left h2,hks] at h5
   rw [show f + 1 + l2.length = (f + l2.length) + 1 from by omega]
   refine ⟨fun hn => ?_,fun i hi => ?_⟩
   ·exfalso
    have:k ∈ Region.ready md (l1 ++ l2).toArray (lh ++ Array.replicate l2.length false):=by
     obtain ⟨_,o,ho,h3⟩:=mem_ready.1 hk
     have ho1:l1[k]? = some o:=by simpa using ho
     have h2:k < lh.size:=by omega
     refine mem_ready.2 ⟨by simp [Array.getD_eq_getD_getElem?,Array.getElem?_append_left h2,hks],o,by simp [List.getElem?_append_left hkl,ho1],fun e he hb => ?_⟩
     have hlt:=hA' k o ho1 e he hb
     have h6:e.on < lh.size:=by omega
     have h4:=h3 e he hb
     simpa [Array.getD_eq_getD_getElem?,Array.getElem?_append_left h6] using h4
    rw [hn] at this
    cases this
   ·obtain ⟨hil,hi2⟩:=hmem i hi
    have hw:=h.2 i hi2
    have hl:(l1 ++ l2).toArray[i]? = l1.toArray[i]?:=by simp [List.getElem?_append_left hil]
    have hgi:∀ o,l1.toArray[i]? = some o → o.guard = none:=fun o ho=>by
     have:o ∈ l1:=List.mem_of_getElem? (by simpa using ho)
     simpa using hg o this
    have hset:(lh ++ Array.replicate l2.length false).setIfInBounds i true = lh.setIfInBounds i true ++ Array.replicate l2.length false:=by
     rw [Array.setIfInBounds_append_left (by omega)]
    unfold wpOp at hw ⊢
    rw [hl]
    rw [hset]
    cases ho:l1.toArray[i]? with
    | none=>rw [ho] at hw;exact ih _ _ _ (by simpa using hs) hw
    | some o =>
     rw [ho] at hw
     have hgo:=hgi o ho
     simp only [Region.wanted,hgo,if_true] at hw ⊢
     rcases hw with hw | ⟨hw1,hw2⟩
     ·exact .inl (Oper.wp_mono (fun a' w' h'=>ih _ _ _ (by simpa using hs) h') (wp_headQ hw))
     ·exact .inr ⟨hw1,hw2⟩
def splitB (l:List Oper) (n:Nat):Bool :=
 tlB .any (l.take n) (l.drop n) && Region.seqB .any (l.take n ++ l.drop n).toArray (l.drop n).length (l.take n).length (Array.replicate (l.take n).length true ++ Array.replicate (l.drop n).length false)
theorem wp_region_split {id:Nat} {l:List Oper} {S:World → Prop} {a:Act} {w:World} (n:Nat) (hm:P.follows .mixedOrders = true) (hB:splitB l n = true) (hS:S w.drew)
  (h:S w.drew → wpAnyH P .any (l.take n).toArray (headQ (fun a w=>wpList P l.toArray Q (l.drop n) a w) Q) S (l.take n).length (Array.replicate (l.take n).length false) a w.drew) :
  (Code.region id l.toArray true).wp P Q a w:=by
 simp only [splitB,Bool.and_eq_true] at hB
 obtain ⟨h1,h2⟩:=hB
 have hl:l.take n ++ l.drop n = l:=List.take_append_drop n l
 have h3:=wpAny_of_held _ _ _ _ (h hS)
 have h4:=wpAny_split (P:=P) (Q:=Q) h1 (R:=fun a w=>wpList P l.toArray Q (l.drop n) a w) (fun a w hw=>by
  refine wpAny_of_seq (l.drop n) (l.take n).length _ a w (fun j => ?_) h2 (by rw [hl];exact hw)
  simp only [List.getElem?_toArray]
  rw [List.getElem?_append_right (by omega)]
  congr 1
  omega) _ _ a w.drew (by simp) h3
 refine wp_region_any hm ?_
 rw [hl] at h4
 have e1:l.toArray.size = (l.take n).length + (l.drop n).length:=by rw [← List.length_append,hl];simp
 rw [e1]
 have e2:Array.replicate ((l.take n).length + (l.drop n).length) false = Array.replicate (l.take n).length false ++ Array.replicate (l.drop n).length false:=by simp
 rw [e2]
 exact h4
theorem take_held {S:World → Prop} {l rest:List Oper} {oi:Oper} {v:Value} {fuel:Nat} {listed:Array Bool} {a:Act} {w:World} (i:Nat) (hd:l.drop i = oi :: rest)
  (hs:Region.noSelect l.toArray = true) (hf:Region.free md l.toArray listed i = true) (hr:(Region.ready md l.toArray listed).contains i = true)
  (hQ:∀ c a w,Q (.panic c) (a.put oi.dst v) w → Q (.panic c) a w) (hy:YieldsIf P l.toArray S oi v a) (hS:S w)
  (h:wpAnyH P md l.toArray Q S fuel (listed.setIfInBounds i true) (a.put oi.dst v) w):wpAnyH P md l.toArray Q S (fuel + 1) listed a w:=by
 have hi:l.toArray[i]? = some oi:=by
  have:(l.drop i)[0]? = some oi:=by rw [hd];rfl
  simpa using this
 exact wpAnyH_take hi hs hf hr hQ hy hS h
theorem cons_held {S:World → Prop} {l rest:List Oper} {o:Oper} {rs:List Nat} {fuel:Nat} {listed:Array Bool} {a:Act} {w:World} (i:Nat) (hd:l.drop i = o :: rest)
  (h:∀ K':Act → World → Prop,Shut (∀ a w,S w → (S w → wpAnyH P md l.toArray Q S fuel (listed.setIfInBounds i true) a w) → K' a w) → if Region.wanted o (yielded l.toArray a.tmps) = true then Oper.wp P o a w K' Q else K' (a.put o.dst undef) w)
  (hs:AllReadyH P md l.toArray Q S fuel listed a w rs):AllReadyH P md l.toArray Q S fuel listed a w (i :: rs):=by
 have hi:l.toArray[i]? = some o:=by
  have:(l.drop i)[0]? = some o:=by rw [hd];rfl
  simpa using this
 exact AllReadyH.cons hi h hs
end
end Go.Proofs.Herb
