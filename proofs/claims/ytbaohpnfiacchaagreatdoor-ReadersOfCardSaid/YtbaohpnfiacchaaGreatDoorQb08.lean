/- The contract of the iterator of blooms.places. For a key of so many bytes. A drawn region whose operations leave the world as it is, but for a tail in fixed order: inside a fence, in a round too. -/
import Derived.Shelf.Abstract
import Derived.Shelf.RegionOpen
import Derived.OwnWalkIn
import Derived.TacticsInMore
import Derived.LoopNIn
import Derived.LoopIn
import Derived.IntWalk
import Derived.Lib.ConvBytes
import Derived.Laws.BitsAllLaws
import Derived.StillTail
import Derived.StillTactics
import Derived.OrdersIn
import Derived.TacticsIn
import Derived.Test.YtbaohpnfiacchaaGreatDoorQb04
import Derived.Test.YtbaohpnfiacchaaGreatDoorQb06
import Derived.Test.YtbaohpnfiacchaaGreatDoorQb07
namespace Go.Proofs.Herb
open Go.RowKit
attribute [local go_sem] Oper.semAt_some
def plAt (x:Int) (m:Nat):Nat:=(if x.tmod m < 0 then x.tmod m + m else x.tmod m).toNat
def plF:Nat → Int → Int → Nat → List Nat
 | 0,_,_,_=>[]
 | f + 1,x,y,m=>plAt x m :: plF f (2 * x - y) (x + 2 * y) m
def placesF (key:List UInt8) (m:Nat):List Nat:=plF 6 (((crcMore 0 key).toNat % 65536:Nat):Int) (((crcMore 0 key).toNat / 65536:Nat):Int) m
theorem plAt_lt (x:Int) (m:Nat) (h:0 < m):plAt x m < m:=by
 unfold plAt
 have h1:=Int.tmod_lt_of_pos x (show (0:Int) < (m:Int) by omega)
 have h2:=Int.lt_tmod_of_pos x (show (0:Int) < (m:Int) by omega)
 split <;> omega
theorem plF_len:∀ (f:Nat) (x y:Int) (m:Nat),(plF f x y m).length = f
 | 0,_,_,_=>rfl
 | f + 1,x,y,m=>by rw [plF,List.length_cons,plF_len]
theorem plF_lt:∀ (f:Nat) (x y:Int) (m:Nat),0 < m → ∀ a ∈ plF f x y m,a < m
 | 0,_,_,_,_,a,h=>by cases h
 | f + 1,x,y,m,h0,a,h=>by
  rw [plF,List.mem_cons] at h
  rcases h with rfl | h
  ·exact plAt_lt _ _ h0
  ·exact plF_lt f _ _ m h0 a h
theorem places_any (key:ByteArray) (m:Int) (w:World) :
  Calls Tryz.prog 84 #[.string key,.int .i64 m] w fun e w'=>e = .returned (.func (.func 114) #[] #[.pointer (some ⟨w.heap.size,0,none⟩),.pointer (some ⟨w.heap.size + 1,0,none⟩)]) ∧ w' = (w.alloc (.cells #[.string key] 9)).alloc (.cells #[.int .i64 m] 3):=by
 go_enter Tryz.func84,Tryz.ntmps84
 go_wp2
 go_ret
 exact ⟨rfl,rfl⟩
theorem convS (w:World) (s:ByteArray):∃ c w',(convert 9 22 (.string s)).run Tryz.prog w = .ok (.slice (some ⟨w.heap.size,0,none⟩) s.size c) w' ∧ Rd w' (some ⟨w.heap.size,0,none⟩) (s.data.toList.map bv) ∧ Below w.heap.size w w' ∧ s.size ≤ c:=by
 refine ⟨_,_,Lib.run_convert_string_bytes w 9 22 5 s Tryz.underlying9 Tryz.underlying22 Tryz.underlying5,.inr ⟨_,_,rfl,fun j u hu => ?_⟩,⟨rfl,rfl,rfl,by rw [Lib.bytesWorld_size];omega,fun k hk=>Lib.bytesWorld_at_old w 5 s k hk⟩,grownCap_ge _ _ _ _⟩
 have hj:j < s.data.toList.length:=by have:=(List.getElem?_eq_some_iff.1 hu).1;simpa using this
 have hjs:j < s.size:=by rw [Array.length_toList] at hj;exact hj
 rw [Nat.zero_add,Lib.bytesWorld_cell w 5 s j hjs,← hu,List.getElem?_map,List.getElem?_eq_getElem hj]
 simp only [Option.map_some,bv,List.getD_eq_getElem?_getD,List.getElem?_eq_getElem hj,Option.getD_some]
theorem fl_two:fl 2 = 4611686018427387904:=by decide +kernel
theorem fl_one:fl 1 = 4607182418800017408:=by decide +kernel
theorem turn_run (x y:Int) (hx:x.natAbs < 2 ^ 40) (hy:y.natAbs < 2 ^ 40) (t:TypeId) (w:World):(binOp .mul t (.complex .f64 (fl x) (fl y)) (.complex .f64 4611686018427387904 4607182418800017408)).run Tryz.prog w = .ok (.complex .f64 (fl (2 * x - y)) (fl (x + 2 * y))) w :=
 run_complex_mul w t _ _ _ _ _ _ (by rw [← fl_two,← fl_one];exact turn_fl x y hx hy)
theorem real_run (x:Int) (hx:x.natAbs < 2 ^ 40) (w:World):(convert 168 3 (.float .f64 (fl x))).run Tryz.prog w = .ok (.int .i64 x) w :=
 run_convert_float_int w 168 3 .f64 .i64 (fl x) x (by rw [Tryz.underlying168];rfl) Tryz.underlying3 (int_fl x (by omega))
theorem float_run (n:Int) (w:World):(convert 23 168 (.int .u32 n)).run Tryz.prog w = .ok (.float .f64 (fl n)) w:=by
 simp [convert,run_underlying Tryz.underlying23,run_underlying Tryz.underlying168,Conv.intToFloat,nearest_fl]
theorem and_form (S:Nat) (h:S < 4294967296):bits .and .u32 (S:Int) 65535 = ((S % 65536:Nat):Int):=by
 rw [show (65535:Int) = ((65535:Nat):Int) from rfl,u32_and_nat _ _ h (by decide)]
 congr 1
 exact Nat.and_two_pow_sub_one_eq_mod S 16
set_option maxRecDepth 100000 in
set_option maxHeartbeats 2000000 in
theorem places1_in (nn B1 B2 base m:Nat) (hnn:1 ≤ nn) (key:ByteArray) (hk:key.size ≤ 1000000) (hm0:0 < m) (hm:m ≤ 1000000000) :
  SeqGood Fence.wide nn Tryz.prog 114 #[.pointer (some ⟨B1,0,none⟩),.pointer (some ⟨B2,0,none⟩)] (fun x:Nat => #[.int .i64 (x:Int)]) (Only (fun _=>False)) (fun pre x _=>x < m ∧ ∃ rest,placesF key.data.toList m = pre ++ x :: rest)
   (fun A B=>KeepB B2 A B) (fun xs=>xs = placesF key.data.toList m) base (fun W=>Boxed W B1 9 (.string key) ∧ Boxed W B2 3 (.int .i64 (m:Int))):=by
 intro lp J Jx W hb hOk hJ hJx hY h0
 have HY:=hid hY
 have HJ:=hid hJ
 have HOk:=hid hOk
 clear hY hJ hJx hOk hb
 refine callsIn_of_wp Tryz.func114 rfl trivial ?_ rfl
 simp only [Tryz.ntmps114,List.size_toArray,List.length_cons,List.length_nil,Nat.reduceAdd,Nat.reduceSub,Array.replicate_succ,Array.replicate_zero,List.push_toArray,List.append_toArray,List.nil_append,List.cons_append]
 have c1:=HOk.out.1.cell
 obtain ⟨cc,W1,hcv,hrd,hb1,hcc⟩:=convS W key
 have hk1:W1.heap[B2]? = _:=(hb1.block _ HOk.out.2.lt).trans HOk.out.2
 have HX1:=hid hk1
 have HJ1:=hid (HJ.out _ _ _ h0 (Only.of_below hb1))
 obtain ⟨S,hS⟩:∃ S,S = (crcMore 0 key.data.toList).toNat:=⟨_,rfl⟩
 have hSl:S < 4294967296:=by rw [hS];exact (crcMore 0 key.data.toList).isLt
 have hO:=of_any (some ⟨W.heap.size,0,none⟩) key.size cc key.data.toList W1 (by rw [Array.length_toList];rfl) (by omega) hrd
 rw [← hS] at hO
 have hP:placesF key.data.toList m = plF 6 ((S % 65536:Nat):Int) ((S / 65536:Nat):Int) m:=by unfold placesF;rw [hS]
 have ha:=and_form S hSl
 have e2:(S:Int) / 65536 = ((S / 65536:Nat):Int):=by omega
 obtain ⟨X0,hX0⟩:∃ X,X = S % 65536:=⟨_,rfl⟩
 obtain ⟨Y0,hY0⟩:∃ X,X = S / 65536:=⟨_,rfl⟩
 rw [← hX0] at ha hP
 rw [← hY0] at e2 hP
 have hX0l:X0 < 65536:=by omega
 have hY0l:Y0 < 65536:=by omega
 have HP:=hid hP
 have HO:=hid hO
 have HA:=hid ha
 have HE:=hid e2
 have hfl:=float_run
 have hre:=real_run
 clear hS hP hO hrd hb1 hk1 ha e2 h0 hX0 hY0
 gi_wp2_with fail
 refine ⟨trivial,(callsIn_wide.2 HO.out).mono ?_⟩
 rintro e W2 ⟨rfl,hb2⟩
 have hX2:Boxed W2 B2 3 (.int .i64 (m:Int)):=(hb2.block _ (lt_of_block HX1.out)).trans HX1.out
 have HX2:=hid hX2
 have HJ2:=hid (HJ.out _ _ _ HJ1.out (Only.of_below hb2))
 clear hb2 hX2 hcv
 gi_wp2
 rw [HA.out,HE.out]
 gi_wp2
 gi_loopw [5,17] (fun v5 v17 wr=>∃ (k:Nat) (x y:Int) (pre:List Nat),k ≤ 6 ∧ v17 = .int .i64 (k:Int) ∧ v5 = .complex .f64 (fl x) (fl y) ∧ x.natAbs ≤ 65536 * 3 ^ k ∧ y.natAbs ≤ 65536 * 3 ^ k ∧ placesF key.data.toList m = pre ++ plF (6 - k) x y m ∧ J pre wr ∧ Boxed wr B2 3 (.int .i64 (m:Int))) (fun _ v17 _=>6 - (intOf v17).toNat)
 case atStart=>exact ⟨0,_,_,[],Nat.zero_le _,rfl,rfl,by omega,by omega,by rw [HP.out];rfl,HJ2.out,HX2.out⟩
 case round =>
  obtain ⟨k,x,y,pre,hk,rfl,rfl,hx,hy,hpl,hJp,hbox⟩:=hrel
  have cB:=hbox.cell
  have Hpl:=hid hpl
  have HJp:=hid hJp
  have Hbox:=hid hbox
  have Hx:=hid hx
  have Hy:=hid hy
  have h3:3 ^ k ≤ 729:=by
   rcases (show k = 0 ∨ k = 1 ∨ k = 2 ∨ k = 3 ∨ k = 4 ∨ k = 5 ∨ k = 6 by omega) with rfl | rfl | rfl | rfl | rfl | rfl | rfl <;> decide
  have hx40:x.natAbs < 2 ^ 40:=by omega
  have hy40:y.natAbs < 2 ^ 40:=by omega
  clear hpl hJp hbox hx hy h3
  by_cases hlt:k < 6
  ·have hre:=real_run x hx40
   have hmu:=turn_run x y hx40 hy40
   have t1:x.tmod (m:Int) < (m:Int):=Int.tmod_lt_of_pos x (by omega)
   have t2 : -(m:Int) < x.tmod (m:Int):=Int.lt_tmod_of_pos x (by omega)
   have hne:((m:Int) == 0) = false:=by rw [beq_eq_false_iff_ne];omega
   have hnz:¬ (m:Int) = 0:=by omega
   have hpa:((plAt x m:Nat):Int) = if x.tmod (m:Int) < 0 then x.tmod (m:Int) + (m:Int) else x.tmod (m:Int):=by
    unfold plAt
    split <;> omega
   have hlt2:=plAt_lt x m hm0
   obtain ⟨A,hA⟩:∃ A,A = plAt x m:=⟨_,rfl⟩
   rw [← hA] at hpa hlt2
   have hst:plF (6 - k) x y m = A :: plF (6 - (k + 1)) (2 * x - y) (x + 2 * y) m:=by
    rw [show 6 - k = (6 - (k + 1)) + 1 by omega,plF,hA]
   have HST:=hid hst
   obtain ⟨fn,tmps,assign,body,hy',hR⟩:=HY.out pre A wr HJp.out ⟨hlt2,_,by rw [Hpl.out,hst]⟩
   have HR:=hid hR
   clear hA hst hR
   by_cases hng:x.tmod (m:Int) < 0
   ·rw [if_pos hng] at hpa
    rw [hpa] at hy'
    have dn:decide (x.tmod (m:Int) < 0) = true:=by simpa using hng
    clear hpa
    gi_wp2
    refine HR.out.mono ?_
    rintro e W3 (⟨rfl,hJ3,hk3⟩ | ⟨rfl,hJ3⟩)
    ·have hbox3:Boxed W3 B2 3 (.int .i64 (m:Int)):=hk3 _ Hbox.out
     have HJ3:=hid hJ3
     have Hbox3:=hid hbox3
     clear hJ3 hk3 hbox3 hy' HR
     gi_wp2
     go_roundw
     case rel=>exact ⟨k + 1,2 * x - y,x + 2 * y,pre ++ [A],by omega,by go_num,rfl,by have:=Hx.out;have:=Hy.out;rw [Nat.pow_succ];omega,by have:=Hx.out;have:=Hy.out;rw [Nat.pow_succ];omega,by rw [Hpl.out,HST.out];simp,HJ3.out,Hbox3.out⟩
     case measure=>simp [intOf];omega
    ·have HJ3:=hid hJ3
     clear hJ3 hy' HR
     gi_wp2
     refine bodyPost_ret (results_none rfl _ _ _) rfl ?_
     exact ⟨⟨_,rfl⟩,.inr ⟨_,HJ3.out⟩⟩
   ·rw [if_neg hng] at hpa
    rw [hpa] at hy'
    have dn:decide (x.tmod (m:Int) < 0) = false:=by simpa using hng
    clear hpa
    gi_wp2
    refine HR.out.mono ?_
    rintro e W3 (⟨rfl,hJ3,hk3⟩ | ⟨rfl,hJ3⟩)
    ·have hbox3:Boxed W3 B2 3 (.int .i64 (m:Int)):=hk3 _ Hbox.out
     have HJ3:=hid hJ3
     have Hbox3:=hid hbox3
     clear hJ3 hk3 hbox3 hy' HR
     gi_wp2
     go_roundw
     case rel=>exact ⟨k + 1,2 * x - y,x + 2 * y,pre ++ [A],by omega,by go_num,rfl,by have:=Hx.out;have:=Hy.out;rw [Nat.pow_succ];omega,by have:=Hx.out;have:=Hy.out;rw [Nat.pow_succ];omega,by rw [Hpl.out,HST.out];simp,HJ3.out,Hbox3.out⟩
     case measure=>simp [intOf];omega
    ·have HJ3:=hid hJ3
     clear hJ3 hy' HR
     gi_wp2
     refine bodyPost_ret (results_none rfl _ _ _) rfl ?_
     exact ⟨⟨_,rfl⟩,.inr ⟨_,HJ3.out⟩⟩
  ·obtain rfl:k = 6:=by omega
   gi_wp2
   refine ⟨rfl,_,results_none rfl _ _ _, ?_⟩
   exact ⟨⟨_,rfl⟩,.inl ⟨pre,by rw [Hpl.out];simp [plF],HJp.out⟩⟩
end Go.Proofs.Herb
namespace Go
section
variable {F:Fence} {n:Nat} {P:Program} {ops:Array Oper} {md:Region.Mode} {w:World}
def Oper.tame (o:Oper):Bool:=match o.op with
 | .move _ | .assign _ | .pick _ _ _ | .load _ _ | .binOp _ _ _ _ _ | .unOp _ _ _ | .convert _ _ _ | .makeInterface _ _ | .slice _ _ _ _ _ | .fieldAddr _ _ _ | .field _ _ _ | .indexAddr _ _ _ | .index _ _ _ | .extract _ _ | .typeAssert _ _ _ _=>true
 | _=>false
theorem Oper.tame_about {o:Oper} (h:o.tame = true) (w:World) (ρ:Operand → Value):o.about P w ρ = none:=by
 unfold Oper.about
 unfold Oper.tame at h
 cases ho:o.op <;> simp only [ho] at h ⊢
 all_goals exact absurd h (by simp)
theorem run_value_only (s:Sem Value) (w w':World) (f:FuncId) (args:Array Value):¬ ((do pure (Next.value (← s)):Sem Next).run P w = .ok (.enter f args) w'):=by
 intro h
 simp only [Sem.run_bind] at h
 cases hr:s.run P w <;> simp [hr,Result.andThen] at h
theorem Oper.tame_enter {o:Oper} (h:o.tame = true) (ρ:Operand → Value) (w w':World) (f:FuncId) (args:Array Value):¬ ((execOp ρ o).run P w = .ok (.enter f args) w'):=by
 unfold Oper.tame at h
 unfold execOp
 cases ho:o.op <;> simp only [ho] at h ⊢
 all_goals first | exact run_value_only _ _ _ _ _ | contradiction | skip
 all_goals (intro h';simp at h')
 all_goals (rename_i c _ _;cases hr:(asBool (ρ c)).run P w <;> simp [hr,Result.andThen] at h')
theorem Oper.tame_sem {o:Oper} (h:o.tame = true) (r:Option Nat) (ρ:Operand → Value):Oper.semAt r ρ o = execOp ρ o :=
 Oper.semAt_eq r ρ o (fun c hc=>by simp [Oper.tame,hc] at h)
theorem Oper.wpIn_of_still {o:Oper} {a:Act} {K:Act → Prop} {K':Act → World → Prop} {Q':Exit → Act → World → Prop} (ht:o.tame = true) (h:∀ a,K a → K' a w) (hh:o.still P a w K):o.wpIn F n P a w K' Q':=by
 refine ⟨fun f hf=>(by rw [Oper.tame_about ht] at hf;cases hf), ?_⟩
 rw [Oper.tame_sem ht]
 unfold Oper.still at hh
 generalize hr:(execOp a.eval o).run P w = r at *
 cases r with
 | ok x w' =>
  cases x <;> simp only [Oper.stillUpon] at hh <;> simp only [Oper.uponIn]
  case enter f args=>exact absurd hr (Oper.tame_enter ht _ _ _ _ _)
  all_goals (obtain ⟨rfl,h2⟩:=hh;exact h _ h2)
 | halt x w'=>simp only [Oper.stillUpon] at hh
theorem wpOpIn_of_stOp {i:Nat} {a:Act} {K:Act → Prop} {K':Act → World → Prop} {Q':Exit → Act → World → Prop} (ht:∀ o,ops[i]? = some o → o.tame = true) (h:∀ a,K a → K' a w) (hh:stOp P ops w i K a):wpOpIn F n P ops Q' i K' a w:=by
 unfold stOp at hh
 unfold wpOpIn
 split
 ·rename_i ho;simp only [ho] at hh;exact h _ hh
 ·rename_i o ho
  simp only [ho] at hh
  split
  ·rename_i hw;simp only [hw,if_true] at hh;exact Oper.wpIn_of_still (ht o ho) h hh
  ·rename_i hw;simp only [hw] at hh;exact ⟨fun f hf=>(by rw [Oper.tame_about (ht o ho)] at hf;cases hf),h _ hh⟩
theorem wpAnyIn_of_head {m g:Nat} {L:Array Bool → Act → Prop} {Q':Exit → Act → World → Prop} (ht:∀ i o,i < m → ops[i]? = some o → o.tame = true) (hL:∀ listed a,L listed a → wpAnyIn F n P md ops Q' g listed a w) :
  ∀ (f:Nat) (listed:Array Bool) (a:Act),wpAnyL P md ops w m L f listed a → wpAnyIn F n P md ops Q' (f + g) listed a w
 | 0,listed,a,h=>by rw [Nat.zero_add];exact hL _ _ h
 | f + 1,listed,a,h=>by
  rw [show f + 1 + g = (f + g) + 1 by omega]
  exact ⟨fun h0=>absurd h0 h.1,fun i hi=>wpOpIn_of_stOp (fun o ho=>ht i o (h.2 i hi).1 ho) (fun a' h'=>wpAnyIn_of_head ht hL f _ a' h') (h.2 i hi).2⟩
theorem wpAnyIn_of_seq {Q':Exit → Act → World → Prop}:∀ (l:List Oper) (k:Nat) (listed:Array Bool) (a:Act) (w:World),(∀ j,l[j]? = ops[k + j]?) →
  Region.seqB md ops l.length k listed = true → wpListIn F n P ops Q' l a w → wpAnyIn F n P md ops Q' l.length listed a w
 | [],_,_,_,_,_,hB,h=>⟨by simpa [Region.seqB] using hB,h⟩
 | o :: l,k,listed,a,w,hl,hB,h=>by
  have h0:ops[k]? = some o:=by simpa using (hl 0).symm
  simp only [List.length_cons,Region.seqB,Bool.and_eq_true,decide_eq_true_eq] at hB
  refine ⟨fun h1=>(by rw [hB.1] at h1;cases h1),fun i hi => ?_⟩
  rw [hB.1] at hi
  have hik:i = k:=by simpa using hi
  subst hik
  have hw:wpOpIn F n P ops Q' i (wpListIn F n P ops Q' l) a w:=by unfold wpOpIn;simp only [h0];exact h
  exact wpOpIn_mono (fun a' w' h'=>wpAnyIn_of_seq l (i + 1) _ a' w' (fun j=>by have:=hl (j + 1);simpa [Nat.add_assoc,Nat.add_comm 1 j] using this) hB.2 h') hw
theorem wpIn_region_still_tail {id:Nat} {Q:Exit → Act → World → Prop} {a:Act} {w:World} {l:List Oper} (m:Nat) (hm:P.follows .mixedOrders = true) (hB:(Region.lexTailB .any l.toArray m && (l.take m).all Oper.tame) = true)
  (h:wpStill P l.toArray { w with drawn:=w.drawn + 1 } (fun a'=>wpListIn F n P l.toArray Q (l.drop m) a' { w with drawn:=w.drawn + 1 }) (l.take m) a):(Code.region id l.toArray true).wpIn F n P Q a w:=by
 simp only [Region.lexTailB,Bool.and_eq_true,decide_eq_true_eq] at hB
 obtain ⟨⟨⟨⟨⟨hsel,hn⟩,hs⟩,hc⟩,hlex⟩,htame⟩:=hB
 have hn':m < l.length:=by simpa using hn
 have htl:(l.take m).length = m:=by simp;omega
 have hdl:(l.drop m).length = l.toArray.size - m:=by simp
 have inv0:HeadInv .any l.toArray m (Array.replicate l.toArray.size false) :=
  ⟨by simp,fun j oj _ hl=>(by rw [getD_replicate_false] at hl;cases hl),fun t _ ht=>getD_in (by simpa using ht) (getD_replicate_false _ _)⟩
 have H:=wpAnyL_lex (md:=.any) (g:=l.toArray.size - m) hsel hs hc hn (l.take m) 0 _ a (fun j hj=>by
  have hj':j < m:=by rw [htl] at hj;exact hj
  simp [hj']) (by simpa using htl) inv0 (by rw [htl];exact hlex) h
 refine wpIn_region_any hm ?_
 have:=wpAnyIn_of_head (F:=F) (n:=n) (Q':=Q) (g:=l.toArray.size - m) (fun i o hi ho=>by
  have ho':l[i]? = some o:=by simpa using ho
  exact List.all_eq_true.1 htame o (List.mem_of_getElem? (i:=i) (by rw [List.getElem?_take,if_pos hi];exact ho'))) (fun listed a' hL=>by
  have:=wpAnyIn_of_seq (F:=F) (n:=n) (md:=.any) (Q':=Q) (l.drop m) m listed a' { w with drawn:=w.drawn + 1 } (fun j=>by simp [List.getElem?_drop]) (by rw [hdl];exact hL.1) hL.2
  rwa [hdl] at this) _ _ _ H
 rw [htl,show m + (l.toArray.size - m) = l.toArray.size by omega] at this
 exact this
end
end Go
