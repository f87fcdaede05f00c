/- The contracts of the closure that From searches by, and of sort.Search with it. What a range over From tells, and what a round may write: plain. From's iterator: what it promises. The contract of readers.(*Reader).From; where the range of law13.told stands. What is told of a built table, from a key and time on: plain. -/
import Derived.Sort.CutIn
import Derived.Test.YtbaohpnfiacchaaGreatDoorQb13
import Derived.Test.YtbaohpnfiacchaaGreatDoorQb19
import Derived.Test.YtbaohpnfiacchaaGreatDoorQb24
namespace Go.Proofs.Herb
open Go.RowKit
def seekI (cs:List Chk) (s:ByteArray):Nat:=(cs.takeWhile fun c=>bL c.last.data.toList s.data.toList).length
theorem seekI_le (cs:List Chk) (s:ByteArray):seekI cs s ≤ cs.length:=by
 unfold seekI
 exact (List.takeWhile_prefix _).length_le
theorem takeWhile_at {α:Type} (p : α → Bool):∀ (l:List α) (i:Nat) (h:i < l.length),i < (l.takeWhile p).length → p l[i] = true
 | [],i,h,_=>by simp at h
 | x :: l,i,h,hi=>by
  rw [List.takeWhile_cons] at hi
  split at hi
  ·rename_i hp
   cases i with
   | zero=>exact hp
   | succ i=>exact takeWhile_at p l i (by simpa using h) (by simpa using hi)
  ·simp at hi
theorem takeWhile_end {α:Type} (p : α → Bool):∀ (l:List α) (h:(l.takeWhile p).length < l.length),p (l[(l.takeWhile p).length]'h) = false
 | [],h=>by simp at h
 | x :: l,h=>by
  by_cases hp:p x = true
  ·have e:(x :: l).takeWhile p = x :: l.takeWhile p:=by rw [List.takeWhile_cons,if_pos hp]
   have h2:(l.takeWhile p).length < l.length:=by rw [e] at h;simpa using h
   have h3:=takeWhile_end p l h2
   simp only [e,List.length_cons,List.getElem_cons_succ]
   exact h3
  ·have e:(x :: l).takeWhile p = []:=by rw [List.takeWhile_cons,if_neg hp]
   simp only [e,List.length_nil,List.getElem_cons_zero]
   simpa using hp
def RiseC (cs:List Chk):Prop:=∀ (i j:Nat) (hj:j < cs.length) (hi:i < j),bL (cs[i]'(by omega)).last.data.toList cs[j].last.data.toList = true
theorem seekI_lt {cs:List Chk} {s:ByteArray} {i:Nat} (h:i < cs.length) (hi:i < seekI cs s):bL cs[i].last.data.toList s.data.toList = true:=takeWhile_at _ cs i h hi
theorem seekI_ge {cs:List Chk} (hr:RiseC cs) {s:ByteArray} {i:Nat} (h:i < cs.length) (hi:seekI cs s ≤ i):bL cs[i].last.data.toList s.data.toList = false:=by
 have h0:seekI cs s < cs.length:=by omega
 have h1:bL (cs[seekI cs s]'h0).last.data.toList s.data.toList = false:=takeWhile_end (fun c:Chk=>bL c.last.data.toList s.data.toList) cs h0
 by_cases e:seekI cs s = i
 ·subst e
  exact h1
 ·have h2:=hr (seekI cs s) i h (by omega)
  cases h3:bL cs[i].last.data.toList s.data.toList with
  | false=>rfl
  | true=>rw [bl_trans h2 h3] at h1;cases h1
structure ClosAt (w:World) (b1 b5 R:Nat) (r:Rdr) (s:ByteArray):Prop where
 rd:RdrAt w R r
 bx:Boxed w b1 30 (.pointer (some ⟨R,0,none⟩))
 sk:Boxed w b5 9 (.string s)
theorem ClosAt.below {w w':World} {b1 b5 R:Nat} {r:Rdr} {s:ByteArray} (h:ClosAt w b1 b5 R r s) (hb:Below w.heap.size w w'):ClosAt w' b1 b5 R r s :=
 ⟨h.rd.below hb,(hb.block _ h.bx.lt).trans h.bx,(hb.block _ h.sk.lt).trans h.sk⟩
set_option maxRecDepth 100000 in
set_option maxHeartbeats 1000000 in
theorem clos_any (b1 b5 R:Nat) (r:Rdr) (s:ByteArray) (i:Nat) (w:World) (h:ClosAt w b1 b5 R r s) (hi:i < r.chunks.length) :
  Calls Tryz.prog 66 #[.int .i64 (i:Int),.pointer (some ⟨b1,0,none⟩),.pointer (some ⟨b5,0,none⟩)] w fun e w'=>e = .returned (.bool (!bL (r.chunks[i]'hi).last.data.toList s.data.toList)) ∧ Below w.heap.size w w':=by
 obtain ⟨q,cp,fq,fc,kq,kc,hrow, -, -, -, -, -, -, -,hkc,hkm,hkr⟩:=h.rd.ex
 obtain ⟨bk,ok,rfl, -,ic0, -, -⟩:=chk_at hkr hi
 have c10:w.cell? ⟨R,10,none⟩ = some (.slice (some ⟨bk,ok,none⟩) r.chunks.length kc):=by rw [cell_of_row _ _ _ _ _ _ hrow];rfl
 have cb:=h.bx.cell
 have cs:=h.sk.cell
 obtain ⟨N,hN⟩:∃ N,N = r.chunks.length:=⟨_,rfl⟩
 obtain ⟨lk,hlk⟩:∃ s,s = (r.chunks[i]'hi).last:=⟨_,rfl⟩
 rw [← hlk] at ic0 ⊢
 rw [← hN] at c10 hi
 clear hN hlk hrow hkc hkm hkr h
 have hb:∀ b,bL lk.data.toList s.data.toList = b → Op.bytesLess lk.toList s.toList = b:=fun b hb=>by rw [ByteArray.toList_eq,ByteArray.toList_eq];exact hb
 obtain ⟨b,hbe⟩:∃ b,bL lk.data.toList s.data.toList = b:=⟨_,rfl⟩
 have hb2:=hb b hbe
 rw [hbe]
 clear hb hbe
 go_enter Tryz.func66,Tryz.ntmps66
 go_upto_region 1 with (fail)
 go_quiet (fail)
 go_wp2
 go_ret
 exact ⟨rfl,below_drewN (Below.refl _ _) nq⟩
set_option maxRecDepth 100000 in
set_option maxHeartbeats 1000000 in
theorem search_any (b1 b5 R:Nat) (r:Rdr) (s:ByteArray) (w:World) (h:ClosAt w b1 b5 R r s) (hr:RiseC r.chunks) (N:Nat) (hN:N = r.chunks.length) (hm:N ≤ 65536) :
  Calls Tryz.prog 65 #[.int .i64 (N:Int),.func (Fn.func 66) #[] #[.pointer (some ⟨b1,0,none⟩),.pointer (some ⟨b5,0,none⟩)]] w fun e w'=>e = .returned (.int .i64 (seekI r.chunks s:Int)) ∧ Below w.heap.size w w':=by
 have H:=hid h
 have Hr:=hid hr
 have HN:=hid hN
 have hse:=seekI_le r.chunks s
 obtain ⟨S,hS⟩:∃ S,Hid (S = seekI r.chunks s):=⟨_,hid rfl⟩
 rw [← hS.out] at hse ⊢
 rw [← hN] at hse
 clear h hr hN
 go_enter Tryz.func65,Tryz.ntmps65
 go_wp2
 go_loopw [5,6] (fun i j wr=>∃ a b:Nat,i = .int .i64 (a:Int) ∧ j = .int .i64 (b:Int) ∧ a ≤ S ∧ S ≤ b ∧ b ≤ N ∧ Below w.heap.size w wr) (fun i j _=>(intOf j).toNat - (intOf i).toNat)
 case atStart=>exact ⟨0,N,rfl,rfl,Nat.zero_le _,hse,Nat.le_refl _,Below.refl _ _⟩
 case round =>
  obtain ⟨a,b,rfl,rfl,ha,hb,hbN,hbr⟩:=hrel
  have HB:=hid hbr
  clear hbr
  by_cases hlt:a < b
  ·have hH:(a + b) / 2 < N:=by omega
   have hH2:(a + b) / 2 < r.chunks.length:=by rw [← HN.out];exact hH
   have hC:=clos_any b1 b5 R r s ((a + b) / 2) wr (H.out.below HB.out) hH2
   have hge:=fun h=>seekI_ge Hr.out hH2 (s:=s) h
   have hlts:=fun h=>seekI_lt (s:=s) hH2 h
   rw [← hS.out] at hge hlts
   obtain ⟨x,hx⟩:∃ x,x = bL (r.chunks[(a + b) / 2]'hH2).last.data.toList s.data.toList:=⟨_,rfl⟩
   rw [← hx] at hC hge hlts
   clear hx
   obtain ⟨M,hM⟩:∃ M,M = (a + b) / 2:=⟨_,rfl⟩
   rw [← hM] at hC hge hlts hH
   have hMi:((a:Int) + (b:Int)) / 2 = (M:Int):=by omega
   have hM1:a ≤ M ∧ M < b:=by omega
   have HC:=hid hC
   have HGe:=hid hge
   have HLt:=hid hlts
   clear hC hge hlts hM hH2
   cases x with
   | true =>
    have hMS:M < S:=by
     rcases Nat.lt_or_ge M S with h | h
     ·exact h
     ·have:=HGe.out h;cases this
    go_wp2_with (go_at_call 66;refine HC.out.mono ?_;rintro e w3 ⟨rfl,hb3⟩)
    exact ⟨⟨M + 1,b,by rw [show ((M + 1:Nat):Int) = (M:Int) + 1 from by omega],rfl,by omega,hb,hbN,HB.out.trans (hb3.mono HB.out.size)⟩,by simp [intOf];omega⟩
   | false =>
    have hMS:S ≤ M:=by
     rcases Nat.lt_or_ge M S with h | h
     ·have:=HLt.out h;cases this
     ·exact h
    go_wp2_with (go_at_call 66;refine HC.out.mono ?_;rintro e w3 ⟨rfl,hb3⟩)
    exact ⟨⟨a,M,rfl,rfl,ha,hMS,by omega,HB.out.trans (hb3.mono HB.out.size)⟩,by simp [intOf];omega⟩
  ·obtain rfl:a = S:=by omega
   obtain rfl:b = a:=by omega
   go_wp2
   go_ret
   exact ⟨rfl,HB.out⟩
end Go.Proofs.Herb
namespace Go.Proofs.Herb
open Go.RowKit
def ownB (b:Nat) (W:World):Option Nat:=match W.cell? ⟨b,0,none⟩ with
 | some v=>v.ownBlock
 | none=>none
theorem ownB_block {b:Nat} {A C:World} (h:C.heap[b]? = A.heap[b]?):ownB b C = ownB b A:=by
 unfold ownB World.cell?
 simp only [h]
structure KpO (t0:Nat) (Bs:Nat → Prop) (bo:Nat) (A C:World):Prop where
 el:Below t0 A C
 own:∀ x,ownB bo C = some x → ownB bo A = some x ∨ A.heap.size ≤ x
 lt:(∀ x,ownB bo A = some x → x < A.heap.size) → ∀ x,ownB bo C = some x → x < C.heap.size
 same:∀ (g:Nat) (cs:Array Value) (t:TypeId) (fr:Nat × Nat),A.heap[g]? = some (.cells cs t fr) → ¬ Bs g → ownB bo A ≠ some g → C.heap[g]? = some (.cells cs t fr)
theorem KpO.trans {t0:Nat} {Bs:Nat → Prop} {bo:Nat} (A B C:World) (h:KpO t0 Bs bo A B) (k:KpO t0 Bs bo B C):KpO t0 Bs bo A C:=by
 refine ⟨h.el.trans k.el,fun x hx => ?_,fun ha=>k.lt (h.lt ha),fun g cs t fr hg hn ho => ?_⟩
 ·rcases k.own x hx with h1 | h1
  ·exact h.own x h1
  ·exact .inr (Nat.le_trans h.el.size h1)
 ·refine k.same g cs t fr (h.same g cs t fr hg hn ho) hn (fun e => ?_)
  rcases h.own g e with h1 | h1
  ·exact ho h1
  ·have:=lt_of_block hg
   omega
theorem KpO.putObj {t0:Nat} {Bs:Nat → Prop} {bo:Nat} (W:World) (l:Nat) (o o':Obj) (hl:t0 ≤ l) (hb:bo ≠ l) (ho:W.heap[l]? = some o) (hc:o.isCells = false):KpO t0 Bs bo W (W.putObj l o'):=by
 have e:ownB bo (W.putObj l o') = ownB bo W:=ownB_block (World.putObj_heap_other hb)
 refine ⟨below_putObj (Below.refl _ _) hl o' ho,fun x hx => ?_,fun ha x hx => ?_,fun g cs t fr hg _ _ => ?_⟩
 ·rw [e] at hx;exact .inl hx
 ·rw [e] at hx
  have:=ha x hx
  have h2:(W.putObj l o').heap.size = W.heap.size:=by unfold World.putObj;simp
  omega
 ·exact (World.putObj_heap_other (fun e=>by subst e;rw [ho] at hg;cases hg;cases hc)).trans hg
def KpC (t0:Nat) (Bs:Nat → Prop) (bo:Nat) (A C:World):Prop:=t0 ≤ A.heap.size → bo < A.heap.size → KpO t0 Bs bo A C
theorem KpC.trans {t0:Nat} {Bs:Nat → Prop} {bo:Nat} (A B C:World) (h:KpC t0 Bs bo A B) (k:KpC t0 Bs bo B C):KpC t0 Bs bo A C:=fun h1 h2 =>
 KpO.trans A B C (h h1 h2) (k (Nat.le_trans h1 (h h1 h2).el.size) (Nat.lt_of_lt_of_le h2 (h h1 h2).el.size))
theorem KpC.of_below {t0:Nat} {Bs:Nat → Prop} {bo:Nat} (A C:World) (hb:Below A.heap.size A C):KpC t0 Bs bo A C:=fun h1 h2 =>
 ⟨hb.mono h1,fun x hx=>by rw [ownB_block (hb.block _ h2)] at hx;exact .inl hx,fun ha x hx=>by
  rw [ownB_block (hb.block _ h2)] at hx
  exact Nat.lt_of_lt_of_le (ha x hx) hb.size,fun g cs t fr hg _ _=>(hb.block _ (lt_of_block hg)).trans hg⟩
structure Safe (Bs:Nat → Prop) (bo g:Nat) (cs:Array Value) (t:TypeId) (W:World):Prop where
 at_:W.heap[g]? = some (.cells cs t (0,0))
 bs:¬ Bs g
 own:ownB bo W ≠ some g
theorem Safe.kp {t0:Nat} {Bs:Nat → Prop} {bo g:Nat} {cs:Array Value} {t:TypeId} {A C:World} (h:Safe Bs bo g cs t A) (k:KpO t0 Bs bo A C):Safe Bs bo g cs t C:=by
 refine ⟨k.same _ _ _ _ h.at_ h.bs h.own,h.bs,fun e => ?_⟩
 rcases k.own g e with h1 | h1
 ·exact h.own h1
 ·have:=lt_of_block h.at_
  omega
theorem Safe.below {Bs:Nat → Prop} {bo g:Nat} {cs:Array Value} {t:TypeId} {A C:World} (h:Safe Bs bo g cs t A) (hb:Below A.heap.size A C) (ho:bo < A.heap.size):Safe Bs bo g cs t C :=
 ⟨(hb.block _ (lt_of_block h.at_)).trans h.at_,h.bs,by rw [ownB_block (hb.block bo ho)];exact h.own⟩
theorem Safe.new {Bs:Nat → Prop} {bo g:Nat} {cs:Array Value} {t:TypeId} {A C:World} (hb:Below A.heap.size A C) (ho:bo < A.heap.size) (hlt:∀ x,ownB bo A = some x → x < A.heap.size) (hB:∀ x,Bs x → x < A.heap.size) (hg:A.heap.size ≤ g) (hc:C.heap[g]? = some (.cells cs t (0,0))):Safe Bs bo g cs t C :=
 ⟨hc,fun e=>by have:=hB g e;omega,fun e=>by
  rw [ownB_block (hb.block bo ho)] at e
  have:=hlt g e
  omega⟩
def keepS (s:ByteArray) (fs:List Fact):List (Fact × Int):=(fs.filter fun f => !bL (kput f) s.data.toList).map fun f=>(f,0)
def FromR (r:Rdr) (s:ByteArray):List Chk → List (Fact × Int) → Prop
 | [],xs=>xs = []
 | c :: cs,xs=>(∃ fs ys,ChkOf r c fs ∧ FromR r s cs ys ∧ xs = keepS s fs ++ ys) ∨ ((¬ ∃ fs,ChkOf r c fs) ∧ xs = [(zFact,13)])
theorem FromR.one {r:Rdr} {s:ByteArray}:∀ {cs:List Chk} {a b:List (Fact × Int)},FromR r s cs a → FromR r s cs b → a = b
 | [],a,b,h,k=>by
  obtain rfl:a = []:=h
  obtain rfl:b = []:=k
  rfl
 | c :: cs,a,b,h,k=>by
  rcases h with ⟨fs,ys,h1,h2,rfl⟩ | ⟨h1,rfl⟩
  ·rcases k with ⟨fs',ys',k1,k2,rfl⟩ | ⟨k1, -⟩
   ·rw [k1.one h1,h2.one k2]
   ·exact absurd ⟨fs,h1⟩ k1
  ·rcases k with ⟨fs',ys',k1,k2,rfl⟩ | ⟨k1,rfl⟩
   ·exact absurd ⟨fs',k1⟩ h1
   ·rfl
theorem FromR.ex (r:Rdr) (s:ByteArray):∀ cs:List Chk,∃ xs,FromR r s cs xs
 | []=>⟨[],rfl⟩
 | c :: cs=>by
  by_cases h:∃ fs,ChkOf r c fs
  ·obtain ⟨fs,h1⟩:=h
   obtain ⟨ys,h2⟩:=FromR.ex r s cs
   exact ⟨_,.inl ⟨fs,ys,h1,h2,rfl⟩⟩
  ·exact ⟨_,.inr ⟨h,rfl⟩⟩
theorem FromR.all {r:Rdr} {s:ByteArray}:∀ {cs:List Chk} {fs:List Fact},ChksOf r cs fs → FromR r s cs (keepS s fs)
 | [],fs,h=>by
  obtain rfl:fs = []:=h
  exact rfl
 | c :: cs,fs,h=>by
  obtain ⟨a,b,h1,h2,rfl⟩:=h
  refine .inl ⟨a,keepS s b,h1,FromR.all h2, ?_⟩
  unfold keepS
  rw [List.filter_append,List.map_append]
theorem keepS_cons (s:ByteArray) (f:Fact) (fs:List Fact):keepS s (f :: fs) = (if bL (kput f) s.data.toList = true then [] else [(f,0)]) ++ keepS s fs:=by
 unfold keepS
 rw [List.filter_cons]
 cases bL (kput f) s.data.toList <;> simp
theorem FromR.shape {r:Rdr} {s:ByteArray}:∀ {cs:List Chk} {xs:List (Fact × Int)},FromR r s cs xs → ∃ (l:List Fact) (b:Bool),xs = l.map (fun f=>(f,0)) ++ (if b = true then [(zFact,13)] else [])
 | [],xs,h=>by
  obtain rfl:xs = []:=h
  exact ⟨[],false,rfl⟩
 | c :: cs,xs,h=>by
  rcases h with ⟨fs,ys,h1,h2,rfl⟩ | ⟨h1,rfl⟩
  ·obtain ⟨l,b,rfl⟩:=h2.shape
   exact ⟨_ ++ l,b,by unfold keepS;rw [List.map_append,List.append_assoc]⟩
  ·exact ⟨[],true,rfl⟩
def okF (pre:List (Fact × Int)):List Fact:=(pre.filter fun x=>x.2 == 0).map (·.1)
def lastE (pre:List (Fact × Int)):Int:=(pre.getLast?.map (·.2)).getD 0
theorem okF_append (a b:List (Fact × Int)):okF (a ++ b) = okF a ++ okF b:=by unfold okF;rw [List.filter_append,List.map_append]
theorem okF_zero (l:List Fact):okF (l.map fun f=>(f,0)) = l:=by
 unfold okF
 rw [List.filter_eq_self.2 (by intro x hx;obtain ⟨f, -,rfl⟩:=List.mem_map.1 hx;rfl),List.map_map]
 show l.map (fun f=>f) = l
 simp
theorem lastE_snoc (pre:List (Fact × Int)) (x:Fact × Int):lastE (pre ++ [x]) = x.2:=by unfold lastE;simp
theorem okF_one (f:Fact):okF [(f,0)] = [f]:=rfl
theorem okF_bad:okF [(zFact,13)] = []:=rfl
theorem okF_shape (l:List Fact) (b:Bool):okF (l.map (fun f=>(f,0)) ++ (if b = true then [(zFact,13)] else [])) = l:=by
 rw [okF_append,okF_zero]
 cases b
 ·exact List.append_nil _
 ·exact List.append_nil _
theorem lastE_zero {pre:List (Fact × Int)} (h:∀ y ∈ pre,y.2 = 0):lastE pre = 0:=by
 unfold lastE
 cases hl:pre.getLast? with
 | none=>rfl
 | some y=>exact h y (List.mem_of_getLast? hl)
theorem lastE_shape (l:List Fact) (b:Bool):lastE (l.map (fun f=>(f,0)) ++ (if b = true then [(zFact,13)] else [])) = if b = true then 13 else 0:=by
 cases b with
 | true=>exact lastE_snoc _ _
 | false =>
  rw [if_neg (by decide),if_neg (by decide),List.append_nil]
  exact lastE_zero fun y hy=>by obtain ⟨f, -,rfl⟩:=List.mem_map.1 hy;rfl
theorem shape_mid (l:List Fact) (b:Bool) {pre rest:List (Fact × Int)} {x:Fact × Int} (h:l.map (fun f=>(f,0)) ++ (if b = true then [(zFact,13)] else []) = pre ++ x :: rest):(∀ y ∈ pre,y.2 = 0) ∧ ((∃ f,x = (f,0)) ∨ x = (zFact,13)):=by
 rcases List.append_eq_append_iff.1 h with ⟨m,h1,h2⟩ | ⟨m,h1,h2⟩
 ·-- pre = map ++ m
  cases b with
  | false =>
   rw [if_neg (by decide)] at h2
   have:m ++ x :: rest = []:=h2.symm
   simp at this
  | true =>
   rw [if_pos rfl] at h2
   cases m with
   | nil =>
    simp at h2
    refine ⟨?_,.inr h2.1.symm⟩
    rw [h1,List.append_nil]
    intro y hy
    obtain ⟨f, -,rfl⟩:=List.mem_map.1 hy
    rfl
   | cons y m=>simp at h2
 ·refine ⟨fun y hy => ?_, ?_⟩
  ·have:y ∈ l.map (fun f=>((f,0):Fact × Int)):=by rw [h1];exact List.mem_append_left _ hy
   obtain ⟨f, -,rfl⟩:=List.mem_map.1 this
   rfl
  ·cases m with
   | nil =>
    cases b with
    | false=>simp at h2
    | true =>
     simp at h2
     exact .inr h2.1
   | cons y m =>
    simp at h2
    obtain ⟨rfl,h2⟩:=h2
    have:x ∈ l.map (fun f=>((f,0):Fact × Int)):=by rw [h1];simp
    obtain ⟨f, -,rfl⟩:=List.mem_map.1 this
    exact .inl ⟨f,rfl⟩
def toldA (l:List Fact) (b:Bool) (most:Nat):List Fact × Int:=if most ≤ l.length then (l.take most,0) else (l,if b = true then 13 else 0)
theorem ChkOf.may {r:Rdr} {c:Chk} {fs:List Fact} (h:ChkOf r c fs) (hl:r.props.line < 18446744073709551616):∀ f ∈ fs,f.Ok ∧ mayF f = true:=by
 obtain ⟨l,h1, -,h2⟩:=h
 intro f hf
 have h3:=allSome_mem h2 f hf
 rw [List.mem_map] at h3
 obtain ⟨x,hx,h4⟩:=h3
 have h5:=itemF?_ok hl (by have:=(blk_sizes h1 x hx).2;unfold maxLen;omega) h4
 exact ⟨h5.1,h5.2.1⟩
structure Rdr.Fit0 (r:Rdr):Prop where
 n0:0 < r.chunks.length
 n1:r.chunks.length ≤ 65536
 at_:∀ c ∈ r.chunks,c.beg < c.fin ∧ c.fin ≤ r.b.length
 b:r.b.length ≤ 4194304
 line:r.props.line < 18446744073709551616
 rise:RiseC r.chunks
structure FrOk (W0:World) (Bs:Nat → Prop) (bo b1 b2 b3 R:Nat) (key:ByteArray) (valid:Nat) (W:World):Prop where
 el:Below W0.heap.size W0 W
 s1:Safe Bs bo b1 #[.pointer (some ⟨R,0,none⟩)] 30 W
 s2:Safe Bs bo b2 #[.string key] 9 W
 s3:Safe Bs bo b3 #[.int .u32 (valid:Int)] 23 W
 ob:bo < W.heap.size
 own:∀ x,ownB bo W = some x → x < W.heap.size
 bs:∀ x,Bs x → x < W.heap.size
theorem FrOk.below {W0:World} {Bs:Nat → Prop} {bo b1 b2 b3 R:Nat} {key:ByteArray} {valid:Nat} {A C:World} (h:FrOk W0 Bs bo b1 b2 b3 R key valid A) (hb:Below A.heap.size A C):FrOk W0 Bs bo b1 b2 b3 R key valid C :=
 ⟨h.el.trans (hb.mono h.el.size),h.s1.below hb h.ob,h.s2.below hb h.ob,h.s3.below hb h.ob,Nat.lt_of_lt_of_le h.ob hb.size,fun x hx=>by
  rw [ownB_block (hb.block _ h.ob)] at hx
  exact Nat.lt_of_lt_of_le (h.own x hx) hb.size,fun x hx=>Nat.lt_of_lt_of_le (h.bs x hx) hb.size⟩
theorem FrOk.kp {W0:World} {Bs:Nat → Prop} {bo b1 b2 b3 R:Nat} {key:ByteArray} {valid:Nat} {A C:World} (h:FrOk W0 Bs bo b1 b2 b3 R key valid A) (k:KpO W0.heap.size Bs bo A C):FrOk W0 Bs bo b1 b2 b3 R key valid C :=
 ⟨h.el.trans k.el,h.s1.kp k,h.s2.kp k,h.s3.kp k,Nat.lt_of_lt_of_le h.ob k.el.size,k.lt h.own,fun x hx=>Nat.lt_of_lt_of_le (h.bs x hx) k.el.size⟩
end Go.Proofs.Herb
namespace Go.Proofs.Herb
open Go.RowKit
theorem slice_chunks (b o m c T:Nat) (w:World) (hT:T ≤ m) (hc:m ≤ c) :
  (Instr.slice 60 (.slice (some ⟨b,o,none⟩) m c) (some (.int .i64 (T:Int))) none none).run Tryz.prog w = .ok (.slice (some ⟨b,if c = T then o else o + T * 3,none⟩) (m - T) (c - T)) w:=by
 have i0:(0:Int) ≤ (T:Int):=by omega
 have i1:(T:Int) ≤ (m:Int):=by omega
 by_cases h:c = T
 ·rw [if_pos h]
  subst h
  have:m = c:=by omega
  subst this
  go_simp
 ·rw [if_neg h]
  go_simp
set_option maxRecDepth 100000 in
set_option maxHeartbeats 4000000 in
theorem fromi_in (nn:Nat) (hnn:1 ≤ nn) (W0:World) (Bs:Nat → Prop) (bo b1 b2 b3 R:Nat) (r:Rdr) (hat:RdrAt W0 R r) (hf:r.Fit0) (key:ByteArray) (valid:Nat) (hk:key.size ≤ 1000000) (hv:valid < 4294967296)
  (s:ByteArray) (hs:s = ⟨(seekB key.data.toList valid).toArray⟩) (ALL:List (Fact × Int)) (hA:FromR r s (r.chunks.drop (seekI r.chunks s)) ALL) :
  SeqGood Fence.wide nn Tryz.prog 63 #[.pointer (some ⟨b1,0,none⟩),.pointer (some ⟨b2,0,none⟩),.pointer (some ⟨b3,0,none⟩)] (fun x:Fact × Int => #[.agg x.1.cells.toArray,.int .i64 x.2]) (Only (fun _=>False))
   (fun pre x _=>∃ rest,ALL = pre ++ x :: rest) (KpC W0.heap.size Bs bo) (fun xs=>xs = ALL) 0 (FrOk W0 Bs bo b1 b2 b3 R key valid):=by
 intro lp J Jx W hb hOk hJ hJx hY h0
 have HOk:=hid hOk
 have HY:=hid hY
 have HJ:=hid hJ
 have H0:=hid h0
 have HAt:=hid hat
 have HF:=hid hf
 have HA:=hid hA
 have Hs:=hid hs
 have c1:=cell_of_row W b1 0 _ _ _ hOk.s1.at_
 have c2:=cell_of_row W b2 0 _ _ _ hOk.s2.at_
 have c3:=cell_of_row W b3 0 _ _ _ hOk.s3.at_
 clear hb hOk hY hJ hJx h0 hat hf hA hs
 refine callsIn_of_wp Tryz.func63 rfl trivial ?_ rfl
 simp only [Tryz.ntmps63,List.size_toArray,List.length_cons,List.length_nil,Nat.reduceAdd,Nat.reduceSub,Array.replicate_succ,Array.replicate_zero,List.push_toArray,List.append_toArray,List.nil_append,List.cons_append]
 have hsb:(seekB key.data.toList valid).length ≤ 4194304:=by
  have h:=esc_len key.data.toList
  rw [size_toList] at h
  unfold seekB
  simp
  omega
 have hmf:∀ (fn:Fn) (first cap:Array Value) (w:World),(Instr.makeFunc fn first cap).run Tryz.prog w = .ok (.func fn first cap) w:=fun _ _ _ _=>rfl
 gi_wp2
 refine ⟨trivial,(callsIn_wide.2 (there_yes (HAt.out.below HOk.out.el) HF.out.n0 (by have:=HF.out.n1;omega))).mono ?_⟩
 rintro e w' ⟨rfl,rfl⟩
 gi_wp2
 refine ⟨trivial,(callsIn_wide.2 (seek_any key valid hk hv W)).mono ?_⟩
 rintro e W1 ⟨q1,rfl,hfr1,hb1⟩
 obtain ⟨SL,hSL⟩:∃ n,Hid (n = (seekB key.data.toList valid).length):=⟨_,hid rfl⟩
 rw [← hSL.out] at hfr1 ⊢
 have hcv:=convB W1 q1 SL SL (seekB key.data.toList valid) hSL.out.symm hfr1.rd
 rw [← Hs.out] at hcv
 obtain ⟨T5,hT5⟩:∃ n,n = W1.heap.size:=⟨_,rfl⟩
 obtain ⟨W2,hW2⟩:∃ w,w = W1.alloc (.cells #[.string s] 9):=⟨_,rfl⟩
 have hB12:Below W1.heap.size W1 W2:=by rw [hW2];exact (Below.refl _ _).alloc (Nat.le_refl _) _
 have hX5:W2.heap[T5]? = some (.cells #[.string s] 9 (0,0)):=by rw [hW2,hT5];exact heap_alloc_new W1 _
 have hOk1:=HOk.out.below hb1
 have hS5:Safe Bs bo T5 #[.string s] 9 W2:=Safe.new hB12 hOk1.ob hOk1.own hOk1.bs (by rw [hT5];exact Nat.le_refl _) hX5
 have HB2:=hid (show Below W.heap.size W W2 from hb1.trans (hB12.mono hb1.size))
 have HOk2:=hid (hOk1.below hB12)
 have HS5:=hid hS5
 have HJ2:=hid (HJ.out _ _ _ H0.out (Only.of_below HB2.out))
 have HAt2:=hid (HAt.out.below HOk2.out.el)
 have HCl:=hid (show ClosAt W2 b1 T5 R r s from ⟨HAt2.out,HOk2.out.s1.at_,hX5⟩)
 have HW2:=hid hW2
 have HT5:=hid hT5
 clear hfr1 hb1 hB12 hX5 hOk1 hS5 hW2 hT5 H0 HOk
 gi_upto_region 2 with fail
 rw [← HW2.out,← HT5.out]
 clear hcv c1 c2 c3
 obtain ⟨q,cp,fq,fc,kq,kc,hrow0, -, -, -, -, -, -, -,hkc,hkm,hkr⟩:=HAt.out.ex
 obtain ⟨bk,ok,rfl, -, -, -, -⟩:=chk_at hkr (j:=0) HF.out.n0
 have hrow:=(HOk2.out.el.block _ (lt_of_block hrow0)).trans hrow0
 have HKr:=hid hkr
 have c10:W2.cell? ⟨R,10,none⟩ = some (.slice (some ⟨bk,ok,none⟩) r.chunks.length kc):=by rw [cell_of_row _ _ _ _ _ _ hrow];rfl
 have c1:W2.cell? ⟨b1,0,none⟩ = some (.pointer (some ⟨R,0,none⟩)):=by rw [cell_of_row W2 b1 0 _ _ _ HOk2.out.s1.at_];rfl
 obtain ⟨N,hN⟩:∃ N,Hid (N = r.chunks.length):=⟨_,hid rfl⟩
 obtain ⟨F,hFd⟩:∃ n,Hid (n = seekI r.chunks s):=⟨_,hid rfl⟩
 have hN1:N ≤ 65536:=by rw [hN.out];exact HF.out.n1
 have hFN:F ≤ N:=by rw [hFd.out,hN.out];exact seekI_le _ _
 rw [← hN.out] at c10 hkc
 have HSr:=hid (search_any b1 T5 R r s W2 HCl.out HF.out.rise N hN.out hN1)
 rw [← hFd.out] at HSr
 clear hrow0 hkr
 have HRow:=hid hrow
 clear hrow
 gi_upto_region 3 with (refine ⟨trivial,(callsIn_wide.2 HSr.out).mono ?_⟩;rintro e W3 ⟨rfl,hb3⟩)
 have HOk3:=hid (HOk2.out.below hb3)
 have HS53:=hid (HS5.out.below hb3 HOk2.out.ob)
 have HJ3:=hid (HJ.out _ _ _ HJ2.out (Only.of_below hb3))
 have c10:W3.cell? ⟨R,10,none⟩ = some (.slice (some ⟨bk,ok,none⟩) N kc):=by rw [cell_of_row _ _ _ _ _ _ ((hb3.block _ (lt_of_block HRow.out)).trans HRow.out),hN.out];rfl
 have c1:W3.cell? ⟨b1,0,none⟩ = some (.pointer (some ⟨R,0,none⟩)):=by rw [cell_of_row W3 b1 0 _ _ _ HOk3.out.s1.at_];rfl
 obtain ⟨o1,ho1⟩:∃ o,Hid (o = if kc = F then ok else ok + F * 3):=⟨_,hid rfl⟩
 obtain ⟨M,hM⟩:∃ M,M = N - F:=⟨_,rfl⟩
 obtain ⟨KC,hKC⟩:∃ M,M = kc - F:=⟨_,rfl⟩
 have hsl:∀ W:World,(Instr.slice 60 (.slice (some ⟨bk,ok,none⟩) N kc) (some (.int .i64 (F:Int))) none none).run Tryz.prog W = .ok (.slice (some ⟨bk,o1,none⟩) M KC) W:=fun W=>by
  rw [ho1.out,hM,hKC]
  exact slice_chunks bk ok N kc F W hFN hkc
 have HM:=hid hM
 have Hkc:=hid hkc
 have HFN:=hid hFN
 have hMm:M ≤ 65536:=by omega
 clear hb3 hM hKC HJ2 HSr HOk2 HCl HAt2 HS5
 gi_wp2
 gi_loopw [36] (fun i wr=>∃ (k:Nat) (pre suf:List (Fact × Int)),k ≤ M ∧ i = .int .i64 (k:Int) ∧ ALL = pre ++ suf ∧ FromR r s (r.chunks.drop (F + k)) suf ∧ FrOk W0 Bs bo b1 b2 b3 R key valid wr ∧ Safe Bs bo T5 #[.string s] 9 wr ∧ J pre wr) (fun i _=>M - (intOf i).toNat)
 case atStart=>exact ⟨0,[],ALL,Nat.zero_le _,rfl,rfl,by rw [Nat.add_zero,hFd.out];exact HA.out,HOk3.out,HS53.out,HJ3.out⟩
 case round =>
  obtain ⟨k,pre,suf,hk,rfl,hsp,hfr,hok,hs5,hj⟩:=hrel
  have HSp:=hid hsp
  have HFr:=hid hfr
  have HOk:=hid hok
  have HS5:=hid hs5
  have HJp:=hid hj
  clear hsp hfr hok hs5 hj HOk3 HS53 HJ3 hsl c10 c1
  by_cases hlt:k < M
  ·have hlt2:F + k < r.chunks.length:=by rw [← hN.out];have:=HM.out;omega
   obtain ⟨b',o',e', -,ic0,ic1,ic2⟩:=chk_at (HKr.out.below HOk.out.el) hlt2
   cases e'
   have hoo:ok + (F + k) * 3 = o1 + k * 3:=by
    rw [ho1.out,if_neg (by have:=HM.out;have:=Hkc.out;omega)]
    omega
   obtain ⟨c,hc⟩:∃ c,Hid (c = r.chunks[F + k]):=⟨_,hid rfl⟩
   rw [← hc.out,hoo] at ic0 ic1 ic2
   obtain ⟨hc3,hc4⟩:=HF.out.at_ c (by rw [hc.out];exact List.getElem_mem hlt2)
   have hfr:=HFr.out
   rw [List.drop_eq_getElem_cons hlt2,← hc.out] at hfr
   have HFc:=hid hfr
   obtain ⟨Wa,hWa⟩:∃ W,W = wr.alloc (.cells #[.string c.last,.int .i64 (c.beg:Int),.int .i64 (c.fin:Int)] 79):=⟨_,rfl⟩
   obtain ⟨T8,hT8⟩:∃ n,n = wr.heap.size:=⟨_,rfl⟩
   have hBa:Below wr.heap.size wr Wa:=by rw [hWa];exact (Below.refl _ _).alloc (Nat.le_refl _) _
   have hXa:Wa.heap[T8]? = some (.cells #[.string c.last,.int .i64 (c.beg:Int),.int .i64 (c.fin:Int)] 79 (0,0)):=by rw [hWa,hT8];exact heap_alloc_new wr _
   have HOka:=hid (HOk.out.below hBa)
   have HS5a:=hid (HS5.out.below hBa HOk.out.ob)
   have HJa:=hid (HJ.out _ _ _ HJp.out (Only.of_below hBa))
   have HFct:=hid (facts_any R r c Wa (HAt.out.below HOka.out.el) hc3 hc4 HF.out.b)
   have x0:Wa.cell? ⟨T8,0,none⟩ = some (.string c.last):=by rw [cell_of_row _ _ _ _ _ _ hXa];rfl
   have x1:Wa.cell? ⟨T8,1,none⟩ = some (.int .i64 (c.beg:Int)):=by rw [cell_of_row _ _ _ _ _ _ hXa];rfl
   have x2:Wa.cell? ⟨T8,2,none⟩ = some (.int .i64 (c.fin:Int)):=by rw [cell_of_row _ _ _ _ _ _ hXa];rfl
   have k1:Wa.cell? ⟨b1,0,none⟩ = some (.pointer (some ⟨R,0,none⟩)):=by rw [cell_of_row Wa b1 0 _ _ _ HOka.out.s1.at_];rfl
   have HWa:=hid hWa
   have HT8:=hid hT8
   clear hWa hT8 hBa hXa hc3 hc4 hfr
   gi_upto_region 6 with fail
   rw [← HWa.out,← HT8.out]
   gi_wp2
   refine ⟨trivial,(callsIn_wide.2 HFct.out).mono ?_⟩
   rintro e W4 ⟨hb4,hcase⟩
   have HOk4:=hid (HOka.out.below hb4)
   have HS54:=hid (HS5a.out.below hb4 HOka.out.ob)
   have HJ4:=hid (HJ.out _ _ _ HJa.out (Only.of_below hb4))
   have hs4:=hb4.size
   rcases hcase with ⟨hno,rfl⟩ | ⟨fs,hfs,q4,rfl,hown4⟩
   ·have hsu:suf = [(zFact,13)]:=by
     rcases HFc.out with ⟨fs,ys,h1, -, -⟩ | ⟨-,h⟩
     ·exact absurd ⟨fs,h1⟩ hno
     ·exact h
    have HE:=hid (show ALL = pre ++ [(zFact,13)] by rw [HSp.out,hsu])
    obtain ⟨fn,tmps,assign,body,hy,hR⟩:=HY.out pre (zFact,13) _ HJ4.out ⟨[],HE.out⟩
    dsimp only at hy
    rw [show zFact.cells.toArray = #[.string ⟨#[]⟩,.int .u32 0,.int .u64 0,.int .u64 0,.int .u8 0,.string ⟨#[]⟩] from rfl] at hy
    have HR:=hid hR
    clear hR hno hsu hb4
    gi_wp2
    refine HR.out.mono ?_
    rintro e W5 (⟨rfl,hJ2, -⟩ | ⟨rfl,hJ2⟩)
    ·have HJ2:=hid hJ2
     clear hJ2 hy HR
     gi_wp2
     refine bodyPost_ret (results_none rfl _ _ _) rfl ?_
     exact ⟨⟨_,rfl⟩,.inl ⟨_,HE.out.symm,HJ2.out⟩⟩
    ·have HJ2:=hid hJ2
     clear hJ2 hy HR
     gi_wp2
     refine bodyPost_ret (results_none rfl _ _ _) rfl ?_
     exact ⟨⟨_,rfl⟩,.inr ⟨_,HJ2.out⟩⟩
   ·have hmay:=hfs.may HF.out.line
    have hfl:=hfs.short
    have hfp:=hfs.pos
    obtain ⟨ys,hys,hsu⟩:∃ ys,FromR r s (r.chunks.drop (F + k + 1)) ys ∧ suf = keepS s fs ++ ys:=by
     rcases HFc.out with ⟨fs',ys,h1,h2,h3⟩ | ⟨h, -⟩
     ·exact ⟨ys,h2,by rw [h3,hfs.one h1]⟩
     ·exact absurd ⟨fs,hfs⟩ h
    obtain ⟨g,cap,cur,hgv,hgb,hgc,hcc,hcm,hcs,hct⟩:∃ g cap cur,Value.slice q4 fs.length fs.length = .slice (some ⟨g,0,none⟩) fs.length cap ∧ Wa.heap.size ≤ g ∧ W4.heap[g]? = some (.cells cur 27 (0,0)) ∧ fs.length ≤ cap ∧ cap ≤ maxLen ∧ cur.size = cap * 6 ∧ cur.toList.take (fs.length * 6) = fCells fs:=by
     obtain ⟨-,h2 | h2⟩:=hown4
     ·exact absurd h2.2 (by omega)
     ·exact h2
    obtain ⟨rfl⟩:q4 = some ⟨g,0,none⟩:=by cases hgv;rfl
    have hSg:Safe Bs bo g cur 27 W4:=Safe.new hb4 HOka.out.ob HOka.out.own HOka.out.bs hgb hgc
    have HSg:=hid hSg
    have HRow:=hid (show ∀ W:World,W.heap[g]? = some (.cells cur 27 (0,0)) → Rd W (some ⟨g,0,none⟩) (fCells fs) from fun W hW=>Rd.block hW fun j u hu=>by
     rw [← hct,List.getElem?_take] at hu
     split at hu
     ·rw [Nat.zero_add,← Array.getElem?_toList];exact hu
     ·cases hu)
    have HMay:=hid hmay
    have HYs:=hid hys
    have HSu:=hid (show ALL = pre ++ keepS s fs ++ ys by rw [HSp.out,hsu,List.append_assoc])
    obtain ⟨L,hL⟩:∃ n,Hid (n = fs.length):=⟨_,hid rfl⟩
    rw [← hL.out] at hfl hfp ⊢
    clear hmay hys hsu hown4 hgv hgb hgc hcc hcm hcs hct hSg hb4 HFct
    gi_wp2
    gi_loopw [53] (fun i wr=>∃ (j:Nat) (pre2:List (Fact × Int)),j ≤ L ∧ i = .int .i64 (j:Int) ∧ ALL = pre2 ++ keepS s (fs.drop j) ++ ys ∧ FrOk W0 Bs bo b1 b2 b3 R key valid wr ∧ Safe Bs bo T5 #[.string s] 9 wr ∧ Safe Bs bo g cur 27 wr ∧ J pre2 wr) (fun i _=>L - (intOf i).toNat)
    case atStart=>exact ⟨0,pre,Nat.zero_le _,rfl,HSu.out,HOk4.out,HS54.out,HSg.out,HJ4.out⟩
    case round =>
     obtain ⟨j,pre2,hj,rfl,hsp,hok,hs5,hsg,hjp⟩:=hrel
     have HSp2:=hid hsp
     have HOkq:=hid hok
     have HS5q:=hid hs5
     have HSgq:=hid hsg
     have HJq:=hid hjp
     clear hsp hok hs5 hsg hjp HOk4 HS54 HSg HJ4
     by_cases hlj:j < L
     ·have hlj2:j < fs.length:=by rw [← hL.out];exact hlj
      obtain ⟨g',o',e', -,hfa⟩:=fact_at (HRow.out _ HSgq.out.at_) hlj2
      cases e'
      obtain ⟨f,hfe⟩:∃ f,Hid (f = fs[j]):=⟨_,hid rfl⟩
      rw [← hfe.out,Nat.zero_add] at hfa
      obtain ⟨hfo,hfm⟩:=HMay.out f (by rw [hfe.out];exact List.getElem_mem hlj2)
      have hsp:=HSp2.out
      rw [List.drop_eq_getElem_cons hlj2,← hfe.out,keepS_cons] at hsp
      have HSp3:=hid hsp
      have f0:=hfa.c0
      have f1:=hfa.c1
      have f2:=hfa.c2
      have f3:=hfa.c3
      have f4:=hfa.c4
      have f5:=hfa.c5
      obtain ⟨Wb,hWb⟩:∃ W,W = wr.alloc (.cells #[.string f.key,.int .u32 (f.valid:Int),.int .u64 (f.seq:Int),.int .u64 (f.line:Int),.int .u8 (f.kind:Int),.string f.val] 27):=⟨_,rfl⟩
      obtain ⟨T12,hT12⟩:∃ n,n = wr.heap.size:=⟨_,rfl⟩
      have hBb:Below wr.heap.size wr Wb:=by rw [hWb];exact (Below.refl _ _).alloc (Nat.le_refl _) _
      have hXb:Wb.heap[T12]? = some (.cells #[.string f.key,.int .u32 (f.valid:Int),.int .u64 (f.seq:Int),.int .u64 (f.line:Int),.int .u8 (f.kind:Int),.string f.val] 27 (0,0)):=by rw [hWb,hT12];exact heap_alloc_new wr _
      have HXb:=hid hXb
      have HBb:=hid hBb
      have HWb:=hid hWb
      have HT12:=hid hT12
      have HKp:=hid (kput_ok f hfo Wb hfm)
      have y0:Wb.cell? ⟨T12,0,none⟩ = some (.string f.key):=by rw [cell_of_row _ _ _ _ _ _ hXb];rfl
      have y1:Wb.cell? ⟨T12,1,none⟩ = some (.int .u32 (f.valid:Int)):=by rw [cell_of_row _ _ _ _ _ _ hXb];rfl
      have y2:Wb.cell? ⟨T12,2,none⟩ = some (.int .u64 (f.seq:Int)):=by rw [cell_of_row _ _ _ _ _ _ hXb];rfl
      have y3:Wb.cell? ⟨T12,3,none⟩ = some (.int .u64 (f.line:Int)):=by rw [cell_of_row _ _ _ _ _ _ hXb];rfl
      have y4:Wb.cell? ⟨T12,4,none⟩ = some (.int .u8 (f.kind:Int)):=by rw [cell_of_row _ _ _ _ _ _ hXb];rfl
      have y5:Wb.cell? ⟨T12,5,none⟩ = some (.string f.val):=by rw [cell_of_row _ _ _ _ _ _ hXb];rfl
      clear hsp hWb hT12 hBb hXb hfa
      gi_upto_region 12 with fail
      rw [← HWb.out,← HT12.out]
      clear f0 f1 f2 f3 f4 f5
      gi_wp2
      refine ⟨trivial,(callsIn_wide.2 HKp.out).mono ?_⟩
      rintro e W6 ⟨q6,rfl,hfr6,hb6⟩
      obtain ⟨KL,hKL⟩:∃ n,Hid (n = (kput f).length):=⟨_,hid rfl⟩
      rw [← hKL.out] at hfr6 ⊢
      obtain ⟨KS,hKS⟩:∃ x:ByteArray,x = ⟨(kput f).toArray⟩:=⟨_,rfl⟩
      have hcv:=convB W6 q6 KL KL (kput f) hKL.out.symm hfr6.rd
      rw [← hKS] at hcv
      have hbl:∀ b,bL (kput f) s.data.toList = b → Op.bytesLess KS.toList s.toList = b:=fun b hb=>by rw [hKS,ByteArray.toList_eq,ByteArray.toList_eq];exact hb
      have hB6:Below wr.heap.size wr W6:=HBb.out.trans (hb6.mono HBb.out.size)
      have HOk6:=hid (HOkq.out.below hB6)
      have HS56:=hid (HS5q.out.below hB6 HOkq.out.ob)
      have HSg6:=hid (HSgq.out.below hB6 HOkq.out.ob)
      have HJ6:=hid (HJ.out _ _ _ HJq.out (Only.of_below hB6))
      have hrow6:=(hb6.block _ (lt_of_block HXb.out)).trans HXb.out
      have y0:W6.cell? ⟨T12,0,none⟩ = some (.string f.key):=by rw [cell_of_row _ _ _ _ _ _ hrow6];rfl
      have y1:W6.cell? ⟨T12,1,none⟩ = some (.int .u32 (f.valid:Int)):=by rw [cell_of_row _ _ _ _ _ _ hrow6];rfl
      have y2:W6.cell? ⟨T12,2,none⟩ = some (.int .u64 (f.seq:Int)):=by rw [cell_of_row _ _ _ _ _ _ hrow6];rfl
      have y3:W6.cell? ⟨T12,3,none⟩ = some (.int .u64 (f.line:Int)):=by rw [cell_of_row _ _ _ _ _ _ hrow6];rfl
      have y4:W6.cell? ⟨T12,4,none⟩ = some (.int .u8 (f.kind:Int)):=by rw [cell_of_row _ _ _ _ _ _ hrow6];rfl
      have y5:W6.cell? ⟨T12,5,none⟩ = some (.string f.val):=by rw [cell_of_row _ _ _ _ _ _ hrow6];rfl
      have ys5:W6.cell? ⟨T5,0,none⟩ = some (.string s):=by rw [cell_of_row _ _ _ _ _ _ HS56.out.at_];rfl
      clear hfr6 hb6 hB6 hrow6 hKS HKp
      cases hb:bL (kput f) s.data.toList with
      | true =>
       have hb2:=hbl _ hb
       have hsp:=HSp3.out
       rw [hb,if_pos rfl,List.nil_append] at hsp
       have HSp4:=hid hsp
       clear hbl hb hsp
       gi_wp2
       refine ⟨(fun _ h=>by cases h), ?_⟩
       go_at_K
       gi_wp2
       exact ⟨⟨j + 1,pre2,by omega,by rw [show ((j + 1:Nat):Int) = (j:Int) + 1 from by omega],HSp4.out,HOk6.out,HS56.out,HSg6.out,HJ6.out⟩,by simp [intOf];omega⟩
      | false =>
       have hb2:=hbl _ hb
       have hsp:=HSp3.out
       rw [hb,if_neg (by decide)] at hsp
       have HSp4:=hid (show ALL = pre2 ++ (f,0) :: (keepS s (fs.drop (j + 1)) ++ ys) by rw [hsp];simp)
       obtain ⟨fn,tmps,assign,body,hy,hR⟩:=HY.out pre2 (f,0) _ HJ6.out ⟨_,HSp4.out⟩
       dsimp only at hy
       rw [show f.cells.toArray = #[.string f.key,.int .u32 (f.valid:Int),.int .u64 (f.seq:Int),.int .u64 (f.line:Int),.int .u8 (f.kind:Int),.string f.val] from rfl] at hy
       have HR:=hid hR
       clear hR hbl hb hsp
       gi_wp2
       refine HR.out.mono ?_
       rintro e W7 (⟨rfl,hJ2,hkc⟩ | ⟨rfl,hJ2⟩)
       ·have hkp:=hkc HOk6.out.el.size HOk6.out.ob
        have HJ2:=hid hJ2
        have HOk7:=hid (HOk6.out.kp hkp)
        have HS57:=hid (HS56.out.kp hkp)
        have HSg7:=hid (HSg6.out.kp hkp)
        clear hJ2 hkp hkc hy HR
        gi_wp2
        exact ⟨⟨j + 1,pre2 ++ [(f,0)],by omega,by rw [show ((j + 1:Nat):Int) = (j:Int) + 1 from by omega],by rw [HSp4.out];simp,HOk7.out,HS57.out,HSg7.out,HJ2.out⟩,by simp [intOf];omega⟩
       ·have HJ2:=hid hJ2
        clear hJ2 hy HR
        gi_wp2
        refine bodyPost_ret (results_none rfl _ _ _) rfl ?_
        exact ⟨⟨_,rfl⟩,.inr ⟨_,HJ2.out⟩⟩
     ·obtain rfl:j = L:=by omega
      have hsp:=HSp2.out
      rw [List.drop_of_length_le (by rw [← hL.out];exact Nat.le_refl _)] at hsp
      have HSp3:=hid (show ALL = pre2 ++ ys by rw [hsp];simp [keepS])
      clear hsp
      gi_wp2
      exact ⟨⟨k + 1,pre2,ys,by omega,by rw [show ((k + 1:Nat):Int) = (k:Int) + 1 from by omega],HSp3.out,HYs.out,HOkq.out,HS5q.out,HJq.out⟩,by simp [intOf];omega⟩
  ·obtain rfl:k = M:=by omega
   have hsuf:suf = []:=by
    have h:=HFr.out
    rw [List.drop_of_length_le (by rw [← hN.out];have:=HM.out;have:=HFN.out;omega)] at h
    exact h
   have HE:=hid (show ALL = pre by rw [HSp.out,hsuf,List.append_nil])
   clear hsuf
   gi_wp2
   refine ⟨rfl,_,results_none rfl _ _ _, ?_⟩
   exact ⟨⟨_,rfl⟩,.inl ⟨pre,HE.out.symm,HJp.out⟩⟩
end Go.Proofs.Herb
namespace Go.Proofs.Herb
open Go.RowKit
attribute [local go_sem] Oper.semAt_some
theorem fromR_any (q:Option Addr) (key:ByteArray) (valid:Nat) (w:World) :
  Calls Tryz.prog 29 #[.pointer q,.string key,.int .u32 (valid:Int)] w fun e w'=>e = .returned (.func (.func 63) #[] #[.pointer (some ⟨w.heap.size,0,none⟩),.pointer (some ⟨w.heap.size + 1,0,none⟩),.pointer (some ⟨w.heap.size + 2,0,none⟩)]) ∧
   w' = ((w.alloc (.cells #[.pointer q] 30)).alloc (.cells #[.string key] 9)).alloc (.cells #[.int .u32 (valid:Int)] 23):=by
 have hmf:∀ (fn:Fn) (first cap:Array Value) (w:World),(Instr.makeFunc fn first cap).run Tryz.prog w = .ok (.func fn first cap) w:=fun _ _ _ _=>rfl
 go_enter Tryz.func29,Tryz.ntmps29
 go_wp2
 go_ret
 exact ⟨rfl,rfl⟩
theorem wp_mono_calm {P:Program} {c:Code} {Q:Exit → Act → World → Prop} {a:Act} {w:World} (h:c.wp P (calmQ Q) a w):c.wp P Q a w :=
 Code.wp_mono (fun e a w hq=>by cases e <;> first | exact hq | exact hq.elim) h
structure TolI (w:World) (B b4 most:Nat) (pre:List (Fact × Int)) (W:World):Prop where
 m:Boxed W B 3 (.int .i64 (most:Int))
 r1:Boxed W (B + 1) 38 (.slice none 0 0)
 r2:Boxed W (B + 2) 31 (.int .i64 0)
 l:∃ q c,Boxed W (B + 3) 38 (.slice q (okF pre).length c) ∧ W.ownsRow b4 27 6 (.slice q (okF pre).length c) (okF pre).length (fCells (okF pre))
 e:Boxed W (B + 4) 31 (.int .i64 (lastE pre))
 below:Below w.heap.size w W
 sz:b4 ≤ W.heap.size
theorem TolI.stays {w:World} {B b4 most:Nat} {pre:List (Fact × Int)} {A W:World} (h:TolI w B b4 most pre A) (hb:Below A.heap.size A W):TolI w B b4 most pre W:=by
 obtain ⟨h1,h2,h3,⟨q,c,h4,h5⟩,h6,h7,h8⟩:=h
 exact ⟨(hb.block _ h1.lt).trans h1,(hb.block _ h2.lt).trans h2,(hb.block _ h3.lt).trans h3,⟨q,c,(hb.block _ h4.lt).trans h4,own_below h5 hb⟩,(hb.block _ h6.lt).trans h6,h7.trans (hb.mono h7.size),Nat.le_trans h8 hb.size⟩
theorem Only.nothing {A W:World} (h:Only (fun _=>False) A W):Below A.heap.size A W:=h.below (Nat.le_refl _) fun _ _ e=>e
theorem TolI.turns {w:World} {B b4 most:Nat} {pre:List (Fact × Int)} (b0:Nat) (hw:w.heap.size ≤ b0):Turns b0 (TolI w B b4 most pre):=by
 rintro W l o o' ⟨h1,h2,h3,⟨q,c,h4,h5⟩,h6,h7,h8⟩ hl ho hc
 exact ⟨boxed_putObj h1 o' ho hc,boxed_putObj h2 o' ho hc,boxed_putObj h3 o' ho hc,⟨q,c,boxed_putObj h4 o' ho hc,own_putObj2 h5 o' ho hc⟩,boxed_putObj h6 o' ho hc,below_putObj h7 (by omega) o' ho,by simpa [World.putObj] using h8⟩
def TolP (l:List Fact) (b:Bool) (most b0:Nat) (w:World) (e:Ending) (w':World):Prop :=
 Below b0 w w' ∧ ∃ q c,e = .returned (.tuple #[.slice q (toldA l b most).1.length c,.int .i64 (toldA l b most).2]) ∧ Fr w' b0 27 6 (.slice q (toldA l b most).1.length c) (toldA l b most).1.length (fCells (toldA l b most).1)
theorem tol_results {tmps:Array Value} {w:World} {B:Nat} {v:Value} {e:Int} (h8:tmps.getD 8 undef = .pointer (some ⟨B + 1,0,none⟩)) (h9:tmps.getD 9 undef = .pointer (some ⟨B + 2,0,none⟩)) (g1:Boxed w (B + 1) 38 v) (g2:Boxed w (B + 2) 31 (.int .i64 e)) :
  (results Tryz.f9 tmps).run Tryz.prog w = .ok (.tuple #[v,.int .i64 e]) w:=by
 have hr:(Tryz.f9).results = #[.cell 8 38,.cell 9 31]:=rfl
 have a1:=g1.cell
 have a2:=g2.cell
 simp [results] at h8 h9 ⊢
 simp [h8,h9,go_sem,a1,a2]
set_option maxRecDepth 100000 in
set_option maxHeartbeats 4000000 in
theorem told_any (R:Nat) (r:Rdr) (w:World) (hat:RdrAt w R r) (hf:r.Fit0) (key:ByteArray) (valid most:Nat) (hk:key.size ≤ 1000000) (hv:valid < 4294967296) (hm0:0 < most) (hm:most ≤ 4194304)
  (s:ByteArray) (hs:s = ⟨(seekB key.data.toList valid).toArray⟩) (l:List Fact) (b:Bool) (hA:FromR r s (r.chunks.drop (seekI r.chunks s)) (l.map (fun f=>(f,0)) ++ (if b = true then [(zFact,13)] else []))) :
  Calls Tryz.prog 9 #[.pointer (some ⟨R,0,none⟩),.string key,.int .u32 (valid:Int),.int .i64 (most:Int)] w (TolP l b most w.heap.size w):=by
 refine (callsIn_wide (n:=3)).1 (callsIn_of_wp_marks Tryz.func9 rfl trivial ?_ rfl)
 refine wpIn_wide.2 ?_
 simp only [Tryz.ntmps9,List.size_toArray,List.length_cons,List.length_nil,Nat.reduceAdd,Nat.reduceSub,Array.replicate_succ,Array.replicate_zero,List.push_toArray,List.append_toArray,List.nil_append,List.cons_append]
 have HAt:=hid hat
 have HA:=hid hA
 have Hs:=hid hs
 have HF:=hid hf
 clear hat hA hs hf
 go_upto_region 3 with (fail)
 obtain ⟨B,hB⟩:∃ B,B = w.heap.size:=⟨_,rfl⟩
 obtain ⟨w1,hw1⟩:∃ w1,(((((w.alloc (.cells #[.int .i64 (most:Int)] 3)).alloc (.cells #[.slice none 0 0] 38)).alloc (.cells #[.int .i64 0] 31)).alloc (.cells #[.slice none 0 0] 38)).alloc (.cells #[.int .i64 0] 31)) = w1:=⟨_,rfl⟩
 have hA1:Below w.heap.size w w1:=by rw [← hw1];exact (((((Below.refl _ _).alloc (Nat.le_refl _) _).alloc (by simp) _).alloc (by simp;omega) _).alloc (by simp;omega) _).alloc (by simp;omega) _
 have hs1:w1.heap.size = B + 5:=by rw [← hw1,hB];simp
 have hx0:Boxed w1 B 3 (.int .i64 (most:Int)):=by
  rw [← hw1,hB]
  exact ((((Boxed.new w 3 _).alloc _).alloc _).alloc _).alloc _
 have hx1:Boxed w1 (B + 1) 38 (.slice none 0 0):=by
  rw [← hw1,hB]
  have h:=Boxed.new (w.alloc (.cells #[.int .i64 (most:Int)] 3)) 38 (.slice none 0 0)
  rw [World.size_alloc] at h
  exact ((h.alloc _).alloc _).alloc _
 have hx2:Boxed w1 (B + 2) 31 (.int .i64 0):=by
  rw [← hw1,hB]
  have h:=Boxed.new ((w.alloc (.cells #[.int .i64 (most:Int)] 3)).alloc (.cells #[.slice none 0 0] 38)) 31 (.int .i64 0)
  rw [World.size_alloc,World.size_alloc] at h
  exact (h.alloc _).alloc _
 have hx3:Boxed w1 (B + 3) 38 (.slice none 0 0):=by
  rw [← hw1,hB]
  have h:=Boxed.new (((w.alloc (.cells #[.int .i64 (most:Int)] 3)).alloc (.cells #[.slice none 0 0] 38)).alloc (.cells #[.int .i64 0] 31)) 38 (.slice none 0 0)
  rw [World.size_alloc,World.size_alloc,World.size_alloc] at h
  exact h.alloc _
 have hx4:Boxed w1 (B + 4) 31 (.int .i64 0):=by
  rw [← hw1,hB]
  have h:=Boxed.new ((((w.alloc (.cells #[.int .i64 (most:Int)] 3)).alloc (.cells #[.slice none 0 0] 38)).alloc (.cells #[.int .i64 0] 31)).alloc (.cells #[.slice none 0 0] 38)) 31 (.int .i64 0)
  rw [World.size_alloc,World.size_alloc,World.size_alloc,World.size_alloc] at h
  exact h
 rw [hw1,show w.heap.size + 1 + 1 + 1 + 1 = B + 4 by omega,show w.heap.size + 1 + 1 + 1 = B + 3 by omega,show w.heap.size + 1 + 1 = B + 2 by omega,← hB]
 have HA1:=hid hA1
 have HB:=hid hB
 have Hs1:=hid hs1
 have HX0:=hid hx0
 have HX1:=hid hx1
 have HX2:=hid hx2
 have HX3:=hid hx3
 have HX4:=hid hx4
 clear hA1 hB hs1 hx0 hx1 hx2 hx3 hx4 hw1
 go_wp2_with fail
 refine (fromR_any (some ⟨R,0,none⟩) key valid w1).mono ?_
 rintro e w2 ⟨rfl,hw2⟩
 have hb2:Below w1.heap.size w1 w2:=by rw [hw2];exact (((Below.refl _ _).alloc (Nat.le_refl _) _).alloc (by simp) _).alloc (by simp;omega) _
 have hs2:w2.heap.size = B + 8:=by rw [hw2];simp;have:=Hs1.out;omega
 have hz1:Boxed w2 (B + 5) 30 (.pointer (some ⟨R,0,none⟩)):=by
  rw [hw2,← Hs1.out]
  exact ((Boxed.new w1 _ _).alloc _).alloc _
 have hz2:Boxed w2 (B + 6) 9 (.string key):=by
  have h:=Boxed.new (w1.alloc (.cells #[.pointer (some ⟨R,0,none⟩)] 30)) 9 (.string key)
  rw [World.size_alloc,Hs1.out] at h
  rw [hw2]
  exact h.alloc _
 have hz3:Boxed w2 (B + 7) 23 (.int .u32 (valid:Int)):=by
  have h:=Boxed.new ((w1.alloc (.cells #[.pointer (some ⟨R,0,none⟩)] 30)).alloc (.cells #[.string key] 9)) 23 (.int .u32 (valid:Int))
  rw [World.size_alloc,World.size_alloc,Hs1.out] at h
  rw [hw2]
  exact h
 rw [Hs1.out]
 have HB2:=hid hb2
 have Hs2:=hid hs2
 have HZ1:=hid hz1
 have HZ2:=hid hz2
 have HZ3:=hid hz3
 clear hb2 hs2 hz1 hz2 hz3 hw2
 have hnf:∀ (c:Array Value) (w:World),(binOp .eql 71 (.func (.func 63) #[] c) .nilFunc).run Tryz.prog w = .ok (.bool false) w:=fun c w=>by kernel_rfl
 go_wp2_with fail
 obtain ⟨F,hF⟩:∃ F:Fact × Int → Nat → Act,F = fun x X => { tmps := #[.pointer (some ⟨R,0,none⟩),.string key,.int .u32 (valid:Int),.int .i64 (most:Int),undef,undef,undef,.pointer (some ⟨B,0,none⟩),.pointer (some ⟨B + 1,0,none⟩),.pointer (some ⟨B + 2,0,none⟩),.pointer (some ⟨B + 3,0,none⟩),.pointer (some ⟨B + 4,0,none⟩),.func (.func 63) #[] #[.pointer (some ⟨B + 5,0,none⟩),.pointer (some ⟨B + 5 + 1,0,none⟩),.pointer (some ⟨B + 5 + 2,0,none⟩)],.pointer (some ⟨X,0,none⟩),.int .i64 x.2,.pointer (some ⟨R,0,none⟩),.string key,.int .u32 (valid:Int),.func (.func 63) #[] #[.pointer (some ⟨B + 5,0,none⟩),.pointer (some ⟨B + 5 + 1,0,none⟩),.pointer (some ⟨B + 5 + 2,0,none⟩)],.func (.func 63) #[] #[.pointer (some ⟨B + 5,0,none⟩),.pointer (some ⟨B + 5 + 1,0,none⟩),.pointer (some ⟨B + 5 + 2,0,none⟩)],.bool false,.func (.func 63) #[] #[.pointer (some ⟨B + 5,0,none⟩),.pointer (some ⟨B + 5 + 1,0,none⟩),.pointer (some ⟨B + 5 + 2,0,none⟩)],.agg x.1.cells.toArray,.int .i64 x.2,undef,undef,undef,undef,undef,undef,undef,undef,undef,undef,undef,undef,undef,undef,undef,undef,undef,undef,undef,undef,undef,undef,undef,undef],defers:=[] }:=⟨_,rfl⟩
 have HFr:=hid hF
 obtain ⟨ALL,hALL⟩:∃ a,Hid (a = l.map (fun f=>((f,0):Fact × Int)) ++ (if b = true then [(zFact,13)] else [])):=⟨_,hid rfl⟩
 rw [← hALL.out] at HA
 have hs2:=Hs2.out
 have hBw:=HB.out
 have hA1:=HA1.out
 have hb02:Below w.heap.size w w2:=hA1.trans (HB2.out.mono hA1.size)
 have Hb02:=hid hb02
 have hI0:TolI w B (B + 8) most [] w2 ∧ (okF []).length < most :=
  ⟨⟨(HB2.out.block _ HX0.out.lt).trans HX0.out,(HB2.out.block _ HX1.out.lt).trans HX1.out,(HB2.out.block _ HX2.out.lt).trans HX2.out,⟨none,0,(HB2.out.block _ HX3.out.lt).trans HX3.out,World.ownsRow_nil _ _ _ _⟩,(HB2.out.block _ HX4.out.lt).trans HX4.out,hb02,by omega⟩,hm0⟩
 have HI0:=hid hI0
 have hfrok:∀ W,Below w2.heap.size w2 W → W.heap.size = w2.heap.size + 2 → FrOk w (fun g=>g = B + 1 ∨ g = B + 2 ∨ g = B + 3 ∨ g = B + 4) (B + 3) (B + 5) (B + 5 + 1) (B + 5 + 2) R key valid W:=fun W hW hs=>by
  have h3:Boxed W (B + 3) 38 (.slice none 0 0):=(hW.block _ (Nat.lt_of_lt_of_le HX3.out.lt HB2.out.size)).trans ((HB2.out.block _ HX3.out.lt).trans HX3.out)
  have ho:ownB (B + 3) W = none:=by unfold ownB;rw [h3.cell];rfl
  exact ⟨hb02.trans (hW.mono hb02.size),⟨(hW.block _ HZ1.out.lt).trans HZ1.out,by omega,by rw [ho];simp⟩,⟨(hW.block _ HZ2.out.lt).trans HZ2.out,by omega,by rw [ho];simp⟩,⟨(hW.block _ HZ3.out.lt).trans HZ3.out,by omega,by rw [ho];simp⟩,by omega,(fun x hx=>by rw [ho] at hx;cases hx),fun x hx=>by omega⟩
 have HFrOk:=hid hfrok
 have hBg:w.heap.size ≤ B:=by omega
 have hBh:B ≤ w.heap.size:=by omega
 have hsg:w2.heap.size ≤ B + 8:=by omega
 have hsh:B + 8 ≤ w2.heap.size:=by omega
 clear hF hb02 hI0 hfrok hA1 hBw hs2
 refine wpIn_wide.1 (wpIn_range_stop3 (n:=3) rfl (by omega) (gf:=63) (lb := #[.pointer (some ⟨B + 5,0,none⟩),.pointer (some ⟨B + 5 + 1,0,none⟩),.pointer (some ⟨B + 5 + 2,0,none⟩)]) rfl trivial (enters_of Tryz.func63 (by kernel_rfl) rfl)
  (fun _=>rfl) (fromi_in 2 (by omega) w (fun g=>g = B + 1 ∨ g = B + 2 ∨ g = B + 3 ∨ g = B + 4) (B + 3) (B + 5) (B + 5 + 1) (B + 5 + 2) R r HAt.out HF.out key valid hk hv s Hs.out ALL HA.out) (Nat.zero_le _) HFrOk.out
  KpC.trans ?kb (fun A B h=>h.keeps _) (fun pre W=>TolI w B (B + 8) most pre W ∧ (okF pre).length < most) (fun c pre W=>c = .exit 0 ∧ TolI w B (B + 8) most pre W ∧ (okF pre).length = most ∧ lastE pre = 0 ∧ ∃ rest,ALL = pre ++ rest)
  (fun s A W h hb=>⟨h.1.stays hb,h.2⟩) (fun s A W h hr=>⟨h.1.stays hr.nothing,h.2⟩) (fun c s A W h hr=>⟨h.1,h.2.1.stays hr.nothing,h.2.2⟩) (fun s W l o o' h hl ho hc=>⟨TolI.turns w2.heap.size (by omega) W l o o' h.1 hl ho hc,h.2⟩) (fun c s W l o o' h hl ho hc=>⟨h.1,TolI.turns w2.heap.size (by omega) W l o o' h.2.1 hl ho hc,h.2.2⟩) (fun s x W l o o' h _ _ _=>h) (fun s x A W h _=>h) (fun A W hb=>KpC.of_below A W hb) HI0.out
  (fun x a W=>∃ X,a = F x X ∧ W.heap[X]? = some (.cells x.1.cells.toArray 27 (0,0)) ∧ w2.heap.size ≤ X) ?ap ?assign ?rbody ?rdone ?rstop)
 case kb=>exact fun W l o o' h1 h2 h3 h4 h5 h6=>KpO.putObj W l o o' (by omega) (by omega) h3 h4
 case ap =>
  rintro x a W l o o' ⟨X,h1,h2,h3⟩ hl ho hc
  exact ⟨X,h1,(World.putObj_heap_other (fun e=>by subst e;rw [ho] at h2;cases h2;cases hc)).trans h2,h3⟩
 case assign =>
  intro l x W K hs hK
  have hx:(W.alloc (.cells #[.string ⟨#[]⟩,.int .u32 0,.int .u64 0,.int .u64 0,.int .u8 0,.string ⟨#[]⟩] 27)).heap[W.heap.size]? = some (.cells #[.string ⟨#[]⟩,.int .u32 0,.int .u64 0,.int .u64 0,.int .u8 0,.string ⟨#[]⟩] 27 (0,0)):=heap_alloc_new W _
  have HK:=hid hK
  clear hK
  gi_wp2_with (refine wpListIn_store_block rfl 27 _ _ rfl _ _ _ x.1.cells.toArray rfl rfl hx rfl infoFact (by simp [Fact.cells,Value.oneCell']) ?_)
  refine HK.out _ _ ⟨W.heap.size, ?_,setRow_heap _ _ _ _ _ _ hx,hs⟩ (below_setRow ((Below.refl _ _).alloc (Nat.le_refl _) _) (Nat.le_refl _) _)
  rw [HFr.out]
 case rbody =>
  rintro l2 pre x a' W hl hI ⟨rest,hp⟩ ⟨X,rfl,hX,hXl⟩
  rw [HFr.out]
  dsimp only
  obtain ⟨hpz,hxc⟩:=shape_mid l b (by rw [← hALL.out];exact hp)
  have hle:=lastE_zero hpz
  obtain ⟨hT,hlm⟩:=hI
  have h4:=hT.e
  rw [hle] at h4
  have c4:=h4.cell
  have f4:=h4.frozen
  have HT:=hid hT
  have H4:=hid h4
  have Hp:=hid hp
  have hWw:=hT.below.size
  rcases hxc with ⟨f,rfl⟩ | rfl
  ·dsimp only at hX
   obtain ⟨q0,c0,h3,hown⟩:=hT.l
   obtain ⟨M,hM⟩:∃ M,Hid (M = (okF pre).length):=⟨_,hid rfl⟩
   rw [← hM.out] at h3 hown hlm
   have c3:=h3.cell
   have c0m:=hT.m.cell
   have hself:W.setCell ⟨B + 4,0,none⟩ (.int .i64 0) = W:=by
    rw [setCell_eq_setRow W (B + 4) 0 _ _ _ _ h4]
    exact setRow_self W (B + 4) _ _ _ h4
   have x0:W.cell? ⟨X,0,none⟩ = some (.string f.key):=(cell_of_row _ X 0 _ _ _ hX).trans rfl
   have x1:W.cell? ⟨X,1,none⟩ = some (.int .u32 (f.valid:Int)):=(cell_of_row _ X 1 _ _ _ hX).trans rfl
   have x2:W.cell? ⟨X,2,none⟩ = some (.int .u64 (f.seq:Int)):=(cell_of_row _ X 2 _ _ _ hX).trans rfl
   have x3:W.cell? ⟨X,3,none⟩ = some (.int .u64 (f.line:Int)):=(cell_of_row _ X 3 _ _ _ hX).trans rfl
   have x4:W.cell? ⟨X,4,none⟩ = some (.int .u8 (f.kind:Int)):=(cell_of_row _ X 4 _ _ _ hX).trans rfl
   have x5:W.cell? ⟨X,5,none⟩ = some (.string f.val):=(cell_of_row _ X 5 _ _ _ hX).trans rfl
   obtain ⟨WA,hWA⟩:∃ y,y = W.alloc (.cells #[.string f.key,.int .u32 (f.valid:Int),.int .u64 (f.seq:Int),.int .u64 (f.line:Int),.int .u8 (f.kind:Int),.string f.val] 27):=⟨_,rfl⟩
   have hbA:Below W.heap.size W WA:=by rw [hWA];exact (Below.refl _ _).alloc (Nat.le_refl _) _
   have hoa:WA.ownsRow (B + 8) 27 6 (.slice q0 M c0) M (fCells (okF pre)):=own_below hown hbA
   have hsrc:Src Tryz.prog 6 38 (.slice (some ⟨W.heap.size,0,none⟩) 1 1) 1 [.string f.key,.int .u32 (f.valid:Int),.int .u64 (f.seq:Int),.int .u64 (f.line:Int),.int .u8 (f.kind:Int),.string f.val] WA:=by
    rw [hWA]
    exact src_rd (by decide) Tryz.underlying38 1 rfl (Rd.new W [.string f.key,.int .u32 (f.valid:Int),.int .u64 (f.seq:Int),.int .u64 (f.line:Int),.int .u8 (f.kind:Int),.string f.val] 27) (by simp [Value.oneCell'])
   have hsz:B + 8 ≤ WA.heap.size:=Nat.le_trans hT.sz hbA.size
   have c3b:WA.cell? ⟨B + 3,0,none⟩ = some (.slice q0 M c0):=Boxed.cell ((hbA.block _ h3.lt).trans h3)
   obtain ⟨Hst,hHst⟩:∃ H:Option Addr → Nat → World → Prop,H = fun q6 c6 W5=>BoxStep W (W5.setCell ⟨B + 3,0,none⟩ (.slice q6 (M + 1) c6)) (B + 3) (B + 8) w.heap.size 38 27 6 (.slice q0 M c0) (.slice q6 (M + 1) c6) (M + 1) (fCells (okF (pre ++ [(f,0)]))):=⟨_,rfl⟩
   have hst:∀ q6 c6 W5,W5.ownsRow (B + 8) 27 6 (.slice q6 (M + 1) c6) (M + 1) (fCells (okF pre) ++ [.string f.key,.int .u32 (f.valid:Int),.int .u64 (f.seq:Int),.int .u64 (f.line:Int),.int .u8 (f.kind:Int),.string f.val]) → WA.grownBy W5 (Value.ownBlock (.slice q0 M c0)) → W5.cell? ⟨B + 3,0,none⟩ = some (.slice q0 M c0) ∧ W5.frozen? ⟨B + 3,0,none⟩ = false ∧ Hst q6 c6 W5:=by
    intro q6 c6 W5 h1 h2
    have h1':W5.ownsRow (B + 8) 27 6 (.slice q6 (M + 1) c6) (M + 1) (fCells (okF (pre ++ [(f,0)]))):=by rw [okF_append,fCells_append];exact h1
    obtain ⟨k1,k2⟩:=box_step (b0:=w.heap.size) h3 hown hbA h1' h2 (by decide) (by omega) (by omega) (by omega)
    rw [hHst]
    exact ⟨k1.cell,k1.frozen,k2⟩
   subst hWA
   have HOa:=hid hoa
   have HSrc:=hid hsrc
   have HSz:=hid hsz
   have HSt:=hid hst
   have HHst:=hid hHst
   have HBa:=hid hbA
   have H3:=hid h3
   have HOwn:=hid hown
   have HX:=hid hX
   have Hself:=hid hself
   clear hoa hsrc hsz hst hHst hbA hT h4 h3 hX hp hpz hle hown hself
   gi_upto_region 12 with fail
   rw [Hself.out]
   clear c4 f4
   have hlo:=own_lt2 HOwn.out
   have hM4:M ≤ 4194304:=by omega
   gi_upto_region 14 with (gi_at_builtin;refine wpListIn_append_src rfl (.tmp 38) (.tmp 40) 38 38 rfl (B + 8) 27 (.agg zFact.cells.toArray) 6 64 Tryz.underlying38 infoFact6 rfl (by decide) q0 M c0 _ rfl HOa.out _ 1 [.string f.key,.int .u32 (f.valid:Int),.int .u64 (f.seq:Int),.int .u64 (f.line:Int),.int .u8 (f.kind:Int),.string f.val] rfl HSrc.out (by unfold maxLen;omega) (by omega) HSz.out ?_;intro q6 c6 W5 h1 h2 h3;obtain ⟨c11,f11,hst⟩:=HSt.out q6 c6 W5 h1 h2;have HQ:=hid h3;clear h1 h2 h3)
   rw [HHst.out] at hst
   clear c11 f11
   obtain ⟨W8,hW8⟩:∃ x,x = W5.setCell ⟨B + 3,0,none⟩ (.slice q6 (M + 1) c6):=⟨_,rfl⟩
   rw [← hW8] at hst ⊢
   clear hW8
   have hsz8:=HT.out.sz
   have far:∀ g,g < B + 8 → g ≠ B + 3 → W8.heap[g]? = W.heap[g]?:=fun g h1 h2=>hst.far g (by omega) h2 (fun e=>by have:=(hlo g e).1;omega)
   have hoN:∀ (n:Nat),okF (pre ++ [(f,0)]) = okF pre ++ [f]:=fun _=>by rw [okF_append,okF_one]
   have hlen:(okF (pre ++ [(f,0)])).length = M + 1:=by rw [hoN 0,List.length_append,hM.out];rfl
   have HT8:=hid (show TolI w B (B + 8) most (pre ++ [(f,0)]) W8 from ⟨(far B (by omega) (by omega)).trans HT.out.m,(far (B + 1) (by omega) (by omega)).trans HT.out.r1,(far (B + 2) (by omega) (by omega)).trans HT.out.r2,⟨q6,c6,by rw [hlen];exact hst.box,by rw [hlen];exact hst.own⟩,by rw [lastE_snoc];exact (far (B + 4) (by omega) (by omega)).trans H4.out,HT.out.below.trans hst.below,Nat.le_trans hsz8 (hst.keeps 0).size⟩)
   have hoW:ownB (B + 3) W = Value.ownBlock (.slice q0 M c0):=by unfold ownB;rw [H3.out.cell]
   have hoW8:ownB (B + 3) W8 = Value.ownBlock (.slice q6 (M + 1) c6):=by unfold ownB;rw [hst.box.cell]
   have HKp:=hid (show KpC w.heap.size (fun g=>g = B + 1 ∨ g = B + 2 ∨ g = B + 3 ∨ g = B + 4) (B + 3) W W8 from fun _ _=>⟨hst.below,fun x hx=>by
    rw [hoW8] at hx
    rcases HQ.out with h | ⟨g,h,hg⟩
    ·rw [h] at hx
     left
     rw [hoW]
     cases q0 with
     | none=>cases hx
     | some a=>exact hx
    ·rw [h] at hx
     cases hx
     right
     rw [World.size_alloc] at hg
     show W.heap.size ≤ g
     omega,fun _ x hx=>by
    rw [hoW8] at hx
    exact (own_lt2 hst.own x hx).2,fun g cs t fr hg hb ho=>by
    rw [hst.far g (lt_of_block hg) (fun e=>hb (.inr (.inr (.inl e)))) (by rw [← hoW];exact ho)]
    exact hg⟩)
   have k3:=hst.box.cell
   have km:=HT8.out.m.cell
   have HKs:=hid (hst.keeps w2.heap.size)
   have Hlen:=hid hlen
   clear hst far hoN hlen hoW hoW8 c3 c0m c3b x0 x1 x2 x3 x4 x5 HQ
   by_cases hmm:M + 1 = most
   ·have hmb:((M:Int) + 1 == (most:Int)) = true:=by rw [beq_iff_eq];omega
    have Hmm:=hid hmm
    clear hmm
    gi_wp2
    exact ⟨HKs.out,rfl,HT8.out,by rw [Hlen.out];exact Hmm.out,by rw [lastE_snoc],rest,by rw [Hp.out];simp⟩
   ·have hmb:((M:Int) + 1 == (most:Int)) = false:=by rw [beq_eq_false_iff_ne];omega
    have hmm2:M + 1 < most:=by omega
    clear hmm
    gi_wp2
    exact ⟨HKs.out,HKp.out,HT8.out,by rw [Hlen.out];exact hmm2⟩
  ·dsimp only at hX
   have hneq:∀ W:World,(binOp .neq 27 (.agg #[.string ⟨#[]⟩,.int .u32 0,.int .u64 0,.int .u64 0,.int .u8 0,.string ⟨#[]⟩]) (.agg #[.string ⟨#[]⟩,.int .u32 0,.int .u64 0,.int .u64 0,.int .u8 0,.string ⟨#[]⟩])).run Tryz.prog W = .ok (.bool false) W:=fun W=>by kernel_rfl
   have x0:W.cell? ⟨X,0,none⟩ = some (.string ⟨#[]⟩):=(cell_of_row _ X 0 _ _ _ hX).trans rfl
   have x1:W.cell? ⟨X,1,none⟩ = some (.int .u32 0):=(cell_of_row _ X 1 _ _ _ hX).trans rfl
   have x2:W.cell? ⟨X,2,none⟩ = some (.int .u64 0):=(cell_of_row _ X 2 _ _ _ hX).trans rfl
   have x3:W.cell? ⟨X,3,none⟩ = some (.int .u64 0):=(cell_of_row _ X 3 _ _ _ hX).trans rfl
   have x4:W.cell? ⟨X,4,none⟩ = some (.int .u8 0):=(cell_of_row _ X 4 _ _ _ hX).trans rfl
   have x5:W.cell? ⟨X,5,none⟩ = some (.string ⟨#[]⟩):=(cell_of_row _ X 5 _ _ _ hX).trans rfl
   obtain ⟨W8,hW8⟩:∃ x,x = W.setCell ⟨B + 4,0,none⟩ (.int .i64 13):=⟨_,rfl⟩
   have far:∀ g,g ≠ B + 4 → W8.heap[g]? = W.heap[g]?:=fun g hg=>by rw [hW8];exact heap_setCell_other _ _ _ _ hg
   have hbx4:Boxed W8 (B + 4) 31 (.int .i64 13):=by rw [hW8];exact h4.set _
   have hs8:W8.heap.size = W.heap.size:=by rw [hW8];exact World.size_setCell _ _ _
   have hbl:Below w.heap.size W W8:=by rw [hW8];exact (Below.refl _ _).setCell (p:=⟨B + 4,0,none⟩) (by show w.heap.size ≤ B + 4;omega) _
   have hkf:KeepsFrom w2.heap.size W W8:=by
    have h:=Only.keeps (Only.set (R:=fun g=>g = B + 4) h4 rfl (.int .i64 13)) w2.heap.size
    rw [← hW8] at h
    exact h
   obtain ⟨q0,c0,h3,hown⟩:=hT.l
   have hoN:okF (pre ++ [(zFact,13)]) = okF pre:=by rw [okF_append,okF_bad,List.append_nil]
   have hap:=own_apart hown ⟨_,_,h4⟩ (by decide)
   have HT8:=hid (show TolI w B (B + 8) most (pre ++ [(zFact,13)]) W8 from ⟨(far B (by omega)).trans hT.m,(far (B + 1) (by omega)).trans hT.r1,(far (B + 2) (by omega)).trans hT.r2,⟨q0,c0,by rw [hoN];exact (far (B + 3) (by omega)).trans h3,by rw [hoN];exact own_keep2 hown fun g hg=>far g (hap g hg)⟩,by rw [lastE_snoc];exact hbx4,hT.below.trans hbl,by rw [hs8];exact hT.sz⟩)
   have hoW:ownB (B + 3) W8 = ownB (B + 3) W:=ownB_block (far (B + 3) (by omega))
   have HKp:=hid (show KpC w.heap.size (fun g=>g = B + 1 ∨ g = B + 2 ∨ g = B + 3 ∨ g = B + 4) (B + 3) W W8 from fun _ _=>⟨hbl,(fun x hx=>by rw [hoW] at hx;exact .inl hx),(fun ha x hx=>by rw [hoW] at hx;rw [hs8];exact ha x hx),fun g cs t fr hg hb _=>(far g (fun e=>hb (.inr (.inr (.inr e))))).trans hg⟩)
   have HKf:=hid hkf
   have HoN:=hid hoN
   have HW8:=hid hW8
   clear hW8 far hbx4 hs8 hbl hkf hT h3 hown hoN hap hoW h4 hX hp hpz hle
   gi_upto_region 12 with fail
   rw [← HW8.out]
   clear c4 f4 x0 x1 x2 x3 x4 x5
   gi_wp2
   exact ⟨HKf.out,HKp.out,HT8.out,by rw [HoN.out];exact hlm⟩
 case rdone =>
  intro D xs W hD hxs hW hD0
  obtain ⟨hT,hlm⟩:=hW
  obtain ⟨PRE,hPRE⟩:∃ p,Hid (p = xs):=⟨_,hid rfl⟩
  rw [← hPRE.out] at hT hlm hxs
  have Hxs:=hid hxs
  clear hxs
  obtain ⟨q0,c0,h3,hown⟩:=hT.l
  obtain ⟨aa,c0',e0,hcc,hcm,hrd, -⟩:=(Fr.of_own hown).shape
  cases e0
  obtain ⟨EV,hEV⟩:∃ e,Hid (e = lastE PRE):=⟨_,hid rfl⟩
  have h4:=hT.e
  rw [← hEV.out] at h4
  obtain ⟨LL,hLL⟩:∃ n,Hid (n = (okF PRE).length):=⟨_,hid rfl⟩
  rw [← hLL.out] at h3 hown hcc hlm
  have HT:=hid hT
  have HOwn:=hid hown
  have HRd:=hid hrd
  have HD0:=hid hD0
  have g1:=HT.out.r1
  have g2:=HT.out.r2
  have a1:=g1.cell
  have a2:=g2.cell
  have b1:=g1.frozen
  have b2:=g2.frozen
  have c3:=h3.cell
  have c4:=h4.cell
  obtain ⟨S,hSo,hSi⟩:∃ S:World → Prop,(∀ V,S V → V.cell? ⟨B + 3,0,none⟩ = some (.slice q0 LL c0) ∧ V.cell? ⟨B + 4,0,none⟩ = some (.int .i64 EV)) ∧ ∀ V,(V.cell? ⟨B + 3,0,none⟩ = some (.slice q0 LL c0) ∧ V.cell? ⟨B + 4,0,none⟩ = some (.int .i64 EV)) → S V:=⟨_,fun V h=>h,fun V h=>h⟩
  have HSo:=hid hSo
  have HSi:=hid hSi
  have HS0:=hid (show W.drew.cell? ⟨B + 3,0,none⟩ = some (.slice q0 LL c0) ∧ W.drew.cell? ⟨B + 4,0,none⟩ = some (.int .i64 EV) from ⟨c3,c4⟩)
  have HSet1:=hid (show ∀ (V:World) (v:Value),(V.cell? ⟨B + 3,0,none⟩ = some (.slice q0 LL c0) ∧ V.cell? ⟨B + 4,0,none⟩ = some (.int .i64 EV)) → ((V.setCell ⟨B + 1,0,none⟩ v).cell? ⟨B + 3,0,none⟩ = some (.slice q0 LL c0) ∧ (V.setCell ⟨B + 1,0,none⟩ v).cell? ⟨B + 4,0,none⟩ = some (.int .i64 EV)) from fun V v h=>⟨(cell_else V v (by omega)).trans h.1,(cell_else V v (by omega)).trans h.2⟩)
  have HSet2:=hid (show ∀ (V:World) (v:Value),(V.cell? ⟨B + 3,0,none⟩ = some (.slice q0 LL c0) ∧ V.cell? ⟨B + 4,0,none⟩ = some (.int .i64 EV)) → ((V.setCell ⟨B + 2,0,none⟩ v).cell? ⟨B + 3,0,none⟩ = some (.slice q0 LL c0) ∧ (V.setCell ⟨B + 2,0,none⟩ v).cell? ⟨B + 4,0,none⟩ = some (.int .i64 EV)) from fun V v h=>⟨(cell_else V v (by omega)).trans h.1,(cell_else V v (by omega)).trans h.2⟩)
  have hSd:=HSi.out _ HS0.out
  have G0:=hid (And.intro g1 g2)
  clear hT hown hrd hD0 h3 h4 hSo hSi c3 c4 g1 g2
  dsimp only
  go_upto_region 15 with (fail)
  refine wp_mono_calm ?_
  refine wp_region_held (S:=S) (by kernel_rfl) ?_
  change wpAnyH _ _ _ _ _ _ _ _ W.drew
  refine take_held (v := ?v0) 0 rfl (by kernel_rfl) (by kernel_rfl) (by kernel_rfl) (fun _ _ _ h=>h) (Or.inl ⟨by rfl, ?y0⟩) (by assumption) ?r0
  case y0 =>
   intro wS hSw
   obtain ⟨s0,s1⟩:=HSo.out _ hSw
   clear hSw
   go_simp
   try with_reducible rfl
  simp only [Act.put,List.setIfInBounds_toArray,List.set_cons_zero,List.set_cons_succ]
  refine take_held (v := ?v1) 1 rfl (by kernel_rfl) (by kernel_rfl) (by kernel_rfl) (fun _ _ _ h=>h) (Or.inl ⟨by rfl, ?y1⟩) (by assumption) ?r1
  case y1 =>
   intro wS hSw
   obtain ⟨s0,s1⟩:=HSo.out _ hSw
   clear hSw
   go_simp
   try with_reducible rfl
  simp only [Act.put,List.setIfInBounds_toArray,List.set_cons_zero,List.set_cons_succ]
  refine wpAnyH_ready (rs:=[2]) (by kernel_rfl) (by simp) ?_
  refine cons_held 2 rfl (fun K hK => ?_) AllReadyH.nil
  go_simp
  refine hK.out _ _ (HSi.out _ (HSet1.out _ _ HS0.out)) (fun hHeld => ?_)
  clear hK K
  try (simp only [Act.put,List.setIfInBounds_toArray,List.set_cons_zero,List.set_cons_succ])
  refine wpAnyH_ready (rs:=[3]) (by kernel_rfl) (by simp) ?_
  refine cons_held 3 rfl (fun K hK => ?_) AllReadyH.nil
  go_simp
  refine hK.out _ _ (HSi.out _ (HSet2.out _ _ (HSet1.out _ _ HS0.out))) (fun hHeld => ?_)
  clear hK K
  try (simp only [Act.put,List.setIfInBounds_toArray,List.set_cons_zero,List.set_cons_succ])
  refine wpAnyH_done (by kernel_rfl) ?_ _
  obtain ⟨V2,hV2⟩:∃ y,y = ((W.setCell ⟨B + 1,0,none⟩ (.slice q0 LL c0)).setCell ⟨B + 2,0,none⟩ (.int .i64 EV)).drew:=⟨_,rfl⟩
  rw [← hV2]
  have G1:=hid (show Boxed V2 (B + 1) 38 (.slice q0 LL c0) by rw [hV2];exact (heap_setCell_other _ _ _ _ (by show B + 1 ≠ B + 2;omega)).trans (G0.out.1.set _))
  have G2:=hid (show Boxed V2 (B + 2) 31 (.int .i64 EV) by
   rw [hV2]
   have h:Boxed (W.setCell ⟨B + 1,0,none⟩ (.slice q0 LL c0)) (B + 2) 31 (.int .i64 0):=(heap_setCell_other _ _ _ _ (by show B + 2 ≠ B + 1;omega)).trans G0.out.2
   exact h.set _)
  have hoth:∀ g,g ≠ B + 1 → g ≠ B + 2 → V2.heap[g]? = W.heap[g]?:=fun g h1 h2=>by rw [hV2];exact (heap_setCell_other _ _ _ _ h2).trans (heap_setCell_other _ _ _ _ h1)
  have HB2V:=hid (show Below w.heap.size w V2 by rw [hV2];exact ((HT.out.below.setCell (p:=⟨B + 1,0,none⟩) (by show w.heap.size ≤ B + 1;omega) _).setCell (p:=⟨B + 2,0,none⟩) (by show w.heap.size ≤ B + 2;omega) _).drew)
  have HDV:=hid (show V2.heap[D]? = some (.deferred (some [])) from (hoth D (by omega) (by omega)).trans HD0.out)
  have hap1:=own_apart HOwn.out ⟨_,_,HT.out.r1⟩ (by decide)
  have hap2:=own_apart HOwn.out ⟨_,_,HT.out.r2⟩ (by decide)
  have HOV:=hid (show V2.ownsRow (B + 8) 27 6 (.slice q0 LL c0) LL (fCells (okF PRE)) from own_keep2 HOwn.out fun g hg=>hoth g (hap1 g hg) (hap2 g hg))
  clear hV2 hoth hap1 hap2 a1 a2 b1 b2
  unfold calmQ
  dsimp only
  go_wp2
  refine leaves_marks (base:=w.heap.size) _ _ ⟨⟨D,rfl,by omega,HDV.out,fun d hd=>by cases hd⟩,trivial⟩ (fun w' hs => ?_)
  have G1':Boxed w' (B + 1) 38 (.slice q0 LL c0):=hs.cells _ _ _ _ G1.out
  have G2':Boxed w' (B + 2) 31 (.int .i64 EV):=hs.cells _ _ _ _ G2.out
  have hown':w'.ownsRow (B + 8) 27 6 (.slice q0 LL c0) LL (fCells (okF PRE)):=by
   obtain ⟨k1,k2⟩:=HOV.out
   refine ⟨k1, ?_⟩
   rcases k2 with k2 | ⟨g,cap,cur,hv,hg,hh,rr⟩
   ·exact .inl k2
   ·exact .inr ⟨g,cap,cur,hv,hg,hs.cells _ _ _ _ hh,rr⟩
  have hrd:=(Fr.of_own hown').mono (show w.heap.size ≤ B + 8 by omega)
  refine ⟨_,tol_results rfl rfl G1' G2',HB2V.out.trans (hs.below _ (Nat.le_refl _)), ?_⟩
  have hA:=Hxs.out.trans hALL.out
  have e1:okF PRE = l:=by rw [hA];exact okF_shape l b
  have e2:EV = if b = true then 13 else 0:=by rw [hEV.out,hA];exact lastE_shape l b
  have hll:LL = l.length:=by rw [hLL.out,e1]
  have ht:toldA l b most = (l,if b = true then 13 else 0):=by unfold toldA;rw [if_neg (by omega)]
  rw [ht]
  exact ⟨q0,c0,by rw [hll,e2],by rw [e1,hll] at hrd;exact hrd⟩
 case rstop =>
  rintro D c PRE W hD ⟨rfl,hT,hT2,hT3,rest,hT4⟩ hD0
  refine wpIn_wide.2 ?_
  have H2:=hid hT2
  have H3e:=hid hT3
  have H4e:=hid hT4
  clear hT2 hT3 hT4
  obtain ⟨q0,c0,h3,hown⟩:=hT.l
  obtain ⟨aa,c0',e0,hcc,hcm,hrd, -⟩:=(Fr.of_own hown).shape
  cases e0
  obtain ⟨EV,hEV⟩:∃ e,Hid (e = lastE PRE):=⟨_,hid rfl⟩
  have h4:=hT.e
  rw [← hEV.out] at h4
  obtain ⟨LL,hLL⟩:∃ n,Hid (n = (okF PRE).length):=⟨_,hid rfl⟩
  rw [← hLL.out] at h3 hown hcc
  have HT:=hid hT
  have HOwn:=hid hown
  have HRd:=hid hrd
  have HD0:=hid hD0
  have g1:=HT.out.r1
  have g2:=HT.out.r2
  have a1:=g1.cell
  have a2:=g2.cell
  have b1:=g1.frozen
  have b2:=g2.frozen
  have c3:=h3.cell
  have c4:=h4.cell
  obtain ⟨S,hSo,hSi⟩:∃ S:World → Prop,(∀ V,S V → V.cell? ⟨B + 3,0,none⟩ = some (.slice q0 LL c0) ∧ V.cell? ⟨B + 4,0,none⟩ = some (.int .i64 EV)) ∧ ∀ V,(V.cell? ⟨B + 3,0,none⟩ = some (.slice q0 LL c0) ∧ V.cell? ⟨B + 4,0,none⟩ = some (.int .i64 EV)) → S V:=⟨_,fun V h=>h,fun V h=>h⟩
  have HSo:=hid hSo
  have HSi:=hid hSi
  have HS0:=hid (show W.drew.cell? ⟨B + 3,0,none⟩ = some (.slice q0 LL c0) ∧ W.drew.cell? ⟨B + 4,0,none⟩ = some (.int .i64 EV) from ⟨c3,c4⟩)
  have HSet1:=hid (show ∀ (V:World) (v:Value),(V.cell? ⟨B + 3,0,none⟩ = some (.slice q0 LL c0) ∧ V.cell? ⟨B + 4,0,none⟩ = some (.int .i64 EV)) → ((V.setCell ⟨B + 1,0,none⟩ v).cell? ⟨B + 3,0,none⟩ = some (.slice q0 LL c0) ∧ (V.setCell ⟨B + 1,0,none⟩ v).cell? ⟨B + 4,0,none⟩ = some (.int .i64 EV)) from fun V v h=>⟨(cell_else V v (by omega)).trans h.1,(cell_else V v (by omega)).trans h.2⟩)
  have HSet2:=hid (show ∀ (V:World) (v:Value),(V.cell? ⟨B + 3,0,none⟩ = some (.slice q0 LL c0) ∧ V.cell? ⟨B + 4,0,none⟩ = some (.int .i64 EV)) → ((V.setCell ⟨B + 2,0,none⟩ v).cell? ⟨B + 3,0,none⟩ = some (.slice q0 LL c0) ∧ (V.setCell ⟨B + 2,0,none⟩ v).cell? ⟨B + 4,0,none⟩ = some (.int .i64 EV)) from fun V v h=>⟨(cell_else V v (by omega)).trans h.1,(cell_else V v (by omega)).trans h.2⟩)
  have hSd:=HSi.out _ HS0.out
  have G0:=hid (And.intro g1 g2)
  clear hT hown hrd hD0 h3 h4 hSo hSi c3 c4 g1 g2
  dsimp only
  go_upto_region 15 with (fail)
  refine wp_mono_calm ?_
  refine wp_region_held (S:=S) (by kernel_rfl) ?_
  change wpAnyH _ _ _ _ _ _ _ _ W.drew
  refine take_held (v := ?v110) 0 rfl (by kernel_rfl) (by kernel_rfl) (by kernel_rfl) (fun _ _ _ h=>h) (Or.inl ⟨by rfl, ?y110⟩) (by assumption) ?r110
  case y110 =>
   intro wS hSw
   obtain ⟨s0,s1⟩:=HSo.out _ hSw
   clear hSw
   go_simp
   try with_reducible rfl
  simp only [Act.put,List.setIfInBounds_toArray,List.set_cons_zero,List.set_cons_succ]
  refine take_held (v := ?v11) 1 rfl (by kernel_rfl) (by kernel_rfl) (by kernel_rfl) (fun _ _ _ h=>h) (Or.inl ⟨by rfl, ?y11⟩) (by assumption) ?r11
  case y11 =>
   intro wS hSw
   obtain ⟨s0,s1⟩:=HSo.out _ hSw
   clear hSw
   go_simp
   try with_reducible rfl
  simp only [Act.put,List.setIfInBounds_toArray,List.set_cons_zero,List.set_cons_succ]
  refine wpAnyH_ready (rs:=[2]) (by kernel_rfl) (by simp) ?_
  refine cons_held 2 rfl (fun K hK => ?_) AllReadyH.nil
  go_simp
  refine hK.out _ _ (HSi.out _ (HSet1.out _ _ HS0.out)) (fun hHeld => ?_)
  clear hK K
  try (simp only [Act.put,List.setIfInBounds_toArray,List.set_cons_zero,List.set_cons_succ])
  refine wpAnyH_ready (rs:=[3]) (by kernel_rfl) (by simp) ?_
  refine cons_held 3 rfl (fun K hK => ?_) AllReadyH.nil
  go_simp
  refine hK.out _ _ (HSi.out _ (HSet2.out _ _ (HSet1.out _ _ HS0.out))) (fun hHeld => ?_)
  clear hK K
  try (simp only [Act.put,List.setIfInBounds_toArray,List.set_cons_zero,List.set_cons_succ])
  refine wpAnyH_done (by kernel_rfl) ?_ _
  obtain ⟨V2,hV2⟩:∃ y,y = ((W.setCell ⟨B + 1,0,none⟩ (.slice q0 LL c0)).setCell ⟨B + 2,0,none⟩ (.int .i64 EV)).drew:=⟨_,rfl⟩
  rw [← hV2]
  have G1:=hid (show Boxed V2 (B + 1) 38 (.slice q0 LL c0) by rw [hV2];exact (heap_setCell_other _ _ _ _ (by show B + 1 ≠ B + 2;omega)).trans (G0.out.1.set _))
  have G2:=hid (show Boxed V2 (B + 2) 31 (.int .i64 EV) by
   rw [hV2]
   have h:Boxed (W.setCell ⟨B + 1,0,none⟩ (.slice q0 LL c0)) (B + 2) 31 (.int .i64 0):=(heap_setCell_other _ _ _ _ (by show B + 2 ≠ B + 1;omega)).trans G0.out.2
   exact h.set _)
  have hoth:∀ g,g ≠ B + 1 → g ≠ B + 2 → V2.heap[g]? = W.heap[g]?:=fun g h1 h2=>by rw [hV2];exact (heap_setCell_other _ _ _ _ h2).trans (heap_setCell_other _ _ _ _ h1)
  have HB2V:=hid (show Below w.heap.size w V2 by rw [hV2];exact ((HT.out.below.setCell (p:=⟨B + 1,0,none⟩) (by show w.heap.size ≤ B + 1;omega) _).setCell (p:=⟨B + 2,0,none⟩) (by show w.heap.size ≤ B + 2;omega) _).drew)
  have HDV:=hid (show V2.heap[D]? = some (.deferred (some [])) from (hoth D (by omega) (by omega)).trans HD0.out)
  have hap1:=own_apart HOwn.out ⟨_,_,HT.out.r1⟩ (by decide)
  have hap2:=own_apart HOwn.out ⟨_,_,HT.out.r2⟩ (by decide)
  have HOV:=hid (show V2.ownsRow (B + 8) 27 6 (.slice q0 LL c0) LL (fCells (okF PRE)) from own_keep2 HOwn.out fun g hg=>hoth g (hap1 g hg) (hap2 g hg))
  clear hV2 hoth hap1 hap2 a1 a2 b1 b2
  unfold calmQ
  dsimp only
  go_wp2
  refine leaves_marks (base:=w.heap.size) _ _ ⟨⟨D,rfl,by omega,HDV.out,fun d hd=>by cases hd⟩,trivial⟩ (fun w' hs => ?_)
  have G1':Boxed w' (B + 1) 38 (.slice q0 LL c0):=hs.cells _ _ _ _ G1.out
  have G2':Boxed w' (B + 2) 31 (.int .i64 EV):=hs.cells _ _ _ _ G2.out
  have hown':w'.ownsRow (B + 8) 27 6 (.slice q0 LL c0) LL (fCells (okF PRE)):=by
   obtain ⟨k1,k2⟩:=HOV.out
   refine ⟨k1, ?_⟩
   rcases k2 with k2 | ⟨g,cap,cur,hv,hg,hh,rr⟩
   ·exact .inl k2
   ·exact .inr ⟨g,cap,cur,hv,hg,hs.cells _ _ _ _ hh,rr⟩
  have hrd:=(Fr.of_own hown').mono (show w.heap.size ≤ B + 8 by omega)
  refine ⟨_,tol_results rfl rfl G1' G2',HB2V.out.trans (hs.below _ (Nat.le_refl _)), ?_⟩
  have hA:=hALL.out
  rw [H4e.out] at hA
  have e1:okF PRE = l.take most:=by
   have h:=okF_shape l b
   rw [← hA,okF_append] at h
   rw [← h,List.take_append_of_le_length (by rw [H2.out];exact Nat.le_refl _),List.take_of_length_le (by rw [H2.out];exact Nat.le_refl _)]
  have hml:most ≤ l.length:=by
   have h:=congrArg List.length e1
   rw [H2.out,List.length_take] at h
   omega
  have ht:toldA l b most = (l.take most,0):=by unfold toldA;rw [if_pos hml]
  have hll:LL = (l.take most).length:=by rw [hLL.out,e1]
  rw [ht]
  exact ⟨q0,c0,by rw [hll,hEV.out,H3e.out],by rw [e1,hll] at hrd;exact hrd⟩
end Go.Proofs.Herb
namespace Go.Proofs.Herb
open Go.RowKit
theorem blk_rise {b:List UInt8} {l:List Item} (h:BlkOf b l):RiseK l:=riseK_of fun j hj=>(leS_of _ _).1 (h.1.2 j hj)
theorem rise_of {bs:List UInt8} {r:Rdr} (h:Opens bs r):RiseC r.chunks:=by
 obtain ⟨l,h1,h2⟩:=h.idx
 have hk:=idxR_keys h2
 have hr:=blk_rise h1
 have hlen:r.chunks.length = l.length:=by
  have:=congrArg List.length hk
  simpa using this
 intro i j hj hi
 have key:∀ (n:Nat) (hn:n < r.chunks.length),r.chunks[n].last = (l[n]'(by omega)).key:=fun n hn=>by
  have h3:(r.chunks.map (·.last))[n]? = (l.map (·.key))[n]?:=by rw [hk]
  rw [List.getElem?_map,List.getElem?_map,List.getElem?_eq_getElem hn,List.getElem?_eq_getElem (by omega)] at h3
  exact Option.some.inj h3
 rw [key i (by omega),key j hj]
 exact hr i j (by omega) hi
theorem propsR_line {b:List UInt8} {p:Props} (h:propsR b = some p):p.line < 18446744073709551616:=by
 unfold propsR at h
 cases ha:tkB b with
 | none=>rw [ha] at h;cases h
 | some a =>
  rw [ha,Option.bind_some] at h
  have h1:=(tkB_len ha).2
  obtain ⟨x1, -,h⟩:=Option.bind_eq_some_iff.1 h
  obtain ⟨x2, -,h⟩:=Option.bind_eq_some_iff.1 h
  obtain ⟨x3, -,h⟩:=Option.bind_eq_some_iff.1 h
  obtain ⟨x4, -,h⟩:=Option.bind_eq_some_iff.1 h
  obtain ⟨x5, -,h⟩:=Option.bind_eq_some_iff.1 h
  obtain ⟨x6, -,h⟩:=Option.bind_eq_some_iff.1 h
  obtain ⟨x7, -,h⟩:=Option.bind_eq_some_iff.1 h
  split at h
  ·cases h;exact h1
  ·cases h
theorem fit0_of {bs:List UInt8} {r:Rdr} (h:Opens bs r) (hm:bs.length ≤ 4194304):r.Fit0:=by
 obtain ⟨h1,h2,h3⟩:=h.facts
 obtain ⟨l,k1,k2⟩:=h.idx
 have hk:=congrArg List.length (idxR_keys k2)
 rw [List.length_map,List.length_map] at hk
 have:=(blk_short k1).2
 exact ⟨h1,by omega,fun c hc=>by rw [h.b];exact h2 c hc,by rw [h.b];exact hm,propsR_line h.props,rise_of h⟩
theorem fit_of {bs:List UInt8} {r:Rdr} (h:Opens bs r) (hm:bs.length ≤ 4194304) (hf:∀ fs,ChksOf r r.chunks fs → fs.length ≤ 24000):r.Fit :=
 have h0:=fit0_of h hm
 ⟨h0.n0,h0.n1,h0.at_,h0.b,h0.line,hf⟩
theorem kput_rise {line:Nat} {l:List Fact} (hg:GoodF line l) (ho:∀ f ∈ l,f.Ok) {i j:Nat} (hj:j < l.length) (hi:i < j):bL (kput (l[i]'(by omega))) (kput l[j]) = true:=by
 have h:=items_rise hg ho i j (by unfold itemsF;rw [List.length_map];exact hj) hi
 unfold itemsF at h
 simpa [itemF] using h
theorem last_tab {line:Nat} {l:List Fact} (h:GoodF line l ∧ 0 < l.length) (ho:∀ f ∈ l,f.Ok) (hl:(tabB line l).length ≤ 65536) {i:Nat} (hi:i < (chksF l).length) :
  ∃ n,∃ hn:n < l.length,n + 1 = fromF l (i + 1) ∧ (chksF l)[i].last.data.toList = kput l[n]:=by
 have hlt:=hi
 rw [chksF_len] at hlt
 obtain ⟨S,m,xs,K,V,hc⟩:=chunk_all h ho hl hlt
 have h1:=chksF_get l hlt
 rw [List.getElem?_eq_getElem hi,Option.some.injEq] at h1
 have hp:=hc.pos
 have hf:=hc.fits
 have hn:=hc.nextN
 have hmx:=hc.many
 refine ⟨fromF l i + m - 1,by omega,by omega, ?_⟩
 rw [h1]
 show (((idxI l)[i]?).getD nilI).key.data.toList = _
 rw [hc.idx]
 show K.data.toList = _
 rw [← hc.last (by omega)]
 have h2:=hc.item (m - 1) (by omega)
 rw [List.getElem?_eq_getElem (by omega),show fromF l i + (m - 1) = fromF l i + m - 1 by omega,List.getElem?_eq_getElem (by omega)] at h2
 rw [Option.some.inj h2]
 rfl
theorem keepS_none {s:ByteArray} {fs:List Fact} (h:∀ f ∈ fs,bL (kput f) s.data.toList = true):keepS s fs = []:=by
 unfold keepS
 rw [List.filter_eq_nil_iff.2 (fun f hf=>by rw [h f hf];decide)]
 rfl
theorem keepS_append (s:ByteArray) (a b:List Fact):keepS s (a ++ b) = keepS s a ++ keepS s b:=by unfold keepS;rw [List.filter_append,List.map_append]
theorem told_tab {line:Nat} {l:List Fact} (h:GoodF line l ∧ 0 < l.length) (ho:∀ f ∈ l,f.Ok) (hl:(tabB line l).length ≤ 65536) (s:ByteArray) :
  FromR (rdrF line l) s ((rdrF line l).chunks.drop (seekI (rdrF line l).chunks s)) (keepS s l):=by
 show FromR (rdrF line l) s ((chksF l).drop (seekI (chksF l) s)) (keepS s l)
 obtain ⟨i,hi⟩:∃ i,i = seekI (chksF l) s:=⟨_,rfl⟩
 have hle:=seekI_le (chksF l) s
 rw [← hi] at hle ⊢
 have h1:=FromR.all (s:=s) (chks_tab h ho hl ((chksF l).length - i) i (by omega))
 have h2:keepS s l = keepS s (l.drop (fromF l i)):=by
  cases i with
  | zero=>rw [fromF_zero,List.drop_zero]
  | succ i =>
   obtain ⟨n,hn,hn1,hlast⟩:=last_tab h ho hl (i:=i) (by omega)
   have hlt:=seekI_lt (cs:=chksF l) (s:=s) (i:=i) (by omega) (by omega)
   rw [hlast] at hlt
   have e:=(List.take_append_drop (fromF l (i + 1)) l).symm
   conv=>lhs;rw [e]
   rw [keepS_append,keepS_none (fs:=l.take (fromF l (i + 1))),List.nil_append]
   intro f hf
   obtain ⟨k,hk,rfl⟩:=List.getElem_of_mem hf
   rw [List.length_take] at hk
   rw [List.getElem_take]
   by_cases hkn:k = n
   ·subst hkn;exact hlt
   ·exact bl_trans (kput_rise h.1 ho hn (by omega)) hlt
 rw [h2]
 exact h1
end Go.Proofs.Herb
