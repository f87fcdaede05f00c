/- A table's bytes, and that its blocks' keys rise: plain. -/
import Derived.Test.YtbaohpnfiacchaaGreatDoorQb04
import Derived.Test.YtbaohpnfiacchaaGreatDoorQb05
import Derived.Test.YtbaohpnfiacchaaGreatDoorQb06
import Derived.Test.YtbaohpnfiacchaaGreatDoorQb09
import Derived.Test.YtbaohpnfiacchaaGreatDoorQb10
namespace Go.Proofs.Herb
open Go.RowKit
def subI (l:List Item) (x:Nat × Nat):List Item:=(l.drop x.1).take (x.2 - x.1)
def lastKey (l:List Item):ByteArray:=(l.getLast?.getD ⟨⟨#[]⟩,⟨#[]⟩⟩).key
def stepB (l:List Item) (s:List UInt8 × List Item) (x:Nat × Nat):List UInt8 × List Item :=
 (s.1 ++ bAll (subI l x),s.2 ++ [⟨lastKey (subI l x),⟨(vput s.1.length ++ vput (bAll (subI l x)).length).toArray⟩⟩])
def upB (l:List Item) (pre:List (Nat × Nat)):List UInt8 × List Item:=pre.foldl (stepB l) ([],[])
theorem upB_snoc (l:List Item) (pre:List (Nat × Nat)) (x:Nat × Nat):upB l (pre ++ [x]) = stepB l (upB l pre) x:=by
 unfold upB;rw [List.foldl_append,List.foldl_cons,List.foldl_nil]
def outB (fs:List Fact):List UInt8:=(upB (itemsF fs) (chunksOf (itemsF fs))).1
def idxB (fs:List Fact):List UInt8:=bAll (upB (itemsF fs) (chunksOf (itemsF fs))).2
def filB (fs:List Fact):List UInt8:=ofF (namesF fs)
def tailB2 (line:Nat) (fs:List Fact):List UInt8:=ppB (propsF line fs)
def idxI (fs:List Fact):List Item:=(upB (itemsF fs) (chunksOf (itemsF fs))).2
def bodyB (line:Nat) (fs:List Fact):List UInt8:=outB fs ++ idxB fs ++ filB fs ++ tailB2 line fs
def foot0 (line:Nat) (fs:List Fact):List UInt8 :=
 [84,66,76,49] ++ le4 (outB fs).length ++ le4 (idxB fs).length ++ le4 (outB fs ++ idxB fs).length ++ le4 (filB fs).length ++ le4 (outB fs ++ idxB fs ++ filB fs).length ++ le4 (tailB2 line fs).length ++
  le4 (crcMore 0 (filB fs)).toNat ++ le4 (crcMore 0 (tailB2 line fs)).toNat
def tabB (line:Nat) (fs:List Fact):List UInt8:=bodyB line fs ++ (foot0 line fs ++ le4 (crcMore 0 (foot0 line fs)).toNat)
def FitsB (line:Nat) (fs:List Fact):Prop:=(∀ x ∈ chunksOf (itemsF fs),RiseI (subI (itemsF fs) x)) ∧ RiseI (idxI fs) ∧ (tabB line fs).length ≤ 65536
theorem upB_mono (l:List Item):∀ (rest pre:List (Nat × Nat)),(upB l pre).1.length ≤ (upB l (pre ++ rest)).1.length
 | [],pre=>by rw [List.append_nil];exact Nat.le_refl _
 | x :: r,pre=>by
  have h:=upB_mono l r (pre ++ [x])
  rw [List.append_assoc,List.singleton_append] at h
  refine Nat.le_trans ?_ h
  rw [upB_snoc]
  unfold stepB
  simp
theorem out_le (line:Nat) (fs:List Fact):(outB fs).length ≤ (tabB line fs).length:=by unfold tabB bodyB;simp
theorem chF_len (sz:Nat → Nat) (n:Nat):∀ (f k a m:Nat),(chF sz n f k a m).length ≤ f
 | 0,_,_,_=>Nat.le_refl _
 | f + 1,k,a,m=>by
  unfold chF
  split
  ·split
   ·exact Nat.le_succ_of_le (chF_len sz n f _ _ _)
   ·rw [List.length_cons];exact Nat.succ_le_succ (chF_len sz n f _ _ _)
  ·exact Nat.zero_le _
theorem chunks_len (l:List Item):(chunksOf l).length ≤ l.length:=chF_len _ _ _ _ _ _
theorem upB_len2 (l:List Item) (pre:List (Nat × Nat)):(upB l pre).2.length = pre.length:=by
 have h:∀ (p:List (Nat × Nat)) (s:List UInt8 × List Item),(p.foldl (stepB l) s).2.length = s.2.length + p.length:=by
  intro p
  induction p with
  | nil=>intro s;rfl
  | cons x r ih=>intro s;rw [List.foldl_cons,ih];unfold stepB;simp;omega
 have:=h pre ([],[])
 simpa [upB] using this
theorem lastKey_eq {l:List Item} {k:Nat} (h:l.length = k + 1):lastKey l = (l[k]'(by omega)).key:=by
 unfold lastKey
 rw [List.getLast?_eq_getElem?,show l.length - 1 = k by omega,List.getElem?_eq_getElem (by omega)]
 rfl
theorem lastKey_size {l:List Item} {b:Nat} (h:∀ x ∈ l,x.key.size ≤ b):(lastKey l).size ≤ b:=by
 unfold lastKey
 cases hl:l.getLast? with
 | none=>exact Nat.zero_le _
 | some x=>exact h x (List.mem_of_getLast? hl)
theorem upB_sizes {l:List Item} (h:∀ x ∈ l,x.key.size ≤ 100000) (pre:List (Nat × Nat)):∀ x ∈ (upB l pre).2,x.key.size ≤ 100000 ∧ x.val.size ≤ 100000:=by
 have key:∀ (p:List (Nat × Nat)) (s:List UInt8 × List Item),(∀ x ∈ s.2,x.key.size ≤ 100000 ∧ x.val.size ≤ 100000) → ∀ x ∈ (p.foldl (stepB l) s).2,x.key.size ≤ 100000 ∧ x.val.size ≤ 100000:=by
  intro p
  induction p with
  | nil=>intro s hs;exact hs
  | cons x r ih =>
   intro s hs
   rw [List.foldl_cons]
   refine ih _ (fun y hy => ?_)
   unfold stepB at hy
   rcases List.mem_append.1 hy with hy | hy
   ·exact hs y hy
   ·rw [List.mem_singleton] at hy
    subst hy
    refine ⟨lastKey_size (fun z hz=>h z (List.mem_of_mem_drop (List.mem_of_mem_take hz))), ?_⟩
    have h1:=(vput_len s.1.length).2
    have h2:=(vput_len (bAll (subI l x)).length).2
    simp only [ByteArray.size,List.size_toArray,List.length_append]
    omega
 exact key pre ([],[]) (fun x hx=>by cases hx)
theorem idx_le (line:Nat) (fs:List Fact):(idxB fs).length ≤ (tabB line fs).length:=by unfold tabB bodyB;simp;omega
theorem item_size {line:Nat} {fs:List Fact} (hg:GoodF line fs):∀ x ∈ itemsF fs,x.key.size + x.val.size ≤ 100000:=by
 intro x hx
 obtain ⟨f,hf,rfl⟩:=List.mem_map.1 hx
 obtain ⟨i,hi,rfl⟩:=List.mem_iff_getElem.1 hf
 obtain ⟨_,h1,_,h3,_⟩:=hg i hi
 have h4:(fs[i]).key.size ≤ 32:=by unfold mayF at h1;exact (of_decide_eq_true h1).2.1
 have h5:=esc_len (fs[i]).key.data.toList
 have h6:(fs[i]).key.data.toList.length = (fs[i]).key.size:=by rw [Array.length_toList];rfl
 have h7:(itemF fs[i]).key.size = (kput fs[i]).length:=by unfold itemF;simp [ByteArray.size]
 have h8:(kput fs[i]).length = (esc (fs[i]).key.data.toList).length + 2 + 13:=by unfold kput;rw [List.length_append,List.length_append,tailB_len];rfl
 have h9:(itemF fs[i]).val.size = (fs[i]).val.size:=rfl
 omega
def ChainC (n:Nat):Nat → List (Nat × Nat) → Prop
 | a,[]=>a = n
 | a,x :: r=>x.1 = a ∧ a < x.2 ∧ x.2 ≤ n ∧ ChainC n x.2 r
theorem chF_chain (sz:Nat → Nat) (n:Nat):∀ (f k a m:Nat),a ≤ k → k + f = n → (k < n ∨ a = k) → ChainC n a (chF sz n f k a m)
 | 0,k,a,m,h1,h2,h3=>by unfold chF ChainC;omega
 | f + 1,k,a,m,h1,h2,h3=>by
  unfold chF
  rw [if_pos (by omega)]
  split
  ·exact chF_chain sz n f (k + 1) a _ (by omega) (by omega) (by omega)
  ·exact ⟨rfl,by show a < k + 1;omega,by show k + 1 ≤ n;omega,chF_chain sz n f (k + 1) (k + 1) 0 (Nat.le_refl _) (by omega) (.inr rfl)⟩
theorem chunks_chain (l:List Item):ChainC l.length 0 (chunksOf l):=chF_chain _ _ _ 0 0 0 (Nat.le_refl _) (by omega) (by omega)
theorem chain_lt {n:Nat}:∀ {r:List (Nat × Nat)} {a:Nat},ChainC n a r → ∀ x ∈ r,a ≤ x.1 ∧ x.1 < x.2 ∧ x.2 ≤ n
 | [],_,_,x,hx=>by cases hx
 | y :: r,a,h,x,hx=>by
  obtain ⟨h1,h2,h3,h4⟩:=h
  rcases List.mem_cons.1 hx with rfl | hx
  ·omega
  ·have:=chain_lt h4 x hx
   omega
def RiseK (l:List Item):Prop:=∀ i j,(h:j < l.length) → (hij:i < j) → bL (l[i]'(by omega)).key.data.toList l[j].key.data.toList = true
theorem RiseK.rise {l:List Item} (h:RiseK l) (h0:0 < l.length):RiseI l:=⟨h0,fun j hj=>(leS_of _ _).2 (h j (j + 1) hj (by omega))⟩
theorem riseK_of {l:List Item} (h:∀ j,(h:j + 1 < l.length) → bL l[j].key.data.toList l[j + 1].key.data.toList = true):RiseK l:=by
 have key:∀ d i,(hd:i + d + 1 < l.length) → bL (l[i]'(by omega)).key.data.toList (l[i + d + 1]'hd).key.data.toList = true:=by
  intro d
  induction d with
  | zero=>intro i hd;exact h i hd
  | succ d ih=>intro i hd;exact bl_trans (ih i (by omega)) (h (i + d + 1) hd)
 intro i j hj hij
 obtain ⟨d,rfl⟩:∃ d,j = i + d + 1:=⟨j - i - 1,by omega⟩
 exact key d i hj
theorem RiseK.sub {l:List Item} (h:RiseK l) (x:Nat × Nat):RiseK (subI l x):=by
 intro i j hj hij
 unfold subI at hj ⊢
 rw [List.length_take,List.length_drop] at hj
 rw [List.getElem_take,List.getElem_take,List.getElem_drop,List.getElem_drop]
 exact h _ _ _ (by omega)
theorem sub_len {l:List Item} {x:Nat × Nat} (h:x.2 ≤ l.length):(subI l x).length = x.2 - x.1:=by unfold subI;rw [List.length_take,List.length_drop];omega
theorem items_rise {line:Nat} {fs:List Fact} (hg:GoodF line fs) (ho:∀ f ∈ fs,f.Ok):RiseK (itemsF fs):=by
 refine riseK_of fun j hj => ?_
 have hj':j + 1 < fs.length:=by simpa [itemsF] using hj
 obtain ⟨_,m1,_,_,c1⟩:=hg (j + 1) hj'
 obtain ⟨_,m0,_⟩:=hg j (by omega)
 have:=kput_lt (ho _ (List.getElem_mem (show j < fs.length by omega))) (ho _ (List.getElem_mem hj')) m0 m1 (c1 j rfl)
 simpa [itemsF,itemF] using this
theorem upB_keys (l:List Item):∀ (pre:List (Nat × Nat)),(upB l pre).2.map (·.key) = pre.map fun x=>lastKey (subI l x):=by
 have h:∀ (p:List (Nat × Nat)) (s:List UInt8 × List Item),(p.foldl (stepB l) s).2.map (·.key) = s.2.map (·.key) ++ p.map fun x=>lastKey (subI l x):=by
  intro p
  induction p with
  | nil=>intro s;simp
  | cons x r ih=>intro s;rw [List.foldl_cons,ih];unfold stepB;simp
 intro pre
 have:=h pre ([],[])
 simpa [upB] using this
theorem lastKey_sub {l:List Item} {x:Nat × Nat} (h1:x.1 < x.2) (h2:x.2 ≤ l.length):lastKey (subI l x) = (l[x.2 - 1]'(by omega)).key:=by
 rw [lastKey_eq (k:=x.2 - x.1 - 1) (by rw [sub_len h2];omega)]
 unfold subI
 rw [List.getElem_take,List.getElem_drop]
 simp only [show x.1 + (x.2 - x.1 - 1) = x.2 - 1 by omega]
theorem chain_rise {l:List Item} (h:RiseK l):∀ {r:List (Nat × Nat)} {a:Nat},ChainC l.length a r → ∀ j,(hj:j + 1 < r.length) → bL (lastKey (subI l (r[j]'(by omega)))).data.toList (lastKey (subI l r[j + 1])).data.toList = true
 | [],_,_,j,hj=>by simp at hj
 | [x],_,_,j,hj=>by simp at hj
 | x :: y :: r,a,hc,j,hj=>by
  obtain ⟨h1,h2,h3,h4⟩:=hc
  cases j with
  | zero =>
   obtain ⟨k1,k2,k3,_⟩:=h4
   simp only [List.getElem_cons_zero,List.getElem_cons_succ]
   rw [lastKey_sub (by omega) h3,lastKey_sub (by omega) k3]
   exact h _ _ _ (by omega)
  | succ j=>exact chain_rise h h4 j (by simpa using hj)
theorem chunks_ne {l:List Item} (h:0 < l.length):0 < (chunksOf l).length:=by
 have hc:=chunks_chain l
 cases hl:chunksOf l with
 | nil=>rw [hl] at hc;unfold ChainC at hc;omega
 | cons x r=>simp
theorem good_rise {line:Nat} {fs:List Fact} (hg:GoodF line fs) (h0:0 < fs.length) (ho:∀ f ∈ fs,f.Ok):(∀ x ∈ chunksOf (itemsF fs),RiseI (subI (itemsF fs) x)) ∧ RiseI (idxI fs):=by
 have hr:=items_rise hg ho
 have hil:(itemsF fs).length = fs.length:=by simp [itemsF]
 refine ⟨fun x hx => ?_, ?_⟩
 ·have hc:=chain_lt (chunks_chain _) x hx
  exact (hr.sub x).rise (by rw [sub_len hc.2.2];omega)
 ·have hk:=upB_keys (itemsF fs) (chunksOf (itemsF fs))
  have hl:(idxI fs).length = (chunksOf (itemsF fs)).length:=by unfold idxI;exact upB_len2 _ _
  refine (riseK_of (fun j hj => ?_)).rise (by rw [hl];exact chunks_ne (by omega))
  have e:∀ i,(hi:i < (idxI fs).length) → ((idxI fs)[i]).key = lastKey (subI (itemsF fs) ((chunksOf (itemsF fs))[i]'(by omega))):=fun i hi=>by
   have:=congrArg (·[i]?) hk
   simp only [List.getElem?_map] at this
   rw [List.getElem?_eq_getElem (show i < (chunksOf (itemsF fs)).length by omega),show (upB (itemsF fs) (chunksOf (itemsF fs))).2 = idxI fs from rfl,List.getElem?_eq_getElem hi] at this
   simpa using this
  rw [e j (by omega),e (j + 1) hj]
  exact chain_rise hr (chunks_chain _) j (by omega)
theorem fits_iff {line:Nat} {fs:List Fact} (hg:GoodF line fs) (h0:0 < fs.length) (ho:∀ f ∈ fs,f.Ok):FitsB line fs ↔ (tabB line fs).length ≤ 65536 :=
 ⟨fun h=>h.2.2,fun h=>⟨(good_rise hg h0 ho).1,(good_rise hg h0 ho).2,h⟩⟩
end Go.Proofs.Herb
