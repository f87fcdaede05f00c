/- The contract of the iterator of tables.chunks. For items that can be read. The order of facts is that of their keys' bytes: plain. The contract of tables.props. For facts that can be read. The contracts of varints.Put and PutText: a number, and a text, behind bytes. For slices that can be read. The contracts of varints.Put and PutText: a number, and a text, behind bytes. For slices that can be read. -/
import Derived.Shelf.Abstract
import Derived.Shelf.RegionOpen
import Derived.OwnWalkIn
import Derived.TacticsInMore
import Derived.LoopNIn
import Derived.LoopIn
import Derived.IntWalk
import Derived.StillTailTactics
import Derived.Deep.RegionHeld3
import Derived.Deep.DeepCutAuto
import Derived.Maps.AppendAt
import Derived.Test.YtbaohpnfiacchaaGreatDoorQb01
import Derived.Test.YtbaohpnfiacchaaGreatDoorQb04
namespace Go.Proofs.Herb
open Go.RowKit
attribute [local go_sem] Oper.semAt_some
def szAt (l:List Item) (i:Nat):Nat:=((l[i]?).map fun x=>x.key.size + x.val.size).getD 0
theorem szAt_get {l:List Item} {i:Nat} (h:i < l.length):szAt l i = l[i].key.size + l[i].val.size:=by unfold szAt;rw [List.getElem?_eq_getElem h];rfl
def chF (sz:Nat → Nat) (n:Nat):Nat → Nat → Nat → Nat → List (Nat × Nat)
 | 0,_,_,_=>[]
 | f + 1,k,from_,many=>if k < n then (if many + sz k < 512 ∧ k + 1 < n then chF sz n f (k + 1) from_ (many + sz k) else (from_,k + 1) :: chF sz n f (k + 1) (k + 1) 0) else []
def chunksOf (l:List Item):List (Nat × Nat):=chF (szAt l) l.length l.length 0 0 0
theorem chunks_any (v:Value) (w:World) (hv:∃ q n c,v = .slice q n c) :
  Calls Tryz.prog 44 #[v] w fun e w'=>e = .returned (.func (.func 87) #[] #[.pointer (some ⟨w.heap.size,0,none⟩)]) ∧ w' = w.alloc (.cells #[v] 91):=by
 obtain ⟨q,n,c,rfl⟩:=hv
 go_enter Tryz.func44,Tryz.ntmps44
 go_wp2
 go_ret
 exact ⟨rfl,rfl⟩
theorem rd_keep {A B:World} {b off:Nat} {xs:List Value} (h:Rd A (some ⟨b,off,none⟩) xs) (hk:KeepB b A B):Rd B (some ⟨b,off,none⟩) xs:=by
 rcases h with rfl | ⟨b',off',e,hc⟩
 ·exact .inl rfl
 ·cases e
  refine .inr ⟨_,_,rfl,fun j u hu => ?_⟩
  have h1:=hc j u hu
  have hl:=World.block_lt_of_cell? A _ h1
  have h2:B.heap[b]? = A.heap[b]?:=by rw [Array.getElem?_eq_getElem hl];exact hk _ (Array.getElem?_eq_getElem hl)
  exact (World.cell?_of_block (a:=⟨b,off + j,none⟩) h2).trans h1
def ChGood (l:List Item) (pre:List (Nat × Nat)) (x:Nat × Nat):Prop:=x.1 < x.2 ∧ x.2 ≤ l.length ∧ ∃ rest,chunksOf l = pre ++ x :: rest
set_option maxRecDepth 100000 in
set_option maxHeartbeats 2000000 in
theorem chunks1_in (nn Bn b off c base n:Nat) (hnn:1 ≤ nn) (l:List Item) (hn:l.length = n) (hm:n ≤ 100000) (hc:n ≤ c) (_hcm:c ≤ maxLen) (hks:∀ x ∈ l,x.key.size + x.val.size ≤ 100000) :
  SeqGood Fence.wide nn Tryz.prog 87 #[.pointer (some ⟨Bn,0,none⟩)] (fun x:Nat × Nat => #[.slice (some ⟨b,off + x.1 * 2,none⟩) (x.2 - x.1) (x.2 - x.1)]) (Only (fun _=>False)) (fun pre x _=>ChGood l pre x)
   (fun A B=>KeepB Bn A B ∧ KeepB b A B) (fun xs=>xs = chunksOf l) base (fun W=>Boxed W Bn 91 (.slice (some ⟨b,off,none⟩) n c) ∧ Rd W (some ⟨b,off,none⟩) (iCells l)):=by
 intro lp J Jx W hb hOk hJ hJx hY h0
 have HY:=hid hY
 have HJ:=hid hJ
 have HOk:=hid hOk
 have Hn:=hid hn
 have Hks:=hid hks
 unfold maxLen at _hcm
 clear hY hJ hJx hOk hb hn hks
 refine callsIn_of_wp Tryz.func87 rfl trivial ?_ rfl
 simp only [Tryz.ntmps87,List.size_toArray,List.length_cons,List.length_nil,Nat.reduceAdd,Nat.reduceSub,Array.replicate_succ,Array.replicate_zero,List.push_toArray,List.append_toArray,List.nil_append,List.cons_append]
 have cW:=HOk.out.1.cell
 gi_wp2
 clear cW
 gi_loopw [3,4,9] (fun v3 v4 v9 wr=>∃ (f k from_ many:Nat) (pre:List (Nat × Nat)),v3 = .int .i64 (from_:Int) ∧ v4 = .int .i64 (many:Int) ∧ v9 = .int .i64 (k:Int) ∧ k + f = n ∧ from_ ≤ k ∧ many ≤ 512 ∧ chunksOf l = pre ++ chF (szAt l) l.length f k from_ many ∧ J pre wr ∧
   Boxed wr Bn 91 (.slice (some ⟨b,off,none⟩) n c) ∧ Rd wr (some ⟨b,off,none⟩) (iCells l)) (fun _ _ v9 _=>n - (intOf v9).toNat)
 case atStart=>exact ⟨n,0,0,0,[],rfl,rfl,rfl,by omega,Nat.le_refl _,by omega,by unfold chunksOf;rw [Hn.out];rfl,h0,HOk.out.1,HOk.out.2⟩
 case round =>
  obtain ⟨f,k,from_,many,pre,rfl,rfl,rfl,hkf,hfk,hmany,hch,hJp,hbox,hrd⟩:=hrel
  have Hch:=hid hch
  have HJp:=hid hJp
  have Hbox:=hid hbox
  have Hrd:=hid hrd
  have cB:=hbox.cell
  clear hch hJp hbox hrd
  by_cases hlt:k < n
  ·have hkl:k < l.length:=by rw [Hn.out];exact hlt
   obtain ⟨f,rfl⟩:∃ f',f = f' + 1:=⟨f - 1,by omega⟩
   obtain ⟨b',off',e,hbq,c0,c1⟩:=item_at Hrd.out hkl
   cases e
   have hsz:=Hks.out _ (List.getElem_mem hkl)
   have hszk:=szAt_get hkl
   obtain ⟨key,hkey⟩:∃ x,x = l[k].key:=⟨_,rfl⟩
   obtain ⟨val,hval⟩:∃ x,x = l[k].val:=⟨_,rfl⟩
   rw [← hkey] at c0
   rw [← hval] at c1
   rw [← hkey,← hval] at hsz hszk
   have i0:(0:Int) ≤ (k:Int):=by omega
   have i1:(k:Int) < (n:Int):=by omega
   have Hszk:=hid hszk
   clear hkey hval hszk
   have cB2:(wr.alloc (.cells #[.string key,.string val] 100)).cell? ⟨Bn,0,none⟩ = some (.slice (some ⟨b,off,none⟩) n c):=(Hbox.out.alloc _).cell
   have hBa:Below wr.heap.size wr (wr.alloc (.cells #[.string key,.string val] 100)):=(Below.refl _ _).alloc (Nat.le_refl _) _
   have HJa:=hid (HJ.out _ _ _ HJp.out (Only.of_below hBa))
   have Hboxa:=hid (Hbox.out.alloc (.cells #[.string key,.string val] 100))
   have Hrda:=hid (Hrd.out.below hBa)
   clear hBa
   by_cases h5:many + (key.size + val.size) < 512 ∧ k + 1 < n
   ·have d1:decide ((many:Int) + ((key.size:Int) + (val.size:Int)) < 512) = true:=by simp;omega
    have d2:decide ((k:Int) + 1 < (n:Int)) = true:=by simp;omega
    have hst:chF (szAt l) l.length (f + 1) k from_ many = chF (szAt l) l.length f (k + 1) from_ (many + (key.size + val.size)):=by
     rw [chF,if_pos hkl,Hszk.out,if_pos ⟨h5.1,by rw [Hn.out];exact h5.2⟩]
    have HST:=hid hst
    have H5:=hid h5
    clear hst h5
    gi_wp2
    go_roundw
    case rel=>exact ⟨f,k + 1,from_,many + (key.size + val.size),pre,rfl,by go_num,by go_num,by omega,by omega,by have:=H5.out.1;omega,by rw [Hch.out,HST.out],HJa.out,Hboxa.out,Hrda.out⟩
    case measure=>simp [intOf];omega
   ·have hst:chF (szAt l) l.length (f + 1) k from_ many = (from_,k + 1) :: chF (szAt l) l.length f (k + 1) (k + 1) 0:=by
     rw [chF,if_pos hkl,Hszk.out,if_neg (fun h=>h5 ⟨h.1,by have:=h.2;rw [Hn.out] at this;exact this⟩)]
    have hgood:ChGood l pre (from_,k + 1):=⟨by show from_ < k + 1;omega,by show k + 1 ≤ _;omega,_,by rw [Hch.out,hst]⟩
    have HST:=hid hst
    obtain ⟨fn,tmps,assign,body,hy,hR⟩:=HY.out pre (from_,k + 1) _ HJa.out hgood
    dsimp only at hy
    have HR:=hid hR
    clear hst hgood hR
    by_cases h6:many + (key.size + val.size) < 512
    ·have d1:decide ((many:Int) + ((key.size:Int) + (val.size:Int)) < 512) = true:=by simp;omega
     have d2:decide ((k:Int) + 1 < (n:Int)) = false:=by simp;omega
     clear h5 h6
     gi_wp2
     refine HR.out.mono ?_
     rintro e W2 (⟨rfl,hJ2,hk1,hk2⟩ | ⟨rfl,hJ2⟩)
     ·have hbox2:Boxed W2 Bn 91 (.slice (some ⟨b,off,none⟩) n c):=hk1 _ Hboxa.out
      have hrd2:Rd W2 (some ⟨b,off,none⟩) (iCells l):=rd_keep Hrda.out hk2
      have HJ2:=hid hJ2
      have Hbox2:=hid hbox2
      have Hrd2:=hid hrd2
      clear hJ2 hk1 hk2 hbox2 hrd2 hy HR
      gi_wp2
      go_roundw
      case rel=>exact ⟨f,k + 1,k + 1,0,pre ++ [(from_,k + 1)],by go_num,rfl,by go_num,by omega,by omega,by omega,by rw [Hch.out,HST.out];simp,HJ2.out,Hbox2.out,Hrd2.out⟩
      case measure=>simp [intOf];omega
     ·have HJ2:=hid hJ2
      clear hJ2 hy HR
      gi_wp2
      refine bodyPost_ret (results_none rfl _ _ _) rfl ?_
      exact ⟨⟨_,rfl⟩,.inr ⟨_,HJ2.out⟩⟩
    ·have d1:decide ((many:Int) + ((key.size:Int) + (val.size:Int)) < 512) = false:=by simp;omega
     clear h5 h6
     gi_wp2
     refine HR.out.mono ?_
     rintro e W2 (⟨rfl,hJ2,hk1,hk2⟩ | ⟨rfl,hJ2⟩)
     ·have hbox2:Boxed W2 Bn 91 (.slice (some ⟨b,off,none⟩) n c):=hk1 _ Hboxa.out
      have hrd2:Rd W2 (some ⟨b,off,none⟩) (iCells l):=rd_keep Hrda.out hk2
      have HJ2:=hid hJ2
      have Hbox2:=hid hbox2
      have Hrd2:=hid hrd2
      clear hJ2 hk1 hk2 hbox2 hrd2 hy HR
      gi_wp2
      go_roundw
      case rel=>exact ⟨f,k + 1,k + 1,0,pre ++ [(from_,k + 1)],by go_num,rfl,by go_num,by omega,by omega,by omega,by rw [Hch.out,HST.out];simp,HJ2.out,Hbox2.out,Hrd2.out⟩
      case measure=>simp [intOf];omega
     ·have HJ2:=hid hJ2
      clear hJ2 hy HR
      gi_wp2
      refine bodyPost_ret (results_none rfl _ _ _) rfl ?_
      exact ⟨⟨_,rfl⟩,.inr ⟨_,HJ2.out⟩⟩
  ·obtain rfl:k = n:=by omega
   obtain rfl:f = 0:=by omega
   gi_wp2
   refine ⟨rfl,_,results_none rfl _ _ _, ?_⟩
   exact ⟨⟨_,rfl⟩,.inl ⟨pre,by rw [Hch.out,chF,List.append_nil],HJp.out⟩⟩
end Go.Proofs.Herb
namespace Go.Proofs.Herb
open Go.RowKit
abbrev bL:=Op.bytesLess
theorem bl_cons (x y:UInt8) (a b:List UInt8):bL (x :: a) (y :: b) = true ↔ x < y ∨ (x = y ∧ bL a b = true):=by
 show (decide (x < y) || (x == y && Op.bytesLess a b)) = true ↔ _
 simp
theorem bl_irrefl:∀ a:List UInt8,bL a a = false
 | []=>rfl
 | x :: a=>by
  have h:=bl_irrefl a
  rw [Bool.eq_false_iff]
  intro e
  rcases (bl_cons x x a a).1 e with h1 | ⟨_,h1⟩
  ·exact absurd h1 (UInt8.lt_irrefl x)
  ·rw [h] at h1;cases h1
theorem bl_trans:∀ {a b c:List UInt8},bL a b = true → bL b c = true → bL a c = true
 | _,[],_,h,_=>by simp [bL,Op.bytesLess] at h
 | _,_ :: _,[],_,h=>by simp [bL,Op.bytesLess] at h
 | [],_ :: _,_ :: _,_,_=>rfl
 | x :: a,y :: b,z :: c,h1,h2=>by
  rw [bl_cons] at *
  rcases h1 with h1 | ⟨rfl,h1⟩
  ·rcases h2 with h2 | ⟨rfl,_⟩
   ·exact .inl (UInt8.lt_trans h1 h2)
   ·exact .inl h1
  ·rcases h2 with h2 | ⟨rfl,h2⟩
   ·exact .inl h2
   ·exact .inr ⟨rfl,bl_trans h1 h2⟩
theorem bl_total:∀ {a b:List UInt8},bL a b = false → a ≠ b → bL b a = true
 | [],[],_,h=>absurd rfl h
 | [],_ :: _,h,_=>by simp [bL,Op.bytesLess] at h
 | _ :: _,[],_,_=>rfl
 | x :: a,y :: b,h,hne=>by
  rw [bl_cons]
  have h1:¬ (x < y ∨ (x = y ∧ bL a b = true)):=fun e=>by rw [(bl_cons x y a b).2 e] at h;cases h
  by_cases e:x = y
  ·subst e
   refine .inr ⟨rfl,bl_total ?_ (fun e=>hne (by rw [e]))⟩
   rw [Bool.eq_false_iff];exact fun e=>h1 (.inr ⟨rfl,e⟩)
  ·left
   have h2:¬ x < y:=fun e=>h1 (.inl e)
   rcases UInt8.lt_or_lt_of_ne e with h3 | h3
   ·exact absurd h3 h2
   ·exact h3
theorem bl_asymm {a b:List UInt8} (h:bL a b = true):bL b a = false:=by
 rw [Bool.eq_false_iff]
 intro e
 have:=bl_trans h e
 rw [bl_irrefl] at this
 cases this
theorem bl_prefix:∀ (p a b:List UInt8),bL (p ++ a) (p ++ b) = bL a b
 | [],_,_=>rfl
 | x :: p,a,b=>by
  rw [Bool.eq_iff_iff,List.cons_append,List.cons_append,bl_cons,bl_prefix p a b]
  constructor
  ·rintro (h | ⟨_,h⟩)
   ·exact absurd h (UInt8.lt_irrefl x)
   ·exact h
  ·exact fun h=>.inr ⟨rfl,h⟩
theorem bl_append:∀ {p q:List UInt8} (a b:List UInt8),p.length = q.length → bL p q = true → bL (p ++ a) (q ++ b) = true
 | _,[],_,_,_,h=>by simp [bL,Op.bytesLess] at h
 | [],_ :: _,_,_,h,_=>by cases h
 | x :: p,y :: q,a,b,hl,h=>by
  rw [List.cons_append,List.cons_append,bl_cons]
  rcases (bl_cons x y p q).1 h with h | ⟨h1,h2⟩
  ·exact .inl h
  ·exact .inr ⟨h1,bl_append a b (by simpa using hl) h2⟩
theorem leS_of (a b:ByteArray):leS a b = false ↔ bL b.data.toList a.data.toList = true:=by
 unfold leS
 rw [ByteArray.toList_eq,ByteArray.toList_eq,Bool.or_eq_false_iff]
 constructor
 ·rintro ⟨h1,h2⟩
  exact bl_total h1 (fun e=>by rw [e] at h2;simp at h2)
 ·intro h
  refine ⟨bl_asymm h, ?_⟩
  rw [beq_eq_false_iff_ne]
  intro e
  rw [e,show bL b.data.toList b.data.toList = false from bl_irrefl _] at h
  cases h
/-! a key's bytes with its end -/
theorem esc_cons (x:UInt8) (l:List UInt8):esc (x :: l) = (if x = 0 then [0,1] else [x]) ++ esc l:=by simp [esc]
theorem esc_lt:∀ (a b s t:List UInt8),bL a b = true → bL (esc a ++ [0,0] ++ s) (esc b ++ [0,0] ++ t) = true
 | _,[],_,_,h=>by simp [bL,Op.bytesLess] at h
 | [],y :: b,s,t,_=>by
  rw [esc_cons]
  show bL (0 :: 0 :: s) _ = true
  by_cases e:y = 0
  ·rw [if_pos e]
   show bL (0 :: 0 :: s) (0 :: 1 :: (esc b ++ [0,0] ++ t)) = true
   rw [bl_cons,bl_cons]
   exact .inr ⟨rfl,.inl (by decide)⟩
  ·rw [if_neg e]
   show bL (0 :: 0 :: s) (y :: (esc b ++ [0,0] ++ t)) = true
   rw [bl_cons]
   exact .inl (UInt8.pos_iff_ne_zero.2 e)
 | x :: a,y :: b,s,t,h=>by
  rw [esc_cons,esc_cons]
  rcases (bl_cons x y a b).1 h with h | ⟨rfl,h'⟩
  ·have hy:y ≠ 0:=fun e=>by subst e;exact absurd h (UInt8.not_lt_zero)
   rw [if_neg hy]
   by_cases e:x = 0
   ·rw [if_pos e]
    show bL (0 :: 1 :: (esc a ++ [0,0] ++ s)) (y :: (esc b ++ [0,0] ++ t)) = true
    rw [bl_cons]
    exact .inl (UInt8.pos_iff_ne_zero.2 hy)
   ·rw [if_neg e]
    show bL (x :: (esc a ++ [0,0] ++ s)) (y :: (esc b ++ [0,0] ++ t)) = true
    rw [bl_cons]
    exact .inl h
  ·simp only [List.append_assoc]
   rw [bl_prefix]
   have:=esc_lt a b s t h'
   simpa only [List.append_assoc] using this
/-! falling numbers -/
def beF (n many:Nat):List UInt8:=(List.range many).map (fallB n many)
theorem beF_succ (n m:Nat):beF n (m + 1) = UInt8.ofNat (255 - n / 2 ^ (8 * m) % 256) :: beF n m:=by
 unfold beF
 rw [List.range_succ_eq_map,List.map_cons,List.map_map]
 congr 1
 apply List.map_congr_left
 intro i hi
 unfold fallB
 simp only [Function.comp]
 rw [show m + 1 - 1 - (i + 1) = m - 1 - i by omega]
theorem beF_len (n m:Nat):(beF n m).length = m:=by simp [beF]
theorem beF_lt:∀ (m n k:Nat),k % 2 ^ (8 * m) < n % 2 ^ (8 * m) → bL (beF n m) (beF k m) = true
 | 0,n,k,h=>by simp [Nat.mod_one] at h
 | m + 1,n,k,h=>by
  have hp:(2:Nat) ^ (8 * (m + 1)) = 2 ^ (8 * m) * 256:=by rw [show 8 * (m + 1) = 8 * m + 8 by omega,Nat.pow_add]
  have hpos:0 < 2 ^ (8 * m):=Nat.pow_pos (by decide)
  rw [hp,Nat.mod_mul,Nat.mod_mul] at h
  rw [beF_succ,beF_succ,bl_cons]
  have hn:=Nat.mod_lt (n / 2 ^ (8 * m)) (show 0 < 256 by decide)
  have hk:=Nat.mod_lt (k / 2 ^ (8 * m)) (show 0 < 256 by decide)
  have hn1:=Nat.mod_lt n hpos
  have hk1:=Nat.mod_lt k hpos
  obtain ⟨P,hP⟩:∃ P,P = 2 ^ (8 * m):=⟨_,rfl⟩
  obtain ⟨A,hA⟩:∃ A,A = n / 2 ^ (8 * m) % 256:=⟨_,rfl⟩
  obtain ⟨C,hC⟩:∃ A,A = k / 2 ^ (8 * m) % 256:=⟨_,rfl⟩
  rw [← hA] at hn h ⊢
  rw [← hC] at hk h ⊢
  rcases Nat.lt_trichotomy C A with h1 | h1 | h1
  ·left
   rw [UInt8.lt_iff_toNat_lt]
   simp
   omega
  ·subst h1
   exact .inr ⟨rfl,beF_lt m n k (by omega)⟩
  ·exfalso
   have h2:2 ^ (8 * m) * (A + 1) ≤ 2 ^ (8 * m) * C:=Nat.mul_le_mul_left _ h1
   rw [Nat.mul_add,Nat.mul_one] at h2
   omega
theorem tailB_be (v s k:Nat):tailB v s k = beF v 4 ++ (beF s 8 ++ [UInt8.ofNat k]):=by unfold tailB beF;rw [List.append_assoc]
theorem cmpN_neg {a b:Nat}:cmpN a b < 0 ↔ a < b:=by unfold cmpN;(repeat' split) <;> omega
theorem cmpN_zero {a b:Nat}:cmpN a b = 0 ↔ a = b:=by unfold cmpN;(repeat' split) <;> omega
theorem cmpS_neg {a b:ByteArray}:cmpS a b < 0 ↔ bL a.data.toList b.data.toList = true:=by
 unfold cmpS sLt
 rw [ByteArray.toList_eq,ByteArray.toList_eq]
 show (if bL _ _ = true then (-1:Int) else _) < 0 ↔ _
 split
 ·simp [*]
 ·rename_i h
  constructor
  ·intro h2;split at h2 <;> omega
  ·intro h2;exact absurd h2 h
theorem cmpS_zero {a b:ByteArray}:cmpS a b = 0 ↔ a = b:=by
 unfold cmpS sLt
 rw [ByteArray.toList_eq,ByteArray.toList_eq]
 split
 ·rename_i h
  constructor
  ·intro h2;omega
  ·rintro rfl;rw [show Op.bytesLess a.data.toList a.data.toList = false from bl_irrefl _] at h;cases h
 ·split
  ·rename_i h
   have:=eq_of_beq h
   exact ⟨fun _=>by
    cases a;cases b
    simp only [ByteArray.mk.injEq]
    exact Array.toList_inj.1 this,fun _=>rfl⟩
  ·rename_i h
   constructor
   ·intro h2;omega
   ·rintro rfl;simp at h
theorem orZ_cons (x:Int) (l:List Int):orZ (x :: l) = if x = 0 then orZ l else x:=rfl
theorem kput_lt {f g:Fact} (of:f.Ok) (og:g.Ok) (hf:mayF f = true) (hg:mayF g = true) (h:cmpF f g < 0):bL (kput f) (kput g) = true:=by
 unfold cmpF at h
 unfold kput
 rw [orZ_cons] at h
 split at h
 ·rename_i h0
  rw [cmpS_zero.1 h0,bl_prefix,tailB_be,tailB_be]
  obtain ⟨_,h32,h64,_⟩:=of
  obtain ⟨_,g32,g64,_⟩:=og
  rw [orZ_cons] at h
  split at h
  ·rename_i h1
   rw [cmpN_zero.1 h1,bl_prefix]
   rw [orZ_cons] at h
   split at h
   ·rename_i h2
    rw [cmpN_zero.1 h2,bl_prefix]
    rw [orZ_cons] at h
    split at h
    ·exact absurd h (by simp [orZ])
    ·have h3:=cmpN_neg.1 h
     unfold mayF at hf hg
     have k1:=(of_decide_eq_true hf).2.2.2
     have k2:=(of_decide_eq_true hg).2.2.2
     rw [bl_cons,UInt8.lt_iff_toNat_lt]
     left
     simp
     omega
   ·have h3:=cmpN_neg.1 h
    refine bl_append _ _ (by rw [beF_len,beF_len]) (beF_lt 8 _ _ ?_)
    rw [Nat.mod_eq_of_lt (by omega),Nat.mod_eq_of_lt (by omega)]
    exact h3
  ·have h3:=cmpN_neg.1 h
   refine bl_append _ _ (by rw [beF_len,beF_len]) (beF_lt 4 _ _ ?_)
   rw [Nat.mod_eq_of_lt (by omega),Nat.mod_eq_of_lt (by omega)]
   exact h3
 ·exact esc_lt _ _ _ _ (cmpS_neg.1 h)
end Go.Proofs.Herb
namespace Go.Proofs.Herb
open Go.RowKit
structure Props where
 line:Nat
 many:Nat
 low:ByteArray
 high:ByteArray
 least:Nat
 greatest:Nat
 early:Nat
 late:Nat
def Props.cells (p:Props):List Value:=[.int .u64 (p.line:Int),.int .u64 (p.many:Int),.string p.low,.string p.high,.int .u64 (p.least:Int),.int .u64 (p.greatest:Int),.int .u32 (p.early:Int),.int .u32 (p.late:Int)]
def propsT (line n:Nat) (f0 fl:Fact) (l:List Fact):Props :=
 ⟨line,n,f0.key,fl.key,l.foldl (fun a f=>min a f.seq) f0.seq,l.foldl (fun a f=>max a f.seq) 0,l.foldl (fun a f=>min a f.valid) f0.valid,l.foldl (fun a f=>max a f.valid) 0⟩
def propsF (line:Nat) (fs:List Fact):Props:=match fs with
 | []=>⟨line,0,⟨#[]⟩,⟨#[]⟩,0,0,0,0⟩
 | f0 :: r=>propsT line (f0 :: r).length f0 ((f0 :: r).getLast (by simp)) (f0 :: r)
theorem infoProps:(Tryz.prog.info? 49).map (·.size) = some 8:=by kernel_rfl
theorem grownBy_at (W:World) (b o:Nat) (v:Value):W.grownBy (W.setCell ⟨b,o,none⟩ v) (some b) :=
 ⟨rfl,rfl,rfl,by rw [World.size_setCell];exact Nat.le_refl _,fun k _ hne=>Below.heap_setCell _ _ _ k (fun e=>hne (by rw [e]))⟩
set_option maxRecDepth 100000 in
set_option maxHeartbeats 2000000 in
theorem props_any (line:Nat) (q:Option Addr) (n c:Nat) (fs:List Fact) (w:World) (hn:fs.length = n) (h0:0 < n) (hm:n ≤ 24000) (hr:Rd w q (fCells fs)) (ho:∀ f ∈ fs,f.Ok) :
  Calls Tryz.prog 47 #[.int .u64 (line:Int),.slice q n c] w fun e w'=>e = .returned (.agg (propsF line fs).cells.toArray) ∧ Below w.heap.size w w':=by
 obtain ⟨f0,hf0⟩:∃ f,f = fs[0]'(by omega):=⟨_,rfl⟩
 obtain ⟨fl,hfl⟩:∃ f,f = fs[n - 1]'(by omega):=⟨_,rfl⟩
 have hp:propsF line fs = propsT line n f0 fl fs:=by
  cases fs with
  | nil=>simp at hn;omega
  | cons a r =>
   have e1:f0 = a:=hf0
   have e2:(a :: r).getLast (by simp) = fl:=by
    rw [hfl,List.getLast_eq_getElem]
    congr 1
    omega
   show propsT line (a :: r).length a ((a :: r).getLast (by simp)) (a :: r) = _
   rw [e2,e1,hn]
 rw [hp]
 obtain ⟨b,off,hq,hbl,a0⟩:=fact_at (j:=0) hr (by omega)
 subst hq
 obtain ⟨b',off',e,_,al⟩:=fact_at (j:=n - 1) hr (by omega)
 cases e
 rw [← hf0,Nat.zero_mul,Nat.add_zero] at a0
 rw [← hfl] at al
 obtain ⟨L,hL⟩:∃ L,L = n - 1:=⟨_,rfl⟩
 rw [← hL] at al
 have s1:IntKind.i64.wrap ((n:Int) - 1) = (L:Int):=by rw [IntWalk.i64_in _ (by omega)];omega
 have i0:(0:Int) ≤ (L:Int):=by omega
 have i1:(L:Int) < (n:Int):=by omega
 have i2:(0:Int) < (n:Int):=by omega
 have i3:(n:Int) % 18446744073709551616 = (n:Int):=by omega
 have Hn:=hid hn
 have Hr:=hid hr
 have Ho:=hid ho
 have HS:Hid (∀ w',Below w.heap.size w w' → w'.cell? ⟨b,off,none⟩ = some (.string f0.key) ∧ w'.cell? ⟨b,off + 1,none⟩ = some (.int .u32 (f0.valid:Int)) ∧ w'.cell? ⟨b,off + 2,none⟩ = some (.int .u64 (f0.seq:Int)) ∧ w'.cell? ⟨b,off + L * 6,none⟩ = some (.string fl.key)):=hid fun w' hb =>
  have k:∀ o v,w.cell? ⟨b,o,none⟩ = some v → w'.cell? ⟨b,o,none⟩ = some v:=fun o v h=>(hb.cell (p:=⟨b,o,none⟩) hbl).trans h
  ⟨k _ _ a0.c0,k _ _ a0.c1,k _ _ a0.c2,k _ _ al.c0⟩
 clear hn hr ho hp hf0 hfl hL al a0
 go_enter Tryz.func47,Tryz.ntmps47
 go_upto_region 1 with (fail)
 go_region_held3 (fun w'=>w'.cell? ⟨b,off,none⟩ = some (.string f0.key) ∧ w'.cell? ⟨b,off + 1,none⟩ = some (.int .u32 (f0.valid:Int)) ∧ w'.cell? ⟨b,off + 2,none⟩ = some (.int .u64 (f0.seq:Int)) ∧ w'.cell? ⟨b,off + L * 6,none⟩ = some (.string fl.key)) (first | exact HS.out _ ((Below.refl _ _).alloc (Nat.le_refl _) _).drew | exact HS.out _ (((Below.refl _ _).alloc (Nat.le_refl _) _).drew.alloc (by simp) _)) (fail)
 all_goals (go_wp2_with fail)
 obtain ⟨P,hP⟩:∃ P,P = w.heap.size + 1:=⟨_,rfl⟩
 generalize hw1:((w.alloc (.cells #[.int .u64 0,.int .u64 0,.string ⟨#[]⟩,.string ⟨#[]⟩,.int .u64 0,.int .u64 0,.int .u32 0,.int .u32 0] 49)).alloc (.cells #[.int .u64 (line:Int),.int .u64 (n:Int),.string f0.key,.string fl.key,.int .u64 (f0.seq:Int),.int .u64 0,.int .u32 (f0.valid:Int),.int .u32 0] 49)).drew = w1
 have hB1:Below w.heap.size w w1:=by rw [← hw1];exact (((Below.refl _ _).alloc (Nat.le_refl _) _).alloc (by simp) _).drew
 have hR1:w1.heap[w.heap.size]? = some (.cells #[.int .u64 0,.int .u64 0,.string ⟨#[]⟩,.string ⟨#[]⟩,.int .u64 0,.int .u64 0,.int .u32 0,.int .u32 0] 49 (0,0)):=by
  rw [← hw1];exact (Below.heap_alloc _ _ _ (by simp)).trans (heap_alloc_new w _)
 have hP1:w1.heap[P]? = some (.cells (propsT line n f0 fl []).cells.toArray 49 (0,0)):=by
  rw [← hw1,hP]
  have:=heap_alloc_new (w.alloc (.cells #[.int .u64 0,.int .u64 0,.string ⟨#[]⟩,.string ⟨#[]⟩,.int .u64 0,.int .u64 0,.int .u32 0,.int .u32 0] 49)) (.cells #[.int .u64 (line:Int),.int .u64 (n:Int),.string f0.key,.string fl.key,.int .u64 (f0.seq:Int),.int .u64 0,.int .u32 (f0.valid:Int),.int .u32 0] 49)
  rw [World.size_alloc] at this
  exact this
 rw [← hP]
 have HB1:=hid hB1
 have HR1:=hid hR1
 have HP1:=hid hP1
 have hwP:w.heap.size < P:=by omega
 clear hB1 hR1 hP1 hw1 hP s1 i3
 go_loopw [34] (fun i wr=>∃ k:Nat,k ≤ n ∧ i = .int .i64 (k:Int) ∧ wr.heap[P]? = some (.cells (propsT line n f0 fl (fs.take k)).cells.toArray 49 (0,0)) ∧
   wr.heap[w.heap.size]? = some (.cells #[.int .u64 0,.int .u64 0,.string ⟨#[]⟩,.string ⟨#[]⟩,.int .u64 0,.int .u64 0,.int .u32 0,.int .u32 0] 49 (0,0)) ∧ Below w.heap.size w wr) (fun i _=>n - (intOf i).toNat)
 case atStart=>exact ⟨0,Nat.zero_le _,rfl,HP1.out,HR1.out,HB1.out⟩
 case round =>
  obtain ⟨k,hk,rfl,hp,hz,hB⟩:=hrel
  have hbs:=hB.size
  have hPl:=lt_of_block hp
  have HZ:=hid hz
  have HB:=hid hB
  clear HP1 HR1 HB1 hB hz
  by_cases hlt:k < n
  ·have hkl:k < fs.length:=by rw [Hn.out];exact hlt
   obtain ⟨b',off',e,_,hfa⟩:=fact_at (j:=k) (Hr.out.below HB.out) hkl
   cases e
   obtain ⟨f,hf⟩:∃ f,f = fs[k]:=⟨_,rfl⟩
   rw [← hf] at hfa
   have hok:=Ho.out _ (List.getElem_mem hkl)
   rw [← hf] at hok
   obtain ⟨p,hpp⟩:∃ p,p = propsT line n f0 fl (fs.take k):=⟨_,rfl⟩
   have hnx:propsT line n f0 fl (fs.take (k + 1)) = { p with least:=min p.least f.seq,greatest:=max p.greatest f.seq,early:=min p.early f.valid,late:=max p.late f.valid }:=by
    rw [List.take_succ_eq_append_getElem hkl,← hf,hpp]
    unfold propsT
    simp only [List.foldl_append,List.foldl_cons,List.foldl_nil]
   rw [← hpp] at hp
   have HNX:=hid hnx
   have HP:=hid hp
   obtain ⟨key,valid,seq,fline,kind,val⟩:=f
   obtain ⟨x0,x1,x2,x3,x4,x5⟩:=hfa
   obtain ⟨pl,pm,plo,phi,ple,pgr,pea,pla⟩:=p
   dsimp only at x0 x1 x2 x3 x4 x5
   unfold Props.cells at hp
   dsimp only at hp
   have i4:(0:Int) ≤ (k:Int):=by omega
   have i5:(k:Int) < (n:Int):=by omega
   clear hpp hnx hf hok i0 i1 hp
   go_upto_region 5 with (fail)
   obtain ⟨X,hX⟩:∃ X,X = wr.heap.size:=⟨_,rfl⟩
   have hba:(wr.alloc (.cells #[.string key,.int .u32 (valid:Int),.int .u64 (seq:Int),.int .u64 (fline:Int),.int .u8 (kind:Int),.string val] 27)).heap[wr.heap.size]? = some (.cells #[.string key,.int .u32 (valid:Int),.int .u64 (seq:Int),.int .u64 (fline:Int),.int .u8 (kind:Int),.string val] 27 (0,0)):=heap_alloc_new _ _
   have hBa:Below wr.heap.size wr (wr.alloc (.cells #[.string key,.int .u32 (valid:Int),.int .u64 (seq:Int),.int .u64 (fline:Int),.int .u8 (kind:Int),.string val] 27)):=(Below.refl _ _).alloc (Nat.le_refl _) _
   generalize wr.alloc (.cells #[.string key,.int .u32 (valid:Int),.int .u64 (seq:Int),.int .u64 (fline:Int),.int .u8 (kind:Int),.string val] 27) = wa at hba hBa
   have hPa:=(hBa.block P hPl).trans HP.out
   have hZa:=(hBa.block _ (by omega)).trans HZ.out
   have hBw:=HB.out.trans (hBa.mono hbs)
   rw [← hX] at hba ⊢
   unfold Props.cells at hPa
   dsimp only at hPa
   have hXP:X ≠ P:=by omega
   have hwX:w.heap.size ≠ P:=by omega
   have y4:wa.cell? ⟨P,4,none⟩ = some (.int .u64 (ple:Int)):=(cell_of_row wa _ _ _ _ _ hPa).trans rfl
   have y5:wa.cell? ⟨P,5,none⟩ = some (.int .u64 (pgr:Int)):=(cell_of_row wa _ _ _ _ _ hPa).trans rfl
   have x2:wa.cell? ⟨X,2,none⟩ = some (.int .u64 (seq:Int)):=(cell_of_row wa _ _ _ _ _ hba).trans rfl
   have z4:wa.frozen? ⟨P,4,none⟩ = false:=frozen_of_row _ _ _ _ _ hPa
   have z5:wa.frozen? ⟨P,5,none⟩ = false:=frozen_of_row _ _ _ _ _ hPa
   have key1:∀ a b:Int,a = ((min ple seq:Nat):Int) → b = ((max pgr seq:Nat):Int) → (((wa.setCell ⟨P,4,none⟩ (.int .u64 a)).setCell ⟨P,5,none⟩ (.int .u64 b)).drew.heap[P]? = some (.cells #[.int .u64 (pl:Int),.int .u64 (pm:Int),.string plo,.string phi,.int .u64 ((min ple seq:Nat):Int),.int .u64 ((max pgr seq:Nat):Int),.int .u32 (pea:Int),.int .u32 (pla:Int)] 49 (0,0)) ∧
     ((wa.setCell ⟨P,4,none⟩ (.int .u64 a)).setCell ⟨P,5,none⟩ (.int .u64 b)).drew.heap[X]? = some (.cells #[.string key,.int .u32 (valid:Int),.int .u64 (seq:Int),.int .u64 (fline:Int),.int .u8 (kind:Int),.string val] 27 (0,0)) ∧
     ((wa.setCell ⟨P,4,none⟩ (.int .u64 a)).setCell ⟨P,5,none⟩ (.int .u64 b)).drew.heap[w.heap.size]? = some (.cells #[.int .u64 0,.int .u64 0,.string ⟨#[]⟩,.string ⟨#[]⟩,.int .u64 0,.int .u64 0,.int .u32 0,.int .u32 0] 49 (0,0)) ∧
     Below w.heap.size w ((wa.setCell ⟨P,4,none⟩ (.int .u64 a)).setCell ⟨P,5,none⟩ (.int .u64 b)).drew):=by
    rintro a b rfl rfl
    refine ⟨(heap_setCell_same _ _ 5 _ _ _ (heap_setCell_same _ _ 4 _ _ _ hPa)).trans rfl, ?_, ?_,((hBw.setCell (p:=⟨P,4,none⟩) (by show w.heap.size ≤ P;omega) _).setCell (p:=⟨P,5,none⟩) (by show w.heap.size ≤ P;omega) _).drew⟩
    ·exact ((grownBy_at _ P 5 _).block X (by rw [World.size_setCell];exact lt_of_block hba) (fun e=>hXP (by cases e;rfl))).trans (((grownBy_at _ P 4 _).block X (lt_of_block hba) (fun e=>hXP (by cases e;rfl))).trans hba)
    ·exact ((grownBy_at _ P 5 _).block _ (by rw [World.size_setCell];exact lt_of_block hZa) (fun e=>hwX (by cases e;rfl))).trans (((grownBy_at _ P 4 _).block _ (lt_of_block hZa) (fun e=>hwX (by cases e;rfl))).trans hZa)
   have KEY1:=hid key1
   clear hba hBa hPa hZa hBw key1 x0 x1 x3 x4 x5 hX
   go_cut [] (fun wc=>wc.heap[P]? = some (.cells #[.int .u64 (pl:Int),.int .u64 (pm:Int),.string plo,.string phi,.int .u64 ((min ple seq:Nat):Int),.int .u64 ((max pgr seq:Nat):Int),.int .u32 (pea:Int),.int .u32 (pla:Int)] 49 (0,0)) ∧
     wc.heap[X]? = some (.cells #[.string key,.int .u32 (valid:Int),.int .u64 (seq:Int),.int .u64 (fline:Int),.int .u8 (kind:Int),.string val] 27 (0,0)) ∧
     wc.heap[w.heap.size]? = some (.cells #[.int .u64 0,.int .u64 0,.string ⟨#[]⟩,.string ⟨#[]⟩,.int .u64 0,.int .u64 0,.int .u32 0,.int .u32 0] 49 (0,0)) ∧ Below w.heap.size w wc)
   case first =>
    go_region
    go_wp2_with fail
    all_goals (go_meet;case rel=>exact KEY1.out _ _ (by omega) (by omega))
   case rest =>
    obtain ⟨hPc,hXc,hZc,hBc⟩:=hcut
    have y6:wc.cell? ⟨P,6,none⟩ = some (.int .u32 (pea:Int)):=(cell_of_row wc _ _ _ _ _ hPc).trans rfl
    have y7:wc.cell? ⟨P,7,none⟩ = some (.int .u32 (pla:Int)):=(cell_of_row wc _ _ _ _ _ hPc).trans rfl
    have x1:wc.cell? ⟨X,1,none⟩ = some (.int .u32 (valid:Int)):=(cell_of_row wc _ _ _ _ _ hXc).trans rfl
    have z6:wc.frozen? ⟨P,6,none⟩ = false:=frozen_of_row _ _ _ _ _ hPc
    have z7:wc.frozen? ⟨P,7,none⟩ = false:=frozen_of_row _ _ _ _ _ hPc
    have key2:∀ a b:Int,a = ((min pea valid:Nat):Int) → b = ((max pla valid:Nat):Int) → (((wc.setCell ⟨P,6,none⟩ (.int .u32 a)).setCell ⟨P,7,none⟩ (.int .u32 b)).drew.heap[P]? = some (.cells (propsT line n f0 fl (fs.take (k + 1))).cells.toArray 49 (0,0)) ∧
      ((wc.setCell ⟨P,6,none⟩ (.int .u32 a)).setCell ⟨P,7,none⟩ (.int .u32 b)).drew.heap[w.heap.size]? = some (.cells #[.int .u64 0,.int .u64 0,.string ⟨#[]⟩,.string ⟨#[]⟩,.int .u64 0,.int .u64 0,.int .u32 0,.int .u32 0] 49 (0,0)) ∧
      Below w.heap.size w ((wc.setCell ⟨P,6,none⟩ (.int .u32 a)).setCell ⟨P,7,none⟩ (.int .u32 b)).drew):=by
     rintro a b rfl rfl
     rw [HNX.out]
     refine ⟨(heap_setCell_same _ _ 7 _ _ _ (heap_setCell_same _ _ 6 _ _ _ hPc)).trans rfl, ?_,((hBc.setCell (p:=⟨P,6,none⟩) (by show w.heap.size ≤ P;omega) _).setCell (p:=⟨P,7,none⟩) (by show w.heap.size ≤ P;omega) _).drew⟩
     exact ((grownBy_at _ P 7 _).block _ (by rw [World.size_setCell];exact lt_of_block hZc) (fun e=>hwX (by cases e;rfl))).trans (((grownBy_at _ P 6 _).block _ (lt_of_block hZc) (fun e=>hwX (by cases e;rfl))).trans hZc)
    have KEY2:=hid key2
    clear hPc hXc hZc hBc key2
    go_upto_region 6 with (fail)
    go_region
    go_wp2_with fail
    all_goals (go_roundw;(case rel=>refine ⟨k + 1,by omega,by go_num, ?_⟩;exact KEY2.out _ _ (by omega) (by omega));(case measure=>simp [intOf];omega))
  ·obtain rfl:k = n:=by omega
   have htk:fs.take k = fs:=List.take_of_length_le (by rw [Hn.out];exact Nat.le_refl _)
   rw [htk] at hp
   obtain ⟨cs,hcs⟩:∃ cs,cs = (propsT line k f0 fl fs).cells.toArray:=⟨_,rfl⟩
   rw [← hcs] at hp
   have HCS:=hid hcs
   have hcl:cs.size = 8:=by rw [hcs];rfl
   have hc1:∀ v ∈ cs.toList,v.oneCell' = true:=by rw [hcs];intro v hv;simp only [Props.cells,List.mem_cons,List.not_mem_nil,or_false] at hv;rcases hv with rfl | rfl | rfl | rfl | rfl | rfl | rfl | rfl <;> rfl
   have HP:=hid hp
   have Hcl:=hid hcl
   have Hc1:=hid hc1
   clear hp hcs hcl hc1 htk
   have HR5:=hid (setRow_heap wr _ _ cs _ _ HZ.out)
   go_wp2_with (first | (refine wpList_load_row rfl 49 _ rfl _ rfl _ _ _ _ HP.out Tryz.underlying49 rfl (by rw [Hcl.out];exact infoProps) ?_) | (refine wpList_store_block rfl 49 _ _ rfl _ _ _ _ rfl rfl HZ.out Hcl.out.symm (by rw [Hcl.out];exact infoProps) Hc1.out ?_))
   refine bodyPost_ret (results_cell_row rfl _ _ _ _ _ _ _ rfl HR5.out Tryz.underlying49 rfl (by rw [Hcl.out];exact infoProps)) rfl ?_
   exact ⟨by rw [HCS.out],below_setRow HB.out (Nat.le_refl _) _⟩
end Go.Proofs.Herb
namespace Go.Proofs.Herb
open Go.RowKit
attribute [local go_sem] Oper.semAt_some
theorem groups_any (N:Nat) (w:World) :
  Calls Tryz.prog 92 #[.int .u64 (N:Int)] w fun e w'=>e = .returned (.func (.func 120) #[] #[.pointer (some ⟨w.heap.size,0,none⟩)]) ∧ w' = w.alloc (.cells #[.int .u64 (N:Int)] 24):=by
 go_enter Tryz.func92,Tryz.ntmps92
 go_wp2
 go_ret
 exact ⟨rfl,rfl⟩
set_option maxRecDepth 100000 in
set_option maxHeartbeats 1000000 in
theorem groups1_in (n Bn base N:Nat) (hn:1 ≤ n) (hN:N < 18446744073709551616) :
  SeqGood Fence.wide n Tryz.prog 120 #[.pointer (some ⟨Bn,0,none⟩)] (fun x:Nat × Bool => #[.int .u8 (x.1:Int),.bool x.2]) (Only (· = Bn)) (fun pre x _=>pre.length < 10 ∧ x.1 < 128) (KeepB Bn) (fun xs=>xs = gF 10 N) base (fun W=>Boxed W Bn 24 (.int .u64 (N:Int))):=by
 intro l J Jx W hb hOk hJ hJx hY h0
 have HY:=hid hY
 have HJ:=hid hJ
 have HOk:=hid hOk
 clear hY hJ hJx hOk hb
 refine callsIn_of_wp Tryz.func120 rfl trivial ?_ rfl
 simp only [Tryz.ntmps120,List.size_toArray,List.length_cons,List.length_nil,Nat.reduceAdd,Nat.reduceSub,Array.replicate_succ,Array.replicate_zero,List.push_toArray,List.append_toArray,List.nil_append,List.cons_append]
 gi_wp2
 gi_loopw [] (fun wr=>∃ (f m:Nat) (pre:List (Nat × Bool)),Boxed wr Bn 24 (.int .u64 (m:Int)) ∧ m < 18446744073709551616 ∧ m < 128 ^ f ∧ 1 ≤ f ∧ pre.length + f = 10 ∧ gF 10 N = pre ++ gF f m ∧ J pre wr) (fun wr=>boxN Bn wr)
 case atStart=>exact ⟨10,N,[],HOk.out,hN,by omega,by decide,rfl,rfl,h0⟩
 case round =>
  obtain ⟨f,m,pre,hbox,hm,hmf,hf,hpf,hg,hJp⟩:=hrel
  have cbox:=hbox.cell
  have Hbox:=hid hbox
  have Hg:=hid hg
  have HJp:=hid hJp
  have Hpf:=hid hpf
  have Hmf:=hid hmf
  clear hbox hg hJp hpf hmf
  have hlow:m % 128 < 128:=Nat.mod_lt _ (by decide)
  obtain ⟨fn,tmps,assign,body,hy,hR⟩:=HY.out pre (m % 128,decide (128 ≤ m)) wr HJp.out ⟨by have:=Hpf.out;omega,hlow⟩
  dsimp only at hy
  have HR:=hid hR
  clear hR
  have e1:((m % 128:Nat):Int) = (m:Int) % 128:=by omega
  rw [e1] at hy
  by_cases hge:128 ≤ m
  ·have hd:decide (128 ≤ m) = true:=by simpa using hge
   have hd2:decide ((128:Int) ≤ (m:Int)) = true:=by simp;omega
   rw [hd] at hy HR
   obtain ⟨g1,g2,g3⟩:=gF_next Hmf.out hf hge
   have G1:=hid g1
   have G2:=hid g2
   have g4:m / 128 < 18446744073709551616:=by omega
   have e2:(m:Int) / 128 = ((m / 128:Nat):Int):=by omega
   have E2:=hid e2
   have HGE:=hid hge
   clear g1 g2 hge e1 e2
   gi_wp2
   refine HR.out.mono ?_
   rintro e W2 (⟨rfl,hJ2,hk2⟩ | ⟨rfl,hJ2⟩)
   ·have hbox2:Boxed W2 Bn 24 (.int .u64 (m:Int)):=hk2 _ Hbox.out
    have cbox2:=hbox2.cell
    have fbox2:=hbox2.frozen
    have Hbox2:=hid hbox2
    have HJ2:=hid hJ2
    clear hJ2 hk2 hbox2 cbox hy HR
    gi_wp2
    rw [E2.out]
    have hb3:=Hbox2.out.set (.int .u64 ((m / 128:Nat):Int))
    have HB3:=hid hb3
    have HJ3:=hid (HJ.out _ _ _ HJ2.out (Only.set (R:=(· = Bn)) Hbox2.out rfl (.int .u64 ((m / 128:Nat):Int))))
    clear hb3
    go_roundw
    case rel=>exact ⟨f - 1,m / 128,_,HB3.out,g4,G2.out,g3,by have:=Hpf.out;simp;omega,by rw [Hg.out,G1.out];simp,HJ3.out⟩
    case measure=>rw [boxN_of HB3.out,boxN_of Hbox.out];have:=HGE.out;omega
   ·have HJ2:=hid hJ2
    clear hJ2 hy HR
    gi_wp2
    refine ⟨rfl,_,results_none rfl _ _ _, ?_⟩
    exact ⟨⟨_,rfl⟩,.inr ⟨_,HJ2.out⟩⟩
  ·have hd:decide (128 ≤ m) = false:=by simpa using hge
   have hd2:decide ((128:Int) ≤ (m:Int)) = false:=by simp;omega
   rw [hd] at hy HR
   have G1:=hid (gF_last hf hge)
   clear hge e1
   gi_wp2
   refine HR.out.mono ?_
   rintro e W2 (⟨rfl,hJ2,hk2⟩ | ⟨rfl,hJ2⟩)
   ·have hbox2:Boxed W2 Bn 24 (.int .u64 (m:Int)):=hk2 _ Hbox.out
    have cbox2:=hbox2.cell
    have fbox2:=hbox2.frozen
    have HJ2:=hid hJ2
    clear hJ2 hk2 hbox2 cbox hy HR
    gi_wp2
    refine ⟨rfl,_,results_none rfl _ _ _, ?_⟩
    refine ⟨⟨_,rfl⟩,.inl ⟨_, ?_,HJ2.out⟩⟩
    rw [Hg.out,G1.out]
   ·have HJ2:=hid hJ2
    clear hJ2 hy HR
    gi_wp2
    refine ⟨rfl,_,results_none rfl _ _ _, ?_⟩
    exact ⟨⟨_,rfl⟩,.inr ⟨_,HJ2.out⟩⟩
structure BoxStep (W W':World) (Bb base b0:Nat) (tb e:TypeId) (size:Nat) (v v':Value) (m:Nat) (ys:List Value):Prop where
 box:Boxed W' Bb tb v'
 own:W'.ownsRow base e size v' m ys
 far:∀ g,g < W.heap.size → g ≠ Bb → v.ownBlock ≠ some g → W'.heap[g]? = W.heap[g]?
 kind:∀ g t,HasKind W g t → e ≠ t → g ≠ Bb → W'.heap[g]? = W.heap[g]?
 keeps:∀ b,KeepsFrom b W W'
 below:Below b0 W W'
theorem box_step {W W0 w1:World} {Bb base b0:Nat} {tb e:TypeId} {size k m:Nat} {v v':Value} {xs ys:List Value} (hB:Boxed W Bb tb v) (hrow:W.ownsRow base e size v k xs) (hW0:Below W.heap.size W W0) (hown':w1.ownsRow base e size v' m ys)
  (hgrow:W0.grownBy w1 v.ownBlock) (hte:e ≠ tb) (h0:b0 ≤ Bb) (hb0:b0 ≤ base) (hbs:b0 ≤ W.heap.size):Boxed w1 Bb tb v ∧ BoxStep W (w1.setCell ⟨Bb,0,none⟩ v') Bb base b0 tb e size v v' m ys:=by
 have ap:∀ g,v.ownBlock = some g → g ≠ Bb:=own_apart hrow ⟨_,_,hB⟩ hte
 have same:∀ g,g < W.heap.size → v.ownBlock ≠ some g → w1.heap[g]? = W.heap[g]?:=fun g hg hne =>
  (hgrow.block g (Nat.lt_of_lt_of_le hg hW0.size) (fun e=>hne e.symm)).trans (hW0.block g hg)
 have hB1:Boxed w1 Bb tb v:=(same Bb hB.lt (fun e=>ap Bb e rfl)).trans hB
 have ap':∀ g,v'.ownBlock = some g → g ≠ Bb:=own_apart hown' ⟨_,_,hB1⟩ hte
 have hsz:W.heap.size ≤ w1.heap.size:=Nat.le_trans hW0.size hgrow.size
 have far:∀ g,g < W.heap.size → g ≠ Bb → v.ownBlock ≠ some g → (w1.setCell ⟨Bb,0,none⟩ v').heap[g]? = W.heap[g]?:=fun g hg h1 h2 =>
  ((grownBy_setCell' w1 Bb v').block g (by omega) (fun e=>h1 (by cases e;rfl))).trans (same g hg h2)
 refine ⟨hB1,hB1.set v',hown'.kept (grownBy_setCell' w1 Bb v') (.inr (fun e=>ap' Bb e rfl)),far, ?_, ?_, ?_⟩
 ·intro g t hk het hg
  exact far g hk.lt hg (fun e=>own_apart hrow hk het g e rfl)
 ·intro b
  refine ⟨by rw [World.size_setCell];exact hsz,fun g o _ ho hc => ?_⟩
  have hgl:g < W.heap.size:=(Array.getElem?_eq_some_iff.1 ho).1
  rw [far g hgl (fun e=>by subst e;rw [show W.heap[g]? = _ from hB] at ho;cases ho;cases hc) (fun e=>by
   rcases hrow.2 with ⟨h2,_⟩ | ⟨g',cap,cur,hv,_,hh,_⟩
   ·rw [h2] at e;simp [Value.ownBlock] at e
   ·rw [hv] at e;simp [Value.ownBlock] at e;subst e
    rw [hh] at ho;cases ho;cases hc)]
  exact ho
 ·exact (((hW0.mono hbs).grown hgrow (Nat.le_trans hbs hW0.size) (fun j ej=>Nat.le_trans hb0 (hrow.lt j ej).1))).setCell (p:=⟨Bb,0,none⟩) h0 v'
theorem clone_own (a:Option Addr) (n c:Nat) (l:List UInt8) (w:World) (hn:l.length = n) (hc:n ≤ c) (hm:n ≤ 4194304) (hr:Rd w a (l.map bv)) (ha:a = none → c = 0) :
  Calls Tryz.prog 21 #[.slice a n c] w fun e w'=>∃ q c',e = .returned (.slice q n c') ∧ w'.ownsRow w.heap.size 5 1 (.slice q n c') n (l.map bv) ∧ Below w.heap.size w w':=by
 have heq:=fun (w:World) (a:Option Addr) (n c:Nat)=>Lib.run_eql_slice_nil (P:=Tryz.prog) w 22 5 a n c 0 0 Tryz.underlying22
 cases a with
 | none =>
  have Hn:=hid hn
  clear hr hn
  obtain rfl:=ha rfl
  obtain rfl:n = 0:=by omega
  go_enter Tryz.func21,Tryz.ntmps21
  go_wp2
  go_ret
  refine ⟨_,_,rfl, ?_,Below.refl _ _⟩
  rw [List.eq_nil_of_length_eq_zero Hn.out]
  exact own_nil22 _ _
 | some ad =>
  have Hr:=hid hr
  have Hn:=hid hn
  clear hr hn ha
  go_enter Tryz.func21,Tryz.ntmps21
  go_wp2_with (refine wpList_append_rd rfl (.tmp 5) (.tmp 6) 22 rfl w.heap.size 5 _ 1 1 Tryz.underlying22 infoU8 rfl (by decide) (.slice (some ⟨w.heap.size,0,none⟩) 0 0) 0 [] rfl (World.ownsRow_made w #[] 0 (Nat.le_refl _) (by decide) rfl) _ n c (l.map bv) rfl (fun h=>by cases h) (by have:=Hn.out;simp;omega) (Hr.out.alloc _) bv_one (by unfold maxLen;omega) (by omega) (by simp) ?_;intro v' w1 hown hg hnil)
  rw [Nat.zero_add,List.nil_append] at hown
  obtain ⟨q,c',rfl,_⟩:=own_shape hown
  go_ret
  refine ⟨_,_,rfl,hown, ?_⟩
  exact ((Below.refl _ _).alloc (Nat.le_refl _) _).grown hg (by simp) (by simp [Value.ownBlock])
def PutI (w:World) (l:List UInt8) (Bb Bn:Nat) (pre:List (Nat × Bool)) (W:World):Prop :=
 (∃ v,Boxed W Bb 22 v ∧ W.ownsRow w.heap.size 5 1 v (l.length + pre.length) ((l ++ pre.map byteOf).map bv)) ∧ HasKind W Bn 24 ∧ Below w.heap.size w W
theorem PutI.stays (w:World) (l:List UInt8) (Bb Bn:Nat) (pre:List (Nat × Bool)):Stays (PutI w l Bb Bn pre):=by
 rintro A C ⟨⟨v,h1,h2⟩,h3,h4⟩ hb
 exact ⟨⟨v,(hb.block Bb h1.lt).trans h1,own_below h2 hb⟩,h3.below hb,h4.trans (hb.mono h4.size)⟩
theorem PutI.only (w:World) (l:List UInt8) (Bb Bn:Nat) (hne:Bb ≠ Bn) (hw:w.heap.size ≤ Bn) (pre:List (Nat × Bool)) (A C:World) (h:PutI w l Bb Bn pre A) (hr:Only (· = Bn) A C):PutI w l Bb Bn pre C:=by
 obtain ⟨⟨v,h1,h2⟩,h3,h4⟩:=h
 exact ⟨⟨v,hr.boxed h1 hne,own_only hr h2 (fun g hg=>own_apart h2 h3 (by decide) g hg)⟩,h3.only hr,h4.trans (hr.below h4.size (fun g hg e=>by omega))⟩
theorem PutI.turns (w:World) (l:List UInt8) (Bb Bn b0:Nat) (hb:w.heap.size ≤ b0) (pre:List (Nat × Bool)):Turns b0 (PutI w l Bb Bn pre):=by
 rintro W k o o' ⟨⟨v,h1,h2⟩,h3,h4⟩ hl ho hc
 exact ⟨⟨v,boxed_putObj h1 o' ho hc,ownsRow_putObj h2 _ ho hc⟩,h3.putObj o' ho hc,below_putObj h4 (by omega) o' ho⟩
end Go.Proofs.Herb
namespace Go.Proofs.Herb
open Go.RowKit
attribute [local go_sem] Oper.semAt_some
set_option maxRecDepth 100000 in
set_option maxHeartbeats 2000000 in
theorem vput_any (a:Option Addr) (n c N:Nat) (l:List UInt8) (w:World) (hN:N < 18446744073709551616) (hn:l.length = n) (hc:n ≤ c) (hm:n ≤ 4194304) (hr:Rd w a (l.map bv)) (ha:a = none → c = 0) :
  Calls Tryz.prog 46 #[.slice a n c,.int .u64 (N:Int)] w fun e w'=>∃ q,e = .returned (.slice q (n + (vput N).length) (n + (vput N).length)) ∧ Fr w' w.heap.size 5 1 (.slice q (n + (vput N).length) (n + (vput N).length)) (n + (vput N).length) ((l ++ vput N).map bv) ∧ Below w.heap.size w w':=by
 have HC:=hid (clone_own a n c l (w.alloc (.cells #[.slice a n c] 22)) hn hc hm (hr.alloc _) ha)
 have Hn:=hid hn
 have HVl:=hid (vput_len N)
 have hvl:=(vput_len N).2
 clear hr ha hn
 refine (callsIn_wide (n:=3)).1 (callsIn_of_wp_marks Tryz.func46 rfl trivial ?_ rfl)
 refine wpIn_wide.2 ?_
 simp only [Tryz.ntmps46,List.size_toArray,List.length_cons,List.length_nil,Nat.reduceAdd,Nat.reduceSub,Array.replicate_succ,Array.replicate_zero,List.push_toArray,List.append_toArray,List.nil_append,List.cons_append]
 go_wp2_with fail
 (with_reducible refine HC.out.mono ?_)
 rintro e w2 ⟨q2,c2,rfl,hown2,hb2⟩
 rw [World.size_alloc] at hown2 hb2
 have hB2:Boxed w2 w.heap.size 22 (.slice a n c):=(hb2.block _ (by simp)).trans (Boxed.new w _ _)
 have cB2:=hB2.cell
 have fB2:=hB2.frozen
 have HB2:=hid hB2
 have Hown2:=hid hown2
 have Hb2:=hid hb2
 clear hB2 hown2 hb2
 go_wp2_with (go_at_call 92;refine (groups_any N _).mono ?_;rintro e w4 ⟨rfl,rfl⟩)
 obtain ⟨Bn,hBn⟩:∃ Bn,Bn = w2.heap.size:=⟨_,rfl⟩
 obtain ⟨w3,hw3⟩:∃ w3,(w2.setCell ⟨w.heap.size,0,none⟩ (.slice q2 n c2)).alloc (.cells #[.int .u64 (N:Int)] 24) = w3:=⟨_,rfl⟩
 rw [← hBn,hw3]
 have hlt:w.heap.size < Bn:=by rw [hBn];exact HB2.out.lt
 have hs3:w3.heap.size = Bn + 1:=by rw [← hw3,hBn];simp
 have hO3:Only (· = w.heap.size) w2 w3:=by
  rw [← hw3]
  exact (Only.set (R:=(· = w.heap.size)) HB2.out rfl _).trans (Only.of_below ((Below.refl _ _).alloc (Nat.le_refl _) _))
 have hN3:Boxed w3 Bn 24 (.int .u64 (N:Int)):=by
  rw [← hw3,hBn]
  have:=Boxed.new (w2.setCell ⟨w.heap.size,0,none⟩ (.slice q2 n c2)) 24 (.int .u64 (N:Int))
  rwa [World.size_setCell] at this
 have hX3:Boxed w3 w.heap.size 22 (.slice q2 n c2):=by rw [← hw3];exact (HB2.out.set _).alloc _
 have hw2s:w.heap.size ≤ w2.heap.size:=by omega
 have hI3:PutI w l w.heap.size Bn [] w3:=⟨⟨_,hX3,by
   have:=own_mono (own_only hO3 Hown2.out (fun g hg e=>by have:=(Hown2.out.lt g hg).1;omega)) (show w.heap.size ≤ w.heap.size + 1 by omega)
   simpa [Hn.out] using this⟩,⟨_,_,hN3⟩,(((Below.refl _ w).alloc (Nat.le_refl _) _).trans (Hb2.out.mono (by omega))).trans (hO3.below hw2s (fun g hg e=>by omega))⟩
 have HN3:=hid hN3
 have HI3:=hid hI3
 have HBn:=hid hBn
 have Hs3:=hid hs3
 clear hw3 hN3 hX3 hO3 hI3 hBn hs3 cB2 fB2 HC
 refine wpIn_wide.1 (wpIn_range_stop (n:=3) rfl (by omega) (gf:=120) (lb := #[.pointer (some ⟨Bn,0,none⟩)]) rfl trivial (enters_of Tryz.func120 (by kernel_rfl) rfl)
  (fun _=>rfl) (groups1_in 2 Bn w3.heap.size N (by omega) hN) (Nat.le_refl _) (fun W hb=>(hb.block _ HN3.out.lt).trans HN3.out) KeepB.trans (fun W l o o' hl _ _=>KeepB.putObj W l o o' (by have:=Hs3.out;omega))
  (fun A B h=>h.keeps _) (PutI w l w.heap.size Bn) (fun _ _ _=>False) (PutI.stays w l w.heap.size Bn) (PutI.only w l w.heap.size Bn (by omega) (by omega)) (fun _ _ _ _ h _=>h) (PutI.turns w l w.heap.size Bn w3.heap.size (by have:=Hs3.out;omega)) (fun _ _ _ _ _ _ h _ _ _=>h) (fun _ _ _ _ _ _ h _ _ _=>h)
  HI3.out
  (fun x => { tmps := #[.slice a n c,.int .u64 (N:Int),.pointer (some ⟨w.heap.size,0,none⟩),undef,.slice none 0 0,.int .u8 (x.1:Int),.bool x.2,.slice a n c,.slice q2 n c2,.int .u64 (N:Int),.func (.func 120) #[] #[.pointer (some ⟨Bn,0,none⟩)],.int .u8 (x.1:Int),.bool x.2,undef,undef,undef,undef,undef,undef,undef,undef,undef],defers:=[] }) ?assign ?body ?done ?stop)
 case assign =>
  intro l x W K hK
  gi_wp2
  exact hK
 case stop=>exact fun _ _ _ _ _ h _=>h.elim
 case body =>
  rintro k pre ⟨low,on⟩ W hk ⟨⟨v,hX,hrow⟩,hkd,hb⟩ ⟨hp10,hlow⟩
  obtain ⟨q,cq,rfl,hcq,hmq,hqn⟩:=own_shape hrow
  obtain ⟨i0,hi,hz0,hz1,hz2⟩:=info_parts infoU8
  have cX:=hX.cell
  have fX:=hX.frozen
  have hsW:=hb.size
  have hXlt:=hX.lt
  have Hl:=hid (show l.length ≤ 4194304 from by rw [Hn.out];exact hm)
  have HX:=hid hX
  have Hrow:=hid hrow
  have Hkd:=hid hkd
  have Hb:=hid hb
  dsimp only at hlow
  clear hX hrow hkd hb
  obtain ⟨M,hM⟩:∃ M,M = l.length + pre.length:=⟨_,rfl⟩
  rw [← hM] at Hrow cX HX hcq
  have hMl:M + 1 ≤ 4194315:=by have:=Hl.out;omega
  have HM:=hid hM
  clear hM
  have fin:∀ (y:UInt8),y = byteOf (low,on) → ∀ (v':Value) (w1:World),w1.ownsRow w.heap.size 5 1 v' (M + 1) ((l ++ pre.map byteOf).map bv ++ [bv y]) → (W.alloc (.cells #[bv y] 5)).grownBy w1 (Value.ownBlock (.slice q M cq)) →
    Boxed w1 w.heap.size 22 (.slice q M cq) ∧ KeepsFrom w3.heap.size W (w1.setCell ⟨w.heap.size,0,none⟩ v') ∧ KeepB Bn W (w1.setCell ⟨w.heap.size,0,none⟩ v') ∧ PutI w l w.heap.size Bn (pre ++ [(low,on)]) (w1.setCell ⟨w.heap.size,0,none⟩ v'):=by
   intro y hy v' w1 ho hg
   obtain ⟨hb1,st⟩:=box_step (b0:=w.heap.size) HX.out Hrow.out ((Below.refl _ _).alloc (Nat.le_refl _) _) ho hg (by decide) (Nat.le_refl _) (Nat.le_refl _) (by omega)
   have hkb:(w1.setCell ⟨w.heap.size,0,none⟩ v').heap[Bn]? = W.heap[Bn]?:=st.kind Bn _ Hkd.out (by decide) (by omega)
   refine ⟨hb1,st.keeps _,fun o ho=>hkb.trans ho,⟨v',st.box, ?_⟩, ?_,Hb.out.trans st.below⟩
   ·have:=st.own
    rw [List.length_append,← Nat.add_assoc,← HM.out]
    simpa [hy] using this
   ·obtain ⟨cs,fr,h⟩:=Hkd.out
    exact ⟨cs,fr,hkb.trans h⟩
  cases on with
  | true =>
   have ho:=byteOf_true low hlow
   have Hfin:=hid (fin _ rfl)
   clear fin
   gi_wp2_with (gi_at_builtin;refine wpListIn_append_own _ rfl _ _ 22 rfl w.heap.size 5 i0 (.int .u8 0) 1 1 Tryz.underlying22 hi hz0 hz1 hz2 rfl (by decide) _ _ _ rfl (Hrow.out.alloc _) ⟨W.heap.size,0,none⟩ 1 1 [bv (byteOf (low,true))] rfl rfl (cell_one_new _ _ _) (by simp [Value.oneCell',bv]) (by unfold maxLen;omega) (by omega) (by simp;omega) ?_;intro v' w1 hown' hgrow _;obtain ⟨p1,p2⟩:=Hfin.out v' w1 hown' hgrow;have cX1:=p1.cell;have fX1:=p1.frozen;obtain ⟨q',c',rfl,_⟩:=own_shape hown';have P2:=hid p2;clear p1 p2 hown' hgrow)
   exact P2.out
  | false =>
   have ho:=byteOf_false low hlow
   have Hfin:=hid (fin _ rfl)
   have HO:=hid ho
   clear fin ho
   gi_wp2_with (gi_at_builtin;refine wpListIn_append_own _ rfl _ _ 22 rfl w.heap.size 5 i0 (.int .u8 0) 1 1 Tryz.underlying22 hi hz0 hz1 hz2 rfl (by decide) _ _ _ rfl (Hrow.out.alloc _) ⟨W.heap.size,0,none⟩ 1 1 [.int .u8 (low:Int)] rfl rfl (cell_one_new _ _ _) (by simp [Value.oneCell']) (by unfold maxLen;omega) (by omega) (by simp;omega) ?_;intro v' w1 hown' hgrow _;rw [HO.out] at hown' hgrow;obtain ⟨p1,p2⟩:=Hfin.out v' w1 hown' hgrow;have cX1:=p1.cell;have fX1:=p1.frozen;obtain ⟨q',c',rfl,_⟩:=own_shape hown';have P2:=hid p2;clear p1 p2 hown' hgrow)
   exact P2.out
 case done =>
  rintro D xs W hD rfl ⟨⟨v,hX,hrow⟩,hkd,hb⟩ hK
  have hlen:l.length + (gF 10 N).length = n + (vput N).length:=by rw [Hn.out];simp [vput]
  rw [hlen] at hrow
  obtain ⟨M,hM⟩:∃ M,M = n + (vput N).length:=⟨_,rfl⟩
  rw [← hM] at hrow
  have hgl:(l ++ (gF 10 N).map byteOf).map bv = (l ++ vput N).map bv:=rfl
  rw [hgl] at hrow
  obtain ⟨q,cq,rfl,hcq,hmq,hqn⟩:=own_shape hrow
  have cX:=hX.cell
  have HM:=hid hM
  have Hrow:=hid hrow
  have Hb:=hid hb
  have HK:=hid hK
  clear hX hrow hb hkd hM hlen hK hgl
  go_wp2_with (go_at_call 53;refine (clip_bytes q M cq _ hcq hmq).mono ?_;rintro e w4 ⟨rfl,rfl⟩)
  refine ⟨by simp,.inl ⟨_,_,rfl,run_takeDeferred HK.out, ?_⟩⟩
  refine ⟨.slice q M M,by simp [results,Tryz.results46,go_sem],q,by rw [HM.out], ?_, ?_⟩
  ·rw [← HM.out]
   obtain ⟨f1,f2⟩:=(Fr.of_own Hrow.out).clip
   refine ⟨f1, ?_⟩
   rcases f2 with f2 | ⟨g,cap,cur,hv,hg,hh,r⟩
   ·exact .inl f2
   ·exact .inr ⟨g,cap,cur,hv,hg,(World.putObj_heap_other (fun e=>by subst e;rw [HK.out] at hh;cases hh)).trans hh,r⟩
  ·exact below_putObj Hb.out (by have:=Hs3.out;omega) _ HK.out
set_option maxHeartbeats 800000 in
theorem ptext_any (a:Option Addr) (n c:Nat) (l:List UInt8) (s:ByteArray) (w:World) (hs:s.size ≤ 4194304) (hn:l.length = n) (hc:n ≤ c) (hm:n ≤ 4194304) (hr:Rd w a (l.map bv)) (ha:a = none → c = 0) :
  Calls Tryz.prog 91 #[.slice a n c,.string s] w fun e w'=>∃ q,e = .returned (.slice q (n + (tput s.data.toList).length) (n + (tput s.data.toList).length)) ∧ Fr w' w.heap.size 5 1 (.slice q (n + (tput s.data.toList).length) (n + (tput s.data.toList).length)) (n + (tput s.data.toList).length) ((l ++ tput s.data.toList).map bv) ∧ Below w.heap.size w w':=by
 have hsl:s.data.toList.length = s.size:=by rw [Array.length_toList];rfl
 have htl:(tput s.data.toList).length = (vput s.size).length + s.size:=by unfold tput;rw [List.length_append,hsl]
 have hte:l ++ tput s.data.toList = (l ++ vput s.size) ++ s.data.toList:=by unfold tput;rw [hsl,List.append_assoc]
 rw [htl,hte,← Nat.add_assoc]
 have hvl:=(vput_len s.size).2
 have H:=hid (vput_any a n c s.size l w (by omega) hn hc hm hr ha)
 obtain ⟨M,hM⟩:∃ M,M = n + (vput s.size).length:=⟨_,rfl⟩
 rw [← hM] at H ⊢
 have hMl:M ≤ 4194314:=by omega
 clear hn hr ha hM hte htl hsl
 go_enter Tryz.func91,Tryz.ntmps91
 go_wp2_with fail
 (with_reducible refine H.out.mono ?_)
 rintro e w2 ⟨q,rfl,hf,hb⟩
 have Hb:=hid hb
 have Hf:=hid hf
 have hsz:=hb.size
 clear hf hb
 go_wp2_with (refine appStr rfl (.tmp 9) (.tmp 10) rfl w.heap.size q M _ rfl Hf.out s rfl (by omega) hsz ?_;intro q' c' w3 hf3 hc3 hm3 hn3 hb3)
 go_wp2_with (go_at_call 53;refine (clip_bytes q' (M + s.size) c' _ hc3 hm3).mono ?_;rintro e w4 ⟨rfl,rfl⟩)
 go_ret
 exact ⟨_,rfl,hf3.clip,Hb.out.trans (hb3.mono hsz)⟩
end Go.Proofs.Herb
