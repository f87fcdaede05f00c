/- What a table's props and filter tell: plain. The contracts of varints.Get and GetText. For bytes that can be read. The contracts of blocks.numbered and opened. For bytes that can be read. A block's items, read: plain. -/
import Derived.Test.YtbaohpnfiacchaaGreatDoorQb01
import Derived.Test.YtbaohpnfiacchaaGreatDoorQb03
import Derived.Test.YtbaohpnfiacchaaGreatDoorQb04
import Derived.Test.YtbaohpnfiacchaaGreatDoorQb07
import Derived.Test.YtbaohpnfiacchaaGreatDoorQb15
import Derived.Test.YtbaohpnfiacchaaGreatDoorQb16
namespace Go.Proofs.Herb
open Go.RowKit
/-! bits -/
/-! keys and ends -/
theorem cmp_key {f g:Fact} (h:cmpF f g < 0):bL g.key.data.toList f.key.data.toList = false:=by
 unfold cmpF at h
 rw [orZ_cons] at h
 split at h
 ·rename_i h0
  rw [cmpS_zero.1 h0];exact bl_irrefl _
 ·exact bl_asymm (cmpS_neg.1 h)
theorem nlt_trans {a b c:List UInt8} (h1:bL b a = false) (h2:bL c b = false):bL c a = false:=by
 rw [Bool.eq_false_iff]
 intro h
 by_cases e:c = b
 ·subst e;rw [h] at h1;cases h1
 ·have h3:=bl_total h2 e
  have:=bl_trans h3 h
  rw [h1] at this;cases this
theorem good_keys {line:Nat} {l:List Fact} (hg:GoodF line l) (i:Nat):∀ d,(h:i + d < l.length) → bL (l[i + d]'h).key.data.toList (l[i]'(by omega)).key.data.toList = false
 | 0,h=>bl_irrefl _
 | d + 1,h=>by
  obtain ⟨_,_,_,_,h4⟩:=hg (i + (d + 1)) h
  exact nlt_trans (good_keys hg i d (by omega)) (cmp_key (h4 (i + d) (by omega)))
theorem fmin_le {g:Fact → Nat}:∀ (l:List Fact) (a:Nat),∀ f ∈ l,l.foldl (fun a f=>min a (g f)) a ≤ g f
 | x :: l,a,f,hf=>by
  rw [List.foldl_cons]
  rcases List.mem_cons.1 hf with rfl | hf
  ·exact Nat.le_trans (fold_min_le l _) (Nat.min_le_right _ _)
  ·exact fmin_le l _ f hf
theorem fmax_ge0 {g:Fact → Nat}:∀ (l:List Fact) (a:Nat),a ≤ l.foldl (fun a f=>max a (g f)) a
 | [],a=>Nat.le_refl _
 | x :: l,a=>by rw [List.foldl_cons];exact Nat.le_trans (Nat.le_max_left _ _) (fmax_ge0 l _)
theorem fmax_ge {g:Fact → Nat}:∀ (l:List Fact) (a:Nat),∀ f ∈ l,g f ≤ l.foldl (fun a f=>max a (g f)) a
 | x :: l,a,f,hf=>by
  rw [List.foldl_cons]
  rcases List.mem_cons.1 hf with rfl | hf
  ·exact Nat.le_trans (Nat.le_max_right _ _) (fmax_ge0 l _)
  ·exact fmax_ge l _ f hf
theorem fmin_at {g:Fact → Nat}:∀ (l:List Fact) (a:Nat),l.foldl (fun a f=>min a (g f)) a = a ∨ ∃ f ∈ l,g f = l.foldl (fun a f=>min a (g f)) a
 | [],a=>.inl rfl
 | x :: l,a=>by
  rw [List.foldl_cons]
  rcases fmin_at (g:=g) l (min a (g x)) with h | ⟨f,hf,h⟩
  ·by_cases e:a ≤ g x
   ·rw [Nat.min_eq_left e] at h ⊢;exact .inl h
   ·rw [Nat.min_eq_right (by omega)] at h ⊢;exact .inr ⟨x,by simp,h.symm⟩
  ·exact .inr ⟨f,by simp [hf],h⟩
theorem fmax_at {g:Fact → Nat}:∀ (l:List Fact) (a:Nat),l.foldl (fun a f=>max a (g f)) a = a ∨ ∃ f ∈ l,g f = l.foldl (fun a f=>max a (g f)) a
 | [],a=>.inl rfl
 | x :: l,a=>by
  rw [List.foldl_cons]
  rcases fmax_at (g:=g) l (max a (g x)) with h | ⟨f,hf,h⟩
  ·by_cases e:g x ≤ a
   ·rw [Nat.max_eq_left e] at h ⊢;exact .inl h
   ·rw [Nat.max_eq_right (by omega)] at h ⊢;exact .inr ⟨x,by simp,h.symm⟩
  ·exact .inr ⟨f,by simp [hf],h⟩
structure PropsOk (line:Nat) (l:List Fact) (p:Props):Prop where
 line:p.line = line
 many:p.many = l.length
 low:∀ h:0 < l.length,p.low = (l[0]'h).key
 high:∀ h:0 < l.length,p.high = (l[l.length - 1]'(by omega)).key
 each:∀ f ∈ l,bL f.key.data.toList p.low.data.toList = false ∧ bL p.high.data.toList f.key.data.toList = false ∧ p.least ≤ f.seq ∧ f.seq ≤ p.greatest ∧ p.early ≤ f.valid ∧ f.valid ≤ p.late
 some:(∃ f ∈ l,f.seq = p.least) ∧ (∃ f ∈ l,f.seq = p.greatest) ∧ (∃ f ∈ l,f.valid = p.early) ∧ ∃ f ∈ l,f.valid = p.late
theorem props_good {line:Nat} {l:List Fact} (hg:GoodF line l) (h0:0 < l.length):PropsOk line l (propsF line l):=by
 cases l with
 | nil=>simp at h0
 | cons f0 r =>
  have hlast:(f0 :: r).getLast (by simp) = (f0 :: r)[(f0 :: r).length - 1]'(by simp):=List.getLast_eq_getElem _
  refine ⟨rfl,rfl,fun _=>rfl,fun _=>by rw [← hlast];rfl,fun f hf=>⟨?_, ?_,fmin_le (f0 :: r) _ f hf,fmax_ge (f0 :: r) _ f hf,fmin_le (f0 :: r) _ f hf,fmax_ge (f0 :: r) _ f hf⟩, ?_, ?_, ?_, ?_⟩
  ·obtain ⟨i,hi,rfl⟩:=List.mem_iff_getElem.1 hf
   have:=good_keys hg 0 i (by omega)
   simp only [Nat.zero_add] at this
   exact this
  ·obtain ⟨i,hi,rfl⟩:=List.mem_iff_getElem.1 hf
   show bL ((f0 :: r).getLast (by simp)).key.data.toList _ = false
   rw [hlast]
   have:=good_keys hg i ((f0 :: r).length - 1 - i) (by omega)
   simp only [show i + ((f0 :: r).length - 1 - i) = (f0 :: r).length - 1 by omega] at this
   exact this
  ·rcases fmin_at (g:=(·.seq)) (f0 :: r) f0.seq with h | ⟨f,hf,h⟩
   ·exact ⟨f0,by simp,h.symm⟩
   ·exact ⟨f,hf,h⟩
  ·rcases fmax_at (g:=(·.seq)) (f0 :: r) 0 with h | ⟨f,hf,h⟩
   ·refine ⟨f0,by simp, ?_⟩
    have:=fmax_ge (g:=(·.seq)) (f0 :: r) 0 f0 (by simp)
    show f0.seq = (f0 :: r).foldl (fun a f=>max a f.seq) 0
    omega
   ·exact ⟨f,hf,h⟩
  ·rcases fmin_at (g:=(·.valid)) (f0 :: r) f0.valid with h | ⟨f,hf,h⟩
   ·exact ⟨f0,by simp,h.symm⟩
   ·exact ⟨f,hf,h⟩
  ·rcases fmax_at (g:=(·.valid)) (f0 :: r) 0 with h | ⟨f,hf,h⟩
   ·refine ⟨f0,by simp, ?_⟩
    have:=fmax_ge (g:=(·.valid)) (f0 :: r) 0 f0 (by simp)
    show f0.valid = (f0 :: r).foldl (fun a f=>max a f.valid) 0
    omega
   ·exact ⟨f,hf,h⟩
/-! a part that the footer tells -/
theorem num4_le4 (n:Nat) (h:n < 4294967296) (a b:List UInt8):num4 (a ++ (le4 n ++ b)) a.length = n:=by
 unfold num4 le4
 simp only [List.getElem?_append_right (Nat.le_refl _),List.getElem?_append_right (Nat.le_add_right _ _),Nat.sub_self,Nat.add_sub_cancel_left,List.cons_append,List.nil_append,List.getElem?_cons_zero,List.getElem?_cons_succ,Option.getD_some,UInt8.toNat_ofNat']
 omega
def partAt (fs:List Fact):Nat → Nat
 | 0=>(outB fs).length
 | 1=>(outB fs ++ idxB fs).length
 | _=>(outB fs ++ idxB fs ++ filB fs).length
theorem tab_parts (line:Nat) (fs:List Fact) (hl:(tabB line fs).length ≤ 65536) (i:Nat) (hi:i < 3) :
  num4 (tabB line fs) ((tabB line fs).length - 36 + 8 * i) = partAt fs i ∧ num4 (tabB line fs) ((tabB line fs).length - 36 + 8 * i + 4) = (((partsB line fs)[i]?).getD []).length ∧
  ((tabB line fs).drop (partAt fs i)).take (((partsB line fs)[i]?).getD []).length = ((partsB line fs)[i]?).getD []:=by
 have tl:=tab_len line fs
 have hb:(bodyB line fs).length = (outB fs).length + (idxB fs).length + (filB fs).length + (tailB2 line fs).length:=by unfold bodyB;simp only [List.length_append]
 have e1:(outB fs ++ idxB fs).length = (outB fs).length + (idxB fs).length:=by rw [List.length_append]
 have e2:(outB fs ++ idxB fs ++ filB fs).length = (outB fs).length + (idxB fs).length + (filB fs).length:=by rw [List.length_append,List.length_append]
 have key:∀ (pre:List UInt8) (n:Nat) (post:List UInt8) (a:Nat),tabB line fs = pre ++ (le4 n ++ post) → a = pre.length → n < 4294967296 → num4 (tabB line fs) a = n:=by
  intro pre n post a h ha hn
  rw [h,ha]
  exact num4_le4 n hn pre post
 have m4:([84,66,76,49]:List UInt8).length = 4:=rfl
 match i,hi with
 | 0,_ =>
  refine ⟨?_, ?_, ?_⟩
  ·refine key (bodyB line fs ++ [84,66,76,49]) _ (le4 (idxB fs).length ++ le4 (outB fs ++ idxB fs).length ++ le4 (filB fs).length ++ le4 (outB fs ++ idxB fs ++ filB fs).length ++ le4 (tailB2 line fs).length ++ le4 (crcMore 0 (filB fs)).toNat ++ le4 (crcMore 0 (tailB2 line fs)).toNat ++ le4 (crcMore 0 (foot0 line fs)).toNat) _ ?_ ?_ (by show (outB fs).length < _;omega)
   ·unfold tabB;conv=>lhs;rhs;lhs;unfold foot0
    simp only [List.append_assoc,partAt]
   ·simp only [List.length_append,m4];omega
  ·refine key (bodyB line fs ++ [84,66,76,49] ++ le4 (outB fs).length) _ (le4 (outB fs ++ idxB fs).length ++ le4 (filB fs).length ++ le4 (outB fs ++ idxB fs ++ filB fs).length ++ le4 (tailB2 line fs).length ++ le4 (crcMore 0 (filB fs)).toNat ++ le4 (crcMore 0 (tailB2 line fs)).toNat ++ le4 (crcMore 0 (foot0 line fs)).toNat) _ ?_ ?_ (by show (idxB fs).length < _;omega)
   ·unfold tabB;conv=>lhs;rhs;lhs;unfold foot0
    simp only [List.append_assoc,partsB,List.getElem?_cons_zero,Option.getD_some]
   ·simp only [List.length_append,m4,le4_len];omega
  ·show ((tabB line fs).drop (outB fs).length).take (idxB fs).length = idxB fs
   unfold tabB bodyB
   simp only [List.append_assoc]
   rw [List.drop_left,List.take_left]
 | 1,_ =>
  refine ⟨?_, ?_, ?_⟩
  ·refine key (bodyB line fs ++ [84,66,76,49] ++ le4 (outB fs).length ++ le4 (idxB fs).length) _ (le4 (filB fs).length ++ le4 (outB fs ++ idxB fs ++ filB fs).length ++ le4 (tailB2 line fs).length ++ le4 (crcMore 0 (filB fs)).toNat ++ le4 (crcMore 0 (tailB2 line fs)).toNat ++ le4 (crcMore 0 (foot0 line fs)).toNat) _ ?_ ?_ (by show (outB fs ++ idxB fs).length < _;omega)
   ·unfold tabB;conv=>lhs;rhs;lhs;unfold foot0
    simp only [List.append_assoc,partAt]
   ·simp only [List.length_append,m4,le4_len];omega
  ·refine key (bodyB line fs ++ [84,66,76,49] ++ le4 (outB fs).length ++ le4 (idxB fs).length ++ le4 (outB fs ++ idxB fs).length) _ (le4 (outB fs ++ idxB fs ++ filB fs).length ++ le4 (tailB2 line fs).length ++ le4 (crcMore 0 (filB fs)).toNat ++ le4 (crcMore 0 (tailB2 line fs)).toNat ++ le4 (crcMore 0 (foot0 line fs)).toNat) _ ?_ ?_ (by show (filB fs).length < _;omega)
   ·unfold tabB;conv=>lhs;rhs;lhs;unfold foot0
    simp only [List.append_assoc,partsB,List.getElem?_cons_zero,List.getElem?_cons_succ,Option.getD_some]
   ·simp only [List.length_append,m4,le4_len];omega
  ·show ((tabB line fs).drop (outB fs ++ idxB fs).length).take (filB fs).length = filB fs
   have:tabB line fs = (outB fs ++ idxB fs) ++ (filB fs ++ (tailB2 line fs ++ (foot0 line fs ++ le4 (crcMore 0 (foot0 line fs)).toNat))):=by unfold tabB bodyB;simp only [List.append_assoc]
   rw [this,List.drop_left,List.take_left]
 | 2,_ =>
  refine ⟨?_, ?_, ?_⟩
  ·refine key (bodyB line fs ++ [84,66,76,49] ++ le4 (outB fs).length ++ le4 (idxB fs).length ++ le4 (outB fs ++ idxB fs).length ++ le4 (filB fs).length) _ (le4 (tailB2 line fs).length ++ le4 (crcMore 0 (filB fs)).toNat ++ le4 (crcMore 0 (tailB2 line fs)).toNat ++ le4 (crcMore 0 (foot0 line fs)).toNat) _ ?_ ?_ (by show (outB fs ++ idxB fs ++ filB fs).length < _;omega)
   ·unfold tabB;conv=>lhs;rhs;lhs;unfold foot0
    simp only [List.append_assoc,partAt]
   ·simp only [List.length_append,m4,le4_len];omega
  ·refine key (bodyB line fs ++ [84,66,76,49] ++ le4 (outB fs).length ++ le4 (idxB fs).length ++ le4 (outB fs ++ idxB fs).length ++ le4 (filB fs).length ++ le4 (outB fs ++ idxB fs ++ filB fs).length) _ (le4 (crcMore 0 (filB fs)).toNat ++ le4 (crcMore 0 (tailB2 line fs)).toNat ++ le4 (crcMore 0 (foot0 line fs)).toNat) _ ?_ ?_ (by show (tailB2 line fs).length < _;omega)
   ·unfold tabB;conv=>lhs;rhs;lhs;unfold foot0
    simp only [List.append_assoc,partsB,List.getElem?_cons_zero,List.getElem?_cons_succ,Option.getD_some]
   ·simp only [List.length_append,m4,le4_len];omega
  ·show ((tabB line fs).drop (outB fs ++ idxB fs ++ filB fs).length).take (tailB2 line fs).length = tailB2 line fs
   have:tabB line fs = (outB fs ++ idxB fs ++ filB fs) ++ (tailB2 line fs ++ (foot0 line fs ++ le4 (crcMore 0 (foot0 line fs)).toNat)):=by unfold tabB bodyB;simp only [List.append_assoc]
   rw [this,List.drop_left,List.take_left]
end Go.Proofs.Herb
namespace Go.Proofs.Herb
open Go.RowKit
def getV:Nat → Nat → List UInt8 → Nat × Nat × Int
 | _,_,[]=>(0,0,5)
 | n,i,c :: r=>if (0 < i ∧ c = 0) ∨ (i = 9 ∧ 1 < c.toNat) then (0,0,4) else if c.toNat < 128 then (n + c.toNat * 2 ^ (7 * i),i + 1,0) else getV (n + c.toNat % 128 * 2 ^ (7 * i)) (i + 1) r
theorem andNot_all:∀ n:Fin 256,bits .andNot .u8 (n.val:Int) 128 = ((n.val % 128:Nat):Int):=by decide +kernel
theorem val_form (k N X:Nat) (hN:N < 2 ^ (7 * k)) (hX:X < 256) (h:k < 9 ∨ (k = 9 ∧ X ≤ 1)) :
  bits .or .u64 (N:Int) (IntKind.u64.wrap (IntKind.u64.wrap (bits .andNot .u8 (X:Int) 128) * 2 ^ (7 * k))) = ((N + X % 128 * 2 ^ (7 * k):Nat):Int):=by
 rw [show bits .andNot .u8 (X:Int) 128 = ((X % 128:Nat):Int) from andNot_all ⟨X,hX⟩]
 have hp:2 ^ (7 * k) ≤ 9223372036854775808:=by
  have:(2:Nat) ^ (7 * k) ≤ 2 ^ (7 * 9):=Nat.pow_le_pow_right (by decide) (by omega)
  exact this
 have h0:0 < 2 ^ (7 * k):=Nat.pow_pos (by decide)
 have hY:X % 128 * 2 ^ (7 * k) < 18446744073709551616:=by
  rcases h with h | ⟨h,h1⟩
  ·have h2:(2:Nat) ^ (7 * k) ≤ 2 ^ (7 * 8):=Nat.pow_le_pow_right (by decide) (by omega)
   have h3:X % 128 * 2 ^ (7 * k) ≤ 127 * 2 ^ (7 * 8):=Nat.mul_le_mul (by omega) h2
   exact Nat.lt_of_le_of_lt h3 (by decide)
  ·have h3:X % 128 * 2 ^ (7 * k) ≤ 1 * 2 ^ (7 * k):=Nat.mul_le_mul_right _ (by omega)
   omega
 have e1:IntKind.u64.wrap ((X % 128:Nat):Int) = ((X % 128:Nat):Int):=by rw [IntKind.wrap_u64];omega
 have e2:((X % 128:Nat):Int) * 2 ^ (7 * k) = ((X % 128 * 2 ^ (7 * k):Nat):Int):=by rw [Int.natCast_mul,Int.natCast_pow];rfl
 have e3:IntKind.u64.wrap ((X % 128 * 2 ^ (7 * k):Nat):Int) = ((X % 128 * 2 ^ (7 * k):Nat):Int):=by
  rw [IntKind.wrap_u64]
  generalize X % 128 * 2 ^ (7 * k) = Z at hY
  omega
 rw [e1,e2,e3,u64_or_nat _ _ (by omega) hY]
 congr 1
 have:=Nat.two_pow_add_eq_or_of_lt (i:=7 * k) (b:=N) hN (X % 128)
 rw [Nat.or_comm,Nat.mul_comm,← this,Nat.mul_comm]
 omega
set_option maxRecDepth 100000 in
set_option maxHeartbeats 1000000 in
theorem vget_any (q:Option Addr) (m c:Nat) (l:List UInt8) (w:World) (hl:l.length = m) (hm:m ≤ 9223372036854775806) (hr:Rd w q (l.map bv)) :
  Calls Tryz.prog 122 #[.slice q m c] w fun e w'=>e = .returned (.tuple #[.int .u64 ((getV 0 0 l).1:Int),.int .i64 ((getV 0 0 l).2.1:Int),.int .i64 (getV 0 0 l).2.2]) ∧ Below w.heap.size w w':=by
 have Hl:=hid hl
 have Hr:=hid hr
 clear hl hr
 go_enter Tryz.func122,Tryz.ntmps122
 go_wp2
 go_loopw [2,9] (fun v i wr=>∃ k N:Nat,k ≤ m ∧ k ≤ 9 ∧ i = .int .i64 (k:Int) ∧ v = .int .u64 (N:Int) ∧ N < 2 ^ (7 * k) ∧ getV 0 0 l = getV N k (l.drop k) ∧ Below w.heap.size w wr) (fun _ i _=>m - (intOf i).toNat)
 case atStart=>exact ⟨0,0,Nat.zero_le _,by decide,rfl,rfl,by decide,rfl,Below.refl _ _⟩
 case round =>
  obtain ⟨k,N,hk,hk9,rfl,rfl,hN,hg,hB⟩:=hrel
  have HB:=hid hB
  have HG:=hid hg
  clear hB hg
  by_cases hlt:k < m
  ·have hkl:k < l.length:=by rw [Hl.out];exact hlt
   obtain ⟨b,off,rfl,hc⟩:=(Hr.out.below HB.out).cell (k:=k) (by rw [List.length_map];exact hkl)
   rw [List.getElem_map] at hc
   obtain ⟨x,hx⟩:∃ x,x = l[k]:=⟨_,rfl⟩
   rw [← hx] at hc
   unfold bv at hc
   have hd:l.drop k = x :: l.drop (k + 1):=by rw [hx];exact List.drop_eq_getElem_cons hkl
   have hst:getV 0 0 l = if (0 < k ∧ x = 0) ∨ (k = 9 ∧ 1 < x.toNat) then (0,0,4) else if x.toNat < 128 then (N + x.toNat * 2 ^ (7 * k),k + 1,0) else getV (N + x.toNat % 128 * 2 ^ (7 * k)) (k + 1) (l.drop (k + 1)):=by
    rw [HG.out,hd,getV]
   have HSt:=hid hst
   have i0:(0:Int) ≤ (k:Int):=by omega
   have i1:(k:Int) < (m:Int):=by omega
   have hx8:=x.toNat_lt
   obtain ⟨X,hX⟩:∃ X,X = x.toNat:=⟨_,rfl⟩
   rw [← hX] at hc hx8
   have HX:=hid hX
   clear hx hd hst hX
   have hx0:x = 0 ↔ X = 0:=by
    rw [HX.out]
    exact ⟨fun h=>by rw [h];rfl,fun h=>UInt8.toNat_inj.1 h⟩
   by_cases hA:0 < k ∧ X = 0
   ·have hst:=HSt.out
    rw [if_pos (.inl ⟨hA.1,hx0.2 hA.2⟩)] at hst
    have HRes:=hid hst
    obtain ⟨hA1,hA2⟩:=hA
    subst hA2
    clear HSt hst hx0
    go_wp2
    go_ret3
    exact ⟨by rw [HRes.out];rfl,HB.out⟩
   ·by_cases hBc:k = 9 ∧ 1 < X
    ·have hst:=HSt.out
     rw [if_pos (.inr ⟨hBc.1,by rw [← HX.out];exact hBc.2⟩)] at hst
     have HRes:=hid hst
     obtain ⟨hB1,hB2⟩:=hBc
     subst hB1
     have d1:((X:Int) == 0) = false:=by rw [beq_eq_false_iff_ne];omega
     clear HSt hst hx0
     go_wp2
     go_ret3
     exact ⟨by rw [HRes.out];rfl,HB.out⟩
    ·have hst:=HSt.out
     rw [if_neg (by rw [hx0,← HX.out];rintro (h | h);exact hA h;exact hBc h),← HX.out] at hst
     have hv:=val_form k N X hN hx8 (by omega)
     obtain ⟨V,hV⟩:∃ V,V = N + X % 128 * 2 ^ (7 * k):=⟨_,rfl⟩
     rw [← hV] at hv
     have HV:=hid hV
     clear hV
     by_cases hC:X < 128
     ·rw [if_pos hC] at hst
      have hst2:getV 0 0 l = (V,k + 1,0):=by rw [hst,HV.out,Nat.mod_eq_of_lt hC]
      have HRes:=hid hst2
      clear HSt hst hst2 hx0
      by_cases hk9':k = 9
      ·subst hk9'
       rw [show (2:Int) ^ (7 * 9) = 9223372036854775808 from by decide] at hv
       go_wp2
       go_ret3
       exact ⟨by rw [HRes.out];rfl,HB.out⟩
      ·go_wp2
       all_goals go_ret3
       all_goals exact ⟨by rw [HRes.out];rfl,HB.out⟩
     ·rw [if_neg hC] at hst
      have hk8:k < 9:=by omega
      have HSt2:=hid hst
      have hVb:V < 2 ^ (7 * (k + 1)):=by
       rw [HV.out,show 7 * (k + 1) = 7 * k + 7 by omega,Nat.pow_add]
       have h1:X % 128 * 2 ^ (7 * k) ≤ 127 * 2 ^ (7 * k):=Nat.mul_le_mul_right _ (by omega)
       generalize X % 128 * 2 ^ (7 * k) = Z at h1 ⊢
       generalize 2 ^ (7 * k) = P at hN h1 ⊢
       omega
      have HVb:=hid hVb
      clear HSt hst hx0 hVb
      rw [← HV.out] at HSt2
      go_wp2
      all_goals exact ⟨⟨k + 1,V,by omega,by omega,by go_num,rfl,HVb.out,HSt2.out,HB.out⟩,by simp [intOf];omega⟩
  ·obtain rfl:k = m:=by omega
   have hst:getV 0 0 l = (0,0,5):=by rw [HG.out,← Hl.out,List.drop_length,getV]
   have HRes:=hid hst
   clear hst
   go_wp2
   go_ret3
   exact ⟨by rw [HRes.out];rfl,HB.out⟩
def getT (l:List UInt8):List UInt8 × Nat × Int :=
 if (getV 0 0 l).2.2 ≠ 0 then ([],0,(getV 0 0 l).2.2) else if l.length - (getV 0 0 l).2.1 < (getV 0 0 l).1 then ([],0,5) else ((l.drop (getV 0 0 l).2.1).take (getV 0 0 l).1,(getV 0 0 l).2.1 + (getV 0 0 l).1,0)
theorem getV_took:∀ (l:List UInt8) (n i:Nat),(getV n i l).2.2 = 0 → (getV n i l).2.1 ≤ i + l.length ∧ i < (getV n i l).2.1
 | [],_,_,h=>by simp [getV] at h
 | c :: r,n,i,h=>by
  rw [getV] at h ⊢
  split at h
  ·simp at h
  ·split at h
   ·rename_i h1 h2
    rw [if_neg h1,if_pos h2]
    simp
   ·rename_i h1 h2
    rw [if_neg h1,if_neg h2]
    have:=getV_took r _ _ h
    rw [List.length_cons]
    omega
theorem getV_lt:∀ (l:List UInt8) (n i:Nat),n < 2 ^ (7 * i) → i ≤ 9 → (getV n i l).1 < 18446744073709551616
 | [],_,_,_,_=>by simp [getV]
 | c :: r,n,i,hn,hi=>by
  have hp:(2:Nat) ^ (7 * i) ≤ 2 ^ (7 * 9):=Nat.pow_le_pow_right (by decide) (by omega)
  rw [getV]
  split
  ·simp
  ·rename_i h1
   have hc:=c.toNat_lt
   split
   ·rename_i h2
    by_cases h9:i = 9
    ·have:c.toNat ≤ 1:=by omega
     have h3:c.toNat * 2 ^ (7 * i) ≤ 1 * 2 ^ (7 * i):=Nat.mul_le_mul_right _ this
     have h4:(2:Nat) ^ (7 * 9) = 9223372036854775808:=by decide
     show n + c.toNat * 2 ^ (7 * i) < _
     omega
    ·have h5:(2:Nat) ^ (7 * i) ≤ 2 ^ (7 * 8):=Nat.pow_le_pow_right (by decide) (by omega)
     have h3:c.toNat * 2 ^ (7 * i) ≤ 127 * 2 ^ (7 * 8):=Nat.mul_le_mul (by omega) h5
     have h4:127 * (2:Nat) ^ (7 * 8) = 9151314442816847872:=by decide
     have h6:(2:Nat) ^ (7 * 9) = 9223372036854775808:=by decide
     show n + c.toNat * 2 ^ (7 * i) < _
     omega
   ·rename_i h2
    have h9:i < 9:=by omega
    refine getV_lt r _ _ ?_ (by omega)
    rw [show 7 * (i + 1) = 7 * i + 7 by omega,Nat.pow_add]
    have h1:c.toNat % 128 * 2 ^ (7 * i) ≤ 127 * 2 ^ (7 * i):=Nat.mul_le_mul_right _ (by omega)
    generalize c.toNat % 128 * 2 ^ (7 * i) = Z at h1 ⊢
    generalize 2 ^ (7 * i) = P at hn h1 ⊢
    omega
set_option maxRecDepth 100000 in
set_option maxHeartbeats 1000000 in
theorem vtext_any (q:Option Addr) (m c:Nat) (l:List UInt8) (w:World) (hl:l.length = m) (hc:m ≤ c) (hcm:c ≤ 9223372036854775806) (hr:Rd w q (l.map bv)) :
  Calls Tryz.prog 123 #[.slice q m c] w fun e w'=>e = .returned (.tuple #[.string ⟨(getT l).1.toArray⟩,.int .i64 ((getT l).2.1:Int),.int .i64 (getT l).2.2]) ∧ Below w.heap.size w w':=by
 have HG:=hid (vget_any q m c l w hl (by omega) hr)
 obtain ⟨N,hN⟩:∃ N,N = (getV 0 0 l).1:=⟨_,rfl⟩
 obtain ⟨T,hT⟩:∃ N,N = (getV 0 0 l).2.1:=⟨_,rfl⟩
 obtain ⟨E,hE⟩:∃ N,N = (getV 0 0 l).2.2:=⟨_,rfl⟩
 have htk:=getV_took l 0 0
 have hnl:=getV_lt l 0 0 (by decide) (by decide)
 have hgt:getT l = if E ≠ 0 then ([],0,E) else if l.length - T < N then ([],0,5) else ((l.drop T).take N,T + N,0):=by unfold getT;rw [hN,hT,hE]
 rw [← hN,← hT,← hE] at HG
 rw [← hE,← hT] at htk
 rw [← hN] at hnl
 have Hl:=hid hl
 have Hr:=hid hr
 have HGt:=hid hgt
 clear hl hr hN hT hE hgt
 go_enter Tryz.func123,Tryz.ntmps123
 go_wp2_with fail
 refine HG.out.mono ?_
 rintro e w1 ⟨rfl,hb1⟩
 have HB1:=hid hb1
 clear HG hb1
 by_cases hE:E = 0
 ·subst hE
  obtain ⟨t1,t2⟩:=htk rfl
  rw [Hl.out] at t1
  have s1:IntKind.u64.wrap ((m:Int) - (T:Int)) = ((m - T:Nat):Int):=by rw [IntKind.wrap_u64];omega
  by_cases hs:m - T < N
  ·have hst:=HGt.out
   rw [if_neg (by simp),Hl.out,if_pos hs] at hst
   have HRes:=hid hst
   have d1:¬ N ≤ m - T:=by omega
   clear hst HGt htk
   go_wp2
   go_ret3
   exact ⟨by rw [HRes.out];rfl,HB1.out⟩
  ·have hst:=HGt.out
   rw [if_neg (by simp),Hl.out,if_neg hs] at hst
   have HRes:=hid hst
   have d1:N ≤ m - T:=by omega
   clear hst HGt htk
   obtain ⟨b,off,rfl, -⟩:=Hr.out.cell (k:=0) (by rw [List.length_map,Hl.out];omega)
   obtain ⟨S,hS⟩:∃ S:ByteArray,S = ⟨((l.drop T).take N).toArray⟩:=⟨_,rfl⟩
   by_cases hcT:c = T
   ·have hN0:N = 0:=by omega
    subst hN0
    subst hcT
    have hcv:=convB w1 (some ⟨b,off,none⟩) 0 0 [] rfl (.inl rfl)
    have HS:=hid (show S = ⟨#[]⟩ by rw [hS];simp)
    clear hS
    go_wp2
    go_ret3
    exact ⟨by rw [HRes.out];rfl,HB1.out⟩
   ·have hcv:=convB w1 (some ⟨b,off + T,none⟩) N (c - T) ((l.drop T).take N) (by rw [List.length_take,List.length_drop,Hl.out];omega) (by rw [List.map_take,List.map_drop];exact ((Hr.out.below HB1.out).drop T).take N)
    rw [← hS] at hcv
    have HS:=hid hS
    clear hS
    go_wp2
    go_ret3
    exact ⟨by rw [HRes.out];show _ = Ending.returned (.tuple #[.string ⟨((l.drop T).take N).toArray⟩,_,_]);rw [← HS.out];rfl,HB1.out⟩
 ·have hst:=HGt.out
  rw [if_pos hE] at hst
  have HRes:=hid hst
  have d1:(E != 0) = true:=by simpa using hE
  clear hst HGt htk
  go_wp2
  go_ret3
  exact ⟨by rw [HRes.out];rfl,HB1.out⟩
end Go.Proofs.Herb
namespace Go.Proofs.Herb
open Go.RowKit
theorem or4_u32 (x0 x1 x2 x3:UInt8):bits .or .u32 (bits .or .u32 (bits .or .u32 (x0.toNat:Int) ((x1.toNat:Int) * 256)) ((x2.toNat:Int) * 65536)) ((x3.toNat:Int) * 16777216) = ((x0.toNat + 256 * x1.toNat + 65536 * x2.toNat + 16777216 * x3.toNat:Nat):Int):=by
 have h0:=x0.toNat_lt
 have h1:=x1.toNat_lt
 have h2:=x2.toNat_lt
 have h3:=x3.toNat_lt
 rw [show ((x1.toNat:Int) * 256) = ((256 * x1.toNat:Nat):Int) by omega,u32_or_nat _ _ (by omega) (by omega),Nat.or_comm,nat_join 8 _ _ (by omega) (by omega)]
 rw [show ((x2.toNat:Int) * 65536) = ((65536 * x2.toNat:Nat):Int) by omega,u32_or_nat _ _ (by omega) (by omega),Nat.or_comm,nat_join 16 _ _ (by omega) (by omega)]
 rw [show ((x3.toNat:Int) * 16777216) = ((16777216 * x3.toNat:Nat):Int) by omega,u32_or_nat _ _ (by omega) (by omega),Nat.or_comm,nat_join 24 _ _ (by omega) (by omega)]
 congr 1
 omega
set_option maxRecDepth 100000 in
set_option maxHeartbeats 1000000 in
theorem numU_any (q:Option Addr) (m c:Nat) (l:List UInt8) (w:World) (hl:l.length = m) (h4:4 ≤ m) (hr:Rd w q (l.map bv)) :
  Calls Tryz.prog 133 #[.slice q m c] w fun e w'=>e = .returned (.int .u32 (num4 l 0:Int)) ∧ Below w.heap.size w w':=by
 obtain ⟨b,off,rfl, -⟩:=hr.cell (k:=0) (by rw [List.length_map];omega)
 have c0:=rd_num hr (a:=0) (by omega)
 have c1:=rd_num hr (a:=1) (by omega)
 have c2:=rd_num hr (a:=2) (by omega)
 have c3:=rd_num hr (a:=3) (by omega)
 rw [Nat.add_zero] at c0
 have hn:num4 l 0 = ((l[0]?).getD 0).toNat + 256 * ((l[1]?).getD 0).toNat + 65536 * ((l[2]?).getD 0).toNat + 16777216 * ((l[3]?).getD 0).toNat:=rfl
 rw [hn]
 generalize (l[0]?).getD 0 = x0 at *
 generalize (l[1]?).getD 0 = x1 at *
 generalize (l[2]?).getD 0 = x2 at *
 generalize (l[3]?).getD 0 = x3 at *
 have hf:=or4_u32 x0 x1 x2 x3
 have i0:(0:Int) < (m:Int):=by omega
 have i1:(1:Int) < (m:Int):=by omega
 have i2:(2:Int) < (m:Int):=by omega
 have i3:(3:Int) < (m:Int):=by omega
 have h0:=x0.toNat_lt
 have h1:=x1.toNat_lt
 have h2:=x2.toNat_lt
 have h3:=x3.toNat_lt
 have k:∀ x:Int,0 ≤ x ∧ x < 4294967296 → IntKind.u32.wrap x = x:=fun x hx=>by rw [IntKind.wrap_u32];omega
 have k0:=k (x0.toNat:Int) (by omega)
 have k1:=k (x1.toNat:Int) (by omega)
 have k2:=k (x2.toNat:Int) (by omega)
 have k3:=k (x3.toNat:Int) (by omega)
 have k4:=k ((x1.toNat:Int) * 256) (by omega)
 have k5:=k ((x2.toNat:Int) * 65536) (by omega)
 have k6:=k ((x3.toNat:Int) * 16777216) (by omega)
 clear hr hl hn h0 h1 h2 h3 k
 go_enter Tryz.func133,Tryz.ntmps133
 go_upto_region 1 with (fail)
 go_quiet (fail)
 go_wp2
 go_ret
 refine ⟨?_,below_drewN (Below.refl _ _) nq⟩
 have e:((x0.toNat:Int) + 256 * (x1.toNat:Int) + 65536 * (x2.toNat:Int) + 16777216 * (x3.toNat:Int)) = ((x0.toNat + 256 * x1.toNat + 65536 * x2.toNat + 16777216 * x3.toNat:Nat):Int):=by omega
 show Ending.returned (.int .u32 ((x0.toNat:Int) + 256 * (x1.toNat:Int) + 65536 * (x2.toNat:Int) + 16777216 * (x3.toNat:Int))) = _
 rw [e]
def openB (l:List UInt8):Int × Nat :=
 if l.length < 12 then (5,0) else if num4 l (l.length - 4) ≠ (crcMore 0 (l.take (l.length - 4))).toNat then (6,0) else if 65536 < l.length then (4,0)
 else if num4 l (l.length - 8) = 0 ∨ (l.length - 8) / 4 < num4 l (l.length - 8) then (4,0) else (0,l.length - 8 - 4 * num4 l (l.length - 8))
theorem infoBlk:(Tryz.prog.info? 155).map (·.size) = some 2:=by kernel_rfl
theorem open_results {tmps:Array Value} {w:World} {B:Nat} {u v:Value} {e:Int} (h2:tmps.getD 2 undef = .pointer (some ⟨B,0,none⟩)) (h3:tmps.getD 3 undef = .int .i64 e) (g:w.heap[B]? = some (.cells #[u,v] 155 (0,0))) :
  (results Tryz.f125 tmps).run Tryz.prog w = .ok (.tuple #[.agg #[u,v],.int .i64 e]) w:=by
 have r2:=run_loadVar_row (P:=Tryz.prog) w B _ 155 #[u,v] (0,0) _ g Tryz.underlying155 rfl infoBlk
 have hr:(Tryz.f125).results = #[.cell 2 155,.tmp 3]:=rfl
 simp [results,asAddr] at h2 h3 ⊢
 simp [h2,h3,r2]
def zBlk:Array Value := #[.slice none 0 0,.slice none 0 0]
set_option maxRecDepth 100000 in
set_option maxHeartbeats 2000000 in
theorem opened_any (q:Option Addr) (m c:Nat) (l:List UInt8) (w:World) (hl:l.length = m) (hc:m ≤ c) (hcm:c ≤ maxLen) (hm:m ≤ 4194304) (hr:Rd w q (l.map bv)) :
  Calls Tryz.prog 125 #[.slice q m c] w fun e w'=>Below w.heap.size w w' ∧ (((openB l).1 ≠ 0 ∧ e = .returned (.tuple #[.agg zBlk,.int .i64 (openB l).1])) ∨
   ((openB l).1 = 0 ∧ (∃ v,e = .returned (.tuple #[.agg #[.slice q (openB l).2 (openB l).2,v],.int .i64 0]) ∧ v.oneCell' = true) ∧ (openB l).2 ≤ m)):=by
 unfold maxLen at hcm
 have Hl:=hid hl
 have Hr:=hid hr
 clear hl hr
 go_enter Tryz.func125,Tryz.ntmps125
 have hrow0:(w.alloc (.cells zBlk 155)).heap[w.heap.size]? = some (.cells zBlk 155 (0,0)):=heap_alloc_new _ _
 have hb0:Below w.heap.size w (w.alloc (.cells zBlk 155)):=(Below.refl _ _).alloc (Nat.le_refl _) _
 have HRow0:=hid hrow0
 have HB0:=hid hb0
 clear hrow0 hb0
 have err:∀ (W:World) (x:Int) (tmps:Array Value),(openB l).1 = x → x ≠ 0 → tmps.getD 2 undef = .pointer (some ⟨w.heap.size,0,none⟩) → tmps.getD 3 undef = .int .i64 x → W.heap[w.heap.size]? = some (.cells zBlk 155 (0,0)) → Below w.heap.size w W →
   bodyPost Tryz.prog Tryz.f125 (fun e w'=>Below w.heap.size w w' ∧ (((openB l).1 ≠ 0 ∧ e = .returned (.tuple #[.agg zBlk,.int .i64 (openB l).1])) ∨
   ((openB l).1 = 0 ∧ (∃ v,e = .returned (.tuple #[.agg #[.slice q (openB l).2 (openB l).2,v],.int .i64 0]) ∧ v.oneCell' = true) ∧ (openB l).2 ≤ m))) .ret { tmps:=tmps,defers:=[] } W:=by
  intro W x tmps h1 h2 h3 h4 h5 h6
  refine bodyPost_ret (open_results h3 h4 h5) rfl ?_
  exact ⟨h6,.inl ⟨by rw [h1];exact h2,by rw [h1];rfl⟩⟩
 have Err:=hid err
 clear err
 by_cases h12:m < 12
 ·have hop:openB l = (5,0):=by unfold openB;rw [Hl.out,if_pos h12]
  have HOp:=hid hop
  have d0:decide (((m:Int) - 4) < 8) = true:=by simp;omega
  clear hop
  go_wp2
  exact Err.out _ 5 _ (by rw [HOp.out]) (by decide) rfl rfl HRow0.out HB0.out
 ·have d0:decide (((m:Int) - 4) < 8) = false:=by simp;omega
  obtain ⟨N4,hN4⟩:∃ N,N = m - 4:=⟨_,rfl⟩
  obtain ⟨N8,hN8⟩:∃ N,N = m - 8:=⟨_,rfl⟩
  obtain ⟨S1,hS1⟩:∃ N,N = num4 l N4:=⟨_,rfl⟩
  obtain ⟨C1,hC1⟩:∃ N,N = (crcMore 0 (l.take N4)).toNat:=⟨_,rfl⟩
  obtain ⟨M,hM⟩:∃ N,N = num4 l N8:=⟨_,rfl⟩
  have hop:openB l = if S1 ≠ C1 then (6,0) else if 65536 < m then (4,0) else if M = 0 ∨ N8 / 4 < M then (4,0) else (0,N8 - 4 * M):=by
   unfold openB
   rw [Hl.out,if_neg h12,hS1,hC1,hM,hN4,hN8]
  have HOp:=hid hop
  have hS1l:=num4_lt l N4
  have hMl:=num4_lt l N8
  rw [← hS1] at hS1l
  rw [← hM] at hMl
  obtain ⟨b,off,rfl, -⟩:=Hr.out.cell (k:=0) (by rw [List.length_map,Hl.out];omega)
  have hd:∀ k,num4 (l.drop k) 0 = num4 l k:=fun k=>by
   unfold num4
   simp only [List.getElem?_drop,Nat.zero_add,Nat.add_zero]
  have e1:(m:Int) - 4 = (N4:Int):=by omega
  have e2:(N4:Int) - 4 = (N8:Int):=by omega
  have i1:(0:Int) ≤ (N4:Int):=by omega
  have i2:(N4:Int) ≤ (m:Int):=by omega
  have i3:(N4:Int) ≤ (c:Int):=by omega
  have i4:(0:Int) ≤ (N8:Int):=by omega
  have i5:(N8:Int) ≤ (m:Int):=by omega
  have d0':decide ((N4:Int) < 8) = false:=by simp;omega
  have HNum:=hid (fun (W:World) (hb:Below w.heap.size w W)=>numU_any (some ⟨b,off + N4,none⟩) (m - N4) (c - N4) (l.drop N4) W (by rw [List.length_drop,Hl.out]) (by omega) (by rw [List.map_drop];exact (Hr.out.below hb).drop N4))
  have HSum:=hid (fun (W:World) (hb:Below w.heap.size w W)=>of_any (some ⟨b,off,none⟩) N4 c (l.take N4) W (by rw [List.length_take,Hl.out];omega) (by omega) (by rw [List.map_take];exact (Hr.out.below hb).take N4))
  have HNu2:=hid (fun (W:World) (hb:Below w.heap.size w W)=>numU_any (some ⟨b,off + N8,none⟩) (m - N8) (c - N8) (l.drop N8) W (by rw [List.length_drop,Hl.out]) (by omega) (by rw [List.map_drop];exact (Hr.out.below hb).drop N8))
  rw [hd,← hS1] at HNum
  rw [← hC1] at HSum
  rw [hd,← hM] at HNu2
  have HN4:=hid hN4
  have HN8:=hid hN8
  obtain ⟨CC,hCC⟩:∃ CC:World → Prop,CC = fun w'=>Below w.heap.size w w' ∧ w'.heap[w.heap.size]? = some (.cells zBlk 155 (0,0)):=⟨_,rfl⟩
  have hNum:∀ w',CC w' → Calls Tryz.prog 133 #[.slice (some ⟨b,off + N4,none⟩) (m - N4) (c - N4)] w' fun e w''=>e = .returned (.int .u32 (S1:Int)) ∧ CC w'':=fun w' h=>by
   rw [hCC] at h
   refine (HNum.out w' h.1).mono ?_
   rintro e w'' ⟨h1,h2⟩
   rw [hCC]
   exact ⟨h1,h.1.trans (h2.mono h.1.size),(h2.block _ (lt_of_block h.2)).trans h.2⟩
  have hSum:∀ w',CC w' → Calls Tryz.prog 52 #[.slice (some ⟨b,off,none⟩) N4 c] w' fun e w''=>e = .returned (.int .u32 (C1:Int)) ∧ CC w'':=fun w' h=>by
   rw [hCC] at h
   refine (HSum.out w' h.1).mono ?_
   rintro e w'' ⟨h1,h2⟩
   rw [hCC]
   exact ⟨h1,h.1.trans (h2.mono h.1.size),(h2.block _ (lt_of_block h.2)).trans h.2⟩
  have HC1:=hid hNum
  have HC2:=hid hSum
  have HCC:=hid hCC
  clear hop hN4 hN8 hS1 hC1 hM hd hNum hSum hCC HNum HSum h12
  go_upto_region 4 with (fail)
  have CD:CC { (w.alloc (.cells zBlk 155)) with drawn:=(w.alloc (.cells zBlk 155)).drawn + 1 }:=by rw [HCC.out];exact ⟨HB0.out.drew,HRow0.out⟩
  unfold zBlk at CD
  refine region_quiet_c (C:=CC) (by kernel_rfl) (by kernel_rfl) CD ?_
  repeat (go_big_quiet_step ((intro hw';first | (with_reducible exact rfl) | (go_at_call 133;exact HC1.out _ hw') | (go_at_call 52;exact HC2.out _ hw'))))
  refine wpQuiet_nil ?_
  intro w1 hw1
  rw [HCC.out] at hw1
  have HB1:=hid hw1.1
  have hrow1:=hw1.2
  have HRow1:=hid hrow1
  unfold zBlk at hrow1
  have hs1:=hw1.1.size
  have x0:w1.cell? ⟨w.heap.size,0,none⟩ = some (.slice none 0 0):=(cell_of_row w1 _ 0 _ _ _ hrow1).trans rfl
  have x1:w1.cell? ⟨w.heap.size,1,none⟩ = some (.slice none 0 0):=(cell_of_row w1 _ 1 _ _ _ hrow1).trans rfl
  have hbl:∀ W:World,Below w1.heap.size w1 W → W.heap[w.heap.size]? = some (.cells zBlk 155 (0,0)):=fun W hb=>(hb.block _ (lt_of_block HRow1.out)).trans HRow1.out
  have HBl:=hid hbl
  clear hw1 CD HC1 HC2 HCC hbl
  by_cases hS:S1 = C1
  ·have b1:((S1:Int) != (C1:Int)) = false:=by rw [hS];simp
   have hop2:=HOp.out
   rw [if_neg (by simp [hS])] at hop2
   have HOp2:=hid hop2
   clear HOp hop2 hS
   by_cases hbig:65536 < m
   ·have d1:decide ((65536:Int) < (m:Int)) = true:=by simp;omega
    have hop3:=HOp2.out
    rw [if_pos hbig] at hop3
    have HOp3:=hid hop3
    clear HOp2 hop3
    go_wp2_with (refine wpList_store_block rfl 155 _ _ rfl _ _ _ _ rfl rfl HRow1.out rfl infoBlk (by simp [Value.oneCell']) ?_)
    exact Err.out _ 4 _ (by rw [HOp3.out]) (by decide) rfl rfl (setRow_heap _ _ _ zBlk _ _ HRow1.out) (below_setRow HB1.out (Nat.le_refl _) _)
   ·have d1:decide ((65536:Int) < (m:Int)) = false:=by simp;omega
    have hop3:=HOp2.out
    rw [if_neg hbig] at hop3
    have HOp3:=hid hop3
    clear HOp2 hop3
    go_wp2_with fail
    refine (HNu2.out w1 HB1.out).mono ?_
    rintro e w2 ⟨rfl,hb2⟩
    have HB2:=hid (HB1.out.trans (hb2.mono hs1))
    have hrow2:=HBl.out w2 hb2
    have HRow2:=hid hrow2
    unfold zBlk at hrow2
    have y0:w2.cell? ⟨w.heap.size,0,none⟩ = some (.slice none 0 0):=(cell_of_row w2 _ 0 _ _ _ hrow2).trans rfl
    have y1:w2.cell? ⟨w.heap.size,1,none⟩ = some (.slice none 0 0):=(cell_of_row w2 _ 1 _ _ _ hrow2).trans rfl
    have q1:IntKind.u64.wrap (M:Int) = (M:Int):=by rw [IntKind.wrap_u64];omega
    obtain ⟨Q,hQ⟩:∃ Q,Q = N8 / 4:=⟨_,rfl⟩
    have q2:(N8:Int) / 4 = (Q:Int):=by omega
    have q4:IntKind.u64.wrap (Q:Int) = (Q:Int):=by rw [IntKind.wrap_u64];omega
    have q5:IntKind.i64.wrap (Q:Int) = (Q:Int):=IntWalk.i64_in _ (by omega)
    have hop3:=HOp3.out
    rw [← hQ] at hop3
    have HOp3:=hid hop3
    have HQ:=hid hQ
    have hQ8:Q ≤ 1100000:=by omega
    clear hop3 hQ
    clear hb2 hrow2 HNu2 HBl
    by_cases hM0:M = 0
    ·subst hM0
     have hop4:=HOp3.out
     rw [if_pos (.inl rfl)] at hop4
     have HOp4:=hid hop4
     clear HOp3 hop4
     go_wp2_with (refine wpList_store_block rfl 155 _ _ rfl _ _ _ _ rfl rfl HRow2.out rfl infoBlk (by simp [Value.oneCell']) ?_)
     exact Err.out _ 4 _ (by rw [HOp4.out]) (by decide) rfl rfl (setRow_heap _ _ _ zBlk _ _ HRow2.out) (below_setRow HB2.out (Nat.le_refl _) _)
    ·by_cases hMb:Q < M
     ·have hop4:=HOp3.out
      rw [if_pos (.inr hMb)] at hop4
      have HOp4:=hid hop4
      have d2:((M:Int) == 0) = false:=by rw [beq_eq_false_iff_ne];omega
      have d3:¬ M ≤ Q:=by omega
      have d4:decide ((Q:Int) < (M:Int)) = true:=by simp;omega
      clear HOp3 hop4
      go_wp2_with (refine wpList_store_block rfl 155 _ _ rfl _ _ _ _ rfl rfl HRow2.out rfl infoBlk (by simp [Value.oneCell']) ?_)
      exact Err.out _ 4 _ (by rw [HOp4.out]) (by decide) rfl rfl (setRow_heap _ _ _ zBlk _ _ HRow2.out) (below_setRow HB2.out (Nat.le_refl _) _)
     ·have hop4:=HOp3.out
      rw [if_neg (by omega)] at hop4
      have HOp4:=hid hop4
      have d2:((M:Int) == 0) = false:=by rw [beq_eq_false_iff_ne];omega
      have d3:M ≤ Q:=by omega
      have d4:decide ((Q:Int) < (M:Int)) = false:=by simp;omega
      obtain ⟨B,hB⟩:∃ B,B = N8 - 4 * M:=⟨_,rfl⟩
      rw [← hB] at HOp4
      have q3:(N8:Int) - 4 * (M:Int) = (B:Int):=by have:=HQ.out;omega
      have j1:(0:Int) ≤ (B:Int):=by omega
      have j2:(B:Int) ≤ (N8:Int):=by omega
      have j3:(N8:Int) ≤ (c:Int):=by omega
      have j4:(B:Int) ≤ (c:Int):=by omega
      have j5:B < N8:=by have:=HQ.out;omega
      have j6:(B:Int) < (N8:Int):=by omega
      have j7:(N8:Int) - (B:Int) = ((N8 - B:Nat):Int):=by omega
      clear HOp3 hop4 hB
      go_upto_region 13 with (fail)
      refine wp_region_still_tail 10 (by kernel_rfl) (by kernel_rfl) ?_
      simp only [List.take_succ_cons,List.take_zero,List.drop_succ_cons,List.drop_zero]
      change wpStill Tryz.prog _ w2.drew (fun a'=>wpList _ _ _ _ a' w2.drew) _ _
      obtain ⟨w3,hw3⟩:∃ x,x = w2.drew:=⟨_,rfl⟩
      have hb3:Below w2.heap.size w2 w3:=by rw [hw3];exact (Below.refl _ _).drew
      have HB3:=hid (HB2.out.trans (hb3.mono HB2.out.size))
      have HRow3:=hid ((hb3.block _ (lt_of_block HRow2.out)).trans HRow2.out)
      rw [← hw3]
      clear hw3 hb3
      repeat still_step
      try refine wpStill_nil ?_
      go_wp2_with (refine wpList_store_block rfl 155 _ _ rfl _ _ _ _ rfl rfl HRow3.out rfl infoBlk (by simp [Value.oneCell']) ?_)
      refine bodyPost_ret (open_results rfl rfl (setRow_heap _ _ _ #[.slice (some ⟨b,off,none⟩) B B,.slice (some ⟨b,off + B,none⟩) (N8 - B) (N8 - B)] _ _ HRow3.out)) rfl ?_
      rw [HOp4.out]
      refine ⟨below_setRow HB3.out (Nat.le_refl _) _,Or.inr ⟨rfl,⟨_,rfl,rfl⟩, ?_⟩⟩
      ·show B ≤ m
       omega
  ·have b1:((S1:Int) != (C1:Int)) = true:=by rw [bne_iff_ne];omega
   have hop2:=HOp.out
   rw [if_pos (by simp [hS])] at hop2
   have HOp2:=hid hop2
   clear HOp hop2 hS
   go_wp2_with (refine wpList_store_block rfl 155 _ _ rfl _ _ _ _ rfl rfl HRow1.out rfl infoBlk (by simp [Value.oneCell']) ?_)
   exact Err.out _ 6 _ (by rw [HOp2.out]) (by decide) rfl rfl (setRow_heap _ _ _ zBlk _ _ HRow1.out) (below_setRow HB1.out (Nat.le_refl _) _)
end Go.Proofs.Herb
namespace Go.Proofs.Herb
open Go.RowKit
def nilI:Item:=⟨⟨#[]⟩,⟨#[]⟩⟩
def oneI (last:Item) (b:List UInt8):Item × Bool × List UInt8 :=
 let v:=getV 0 0 b
 let b1:=b.drop v.2.1
 let t:=getT b1
 let b2:=b1.drop t.2.1
 let u:=getT b2
 let b3:=b2.drop u.2.1
 if v.2.2 = 0 ∧ t.2.2 = 0 ∧ u.2.2 = 0 ∧ v.1 ≤ last.key.size then (⟨⟨(last.key.data.toList.take v.1 ++ t.1).toArray⟩,⟨u.1.toArray⟩⟩,true,b3) else (last,false,b3)
def parseI:Nat → Item → List UInt8 → List (Item × Bool)
 | 0,_,_=>[]
 | f + 1,last,b=>if b = [] then [] else ((oneI last b).1,(oneI last b).2.1) :: if (oneI last b).2.1 = true then parseI f (oneI last b).1 (oneI last b).2.2 else []
theorem getV_gF:∀ (f m N i:Nat) (r:List UInt8),1 ≤ f → m < 128 ^ f → i + f ≤ 10 → (0 < i → 0 < m) → (i = 9 → m ≤ 1) → (9 < i + f → m < 2 ^ (64 - 7 * i)) → getV N i ((gF f m).map byteOf ++ r) = (N + m * 2 ^ (7 * i),i + (gF f m).length,0)
 | 0,_,_,_,_,h,_,_,_,_,_=>by omega
 | f + 1,m,N,i,r,_,hm,hf,h0,h9,hb=>by
  have hb1:=byteOf_false (m % 128) (Nat.mod_lt _ (by decide))
  rw [gF,List.map_cons,List.cons_append,getV]
  by_cases hge:128 ≤ m
  ·have hc:(byteOf (m % 128,decide (128 ≤ m))).toNat = m % 128 + 128:=by
    unfold byteOf
    rw [decide_eq_true hge]
    simp only [if_true]
    rw [UInt8.toNat_ofNat']
    omega
   have hne:byteOf (m % 128,decide (128 ≤ m)) ≠ 0:=fun h=>by
    have:=congrArg UInt8.toNat h
    rw [hc] at this
    simp at this
   cases f with
   | zero=>simp at hm;omega
   | succ f =>
    have hf9:i < 9:=by omega
    rw [if_neg (by rintro (h | h);exact hne h.2;omega),if_neg (by rw [hc];omega),if_pos hge,hc]
    rw [Nat.pow_succ] at hm
    rw [getV_gF (f + 1) (m / 128) _ (i + 1) r (by omega) (Nat.div_lt_of_lt_mul (by omega)) (by omega) (fun _=>by omega) (fun h => ?_) (fun h => ?_)]
    ·have e1:(m % 128 + 128) % 128 = m % 128:=by omega
     have e2:7 * (i + 1) = 7 * i + 7:=by omega
     rw [e1,e2,Nat.pow_add,List.length_cons]
     have e3:N + m % 128 * 2 ^ (7 * i) + m / 128 * (2 ^ (7 * i) * 2 ^ 7) = N + m * 2 ^ (7 * i):=by
      have h1:m * 2 ^ (7 * i) = (m % 128 + 128 * (m / 128)) * 2 ^ (7 * i):=by rw [Nat.mod_add_div]
      rw [h1,Nat.add_mul]
      have h2:m / 128 * (2 ^ (7 * i) * 2 ^ 7) = 128 * (m / 128) * 2 ^ (7 * i):=by
       rw [show (2:Nat) ^ 7 = 128 from rfl,Nat.mul_comm (2 ^ (7 * i)) 128,← Nat.mul_assoc,Nat.mul_comm (m / 128) 128]
      omega
     rw [e3]
     simp only [Prod.mk.injEq,and_true,true_and]
     omega
    ·have h2:i = 8:=by omega
     subst h2
     obtain rfl:f = 0:=by omega
     have:=hb (by omega)
     have h3:(2:Nat) ^ (64 - 7 * 8) = 256:=by decide
     omega
    ·have h1:=hb (by omega)
     have h2:(2:Nat) ^ (64 - 7 * i) = 2 ^ (64 - 7 * (i + 1)) * 128:=by
      rw [show 64 - 7 * i = 64 - 7 * (i + 1) + 7 by omega,Nat.pow_add]
     rw [h2] at h1
     exact Nat.div_lt_of_lt_mul (by rw [Nat.mul_comm];exact h1)
  ·have hc:(byteOf (m % 128,decide (128 ≤ m))).toNat = m:=by
    rw [decide_eq_false hge]
    omega
   have hne:¬ ((0 < i ∧ byteOf (m % 128,decide (128 ≤ m)) = 0) ∨ (i = 9 ∧ 1 < (byteOf (m % 128,decide (128 ≤ m))).toNat)):=by
    rintro (⟨h1,h2⟩ | ⟨h1,h2⟩)
    ·have:=congrArg UInt8.toNat h2
     rw [hc] at this
     have h3:=h0 h1
     simp at this
     omega
    ·rw [hc] at h2
     have:=h9 h1
     omega
   rw [if_neg hne,if_pos (by rw [hc];omega),if_neg hge,hc]
   simp
theorem getV_put (n:Nat) (r:List UInt8) (hn:n < 18446744073709551616):getV 0 0 (vput n ++ r) = (n,(vput n).length,0):=by
 have h:=getV_gF 10 n 0 0 r (by decide) (Nat.lt_trans hn (by decide)) (by decide) (fun h=>by omega) (fun h=>by omega) (fun _=>hn)
 unfold vput
 rw [h,List.length_map]
 simp
theorem getT_put (s r:List UInt8) (hn:s.length < 18446744073709551616):getT (tput s ++ r) = (s,(tput s).length,0):=by
 unfold getT tput
 rw [List.append_assoc,getV_put _ _ hn]
 simp only [ne_eq,not_true,if_false]
 rw [if_neg (by simp)]
 rw [List.drop_left,List.take_left,List.length_append]
theorem parse_bUp {l:List Item} (hs:Short l):∀ (d i:Nat) (last:Item) (f:Nat),i + d = l.length → d ≤ f → (0 < i → last.key.data.toList = kAt l (i - 1)) →
  parseI f last ((bUp l l.length).drop (bUp l i).length) = (l.drop i).map fun x=>(x,true)
 | 0,i,last,f,hi,hf,hl=>by
  obtain rfl:i = l.length:=by omega
  rw [List.drop_length,List.drop_length]
  cases f <;> simp [parseI]
 | d + 1,i,last,0,hi,hf,hl=>by omega
 | d + 1,i,last,f + 1,hi,hf,hl=>by
  have hil:i < l.length:=by omega
  obtain ⟨t,ht⟩:=bUp_split l (l.length - (i + 1)) (i + 1)
  rw [show i + 1 + (l.length - (i + 1)) = l.length by omega] at ht
  have e1:(bUp l l.length).drop (bUp l i).length = itB l i ++ t:=by rw [ht,bUp_succ,List.append_assoc,List.drop_left]
  have e2:(bUp l l.length).drop (bUp l (i + 1)).length = t:=by rw [ht,List.drop_left]
  have hne:itB l i ++ t ≠ []:=fun h=>itB_ne l i (List.append_eq_nil_iff.1 h).1
  have hk:=hs.k i
  have hsh:=shAt_le l i
  have hone:oneI last (itB l i ++ t) = (l[i],true,t):=by
   unfold itB
   simp only [List.append_assoc]
   unfold oneI
   rw [getV_put _ _ (Nat.lt_of_le_of_lt hsh hk.1)]
   simp only [List.drop_left]
   rw [getT_put _ _ (by rw [List.length_drop];exact Nat.lt_of_le_of_lt (Nat.sub_le _ _) hk.1)]
   simp only [List.drop_left]
   rw [getT_put _ _ hk.2]
   simp only [List.drop_left,true_and]
   have hlast:shAt l i ≤ last.key.size ∧ last.key.data.toList.take (shAt l i) = (kAt l (i - 1)).take (shAt l i):=by
    by_cases h0:i = 0
    ·subst h0
     have:shAt l 0 = 0:=rfl
     rw [this];simp
    ·rw [← hl (by omega)]
     refine ⟨?_,rfl⟩
     unfold shAt
     split
     ·exact Nat.zero_le _
     ·have:=(comL_le (kAt l (i - 1)) (kAt l i)).1
      rw [← hl (by omega),size_toList] at this
      rw [← hl (by omega)];exact this
   rw [if_pos hlast.1,hlast.2,← kAt_sh]
   refine Prod.ext (item_ext ?_ ?_) rfl
   ·rw [kAt_get hil]
   ·rw [vAt_get hil]
  have hd:l.drop i = l[i] :: l.drop (i + 1):=List.drop_eq_getElem_cons hil
  rw [e1,parseI,if_neg hne,hone]
  simp only [if_true]
  rw [hd,List.map_cons,← e2,parse_bUp hs d (i + 1) l[i] f (by omega) (by omega) (fun _=>by rw [Nat.add_sub_cancel,kAt_get hil])]
theorem open_bAll {l:List Item} (h0:0 < l.length) (hb:(bAll l).length ≤ 65536):openB (bAll l) = (0,(bUp l l.length).length):=by
 have hl:=bAll_len l
 have hp:=pUp_len l l.length
 have hbb:(bBody l).length = (bUp l l.length).length + (pUp l l.length).length + 4:=by unfold bBody;simp only [List.length_append,le4_len]
 have h4:(bAll l).length - 4 = (bBody l).length:=by omega
 have ht:(bAll l).take ((bAll l).length - 4) = bBody l:=by rw [h4];unfold bAll;exact List.take_left' rfl
 have hn1:num4 (bAll l) ((bAll l).length - 4) = (crcMore 0 (bBody l)).toNat:=by
  rw [h4]
  have:=num4_le4 (crcMore 0 (bBody l)).toNat (crcMore 0 (bBody l)).isLt (bBody l) []
  rw [List.append_nil] at this
  exact this
 have hn2:num4 (bAll l) ((bAll l).length - 8) = (l.length + 3) / 4:=by
  have e:(bAll l).length - 8 = (bUp l l.length ++ pUp l l.length).length:=by rw [List.length_append];omega
  rw [e]
  have:=num4_le4 ((pUp l l.length).length / 4) (by omega) (bUp l l.length ++ pUp l l.length) (le4 (crcMore 0 (bBody l)).toNat)
  have e2:bAll l = bUp l l.length ++ pUp l l.length ++ (le4 ((pUp l l.length).length / 4) ++ le4 (crcMore 0 (bBody l)).toNat):=by
   unfold bAll
   conv=>lhs;lhs;unfold bBody
   simp only [List.append_assoc]
  rw [e2,this,hp]
  omega
 unfold openB
 rw [if_neg (by omega),hn1,ht,if_neg (by simp),if_neg (by omega),hn2,if_neg (by omega)]
 congr 1
 omega
end Go.Proofs.Herb
