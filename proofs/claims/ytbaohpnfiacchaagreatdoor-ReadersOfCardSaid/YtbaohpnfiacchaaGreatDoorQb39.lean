/- ReadersOf's walk. For bytes that can be read and worlds in which the library's table of powers of ten reads as it was laid. -/
import Derived.Test.YtbaohpnfiacchaaGreatDoorQb26
import Derived.Test.YtbaohpnfiacchaaGreatDoorQb27
import Derived.Test.YtbaohpnfiacchaaGreatDoorQb28
import Derived.Test.YtbaohpnfiacchaaGreatDoorQb37
import Derived.Test.YtbaohpnfiacchaaGreatDoorQb38
namespace Go.Proofs.Herb
open Go.RowKit
theorem from_some (r:Rdr) (s:ByteArray):∀ cs:List Chk,∃ (l:List Fact) (b:Bool),FromR r s cs (l.map (fun f=>(f,0)) ++ (if b = true then [(zFact,13)] else []))
 | []=>⟨[],false,rfl⟩
 | c :: cs=>by
  by_cases h:∃ fs,ChkOf r c fs
  ·obtain ⟨fs,hf⟩:=h
   obtain ⟨l,b,hl⟩:=from_some r s cs
   refine ⟨fs.filter (fun f => !bL (kput f) s.data.toList) ++ l,b,.inl ⟨fs,_,hf,hl, ?_⟩⟩
   unfold keepS
   rw [List.map_append,List.append_assoc]
  ·exact ⟨[],true,.inr ⟨h,rfl⟩⟩
theorem from_inj:∀ {l k:List Fact} {b d:Bool},l.map (fun f=>(f,(0:Int))) ++ (if b = true then [(zFact,(13:Int))] else []) = k.map (fun f=>(f,(0:Int))) ++ (if d = true then [(zFact,(13:Int))] else []) → l = k ∧ b = d
 | [],[],b,d,h=>by cases b <;> cases d <;> simp at h <;> exact ⟨rfl,rfl⟩
 | [],y :: k,b,d,h=>by
  cases b <;> simp at h
 | x :: l,[],b,d,h=>by
  cases d <;> simp at h
 | x :: l,y :: k,b,d,h=>by
  simp only [List.map_cons,List.cons_append,List.cons.injEq,Prod.mk.injEq,and_true] at h
  obtain ⟨h1,h2⟩:=from_inj h.2
  exact ⟨by rw [h.1,h1],h2⟩
theorem propsR_low {b:List UInt8} {p:Props} (h:propsR b = some p):p.low.size ≤ b.length:=by
 unfold propsR at h
 obtain ⟨x0,h0,h⟩:=Option.bind_eq_some_iff.1 h
 obtain ⟨x1,h1,h⟩:=Option.bind_eq_some_iff.1 h
 obtain ⟨x2,h2,h⟩:=Option.bind_eq_some_iff.1 h
 obtain ⟨x3, -,h⟩:=Option.bind_eq_some_iff.1 h
 obtain ⟨x4, -,h⟩:=Option.bind_eq_some_iff.1 h
 obtain ⟨x5, -,h⟩:=Option.bind_eq_some_iff.1 h
 obtain ⟨x6, -,h⟩:=Option.bind_eq_some_iff.1 h
 obtain ⟨x7, -,h⟩:=Option.bind_eq_some_iff.1 h
 have k0:=(tkB_len h0).1
 have k1:=(tkB_len h1).1
 have k2:=(txB_len h2).2
 split at h
 ·cases h
  show x2.1.size ≤ _
  omega
 ·cases h
theorem since_bel2 {b0 G:Nat} {A B C:World} (h:Below A.heap.size A B) (k:Bel2 G B C) (hG:G < b0):Since b0 A C :=
 ⟨Nat.le_trans h.size k.1.size,fun g h1 h2=>(k.2 g (Nat.lt_of_lt_of_le h2 h.size) (by omega)).trans (h.block g h2)⟩
structure ZerI (G n:Nat) (w wr:World):Prop where
 b:Bel2 G w wr
 row:∃ cur,wr.heap[G]? = some (.cells cur 5 (0,0)) ∧ n ≤ cur.size
theorem ZerI.step {G n k:Nat} {w wr:World} (h:ZerI G n w wr) (v:Value):ZerI G n w (wr.setCell ⟨G,k,none⟩ v):=by
 obtain ⟨cur,h1,h2⟩:=h.row
 exact ⟨h.b.cell k v,_,heap_setCell_same _ _ k _ _ _ h1,by simpa using h2⟩
theorem fr_shape {w:World} {base:Nat} {e:TypeId} {k n c:Nat} {q:Option Addr} {xs:List Value} (h:Fr w base e k (.slice q n c) n xs):(q = none ∧ n = 0 ∧ c = 0) ∨ ∃ g,q = some ⟨g,0,none⟩ ∧ n ≤ c ∧ c ≤ maxLen:=by
 rcases h.2 with ⟨e,hn⟩ | ⟨g,cap,cur,e, -, -,h1,h2, -⟩
 ·cases e;exact .inl ⟨rfl,hn,rfl⟩
 ·cases e;exact .inr ⟨g,rfl,h1,h2⟩
theorem yslice_upto (q:Option Addr) (n c T:Nat) (w:World) (h:(q = none ∧ n = 0 ∧ c = 0) ∨ ∃ g,q = some ⟨g,0,none⟩ ∧ n ≤ c ∧ c ≤ maxLen) (hT:T ≤ n) :
  (Instr.slice 38 (.slice q n c) none (some (.int .i64 (T:Int))) none).run Tryz.prog w = .ok (.slice q T c) w:=by
 rcases h with ⟨rfl,rfl,rfl⟩ | ⟨g,rfl,h1,h2⟩
 ·obtain rfl:T = 0:=by omega
  go_simp
 ·have i0:(0:Int) ≤ (T:Int):=by omega
  have i1:(T:Int) ≤ (c:Int):=by omega
  go_simp
def AllE (r:Rdr) (L:List Fact) (E:Int):Prop:=(E = 13 ∧ L = [] ∧ ¬ ∃ fs,AllR r fs) ∨ (E = 0 ∧ AllR r L)
theorem AllE.one {r:Rdr} {L K:List Fact} {E F:Int} (h:AllE r L E) (k:AllE r K F):K = L ∧ F = E:=by
 rcases h with ⟨rfl,rfl,h⟩ | ⟨rfl,h⟩
 ·rcases k with ⟨rfl,rfl,k⟩ | ⟨rfl,k⟩
  ·exact ⟨rfl,rfl⟩
  ·exact absurd ⟨_,k⟩ h
 ·rcases k with ⟨rfl,rfl,k⟩ | ⟨rfl,k⟩
  ·exact absurd ⟨_,h⟩ k
  ·exact ⟨ChksOf.one k.1 h.1,rfl⟩
theorem allE_r {r:Rdr} {b0:Nat} {w w':World} {e:Ending} (h:AlaP r b0 w e w'):Below b0 w w' ∧ ∃ L E q,AllE r L E ∧ e = .returned (.tuple #[.slice q L.length L.length,.int .i64 E]) ∧ Fr w' b0 27 6 (.slice q L.length L.length) L.length (fCells L):=by
 obtain ⟨hb,⟨hno,rfl⟩ | ⟨fs,hfs,q,rfl,hf⟩⟩:=h
 ·exact ⟨hb,[],13,none,.inl ⟨rfl,rfl,hno⟩,rfl,⟨rfl,.inl ⟨rfl,rfl⟩⟩⟩
 ·exact ⟨hb,fs,0,q,.inr ⟨rfl,hfs⟩,rfl,hf⟩
theorem allE_m {r:Rdr} {b0:Nat} {w w':World} {e:Ending} (h:RAlP r b0 w e w'):Below b0 w w' ∧ ∃ L E q c,AllE r L E ∧ e = .returned (.tuple #[.slice q L.length c,.int .i64 E]) ∧ Fr w' b0 27 6 (.slice q L.length c) L.length (fCells L):=by
 obtain ⟨hb,⟨hno,rfl⟩ | ⟨fs,hfs,q,c,rfl,hf⟩⟩:=h
 ·exact ⟨hb,[],13,none,0,.inl ⟨rfl,rfl,hno⟩,rfl,⟨rfl,.inl ⟨rfl,rfl⟩⟩⟩
 ·exact ⟨hb,fs,0,q,c,.inr ⟨rfl,hfs⟩,rfl,Fr.of_own hf⟩
theorem told_all {l:List Fact} {b:Bool} (h:l.length ≤ 24000):toldA l b 1048576 = (l,if b = true then 13 else 0):=by
 unfold toldA
 rw [if_neg (by omega)]
theorem told_some (l:List Fact) (b:Bool) (T:Nat):(toldA l b T).1 = l.take (min T l.length):=by
 unfold toldA
 split
 ·rw [Nat.min_eq_left (by assumption)]
 ·rw [Nat.min_eq_right (by omega),List.take_of_length_le (Nat.le_refl _)]
theorem rhas_same {r:Rdr} (h:0 < r.chunks.length) (k:ByteArray):rhasR r k = hasR r k:=by
 unfold rhasR hasR
 rw [show decide (0 < r.chunks.length) = true by simpa using h]
 simp
theorem infoBook1:(Tryz.prog.info? 46).map (·.size) = some 1:=by kernel_rfl
theorem shs_one {w:World} {lo mid:Nat} {s:Sh} {xs:List Value} (h:Fr w lo 27 6 s.sl s.n xs) (hm:∀ g,s.blk = some g → g < mid):ShsOk w lo mid [s]:=by
 obtain ⟨h1,h2⟩:=ShRow.of_fr h
 refine ⟨fun t ht => ?_,fun t ht => ?_,fun t ht => ?_,List.pairwise_singleton _ _⟩
 all_goals
  rw [List.mem_singleton] at ht
  subst ht
 ·exact h1
 ·exact fun g hg=>(h2 g hg).1
 ·exact hm
set_option maxRecDepth 100000 in
set_option maxHeartbeats 8000000 in
theorem rdof_any (q:Option Addr) (n c:Nat) (l:List UInt8) (K:ByteArray) (V sq ln kd:Nat) (vl:ByteArray) (most:Nat) (w:World) (hn:l.length = n) (hnc:n ≤ c) (hcm:c ≤ maxLen) (hr:Rd w q (l.map bv)) (hV:V < 4294967296) (hm:most < 256) (hK:K.size ≤ maxLen) (hp:Pow10 w) :
  Calls Tryz.prog 3 #[.slice q n c,.agg #[.string K,.int .u32 (V:Int),.int .u64 (sq:Int),.int .u64 (ln:Int),.int .u8 (kd:Int),.string vl],.int .u8 (most:Int)] w fun e w'=>e = .returned (.bool true) ∧ Below w.heap.size w w':=by
 obtain ⟨w1,hw1⟩:∃ W,W = w.alloc (.cells #[.string K,.int .u32 (V:Int),.int .u64 (sq:Int),.int .u64 (ln:Int),.int .u8 (kd:Int),.string vl] 27):=⟨_,rfl⟩
 obtain ⟨F5,hF5⟩:∃ n,n = w.heap.size:=⟨_,rfl⟩
 have hb1:Below w.heap.size w w1:=by rw [hw1];exact (Below.refl _ _).alloc (Nat.le_refl _) _
 have hx1:w1.heap[F5]? = some (.cells #[.string K,.int .u32 (V:Int),.int .u64 (sq:Int),.int .u64 (ln:Int),.int .u8 (kd:Int),.string vl] 27 (0,0)):=by rw [hw1,hF5];exact heap_alloc_new w _
 have hs1:w1.heap.size = F5 + 1:=by rw [hw1,World.size_alloc,hF5]
 have HW1:=hid hw1
 have HF5:=hid hF5
 have HB1:=hid hb1
 have HX1:=hid hx1
 have HS1:=hid hs1
 have HR1:=hid (hr.below hb1)
 have HP:=hid hp
 have Hn:=hid hn
 unfold maxLen at hK hcm
 clear hw1 hF5 hb1 hx1 hs1 hr hn hp
 go_enter Tryz.func3,Tryz.ntmps3
 go_upto_region 1 with (fail)
 rw [← HW1.out,← HF5.out]
 obtain ⟨x0,x1,x2,x3,x4,x5⟩:=cells6 HX1.out
 by_cases hbig:70000 < n
 ·have d1:decide ((70000:Int) < (n:Int)) = true:=by simp;omega
  go_wp2_with (go_at_call 4;refine (lives_any _).mono ?_;rintro e w3 ⟨rfl,hb3⟩)
  go_ret
  exact ⟨rfl,HB1.out.trans (hb3.mono HB1.out.size)⟩
 have d1:decide ((70000:Int) < (n:Int)) = false:=by simp;omega
 by_cases hkb:1000 < K.size
 ·have d2:decide ((1000:Int) < (K.size:Int)) = true:=by simp;omega
  go_wp2_with (go_at_call 4;refine (lives_any _).mono ?_;rintro e w3 ⟨rfl,hb3⟩)
  go_ret
  exact ⟨rfl,HB1.out.trans (hb3.mono HB1.out.size)⟩
 have d2:decide ((1000:Int) < (K.size:Int)) = false:=by simp;omega
 go_upto_region 3 with (fail)
 clear d1 d2 x0 x1 x2 x3 x4 x5
 go_wp2_with fail
 refine (twinB_any q n c l w1 Hn.out (by omega) HR1.out).mono ?_
 rintro e w2 ⟨G,rfl,hg,hh,hb2⟩
 have HG2:=hid hh
 have HR2:=hid (HR1.out.below hb2)
 have HB2:=hid (HB1.out.trans (hb2.mono HB1.out.size))
 have HX2:=hid ((hb2.block _ (lt_of_block HX1.out)).trans HX1.out)
 have HGl:=hid (show G < w2.heap.size from lt_of_block hh)
 have HGF:=hid (show F5 < G by have:=HS1.out;omega)
 clear hh hb2 hg
 go_wp2_with fail
 refine (opn_any2 (some ⟨G,0,none⟩) n (n + 2) l w2 Hn.out (by omega) (by omega) (fun h=>by cases h) (twin_rd HG2.out)).mono ?_
 rintro e w3 ⟨hb3,hcase⟩
 have HG3:=hid ((hb3.block _ HGl.out).trans HG2.out)
 have HR3:=hid (HR2.out.below hb3)
 have HB3:=hid (HB2.out.trans (hb3.mono HB2.out.size))
 have HX3:=hid ((hb3.block _ (lt_of_block HX2.out)).trans HX2.out)
 have HBo3:=hid hb3
 clear hb3
 rcases hcase with ⟨hno,rfl⟩ | ⟨r,R,ho,rfl,hat⟩
 ·have HNo:=hid hno
  clear hno
  go_wp2_with fail
  refine (ropen_any q n c l w3 Hn.out hnc (by unfold maxLen;omega) (by omega) HR3.out).mono ?_
  rintro e w4 ⟨hb4,⟨-,rfl⟩ | ⟨r,R,hr', -, -⟩⟩
  rotate_left
  ·exact absurd ⟨r,hr'⟩ HNo.out
  have HL:=hid (leftB_any q G n c l w4 Hn.out (by omega) (HR3.out.below hb4) ((hb4.block _ (lt_of_block HG3.out)).trans HG3.out))
  have HB4:=hid (HB3.out.trans (hb4.mono HB3.out.size))
  clear hb4
  go_wp2_with fail
  refine HL.out.mono ?_
  rintro e w5 ⟨rfl,hb5⟩
  have HB5:=hid (HB4.out.trans (hb5.mono HB4.out.size))
  clear hb5
  go_wp2_with (go_at_call 4;refine (lives_any _).mono ?_;rintro e w6 ⟨rfl,hb6⟩)
  go_ret
  exact ⟨rfl,HB5.out.trans (hb6.mono HB5.out.size)⟩
 have HO:=hid ho
 have HAt3:=hid hat
 clear ho hat
 go_wp2_with fail
 refine (ropen_any q n c l w3 Hn.out hnc (by unfold maxLen;omega) (by omega) HR3.out).mono ?_
 rintro e w4 ⟨hb4,⟨hno, -⟩ | ⟨r',M,hr',rfl,hat'⟩⟩
 ·exact absurd ⟨r,HO.out⟩ hno
 obtain rfl:=HO.out.one hr'
 have HL:=hid (leftB_any q G n c l w4 Hn.out (by omega) (HR3.out.below hb4) ((hb4.block _ (lt_of_block HG3.out)).trans HG3.out))
 have HG4:=hid ((hb4.block _ (lt_of_block HG3.out)).trans HG3.out)
 have HB4:=hid (HB3.out.trans (hb4.mono HB3.out.size))
 have HX4:=hid ((hb4.block _ (lt_of_block HX3.out)).trans HX3.out)
 have HB34:=hid hb4
 have HMt4:=hid hat'
 clear hb4 hat' hr'
 go_wp2_with fail
 refine HL.out.mono ?_
 rintro e w5 ⟨rfl,hb5⟩
 have HG5:=hid ((hb5.block _ (lt_of_block HG4.out)).trans HG4.out)
 have HB5:=hid (HB4.out.trans (hb5.mono HB4.out.size))
 have HX5:=hid ((hb5.block _ (lt_of_block HX4.out)).trans HX4.out)
 have HB35:=hid (HB34.out.trans (hb5.mono HB34.out.size))
 have HB45:=hid hb5
 clear hb5 HL
 go_upto_region 11 with (fail)
 go_loopw [12] (fun i wr=>∃ k:Nat,k ≤ n ∧ i = .int .i64 (k:Int) ∧ ZerI G n w5 wr) (fun i _=>n - (intOf i).toNat)
 case atStart=>exact ⟨0,Nat.zero_le _,rfl,Bel2.refl _ _,_,HG5.out,by have:=Hn.out;simp;omega⟩
 case round =>
  obtain ⟨k,hk,rfl,hz⟩:=hrel
  have HZ:=hid hz
  by_cases hlt:k < n
  ·obtain ⟨cur,hc1,hc2⟩:=hz.row
   obtain ⟨u,hu⟩:∃ u,wr.cell? ⟨G,k,none⟩ = some u:=⟨_,(cell_of_row _ _ k _ _ _ hc1).trans (Array.getElem?_eq_getElem (by omega))⟩
   have f0:wr.frozen? ⟨G,k,none⟩ = false:=frozen_of_row _ _ _ _ _ hc1
   have i0:(0:Int) ≤ (k:Int):=by omega
   have i1:(k:Int) < (n:Int):=by omega
   clear hz hc1 hc2
   go_wp2_with fail
   go_roundw
   case rel=>exact ⟨k + 1,by omega,by go_num,HZ.out.step _⟩
   case measure=>simp [intOf];omega
  obtain rfl:k = n:=by omega
  clear hz
  obtain ⟨w6,hw6⟩:∃ x,x = wr:=⟨_,rfl⟩
  rw [← hw6]
  have hZ6:Bel2 G w5 w6:=by rw [hw6];exact HZ.out.b
  clear hw6 HZ
  have hF0:=fit0_of HO.out (by have:=Hn.out;omega)
  have HFit0:=hid hF0
  have HFit:=hid (fit_of HO.out (by have:=Hn.out;omega) (fun fs hfs=>by have:=opens_few HO.out r'.chunks.length (fs:=fs) (by rw [List.take_of_length_le (Nat.le_refl _)];exact hfs);have:=Hn.out;omega))
  have HAt6:=hid (HAt3.out w6 (since_bel2 HB35.out hZ6 HGl.out))
  have HMt6:=hid (HMt4.out w6 (since_bel2 HB45.out hZ6 (Nat.lt_of_lt_of_le HGl.out (by have:=HBo3.out.size;have:=HB34.out.size;omega))))
  have HB6:=hid (HB5.out.trans (hZ6.1.mono (by have:=HGF.out;have:=HB1.out.size;have:=HF5.out;omega)))
  have HX6:=hid ((hZ6.2 F5 (lt_of_block HX5.out) (by have:=HGF.out;omega)).trans HX5.out)
  clear hF0 hZ6 HAt3 HMt4 HB35 HB45 HB34 HG5 HG4 HG3 HG2 HX5 HX4 HX3 HX2 HR2 HR3
  obtain ⟨T,hT⟩:∃ x,x = 1 + most:=⟨_,rfl⟩
  have eT:(1:Int) + (most:Int) = (T:Int):=by omega
  obtain ⟨S,hS⟩:∃ x:ByteArray,x = ⟨(seekB K.data.toList V).toArray⟩:=⟨_,rfl⟩
  obtain ⟨L,B,hL⟩:=from_some r' S (r'.chunks.drop (seekI r'.chunks S))
  have HL:=hid hL
  have HS:=hid hS
  have HT:=hid hT
  have HK:=hid (show K.size ≤ 1000000 by omega)
  obtain ⟨x0,x1,x2,x3,x4,x5⟩:=cells6 HX6.out
  clear hL hS hT
  go_upto_region 15 with (fail)
  go_wp2_with fail
  refine (told_any R r' w6 HAt6.out HFit0.out K V 1048576 HK.out hV (by decide) (by decide) S HS.out L B HL.out).mono ?_
  rintro e w7 ⟨hb7,q7,c7,rfl,hf7⟩
  obtain ⟨⟨XL,XE⟩,hX⟩:∃ X,toldA L B 1048576 = X:=⟨_,rfl⟩
  rw [hX] at hf7 ⊢
  dsimp only at hf7 ⊢
  have HB7:=hid (HB6.out.trans (hb7.mono HB6.out.size))
  have HX7:=hid ((hb7.block _ (lt_of_block HX6.out)).trans HX6.out)
  have HAt7:=hid (HAt6.out.below hb7)
  have HMt7:=hid (HMt6.out.below hb7)
  have HR7:=hid hf7.rd
  have Hx:=hid hX
  clear hf7 hb7 hX x0 x1 x2 x3 x4 x5
  obtain ⟨x0,x1,x2,x3,x4,x5⟩:=cells6 HX7.out
  go_wp2_with fail
  refine (rfrom_any M r' K V w7 HMt7.out HO.out (by have:=Hn.out;omega) HK.out hV).mono ?_
  rintro e w8 ⟨hb8,L2,B2,q8,c8,hL2,hl8,rfl,hown⟩
  rw [← HS.out] at hL2
  obtain ⟨eL,eB⟩:=from_inj (HL.out.one hL2)
  rw [← eL] at hl8 hown ⊢
  rw [← eB]
  clear eL eB hL2 L2 B2
  have hxx:=Hx.out
  rw [told_all hl8] at hxx
  obtain ⟨rfl,rfl⟩:L = XL ∧ (if B = true then 13 else 0) = XE:=by cases hxx;exact ⟨rfl,rfl⟩
  obtain ⟨EF,hEF⟩:∃ x:Int,(if B = true then 13 else 0) = x:=⟨_,rfl⟩
  rw [hEF]
  have HEF:=hid hEF
  have hfy:=Fr.of_own hown
  have HSh:=hid (fr_shape hfy)
  have HY8:=hid hfy.rd
  have HL8:=hid hl8
  have HB8:=hid (HB7.out.trans (hb8.mono HB7.out.size))
  have HX8:=hid ((hb8.block _ (lt_of_block HX7.out)).trans HX7.out)
  have HAt8:=hid (HAt7.out.below hb8)
  have HMt8:=hid (HMt7.out.below hb8)
  have HR8:=hid (HR7.out.below hb8)
  clear hxx Hx hEF hfy hb8 hown hl8 x0 x1 x2 x3 x4 x5
  obtain ⟨x0,x1,x2,x3,x4,x5⟩:=cells6 HX8.out
  go_wp2_with fail
  refine (told_any R r' w8 HAt8.out HFit0.out K V T HK.out hV (by have:=HT.out;omega) (by have:=HT.out;omega) S HS.out L B HL.out).mono ?_
  rintro e w9 ⟨hb9,q9,c9,rfl,hf9⟩
  obtain ⟨⟨PL,PE⟩,hPt⟩:∃ X,toldA L B T = X:=⟨_,rfl⟩
  have hPL:PL = L.take (min T L.length):=by rw [← told_some L B T,hPt]
  have HPL:=hid hPL
  rw [hPt] at hf9 ⊢
  dsimp only at hf9 ⊢
  have HB9:=hid (HB8.out.trans (hb9.mono HB8.out.size))
  have HX9:=hid ((hb9.block _ (lt_of_block HX8.out)).trans HX8.out)
  have HAt9:=hid (HAt8.out.below hb9)
  have HMt9:=hid (HMt8.out.below hb9)
  have HR9:=hid (HR8.out.below hb9)
  have HY9:=hid (HY8.out.below hb9)
  have HP9:=hid hf9.rd
  clear hf9 hb9 hPt hPL x0 x1 x2 x3 x4 x5
  go_wp2_with fail
  refine (allr_any R r' w9 HAt9.out HFit.out).mono ?_
  rintro e w10 hA
  obtain ⟨hb10,AL,AE,q10,hAE,rfl,hf10⟩:=allE_r hA
  have HAE:=hid hAE
  have HB10:=hid (HB9.out.trans (hb10.mono HB9.out.size))
  have HX10:=hid ((hb10.block _ (lt_of_block HX9.out)).trans HX9.out)
  have HAt10:=hid (HAt9.out.below hb10)
  have HMt10:=hid (HMt9.out.below hb10)
  have HR10:=hid (HR9.out.below hb10)
  have HY10:=hid (HY9.out.below hb10)
  have HP10:=hid (HP9.out.below hb10)
  have HF10:=hid hf10
  have HB910:=hid hb10
  clear hf10 hb10 hA hAE
  go_wp2_with fail
  refine (rall_any M r' w10 HMt10.out HO.out (by have:=Hn.out;omega)).mono ?_
  rintro e w11 hA
  obtain ⟨hb11,AL2,AE2,q11,c11,hAE2,rfl,hf11⟩:=allE_m hA
  obtain ⟨eL,eB⟩:=HAE.out.one hAE2
  rw [eL] at hf11 ⊢
  rw [eB]
  clear eL eB hA hAE2 AL2 AE2
  have HB11:=hid (HB10.out.trans (hb11.mono HB10.out.size))
  have HX11:=hid ((hb11.block _ (lt_of_block HX10.out)).trans HX10.out)
  have HAt11:=hid (HAt10.out.below hb11)
  have HMt11:=hid (HMt10.out.below hb11)
  have HR11:=hid (HR10.out.below hb11)
  have HY11:=hid (HY10.out.below hb11)
  have HP11:=hid (HP10.out.below hb11)
  have HF11:=hid (HF10.out.below hb11)
  have HO11:=hid hf11.rd
  have HB911:=hid (HB910.out.trans (hb11.mono HB910.out.size))
  have hAl:AL.length ≤ 24000:=by
   rcases HAE.out with ⟨-,rfl, -⟩ | ⟨-,h⟩
   ·exact Nat.zero_le _
   ·exact HFit.out.few _ h.1
  clear hb11 hf11
  obtain ⟨LN,hLN⟩:∃ x,L.length = x:=⟨_,rfl⟩
  obtain ⟨PN,hPN⟩:∃ x,PL.length = x:=⟨_,rfl⟩
  obtain ⟨AN,hAN⟩:∃ x,AL.length = x:=⟨_,rfl⟩
  obtain ⟨MN,hMN⟩:∃ x,min T LN = x:=⟨_,rfl⟩
  have hLb:LN ≤ 24000:=by rw [← hLN];exact HL8.out
  have hMl:MN ≤ LN:=by omega
  have hPM:PN = MN:=by rw [← hPN,HPL.out,List.length_take,hLN,hMN];omega
  have hmin:((min (T:Int) (LN:Int)):Int) = (MN:Int):=by omega
  have hsh:=HSh.out
  rw [hLN] at hsh
  have hsl:=fun W=>yslice_upto q8 LN c8 MN W hsh hMl
  have hg1:(EF != EF) = false:=by simp
  have hg2:(AE != AE) = false:=by simp
  have HLN:=hid hLN
  have HPN:=hid hPN
  have HAN:=hid hAN
  have HMN:=hid hMN
  rw [hLN,hPN,hAN]
  clear hLN hPN hAN hMN hsh
  subst hPM
  go_upto_region 20 with (fail)
  go_wp2_with fail
  refine (same_facts q7 q8 LN c7 LN c8 L L w11 HLN.out HLN.out (by omega) (by omega) HR11.out HY11.out).mono ?_
  rintro e w12 ⟨y12,rfl,hy12,hb12⟩
  obtain rfl:y12 = true:=hy12.2 rfl
  have HS1:=hid (same_facts q9 q8 PN c9 PN c8 PL PL w12 HPN.out HPN.out (by omega) (by omega) (HP11.out.below hb12) (by rw [HPL.out,fCells_take];exact (HY11.out.below hb12).take _))
  have HB12:=hid hb12
  clear hy12 hb12
  go_wp2_with fail
  refine HS1.out.mono ?_
  rintro e w13 ⟨y13,rfl,hy13,hb13⟩
  obtain rfl:y13 = true:=hy13.2 trivial
  have HB13:=hid (HB12.out.trans (hb13.mono HB12.out.size))
  have HS2:=hid (same_facts q10 q11 AN AN AN c11 AL AL w13 HAN.out HAN.out (by have:=HAN.out;omega) (by have:=HAN.out;omega) (HF11.out.rd.below HB13.out) (HO11.out.below HB13.out))
  clear hy13 hb13 HS1 HB12
  go_wp2_with fail
  refine HS2.out.mono ?_
  rintro e w14 ⟨y14,rfl,hy14,hb14⟩
  obtain rfl:y14 = true:=hy14.2 trivial
  have hb1114:=HB13.out.trans (hb14.mono HB13.out.size)
  have HB14:=hid (HB11.out.trans (hb1114.mono HB11.out.size))
  have HX14:=hid ((hb1114.block _ (lt_of_block HX11.out)).trans HX11.out)
  have HAt14:=hid (HAt11.out.below hb1114)
  have HMt14:=hid (HMt11.out.below hb1114)
  have hf14:=HF11.out.below hb1114
  rw [HAN.out] at hf14
  have HF14:=hid hf14
  clear hf14
  have HB914:=hid (HB911.out.trans (hb1114.mono HB911.out.size))
  clear hy14 hb14 hb1114 HS2 HB13
  go_wp2_with fail
  refine (allr_any R r' w14 HAt14.out HFit.out).mono ?_
  rintro e w15 hA
  obtain ⟨hb15,AL2,AE2,q15,hAE2,rfl,hf15⟩:=allE_r hA
  obtain ⟨eL,eB⟩:=HAE.out.one hAE2
  rw [eL,HAN.out] at hf15
  rw [eL,HAN.out]
  rw [eB]
  clear eL eB hA hAE2 AL2 AE2
  have HB15:=hid (HB14.out.trans (hb15.mono HB14.out.size))
  have HX15:=hid ((hb15.block _ (lt_of_block HX14.out)).trans HX14.out)
  have HAt15:=hid (HAt14.out.below hb15)
  have HMt15:=hid (HMt14.out.below hb15)
  have HF15:=hid (HF14.out.below hb15)
  have HQ15:=hid hf15
  have HS14:=hid (hb15.size)
  have HB915:=hid (HB914.out.trans (hb15.mono HB914.out.size))
  clear hb15 hf15
  obtain ⟨Kb,hKb⟩:∃ x,x = w15.heap.size:=⟨_,rfl⟩
  obtain ⟨w16,hw16⟩:∃ x,x = (w15.alloc (.cells #[.slice none 0 0] 46)).setRow w15.heap.size #[.slice none 0 0]:=⟨_,rfl⟩
  have hb16:Below w15.heap.size w15 w16:=by rw [hw16];exact below_setRow ((Below.refl _ _).alloc (Nat.le_refl _) _) (Nat.le_refl _) _
  have hk16:w16.heap[Kb]? = some (.cells #[.slice none 0 0] 46 (0,0)):=by rw [hw16,hKb];exact setRow_heap _ _ _ _ _ _ (heap_alloc_new _ _)
  have HBk16:=hid (show BookAt w16 Kb w9.heap.size [] from ⟨none,0,hk16,World.ownsRow_nil _ _ _ _⟩)
  have HW16:=hid hw16
  have HKb:=hid hKb
  have HB16:=hid (HB15.out.trans (hb16.mono HB15.out.size))
  have HB916:=hid (HB915.out.trans (hb16.mono HB915.out.size))
  have HF16:=hid (HF15.out.below hb16)
  have HQ16:=hid (HQ15.out.below hb16)
  have hKl:w9.heap.size ≤ Kb:=by rw [hKb];exact HB915.out.size
  have HB1516:=hid (show w15.heap.size ≤ w16.heap.size from hb16.size)
  clear hb16 hk16 hw16 hKb
  go_upto_region 24 with (refine wpList_store_block rfl 46 _ _ rfl _ _ _ _ rfl rfl (heap_alloc_new _ _) rfl infoBook1 (by simp [Value.oneCell']) ?_)
  rw [← HW16.out,← HKb.out]
  have HBf:=hid (bfacts_any Kb w9.heap.size [] q10 AN w16 HBk16.out (by simp) hKl HB916.out.size (HP.out.below HB16.out (Nat.le_refl _)))
  go_wp2_with fail
  refine HBf.out.mono ?_
  rintro e w17 ⟨rfl,⟨S1,hBk17⟩,hk17,hb17⟩
  have HB917:=hid (HB916.out.trans hb17)
  have HB17:=hid (HB16.out.trans (hb17.mono HB9.out.size))
  have HF17:=hid (HF16.out.kpB hk17 (by decide) (by decide))
  have HQ17:=hid (HQ16.out.kpB hk17 (by decide) (by decide))
  have HBg:=hid (bfacts_any Kb w9.heap.size _ q15 AN w17 hBk17 (by simp) hKl HB917.out.size (HP.out.below HB17.out (Nat.le_refl _)))
  have HB1617:=hid hk17.1
  clear hBk17 hk17 hb17 HBf
  go_wp2_with fail
  refine HBg.out.mono ?_
  rintro e w18 ⟨rfl,⟨S2,hBk18⟩,hk18,hb18⟩
  have HBk18:=hid hBk18
  have HB918:=hid (HB917.out.trans hb18)
  have HB18:=hid (HB17.out.trans (hb18.mono HB9.out.size))
  have HF18:=hid (HF17.out.kpB hk18 (by decide) (by decide))
  have HQ18:=hid (HQ17.out.kpB hk18 (by decide) (by decide))
  have HAt18:=hid (HAt9.out.below HB918.out)
  have HMt18:=hid (HMt9.out.below HB918.out)
  have HX18:=hid ((HB918.out.block _ (lt_of_block HX9.out)).trans HX9.out)
  have HB1718:=hid hk18.1
  clear hBk18 hk18 hb18 HBg
  go_upto_region 26 with (fail)
  obtain ⟨TD,D,hD1,hD2⟩:=class_d w18
  obtain ⟨pp,hpp⟩:∃ x,x = r'.props:=⟨_,rfl⟩
  obtain ⟨h1,hh1⟩:∃ x,x = hasR r' K:=⟨_,rfl⟩
  obtain ⟨h2,hh2⟩:∃ x,x = hasR r' pp.low:=⟨_,rfl⟩
  have hn0:=HFit.out.n0
  have hn1:=HFit.out.n1
  have hfl:r'.filter.length ≤ 100000:=by
   rw [HO.out.filter]
   have:=Hn.out
   unfold ftP
   simp only [List.length_take,List.length_drop]
   omega
  have hlow:pp.low.size ≤ 1000000:=by
   have h:=propsR_low (HO.out.props)
   rw [← hpp] at h
   have:=Hn.out
   unfold ftP at h
   simp only [List.length_take,List.length_drop] at h
   omega
  have HCp:=hid (calls_d hD1 hD2 (f:=15) (vs := #[.pointer (some ⟨R,0,none⟩)]) (v:=.agg #[.int .u64 (pp.line:Int),.int .u64 (pp.many:Int),.string pp.low,.string pp.high,.int .u64 (pp.least:Int),.int .u64 (pp.greatest:Int),.int .u32 (pp.early:Int),.int .u32 (pp.late:Int)]) (fun w' hw'=>hpp ▸ props_yes (HAt18.out.below hw') hn0 (by omega)))
  have HC1:=hid (calls_d hD1 hD2 (f:=16) (vs := #[.pointer (some ⟨R,0,none⟩),.string K]) (v:=.bool h1) (fun w' hw'=>hh1 ▸ has_yes K HK.out (HAt18.out.below hw') hn0 (by omega) hfl))
  have HC2:=hid (calls_d hD1 hD2 (f:=16) (vs := #[.pointer (some ⟨R,0,none⟩),.string pp.low]) (v:=.bool h2) (fun w' hw'=>hh2 ▸ has_yes pp.low hlow (HAt18.out.below hw') hn0 (by omega) hfl))
  have HC3:=hid (calls_d hD1 hD2 (f:=17) (vs := #[.pointer (some ⟨M,0,none⟩),.string K]) (v:=.bool h1) (fun w' hw'=>hh1 ▸ rhas_same hn0 K ▸ rrhas_any K HK.out (HMt18.out.below hw') hfl))
  have HC4:=hid (calls_d hD1 hD2 (f:=17) (vs := #[.pointer (some ⟨M,0,none⟩),.string pp.low]) (v:=.bool h2) (fun w' hw'=>hh2 ▸ rhas_same hn0 pp.low ▸ rrhas_any pp.low hlow (HMt18.out.below hw') hfl))
  obtain ⟨bb,ob,cb,fq,fc,lq,lc,eq,ec,hrow, -⟩:=HMt18.out.ex
  rw [← hpp] at hrow
  unfold rrRow at hrow
  have yy:∀ x (j:Nat),(D x).cell? ⟨M,j,none⟩ = w18.cell? ⟨M,j,none⟩:=fun x j=>World.cell?_of_block (w:=w18) (a:=⟨M,j,none⟩) ((hD1 x).block _ (lt_of_block hrow))
  obtain ⟨c0,c1,c2,c3,c4,c5,c6,c7,c8',c9⟩:=cells12c hrow
  have y2:∀ x,(D x).cell? ⟨M,2,none⟩ = some (.int .u64 (pp.line:Int)):=fun x=>(yy x 2).trans c2
  have y3:∀ x,(D x).cell? ⟨M,3,none⟩ = some (.int .u64 (pp.many:Int)):=fun x=>(yy x 3).trans c3
  have y4:∀ x,(D x).cell? ⟨M,4,none⟩ = some (.string pp.low):=fun x=>(yy x 4).trans c4
  have y5:∀ x,(D x).cell? ⟨M,5,none⟩ = some (.string pp.high):=fun x=>(yy x 5).trans c5
  have y6:∀ x,(D x).cell? ⟨M,6,none⟩ = some (.int .u64 (pp.least:Int)):=fun x=>(yy x 6).trans c6
  have y7:∀ x,(D x).cell? ⟨M,7,none⟩ = some (.int .u64 (pp.greatest:Int)):=fun x=>(yy x 7).trans c7
  have y8:∀ x,(D x).cell? ⟨M,8,none⟩ = some (.int .u32 (pp.early:Int)):=fun x=>(yy x 8).trans c8'
  have y9:∀ x,(D x).cell? ⟨M,9,none⟩ = some (.int .u32 (pp.late:Int)):=fun x=>(yy x 9).trans c9
  have z0:∀ x,(D x).cell? ⟨F5,0,none⟩ = some (.string K):=fun x=>(World.cell?_of_block (w:=w18) (a:=⟨F5,0,none⟩) ((hD1 x).block _ (lt_of_block HX18.out))).trans (cells6 HX18.out).1
  have heq:∀ W:World,(binOp .eql 49 (.agg #[.int .u64 (pp.line:Int),.int .u64 (pp.many:Int),.string pp.low,.string pp.high,.int .u64 (pp.least:Int),.int .u64 (pp.greatest:Int),.int .u32 (pp.early:Int),.int .u32 (pp.late:Int)]) (.agg #[.int .u64 (pp.line:Int),.int .u64 (pp.many:Int),.string pp.low,.string pp.high,.int .u64 (pp.least:Int),.int .u64 (pp.greatest:Int),.int .u32 (pp.early:Int),.int .u32 (pp.late:Int)])).run Tryz.prog W = .ok (.bool true) W:=fun W=>eqlProps W _ _ rfl ⟨pp,rfl⟩
  have hq1:(h1 == h1) = true:=beq_self_eq_true _
  have hq2:(h2 == h2) = true:=beq_self_eq_true _
  obtain ⟨x0,hx0⟩:=hD2 { w18 with drawn:=w18.drawn + 1 } (Below.refl _ _).drew
  haveI:Nonempty TD:=⟨x0⟩
  have HD1:=hid hD1
  clear hD1 hD2 yy c0 c1 c2 c3 c4 c5 c6 c7 c8' c9 hrow hpp hh1 hh2 hlow hfl
  refine region_last_d (D:=D) 35 (by kernel_rfl) (by kernel_rfl) (by kernel_rfl) x0 hx0 ?_
  simp only [List.take_succ_cons,List.take_zero,List.drop_succ_cons,List.drop_zero]
  repeat (go_big_quiet_step (first | (go_at_call 15;with_reducible exact HCp.out _) | (go_at_call 16;first | (with_reducible exact HC1.out _) | (with_reducible exact HC2.out _)) | (go_at_call 17;first | (with_reducible exact HC3.out _) | (with_reducible exact HC4.out _))))
  refine wpQuiet_nil ?_
  intro d
  obtain ⟨w19,hw19⟩:∃ x,x = D d:=⟨_,rfl⟩
  have hb19:Below w18.heap.size w18 w19:=hw19 ▸ HD1.out d
  rw [← hw19]
  have HB919:=hid (HB918.out.trans (hb19.mono HB918.out.size))
  have HBk19:=hid (HBk18.out.below hb19)
  have hblk:∀ g,Sh.blk ⟨q10,AN,S1,0 + 1⟩ = some g → g < w14.heap.size:=(ShRow.of_fr (s:=⟨q10,AN,S1,0 + 1⟩) HF14.out).2 |> fun h g hg=>(h g hg).2
  have hsz:w14.heap.size ≤ w19.heap.size:=Nat.le_trans HS14.out (Nat.le_trans HB1516.out (Nat.le_trans HB1617.out (Nat.le_trans HB1718.out hb19.size)))
  have hbq:∀ g,Sh.blk ⟨q15,AN,S2,0 + 1 + 1⟩ = some g → g < w19.heap.size:=(ShRow.of_fr (s:=⟨q15,AN,S2,0 + 1 + 1⟩) (HQ18.out.below hb19)).2 |> fun h g hg=>(h g hg).2
  have hok:=(shs_one (s:=⟨q10,AN,S1,0 + 1⟩) (HF18.out.below hb19) hblk).append (shs_one (s:=⟨q15,AN,S2,0 + 1 + 1⟩) (HQ18.out.below hb19) hbq) hsz HB914.out.size
  have HAp:=hid (apart_any Kb w9.heap.size _ w9.heap.size w19.heap.size w19 HBk19.out hok (Nat.le_refl _) HB919.out.size (by simp))
  have HB19:=hid (HB18.out.trans (hb19.mono HB18.out.size))
  clear hw19 hb19 hblk hsz hbq hok hx0 y2 y3 y4 y5 y6 y7 y8 y9 z0 heq hq1 hq2 HD1 HCp HC1 HC2 HC3 HC4
  go_wp2_with fail
  refine HAp.out.mono ?_
  rintro e w20 ⟨rfl,hb20⟩
  have HB20:=hid (HB19.out.trans (hb20.mono HB9.out.size))
  clear hb20 HAp
  go_wp2_with (go_at_call 4;refine (lives_any _).mono ?_;rintro e w21 ⟨rfl,hb21⟩)
  go_ret
  exact ⟨rfl,HB20.out.trans (hb21.mono HB20.out.size)⟩
end Go.Proofs.Herb
