/- The contract of blooms.Of. For keys that can be read. -/
import Derived.Laws.MakeOwn
import Derived.Deep.DeepCutAuto
import Derived.RangeFuncLeaves
import Derived.RegionTactic
import Derived.RegionIn
import Derived.BigRegionIn
import Derived.Test.YtbaohpnfiacchaaGreatDoorQb01
import Derived.Test.YtbaohpnfiacchaaGreatDoorQb08
namespace Go.Proofs.Herb
open Go.RowKit
attribute [local go_sem] Oper.semAt_some
def Marks (base:Nat):List Deferred → World → Prop
 | [],_=>True
 | d :: ds,w=>(∃ D,d = { target:=.collected D,args := #[] } ∧ base ≤ D ∧ w.heap[D]? = some (.deferred (some [])) ∧ ∀ d' ∈ ds,d'.target ≠ .collected D) ∧ Marks base ds w
theorem Marks.keeps {base:Nat}:∀ {ds:List Deferred} {A B:World},Marks base ds A → KeepsFrom base A B → Marks base ds B
 | [],_,_,_,_=>trivial
 | _ :: _,_,_,h,k=>⟨by obtain ⟨⟨D,h1,h2,h3,h4⟩,_⟩:=h;exact ⟨D,h1,h2,k.same _ _ h2 h3 rfl,h4⟩,Marks.keeps h.2 k⟩
theorem Marks.putObj {base:Nat}:∀ {ds:List Deferred} {A:World} {l:Nat} (o:Obj),Marks base ds A → (∀ d ∈ ds,d.target ≠ .collected l) → Marks base ds (A.putObj l o)
 | [],_,_,_,_,_=>trivial
 | d :: ds,A,l,o,h,k=>⟨by
   obtain ⟨⟨D,h1,h2,h3,h4⟩,_⟩:=h
   refine ⟨D,h1,h2,(World.putObj_heap_other (fun e => ?_)).trans h3,h4⟩
   subst e
   exact k d (by simp) (by rw [h1]),Marks.putObj o h.2 (fun d' hd=>k d' (by simp [hd]))⟩
theorem Marks.lt {base:Nat}:∀ {ds:List Deferred} {A:World},Marks base ds A → ∀ d ∈ ds,∀ l,d.target = .collected l → l < A.heap.size
 | [],_,_,d,hd,_,_=>by cases hd
 | d0 :: ds,A,h,d,hd,l,hl=>by
  rcases List.mem_cons.1 hd with rfl | hd
  ·obtain ⟨⟨D,h1,_,h3,_⟩,_⟩:=h
   rw [h1] at hl
   cases hl
   exact (Array.getElem?_eq_some_iff.1 h3).1
  ·exact Marks.lt h.2 d hd l hl
structure Shut (base:Nat) (A B:World):Prop where
 cells:∀ (g:Nat) (cs:Array Value) (t:TypeId) (fr:Nat × Nat),A.heap[g]? = some (.cells cs t fr) → B.heap[g]? = some (.cells cs t fr)
 below:∀ b,b ≤ base → Below b A B
theorem Shut.refl (base:Nat) (A:World):Shut base A A:=⟨fun _ _ _ _ h=>h,fun _ _=>Below.refl _ _⟩
theorem leaves_marks {F:Fence} {n:Nat} {P:Program} {fn:Func} {tmps:Array Value} {R:Ending → World → Prop} {base:Nat}:∀ (ds:List Deferred) (w:World),Marks base ds w →
  (∀ w',Shut base w w' → LeavesInM F n P fn tmps R [] .returning w') → LeavesInM F n P fn tmps R ds .returning w
 | [],w,_,h=>h w (Shut.refl _ _)
 | d :: ds,w,hm,h=>by
  obtain ⟨⟨D,h1,h2,h3,h4⟩,hm2⟩:=hm
  refine ⟨by simp,.inl ⟨D,_,by rw [h1],run_takeDeferred h3, ?_⟩⟩
  refine leaves_marks ds _ (hm2.putObj _ h4) (fun w' hs=>h w' ⟨fun g cs t fr hg=>hs.cells g cs t fr ((World.putObj_heap_other (fun e=>by subst e;rw [h3] at hg;cases hg)).trans hg),fun b hb => ?_⟩)
  exact (below_putObj (Below.refl b w) (Nat.le_trans hb h2) _ h3).trans (hs.below b hb)
def setBit (b:List UInt8) (a:Nat):List UInt8:=b.set (a / 8) ((b[a / 8]?).getD 0 ||| UInt8.ofNat (2 ^ (a % 8)))
def bitsF (m:Nat) (b:List UInt8) (key:List UInt8):List UInt8:=(placesF key m).foldl setBit b
def blN (n:Nat):Nat:=max 8 ((10 * n + 7) / 8)
def ofF (keys:List (List UInt8)):List UInt8:=(keys.foldl (bitsF (8 * blN keys.length)) (List.replicate (blN keys.length + 1) 0)).set (blN keys.length) 6
theorem setBit_len (b:List UInt8) (a:Nat):(setBit b a).length = b.length:=by simp [setBit]
theorem bits_len (l:List Nat) (b:List UInt8):(l.foldl setBit b).length = b.length:=by
 induction l generalizing b with
 | nil=>rfl
 | cons a l ih=>rw [List.foldl_cons,ih,setBit_len]
theorem bitsF_len (m:Nat) (b key:List UInt8):(bitsF m b key).length = b.length:=bits_len _ _
theorem fold_len (m:Nat) (ks:List (List UInt8)) (b:List UInt8):(ks.foldl (bitsF m) b).length = b.length:=by
 induction ks generalizing b with
 | nil=>rfl
 | cons a l ih=>rw [List.foldl_cons,ih,bitsF_len]
theorem ofF_len (keys:List (List UInt8)):(ofF keys).length = blN keys.length + 1:=by unfold ofF;rw [List.length_set,fold_len,List.length_replicate]
theorem made_zeros (n:Nat):madeCells #[.int .u8 0] n = ((List.replicate n (0:UInt8)).map bv).toArray:=by
 unfold madeCells
 apply Array.ext_getElem?
 intro i
 by_cases h:i < n
 ·simp [h,bv,Nat.mod_one]
 ·simp [h]
theorem run_make_len {P:Program} (t e:TypeId) (z:Value) (size bytes:Nat) (ht:P.underlying t = some (.slice e)) (hinfo:(P.info? e).map (fun i=>(i.zero,i.size,i.bytes)) = some (some z,size,bytes))
  (X:Int) (C:Nat) (hX:X = (C:Int)) (hb:bytes * C ≤ 281474976710656) (h63:C ≤ 9223372036854775807) (w:World) :
  (Instr.makeSlice t (.int .i64 X) (.int .i64 X)).run P w = .ok (.slice (some ⟨w.heap.size,0,none⟩) C C) (w.alloc (.cells (madeCells z.cells (C * size)) e)):=by
 subst hX
 obtain ⟨i,hi,hz,hsize,hby⟩:=info_parts hinfo
 have hb':(i.bytes:Int) * (C:Int) ≤ 281474976710656:=by
  have h:((i.bytes * C:Nat):Int) ≤ 281474976710656:=by rw [hby];omega
  rwa [Int.natCast_mul] at h
 have hr:=run_make (P:=P) w t e i z ht hi hz .i64 .i64 C C (by omega) (by omega) hb' (by omega)
 simp only [Int.toNat_natCast,hsize] at hr
 exact hr
theorem keepsFrom_below {b:Nat} {A B:World} (h:Below A.heap.size A B):KeepsFrom b A B:=⟨h.size,fun k _ _ hk _=>(h.block k (Array.getElem?_eq_some_iff.1 hk).1).trans hk⟩
theorem or_pow_all:∀ n:Fin 256,∀ r:Fin 8,bits BinOp.or IntKind.u8 (n.val:Int) ((2:Int) ^ min r.val 8 % 256) = ((UInt8.ofNat n.val ||| UInt8.ofNat (2 ^ r.val)).toNat:Int):=by decide +kernel
theorem or_pow (y:UInt8) (r:Nat) (h:r < 8):bits BinOp.or IntKind.u8 (y.toNat:Int) ((2:Int) ^ min r 8 % 256) = ((y ||| UInt8.ofNat (2 ^ r)).toNat:Int):=by
 have h1:=or_pow_all ⟨y.toNat,y.toNat_lt⟩ ⟨r,h⟩
 simpa using h1
def BloI (w:World) (ds:List Deferred) (P g:Nat) (v:Value) (L:List UInt8) (pre:List Nat) (W:World):Prop :=
 Marks w.heap.size ds W ∧ Boxed W P 22 v ∧ W.heap[g]? = some (.cells ((pre.foldl setBit L).map bv).toArray 5 (0,0)) ∧ Below w.heap.size w W
theorem BloI.stays (w:World) (ds:List Deferred) (P g:Nat) (v:Value) (L:List UInt8) (pre:List Nat):Stays (BloI w ds P g v L pre):=by
 rintro A B ⟨h1,h2,h3,h4⟩ hb
 exact ⟨h1.keeps (keepsFrom_below hb),(hb.block P h2.lt).trans h2,(hb.block g (lt_of_block h3)).trans h3,h4.trans (hb.mono h4.size)⟩
theorem BloI.only (w:World) (ds:List Deferred) (P g:Nat) (v:Value) (L:List UInt8) (pre:List Nat) (A B:World) (h:BloI w ds P g v L pre A) (hr:Only (fun _=>False) A B):BloI w ds P g v L pre B:=by
 obtain ⟨h1,h2,h3,h4⟩:=h
 exact ⟨h1.keeps (hr.keeps _),hr.same _ _ h2 id,hr.same _ _ h3 id,h4.trans (hr.below h4.size (fun _ _=>id))⟩
theorem BloI.turns (w:World) (ds:List Deferred) (P g b0:Nat) (v:Value) (L:List UInt8) (hb:w.heap.size ≤ b0) (hd:∀ d ∈ ds,∀ l,d.target = .collected l → l < b0) (pre:List Nat):Turns b0 (BloI w ds P g v L pre):=by
 rintro W l o o' ⟨h1,h2,h3,h4⟩ hl ho hc
 refine ⟨h1.putObj _ (fun d hm e=>by have:=hd d hm l e;omega),boxed_putObj h2 o' ho hc,(World.putObj_heap_other (fun e=>by subst e;rw [ho] at h3;cases h3;cases hc)).trans h3,below_putObj h4 (by omega) o' ho⟩
set_option maxRecDepth 100000 in
set_option maxHeartbeats 4000000 in
theorem of_keys (q:Option Addr) (n c:Nat) (ks:List (List UInt8)) (w:World) (hn:ks.length = n) (hm:n ≤ 24000) (hr:Rd w q (ks.map fun l=>.string ⟨l.toArray⟩)) (hks:∀ k ∈ ks,k.length ≤ 1000000) :
  Calls Tryz.prog 48 #[.slice q n c] w fun e w'=>∃ g cap,e = .returned (.slice (some ⟨g,0,none⟩) (blN n + 1) cap) ∧ blN n + 1 ≤ cap ∧ cap ≤ maxLen ∧ w.heap.size ≤ g ∧ w'.heap[g]? = some (.cells ((ofF ks).map bv).toArray 5 (0,0)) ∧ Below w.heap.size w w':=by
 refine (callsIn_wide (n:=3)).1 (callsIn_of_wp_marks Tryz.func48 rfl trivial ?_ rfl)
 refine wpIn_wide.2 ?_
 simp only [Tryz.ntmps48,List.size_toArray,List.length_cons,List.length_nil,Nat.reduceAdd,Nat.reduceSub,Array.replicate_succ,Array.replicate_zero,List.push_toArray,List.append_toArray,List.nil_append,List.cons_append]
 obtain ⟨N,hN⟩:∃ N,N = blN n:=⟨_,rfl⟩
 have hNv:(if (8:Int) < (10 * (n:Int) + 7) / 8 then (10 * (n:Int) + 7) / 8 else 8) = (N:Int):=by rw [hN];unfold blN;split <;> omega
 have hNm:max (8:Int) ((10 * (n:Int) + 7) / 8) = (N:Int):=by rw [hN];unfold blN;omega
 have hNl:N ≤ 100000:=by rw [hN];unfold blN;omega
 have HNN:=hid hN
 have hmk:=run_make_len (P:=Tryz.prog) 22 5 (.int .u8 0) 1 1 Tryz.underlying22 infoU8 ((N:Int) + 1) (N + 1) (by omega) (by omega) (by omega)
 clear hN
 go_wp2_with fail
 obtain ⟨P,hP⟩:∃ P,P = w.heap.size + 1:=⟨_,rfl⟩
 obtain ⟨w1,hw1⟩:∃ w1,(w.alloc (.cells (madeCells #[.int .u8 0] (N + 1)) 5)).alloc (.cells #[.slice (some ⟨w.heap.size,0,none⟩) (N + 1) (N + 1)] 22) = w1:=⟨_,rfl⟩
 have hB1:Below w.heap.size w w1:=by rw [← hw1];exact ((Below.refl _ _).alloc (Nat.le_refl _) _).alloc (by simp) _
 have hG1:w1.heap[w.heap.size]? = some (.cells ((List.replicate (N + 1) (0:UInt8)).map bv).toArray 5 (0,0)):=by
  rw [← hw1]
  have h:=(Below.heap_alloc (w.alloc (.cells (madeCells #[.int .u8 0] (N + 1)) 5)) (.cells #[.slice (some ⟨w.heap.size,0,none⟩) (N + 1) (N + 1)] 22) w.heap.size (by simp)).trans (heap_alloc_new w _)
  rw [h,made_zeros]
 have hX1:Boxed w1 P 22 (.slice (some ⟨w.heap.size,0,none⟩) (N + 1) (N + 1)):=by
  rw [← hw1,hP]
  have:=Boxed.new (w.alloc (.cells (madeCells #[.int .u8 0] (N + 1)) 5)) 22 (.slice (some ⟨w.heap.size,0,none⟩) (N + 1) (N + 1))
  rwa [World.size_alloc] at this
 rw [hw1,← hP]
 obtain ⟨I,hI⟩:∃ I:Act → World → Prop,I = fun a wr=>∃ (k:Nat) (ds:List Deferred) (u5 u8 u9 u10 u11 u12 u13 u14 u18 u19 u20 u21 u22 u23 u24 u25 u26 u38:Value),a = { tmps := #[.slice q n c,undef,.slice none 0 0,.pointer (some ⟨P,0,none⟩),undef,u5,undef,.slice q n c,u8,u9,u10,u11,u12,u13,u14,.slice q n c,.int .i64 (n:Int),.int .i64 (k:Int),u18,u19,u20,u21,u22,u23,u24,u25,u26,undef,undef,undef,undef,undef,undef,undef,undef,undef,undef,undef,u38,undef,undef,undef,undef,undef,undef],defers:=ds } ∧ k ≤ n ∧ Marks w.heap.size ds wr ∧ Boxed wr P 22 (.slice (some ⟨w.heap.size,0,none⟩) (N + 1) (N + 1)) ∧
   wr.heap[w.heap.size]? = some (.cells (((ks.take k).foldl (bitsF (8 * N)) (List.replicate (N + 1) 0)).map bv).toArray 5 (0,0)) ∧ Below w.heap.size w wr:=⟨_,rfl⟩
 have HI:=hid hI
 have hI0:I { tmps := #[.slice q n c,undef,.slice none 0 0,.pointer (some ⟨P,0,none⟩),undef,undef,undef,.slice q n c,.int .i64 (n:Int),.int .i64 (10 * (n:Int)),.int .i64 (10 * (n:Int) + 7),.int .i64 ((10 * (n:Int) + 7) / 8),.int .i64 (N:Int),.int .i64 ((N:Int) + 1),.slice (some ⟨w.heap.size,0,none⟩) (N + 1) (N + 1),.slice q n c,.int .i64 (n:Int),.int .i64 0,undef,undef,undef,undef,undef,undef,undef,undef,undef,undef,undef,undef,undef,undef,undef,undef,undef,undef,undef,undef,undef,undef,undef,undef,undef,undef,undef],defers:=[] } w1:=by
  rw [hI]
  exact ⟨0,[],_,_,_,_,_,_,_,_,_,_,_,_,_,_,_,_,_,_,rfl,Nat.zero_le _,trivial,hX1,hG1,hB1⟩
 have HI0:=hid hI0
 have Hn:=hid hn
 have Hr:=hid hr
 have Hks:=hid hks
 have hPs:w.heap.size < P:=by omega
 clear hP hI hI0 hw1 hB1 hG1 hX1 hmk hNv hn hr hks
 refine wp_loop I (fun a _=>n - (intOf (a.tmps.getD 17 undef)).toNat) HI0.out ?_
 intro a wr h
 rw [HI.out] at h
 obtain ⟨k,ds,u5,u8,u9,u10,u11,u12,u13,u14,u18,u19,u20,u21,u22,u23,u24,u25,u26,u38,rfl,hk,hmk,hX,hG,hB⟩:=h
 have HMk:=hid hmk
 have HX:=hid hX
 have HG:=hid hG
 have HB:=hid hB
 have hbs:=hB.size
 have cX:=hX.cell
 clear hmk hX hG hB HI0
 by_cases hlt:k < n
 ·have hkl:k < ks.length:=by rw [Hn.out];exact hlt
  have hrd:=Hr.out.below HB.out
  obtain ⟨b,off,rfl,hck⟩:=hrd.cell (k:=k) (by rw [List.length_map];exact hkl)
  rw [List.getElem_map] at hck
  obtain ⟨key,hkey⟩:∃ x:ByteArray,x = ⟨ks[k].toArray⟩:=⟨_,rfl⟩
  rw [← hkey] at hck
  have hkd:key.data.toList = ks[k]:=by rw [hkey]
  have hksz:key.size ≤ 1000000:=by
   have:=Hks.out _ (List.getElem_mem hkl)
   rw [← hkd,Array.length_toList] at this;exact this
  have HKD:=hid hkd
  have i0:(0:Int) ≤ (k:Int):=by omega
  have i1:(k:Int) < (n:Int):=by omega
  clear hkey hkd hrd
  go_wp2_with (go_at_call 84;refine (places_any _ _ _).mono ?_;rintro e w4 ⟨rfl,rfl⟩)
  obtain ⟨B1,hB1⟩:∃ B1,B1 = wr.heap.size:=⟨_,rfl⟩
  obtain ⟨B2,hB2⟩:∃ B2,B2 = wr.heap.size + 1:=⟨_,rfl⟩
  obtain ⟨w4,hw4⟩:∃ w4,(wr.alloc (.cells #[.string key] 9)).alloc (.cells #[.int .i64 (8 * (N:Int))] 3) = w4:=⟨_,rfl⟩
  have hb4:Below wr.heap.size wr w4:=by rw [← hw4];exact ((Below.refl _ _).alloc (Nat.le_refl _) _).alloc (by simp) _
  have hx1:Boxed w4 B1 9 (.string key):=by rw [← hw4,hB1];exact (Boxed.new _ _ _).alloc _
  have hx2:Boxed w4 B2 3 (.int .i64 ((8 * N:Nat):Int)):=by
   rw [← hw4,hB2]
   have:=Boxed.new (wr.alloc (.cells #[.string key] 9)) 3 (.int .i64 (8 * (N:Int)))
   rw [World.size_alloc] at this
   rw [show ((8 * N:Nat):Int) = 8 * (N:Int) by omega];exact this
  have hs4:w4.heap.size = wr.heap.size + 2:=by rw [← hw4];simp
  rw [hw4,← hB2,← hB1]
  obtain ⟨L,hL⟩:∃ L,L = (ks.take k).foldl (bitsF (8 * N)) (List.replicate (N + 1) 0):=⟨_,rfl⟩
  have hLl:L.length = N + 1:=by rw [hL,fold_len,List.length_replicate]
  have hI4:BloI w ds P w.heap.size (.slice (some ⟨w.heap.size,0,none⟩) (N + 1) (N + 1)) L [] w4:=by
   have hG:=HG.out
   rw [← hL] at hG
   exact BloI.stays _ _ _ _ _ _ _ _ _ ⟨HMk.out,HX.out,hG,HB.out⟩ hb4
  have hdl:∀ d ∈ ds,∀ l,d.target = .collected l → l < w4.heap.size:=fun d hd l hl=>by have:=HMk.out.lt d hd l hl;omega
  have HX1:=hid hx1
  have HX2:=hid hx2
  have HI4:=hid hI4
  have HL:=hid hL
  have HLl:=hid hLl
  have hw4s:w.heap.size ≤ w4.heap.size:=by omega
  have hB2lt:B2 < w4.heap.size:=by omega
  have hPB2:P ≠ B2:=by have:=HX.out.lt;omega
  have hgB2:w.heap.size ≠ B2:=by omega
  clear hw4 hb4 hx1 hx2 hI4 hL hLl hB1 hB2 hck cX
  have Hs4:=hid hs4
  clear hs4
  refine wpIn_wide.1 (wpIn_range_stop (n:=3) rfl (by omega) (gf:=114) (lb := #[.pointer (some ⟨B1,0,none⟩),.pointer (some ⟨B2,0,none⟩)]) rfl trivial (enters_of Tryz.func114 (by kernel_rfl) rfl)
   (fun _=>rfl) (places1_in 2 B1 B2 w4.heap.size (8 * N) (by omega) key hksz (by have:=HNN.out;unfold blN at this;omega) (by omega)) (Nat.le_refl _) (fun W hb=>⟨(hb.block _ HX1.out.lt).trans HX1.out,(hb.block _ HX2.out.lt).trans HX2.out⟩) KeepB.trans (fun W l o o' hl _ _=>KeepB.putObj W l o o' (by omega))
   (fun A B h=>h.keeps _) (BloI w ds P w.heap.size (.slice (some ⟨w.heap.size,0,none⟩) (N + 1) (N + 1)) L) (fun _ _ _=>False) (BloI.stays _ _ _ _ _ _) (BloI.only _ _ _ _ _ _) (fun _ _ _ _ h _=>h) (BloI.turns _ _ _ _ _ _ _ hw4s hdl) (fun _ _ _ _ _ _ h _ _ _=>h) (fun _ _ _ _ _ _ h _ _ _=>h)
   HI4.out (fun x => { tmps := #[.slice (some ⟨b,off,none⟩) n c,undef,.slice none 0 0,.pointer (some ⟨P,0,none⟩),undef,.string key,.int .i64 (x:Int),.slice (some ⟨b,off,none⟩) n c,u8,u9,u10,u11,u12,u13,u14,.slice (some ⟨b,off,none⟩) n c,.int .i64 (n:Int),.int .i64 (k:Int),.bool true,.pointer (some ⟨b,off + k,none⟩),.string key,.string key,.slice (some ⟨w.heap.size,0,none⟩) (N + 1) (N + 1),.int .i64 ((N:Int) + 1),.int .i64 (N:Int),.int .i64 (8 * (N:Int)),.func (.func 114) #[] #[.pointer (some ⟨B1,0,none⟩),.pointer (some ⟨B2,0,none⟩)],.int .i64 (x:Int),undef,undef,undef,undef,undef,undef,undef,undef,undef,undef,u38,undef,undef,undef,undef,undef,undef],defers:=[] }) ?assign ?body ?done ?stop)
  case assign =>
   intro l x W K hK
   gi_wp2
   exact hK
  case stop=>exact fun _ _ _ _ _ h _=>h.elim
  case body =>
   rintro l pre x W hl ⟨hmk,hX,hG,hB⟩ hxm
   have hgd:x < 8 * N:=hxm.1
   obtain ⟨C,hC⟩:∃ C,C = pre.foldl setBit L:=⟨_,rfl⟩
   rw [← hC] at hG
   have hCl:C.length = N + 1:=by rw [hC,bits_len,HLl.out]
   have hx8:x / 8 < C.length:=by omega
   obtain ⟨y,hy⟩:∃ y,C[x / 8]? = some y:=⟨_,List.getElem?_eq_getElem hx8⟩
   obtain ⟨D,hD⟩:∃ D,D = x / 8:=⟨_,rfl⟩
   have cX:=hX.cell
   have cG:W.cell? ⟨w.heap.size,D,none⟩ = some (.int .u8 (y.toNat:Int)):=by
    rw [cell_of_row _ _ _ _ _ _ hG,hD,List.getElem?_toArray,List.getElem?_map,hy];rfl
   have fG:W.frozen? ⟨w.heap.size,D,none⟩ = false:=frozen_of_row _ _ _ _ _ hG
   have e1:(x:Int) / 8 = (D:Int):=by omega
   have j0:(0:Int) ≤ (D:Int):=by omega
   have j1:(D:Int) < (N:Int) + 1:=by omega
   have j2:D < N + 1:=by omega
   have s1:IntKind.i64.wrap (D:Int) = (D:Int):=IntWalk.i64_in _ (by omega)
   obtain ⟨r,hr⟩:∃ r,r = x % 8:=⟨_,rfl⟩
   have hr8:r < 8:=by omega
   have s2:(x:Int).tmod 8 = (r:Int):=by rw [Int.tmod_eq_emod_of_nonneg (by omega)];omega
   have s3:(0:Int) ≤ (r:Int):=by omega
   have HRr:=hid hr
   have HR8:=hid hr8
   have HD:=hid hD
   have HY:=hid hy
   have HC:=hid hC
   have HCl:=hid hCl
   have HG2:=hid hG
   have HX3:=hid hX
   have HM3:=hid hmk
   have HB3:=hid hB
   have HXM:=hid hgd
   clear hD hr hr8 hy hC hCl hG hX hmk hB hgd hxm hx8
   gi_wp2
   refine wpIn_region_still_tail 10 rfl (by kernel_rfl) ?_
   simp only [List.take_succ_cons,List.take_zero,List.drop_succ_cons,List.drop_zero]
   repeat still_step
   try refine wpStill_nil ?_
   gi_wp2
   rw [or_pow y r HR8.out]
   have hW:=heap_setCell_same W w.heap.size D _ _ (.int .u8 (((y ||| UInt8.ofNat (2 ^ r)).toNat:Nat):Int)) HG2.out
   have hne:∀ k:Nat,k ≠ w.heap.size → (W.setCell ⟨w.heap.size,D,none⟩ (.int .u8 (((y ||| UInt8.ofNat (2 ^ r)).toNat:Nat):Int))).heap[k]? = W.heap[k]?:=fun k hk=>heap_setCell_other _ _ _ _ hk
   refine ⟨⟨by simp [World.drew],fun k o hk ho _=>(hne k (by have:=Hs4.out;omega)).trans ho⟩,fun o ho=>(hne B2 (Ne.symm hgB2)).trans ho, ?_, ?_, ?_, ?_⟩
   ·exact HM3.out.keeps ⟨by simp [World.drew],fun k o hk ho hc=>(hne k (fun e=>by subst e;rw [HG2.out] at ho;cases ho;cases hc)).trans ho⟩
   ·exact (hne P (by omega)).trans HX3.out
   ·refine hW.trans ?_
    rw [List.foldl_append,List.foldl_cons,List.foldl_nil,← HC.out]
    unfold setBit
    rw [HRr.out,HD.out] at *
    rw [HY.out]
    simp [bv,List.map_set]
   ·exact (HB3.out.setCell (p:=⟨w.heap.size,D,none⟩) (Nat.le_refl _) (.int .u8 (((y ||| UInt8.ofNat (2 ^ r)).toNat:Nat):Int))).drew
  case done =>
   intro D xs W hD hxs hW hD0
   go_wp2
   refine ⟨?_, ?_⟩
   ·rw [HI.out]
    obtain ⟨g1,g2,g3,g4⟩:=hW
    refine ⟨k + 1, { target:=.collected D,args := #[] } :: ds,_,_,_,_,_,_,_,_,_,_,_,_,_,_,_,_,_,_,rfl,hlt,⟨⟨D,rfl,by have:=Hs4.out;omega,hD0,fun d hd e => ?_⟩,g1⟩,g2, ?_,g4⟩
    ·have:=hdl d hd D e
     omega
    ·refine g3.trans ?_
     rw [List.take_succ_eq_append_getElem hkl,List.foldl_append,List.foldl_cons,List.foldl_nil,← HL.out,hxs,HKD.out]
     rfl
   ·simp [intOf]
    omega
 ·have hkn:k = n:=by omega
  subst hkn
  have j0:¬ ((k:Int) < (k:Int)):=by omega
  have cG:wr.cell? ⟨w.heap.size,N,none⟩ = wr.cell? ⟨w.heap.size,N,none⟩:=rfl
  obtain ⟨L,hL⟩:∃ L,L = ks.foldl (bitsF (8 * N)) (List.replicate (N + 1) 0):=⟨_,rfl⟩
  have hLl:L.length = N + 1:=by rw [hL,fold_len,List.length_replicate]
  have hG:=HG.out
  rw [show ks.take k = ks by rw [← Hn.out,List.take_length],← hL] at hG
  have cG:∃ y:UInt8,wr.cell? ⟨w.heap.size,N,none⟩ = some (.int .u8 (y.toNat:Int)):=by
   refine ⟨L[N]'(by omega), ?_⟩
   rw [cell_of_row _ _ _ _ _ _ hG,List.getElem?_toArray,List.getElem?_map,List.getElem?_eq_getElem (by omega)];rfl
  obtain ⟨y,cG⟩:=cG
  have fG:wr.frozen? ⟨w.heap.size,N,none⟩ = false:=frozen_of_row _ _ _ _ _ hG
  have j1:(0:Int) ≤ (N:Int):=by omega
  have j2:(N:Int) < (N:Int) + 1:=by omega
  have HL:=hid hL
  have HG1:=hid hG
  clear hL hG
  go_wp2
  have hne:∀ j:Nat,j ≠ w.heap.size → (wr.setCell ⟨w.heap.size,N,none⟩ (.int .u8 6)).heap[j]? = wr.heap[j]?:=fun j hj=>heap_setCell_other _ _ _ _ hj
  refine leaves_marks _ _ (HMk.out.keeps (B:=wr.setCell ⟨w.heap.size,N,none⟩ (.int .u8 6)) ⟨by simp,fun j o hj ho hc=>(hne j (fun e=>by subst e;rw [HG1.out] at ho;cases ho;cases hc)).trans ho⟩) (fun w' hs => ?_)
  have hG2:=heap_setCell_same wr w.heap.size N _ _ (.int .u8 6) HG1.out
  refine ⟨.slice (some ⟨w.heap.size,0,none⟩) (N + 1) (N + 1), ?_,⟨w.heap.size,N + 1,by rw [← HNN.out],by rw [← HNN.out];omega,by have:=HNN.out;unfold maxLen;omega,Nat.le_refl _, ?_,(HB.out.setCell (p:=⟨w.heap.size,N,none⟩) (Nat.le_refl _) _).trans (hs.below _ (Nat.le_refl _))⟩⟩
  ·simp [results]
  ·refine (hs.cells _ _ _ _ hG2).trans ?_
   unfold ofF
   rw [Hn.out,← HNN.out,← HL.out]
   simp [bv,List.map_set]
end Go.Proofs.Herb
