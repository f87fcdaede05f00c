/- Bytes in memory, CRC-32C bit by bit and by its table, and what a slice of the call's own is: plain lemmas and laws of append; no program. No condition. Laws of append of zeros, of whole blocks, and what Put writes (putRec): plain lemmas; no program. No condition. The contracts of slices.Clip and Clone at bytes. For slices that can be read. Laws of append at slices of bytes of the call's own. For slices that can be read. Laws of append onto a slice without room behind it: nothing that was there is written. For slices that can be read. Facts and items, as cells, and slices of them that can be read: plain. -/
import Derived.WalkKit
import Derived.Laws.BitsAllLaws
import Derived.Laws.CopyOwn
import Derived.Deep.MidRow
import Derived.Laws.AppendOwnNone
import Derived.ArgAppend
import Derived.Deep.AppendLies
import Derived.Deep.RegionLaw
import Derived.WalkLawsBesides
import Derived.WalkSpells
import Derived.Outline
import Derived.Deep.LoopGhost
import Derived.Deep.QuietTactic
import Derived.Deep.DeepCutAuto
import Derived.BigQuiet
import Derived.Test.YtbaohpnfiacchaaGreatDoorProg
import Derived.Deep.AppendSrc
import Derived.Lib.AppendStr
import Derived.Laws.MakeOwn
namespace Go.Proofs.Herb
open Go.RowKit
theorem hid {p:Prop} (h:p):Hid p:=h
/-! bytes in memory -/
def bv (c:UInt8):Value:=.int .u8 (c.toNat:Int)
theorem bv_one {l:List UInt8}:∀ u ∈ l.map bv,u.oneCell' = true:=by
 intro u hu
 simp at hu
 obtain ⟨a,_,rfl⟩:=hu
 rfl
def Rd (w:World) (a:Option Addr) (xs:List Value):Prop :=
 xs = [] ∨ ∃ b off,a = some ⟨b,off,none⟩ ∧ ∀ j u,xs[j]? = some u → w.cell? ⟨b,off + j,none⟩ = some u
def crcBit (x:BitVec 32):BitVec 32:=(x >>> 1) ^^^ (if x.getLsbD 0 then 0x82f63b78#32 else 0#32)
def crcBits:Nat → BitVec 32 → BitVec 32
 | 0,x=>x
 | n + 1,x=>crcBits n (crcBit x)
theorem crcBit_xor (a b:BitVec 32):crcBit (a ^^^ b) = crcBit a ^^^ crcBit b:=by
 unfold crcBit
 have e:(a ^^^ b) >>> 1 = (a >>> 1) ^^^ (b >>> 1):=by
  apply BitVec.eq_of_getLsbD_eq;intro i hi;simp
 rw [e,BitVec.getLsbD_xor]
 generalize a >>> 1 = u
 generalize b >>> 1 = v
 apply BitVec.eq_of_getLsbD_eq;intro i _
 simp only [BitVec.getLsbD_xor]
 cases a.getLsbD 0 <;> cases b.getLsbD 0 <;> simp only [Bool.xor_self,Bool.false_xor,if_true,if_false,Bool.false_eq_true,BitVec.getLsbD_zero,Bool.xor_false] <;> generalize u.getLsbD i = p <;> generalize v.getLsbD i = q <;> generalize BitVec.getLsbD 0x82f63b78#32 i = r <;> cases p <;> cases q <;> cases r <;> rfl
theorem crcBits_xor (n:Nat) (a b:BitVec 32):crcBits n (a ^^^ b) = crcBits n a ^^^ crcBits n b:=by
 induction n generalizing a b with
 | zero=>rfl
 | succ n ih=>simp only [crcBits,crcBit_xor,ih]
theorem crcBits_high (n:Nat) (a:BitVec 32) (h:∀ i,i < n → a.getLsbD i = false):crcBits n a = a >>> n:=by
 induction n generalizing a with
 | zero=>simp [crcBits]
 | succ n ih =>
  have h0:=h 0 (by omega)
  have e:crcBit a = a >>> 1:=by unfold crcBit;rw [h0];simp
  rw [crcBits,e,ih]
  ·apply BitVec.eq_of_getLsbD_eq;intro i hi;simp;congr 1;omega
  ·intro i hi
   rw [BitVec.getLsbD_ushiftRight];exact h (1 + i) (by omega)
def crcByte (x:BitVec 32) (c:BitVec 8):BitVec 32:=crcBits 8 (x ^^^ c.setWidth 32)
theorem crcByte_table (x:BitVec 32) (c:BitVec 8):crcByte x c = (x >>> 8) ^^^ crcBits 8 ((x.setWidth 8 ^^^ c).setWidth 32):=by
 unfold crcByte
 have e:x ^^^ c.setWidth 32 = ((x >>> 8) <<< 8) ^^^ ((x.setWidth 8 ^^^ c).setWidth 32):=by
  apply BitVec.eq_of_getLsbD_eq;intro i hi
  simp only [BitVec.getLsbD_xor,BitVec.getLsbD_setWidth,BitVec.getLsbD_shiftLeft,BitVec.getLsbD_ushiftRight]
  by_cases h:i < 8
  ·simp [h,hi]
  ·simp [h,hi,show 8 + (i - 8) = i by omega]
 rw [e,crcBits_xor,crcBits_high 8 ((x >>> 8) <<< 8)]
 ·congr 1
  apply BitVec.eq_of_getLsbD_eq;intro i hi
  simp only [BitVec.getLsbD_shiftLeft,BitVec.getLsbD_ushiftRight]
  by_cases h:8 + i < 32
  ·simp [h]
  ·simp [h];exact BitVec.getLsbD_of_ge x _ (by omega)
 ·intro i hi
  simp [hi]
theorem crcBit_form (X:BitVec 32):bits BinOp.xor IntKind.u32 ((X.toNat:Int) / 2) (bits BinOp.and IntKind.u32 2197175160 (-bits BinOp.and IntKind.u32 (X.toNat:Int) 1 % 4294967296)) = ((crcBit X).toNat:Int):=by
 have hX:=X.isLt
 have e1:bits BinOp.and IntKind.u32 (X.toNat:Int) 1 = ((X.toNat % 2:Nat):Int):=by
  rw [show (1:Int) = ((1:Nat):Int) from rfl,u32_and_nat _ _ hX (by decide),Nat.and_one_is_mod]
 rw [e1]
 have e0:((X.toNat:Int) / 2) = ((X.toNat / 2:Nat):Int):=by omega
 rw [e0]
 have hb:X.getLsbD 0 = decide (X.toNat % 2 = 1):=by
  rw [BitVec.getLsbD,Nat.testBit_zero]
 unfold crcBit
 rw [hb]
 rcases Nat.mod_two_eq_zero_or_one X.toNat with h | h
 ·rw [h]
  have e2 : -((0:Nat):Int) % 4294967296 = ((0:Nat):Int):=by decide
  rw [e2,show (2197175160:Int) = ((2197175160:Nat):Int) from rfl,u32_and_nat _ _ (by decide) (by decide),Nat.and_zero,u32_xor_nat _ _ (by omega) (by decide)]
  simp [BitVec.toNat_ushiftRight,Nat.shiftRight_eq_div_pow]
 ·rw [h]
  have e2 : -((1:Nat):Int) % 4294967296 = ((4294967295:Nat):Int):=by decide
  rw [e2,show (2197175160:Int) = ((2197175160:Nat):Int) from rfl,u32_and_nat _ _ (by decide) (by decide),show (2197175160 &&& 4294967295:Nat) = 2197175160 from by decide,u32_xor_nat _ _ (by omega) (by decide)]
  simp [BitVec.toNat_ushiftRight,Nat.shiftRight_eq_div_pow]

theorem crcBits_snoc (n:Nat) (x:BitVec 32):crcBits (n + 1) x = crcBit (crcBits n x):=by
 induction n generalizing x with
 | zero=>rfl
 | succ n ih=>rw [crcBits,ih];rfl
def crcFold (x:BitVec 32) (l:List UInt8):BitVec 32:=l.foldl (fun x c=>crcByte x c.toBitVec) x
def crcMore (s:BitVec 32) (l:List UInt8):BitVec 32 := ~~~ (crcFold (~~~ s) l)
theorem crcFold_snoc (x:BitVec 32) (l:List UInt8) (c:UInt8):crcFold x (l ++ [c]) = crcByte (crcFold x l) c.toBitVec:=by simp [crcFold]
theorem crc_not_form (s:BitVec 32):bits BinOp.xor IntKind.u32 IntKind.u32.max (s.toNat:Int) = ((~~~ s).toNat:Int):=by
 have hs:=s.isLt
 rw [show IntKind.u32.max = ((4294967295:Nat):Int) from rfl,u32_xor_nat _ _ (by decide) hs]
 rw [show ~~~ s = BitVec.allOnes 32 ^^^ s from (BitVec.allOnes_xor).symm,BitVec.toNat_xor]
 rfl
theorem crc_idx_form (X:BitVec 32) (q:UInt8):bits BinOp.xor IntKind.u8 ((X.toNat:Int) % 256) (q.toNat:Int) = (((X.setWidth 8 ^^^ q.toBitVec).toNat:Nat):Int):=by
 have hq:q.toNat < 256:=q.toBitVec.isLt
 rw [show ((X.toNat:Int) % 256) = ((X.toNat % 256:Nat):Int) by omega,u8_xor_nat _ _ (by omega) hq,BitVec.toNat_xor,BitVec.toNat_setWidth]
 rfl
theorem crc_byte_form (X:BitVec 32) (q:UInt8) (T:Nat) (hT:T = (X.setWidth 8 ^^^ q.toBitVec).toNat):bits BinOp.xor IntKind.u32 ((X.toNat:Int) / 256) ((crcBits 8 (BitVec.ofNat 32 T)).toNat:Int) = ((crcByte X q.toBitVec).toNat:Int):=by
 have hX:=X.isLt
 have hY:=(crcBits 8 (BitVec.ofNat 32 T)).isLt
 rw [show ((X.toNat:Int) / 256) = ((X.toNat / 256:Nat):Int) by omega,u32_xor_nat _ _ (by omega) hY,crcByte_table,BitVec.toNat_xor,BitVec.toNat_ushiftRight,Nat.shiftRight_eq_div_pow,hT]
 rw [BitVec.ofNat_toNat]
def crcTab (k:Nat):Value:=.int .u32 ((crcBits 8 (BitVec.ofNat 32 k)).toNat:Int)
def crcTable:Array Value:=((List.range 256).map crcTab).toArray

theorem Rd.cell {w:World} {a:Option Addr} {xs:List Value} (h:Rd w a xs) {k:Nat} (hk:k < xs.length):∃ b off,a = some ⟨b,off,none⟩ ∧ w.cell? ⟨b,off + k,none⟩ = some xs[k]:=by
 rcases h with rfl | ⟨b,off,rfl,hc⟩
 ·simp at hk
 ·exact ⟨b,off,rfl,hc k _ (List.getElem?_eq_getElem hk)⟩
theorem Rd.lt {w:World} {a:Option Addr} {xs:List Value} (h:Rd w a xs) {b off:Nat} (ha:a = some ⟨b,off,none⟩) (hx:0 < xs.length):b < w.heap.size:=by
 obtain ⟨b',off',e,hc⟩:=h.cell hx
 rw [ha] at e;simp at e;obtain ⟨rfl,rfl⟩:=e
 exact World.block_lt_of_cell? w _ hc
theorem Rd.below {w w':World} {a:Option Addr} {xs:List Value} (h:Rd w a xs) (hb:Below w.heap.size w w'):Rd w' a xs:=by
 rcases h with rfl | ⟨b,off,rfl,hc⟩
 ·exact .inl rfl
 ·refine .inr ⟨b,off,rfl,fun j u hu => ?_⟩
  have:=hc j u hu
  rw [hb.cell (World.block_lt_of_cell? w _ this)];exact this
theorem Rd.cellB {w w':World} {a:Option Addr} {xs:List Value} (h:Rd w a xs) (hb:Below w.heap.size w w') {k:Nat} (hk:k < xs.length):∃ b off,a = some ⟨b,off,Option.none⟩ ∧ b < w.heap.size ∧ w'.cell? ⟨b,off + k,Option.none⟩ = some xs[k]:=by
 obtain ⟨b,off,ha,hc⟩:=h.cell hk
 have hl:=World.block_lt_of_cell? w _ hc
 exact ⟨b,off,ha,hl,by rw [hb.cell hl];exact hc⟩
theorem Rd.add {w:World} {ad:Addr} {xs:List Value} (h:Rd w (some ad) xs):∀ j u,xs[j]? = some u → w.cell? (ad.add j) = some u:=by
 intro j u hu
 rcases h with rfl | ⟨b,off,e,hc⟩
 ·simp at hu
 ·simp at e;subst e
  rw [Addr.add_mid];exact hc j u hu
theorem Rd.none {w:World} {xs:List Value} (h:Rd w none xs):xs = []:=by
 rcases h with h | ⟨b,off,e,_⟩
 ·exact h
 ·cases e
theorem Rd.alloc {w:World} {a:Option Addr} {xs:List Value} (h:Rd w a xs) (o:Obj):Rd (w.alloc o) a xs:=h.below ((Below.refl _ _).alloc (Nat.le_refl _) _)
theorem Rd.new (w:World) (cs:List Value) (e:TypeId):Rd (w.alloc (.cells cs.toArray e)) (some ⟨w.heap.size,0,Option.none⟩) cs :=
 .inr ⟨_,_,rfl,fun j u hu=>by rw [Nat.zero_add,World.cell?_alloc_new];simpa using hu⟩
theorem Rd.block {w:World} {g off:Nat} {cur:Array Value} {e:TypeId} {fr:Nat × Nat} {xs:List Value} (h:w.heap[g]? = some (.cells cur e fr)) (hx:∀ j u,xs[j]? = some u → cur[off + j]? = some u):Rd w (some ⟨g,off,Option.none⟩) xs :=
 .inr ⟨_,_,rfl,fun j u hu=>by rw [cell_of_row _ _ _ _ _ _ h];exact hx j u hu⟩
def Fr (w:World) (base:Nat) (e:TypeId) (k:Nat) (v:Value) (n:Nat) (xs:List Value):Prop :=
 xs.length = n * k ∧ ((v = .slice none 0 0 ∧ n = 0) ∨ ∃ g cap cur,v = .slice (some ⟨g,0,Option.none⟩) n cap ∧ base ≤ g ∧ w.heap[g]? = some (.cells cur e (0,0)) ∧ n ≤ cap ∧ cap ≤ maxLen ∧ cap * k ≤ cur.size ∧ cur.toList.take (n * k) = xs)
theorem Fr.of_own {w:World} {base:Nat} {e:TypeId} {k:Nat} {v:Value} {n:Nat} {xs:List Value} (h:w.ownsRow base e k v n xs):Fr w base e k v n xs:=by
 obtain ⟨h1,h2⟩:=h
 refine ⟨h1, ?_⟩
 rcases h2 with h2 | ⟨g,cap,cur,hv,hg,hh,hn,hc,hs,ht⟩
 ·exact .inl h2
 ·exact .inr ⟨g,cap,cur,hv,hg,hh,hn,hc,by omega,ht⟩
theorem Fr.shape {w:World} {base:Nat} {e:TypeId} {k:Nat} {v:Value} {n:Nat} {xs:List Value} (h:Fr w base e k v n xs):∃ a c,v = .slice a n c ∧ n ≤ c ∧ c ≤ maxLen ∧ Rd w a xs ∧ (a = none → n = 0 ∧ c = 0):=by
 obtain ⟨h1,h2⟩:=h
 rcases h2 with ⟨rfl,rfl⟩ | ⟨g,cap,cur,hv,hg,hh,hn,hc,hs,ht⟩
 ·exact ⟨none,0,rfl,by omega,by simp [maxLen],.inl (List.eq_nil_of_length_eq_zero (by omega)),fun _=>⟨rfl,rfl⟩⟩
 ·refine ⟨_,cap,hv,hn,hc,.inr ⟨g,0,rfl,fun j u hu => ?_⟩,fun e=>by cases e⟩
  rw [Nat.zero_add,cell_of_row _ _ _ _ _ _ hh]
  rw [← ht,List.getElem?_take] at hu
  split at hu
  ·simpa using hu
  ·cases hu
theorem Fr.kept {w w':World} {base:Nat} {e:TypeId} {k:Nat} {v:Value} {n:Nat} {xs:List Value} (h:Fr w base e k v n xs) (hb:∀ g,base ≤ g → g < w.heap.size → w'.heap[g]? = w.heap[g]?):Fr w' base e k v n xs:=by
 obtain ⟨h1,h2⟩:=h
 refine ⟨h1, ?_⟩
 rcases h2 with h2 | ⟨g,cap,cur,hv,hg,hh,r⟩
 ·exact .inl h2
 ·exact .inr ⟨g,cap,cur,hv,hg,(hb g hg (lt_of_block hh)).trans hh,r⟩
theorem Fr.below {w w':World} {base:Nat} {e:TypeId} {k:Nat} {v:Value} {n:Nat} {xs:List Value} (h:Fr w base e k v n xs) (hb:Below w.heap.size w w'):Fr w' base e k v n xs :=
 h.kept fun g _ h2=>hb.block g h2
theorem Fr.mono {w:World} {base base':Nat} {e:TypeId} {k:Nat} {v:Value} {n:Nat} {xs:List Value} (h:Fr w base e k v n xs) (hb:base' ≤ base):Fr w base' e k v n xs:=by
 obtain ⟨h1,h2⟩:=h
 refine ⟨h1, ?_⟩
 rcases h2 with h2 | ⟨g,cap,cur,hv,hg,r⟩
 ·exact .inl h2
 ·exact .inr ⟨g,cap,cur,hv,by omega,r⟩
theorem own_below {w w':World} {base:Nat} {e:TypeId} {k:Nat} {v:Value} {n:Nat} {xs:List Value} (h:w.ownsRow base e k v n xs) (hb:Below w.heap.size w w'):w'.ownsRow base e k v n xs:=by
 obtain ⟨h1,h2⟩:=h
 refine ⟨h1, ?_⟩
 rcases h2 with h2 | ⟨g,cap,cur,hv,hg,hh,r⟩
 ·exact .inl h2
 ·exact .inr ⟨g,cap,cur,hv,hg,(hb.block g (lt_of_block hh)).trans hh,r⟩
theorem own_mono {w:World} {base base':Nat} {e:TypeId} {k:Nat} {v:Value} {n:Nat} {xs:List Value} (h:w.ownsRow base e k v n xs) (hb:base' ≤ base):w.ownsRow base' e k v n xs:=by
 obtain ⟨h1,h2⟩:=h
 refine ⟨h1, ?_⟩
 rcases h2 with h2 | ⟨g,cap,cur,hv,hg,r⟩
 ·exact .inl h2
 ·exact .inr ⟨g,cap,cur,hv,by omega,r⟩
theorem Below.grown' {B:Nat} {a w w':World} {v:Value} {e:TypeId} {k n:Nat} {xs:List Value} (h:Below B a w) (hown:w.ownsRow B e k v n xs) (hg:w.grownBy w' v.ownBlock) (hB:B ≤ w.heap.size):Below B a w' :=
 h.grown hg hB fun j hj=>(hown.lt j hj).1
/-! append of whatever can be read -/
section
variable {P:Program}
theorem wpList_append_rd {w:World} {ops:Array Oper} {rest:List Oper} {o:Oper} {a:Act} {Q:Exit → Act → World → Prop} (hgd:o.guard = none) (s x:Operand) (t:TypeId)
  (ho:o.op = .call { callee:=.builtin .append,args := #[s,x],argTypes := #[t,t] })
  (base:Nat) (e:TypeId) (z:Value) (size bytes:Nat) (ht:P.underlying t = some (.slice e)) (hinfo:(P.info? e).map (fun i=>(i.zero,i.size,i.bytes)) = some (some z,size,bytes)) (hzs:z.cells.size = size) (hsz:0 < size)
  (v:Value) (n:Nat) (xs:List Value) (hs:a.eval s = v) (hown:w.ownsRow base e size v n xs)
  (ad:Option Addr) (m c:Nat) (news:List Value) (hx:a.eval x = .slice ad m c) (hnc:ad = none → c = 0) (hl:news.length = m * size) (hr:Rd w ad news) (h1:∀ u ∈ news,u.oneCell' = true)
  (h63:n + m ≤ maxLen) (hbytes:(n + m) * bytes ≤ 140737488355328) (hbase:base ≤ w.heap.size)
  (h:∀ v' w',w'.ownsRow base e size v' (n + m) (xs ++ news) → w.grownBy w' v.ownBlock → (v' = .slice none 0 0 ↔ v = .slice none 0 0 ∧ m = 0) → wpList P ops Q rest (a.put o.dst v') w'):wpList P ops Q (o :: rest) a w:=by
 obtain ⟨i,hi,hz,hsize,hby⟩:=info_parts hinfo
 cases ad with
 | none =>
  have hn:=hr.none
  subst hn
  have hm:m = 0:=by
   rcases Nat.eq_zero_or_pos m with h | h
   ·exact h
   ·have:=Nat.mul_pos h hsz;simp at hl;omega
  subst hm
  have hc:=hnc rfl
  subst hc
  exact wpList_append_own_none hgd s x t ho base e i size ht hi v n xs hs hown hx (h v w (by simpa using hown) (World.grownBy.refl _ _) (by simp))
 | some ad =>
  exact wpList_append_own w hgd s x t ho base e i z size bytes ht hi hz hsize hby hzs hsz v n xs hs hown ad m c news hx hl hr.add h1 h63 hbytes hbase h
end
theorem i64_or_nat (a b:Nat) (ha:a < 9223372036854775808) (hb:b < 9223372036854775808):bits .or .i64 (a:Int) (b:Int) = ((a ||| b:Nat):Int):=by
 have hc:(a ||| b) < 9223372036854775808:=Nat.or_lt_two_pow (n:=63) ha hb
 have h:bits .or .i64 (a:Int) (b:Int) = IntKind.i64.wrap ((BitVec.ofInt 64 (a:Int) ||| BitVec.ofInt 64 (b:Int):BitVec 64).toNat:Int):=rfl
 rw [h,BitVec.toNat_or,ofInt_u64 a (by omega),ofInt_u64 b (by omega),IntKind.wrap_i64]
 omega
theorem i64_or_bytes (x y:UInt8):bits .or .i64 (x.toNat:Int) ((y.toNat:Int) * 256) = ((x.toNat + 256 * y.toNat:Nat):Int):=by
 have hx:=x.toNat_lt
 have hy:=y.toNat_lt
 rw [show ((y.toNat:Int) * 256) = ((256 * y.toNat:Nat):Int) by omega,i64_or_nat _ _ (by omega) (by omega),Nat.or_comm,nat_join 8 _ _ (by omega) (by omega),Nat.add_comm]
/-! frames: what a head says -/
/-! two lists compared,place by place -/
theorem eq_end {α:Type} [BEq α] [LawfulBEq α] (l k:List α) (j:Nat) (h:l.take j = k.take j) (_h1:j ≤ l.length) (_h2:j ≤ k.length) (_hj:l.length ≤ j ∨ k.length ≤ j):(((l.length:Int)) == (k.length:Int)) = (l == k):=by
 rw [Bool.eq_iff_iff,beq_iff_eq,beq_iff_eq]
 constructor
 ·intro e
  rw [List.take_of_length_le (by omega),List.take_of_length_le (by omega)] at h
  exact h
 ·rintro rfl;rfl
theorem eq_round {α:Type} (l k:List α) (j:Nat) (h:l.take j = k.take j) (h1:j < l.length) (h2:j < k.length) (he:l[j] = k[j]):l.take (j + 1) = k.take (j + 1):=by
 rw [List.take_succ_eq_append_getElem h1,List.take_succ_eq_append_getElem h2,h,he]
theorem eq_not {α:Type} [BEq α] [LawfulBEq α] (l k:List α) (j:Nat) (h1:j < l.length) (h2:j < k.length) (he:l[j] ≠ k[j]):(l == k) = false:=by
 rw [beq_eq_false_iff_ne]
 rintro rfl
 exact he rfl
/-! a whole block stored -/
section
variable {P:Program}
theorem run_storeVar_block (w:World) (g:Nat) (t ty:TypeId) (cur cells:Array Value) (hg:w.heap[g]? = some (.cells cur t (0,0))) (hs:cur.size = cells.size)
  (hi:(P.info? ty).map (·.size) = some cells.size) (h1:∀ v ∈ cells.toList,v.oneCell' = true) :
  (storeVar ty ⟨g,0,none⟩ (.agg cells)).run P w = .ok () (w.setRow g cells):=by
 have h:=run_storeCells_at P g 0 t cells.toList 0 cur w hg (by simp [hs]) h1
 cases hq:P.info? ty with
 | none=>simp [hq] at hi
 | some i =>
  have hz:cells.size = i.size:=by simp [hq] at hi;omega
  have e:(List.take (0 + 0) cur.toList ++ cells.toList ++ List.drop (0 + 0 + cells.toList.length) cur.toList).toArray = cells:=by
   rw [List.drop_of_length_le (by simp [hs])];simp
  rw [e] at h
  simp [storeVar,sizeOf,typeInfo,hq,Value.cells,hz,h]
theorem wp_store_block {op:Oper} {a:Act} {w:World} {K:Act → World → Prop} {Q:Exit → Act → World → Prop} (ty:TypeId) (x y:Operand) (ho:op.op = .store ty x y)
  (g:Nat) (t:TypeId) (cur cells:Array Value) (hx:a.eval x = .pointer (some ⟨g,0,none⟩)) (hy:a.eval y = .agg cells)
  (hg:w.heap[g]? = some (.cells cur t (0,0))) (hs:cur.size = cells.size)
  (hi:(P.info? ty).map (·.size) = some cells.size) (h1:∀ v ∈ cells.toList,v.oneCell' = true)
  (h:K (a.put op.dst undef) (w.setRow g cells)):op.wp P a w K Q:=by
 unfold Oper.wp execOp
 simp only [ho,hx,hy,Instr.storeAt,Instr.sureAddr,Sem.run_bind,Sem.run_pure,Result.andThen_ok,run_storeVar_block w g t ty cur cells hg hs hi h1]
 exact h
theorem wpList_store_block {ops:Array Oper} {rest:List Oper} {op:Oper} {a:Act} {w:World} {Q:Exit → Act → World → Prop} (hgd:op.guard = none) (ty:TypeId) (x y:Operand) (ho:op.op = .store ty x y)
  (g:Nat) (t:TypeId) (cur cells:Array Value) (hx:a.eval x = .pointer (some ⟨g,0,none⟩)) (hy:a.eval y = .agg cells)
  (hg:w.heap[g]? = some (.cells cur t (0,0))) (hs:cur.size = cells.size)
  (hi:(P.info? ty).map (·.size) = some cells.size) (h1:∀ v ∈ cells.toList,v.oneCell' = true)
  (h:wpList P ops Q rest (a.put op.dst undef) (w.setRow g cells)):wpList P ops Q (op :: rest) a w :=
 wpList_plain hgd fun _ hK=>wp_store_block ty x y ho g t cur cells hx hy hg hs hi h1 (hK _ _ h)
end
theorem crcTable_of {cur:Array Value} (hs:cur.size = 256) (h:∀ j,j < 256 → cur[j]? = some (crcTab j)):cur = crcTable:=by
 apply Array.ext
 ·simp [crcTable,hs]
 ·intro i h1 h2
  have:=h i (by omega)
  rw [Array.getElem?_eq_getElem h1] at this
  simp only [Option.some.injEq] at this
  rw [this];simp [crcTable]
theorem crcTable_cell {T:Nat} (h:T < 256):crcTable[T]? = some (.int .u32 ((crcBits 8 (BitVec.ofNat 32 T)).toNat:Int)):=by
 simp [crcTable,h,crcTab]
theorem crcTable_size:crcTable.size = 256:=by simp [crcTable]
theorem crcTable_one:∀ v ∈ crcTable.toList,v.oneCell' = true:=by
 intro v hv
 simp [crcTable] at hv
 obtain ⟨a,_,rfl⟩:=hv
 rfl
end Go.Proofs.Herb
namespace Go.Proofs.Herb
open Go.RowKit
section
variable {P:Program} (w:World)
end
section
variable {P:Program}
theorem wp_append_rd {w:World} {o:Oper} {a:Act} {K:Act → World → Prop} {Q:Exit → Act → World → Prop} (s x:Operand) (t:TypeId)
  (ho:o.op = .call { callee:=.builtin .append,args := #[s,x],argTypes := #[t,t] })
  (base:Nat) (e:TypeId) (z:Value) (size bytes:Nat) (ht:P.underlying t = some (.slice e)) (hinfo:(P.info? e).map (fun i=>(i.zero,i.size,i.bytes)) = some (some z,size,bytes)) (hzs:z.cells.size = size) (hsz:0 < size)
  (v:Value) (n:Nat) (xs:List Value) (hs:a.eval s = v) (hown:w.ownsRow base e size v n xs)
  (ad:Option Addr) (m c:Nat) (news:List Value) (hx:a.eval x = .slice ad m c) (hnc:ad = none → c = 0) (hl:news.length = m * size) (hr:Rd w ad news) (h1:∀ u ∈ news,u.oneCell' = true)
  (h63:n + m ≤ maxLen) (hbytes:(n + m) * bytes ≤ 140737488355328) (hbase:base ≤ w.heap.size)
  (h:∀ v' w',w'.ownsRow base e size v' (n + m) (xs ++ news) → w.grownBy w' v.ownBlock → (v' = .slice none 0 0 ↔ v = .slice none 0 0 ∧ m = 0) → K (a.put o.dst v') w'):o.wp P a w K Q:=by
 obtain ⟨i,hi,hz,hsize,hby⟩:=info_parts hinfo
 cases ad with
 | none =>
  have hn:=hr.none
  subst hn
  have hm:m = 0:=by
   rcases Nat.eq_zero_or_pos m with h | h
   ·exact h
   ·have:=Nat.mul_pos h hsz;simp at hl;omega
  subst hm
  have hc:=hnc rfl
  subst hc
  have hrun:=run_append_owned_none (P:=P) (w:=w) base t o.type e i size ht hi v n xs hown
  unfold Oper.wp
  simp [execOp,ho,resolve,invoke,builtin,hs,hx,hrun,Result.andThen]
  exact h v w (by simpa using hown) (World.grownBy.refl _ _) (by simp)
 | some ad =>
  exact wp_append_own w s x t ho base e i z size bytes ht hi hz hsize hby hzs hsz v n xs hs hown ad m c news hx hl hr.add h1 h63 hbytes hbase h
theorem step_append_rd {w:World} {ops:Array Oper} {o:Oper} {a:Act} {K:Act → World → Prop} {Q:Exit → Act → World → Prop} {E:Prop} (hgd:o.guard = none) (s x:Operand) (t:TypeId)
  (ho:o.op = .call { callee:=.builtin .append,args := #[s,x],argTypes := #[t,t] })
  (base:Nat) (e:TypeId) (z:Value) (size bytes:Nat) (ht:P.underlying t = some (.slice e)) (hinfo:(P.info? e).map (fun i=>(i.zero,i.size,i.bytes)) = some (some z,size,bytes)) (hzs:z.cells.size = size) (hsz:0 < size)
  (v:Value) (n:Nat) (xs:List Value) (hs:a.eval s = v) (hown:w.ownsRow base e size v n xs)
  (ad:Option Addr) (m c:Nat) (news:List Value) (hx:a.eval x = .slice ad m c) (hnc:ad = none → c = 0) (hl:news.length = m * size) (hr:Rd w ad news) (h1:∀ u ∈ news,u.oneCell' = true)
  (h63:n + m ≤ maxLen) (hbytes:(n + m) * bytes ≤ 140737488355328) (hbase:base ≤ w.heap.size)
  (h:∀ v' w',w'.ownsRow base e size v' (n + m) (xs ++ news) → w.grownBy w' v.ownBlock → (v' = .slice none 0 0 ↔ v = .slice none 0 0 ∧ m = 0) → K (a.put o.dst v') w') :
  if Region.wanted o (yielded ops a.tmps) = true then Oper.wp P o a w K Q else E:=by
 rw [if_pos (by simp [Region.wanted,hgd])]
 exact wp_append_rd s x t ho base e z size bytes ht hinfo hzs hsz v n xs hs hown ad m c news hx hnc hl hr h1 h63 hbytes hbase h
end
section
variable {P:Program}
end
/-! frames: a record's bytes -/
theorem Rd.take {w:World} {a:Option Addr} {xs:List Value} (h:Rd w a xs) (k:Nat):Rd w a (xs.take k):=by
 rcases h with rfl | ⟨b,off,rfl,hc⟩
 ·exact .inl (by simp)
 ·refine .inr ⟨b,off,rfl,fun j u hu=>hc j u ?_⟩
  rw [List.getElem?_take] at hu
  split at hu
  ·exact hu
  ·cases hu
theorem Rd.drop {w:World} {b off:Nat} {xs:List Value} (h:Rd w (some ⟨b,off,Option.none⟩) xs) (k:Nat):Rd w (some ⟨b,off + k,Option.none⟩) (xs.drop k):=by
 rcases h with rfl | ⟨b',off',e,hc⟩
 ·exact .inl (by simp)
 ·simp at e;obtain ⟨rfl,rfl⟩:=e
  refine .inr ⟨_,_,rfl,fun j u hu => ?_⟩
  rw [List.getElem?_drop] at hu
  rw [Nat.add_assoc];exact hc _ _ hu
def kd (begun last:Bool):UInt8:=if last then (if begun then 4 else 1) else (if begun then 3 else 2)
theorem Fr.clip {w:World} {base:Nat} {e:TypeId} {k:Nat} {q:Option Addr} {n c:Nat} {xs:List Value} (h:Fr w base e k (.slice q n c) n xs):Fr w base e k (.slice q n n) n xs:=by
 obtain ⟨h1,h2⟩:=h
 refine ⟨h1, ?_⟩
 rcases h2 with ⟨h2,h3⟩ | ⟨g,cap,cur,hv,hg,hh,hn,hc,hs,ht⟩
 ·simp at h2;obtain ⟨rfl,rfl,rfl⟩:=h2;exact .inl ⟨rfl,rfl⟩
 ·simp at hv;obtain ⟨rfl,rfl⟩:=hv
  exact .inr ⟨g,n,cur,rfl,hg,hh,Nat.le_refl _,by omega,Nat.le_trans (Nat.mul_le_mul_right _ hn) hs,ht⟩
theorem own_setRow {w:World} {base:Nat} {e:TypeId} {size:Nat} {v:Value} {n:Nat} {xs:List Value} (h:w.ownsRow base e size v n xs) {g:Nat} (hg:g < base) (cs:Array Value):(w.setRow g cs).ownsRow base e size v n xs:=by
 obtain ⟨h1,h2⟩:=h
 refine ⟨h1, ?_⟩
 rcases h2 with h2 | ⟨g',cap,cur,hv,hb,hh,r⟩
 ·exact .inl h2
 ·exact .inr ⟨g',cap,cur,hv,hb,(setRow_other w g g' cs (by omega)).trans hh,r⟩
end Go.Proofs.Herb
namespace Go.Proofs.Herb
open Go.RowKit
theorem infoU8:(Tryz.prog.info? 5).map (fun i=>(i.zero,i.size,i.bytes)) = some (some (.int .u8 0),1,1):=by kernel_rfl
set_option maxHeartbeats 400000 in
theorem clip_bytes (a:Option Addr) (n c:Nat) (w:World) (hn:n ≤ c) (_hc:c ≤ maxLen) :
  Calls Tryz.prog 53 #[.slice a n c] w fun e w'=>e = .returned (.slice a n n) ∧ w = w':=by
 unfold maxLen at _hc
 go_enter Tryz.func53,Tryz.ntmps53
 go_wp2
 go_ret
 exact ⟨rfl,rfl⟩
set_option maxRecDepth 100000 in
set_option maxHeartbeats 400000 in
theorem clone_bytes (a:Option Addr) (n c:Nat) (l:List UInt8) (w:World) (hn:l.length = n) (hc:n ≤ c) (hm:n ≤ 4194304) (hr:Rd w a (l.map bv)) (ha:a = none → c = 0) :
  Calls Tryz.prog 21 #[.slice a n c] w fun e w'=>∃ v,e = .returned v ∧ Fr w' w.heap.size 5 1 v n (l.map bv) ∧ Below w.heap.size w w':=by
 have heq:=fun (w:World) (a:Option Addr) (n c:Nat)=>Lib.run_eql_slice_nil (P:=Tryz.prog) w 22 5 a n c 0 0 Tryz.underlying22
 cases a with
 | none =>
  have Hr:=hid hr
  clear hr
  obtain rfl:=ha rfl
  obtain rfl:n = 0:=by omega
  go_enter Tryz.func21,Tryz.ntmps21
  go_wp2
  go_ret
  exact ⟨_,rfl,⟨by simp [hn],.inl ⟨rfl,rfl⟩⟩,Below.refl _ _⟩
 | some ad =>
  have Hr:=hid hr
  have Hn:=hid hn
  clear hr hn ha
  go_enter Tryz.func21,Tryz.ntmps21
  go_wp2_with (refine wpList_append_rd rfl (.tmp 5) (.tmp 6) 22 rfl w.heap.size 5 _ 1 1 Tryz.underlying22 infoU8 rfl (by decide) (.slice (some ⟨w.heap.size,0,none⟩) 0 0) 0 [] rfl (World.ownsRow_made w #[] 0 (Nat.le_refl _) (by decide) rfl) _ n c (l.map bv) rfl (fun h=>by cases h) (by have:=Hn.out;simp;omega) (Hr.out.alloc _) bv_one (by unfold maxLen;omega) (by omega) (by simp) ?_;intro v' w1 hown hg hnil)
  go_ret
  refine ⟨_,rfl,Fr.of_own (by simpa using hown), ?_⟩
  exact ((Below.refl _ _).alloc (Nat.le_refl _) _).grown hg (by simp) (by simp [Value.ownBlock])
end Go.Proofs.Herb
namespace Go.Proofs.Herb
open Go.RowKit
structure Grew (base:Nat) (w w':World) (q:Option Addr) (q':Option Addr) (m c':Nat) (l:List UInt8):Prop where
 len:m ≤ c'
 max:c' ≤ maxLen
 nil:q' = none → c' = 0
 own:w'.ownsRow base 5 1 (.slice q' m c') m (l.map bv)
 below:Below base w w'
 other:∀ g,g < w.heap.size → (∀ b,q = some b → g ≠ b.block) → w'.heap[g]? = w.heap[g]?
theorem own_shape {w:World} {base:Nat} {e:TypeId} {k:Nat} {v:Value} {n:Nat} {xs:List Value} (h:w.ownsRow base e k v n xs):∃ q c,v = .slice q n c ∧ n ≤ c ∧ c ≤ maxLen ∧ (q = none → c = 0):=by
 obtain ⟨a,c,h1,h2,h3,_,h5⟩:=(Fr.of_own h).shape
 exact ⟨a,c,h1,h2,h3,fun e=>(h5 e).2⟩
theorem grew_of {base:Nat} {w w':World} {q:Option Addr} {n c:Nat} {xs:List Value} (hown:w.ownsRow base 5 1 (.slice q n c) n xs) (hbase:base ≤ w.heap.size) {v':Value} {m:Nat} {l:List UInt8}
  (h1:w'.ownsRow base 5 1 v' m (l.map bv)) (h2:w.grownBy w' (Value.ownBlock (.slice q n c))):∃ q' c',v' = .slice q' m c' ∧ Grew base w w' q q' m c' l:=by
 obtain ⟨q',c',rfl,h3,h4,h5⟩:=own_shape h1
 refine ⟨q',c',rfl,h3,h4,h5,h1,(Below.refl base w).grown h2 hbase (fun j e=>(hown.lt j e).1),fun g hg hne=>h2.block g hg ?_⟩
 intro e
 cases q with
 | none=>simp [Value.ownBlock] at e
 | some b=>simp [Value.ownBlock] at e;exact hne b rfl e
section
variable {ops:Array Oper} {rest:List Oper} {o:Oper} {a:Act} {w:World} {K:Act → World → Prop} {Q:Exit → Act → World → Prop} {E:Prop}
theorem app22 (hgd:o.guard = none) (s x:Operand) (ho:o.op = .call { callee:=.builtin .append,args := #[s,x],argTypes := #[22,22] })
  (base:Nat) (q:Option Addr) (n c:Nat) (l:List UInt8) (hs:a.eval s = .slice q n c) (hown:w.ownsRow base 5 1 (.slice q n c) n (l.map bv))
  (ad:Option Addr) (m d:Nat) (k:List UInt8) (hx:a.eval x = .slice ad m d) (hnc:ad = none → d = 0) (hl:k.length = m) (hr:Rd w ad (k.map bv)) (hsz:n + m ≤ 1000000000000) (hbase:base ≤ w.heap.size)
  (h:∀ q' c' w',Grew base w w' q q' (n + m) c' (l ++ k) → wpList Tryz.prog ops Q rest (a.put o.dst (.slice q' (n + m) c')) w'):wpList Tryz.prog ops Q (o :: rest) a w :=
 wpList_append_rd hgd s x 22 ho base 5 (.int .u8 0) 1 1 Tryz.underlying22 infoU8 rfl (by decide) (.slice q n c) n (l.map bv) hs hown ad m d (k.map bv) hx hnc (by simp [hl]) hr bv_one (by unfold maxLen;omega) (by omega) hbase
  (fun v' w' h1 h2 _=>by
   rw [← List.map_append] at h1
   obtain ⟨q',c',rfl,hg⟩:=grew_of hown hbase h1 h2
   exact h q' c' w' hg)
theorem app22s (hgd:o.guard = none) (s x:Operand) (ho:o.op = .call { callee:=.builtin .append,args := #[s,x],argTypes := #[22,22] })
  (base:Nat) (q:Option Addr) (n c:Nat) (l:List UInt8) (hs:a.eval s = .slice q n c) (hown:w.ownsRow base 5 1 (.slice q n c) n (l.map bv))
  (ad:Option Addr) (m d:Nat) (k:List UInt8) (hx:a.eval x = .slice ad m d) (hnc:ad = none → d = 0) (hl:k.length = m) (hr:Rd w ad (k.map bv)) (hsz:n + m ≤ 1000000000000) (hbase:base ≤ w.heap.size)
  (h:∀ q' c' w',Grew base w w' q q' (n + m) c' (l ++ k) → K (a.put o.dst (.slice q' (n + m) c')) w'):if Region.wanted o (yielded ops a.tmps) = true then Oper.wp Tryz.prog o a w K Q else E :=
 step_append_rd hgd s x 22 ho base 5 (.int .u8 0) 1 1 Tryz.underlying22 infoU8 rfl (by decide) (.slice q n c) n (l.map bv) hs hown ad m d (k.map bv) hx hnc (by simp [hl]) hr bv_one (by unfold maxLen;omega) (by omega) hbase
  (fun v' w' h1 h2 _=>by
   rw [← List.map_append] at h1
   obtain ⟨q',c',rfl,hg⟩:=grew_of hown hbase h1 h2
   exact h q' c' w' hg)
theorem own_nil22 (w:World) (base:Nat):w.ownsRow base 5 1 (.slice none 0 0) 0 (([]:List UInt8).map bv):=World.ownsRow_nil w base 5 1
theorem own_lit22 (w:World) (base:Nat) (l:List UInt8) (n:Nat) (hb:base ≤ w.heap.size) (hn:l.length = n) (hm:n ≤ maxLen):(w.alloc (.cells (l.map bv).toArray 5)).ownsRow base 5 1 (.slice (some ⟨w.heap.size,0,none⟩) n n) n (l.map bv):=by
 have h:=World.ownsRow_lit (size:=1) (e:=5) w (l.map bv).toArray n hb hm (by simp [hn])
 simpa using h
end
theorem Grew.fr {base:Nat} {w w':World} {q q':Option Addr} {m c':Nat} {l:List UInt8} (h:Grew base w w' q q' m c' l):Fr w' base 5 1 (.slice q' m c') m (l.map bv):=Fr.of_own h.own
theorem Fr.rd {w:World} {base:Nat} {e:TypeId} {k:Nat} {q:Option Addr} {n c:Nat} {xs:List Value} (h:Fr w base e k (.slice q n c) n xs):Rd w q xs:=by
 obtain ⟨a,c',h1,_,_,h2,_⟩:=h.shape
 simp at h1;rw [h1.1];exact h2
end Go.Proofs.Herb
namespace Go.Proofs.Herb
open Go.RowKit
section
variable {P:Program}
theorem src_rd {size:Nat} (hsz:0 < size) {tx e':TypeId} (hk:P.underlying tx = some (.slice e')) {w:World} {ad:Option Addr} {m:Nat} (c:Nat) {news:List Value} (hl:news.length = m * size) (hr:Rd w ad news) (h1:∀ u ∈ news,u.oneCell' = true):Src P size tx (.slice ad m c) m news w:=by
 cases ad with
 | none =>
  have hn:=hr.none
  subst hn
  have hm:m = 0:=by
   rcases Nat.eq_zero_or_pos m with h | h
   ·exact h
   ·have:=Nat.mul_pos h hsz;simp at hl;omega
  subst hm
  exact Src.ofNil w hk c
 | some ad=>exact Src.ofSlice w hk ad m c news hl hr.add h1
theorem run_append_clip (w:World) (t tx ty e:TypeId) (i:TypeInfo) (z:Value) (size bytes:Nat) (ht:P.underlying t = some (.slice e)) (hi:P.info? e = some i) (hz:i.zero = some z)
  (hsize:i.size = size) (hby:i.bytes = bytes) (hzs:z.cells.size = size) (hsz:0 < size) (q:Option Addr) (n:Nat) (xs:List Value) (hlx:xs.length = n * size) (hr:Rd w q xs) (x:Value) (m:Nat) (news:List Value)
  (hs:Src P size tx x m news w) (h63:n + m ≤ maxLen) (hbytes:(n + m) * bytes ≤ 140737488355328) :
  ∃ q' c' w',(Builtin.append_ #[t,tx] ty #[.slice q n n,x]).run P w = .ok (.slice q' (n + m) c') w' ∧
   ((m = 0 ∧ q' = q ∧ c' = n ∧ w' = w) ∨ (w'.ownsRow w.heap.size e size (.slice q' (n + m) c') (n + m) (xs ++ news) ∧ w.grownBy w' none)):=by
 subst hsize
 subst hby
 by_cases hm:m = 0
 ·subst hm
  have hn0:news = []:=List.eq_nil_of_length_eq_zero (by have:=hs.newsLen;omega)
  subst hn0
  refine ⟨q,n,w, ?_,.inl ⟨rfl,rfl,rfl,rfl⟩⟩
  have hc:=hs.cells
  cases q with
  | none=>rcases hs.kind with ⟨e',hk⟩ | hk <;> simp [Builtin.append_,run_underlying ht,run_underlying hk,sizeOf,typeInfo,hi,hs.len,hc]
  | some b=>rcases hs.kind with ⟨e',hk⟩ | hk <;> simp [Builtin.append_,run_underlying ht,run_underlying hk,sizeOf,typeInfo,hi,hs.len,hc,storeCells]
 ·have hold:(Builtin.firstCells i.size n (.slice q n n)).run P w.drew = .ok xs.toArray w.drew:=by
   cases q with
   | none=>rw [hr.none];exact run_firstCells_none _ _ _ _ _
   | some b=>exact run_firstCells_some (P:=P) w.drew i.size n b n n xs hlx (by simpa using hr.add)
  have hg:n < n + m:=by omega
  have hsmall:n + m ≤ 9223372036854775807:=by simp only [maxLen] at h63;omega
  have hlen:(xs ++ news).length = (n + m) * i.size:=by rw [List.length_append,hlx,hs.newsLen,Nat.add_mul]
  have hge:=grownCap_ge w (n + m) n e
  have hcm:grownCap w (n + m) n e ≤ maxLen:=grownCap_le_maxLen w (n + m) n e h63
  have hrun:=run_append_grow_src (P:=P) w t tx ty e i z ht hi hz q n n xs hold x m news hs hg (by omega) (growslice_fits hg hbytes)
  refine ⟨_,_,_,hrun,.inr ⟨⟨hlen,.inr ⟨w.heap.size,_,_,rfl,Nat.le_refl _,heap_alloc_new w.drew _,hge,hcm, ?_, ?_⟩⟩,⟨rfl,rfl,rfl,by simp,fun k hk _=>Below.heap_alloc w.drew _ k hk⟩⟩⟩
  ·simp only [Array.size_append,List.size_toArray,size_zeroCells,hzs,hlen,← Nat.add_mul]
   congr 1
   omega
  ·simp only [Array.toList_append]
   rw [← hlen]
   exact List.take_left
theorem wpList_append_clip {w:World} {ops:Array Oper} {rest:List Oper} {o:Oper} {a:Act} {Q:Exit → Act → World → Prop} (hgd:o.guard = none) (s x:Operand) (t tx:TypeId)
  (ho:o.op = .call { callee:=.builtin .append,args := #[s,x],argTypes := #[t,tx] })
  (base:Nat) (e:TypeId) (z:Value) (size bytes:Nat) (ht:P.underlying t = some (.slice e)) (hinfo:(P.info? e).map (fun i=>(i.zero,i.size,i.bytes)) = some (some z,size,bytes)) (hzs:z.cells.size = size) (hsz:0 < size)
  (q:Option Addr) (n:Nat) (xs:List Value) (hs:a.eval s = .slice q n n) (hf:Fr w base e size (.slice q n n) n xs)
  (X:Value) (m:Nat) (news:List Value) (hx:a.eval x = X) (hsrc:Src P size tx X m news w) (h63:n + m ≤ maxLen) (hbytes:(n + m) * bytes ≤ 140737488355328) (hbase:base ≤ w.heap.size)
  (h:∀ q' c' w',Fr w' base e size (.slice q' (n + m) c') (n + m) (xs ++ news) → n + m ≤ c' → c' ≤ maxLen → (q' = none → c' = 0) → Below w.heap.size w w' → wpList P ops Q rest (a.put o.dst (.slice q' (n + m) c')) w'):wpList P ops Q (o :: rest) a w:=by
 obtain ⟨i,hi,hz,hsize,hby⟩:=info_parts hinfo
 have hrd:Rd w q xs:=by
  obtain ⟨a',c',h1,_,_,h2,_⟩:=hf.shape
  simp at h1;rw [h1.1];exact h2
 obtain ⟨q',c',w',hrun,hcase⟩:=run_append_clip (P:=P) w t tx o.type e i z size bytes ht hi hz hsize hby hzs hsz q n xs hf.1 hrd X m news hsrc h63 hbytes
 refine wpList_plain hgd fun K hK => ?_
 unfold Oper.wp execOp
 simp only [ho,resolve,invoke,builtin,Sem.run_bind,Sem.run_pure,Result.andThen_ok,List.map_toArray,List.map_cons,List.map_nil,hs,hx,hrun]
 refine hK _ _ ?_
 rcases hcase with ⟨rfl,rfl,rfl,rfl⟩ | ⟨hown,hgr⟩
 ·have hn0:news = []:=List.eq_nil_of_length_eq_zero (by have:=hsrc.newsLen;omega)
  subst hn0
  obtain ⟨a',c',h1,h2,h3,_,h4⟩:=hf.shape
  simp at h1
  exact h _ _ _ (by rw [List.append_nil];exact hf) (Nat.le_refl _) (by simp only [maxLen] at h63 ⊢;omega) (fun e=>(h4 (by rw [← h1.1];exact e)).1) (Below.refl _ _)
 ·obtain ⟨a',c2,h1,h2,h3,_,h4⟩:=(Fr.of_own hown).shape
  simp at h1
  exact h _ _ _ ((Fr.of_own hown).mono hbase) (by omega) (by omega) (fun e=>by have:=(h4 (by rw [← h1.1];exact e)).2;omega) ⟨hgr.os,hgr.tape,hgr.output,hgr.size,fun k hk=>hgr.block k hk (by simp)⟩
end
theorem strCells_bv (s:ByteArray):byteCells s = s.data.toList.map bv:=rfl
section
variable {ops:Array Oper} {rest:List Oper} {o:Oper} {a:Act} {w:World} {Q:Exit → Act → World → Prop}
theorem appStr (hgd:o.guard = none) (s x:Operand) (ho:o.op = .call { callee:=.builtin .append,args := #[s,x],argTypes := #[22,9] })
  (base:Nat) (q:Option Addr) (n:Nat) (l:List UInt8) (hs:a.eval s = .slice q n n) (hf:Fr w base 5 1 (.slice q n n) n (l.map bv)) (k:ByteArray) (hx:a.eval x = .string k) (hsz:n + k.size ≤ 1000000000000) (hbase:base ≤ w.heap.size)
  (h:∀ q' c' w',Fr w' base 5 1 (.slice q' (n + k.size) c') (n + k.size) ((l ++ k.data.toList).map bv) → n + k.size ≤ c' → c' ≤ maxLen → (q' = none → c' = 0) → Below w.heap.size w w' → wpList Tryz.prog ops Q rest (a.put o.dst (.slice q' (n + k.size) c')) w'):wpList Tryz.prog ops Q (o :: rest) a w :=
 wpList_append_clip hgd s x 22 9 ho base 5 (.int .u8 0) 1 1 Tryz.underlying22 infoU8 rfl (by decide) q n (l.map bv) hs hf (.string k) k.size (k.data.toList.map bv) hx (strCells_bv k ▸ Src.ofString w Tryz.underlying9 k) (by unfold maxLen;omega) (by omega) hbase
  (fun q' c' w' h1 h2 h3 h4 h5=>h q' c' w' (by rw [List.map_append];exact h1) h2 h3 h4 h5)
end
end Go.Proofs.Herb
namespace Go.Proofs.Herb
open Go.RowKit
structure Fact where
 key:ByteArray
 valid:Nat
 seq:Nat
 line:Nat
 kind:Nat
 val:ByteArray
def Fact.cells (f:Fact):List Value:=[.string f.key,.int .u32 (f.valid:Int),.int .u64 (f.seq:Int),.int .u64 (f.line:Int),.int .u8 (f.kind:Int),.string f.val]
structure Fact.Ok (f:Fact):Prop where
 valid:f.valid < 4294967296
 seq:f.seq < 18446744073709551616
 line:f.line < 18446744073709551616
 kind:f.kind < 256
 key:f.key.size ≤ maxLen
 val:f.val.size ≤ maxLen
def fCells (l:List Fact):List Value:=l.flatMap Fact.cells
theorem fCells_cons (f:Fact) (l:List Fact):fCells (f :: l) = .string f.key :: .int .u32 (f.valid:Int) :: .int .u64 (f.seq:Int) :: .int .u64 (f.line:Int) :: .int .u8 (f.kind:Int) :: .string f.val :: fCells l:=rfl
theorem fCells_len (l:List Fact):(fCells l).length = l.length * 6:=by
 induction l with
 | nil=>rfl
 | cons f l ih=>rw [fCells_cons];simp only [List.length_cons,ih];omega
theorem fCells_append (l k:List Fact):fCells (l ++ k) = fCells l ++ fCells k:=by simp [fCells]
theorem fCells_one (l:List Fact):∀ u ∈ fCells l,u.oneCell' = true:=by
 intro u hu
 unfold fCells at hu
 rw [List.mem_flatMap] at hu
 obtain ⟨c,_,hc⟩:=hu
 simp only [Fact.cells,List.mem_cons,List.not_mem_nil,or_false] at hc
 rcases hc with rfl | rfl | rfl | rfl | rfl | rfl <;> rfl
theorem fCells_at:∀ (l:List Fact) (j:Nat) (f:Fact),l[j]? = some f → (fCells l)[j * 6]? = some (.string f.key) ∧ (fCells l)[j * 6 + 1]? = some (.int .u32 (f.valid:Int)) ∧ (fCells l)[j * 6 + 2]? = some (.int .u64 (f.seq:Int)) ∧ (fCells l)[j * 6 + 3]? = some (.int .u64 (f.line:Int)) ∧ (fCells l)[j * 6 + 4]? = some (.int .u8 (f.kind:Int)) ∧ (fCells l)[j * 6 + 5]? = some (.string f.val)
 | [],_,_,h=>by simp at h
 | y :: l,0,f,h=>by
  simp only [List.getElem?_cons_zero,Option.some.injEq] at h
  subst h
  exact ⟨rfl,rfl,rfl,rfl,rfl,rfl⟩
 | y :: l,j + 1,f,h=>by
  have h2:=fCells_at l j f (by simpa using h)
  rw [fCells_cons,show (j + 1) * 6 = j * 6 + 1 + 1 + 1 + 1 + 1 + 1 from by omega]
  simpa [Nat.add_assoc] using h2
structure FactAt (w:World) (b o:Nat) (f:Fact):Prop where
 c0:w.cell? ⟨b,o,none⟩ = some (.string f.key)
 c1:w.cell? ⟨b,o + 1,none⟩ = some (.int .u32 (f.valid:Int))
 c2:w.cell? ⟨b,o + 2,none⟩ = some (.int .u64 (f.seq:Int))
 c3:w.cell? ⟨b,o + 3,none⟩ = some (.int .u64 (f.line:Int))
 c4:w.cell? ⟨b,o + 4,none⟩ = some (.int .u8 (f.kind:Int))
 c5:w.cell? ⟨b,o + 5,none⟩ = some (.string f.val)
theorem fact_at {w:World} {q:Option Addr} {l:List Fact} {j:Nat} (h:Rd w q (fCells l)) (hj:j < l.length) :
  ∃ b off,q = some ⟨b,off,none⟩ ∧ b < w.heap.size ∧ FactAt w b (off + j * 6) l[j]:=by
 obtain ⟨h0,h1,h2,h3,h4,h5⟩:=fCells_at l j _ (List.getElem?_eq_getElem hj)
 rcases h with hz | ⟨b,off,hq,hr⟩
 ·rw [hz] at h1;simp at h1
 ·have c0:=hr _ _ h0
  exact ⟨b,off,hq,World.block_lt_of_cell? w _ c0,c0,by have:=hr _ _ h1;rwa [← Nat.add_assoc] at this,by have:=hr _ _ h2;rwa [← Nat.add_assoc] at this,by have:=hr _ _ h3;rwa [← Nat.add_assoc] at this,by have:=hr _ _ h4;rwa [← Nat.add_assoc] at this,by have:=hr _ _ h5;rwa [← Nat.add_assoc] at this⟩
/-! items -/
structure Item where
 key:ByteArray
 val:ByteArray
def iCells (l:List Item):List Value:=l.flatMap fun x=>[.string x.key,.string x.val]
theorem iCells_cons (x:Item) (l:List Item):iCells (x :: l) = .string x.key :: .string x.val :: iCells l:=rfl
theorem iCells_len (l:List Item):(iCells l).length = l.length * 2:=by
 induction l with
 | nil=>rfl
 | cons f l ih=>rw [iCells_cons];simp only [List.length_cons,ih];omega
theorem iCells_append (l k:List Item):iCells (l ++ k) = iCells l ++ iCells k:=by simp [iCells]
theorem iCells_at:∀ (l:List Item) (j:Nat) (x:Item),l[j]? = some x → (iCells l)[j * 2]? = some (.string x.key) ∧ (iCells l)[j * 2 + 1]? = some (.string x.val)
 | [],_,_,h=>by simp at h
 | y :: l,0,f,h=>by
  simp only [List.getElem?_cons_zero,Option.some.injEq] at h
  subst h
  exact ⟨rfl,rfl⟩
 | y :: l,j + 1,f,h=>by
  have h2:=iCells_at l j f (by simpa using h)
  rw [iCells_cons,show (j + 1) * 2 = j * 2 + 1 + 1 from by omega]
  simpa [Nat.add_assoc] using h2
theorem item_at {w:World} {q:Option Addr} {l:List Item} {j:Nat} (h:Rd w q (iCells l)) (hj:j < l.length) :
  ∃ b off,q = some ⟨b,off,none⟩ ∧ b < w.heap.size ∧ w.cell? ⟨b,off + j * 2,none⟩ = some (.string l[j].key) ∧ w.cell? ⟨b,off + j * 2 + 1,none⟩ = some (.string l[j].val):=by
 obtain ⟨h0,h1⟩:=iCells_at l j _ (List.getElem?_eq_getElem hj)
 rcases h with hz | ⟨b,off,hq,hr⟩
 ·rw [hz] at h1;simp at h1
 ·have c0:=hr _ _ h0
  exact ⟨b,off,hq,World.block_lt_of_cell? w _ c0,c0,by have:=hr _ _ h1;rwa [← Nat.add_assoc] at this⟩
theorem iCells_take (l:List Item) (k:Nat):iCells (l.take k) = (iCells l).take (k * 2):=by
 induction l generalizing k with
 | nil=>simp [iCells]
 | cons x l ih =>
  cases k with
  | zero=>simp [iCells]
  | succ k=>rw [List.take_succ_cons,iCells_cons,iCells_cons,show (k + 1) * 2 = k * 2 + 1 + 1 from by omega,List.take_succ_cons,List.take_succ_cons,ih]
theorem iCells_drop (l:List Item) (k:Nat):iCells (l.drop k) = (iCells l).drop (k * 2):=by
 induction l generalizing k with
 | nil=>simp [iCells]
 | cons x l ih =>
  cases k with
  | zero=>simp [iCells]
  | succ k=>rw [List.drop_succ_cons,iCells_cons,show (k + 1) * 2 = k * 2 + 1 + 1 from by omega,List.drop_succ_cons,List.drop_succ_cons,ih]
theorem fCells_take (l:List Fact) (k:Nat):fCells (l.take k) = (fCells l).take (k * 6):=by
 induction l generalizing k with
 | nil=>simp [fCells]
 | cons x l ih =>
  cases k with
  | zero=>simp [fCells]
  | succ k =>
   rw [List.take_succ_cons,fCells_cons,fCells_cons,show (k + 1) * 6 = k * 6 + 1 + 1 + 1 + 1 + 1 + 1 from by omega]
   simp only [List.take_succ_cons,ih]
theorem run_make_cap {P:Program} (t e:TypeId) (z:Value) (size bytes:Nat) (ht:P.underlying t = some (.slice e)) (hinfo:(P.info? e).map (fun i=>(i.zero,i.size,i.bytes)) = some (some z,size,bytes))
  (X:Int) (C:Nat) (hX:X = (C:Int)) (hb:bytes * C ≤ 281474976710656) (h63:C ≤ 9223372036854775807) (w:World) :
  (Instr.makeSlice t (.int .i64 0) (.int .i64 X)).run P w = .ok (.slice (some ⟨w.heap.size,0,none⟩) 0 C) (w.alloc (.cells (madeCells z.cells (C * size)) e)):=by
 subst hX
 obtain ⟨i,hi,hz,hsize,hby⟩:=info_parts hinfo
 have hb':(i.bytes:Int) * (C:Int) ≤ 281474976710656:=by
  have h:((i.bytes * C:Nat):Int) ≤ 281474976710656:=by rw [hby];omega
  rwa [Int.natCast_mul] at h
 have hr:=run_make (P:=P) w t e i z ht hi hz .i64 .i64 0 C (by omega) (by omega) hb' (by omega)
 simp only [Int.toNat_natCast,hsize,Int.toNat_zero] at hr
 exact hr
end Go.Proofs.Herb
