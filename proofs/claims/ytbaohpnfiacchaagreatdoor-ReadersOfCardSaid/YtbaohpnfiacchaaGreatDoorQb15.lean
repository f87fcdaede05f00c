/- tables.Build for those who call it: what it answers. For facts that can be read. A fact back from its bytes: plain. Four bytes' number: plain. Facts, a part of them; which may be a table, one by one: plain. How many bytes a table has at most; which facts may be one: plain. A table's bytes tell its facts: plain. -/
import Derived.Test.YtbaohpnfiacchaaGreatDoorQb01
import Derived.Test.YtbaohpnfiacchaaGreatDoorQb03
import Derived.Test.YtbaohpnfiacchaaGreatDoorQb04
import Derived.Test.YtbaohpnfiacchaaGreatDoorQb05
import Derived.Test.YtbaohpnfiacchaaGreatDoorQb14
namespace Go.Proofs.Herb
open Go.RowKit
theorem build_no (line:Nat) (q:Option Addr) (n c:Nat) (fs:List Fact) (w:World) (hn:fs.length = n) (hm:n ≤ 24000) (hr:Rd w q (fCells fs)) (ho:∀ f ∈ fs,f.Ok) (h:¬ (GoodF line fs ∧ 0 < fs.length)) :
  Calls Tryz.prog 19 #[.int .u64 (line:Int),.slice q n c] w fun e w'=>e = .returned (.tuple #[.slice none 0 0,.agg zProps,.int .i64 1]) ∧ Below w.heap.size w w' :=
 (build_any line q n c fs w hn hm hr ho).mono fun e w' h'=>by
  obtain ⟨hb,h1 | h1 | h1⟩:=h'
  ·exact ⟨h1.2,hb⟩
  ·exact absurd ⟨h1.1,h1.2.1⟩ h
  ·exact absurd ⟨h1.1,h1.2.1⟩ h
theorem build_big (line:Nat) (q:Option Addr) (n c:Nat) (fs:List Fact) (w:World) (hn:fs.length = n) (hm:n ≤ 24000) (hr:Rd w q (fCells fs)) (ho:∀ f ∈ fs,f.Ok) (h:GoodF line fs ∧ 0 < fs.length) (hl:65536 < (tabB line fs).length) :
  Calls Tryz.prog 19 #[.int .u64 (line:Int),.slice q n c] w fun e w'=>e = .returned (.tuple #[.slice none 0 0,.agg zProps,.int .i64 3]) ∧ Below w.heap.size w w' :=
 (build_any line q n c fs w hn hm hr ho).mono fun e w' h'=>by
  obtain ⟨hb,h1 | h1 | h1⟩:=h'
  ·exact absurd h h1.1
  ·exact ⟨h1.2.2.2,hb⟩
  ·have:=h1.2.2.1.2.2;omega
theorem build_ok (line:Nat) (q:Option Addr) (n c:Nat) (fs:List Fact) (w:World) (hn:fs.length = n) (hm:n ≤ 24000) (hr:Rd w q (fCells fs)) (ho:∀ f ∈ fs,f.Ok) (h:GoodF line fs ∧ 0 < fs.length) (hl:(tabB line fs).length ≤ 65536) :
  Calls Tryz.prog 19 #[.int .u64 (line:Int),.slice q n c] w fun e w'=>∃ p,e = .returned (.tuple #[.slice p (tabB line fs).length (tabB line fs).length,.agg (propsF line fs).cells.toArray,.int .i64 0]) ∧
   Fr w' w.heap.size 5 1 (.slice p (tabB line fs).length (tabB line fs).length) (tabB line fs).length ((tabB line fs).map bv) ∧ Below w.heap.size w w' :=
 (build_any line q n c fs w hn hm hr ho).mono fun e w' h'=>by
  obtain ⟨hb,h1 | h1 | h1⟩:=h'
  ·exact absurd h h1.1
  ·exact absurd ((fits_iff h.1 h.2 ho).2 hl) h1.2.2.1
  ·obtain ⟨_,_,_,p,h2,h3⟩:=h1
   exact ⟨p,h2,h3,hb⟩
noncomputable def buildE (line:Nat) (fs:List Fact):Int:=open Classical in if GoodF line fs ∧ 0 < fs.length then (if (tabB line fs).length ≤ 65536 then 0 else 3) else 1
theorem buildE_zero {line:Nat} {fs:List Fact}:buildE line fs = 0 ↔ (GoodF line fs ∧ 0 < fs.length) ∧ (tabB line fs).length ≤ 65536:=by
 by_cases h:GoodF line fs ∧ 0 < fs.length
 ·by_cases hl:(tabB line fs).length ≤ 65536
  ·exact ⟨fun _=>⟨h,hl⟩,fun _=>by unfold buildE;rw [if_pos h,if_pos hl]⟩
  ·exact ⟨fun e=>by unfold buildE at e;rw [if_pos h,if_neg hl] at e;omega,fun e=>absurd e.2 hl⟩
 ·exact ⟨fun e=>by unfold buildE at e;rw [if_neg h] at e;omega,fun e=>absurd e.1 h⟩
theorem buildE_one {line:Nat} {fs:List Fact}:buildE line fs = 1 ↔ ¬ (GoodF line fs ∧ 0 < fs.length):=by
 by_cases h:GoodF line fs ∧ 0 < fs.length
 ·by_cases hl:(tabB line fs).length ≤ 65536
  ·exact ⟨fun e=>by unfold buildE at e;rw [if_pos h,if_pos hl] at e;omega,fun e=>absurd h e⟩
  ·exact ⟨fun e=>by unfold buildE at e;rw [if_pos h,if_neg hl] at e;omega,fun e=>absurd h e⟩
 ·exact ⟨fun _=>h,fun _=>by unfold buildE;rw [if_neg h]⟩
theorem props_cells8 (p:Props):p.cells.toArray.size = 8 ∧ ∀ v ∈ p.cells.toArray.toList,v.oneCell' = true:=by simp [Props.cells,Value.oneCell']
theorem build_e (line:Nat) (q:Option Addr) (n c:Nat) (fs:List Fact) (w:World) (hn:fs.length = n) (hm:n ≤ 24000) (hr:Rd w q (fCells fs)) (ho:∀ f ∈ fs,f.Ok) :
  Calls Tryz.prog 19 #[.int .u64 (line:Int),.slice q n c] w fun e w'=>∃ p m d arr,e = .returned (.tuple #[.slice p m d,.agg arr,.int .i64 (buildE line fs)]) ∧ arr.size = 8 ∧ (∀ v ∈ arr.toList,v.oneCell' = true) ∧ Below w.heap.size w w':=by
 by_cases h:GoodF line fs ∧ 0 < fs.length
 ·by_cases hl:(tabB line fs).length ≤ 65536
  ·rw [buildE_zero.2 ⟨h,hl⟩]
   exact (build_ok line q n c fs w hn hm hr ho h hl).mono fun e w' ⟨p,h1,_,h3⟩=>⟨p,_,_,_,h1,(props_cells8 _).1,(props_cells8 _).2,h3⟩
  ·have e:buildE line fs = 3:=by unfold buildE;rw [if_pos h,if_neg hl]
   rw [e]
   exact (build_big line q n c fs w hn hm hr ho h (by omega)).mono fun e w' ⟨h1,h3⟩=>⟨none,0,0,_,h1,rfl,zProps1,h3⟩
 ·rw [buildE_one.2 h]
  exact (build_no line q n c fs w hn hm hr ho h).mono fun e w' ⟨h1,h3⟩=>⟨none,0,0,_,h1,rfl,zProps1,h3⟩
end Go.Proofs.Herb
namespace Go.Proofs.Herb
open Go.RowKit
def plainK:List UInt8 → Option (List UInt8 × List UInt8)
 | []=>none
 | [_]=>none
 | c :: d :: r=>if c = 0 then (if d = 0 then some ([],r) else if d = 1 then (plainK r).map (fun x=>(0 :: x.1,x.2)) else none) else (plainK (d :: r)).map fun x=>(c :: x.1,x.2)
theorem plainK_esc:∀ (l t:List UInt8),plainK (esc l ++ ([0,0] ++ t)) = some (l,t)
 | [],t=>by
  show plainK (0 :: 0 :: t) = _
  rw [plainK]
  simp
 | c :: l,t=>by
  have ih:=plainK_esc l t
  by_cases h:c = 0
  ·subst h
   rw [esc_cons,if_pos rfl]
   show plainK (0 :: 1 :: (esc l ++ ([0,0] ++ t))) = _
   rw [plainK,if_pos rfl,if_neg (by decide),if_pos rfl,ih]
   rfl
  ·rw [esc_cons,if_neg h]
   show plainK (c :: (esc l ++ ([0,0] ++ t))) = _
   have hne:∃ d r,esc l ++ ([0,0] ++ t) = d :: r:=by
    cases he:esc l with
    | nil=>exact ⟨0,0 :: t,rfl⟩
    | cons d r=>exact ⟨d,r ++ ([0,0] ++ t),rfl⟩
   obtain ⟨d,r,e⟩:=hne
   rw [e] at ih ⊢
   rw [plainK,if_neg h,ih]
   rfl
def riseG (a:Nat) (l:List UInt8):Nat:=l.foldl (fun n c=>n * 256 + (255 - c.toNat)) a
theorem riseG_be (n:Nat):∀ (m a:Nat),riseG a (beF n m) = a * 2 ^ (8 * m) + n % 2 ^ (8 * m)
 | 0,a=>by simp [riseG,beF,Nat.mod_one]
 | m + 1,a=>by
  rw [beF_succ]
  unfold riseG
  rw [List.foldl_cons]
  have h:=riseG_be n m (a * 256 + (255 - (UInt8.ofNat (255 - n / 2 ^ (8 * m) % 256)).toNat))
  unfold riseG at h
  rw [h]
  have hx:n / 2 ^ (8 * m) % 256 < 256:=Nat.mod_lt _ (by decide)
  have hy:255 - (UInt8.ofNat (255 - n / 2 ^ (8 * m) % 256)).toNat = n / 2 ^ (8 * m) % 256:=by
   rw [UInt8.toNat_ofNat',Nat.mod_eq_of_lt (by omega)]
   omega
  rw [hy]
  have hp:(2:Nat) ^ (8 * (m + 1)) = 2 ^ (8 * m) * 256:=by rw [Nat.mul_add,Nat.pow_add]
  rw [hp,Nat.mod_mul,Nat.add_mul]
  have e1:a * 256 * 2 ^ (8 * m) = a * (2 ^ (8 * m) * 256):=by rw [Nat.mul_assoc,Nat.mul_comm 256]
  have e2:n / 2 ^ (8 * m) % 256 * 2 ^ (8 * m) = 2 ^ (8 * m) * (n / 2 ^ (8 * m) % 256):=Nat.mul_comm _ _
  rw [e1,e2]
  omega
theorem riseG_lt:∀ (l:List UInt8) (a k:Nat),a < 2 ^ (8 * k) → riseG a l < 2 ^ (8 * (k + l.length))
 | [],a,k,h=>h
 | c :: l,a,k,h=>by
  unfold riseG
  rw [List.foldl_cons]
  have h2:=riseG_lt l (a * 256 + (255 - c.toNat)) (k + 1) (by
   have hp:(2:Nat) ^ (8 * (k + 1)) = 2 ^ (8 * k) * 256:=by rw [Nat.mul_add,Nat.pow_add]
   rw [hp]
   omega)
  unfold riseG at h2
  rw [List.length_cons,← Nat.add_assoc,Nat.add_right_comm]
  exact h2
def factK (k r:List UInt8):Fact:=⟨⟨k.toArray⟩,riseG 0 (r.take 4),riseG 0 ((r.drop 4).take 8),0,((r[12]?).getD 0).toNat,⟨#[]⟩⟩
def kgetF (b:List UInt8):Option Fact:=match plainK b with
 | none=>none
 | some x=>if (1 ≤ x.1.length ∧ x.1.length ≤ 32 ∧ x.2.length = 13) ∧ mayF (factK x.1 x.2) = true then some (factK x.1 x.2) else none
theorem kget_kput {f:Fact} (o:f.Ok) (h:mayF f = true):kgetF (kput f) = some ⟨f.key,f.valid,f.seq,0,f.kind,⟨#[]⟩⟩:=by
 have hm:=h
 unfold mayF at hm
 simp only [decide_eq_true_eq] at hm
 obtain ⟨h1,h2,h3,h4⟩:=hm
 have hk:f.key.data.toList.length = f.key.size:=by rw [Array.length_toList];rfl
 unfold kgetF kput
 rw [List.append_assoc,plainK_esc]
 have hf:factK f.key.data.toList (tailB f.valid f.seq f.kind) = ⟨f.key,f.valid,f.seq,0,f.kind,⟨#[]⟩⟩:=by
  unfold factK
  rw [tailB_be]
  have e1:(beF f.valid 4 ++ (beF f.seq 8 ++ [UInt8.ofNat f.kind])).take 4 = beF f.valid 4:=by rw [List.take_append_of_le_length (by rw [beF_len];omega),List.take_of_length_le (by rw [beF_len];omega)]
  have e2:((beF f.valid 4 ++ (beF f.seq 8 ++ [UInt8.ofNat f.kind])).drop 4).take 8 = beF f.seq 8:=by
   rw [List.drop_append,beF_len]
   rw [show (beF f.valid 4).drop 4 = [] from List.drop_of_length_le (by rw [beF_len];omega)]
   rw [List.nil_append,Nat.sub_self,List.drop_zero,List.take_append_of_le_length (by rw [beF_len];omega),List.take_of_length_le (by rw [beF_len];omega)]
  have e3:(beF f.valid 4 ++ (beF f.seq 8 ++ [UInt8.ofNat f.kind]))[12]? = some (UInt8.ofNat f.kind):=by
   rw [List.getElem?_append_right (by rw [beF_len];omega),beF_len,List.getElem?_append_right (by rw [beF_len];omega),beF_len]
   rfl
  rw [e1,e2,e3,riseG_be,riseG_be]
  have v:=o.valid
  have s:=o.seq
  have d:=o.kind
  simp only [Nat.zero_mul,Nat.zero_add]
  rw [Nat.mod_eq_of_lt (by simpa using v),Nat.mod_eq_of_lt (by simpa using s)]
  show Fact.mk _ _ _ _ (UInt8.ofNat f.kind).toNat _ = _
  rw [UInt8.toNat_ofNat',Nat.mod_eq_of_lt (by omega)]
 show (if _ then _ else none) = _
 rw [hf]
 have hmf:mayF ⟨f.key,f.valid,f.seq,0,f.kind,⟨#[]⟩⟩ = true:=by
  unfold mayF
  simp only [decide_eq_true_eq]
  exact ⟨h1,h2,h3,h4⟩
 rw [if_pos ⟨⟨by show 1 ≤ f.key.data.toList.length;omega,by show f.key.data.toList.length ≤ 32;omega,tailB_len _ _ _⟩,hmf⟩]
theorem kget_ok {b:List UInt8} {f:Fact} (h:kgetF b = some f):f.Ok ∧ mayF f = true ∧ f.line = 0 ∧ f.val = ⟨#[]⟩:=by
 unfold kgetF at h
 split at h
 ·cases h
 ·rename_i x hx
  split at h
  ·rename_i hc
   obtain ⟨⟨h1,h2,h3⟩,hm⟩:=hc
   cases h
   refine ⟨⟨?_, ?_,by show (0:Nat) < _;decide,UInt8.toNat_lt _, ?_, ?_⟩,hm,rfl,rfl⟩
   ·have:=riseG_lt (x.2.take 4) 0 0 (by decide)
    rw [List.length_take,h3] at this
    exact this
   ·have:=riseG_lt ((x.2.drop 4).take 8) 0 0 (by decide)
    rw [List.length_take,List.length_drop,h3] at this
    exact this
   ·show x.1.toArray.size ≤ maxLen
    unfold maxLen
    rw [List.size_toArray];omega
   ·show (0:Nat) ≤ maxLen
    exact Nat.zero_le _
  ·cases h
end Go.Proofs.Herb
namespace Go.Proofs.Herb
open Go.RowKit
def num4 (l:List UInt8) (a:Nat):Nat:=((l[a]?).getD 0).toNat + 256 * ((l[a + 1]?).getD 0).toNat + 65536 * ((l[a + 2]?).getD 0).toNat + 16777216 * ((l[a + 3]?).getD 0).toNat
theorem num4_lt (l:List UInt8) (a:Nat):num4 l a < 4294967296:=by
 unfold num4
 have h0:=((l[a]?).getD 0).toNat_lt
 have h1:=((l[a + 1]?).getD 0).toNat_lt
 have h2:=((l[a + 2]?).getD 0).toNat_lt
 have h3:=((l[a + 3]?).getD 0).toNat_lt
 omega
theorem or4_form (x0 x1 x2 x3:UInt8):bits .or .i64 (bits .or .i64 (bits .or .i64 (x0.toNat:Int) ((x1.toNat:Int) * 256)) ((x2.toNat:Int) * 65536)) ((x3.toNat:Int) * 16777216) = ((x0.toNat + 256 * x1.toNat + 65536 * x2.toNat + 16777216 * x3.toNat:Nat):Int):=by
 have h0:=x0.toNat_lt
 have h1:=x1.toNat_lt
 have h2:=x2.toNat_lt
 have h3:=x3.toNat_lt
 rw [i64_or_bytes]
 rw [show ((x2.toNat:Int) * 65536) = ((65536 * x2.toNat:Nat):Int) by omega,i64_or_nat _ _ (by omega) (by omega),Nat.or_comm,nat_join 16 _ _ (by omega) (by omega)]
 rw [show ((x3.toNat:Int) * 16777216) = ((16777216 * x3.toNat:Nat):Int) by omega,i64_or_nat _ _ (by omega) (by omega),Nat.or_comm,nat_join 24 _ _ (by omega) (by omega)]
 congr 1
 omega
theorem rd_num {w:World} {b off:Nat} {l:List UInt8} (h:Rd w (some ⟨b,off,none⟩) (l.map bv)) {a:Nat} (ha:a < l.length):w.cell? ⟨b,off + a,none⟩ = some (.int .u8 (((l[a]?).getD 0).toNat:Int)):=by
 obtain ⟨b',off',e,hc⟩:=h.cell (k:=a) (by rw [List.length_map];exact ha)
 cases e
 rw [hc,List.getElem_map,List.getElem?_eq_getElem ha]
 rfl
end Go.Proofs.Herb
namespace Go.Proofs.Herb
open Go.RowKit
def MayK (line:Nat) (l:List Fact) (k:Nat):Prop:=0 < l.length ∧ ∀ i,i < k → buildE line ((l.drop i).take 1) = 0 ∧ (0 < i → buildE line ((l.drop (i - 1)).take 2) = 0)
theorem MayK.step {line:Nat} {l:List Fact} {k:Nat}:MayK line l (k + 1) ↔ MayK line l k ∧ buildE line ((l.drop k).take 1) = 0 ∧ (0 < k → buildE line ((l.drop (k - 1)).take 2) = 0):=by
 constructor
 ·rintro ⟨h0,h⟩
  exact ⟨⟨h0,fun i hi=>h i (by omega)⟩,h k (by omega)⟩
 ·rintro ⟨⟨h0,h⟩,h1⟩
  refine ⟨h0,fun i hi => ?_⟩
  by_cases e:i = k
  ·subst e;exact h1
  ·exact h i (by omega)
end Go.Proofs.Herb
namespace Go.Proofs.Herb
open Go.RowKit
theorem foot0_len (line:Nat) (fs:List Fact):(foot0 line fs).length = 36:=by unfold foot0;simp [le4_len]
theorem tab_len (line:Nat) (fs:List Fact):(tabB line fs).length = (outB fs).length + (idxB fs).length + (filB fs).length + (tailB2 line fs).length + 40:=by
 unfold tabB bodyB
 simp only [List.length_append,foot0_len,le4_len]
end Go.Proofs.Herb
namespace Go.Proofs.Herb
open Go.RowKit
/-! numbers ahead of whatever -/
theorem byteOf_inj {x y:Nat × Bool} (hx:x.1 < 128) (hy:y.1 < 128) (h:byteOf x = byteOf y):x = y:=by
 have h2:=congrArg UInt8.toNat h
 unfold byteOf at h2
 rw [UInt8.toNat_ofNat',UInt8.toNat_ofNat'] at h2
 obtain ⟨a,b⟩:=x
 obtain ⟨c,d⟩:=y
 simp only at hx hy h2
 cases b <;> cases d <;> simp only [if_true,Bool.false_eq_true,if_false] at h2 <;> simp <;> omega
theorem gF_pre:∀ (f n m:Nat) (r s:List UInt8),1 ≤ f → n < 128 ^ f → m < 128 ^ f → (gF f n).map byteOf ++ r = (gF f m).map byteOf ++ s → n = m ∧ r = s
 | 0,_,_,_,_,h,_,_,_=>by omega
 | f + 1,n,m,r,s,_,hn,hm,h=>by
  rw [gF,gF,List.map_cons,List.map_cons,List.cons_append,List.cons_append,List.cons.injEq] at h
  obtain ⟨h1,h2⟩:=h
  have h3:=byteOf_inj (Nat.mod_lt n (by decide)) (Nat.mod_lt m (by decide)) h1
  simp only [Prod.mk.injEq,decide_eq_decide] at h3
  by_cases hb:128 ≤ n
  ·have hb2:=h3.2.1 hb
   rw [if_pos hb,if_pos hb2] at h2
   cases f with
   | zero=>simp at hn;omega
   | succ f =>
    rw [Nat.pow_succ] at hn hm
    obtain ⟨h4,h5⟩:=gF_pre (f + 1) (n / 128) (m / 128) r s (by omega) (Nat.div_lt_of_lt_mul (by omega)) (Nat.div_lt_of_lt_mul (by omega)) h2
    exact ⟨by omega,h5⟩
  ·have hb2:¬ 128 ≤ m:=fun h=>hb (h3.2.2 h)
   rw [if_neg hb,if_neg hb2] at h2
   exact ⟨by omega,by simpa using h2⟩
theorem vput_pre {n m:Nat} {r s:List UInt8} (hn:n < 18446744073709551616) (hm:m < 18446744073709551616) (h:vput n ++ r = vput m ++ s):n = m ∧ r = s :=
 gF_pre 10 n m r s (by decide) (Nat.lt_trans hn (by decide)) (Nat.lt_trans hm (by decide)) h
theorem tput_pre {a b r s:List UInt8} (ha:a.length < 18446744073709551616) (hb:b.length < 18446744073709551616) (h:tput a ++ r = tput b ++ s):a = b ∧ r = s:=by
 unfold tput at h
 rw [List.append_assoc,List.append_assoc] at h
 obtain ⟨h1,h2⟩:=vput_pre ha hb h
 exact List.append_inj h2 h1
theorem le4_inj {n m:Nat} (hn:n < 4294967296) (hm:m < 4294967296) (h:le4 n = le4 m):n = m:=by
 unfold le4 at h
 simp only [List.cons.injEq,and_true] at h
 obtain ⟨h1,h2,h3,h4⟩:=h
 have k1:=congrArg UInt8.toNat h1
 have k2:=congrArg UInt8.toNat h2
 have k3:=congrArg UInt8.toNat h3
 have k4:=congrArg UInt8.toNat h4
 rw [UInt8.toNat_ofNat',UInt8.toNat_ofNat'] at k1 k2 k3 k4
 omega
/-! a block's items -/
theorem comL_take:∀ (a b:List UInt8),a.take (comL a b) = b.take (comL a b)
 | [],_=>by simp [comL]
 | _ :: _,[]=>by simp [comL]
 | x :: a,y :: b=>by
  rw [comL]
  split
  ·rename_i h
   rw [List.take_succ_cons,List.take_succ_cons,comL_take a b,h]
  ·rfl
theorem kAt_sh (l:List Item) (i:Nat):kAt l i = (kAt l (i - 1)).take (shAt l i) ++ (kAt l i).drop (shAt l i):=by
 have h:(kAt l (i - 1)).take (shAt l i) = (kAt l i).take (shAt l i):=by
  unfold shAt
  split
  ·rfl
  ·exact comL_take _ _
 rw [h,List.take_append_drop]
def Short (l:List Item):Prop:=∀ x ∈ l,x.key.size < 18446744073709551616 ∧ x.val.size < 18446744073709551616
theorem Short.k {l:List Item} (h:Short l) (i:Nat):(kAt l i).length < 18446744073709551616 ∧ (vAt l i).length < 18446744073709551616:=by
 unfold kAt vAt
 cases hi:l[i]? with
 | none=>simp
 | some x =>
  have:=h x (List.mem_of_getElem? hi)
  simp only [Option.map_some,Option.getD_some,size_toList]
  exact this
theorem bUp_split (l:List Item):∀ (d i:Nat),∃ t,bUp l (i + d) = bUp l i ++ t
 | 0,i=>⟨[],by simp⟩
 | d + 1,i=>by
  obtain ⟨t,h⟩:=bUp_split l d i
  exact ⟨t ++ itB l (i + d),by rw [show i + (d + 1) = i + d + 1 by omega,bUp_succ,h,List.append_assoc]⟩
theorem itB_same {l m:List Item} (hl:Short l) (hm:Short m) {i:Nat} {t s:List UInt8} (hp:i ≠ 0 → kAt l (i - 1) = kAt m (i - 1)) (h:itB l i ++ t = itB m i ++ s):kAt l i = kAt m i ∧ vAt l i = vAt m i:=by
 unfold itB at h
 simp only [List.append_assoc] at h
 have b1:=Nat.lt_of_le_of_lt (shAt_le l i) (hl.k i).1
 have b2:=Nat.lt_of_le_of_lt (shAt_le m i) (hm.k i).1
 obtain ⟨h1,h2⟩:=vput_pre b1 b2 h
 obtain ⟨h3,h4⟩:=tput_pre (by rw [List.length_drop];exact Nat.lt_of_le_of_lt (Nat.sub_le _ _) (hl.k i).1) (by rw [List.length_drop];exact Nat.lt_of_le_of_lt (Nat.sub_le _ _) (hm.k i).1) h2
 obtain ⟨h5,_⟩:=tput_pre (hl.k i).2 (hm.k i).2 h4
 refine ⟨?_,h5⟩
 rw [kAt_sh l i,kAt_sh m i,h3,h1]
 by_cases e:i = 0
 ·subst e
  have:shAt m 0 = 0:=by unfold shAt;rfl
  rw [this];simp
 ·rw [hp e]
theorem itB_ne (l:List Item) (i:Nat):itB l i ≠ []:=by
 intro h
 have h1:=(vput_len (shAt l i)).1
 have h2:=congrArg List.length h
 unfold itB at h2
 simp only [List.length_append,List.length_nil] at h2
 omega
theorem bUp_same {l m:List Item}:∀ i,(∀ j,j < i → kAt l j = kAt m j ∧ vAt l j = vAt m j) → bUp l i = bUp m i
 | 0,_=>rfl
 | i + 1,h=>by
  rw [bUp_succ,bUp_succ,bUp_same i (fun j hj=>h j (by omega))]
  congr 1
  unfold itB shAt
  rw [(h i (by omega)).1,(h i (by omega)).2]
  by_cases e:i % 4 = 0
  ·simp only [if_pos e]
  ·simp only [if_neg e,(h (i - 1) (by omega)).1]
theorem item_ext {x y:Item} (h1:x.key.data.toList = y.key.data.toList) (h2:x.val.data.toList = y.val.data.toList):x = y:=by
 obtain ⟨⟨a⟩,⟨b⟩⟩:=x
 obtain ⟨⟨c⟩,⟨d⟩⟩:=y
 simp only at h1 h2
 rw [Array.toList_inj.1 h1,Array.toList_inj.1 h2]
theorem bUp_inj {l m:List Item} (hl:Short l) (hm:Short m) (h:bUp l l.length = bUp m m.length):l = m:=by
 have key:∀ i,i ≤ l.length → i ≤ m.length → ∀ j,j < i → kAt l j = kAt m j ∧ vAt l j = vAt m j:=by
  intro i
  induction i with
  | zero=>intro _ _ j hj;omega
  | succ i ih =>
   intro h1 h2 j hj
   have ih':=ih (by omega) (by omega)
   by_cases e:j < i
   ·exact ih' j e
   ·obtain rfl:j = i:=by omega
    obtain ⟨t,ht⟩:=bUp_split l (l.length - (j + 1)) (j + 1)
    obtain ⟨s,hs⟩:=bUp_split m (m.length - (j + 1)) (j + 1)
    rw [show j + 1 + (l.length - (j + 1)) = l.length by omega,bUp_succ,List.append_assoc] at ht
    rw [show j + 1 + (m.length - (j + 1)) = m.length by omega,bUp_succ,List.append_assoc] at hs
    rw [ht,hs,bUp_same j ih'] at h
    exact itB_same hl hm (fun e=>(ih' (j - 1) (by omega)).1) (List.append_cancel_left h)
 have hlen:l.length = m.length:=by
  rcases Nat.lt_trichotomy l.length m.length with h1 | h1 | h1
  ·exfalso
   have hk:=bUp_same l.length (key l.length (Nat.le_refl _) (by omega))
   obtain ⟨s,hs⟩:=bUp_split m (m.length - (l.length + 1)) (l.length + 1)
   rw [show l.length + 1 + (m.length - (l.length + 1)) = m.length by omega,bUp_succ,List.append_assoc,← h,hk] at hs
   have:=(List.append_right_eq_self (xs:=bUp m l.length) (ys:=itB m l.length ++ s)).1 hs.symm
   exact itB_ne m l.length (List.append_eq_nil_iff.1 this).1
  ·exact h1
  ·exfalso
   have hk:=bUp_same m.length (key m.length (by omega) (Nat.le_refl _))
   obtain ⟨s,hs⟩:=bUp_split l (l.length - (m.length + 1)) (m.length + 1)
   rw [show m.length + 1 + (l.length - (m.length + 1)) = l.length by omega,bUp_succ,List.append_assoc,h,hk] at hs
   have:=(List.append_right_eq_self (xs:=bUp m m.length) (ys:=itB l m.length ++ s)).1 hs.symm
   exact itB_ne l m.length (List.append_eq_nil_iff.1 this).1
 refine List.ext_getElem hlen fun i h1 h2 => ?_
 obtain ⟨k1,k2⟩:=key l.length (Nat.le_refl _) (by omega) i h1
 rw [kAt_get h1,kAt_get h2] at k1
 rw [vAt_get h1,vAt_get h2] at k2
 exact item_ext k1 k2
theorem bAll_inj {l m:List Item} (hl:Short l) (hm:Short m) (h1:l.length < 4000000000) (h2:m.length < 4000000000) (h:bAll l = bAll m):l = m:=by
 unfold bAll at h
 have h3:=(List.append_inj' h (by rw [le4_len,le4_len])).1
 unfold bBody at h3
 obtain ⟨h4,h5⟩:=List.append_inj' h3 (by rw [le4_len,le4_len])
 have p1:=pUp_len l l.length
 have p2:=pUp_len m m.length
 have h6:=le4_inj (by omega) (by omega) h5
 have h7:=(List.append_inj' h4 (by omega)).1
 exact bUp_inj hl hm h7
/-! a table -/
end Go.Proofs.Herb
