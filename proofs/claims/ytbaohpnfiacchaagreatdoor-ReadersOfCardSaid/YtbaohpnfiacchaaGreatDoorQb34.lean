/- The contract of the reference's Chunks (tables). For facts that may be a table, and can be read. The contracts of the reference's four, PutProps and Props (tables). For props of so many bytes, and facts that may be a table. Two rows of bytes that grow beside others that are only read, and what the reference's Build makes of chunks: plain. The contract of the reference's Build (tables). For facts that can be read. -/
import Derived.Lib.SmallJoins
import Derived.Test.YtbaohpnfiacchaaGreatDoorQb04
import Derived.Test.YtbaohpnfiacchaaGreatDoorQb05
import Derived.Test.YtbaohpnfiacchaaGreatDoorQb06
import Derived.Test.YtbaohpnfiacchaaGreatDoorQb11
import Derived.Test.YtbaohpnfiacchaaGreatDoorQb13
import Derived.Test.YtbaohpnfiacchaaGreatDoorQb14
import Derived.Test.YtbaohpnfiacchaaGreatDoorQb15
import Derived.Test.YtbaohpnfiacchaaGreatDoorQb29
import Derived.Test.YtbaohpnfiacchaaGreatDoorQb30
namespace Go.Proofs.Herb
open Go.RowKit
section
variable {P:Program}
theorem wp_append_src {w:World} {o:Oper} {a:Act} {K:Act → World → Prop} {Q:Exit → Act → World → Prop} (s x:Operand) (t tx:TypeId)
  (ho:o.op = .call { callee:=.builtin .append,args := #[s,x],argTypes := #[t,tx] })
  (base:Nat) (e:TypeId) (z:Value) (size bytes:Nat) (ht:P.underlying t = some (.slice e)) (hinfo:(P.info? e).map (fun i=>(i.zero,i.size,i.bytes)) = some (some z,size,bytes)) (hzs:z.cells.size = size) (hsz:0 < size)
  (q:Option Addr) (n c:Nat) (xs:List Value) (hs:a.eval s = .slice q n c) (hown:w.ownsRow base e size (.slice q n c) n xs)
  (X:Value) (m:Nat) (news:List Value) (hx:a.eval x = X) (hsrc:Src P size tx X m news w) (h63:n + m ≤ maxLen) (hbytes:(n + m) * bytes ≤ 140737488355328) (hbase:base ≤ w.heap.size)
  (h:∀ q' c' w',w'.ownsRow base e size (.slice q' (n + m) c') (n + m) (xs ++ news) → w.grownBy w' (Value.ownBlock (.slice q n c)) → (q' = q ∨ ∃ g,q' = some ⟨g,0,none⟩ ∧ w.heap.size ≤ g) → K (a.put o.dst (.slice q' (n + m) c')) w'):o.wp P a w K Q:=by
 obtain ⟨i,hi,hz,hsize,hby⟩:=info_parts hinfo
 obtain ⟨q',c',w',hrun,h1,h2,h3⟩:=run_append_own_src (P:=P) w base t tx o.type e i z size bytes ht hi hz hsize hby hzs hsz _ n xs hown X m news hsrc h63 hbytes hbase
 unfold Oper.wp execOp
 simp only [ho,resolve,invoke,builtin,Sem.run_bind,Sem.run_pure,Result.andThen_ok,List.map_toArray,List.map_cons,List.map_nil,hs,hx,hrun]
 refine h q' c' w' h1 h2 ?_
 rcases h3 with h3 | h3
 ·rw [Value.slice.injEq] at h3;exact .inl h3.1.symm
 ·exact .inr h3
end
theorem own_other {w w':World} {base:Nat} {e:TypeId} {k:Nat} {v:Value} {n:Nat} {xs:List Value} {r:Option Nat} (h:w.ownsRow base e k v n xs) (hg:w.grownBy w' r) (hne:∀ g,v.ownBlock = some g → some g ≠ r):w'.ownsRow base e k v n xs :=
 bown_keep h fun g hv=>hg.block g (bown_lt h g hv).2 (hne g hv)
def ChV (w:World) (base:Nat) (l:List Item) (vs:List Value) (pre:List (Nat × Nat)):Prop :=
 vs.length = pre.length ∧ ∀ (i:Nat) (v:Value) (x:Nat × Nat),vs[i]? = some v → pre[i]? = some x → x.1 < x.2 ∧ x.2 ≤ l.length ∧ ∃ a c,v = .slice a (x.2 - x.1) c ∧ w.ownsRow base 100 2 (.slice a (x.2 - x.1) c) (x.2 - x.1) (iCells (subI l x))
theorem ChV.below {w w':World} {base:Nat} {l:List Item} {vs:List Value} {pre:List (Nat × Nat)} (h:ChV w base l vs pre) (hb:Below w.heap.size w w'):ChV w' base l vs pre :=
 ⟨h.1,fun i v x hv hx=>by
  obtain ⟨h1,h2,a,c,h3,h4⟩:=h.2 i v x hv hx
  exact ⟨h1,h2,a,c,h3,own_below h4 hb⟩⟩
theorem ChV.other {w w':World} {base:Nat} {l:List Item} {vs:List Value} {pre:List (Nat × Nat)} {r:Option Nat} (h:ChV w base l vs pre) (hg:w.grownBy w' r) (hne:∀ v ∈ vs,∀ g,v.ownBlock = some g → some g ≠ r):ChV w' base l vs pre :=
 ⟨h.1,fun i v x hv hx=>by
  obtain ⟨h1,h2,a,c,h3,h4⟩:=h.2 i v x hv hx
  exact ⟨h1,h2,a,c,h3,own_other h4 hg fun g hgv=>hne v (List.mem_of_getElem? hv) g (by rw [h3];exact hgv)⟩⟩
theorem ChV.kinds {w w':World} {base b2:Nat} {l:List Item} {vs:List Value} {pre:List (Nat × Nat)} {v2:Value} {k2 n2:Nat} {ys:List Value} {e2:TypeId} (h:ChV w base l vs pre) (h2:w.ownsRow b2 e2 k2 v2 n2 ys) (he:100 ≠ e2) (hg:w.grownBy w' v2.ownBlock):ChV w' base l vs pre :=
 ⟨h.1,fun i v x hv hx=>by
  obtain ⟨h1,h3,a,c,h4,h5⟩:=h.2 i v x hv hx
  exact ⟨h1,h3,a,c,h4,own_kinds h5 h2 he hg⟩⟩
theorem ChV.snoc {w:World} {base:Nat} {l:List Item} {vs:List Value} {pre:List (Nat × Nat)} {a:Option Addr} {c:Nat} {x:Nat × Nat} (h:ChV w base l vs pre) (h1:x.1 < x.2) (h2:x.2 ≤ l.length) (h3:w.ownsRow base 100 2 (.slice a (x.2 - x.1) c) (x.2 - x.1) (iCells (subI l x))):ChV w base l (vs ++ [.slice a (x.2 - x.1) c]) (pre ++ [x]):=by
 refine ⟨by rw [List.length_append,List.length_append,h.1];rfl,fun i v y hv hy => ?_⟩
 by_cases hi:i < pre.length
 ·rw [List.getElem?_append_left (by rw [h.1];exact hi)] at hv
  rw [List.getElem?_append_left hi] at hy
  exact h.2 i v y hv hy
 ·have hil:=(List.getElem?_eq_some_iff.1 hy).1
  rw [List.length_append,List.length_singleton] at hil
  obtain rfl:i = pre.length:=by omega
  rw [← h.1] at hv
  rw [List.getElem?_append_right (Nat.le_refl _)] at hv hy
  simp only [Nat.sub_self,List.getElem?_cons_zero,Option.some.injEq] at hv hy
  subst hv
  subst hy
  exact ⟨h1,h2,a,c,rfl,h3⟩
theorem ChV.lt {w:World} {base:Nat} {l:List Item} {vs:List Value} {pre:List (Nat × Nat)} (h:ChV w base l vs pre) {v:Value} (hv:v ∈ vs) {g:Nat} (hg:v.ownBlock = some g):g < w.heap.size:=by
 obtain ⟨i,hi,rfl⟩:=List.mem_iff_getElem.1 hv
 have hip:i < pre.length:=by rw [← h.1];exact hi
 obtain ⟨-, -,a,c,h3,h4⟩:=h.2 i _ _ (List.getElem?_eq_getElem hi) (List.getElem?_eq_getElem hip)
 rw [h3] at hg
 exact (bown_lt h4 g hg).2
theorem chF_go {sz:Nat → Nat} {n k a m:Nat} (h:k < n) (h2:m + sz k < 512 ∧ k + 1 < n):chF sz n (n - k) k a m = chF sz n (n - (k + 1)) (k + 1) a (m + sz k):=by
 rw [show n - k = (n - (k + 1)) + 1 by omega,chF,if_pos h,if_pos h2]
theorem chF_cut {sz:Nat → Nat} {n k a m:Nat} (h:k < n) (h2:¬ (m + sz k < 512 ∧ k + 1 < n)):chF sz n (n - k) k a m = (a,k + 1) :: chF sz n (n - (k + 1)) (k + 1) (k + 1) 0:=by
 rw [show n - k = (n - (k + 1)) + 1 by omega,chF,if_pos h,if_neg h2]
theorem subI_snoc {l:List Item} {a k:Nat} (ha:a ≤ k) (hk:k < l.length):subI l (a,k + 1) = subI l (a,k) ++ [l[k]]:=by
 unfold subI
 dsimp only
 rw [show k + 1 - a = (k - a) + 1 by omega,List.take_succ_eq_append_getElem (by rw [List.length_drop];omega),List.getElem_drop]
 simp only [show a + (k - a) = k by omega]
theorem infoSlI:(Tryz.prog.info? 91).map (fun i=>(i.zero,i.size,i.bytes)) = some (some (.slice none 0 0),1,24):=by kernel_rfl
set_option maxRecDepth 100000 in
set_option maxHeartbeats 4000000 in
theorem ref_chunks (line:Nat) (q:Option Addr) (n c:Nat) (fs:List Fact) (w:World) (hn:fs.length = n) (hm:n ≤ 24000) (hr:Rd w q (fCells fs)) (ho:∀ f ∈ fs,f.Ok) (hg:GoodF line fs) :
  Calls Tryz.prog 75 #[.slice q n c] w fun e w'=>∃ o oc vs,e = .returned (.slice o (chunksOf (itemsF fs)).length oc) ∧ w'.ownsRow w.heap.size 91 1 (.slice o (chunksOf (itemsF fs)).length oc) (chunksOf (itemsF fs)).length vs ∧ ChV w' w.heap.size (itemsF fs) vs (chunksOf (itemsF fs)) ∧ Below w.heap.size w w':=by
 have Hn:=hid hn
 have Hr:=hid hr
 have Ho:=hid ho
 have Hg:=hid hg
 obtain ⟨l,hl⟩:∃ l,Hid (l = itemsF fs):=⟨_,hid rfl⟩
 have hll:l.length = n:=by rw [hl.out,← hn];simp [itemsF]
 have Hll:=hid hll
 have Hsz:=hid (show ∀ i (h:i < l.length),szAt l i ≤ 100000 from fun i h=>by
  rw [szAt_get h]
  have:=item_size hg l[i] (by rw [← hl.out];exact List.getElem_mem h)
  exact this)
 rw [← hl.out]
 clear hn hr ho hg hll
 go_enter Tryz.func75,Tryz.ntmps75
 go_wp2_with fail
 go_loopw [3,4,5,6] (fun v3 v4 v5 i wr=>∃ (k from_ many d oc:Nat) (p o:Option Addr) (vs:List Value) (pre:List (Nat × Nat)) (NP:Nat),k ≤ n ∧ from_ ≤ k ∧ many < 512 ∧ i = .int .i64 (k:Int) ∧ v5 = .int .i64 (many:Int) ∧ v4 = .slice p (k - from_) d ∧ v3 = .slice o NP oc ∧ NP = pre.length ∧ NP ≤ k ∧
  pre ++ chF (szAt l) l.length (n - k) k from_ many = chunksOf l ∧ wr.ownsRow w.heap.size 100 2 (.slice p (k - from_) d) (k - from_) (iCells (subI l (from_,k))) ∧ wr.ownsRow w.heap.size 91 1 (.slice o NP oc) NP vs ∧ ChV wr w.heap.size l vs pre ∧
  (∀ v ∈ vs,∀ g,v.ownBlock = some g → some g ≠ (Value.slice p (k - from_) d).ownBlock) ∧ Below w.heap.size w wr) (fun _ _ _ i _=>n - (intOf i).toNat)
 case atStart=>exact ⟨0,0,0,0,0,none,none,[],[],0,Nat.zero_le _,Nat.le_refl _,by omega,rfl,rfl,rfl,rfl,rfl,Nat.le_refl _,by rw [List.nil_append,← Hll.out];rfl,World.ownsRow_nil _ _ _ _,World.ownsRow_nil _ _ _ _,⟨rfl,by intro i v x h;cases h⟩,(by intro v h;cases h),Below.refl _ _⟩
 case round =>
  obtain ⟨k,from_,many,d,oc,p,o,vs,pre,NP,hk,hfk,hmany,rfl,rfl,rfl,rfl,hNP,hNPk,hpre,hown4,hown3,hch,hap,hB⟩:=hrel
  have HNP:=hid hNP
  have HPre:=hid hpre
  have HO4:=hid hown4
  have HO3:=hid hown3
  have HCh:=hid hch
  have HAp:=hid hap
  have HB:=hid hB
  have hbs:=hB.size
  clear hNP hpre hown4 hown3 hch hap hB
  by_cases hlt:k < n
  ·have hkl:k < fs.length:=by rw [Hn.out];exact hlt
   obtain ⟨bq,off,rfl, -,hfa⟩:=fact_at (Hr.out.below HB.out) hkl
   obtain ⟨f,hf⟩:∃ f,f = fs[k]:=⟨_,rfl⟩
   rw [← hf] at hfa
   have Hf:=hid hf
   obtain ⟨_,hmf,hli,hvs,_⟩:=Hg.out k hkl
   have hok:=Ho.out _ (List.getElem_mem hkl)
   rw [← hf] at hmf hvs hok
   have HK:=hid (fun W=>ref_kput f hok W hmf)
   have hlk:l[k]'(by rw [Hll.out];exact hlt) = itemF f:=by simp only [hl.out,itemsF,List.getElem_map];rw [hf]
   have hsk:szAt l k = (kput f).length + f.val.size:=by
    rw [szAt_get (by rw [Hll.out];exact hlt),hlk]
    show (kput f).toArray.size + f.val.size = _
    rw [List.size_toArray]
   have hsk2:=Hsz.out k (by rw [Hll.out];exact hlt)
   obtain ⟨KP,hKP⟩:∃ b,b = kput f:=⟨_,rfl⟩
   rw [← hKP] at HK hsk
   have Hlk:=hid (show l[k]'(by rw [Hll.out];exact hlt) = ⟨⟨KP.toArray⟩,f.val⟩ by rw [hlk,hKP];rfl)
   obtain ⟨KN,hKN⟩:∃ b,b = KP.length:=⟨_,rfl⟩
   rw [← hKN] at HK hsk
   have HKN:=hid hKN
   obtain ⟨key,valid,seq,fl,kind,val⟩:=f
   unfold Fact.cells at HK
   obtain ⟨a0,a1,a2,a3,a4,a5⟩:=hfa
   dsimp only at a0 a1 a2 a3 a4 a5 hvs hsk HK Hlk
   have i0:(0:Int) ≤ (k:Int):=by omega
   have i1:(k:Int) < (n:Int):=by omega
   have Hsk:=hid hsk
   have hKNl:KN + val.size ≤ 100000:=by omega
   clear hf hmf hli hok hlk hKP hKN hsk hsk2
   go_wp2_with fail
   (with_reducible refine (HK.out _).mono ?_)
   rintro e w1 ⟨q1,c1,rfl,hf1,hb1⟩
   have HF1:=hid hf1
   have HB1:=hid hb1
   have hs1:=hb1.size
   have HO41:=hid (own_below HO4.out hb1)
   have HO31:=hid (own_below HO3.out hb1)
   have HCh1:=hid (HCh.out.below hb1)
   obtain ⟨KS,hKS⟩:∃ KS:ByteArray,Hid (KS = ⟨KP.toArray⟩):=⟨_,hid rfl⟩
   have HS:Hid (∀ w',Below w.heap.size w w' → Fr w' wr.heap.size 5 1 (.slice q1 KN c1) KN (KP.map bv) → w'.cell? ⟨bq,off + k * 6 + 5,none⟩ = some (.string val) ∧ (convert 22 9 (.slice q1 KN c1)).run Tryz.prog w' = .ok (.string KS) w'):=hid fun w' hb hfr=>by
    refine ⟨?_, ?_⟩
    ·obtain ⟨_,_,e, -,h⟩:=fact_at (Hr.out.below hb) hkl
     cases e
     have h5:=h.c5
     rw [← Hf.out] at h5
     exact h5
    ·rw [hKS.out]
     exact convB w' q1 KN c1 KP HKN.out.symm hfr.rd
   have HBw:=hid (HB.out.trans (hb1.mono hbs))
   have HBd:=hid HBw.out.drew
   have HFd:=hid (hf1.below (Below.refl w1.heap.size w1).drew)
   have hBa:=(((Below.refl w1.heap.size w1).alloc (Nat.le_refl _) (.cells #[.string KS,.string val] 100)).drew)
   have HBa:=hid (HBw.out.trans (hBa.mono (by omega)))
   have HFa:=hid (hf1.below hBa)
   have HO4a:=hid (own_below HO41.out hBa)
   have HO3a:=hid (own_below HO31.out hBa)
   have HCha:=hid (HCh1.out.below hBa)
   clear hf1 hb1 hBa a0 a1 a2 a3 a4 a5 HK
   obtain ⟨M,hM⟩:∃ M,Hid (M = k - from_):=⟨_,hid rfl⟩
   rw [← hM.out] at HO4 HO41 HO4a HAp ⊢
   have hMk:M ≤ k:=by rw [hM.out];omega
   have HNe:Hid (∀ g,wr.heap.size ≤ g → some g ≠ (Value.slice p M d).ownBlock):=hid fun g hg e=>by have:=(bown_lt HO4.out g e.symm).2;omega
   have HSrc:=hid (src_rd (P:=Tryz.prog) (size:=2) (by decide) (tx:=91) (e':=100) Tryz.underlying91 (w:=(w1.alloc (.cells #[.string KS,.string val] 100)).drew) (ad:=some ⟨w1.heap.size,0,none⟩) (m:=1) 1 (news:=[.string KS,.string val]) rfl ((Rd.new w1 [.string KS,.string val] 100).below (Below.refl _ _).drew) (by simp [Value.oneCell']))
   have hN1:M + 1 ≤ maxLen:=by unfold maxLen;omega
   have hN2:(M + 1) * 32 ≤ 140737488355328:=by omega
   have HN3:=hid (show w.heap.size ≤ (w1.alloc (.cells #[.string KS,.string val] 100)).drew.heap.size from by exact HBa.out.size)
   go_upto_region 8 with (fail)
   go_region_held3 (fun w'=>w'.cell? ⟨bq,off + k * 6 + 5,none⟩ = some (.string val) ∧ (convert 22 9 (.slice q1 KN c1)).run Tryz.prog w' = .ok (.string KS) w') (first | exact HS.out _ HBd.out HFd.out | exact HS.out _ HBa.out HFa.out | exact HS.out _ HB8.out HF8.out) ((refine wp_append_src (.tmp 23) (.tmp 32) 91 91 rfl w.heap.size 100 (.agg #[.string ⟨#[]⟩,.string ⟨#[]⟩]) 2 32 Tryz.underlying91 infoItem rfl (by decide) p M d _ rfl HO4a.out _ 1 [.string KS,.string val] rfl HSrc.out hN1 hN2 HN3.out ?_;intro q8 c8 w8 g1 g2 g3;have G1:=hid g1;have G2:=hid g2;have G3:=hid g3;have HB8:=hid (Below.grown' HBa.out HO4a.out g2 HN3.out);have HF8:=hid (HFa.out.kept (fun g hg hgl=>g2.block g hgl (HNe.out g hg)));clear g1 g2 g3))
   have c8v:=(HS.out _ HB8.out HF8.out).1
   obtain ⟨T,hT⟩:∃ T,T = many + KN + val.size:=⟨_,rfl⟩
   have hTi:(many:Int) + (KN:Int) + (val.size:Int) = (T:Int):=by omega
   have hTl:T ≤ 200000:=by omega
   have HT:=hid (show many + szAt l k = T by rw [Hsk.out,hT];omega)
   clear hT
   by_cases hT5:T < 512
   ·have d1:decide ((512:Int) ≤ (T:Int)) = false:=by simp;omega
    by_cases hkn:k + 1 < n
    ·have d2:((k:Int) == (n:Int) - 1) = false:=by rw [beq_eq_false_iff_ne];omega
     have HGo:=hid (chF_go (sz:=szAt l) (a:=from_) (m:=many) (show k < l.length by rw [Hll.out];exact hlt) ⟨by rw [HT.out];exact hT5,by rw [Hll.out];exact hkn⟩)
     go_wp2_with fail
     go_roundw
     case rel =>
      have hmk:k + 1 - from_ = M + 1:=by rw [hM.out];omega
      refine ⟨k + 1,from_,T,c8,oc,q8,o,vs,pre,NP,by omega,by omega,hT5,by go_num,rfl,by rw [hmk],rfl,HNP.out,by omega, ?_, ?_,own_kinds HO3a.out HO4a.out (by decide) G2.out,HCha.out.other G2.out HAp.out,fun v hv g hg => ?_,HB8.out⟩
      ·have h:=HPre.out
       rw [show n = l.length from Hll.out.symm,HGo.out,HT.out] at h
       rw [show n = l.length from Hll.out.symm]
       exact h
      ·rw [hmk,subI_snoc hfk (by rw [Hll.out];exact hlt),Hlk.out,← hKS.out,iCells_append]
       exact G1.out
      ·rw [hmk]
       rcases G3.out with h | ⟨g3,h,hlg⟩
       ·have h5:=HAp.out v hv g hg
        rw [h]
        cases p <;> exact h5
       ·rw [h]
        have h1:=HCha.out.lt hv hg
        intro e
        cases e
        exact absurd (Nat.lt_of_lt_of_le h1 hlg) (Nat.lt_irrefl _)
     case measure=>simp [intOf];omega
    ·have d2:((k:Int) == (n:Int) - 1) = true:=by rw [beq_iff_eq];omega
     have hcut:¬ (many + szAt l k < 512 ∧ k + 1 < l.length):=by rw [Hll.out];exact fun h=>hkn h.2
     have HO38:=hid (own_kinds HO3a.out HO4a.out (by decide) G2.out)
     have HSr2:=hid (src_rd (P:=Tryz.prog) (size:=1) (by decide) (tx:=127) (e':=91) Tryz.underlying127 (w:=w8.alloc (.cells #[.slice q8 (M + 1) c8] 91)) (ad:=some ⟨w8.heap.size,0,none⟩) (m:=1) 1 (news:=[.slice q8 (M + 1) c8]) rfl (Rd.new w8 [.slice q8 (M + 1) c8] 91) (by simp [Value.oneCell']))
     have hA8:Below w8.heap.size w8 (w8.alloc (.cells #[.slice q8 (M + 1) c8] 91)):=(Below.refl _ _).alloc (Nat.le_refl _) _
     have HA8:=hid hA8
     have HO38a:=hid (own_below HO38.out hA8)
     have hM1:NP + 1 ≤ maxLen:=by unfold maxLen;omega
     have hM2:(NP + 1) * 24 ≤ 140737488355328:=by omega
     have HM3:=hid (show w.heap.size ≤ (w8.alloc (.cells #[.slice q8 (M + 1) c8] 91)).heap.size from (HB8.out.trans (hA8.mono HB8.out.size)).size)
     have HCut:=hid (chF_cut (sz:=szAt l) (a:=from_) (m:=many) (show k < l.length by rw [Hll.out];exact hlt) hcut)
     clear hA8 hcut
     go_wp2_with (refine wpList_append_src rfl (.tmp 54) (.tmp 56) 127 127 rfl w.heap.size 91 (.slice none 0 0) 1 24 Tryz.underlying127 infoSlI rfl (by decide) o NP oc _ rfl HO38a.out _ 1 [.slice q8 (M + 1) c8] rfl HSr2.out hM1 hM2 HM3.out ?_;intro q9 c9 w9 k1 k2 k3;have K1:=hid k1;have K2:=hid k2;clear k1 k2 k3)
     go_roundw
     case rel =>
      have hmk:(from_,k + 1).2 - (from_,k + 1).1 = M + 1:=by show k + 1 - from_ = M + 1;rw [hM.out];omega
      have hown9:w9.ownsRow w.heap.size 100 2 (.slice q8 (M + 1) c8) (M + 1) (iCells (subI l (from_,k + 1))):=by
       rw [subI_snoc hfk (by rw [Hll.out];exact hlt),Hlk.out,← hKS.out,iCells_append]
       exact own_kinds (own_below G1.out HA8.out) HO38a.out (by decide) K2.out
      have hch9:ChV w9 w.heap.size l vs pre:=((HCha.out.other G2.out HAp.out).below HA8.out).kinds HO38a.out (by decide) K2.out
      have hsn:=hch9.snoc (a:=q8) (c:=c8) (x:=(from_,k + 1)) (show from_ < k + 1 by omega) (show k + 1 ≤ l.length by rw [Hll.out];exact hlt) (by rw [hmk];exact hown9)
      rw [hmk] at hsn
      refine ⟨k + 1,k + 1,0,0,c9,none,q9,_,pre ++ [(from_,k + 1)],NP + 1,by omega,Nat.le_refl _,by omega,by go_num,rfl,by rw [Nat.sub_self],rfl,by rw [List.length_append,← HNP.out];rfl,by omega, ?_,by rw [Nat.sub_self];unfold subI;rw [Nat.sub_self,List.take_zero];exact World.ownsRow_nil _ _ _ _,K1.out,hsn,(by intro v _ g _ h;cases h),Below.grown' (HB8.out.trans (HA8.out.mono HB8.out.size)) HO38a.out K2.out HM3.out⟩
      have h:=HPre.out
      rw [show n = l.length from Hll.out.symm,HCut.out] at h
      rw [show n = l.length from Hll.out.symm,List.append_assoc]
      exact h
     case measure=>simp [intOf];omega
   ·have d1:decide ((512:Int) ≤ (T:Int)) = true:=by simp;omega
    have hcut:¬ (many + szAt l k < 512 ∧ k + 1 < l.length):=by rw [HT.out];exact fun h=>hT5 h.1
    have HO38:=hid (own_kinds HO3a.out HO4a.out (by decide) G2.out)
    have HSr2:=hid (src_rd (P:=Tryz.prog) (size:=1) (by decide) (tx:=127) (e':=91) Tryz.underlying127 (w:=w8.alloc (.cells #[.slice q8 (M + 1) c8] 91)) (ad:=some ⟨w8.heap.size,0,none⟩) (m:=1) 1 (news:=[.slice q8 (M + 1) c8]) rfl (Rd.new w8 [.slice q8 (M + 1) c8] 91) (by simp [Value.oneCell']))
    have hA8:Below w8.heap.size w8 (w8.alloc (.cells #[.slice q8 (M + 1) c8] 91)):=(Below.refl _ _).alloc (Nat.le_refl _) _
    have HA8:=hid hA8
    have HO38a:=hid (own_below HO38.out hA8)
    have hM1:NP + 1 ≤ maxLen:=by unfold maxLen;omega
    have hM2:(NP + 1) * 24 ≤ 140737488355328:=by omega
    have HM3:=hid (show w.heap.size ≤ (w8.alloc (.cells #[.slice q8 (M + 1) c8] 91)).heap.size from (HB8.out.trans (hA8.mono HB8.out.size)).size)
    have HCut:=hid (chF_cut (sz:=szAt l) (a:=from_) (m:=many) (show k < l.length by rw [Hll.out];exact hlt) hcut)
    clear hA8 hcut
    go_wp2_with (refine wpList_append_src rfl (.tmp 54) (.tmp 56) 127 127 rfl w.heap.size 91 (.slice none 0 0) 1 24 Tryz.underlying127 infoSlI rfl (by decide) o NP oc _ rfl HO38a.out _ 1 [.slice q8 (M + 1) c8] rfl HSr2.out hM1 hM2 HM3.out ?_;intro q9 c9 w9 k1 k2 k3;have K1:=hid k1;have K2:=hid k2;clear k1 k2 k3)
    go_roundw
    case rel =>
     have hmk:(from_,k + 1).2 - (from_,k + 1).1 = M + 1:=by show k + 1 - from_ = M + 1;rw [hM.out];omega
     have hown9:w9.ownsRow w.heap.size 100 2 (.slice q8 (M + 1) c8) (M + 1) (iCells (subI l (from_,k + 1))):=by
      rw [subI_snoc hfk (by rw [Hll.out];exact hlt),Hlk.out,← hKS.out,iCells_append]
      exact own_kinds (own_below G1.out HA8.out) HO38a.out (by decide) K2.out
     have hch9:ChV w9 w.heap.size l vs pre:=((HCha.out.other G2.out HAp.out).below HA8.out).kinds HO38a.out (by decide) K2.out
     have hsn:=hch9.snoc (a:=q8) (c:=c8) (x:=(from_,k + 1)) (show from_ < k + 1 by omega) (show k + 1 ≤ l.length by rw [Hll.out];exact hlt) (by rw [hmk];exact hown9)
     rw [hmk] at hsn
     refine ⟨k + 1,k + 1,0,0,c9,none,q9,_,pre ++ [(from_,k + 1)],NP + 1,by omega,Nat.le_refl _,by omega,by go_num,rfl,by rw [Nat.sub_self],rfl,by rw [List.length_append,← HNP.out];rfl,by omega, ?_,by rw [Nat.sub_self];unfold subI;rw [Nat.sub_self,List.take_zero];exact World.ownsRow_nil _ _ _ _,K1.out,hsn,(by intro v _ g _ h;cases h),Below.grown' (HB8.out.trans (HA8.out.mono HB8.out.size)) HO38a.out K2.out HM3.out⟩
     have h:=HPre.out
     rw [show n = l.length from Hll.out.symm,HCut.out] at h
     rw [show n = l.length from Hll.out.symm,List.append_assoc]
     exact h
    case measure=>simp [intOf];omega
  ·obtain rfl:k = n:=by omega
   go_wp2
   go_ret
   have h:=HPre.out
   rw [Nat.sub_self,chF,List.append_nil] at h
   rw [← h,← HNP.out]
   exact ⟨o,oc,vs,rfl,HO3.out,HCh.out,HB.out⟩
end Go.Proofs.Herb
namespace Go.Proofs.Herb
open Go.RowKit
theorem ref_four12 (N:Nat) (hN:N < 4294967296) (w:World) :
  Calls Tryz.prog 81 #[.int .i64 (N:Int)] w fun e w'=>∃ q,e = .returned (.slice (some q) 4 4) ∧ Rd w' (some q) ((le4 N).map bv) ∧ Below w.heap.size w w':=by
 have F:=hid (le4_rd N hN)
 have e0:(N:Int) / 16777216 % 256 = (N:Int) / 16777216:=by omega
 go_enter Tryz.func81,Tryz.ntmps81
 go_wp2
 go_ret
 exact ⟨_,rfl,F.out w,(Below.refl _ _).alloc (Nat.le_refl _) _⟩
theorem ref_putv_step (B n N:Nat) (q:Option Addr) (c:Nat) (l:List UInt8) (w:World) (hN:N < 18446744073709551616) (hf:w.ownsRow B 5 1 (.slice q n c) n (l.map bv)) (hm:n ≤ 4194304) :
  Calls Tryz.prog 77 #[.slice q n c,.int .u64 (N:Int)] w fun e w'=>∃ q' c',e = .returned (.slice q' (n + (vput N).length) c') ∧ w'.ownsRow w.heap.size 5 1 (.slice q' (n + (vput N).length) c') (n + (vput N).length) ((l ++ vput N).map bv) ∧ Below w.heap.size w w':=by
 have hl:l.length = n:=by have:=hf.1;simpa using this
 obtain ⟨_,_,e', -, -,hr,hz⟩:=(Fr.of_own hf).shape
 cases e'
 exact ref_putv q n c N l w hl (by omega) hr (fun h=>(hz h).2) hN
theorem ref_ptext_step (B n:Nat) (q:Option Addr) (c:Nat) (l:List UInt8) (s:ByteArray) (w:World) (hs:s.size ≤ 4194304) (hf:w.ownsRow B 5 1 (.slice q n c) n (l.map bv)) (hm:n ≤ 4194304) :
  Calls Tryz.prog 110 #[.slice q n c,.string s] w fun e w'=>∃ q' c',e = .returned (.slice q' (n + (tput s.data.toList).length) c') ∧ w'.ownsRow w.heap.size 5 1 (.slice q' (n + (tput s.data.toList).length) c') (n + (tput s.data.toList).length) ((l ++ tput s.data.toList).map bv) ∧ Below w.heap.size w w':=by
 have hl:l.length = n:=by have:=hf.1;simpa using this
 obtain ⟨_,_,e', -, -,hr,hz⟩:=(Fr.of_own hf).shape
 cases e'
 exact ref_ptext q n c l s w hs hl hm hr (fun h=>(hz h).2)
set_option maxRecDepth 100000 in
set_option maxHeartbeats 2000000 in
theorem ref_putProps (p:Props) (o:p.Ok) (w:World) :
  Calls Tryz.prog 80 #[.agg p.cells.toArray] w fun e w'=>∃ q c,e = .returned (.slice q (ppB p).length c) ∧ w'.ownsRow w.heap.size 5 1 (.slice q (ppB p).length c) (ppB p).length ((ppB p).map bv) ∧ Below w.heap.size w w':=by
 have HO:=hid o
 have HC:Hid (∀ w',Below w.heap.size w w' → True):=hid fun _ _=>trivial
 unfold Props.cells
 obtain ⟨line,many,low,high,least,greatest,early,late⟩:=p
 dsimp only at HO ⊢
 obtain ⟨o0,o1,o2,o3,o4,o5,o6,o7⟩:=HO.out
 have hbox:∀ w',Below (w.heap.size + 1) (w.alloc (.cells #[.int .u64 (line:Int),.int .u64 (many:Int),.string low,.string high,.int .u64 (least:Int),.int .u64 (greatest:Int),.int .u32 (early:Int),.int .u32 (late:Int)] 49)) w' → w'.heap[w.heap.size]? = some (.cells #[.int .u64 (line:Int),.int .u64 (many:Int),.string low,.string high,.int .u64 (least:Int),.int .u64 (greatest:Int),.int .u32 (early:Int),.int .u32 (late:Int)] 49 (0,0)):=fun w' hb=>(hb.block _ (by omega)).trans (heap_alloc_new _ _)
 have HBox:=hid hbox
 obtain ⟨w0,hw0⟩:∃ w0,w.alloc (.cells #[.int .u64 (line:Int),.int .u64 (many:Int),.string low,.string high,.int .u64 (least:Int),.int .u64 (greatest:Int),.int .u32 (early:Int),.int .u32 (late:Int)] 49) = w0:=⟨_,rfl⟩
 rw [hw0] at HBox
 have HB0:=hid (show Below w.heap.size w w0 from hw0 ▸ (Below.refl _ _).alloc (Nat.le_refl _) _)
 have hs0:w0.heap.size = w.heap.size + 1:=by rw [← hw0,World.size_alloc]
 have Hs0:=hid hs0
 clear hbox hs0
 go_enter Tryz.func80,Tryz.ntmps80
 go_upto_region 1 with (fail)
 clear hw0
 have HB00:=hid (Below.refl (w.heap.size + 1) w0)
 have HR0:=hid (World.ownsRow_nil w0 w0.heap.size 5 1)
 have HE0:=hid (show (([]:List UInt8).length) = 0 from rfl)
 have c0x:w0.cell? ⟨w.heap.size,0,none⟩ = some (.int .u64 (line:Int)):=(cell_of_row _ _ _ _ _ _ (HBox.out _ HB00.out)).trans rfl
 have HP0:=hid (ref_putv none 0 0 line ([]:List UInt8) w0 rfl (by decide) (.inl rfl) (fun _=>rfl) (by omega))
 go_wp2_with fail
 (with_reducible refine HP0.out.mono ?_)
 rintro e w1 ⟨q1,c1,rfl,ho1,hb1⟩
 obtain ⟨Z1,hZ1⟩:∃ Z,Hid (Z = ([]:List UInt8) ++ vput line):=⟨_,hid rfl⟩
 obtain ⟨N1,hN1⟩:∃ N,N = 0 + (vput line).length:=⟨_,rfl⟩
 rw [← hN1,← hZ1.out] at ho1
 rw [← hN1]
 have hNl1:N1 ≤ 0 + 10:=by rw [hN1];have:=(vput_len line).2;omega
 have HN1:=hid hN1
 have HR1:=hid ho1
 have HB01:=hid (HB00.out.trans (hb1.mono (by have:=HB00.out.size;have:=Hs0.out;omega)))
 clear hN1 ho1 hb1 c0x HP0
 have c1x:w1.cell? ⟨w.heap.size,1,none⟩ = some (.int .u64 (many:Int)):=(cell_of_row _ _ _ _ _ _ (HBox.out _ HB01.out)).trans rfl
 have HP1:=hid (ref_putv_step _ N1 many q1 c1 Z1 w1 (by omega) HR1.out (by omega))
 go_wp2_with fail
 (with_reducible refine HP1.out.mono ?_)
 rintro e w2 ⟨q2,c2,rfl,ho2,hb2⟩
 obtain ⟨Z2,hZ2⟩:∃ Z,Hid (Z = Z1 ++ vput many):=⟨_,hid rfl⟩
 obtain ⟨N2,hN2⟩:∃ N,N = N1 + (vput many).length:=⟨_,rfl⟩
 rw [← hN2,← hZ2.out] at ho2
 rw [← hN2]
 have hNl2:N2 ≤ N1 + 10:=by rw [hN2];have:=(vput_len many).2;omega
 have HN2:=hid hN2
 have HR2:=hid ho2
 have HB02:=hid (HB01.out.trans (hb2.mono (by have:=HB01.out.size;have:=Hs0.out;omega)))
 clear hN2 ho2 hb2 c1x HP1
 have c2x:w2.cell? ⟨w.heap.size,2,none⟩ = some (.string low):=(cell_of_row _ _ _ _ _ _ (HBox.out _ HB02.out)).trans rfl
 have HP2:=hid (ref_ptext_step _ N2 q2 c2 Z2 low w2 (by omega) HR2.out (by omega))
 go_wp2_with fail
 (with_reducible refine HP2.out.mono ?_)
 rintro e w3 ⟨q3,c3,rfl,ho3,hb3⟩
 obtain ⟨Z3,hZ3⟩:∃ Z,Hid (Z = Z2 ++ tput low.data.toList):=⟨_,hid rfl⟩
 obtain ⟨N3,hN3⟩:∃ N,N = N2 + (tput low.data.toList).length:=⟨_,rfl⟩
 rw [← hN3,← hZ3.out] at ho3
 rw [← hN3]
 have hNl3:N3 ≤ N2 + low.size + 10:=by rw [hN3,tput_len2,size_toList2];have:=(vput_len low.size).2;omega
 have HN3:=hid hN3
 have HR3:=hid ho3
 have HB03:=hid (HB02.out.trans (hb3.mono (by have:=HB02.out.size;have:=Hs0.out;omega)))
 clear hN3 ho3 hb3 c2x HP2
 have c3x:w3.cell? ⟨w.heap.size,3,none⟩ = some (.string high):=(cell_of_row _ _ _ _ _ _ (HBox.out _ HB03.out)).trans rfl
 have HP3:=hid (ref_ptext_step _ N3 q3 c3 Z3 high w3 (by omega) HR3.out (by omega))
 go_wp2_with fail
 (with_reducible refine HP3.out.mono ?_)
 rintro e w4 ⟨q4,c4,rfl,ho4,hb4⟩
 obtain ⟨Z4,hZ4⟩:∃ Z,Hid (Z = Z3 ++ tput high.data.toList):=⟨_,hid rfl⟩
 obtain ⟨N4,hN4⟩:∃ N,N = N3 + (tput high.data.toList).length:=⟨_,rfl⟩
 rw [← hN4,← hZ4.out] at ho4
 rw [← hN4]
 have hNl4:N4 ≤ N3 + high.size + 10:=by rw [hN4,tput_len2,size_toList2];have:=(vput_len high.size).2;omega
 have HN4:=hid hN4
 have HR4:=hid ho4
 have HB04:=hid (HB03.out.trans (hb4.mono (by have:=HB03.out.size;have:=Hs0.out;omega)))
 clear hN4 ho4 hb4 c3x HP3
 have c4x:w4.cell? ⟨w.heap.size,4,none⟩ = some (.int .u64 (least:Int)):=(cell_of_row _ _ _ _ _ _ (HBox.out _ HB04.out)).trans rfl
 have HP4:=hid (ref_putv_step _ N4 least q4 c4 Z4 w4 (by omega) HR4.out (by omega))
 go_wp2_with fail
 (with_reducible refine HP4.out.mono ?_)
 rintro e w5 ⟨q5,c5,rfl,ho5,hb5⟩
 obtain ⟨Z5,hZ5⟩:∃ Z,Hid (Z = Z4 ++ vput least):=⟨_,hid rfl⟩
 obtain ⟨N5,hN5⟩:∃ N,N = N4 + (vput least).length:=⟨_,rfl⟩
 rw [← hN5,← hZ5.out] at ho5
 rw [← hN5]
 have hNl5:N5 ≤ N4 + 10:=by rw [hN5];have:=(vput_len least).2;omega
 have HN5:=hid hN5
 have HR5:=hid ho5
 have HB05:=hid (HB04.out.trans (hb5.mono (by have:=HB04.out.size;have:=Hs0.out;omega)))
 clear hN5 ho5 hb5 c4x HP4
 have c5x:w5.cell? ⟨w.heap.size,5,none⟩ = some (.int .u64 (greatest:Int)):=(cell_of_row _ _ _ _ _ _ (HBox.out _ HB05.out)).trans rfl
 have HP5:=hid (ref_putv_step _ N5 greatest q5 c5 Z5 w5 (by omega) HR5.out (by omega))
 go_wp2_with fail
 (with_reducible refine HP5.out.mono ?_)
 rintro e w6 ⟨q6,c6,rfl,ho6,hb6⟩
 obtain ⟨Z6,hZ6⟩:∃ Z,Hid (Z = Z5 ++ vput greatest):=⟨_,hid rfl⟩
 obtain ⟨N6,hN6⟩:∃ N,N = N5 + (vput greatest).length:=⟨_,rfl⟩
 rw [← hN6,← hZ6.out] at ho6
 rw [← hN6]
 have hNl6:N6 ≤ N5 + 10:=by rw [hN6];have:=(vput_len greatest).2;omega
 have HN6:=hid hN6
 have HR6:=hid ho6
 have HB06:=hid (HB05.out.trans (hb6.mono (by have:=HB05.out.size;have:=Hs0.out;omega)))
 clear hN6 ho6 hb6 c5x HP5
 have c6x:w6.cell? ⟨w.heap.size,6,none⟩ = some (.int .u32 (early:Int)):=(cell_of_row _ _ _ _ _ _ (HBox.out _ HB06.out)).trans rfl
 have HP6:=hid (ref_putv_step _ N6 early q6 c6 Z6 w6 (by omega) HR6.out (by omega))
 have u6:(early:Int) % 18446744073709551616 = (early:Int):=by omega
 go_wp2_with fail
 (with_reducible refine HP6.out.mono ?_)
 rintro e w7 ⟨q7,c7,rfl,ho7,hb7⟩
 obtain ⟨Z7,hZ7⟩:∃ Z,Hid (Z = Z6 ++ vput early):=⟨_,hid rfl⟩
 obtain ⟨N7,hN7⟩:∃ N,N = N6 + (vput early).length:=⟨_,rfl⟩
 rw [← hN7,← hZ7.out] at ho7
 rw [← hN7]
 have hNl7:N7 ≤ N6 + 10:=by rw [hN7];have:=(vput_len early).2;omega
 have HN7:=hid hN7
 have HR7:=hid ho7
 have HB07:=hid (HB06.out.trans (hb7.mono (by have:=HB06.out.size;have:=Hs0.out;omega)))
 clear hN7 ho7 hb7 c6x HP6
 have c7x:w7.cell? ⟨w.heap.size,7,none⟩ = some (.int .u32 (late:Int)):=(cell_of_row _ _ _ _ _ _ (HBox.out _ HB07.out)).trans rfl
 have HP7:=hid (ref_putv_step _ N7 late q7 c7 Z7 w7 (by omega) HR7.out (by omega))
 have u7:(late:Int) % 18446744073709551616 = (late:Int):=by omega
 go_wp2_with fail
 (with_reducible refine HP7.out.mono ?_)
 rintro e w8 ⟨q8,c8,rfl,ho8,hb8⟩
 obtain ⟨Z8,hZ8⟩:∃ Z,Hid (Z = Z7 ++ vput late):=⟨_,hid rfl⟩
 obtain ⟨N8,hN8⟩:∃ N,N = N7 + (vput late).length:=⟨_,rfl⟩
 rw [← hN8,← hZ8.out] at ho8
 rw [← hN8]
 have hNl8:N8 ≤ N7 + 10:=by rw [hN8];have:=(vput_len late).2;omega
 have HN8:=hid hN8
 have HR8:=hid ho8
 have HB08:=hid (HB07.out.trans (hb8.mono (by have:=HB07.out.size;have:=Hs0.out;omega)))
 clear hN8 ho8 hb8 c7x HP7
 go_wp2
 go_ret
 have hz:ppB ⟨line,many,low,high,least,greatest,early,late⟩ = Z8:=by
  unfold ppB
  dsimp only
  rw [hZ8.out,hZ7.out,hZ6.out,hZ5.out,hZ4.out,hZ3.out,hZ2.out,hZ1.out]
  simp only [List.nil_append]
 have hl:Z8.length = N8:=by have:=HR8.out.1;simpa using this
 rw [hz,hl]
 refine ⟨q8,c8,rfl, ?_,HB0.out.trans (HB08.out.mono (by omega))⟩
 exact own_mono HR8.out (by have:=HB07.out.size;have:=Hs0.out;omega)
def rpropsR (line n:Nat) (f0:Fact) (h:ByteArray) (l:List Fact):Props :=
 ⟨line,n,f0.key,h,l.foldl (fun a f=>min a f.seq) f0.seq,l.foldl (fun a f=>max a f.seq) f0.seq,l.foldl (fun a f=>min a f.valid) f0.valid,l.foldl (fun a f=>max a f.valid) f0.valid⟩
theorem propsR_end {line n:Nat} {fs:List Fact} (hn:fs.length = n) (h0:0 < n):rpropsR line n (fs[0]'(by omega)) (fs[n - 1]'(by omega)).key fs = propsF line fs:=by
 cases fs with
 | nil=>simp at hn;omega
 | cons a r =>
  have e2:(a :: r).getLast (by simp) = (a :: r)[n - 1]'(by omega):=by
   rw [List.getLast_eq_getElem]
   congr 1
   omega
  show _ = propsT line (a :: r).length a ((a :: r).getLast (by simp)) (a :: r)
  rw [e2]
  unfold rpropsR propsT
  rw [Props.mk.injEq]
  exact ⟨rfl,hn.symm,rfl,rfl,by simp,by simp,by simp,by simp⟩
theorem key_up {f g:Fact} (h:cmpF f g < 0):f.key = g.key ∨ bL f.key.data.toList g.key.data.toList = true:=by
 unfold cmpF at h
 rw [orZ_cons] at h
 by_cases e:f.key = g.key
 ·exact .inl e
 ·rw [if_neg (fun x=>e (cmpS_zero.1 x))] at h
  exact .inr (cmpS_neg.1 h)
set_option maxRecDepth 100000 in
set_option maxHeartbeats 4000000 in
theorem ref_props (line:Nat) (q:Option Addr) (n c:Nat) (fs:List Fact) (w:World) (hn:fs.length = n) (h0:0 < n) (hm:n ≤ 24000) (hr:Rd w q (fCells fs)) (hgd:GoodF line fs) :
  Calls Tryz.prog 78 #[.int .u64 (line:Int),.slice q n c] w fun e w'=>e = .returned (.agg (propsF line fs).cells.toArray) ∧ Below w.heap.size w w':=by
 rw [← propsR_end hn h0]
 obtain ⟨f0,hf0⟩:∃ f,f = fs[0]'(by omega):=⟨_,rfl⟩
 obtain ⟨KL,hKL⟩:∃ f,f = (fs[n - 1]'(by omega)).key:=⟨_,rfl⟩
 rw [← hf0,← hKL]
 obtain ⟨b,off,hq,hbl,a0⟩:=fact_at (j:=0) hr (by omega)
 subst hq
 rw [← hf0,Nat.zero_mul,Nat.add_zero] at a0
 have i2:(0:Int) < (n:Int):=by omega
 have i3:IntKind.u64.wrap (n:Int) = (n:Int):=by show (n:Int) % 18446744073709551616 = _;omega
 have Hn:=hid hn
 have Hr:=hid hr
 have Hgd:=hid hgd
 have Hf0:Hid (∀ h:0 < fs.length,f0 = fs[0]):=hid fun _=>hf0
 have HKL:Hid (∀ h:n - 1 < fs.length,KL = fs[n - 1].key):=hid fun _=>hKL
 have HS:Hid (∀ w',Below w.heap.size w w' → w'.cell? ⟨b,off,none⟩ = some (.string f0.key) ∧ w'.cell? ⟨b,off + 1,none⟩ = some (.int .u32 (f0.valid:Int)) ∧ w'.cell? ⟨b,off + 2,none⟩ = some (.int .u64 (f0.seq:Int))):=hid fun w' hb =>
  have k:∀ o v,w.cell? ⟨b,o,none⟩ = some v → w'.cell? ⟨b,o,none⟩ = some v:=fun o v h=>(hb.cell (p:=⟨b,o,none⟩) hbl).trans h
  ⟨k _ _ a0.c0,k _ _ a0.c1,k _ _ a0.c2⟩
 clear hn hr hgd hf0 hKL a0
 go_enter Tryz.func78,Tryz.ntmps78
 go_upto_region 1 with (fail)
 go_region_held3 (fun w'=>w'.cell? ⟨b,off,none⟩ = some (.string f0.key) ∧ w'.cell? ⟨b,off + 1,none⟩ = some (.int .u32 (f0.valid:Int)) ∧ w'.cell? ⟨b,off + 2,none⟩ = some (.int .u64 (f0.seq:Int))) (first | exact HS.out _ ((Below.refl _ _).alloc (Nat.le_refl _) _).drew | exact HS.out _ (((Below.refl _ _).alloc (Nat.le_refl _) _).drew.alloc (by simp) _)) (fail)
 all_goals (go_wp2_with fail)
 obtain ⟨P,hP⟩:∃ P,P = w.heap.size + 1:=⟨_,rfl⟩
 generalize hw1:((w.alloc (.cells #[.int .u64 0,.int .u64 0,.string ⟨#[]⟩,.string ⟨#[]⟩,.int .u64 0,.int .u64 0,.int .u32 0,.int .u32 0] 49)).alloc (.cells #[.int .u64 (line:Int),.int .u64 (n:Int),.string f0.key,.string f0.key,.int .u64 (f0.seq:Int),.int .u64 (f0.seq:Int),.int .u32 (f0.valid:Int),.int .u32 (f0.valid:Int)] 49)).drew = w1
 have hB1:Below w.heap.size w w1:=by rw [← hw1];exact (((Below.refl _ _).alloc (Nat.le_refl _) _).alloc (by simp) _).drew
 have hR1:w1.heap[w.heap.size]? = some (.cells #[.int .u64 0,.int .u64 0,.string ⟨#[]⟩,.string ⟨#[]⟩,.int .u64 0,.int .u64 0,.int .u32 0,.int .u32 0] 49 (0,0)):=by
  rw [← hw1];exact (Below.heap_alloc _ _ _ (by simp)).trans (heap_alloc_new w _)
 have hP1:w1.heap[P]? = some (.cells (rpropsR line n f0 f0.key []).cells.toArray 49 (0,0)):=by
  rw [← hw1,hP]
  have:=heap_alloc_new (w.alloc (.cells #[.int .u64 0,.int .u64 0,.string ⟨#[]⟩,.string ⟨#[]⟩,.int .u64 0,.int .u64 0,.int .u32 0,.int .u32 0] 49)) (.cells #[.int .u64 (line:Int),.int .u64 (n:Int),.string f0.key,.string f0.key,.int .u64 (f0.seq:Int),.int .u64 (f0.seq:Int),.int .u32 (f0.valid:Int),.int .u32 (f0.valid:Int)] 49)
  rw [World.size_alloc] at this
  exact this
 rw [← hP]
 have HB1:=hid hB1
 have HR1:=hid hR1
 have HP1:=hid hP1
 have hwP:w.heap.size < P:=by omega
 clear hB1 hR1 hP1 hw1 hP i3
 go_loopw [6] (fun i wr=>∃ (k:Nat) (h:ByteArray),k ≤ n ∧ i = .int .i64 (k:Int) ∧ (k = 0 → h = f0.key) ∧ (∀ j (hj:j < fs.length),j + 1 = k → h = fs[j].key) ∧ wr.heap[P]? = some (.cells (rpropsR line n f0 h (fs.take k)).cells.toArray 49 (0,0)) ∧
   wr.heap[w.heap.size]? = some (.cells #[.int .u64 0,.int .u64 0,.string ⟨#[]⟩,.string ⟨#[]⟩,.int .u64 0,.int .u64 0,.int .u32 0,.int .u32 0] 49 (0,0)) ∧ Below w.heap.size w wr) (fun i _=>n - (intOf i).toNat)
 case atStart=>exact ⟨0,f0.key,Nat.zero_le _,rfl,fun _=>rfl,fun j _ h=>by omega,HP1.out,HR1.out,HB1.out⟩
 case round =>
  obtain ⟨k,h,hk,rfl,hh0,hh1,hp,hz,hB⟩:=hrel
  have hbs:=hB.size
  have hPl:=lt_of_block hp
  have HZ:=hid hz
  have HB:=hid hB
  have HH0:=hid hh0
  have HH1:=hid hh1
  clear HP1 HR1 HB1 hB hz hh0 hh1
  by_cases hlt:k < n
  ·have hkl:k < fs.length:=by rw [Hn.out];exact hlt
   obtain ⟨b',off',e,_,hfa⟩:=fact_at (j:=k) (Hr.out.below HB.out) hkl
   cases e
   obtain ⟨f,hf⟩:∃ f,f = fs[k]:=⟨_,rfl⟩
   rw [← hf] at hfa
   have hup:f.key = h ∨ bL h.data.toList f.key.data.toList = true:=by
    rcases Nat.eq_zero_or_pos k with h2 | h2
    ·subst h2
     exact .inl (by rw [HH0.out rfl,Hf0.out hkl,hf])
    ·obtain ⟨_,_,_,_,hc⟩:=Hgd.out k hkl
     have h3:=key_up (hc (k - 1) (by omega))
     rw [← hf,← HH1.out (k - 1) (by omega) (by omega)] at h3
     exact h3.imp (·.symm) id
   obtain ⟨p,hpp⟩:∃ p,p = rpropsR line n f0 h (fs.take k):=⟨_,rfl⟩
   have hnx:rpropsR line n f0 f.key (fs.take (k + 1)) = { p with high:=f.key,least:=min p.least f.seq,greatest:=max p.greatest f.seq,early:=min p.early f.valid,late:=max p.late f.valid }:=by
    rw [List.take_succ_eq_append_getElem hkl,← hf,hpp]
    unfold rpropsR
    simp only [List.foldl_append,List.foldl_cons,List.foldl_nil]
   have hph:p.high = h:=by rw [hpp];rfl
   rw [← hpp] at hp
   have HNX:=hid hnx
   have HP:=hid hp
   have Hf:=hid hf
   obtain ⟨key,valid,seq,fline,kind,val⟩:=f
   obtain ⟨x0,x1,x2,x3,x4,x5⟩:=hfa
   obtain ⟨pl,pm,plo,phi,ple,pgr,pea,pla⟩:=p
   dsimp only at x0 x1 x2 x3 x4 x5 hph hup
   subst hph
   have i4:(0:Int) ≤ (k:Int):=by omega
   have i5:(k:Int) < (n:Int):=by omega
   have HUp:=hid hup
   clear hpp hnx hf hp hup
   go_upto_region 6 with (fail)
   obtain ⟨X,hX⟩:∃ X,X = wr.heap.size:=⟨_,rfl⟩
   have hba:(wr.alloc (.cells #[.string key,.int .u32 (valid:Int),.int .u64 (seq:Int),.int .u64 (fline:Int),.int .u8 (kind:Int),.string val] 27)).heap[wr.heap.size]? = some (.cells #[.string key,.int .u32 (valid:Int),.int .u64 (seq:Int),.int .u64 (fline:Int),.int .u8 (kind:Int),.string val] 27 (0,0)):=heap_alloc_new _ _
   have hBa:Below wr.heap.size wr (wr.alloc (.cells #[.string key,.int .u32 (valid:Int),.int .u64 (seq:Int),.int .u64 (fline:Int),.int .u8 (kind:Int),.string val] 27)):=(Below.refl _ _).alloc (Nat.le_refl _) _
   generalize wr.alloc (.cells #[.string key,.int .u32 (valid:Int),.int .u64 (seq:Int),.int .u64 (fline:Int),.int .u8 (kind:Int),.string val] 27) = wa at hba hBa
   have hPa:=(hBa.block P hPl).trans HP.out
   have hZa:=(hBa.block _ (by omega)).trans HZ.out
   have hBw:=HB.out.trans (hBa.mono hbs)
   rw [← hX] at hba ⊢
   unfold Props.cells at hPa
   dsimp only at hPa
   have hXP:X ≠ P:=by omega
   have hwX:w.heap.size ≠ P:=by omega
   obtain ⟨A0,hA0⟩:∃ a,Hid (a = min ple seq):=⟨_,hid rfl⟩
   obtain ⟨A1,hA1⟩:∃ a,Hid (a = max pgr seq):=⟨_,hid rfl⟩
   obtain ⟨A2,hA2⟩:∃ a,Hid (a = min pea valid):=⟨_,hid rfl⟩
   obtain ⟨A3,hA3⟩:∃ a,Hid (a = max pla valid):=⟨_,hid rfl⟩
   have HPc:=hid hPa
   have HXc:=hid hba
   have HZc:=hid hZa
   have HBc:=hid hBw
   clear hba hBa hPa hZa hBw x0 x1 x2 x3 x4 x5 hX
   have hsetP:∀ (W:World) (cur:Array Value) (o:Nat) (v:Value),W.heap[P]? = some (.cells cur 49 (0,0)) → W.heap[X]? = some (.cells #[.string key,.int .u32 (valid:Int),.int .u64 (seq:Int),.int .u64 (fline:Int),.int .u8 (kind:Int),.string val] 27 (0,0)) → W.heap[w.heap.size]? = some (.cells #[.int .u64 0,.int .u64 0,.string ⟨#[]⟩,.string ⟨#[]⟩,.int .u64 0,.int .u64 0,.int .u32 0,.int .u32 0] 49 (0,0)) → Below w.heap.size w W →
     (W.setCell ⟨P,o,none⟩ v).heap[P]? = some (.cells (cur.setIfInBounds o v) 49 (0,0)) ∧ (W.setCell ⟨P,o,none⟩ v).heap[X]? = some (.cells #[.string key,.int .u32 (valid:Int),.int .u64 (seq:Int),.int .u64 (fline:Int),.int .u8 (kind:Int),.string val] 27 (0,0)) ∧ (W.setCell ⟨P,o,none⟩ v).heap[w.heap.size]? = some (.cells #[.int .u64 0,.int .u64 0,.string ⟨#[]⟩,.string ⟨#[]⟩,.int .u64 0,.int .u64 0,.int .u32 0,.int .u32 0] 49 (0,0)) ∧ Below w.heap.size w (W.setCell ⟨P,o,none⟩ v) :=
    fun W cur o v h1 h2 h3 h4=>⟨heap_setCell_same _ _ o _ _ _ h1,(heap_setCell_other _ _ _ _ hXP).trans h2,(heap_setCell_other _ _ _ _ hwX).trans h3,h4.setCell (p:=⟨P,o,none⟩) (by show w.heap.size ≤ P;omega) _⟩
   have HSetP:=hid hsetP
   clear hsetP
   have y0:wa.cell? ⟨P,3,none⟩ = some (.string phi):=(cell_of_row _ _ _ _ _ _ HPc.out).trans rfl
   have x0:wa.cell? ⟨X,0,none⟩ = some (.string key):=(cell_of_row _ _ _ _ _ _ HXc.out).trans rfl
   have z0:wa.frozen? ⟨P,3,none⟩ = false:=frozen_of_row _ _ _ _ _ HPc.out
   have he2:Op.bytesLess key.toList phi.toList = false:=by
    rw [ByteArray.toList_eq,ByteArray.toList_eq]
    rcases HUp.out with h | h
    ·rw [h];exact bl_irrefl _
    ·cases h2:Op.bytesLess key.data.toList phi.data.toList with
     | false=>rfl
     | true=>exact absurd (h2.symm.trans (bl_asymm h)) (by decide)
   obtain ⟨B0,hB0⟩:∃ B,Hid (B = (key.toList == phi.toList)):=⟨_,hid rfl⟩
   have e1:(key.toList == phi.toList) = B0:=hB0.out.symm
   go_upto_if 51 with (fail)
   clear he2 e1
   go_cut [] (fun wc=>wc.heap[P]? = some (.cells #[.int .u64 (pl:Int),.int .u64 (pm:Int),.string plo,.string key,.int .u64 (ple:Int),.int .u64 (pgr:Int),.int .u32 (pea:Int),.int .u32 (pla:Int)] 49 (0,0)) ∧ wc.heap[X]? = some (.cells #[.string key,.int .u32 (valid:Int),.int .u64 (seq:Int),.int .u64 (fline:Int),.int .u8 (kind:Int),.string val] 27 (0,0)) ∧ wc.heap[w.heap.size]? = some (.cells #[.int .u64 0,.int .u64 0,.string ⟨#[]⟩,.string ⟨#[]⟩,.int .u64 0,.int .u64 0,.int .u32 0,.int .u32 0] 49 (0,0)) ∧ Below w.heap.size w wc)
   case first =>
    obtain rfl | rfl:B0 = true ∨ B0 = false:=by cases B0 <;> simp
    ·have HE:=hid (show key = phi by
      have h:=beq_iff_eq.1 hB0.out.symm
      rw [ByteArray.toList_eq,ByteArray.toList_eq] at h
      obtain ⟨a1⟩:=key
      obtain ⟨a2⟩:=phi
      exact congrArg ByteArray.mk (Array.toList_inj.1 h))
     go_wp2
     go_meet
     case rel=>exact ⟨by rw [HE.out];exact HPc.out,HXc.out,HZc.out,HBc.out⟩
    ·go_wp2
     go_meet
     case rel=>exact HSetP.out _ _ 3 (.string key) HPc.out HXc.out HZc.out HBc.out
   case rest =>
    obtain ⟨hPc,hXc,hZc,hBc⟩:=hcut
    clear HPc HXc HZc HBc y0 x0 z0
    have HPc:=hid hPc
    have HXc:=hid hXc
    have HZc:=hid hZc
    have HBc:=hid hBc
    clear hPc hXc hZc hBc
    have y1:wc.cell? ⟨P,4,none⟩ = some (.int .u64 (ple:Int)):=(cell_of_row _ _ _ _ _ _ HPc.out).trans rfl
    have x1:wc.cell? ⟨X,2,none⟩ = some (.int .u64 (seq:Int)):=(cell_of_row _ _ _ _ _ _ HXc.out).trans rfl
    have z1:wc.frozen? ⟨P,4,none⟩ = false:=frozen_of_row _ _ _ _ _ HPc.out
    obtain ⟨B1,hB1⟩:∃ B,Hid (B = decide (seq < ple)):=⟨_,hid rfl⟩
    have d1:decide ((seq:Int) < (ple:Int)) = B1:=by rw [hB1.out];simp
    have d2:decide (seq < ple) = B1:=hB1.out.symm
    go_upto_if 59 with (fail)
    clear d1 d2
    go_cut [] (fun wc=>wc.heap[P]? = some (.cells #[.int .u64 (pl:Int),.int .u64 (pm:Int),.string plo,.string key,.int .u64 (A0:Int),.int .u64 (pgr:Int),.int .u32 (pea:Int),.int .u32 (pla:Int)] 49 (0,0)) ∧ wc.heap[X]? = some (.cells #[.string key,.int .u32 (valid:Int),.int .u64 (seq:Int),.int .u64 (fline:Int),.int .u8 (kind:Int),.string val] 27 (0,0)) ∧ wc.heap[w.heap.size]? = some (.cells #[.int .u64 0,.int .u64 0,.string ⟨#[]⟩,.string ⟨#[]⟩,.int .u64 0,.int .u64 0,.int .u32 0,.int .u32 0] 49 (0,0)) ∧ Below w.heap.size w wc)
    case first =>
     obtain rfl | rfl:B1 = true ∨ B1 = false:=by cases B1 <;> simp
     ·have HE:=hid (show A0 = seq by have:=of_decide_eq_true hB1.out.symm;rw [hA0.out];omega)
      go_wp2
      go_meet
      case rel=>rw [HE.out];exact HSetP.out _ _ 4 (.int .u64 (seq:Int)) HPc.out HXc.out HZc.out HBc.out
     ·have HE:=hid (show A0 = ple by have:=of_decide_eq_false hB1.out.symm;rw [hA0.out];omega)
      go_wp2
      go_meet
      case rel=>rw [HE.out];exact ⟨HPc.out,HXc.out,HZc.out,HBc.out⟩
    case rest =>
     obtain ⟨hPc,hXc,hZc,hBc⟩:=hcut
     clear HPc HXc HZc HBc y1 x1 z1
     have HPc:=hid hPc
     have HXc:=hid hXc
     have HZc:=hid hZc
     have HBc:=hid hBc
     clear hPc hXc hZc hBc
     have y2:wc.cell? ⟨P,5,none⟩ = some (.int .u64 (pgr:Int)):=(cell_of_row _ _ _ _ _ _ HPc.out).trans rfl
     have x2:wc.cell? ⟨X,2,none⟩ = some (.int .u64 (seq:Int)):=(cell_of_row _ _ _ _ _ _ HXc.out).trans rfl
     have z2:wc.frozen? ⟨P,5,none⟩ = false:=frozen_of_row _ _ _ _ _ HPc.out
     obtain ⟨B2,hB2⟩:∃ B,Hid (B = decide (pgr < seq)):=⟨_,hid rfl⟩
     have d1:decide ((pgr:Int) < (seq:Int)) = B2:=by rw [hB2.out];simp
     have d2:decide (pgr < seq) = B2:=hB2.out.symm
     go_upto_if 67 with (fail)
     clear d1 d2
     go_cut [] (fun wc=>wc.heap[P]? = some (.cells #[.int .u64 (pl:Int),.int .u64 (pm:Int),.string plo,.string key,.int .u64 (A0:Int),.int .u64 (A1:Int),.int .u32 (pea:Int),.int .u32 (pla:Int)] 49 (0,0)) ∧ wc.heap[X]? = some (.cells #[.string key,.int .u32 (valid:Int),.int .u64 (seq:Int),.int .u64 (fline:Int),.int .u8 (kind:Int),.string val] 27 (0,0)) ∧ wc.heap[w.heap.size]? = some (.cells #[.int .u64 0,.int .u64 0,.string ⟨#[]⟩,.string ⟨#[]⟩,.int .u64 0,.int .u64 0,.int .u32 0,.int .u32 0] 49 (0,0)) ∧ Below w.heap.size w wc)
     case first =>
      obtain rfl | rfl:B2 = true ∨ B2 = false:=by cases B2 <;> simp
      ·have HE:=hid (show A1 = seq by have:=of_decide_eq_true hB2.out.symm;rw [hA1.out];omega)
       go_wp2
       go_meet
       case rel=>rw [HE.out];exact HSetP.out _ _ 5 (.int .u64 (seq:Int)) HPc.out HXc.out HZc.out HBc.out
      ·have HE:=hid (show A1 = pgr by have:=of_decide_eq_false hB2.out.symm;rw [hA1.out];omega)
       go_wp2
       go_meet
       case rel=>rw [HE.out];exact ⟨HPc.out,HXc.out,HZc.out,HBc.out⟩
     case rest =>
      obtain ⟨hPc,hXc,hZc,hBc⟩:=hcut
      clear HPc HXc HZc HBc y2 x2 z2
      have HPc:=hid hPc
      have HXc:=hid hXc
      have HZc:=hid hZc
      have HBc:=hid hBc
      clear hPc hXc hZc hBc
      have y3:wc.cell? ⟨P,6,none⟩ = some (.int .u32 (pea:Int)):=(cell_of_row _ _ _ _ _ _ HPc.out).trans rfl
      have x3:wc.cell? ⟨X,1,none⟩ = some (.int .u32 (valid:Int)):=(cell_of_row _ _ _ _ _ _ HXc.out).trans rfl
      have z3:wc.frozen? ⟨P,6,none⟩ = false:=frozen_of_row _ _ _ _ _ HPc.out
      obtain ⟨B3,hB3⟩:∃ B,Hid (B = decide (valid < pea)):=⟨_,hid rfl⟩
      have d1:decide ((valid:Int) < (pea:Int)) = B3:=by rw [hB3.out];simp
      have d2:decide (valid < pea) = B3:=hB3.out.symm
      go_upto_if 75 with (fail)
      clear d1 d2
      go_cut [] (fun wc=>wc.heap[P]? = some (.cells #[.int .u64 (pl:Int),.int .u64 (pm:Int),.string plo,.string key,.int .u64 (A0:Int),.int .u64 (A1:Int),.int .u32 (A2:Int),.int .u32 (pla:Int)] 49 (0,0)) ∧ wc.heap[X]? = some (.cells #[.string key,.int .u32 (valid:Int),.int .u64 (seq:Int),.int .u64 (fline:Int),.int .u8 (kind:Int),.string val] 27 (0,0)) ∧ wc.heap[w.heap.size]? = some (.cells #[.int .u64 0,.int .u64 0,.string ⟨#[]⟩,.string ⟨#[]⟩,.int .u64 0,.int .u64 0,.int .u32 0,.int .u32 0] 49 (0,0)) ∧ Below w.heap.size w wc)
      case first =>
       obtain rfl | rfl:B3 = true ∨ B3 = false:=by cases B3 <;> simp
       ·have HE:=hid (show A2 = valid by have:=of_decide_eq_true hB3.out.symm;rw [hA2.out];omega)
        go_wp2
        go_meet
        case rel=>rw [HE.out];exact HSetP.out _ _ 6 (.int .u32 (valid:Int)) HPc.out HXc.out HZc.out HBc.out
       ·have HE:=hid (show A2 = pea by have:=of_decide_eq_false hB3.out.symm;rw [hA2.out];omega)
        go_wp2
        go_meet
        case rel=>rw [HE.out];exact ⟨HPc.out,HXc.out,HZc.out,HBc.out⟩
      case rest =>
       obtain ⟨hPc,hXc,hZc,hBc⟩:=hcut
       clear HPc HXc HZc HBc y3 x3 z3
       have HPc:=hid hPc
       have HXc:=hid hXc
       have HZc:=hid hZc
       have HBc:=hid hBc
       clear hPc hXc hZc hBc
       have y4:wc.cell? ⟨P,7,none⟩ = some (.int .u32 (pla:Int)):=(cell_of_row _ _ _ _ _ _ HPc.out).trans rfl
       have x4:wc.cell? ⟨X,1,none⟩ = some (.int .u32 (valid:Int)):=(cell_of_row _ _ _ _ _ _ HXc.out).trans rfl
       have z4:wc.frozen? ⟨P,7,none⟩ = false:=frozen_of_row _ _ _ _ _ HPc.out
       obtain ⟨B4,hB4⟩:∃ B,Hid (B = decide (pla < valid)):=⟨_,hid rfl⟩
       have d1:decide ((pla:Int) < (valid:Int)) = B4:=by rw [hB4.out];simp
       have d2:decide (pla < valid) = B4:=hB4.out.symm
       go_upto_if 83 with (fail)
       clear d1 d2
       obtain rfl | rfl:B4 = true ∨ B4 = false:=by cases B4 <;> simp
       ·have HE:=hid (show A3 = valid by have:=of_decide_eq_true hB4.out.symm;rw [hA3.out];omega)
        go_wp2
        go_roundw
        case rel =>
         have hset:_ ∧ _:=HSetP.out _ _ 7 (.int .u32 (valid:Int)) HPc.out HXc.out HZc.out HBc.out
         refine ⟨k + 1,key,by omega,by go_num,fun h=>by omega,fun j hj h => ?_, ?_,hset.2.2.1,hset.2.2.2⟩
         ·obtain rfl:j = k:=by omega
          rw [← Hf.out]
         ·have h:=hset.1
          rw [hA0.out,hA1.out,hA2.out] at h
          rw [HNX.out,← hA3.out,HE.out]
          exact h
        case measure=>simp [intOf];omega
       ·have HE:=hid (show A3 = pla by have:=of_decide_eq_false hB4.out.symm;rw [hA3.out];omega)
        go_wp2
        go_roundw
        case rel =>
         have hset:_ ∧ _:=And.intro HPc.out (And.intro HXc.out (And.intro HZc.out HBc.out))
         refine ⟨k + 1,key,by omega,by go_num,fun h=>by omega,fun j hj h => ?_, ?_,hset.2.2.1,hset.2.2.2⟩
         ·obtain rfl:j = k:=by omega
          rw [← Hf.out]
         ·have h:=hset.1
          rw [hA0.out,hA1.out,hA2.out] at h
          rw [HNX.out,← hA3.out,HE.out]
          exact h
        case measure=>simp [intOf];omega
  ·obtain rfl:k = n:=by omega
   have htk:fs.take k = fs:=List.take_of_length_le (by rw [Hn.out];exact Nat.le_refl _)
   have hhK:h = KL:=by rw [HKL.out (by rw [Hn.out];omega)];exact HH1.out (k - 1) (by rw [Hn.out];omega) (by omega)
   rw [htk,hhK] at hp
   obtain ⟨cs,hcs⟩:∃ cs,cs = (rpropsR line k f0 KL fs).cells.toArray:=⟨_,rfl⟩
   rw [← hcs] at hp
   have HCS:=hid hcs
   have hcl:cs.size = 8:=by rw [hcs];rfl
   have hc1:∀ v ∈ cs.toList,v.oneCell' = true:=by rw [hcs];intro v hv;simp only [Props.cells,List.mem_cons,List.not_mem_nil,or_false] at hv;rcases hv with rfl | rfl | rfl | rfl | rfl | rfl | rfl | rfl <;> rfl
   have HP:=hid hp
   have Hcl:=hid hcl
   have Hc1:=hid hc1
   clear hp hcs hcl hc1 htk hhK
   have HR5:=hid (setRow_heap wr _ _ cs _ _ HZ.out)
   go_wp2_with (first | (refine wpList_load_row rfl 49 _ rfl _ rfl _ _ _ _ HP.out Tryz.underlying49 rfl (by rw [Hcl.out];exact infoProps) ?_) | (refine wpList_store_block rfl 49 _ _ rfl _ _ _ _ rfl rfl HZ.out Hcl.out.symm (by rw [Hcl.out];exact infoProps) Hc1.out ?_))
   refine bodyPost_ret (results_cell_row rfl _ _ _ _ _ _ _ rfl HR5.out Tryz.underlying49 rfl (by rw [Hcl.out];exact infoProps)) rfl ?_
   exact ⟨by rw [HCS.out],below_setRow HB.out (Nat.le_refl _) _⟩
end Go.Proofs.Herb
namespace Go.Proofs.Herb
open Go.RowKit
structure FS (w0 W:World) (bs:Nat) (qb:Option Addr) (nb cb:Nat) (B:List UInt8) (qf:Option Addr) (nf cf:Nat) (F:List UInt8) (exs:List (Option Addr × List UInt8)) (rows:List (Nat × Array Value × TypeId)):Prop where
 b:W.ownsRow bs 5 1 (.slice qb nb cb) nb (B.map bv)
 f:W.ownsRow bs 5 1 (.slice qf nf cf) nf (F.map bv)
 ap:Apart2 qb qf
 ex:∀ x ∈ exs,Rd W x.1 (x.2.map bv) ∧ ∀ a,x.1 = some a → a.block < W.heap.size ∧ (∀ y,qb = some y → a.block ≠ y.block) ∧ ∀ y,qf = some y → a.block ≠ y.block
 row:∀ r ∈ rows,W.heap[r.1]? = some (.cells r.2.1 r.2.2 (0,0)) ∧ r.2.2 ≠ 5
 below:Below bs w0 W
theorem rd_same {W W':World} {a:Option Addr} {xs:List Value} (h:Rd W a xs) (hs:∀ x,a = some x → x.block < W.heap.size → W'.heap[x.block]? = W.heap[x.block]?):Rd W' a xs:=by
 rcases h with h | ⟨b,off,rfl,hc⟩
 ·exact .inl h
 ·refine .inr ⟨b,off,rfl,fun j u hu => ?_⟩
  have h1:=hc j u hu
  have hl:b < W.heap.size:=World.block_lt_of_cell? W _ h1
  have h2:=hs ⟨b,off,none⟩ rfl hl
  exact (World.cell?_of_block (a:=⟨b,off + j,none⟩) h2).trans h1
theorem FS.on {w0 W W':World} {bs:Nat} {qb:Option Addr} {nb cb:Nat} {B:List UInt8} {qf:Option Addr} {nf cf:Nat} {F:List UInt8} {exs:List (Option Addr × List UInt8)} {rows:List (Nat × Array Value × TypeId)} (h:FS w0 W bs qb nb cb B qf nf cf F exs rows) (hb:Below W.heap.size W W') (hs:bs ≤ W.heap.size):FS w0 W' bs qb nb cb B qf nf cf F exs rows :=
 ⟨own_below h.b hb,own_below h.f hb,h.ap,fun x hx=>⟨(h.ex x hx).1.below hb,fun a ha=>⟨Nat.lt_of_lt_of_le ((h.ex x hx).2 a ha).1 hb.size,((h.ex x hx).2 a ha).2⟩⟩,fun r hr=>⟨(hb.block _ (lt_of_block (h.row r hr).1)).trans (h.row r hr).1,(h.row r hr).2⟩,h.below.trans (hb.mono hs)⟩
theorem own_len {w:World} {base:Nat} {e:TypeId} {v:Value} {n:Nat} {l:List UInt8} (h:w.ownsRow base e 1 v n (l.map bv)):l.length = n:=by have:=h.1;simpa using this
theorem FS.foot {w0 W W':World} {bs:Nat} {qb:Option Addr} {nb cb:Nat} {B:List UInt8} {qf:Option Addr} {nf cf:Nat} {F:List UInt8} {exs:List (Option Addr × List UInt8)} {rows:List (Nat × Array Value × TypeId)} (h:FS w0 W bs qb nb cb B qf nf cf F exs rows) {qf':Option Addr} {m c':Nat} {k:List UInt8} (g:Grew2 bs W W' qf qf' m c' k):FS w0 W' bs qb nb cb B qf' m c' k exs rows:=by
 refine ⟨own_grew g h.ap.symm h.b,g.own,(Apart2.grew h.ap.symm g h.b).symm,fun x hx => ?_,fun r hr=>⟨(g.other _ (lt_of_block (h.row r hr).1) fun b hb e => ?_).trans (h.row r hr).1,(h.row r hr).2⟩,h.below.trans g.below⟩
 ·obtain ⟨h1,h2⟩:=h.ex x hx
  refine ⟨rd_same h1 fun a ha hl=>g.other _ hl fun b hb=>((h2 a ha).2.2 b hb),fun a ha => ?_⟩
  obtain ⟨k1,k2,k3⟩:=h2 a ha
  refine ⟨Nat.lt_of_lt_of_le k1 g.below.size,k2,fun y hy => ?_⟩
  rcases g.place with e | ⟨g',e,hg⟩
  ·exact k3 y (e.symm.trans hy)
  ·rw [e] at hy
   cases hy
   exact fun h=>absurd (Nat.lt_of_lt_of_le k1 hg) (by rw [h];exact Nat.lt_irrefl _)
 ·obtain ⟨_,hc⟩:=own_some h.f b hb
  obtain ⟨cs,hc⟩:=hc
  have h1:=(h.row r hr).1
  rw [e,hc,Option.some.injEq,Obj.cells.injEq] at h1
  exact (h.row r hr).2 h1.2.1.symm
theorem FS.turn {w0 W:World} {bs:Nat} {qb:Option Addr} {nb cb:Nat} {B:List UInt8} {qf:Option Addr} {nf cf:Nat} {F:List UInt8} {exs:List (Option Addr × List UInt8)} {rows:List (Nat × Array Value × TypeId)} (h:FS w0 W bs qb nb cb B qf nf cf F exs rows):FS w0 W bs qf nf cf F qb nb cb B exs rows :=
 ⟨h.f,h.b,h.ap.symm,fun x hx=>⟨(h.ex x hx).1,fun a ha=>⟨((h.ex x hx).2 a ha).1,((h.ex x hx).2 a ha).2.2,((h.ex x hx).2 a ha).2.1⟩⟩,h.row,h.below⟩
theorem FS.body {w0 W W':World} {bs:Nat} {qb:Option Addr} {nb cb:Nat} {B:List UInt8} {qf:Option Addr} {nf cf:Nat} {F:List UInt8} {exs:List (Option Addr × List UInt8)} {rows:List (Nat × Array Value × TypeId)} (h:FS w0 W bs qb nb cb B qf nf cf F exs rows) {qb':Option Addr} {m c':Nat} {k:List UInt8} (g:Grew2 bs W W' qb qb' m c' k):FS w0 W' bs qb' m c' k qf nf cf F exs rows:=(h.turn.foot g).turn
theorem fr_lo {w:World} {base:Nat} {e:TypeId} {k:Nat} {q:Option Addr} {n c:Nat} {xs:List Value} (h:Fr w base e k (.slice q n c) n xs):∀ a,q = some a → base ≤ a.block ∧ a.block < w.heap.size:=by
 rcases h.2 with ⟨h,_⟩ | ⟨g,cap,cur,hv,hb,hh,_⟩
 ·cases h;intro a e;cases e
 ·cases hv;intro a e;cases e;exact ⟨hb,lt_of_block hh⟩
def RBuild (line:Nat) (fs:List Fact) (b0:Nat) (w:World) (e:Ending) (w':World):Prop :=
 Below b0 w w' ∧ ((¬ (GoodF line fs ∧ 0 < fs.length) ∧ e = .returned (.tuple #[.slice none 0 0,.agg zProps,.int .i64 1])) ∨
  (GoodF line fs ∧ 0 < fs.length ∧ 65536 < (tabB line fs).length ∧ e = .returned (.tuple #[.slice none 0 0,.agg zProps,.int .i64 3])) ∨
  (GoodF line fs ∧ 0 < fs.length ∧ (tabB line fs).length ≤ 65536 ∧ ∃ q c,e = .returned (.tuple #[.slice q (tabB line fs).length c,.agg (propsF line fs).cells.toArray,.int .i64 0]) ∧ Fr w' b0 5 1 (.slice q (tabB line fs).length c) (tabB line fs).length ((tabB line fs).map bv)))
theorem rb_results {tmps:Array Value} {w:World} {B:Nat} {C:Array Value} {v:Value} {e:Int} (h4:tmps.getD 4 undef = v) (h5:tmps.getD 5 undef = .pointer (some ⟨B,0,none⟩)) (h6:tmps.getD 6 undef = .int .i64 e) (g:w.heap[B]? = some (.cells C 49 (0,0))) (hC:C.size = 8) :
  (results Tryz.f37 tmps).run Tryz.prog w = .ok (.tuple #[v,.agg C,.int .i64 e]) w:=by
 have r2:=run_loadVar_row (P:=Tryz.prog) w B _ 49 C (0,0) _ g Tryz.underlying49 rfl (by rw [hC];exact infoProps)
 have hr:(Tryz.f37).results = #[.tmp 4,.cell 5 49,.tmp 6]:=rfl
 simp [results,asAddr] at h4 h5 h6 ⊢
 simp [h4,h5,h6,r2]
theorem FS.lit {w0 W W':World} {bs:Nat} {qb:Option Addr} {nb cb:Nat} {B:List UInt8} {exs:List (Option Addr × List UInt8)} {rows:List (Nat × Array Value × TypeId)} (h:FS w0 W bs qb nb cb B none 0 0 [] exs rows) (hs:bs ≤ W.heap.size) {q':Option Addr} {m c':Nat} {k:List UInt8} (g:W'.ownsRow W.heap.size 5 1 (.slice q' m c') m (k.map bv)) (hb:Below W.heap.size W W'):FS w0 W' bs qb nb cb B q' m c' k exs rows:=by
 have hlo:=fr_lo (Fr.of_own g)
 refine ⟨own_below h.b hb,own_mono g hs,fun y z hy hz => ?_,fun x hx=>⟨(h.ex x hx).1.below hb,fun a ha=>⟨Nat.lt_of_lt_of_le ((h.ex x hx).2 a ha).1 hb.size,((h.ex x hx).2 a ha).2.1,fun y hy => ?_⟩⟩,fun r hr=>⟨(hb.block _ (lt_of_block (h.row r hr).1)).trans (h.row r hr).1,(h.row r hr).2⟩,h.below.trans (hb.mono hs)⟩
 ·have h1:=(bown_lt h.b y.block (by rw [hy];rfl)).2
  have h2:=(hlo z hz).1
  omega
 ·have h1:=((h.ex x hx).2 a ha).1
  have h2:=(hlo y hy).1
  omega
section
variable {ops:Array Oper} {rest:List Oper} {o:Oper} {a:Act} {w:World} {Q:Exit → Act → World → Prop}
theorem app_full (hgd:o.guard = none) (s x:Operand) (ho:o.op = .call { callee:=.builtin .append,args := #[s,x],argTypes := #[22,22] })
  (q:Option Addr) (n:Nat) (l:List UInt8) (hs:a.eval s = .slice q n n) (hl:l.length = n) (hr:Rd w q (l.map bv)) (ad:Option Addr) (m d:Nat) (k:List UInt8) (hm:0 < m) (hx:a.eval x = .slice ad m d) (hk:k.length = m) (hrk:Rd w ad (k.map bv)) (hsz:n + m ≤ 1000000000000)
  (h:∀ q' c' w',w'.ownsRow w.heap.size 5 1 (.slice q' (n + m) c') (n + m) ((l ++ k).map bv) → Below w.heap.size w w' → wpList Tryz.prog ops Q rest (a.put o.dst (.slice q' (n + m) c')) w'):wpList Tryz.prog ops Q (o :: rest) a w:=by
 obtain ⟨i,hi,hz,hsize,hby⟩:=info_parts infoU8
 have hsrc:Src Tryz.prog 1 22 (.slice ad m d) m (k.map bv) w:=src_rd (by decide) Tryz.underlying22 d (by simp [hk]) hrk bv_one
 obtain ⟨q',c',w',hrun,hcase⟩:=run_append_clip (P:=Tryz.prog) w 22 22 o.type 5 i (.int .u8 0) 1 1 Tryz.underlying22 hi hz hsize hby rfl (by decide) q n (l.map bv) (by simp [hl]) hr (.slice ad m d) m (k.map bv) hsrc (by unfold maxLen;omega) (by omega)
 refine wpList_plain hgd fun K hK => ?_
 unfold Oper.wp execOp
 simp only [ho,resolve,invoke,builtin,Sem.run_bind,Sem.run_pure,Result.andThen_ok,List.map_toArray,List.map_cons,List.map_nil,hs,hx,hrun]
 refine hK _ _ ?_
 rcases hcase with ⟨h1,h2⟩ | ⟨hown,hgr⟩
 ·exfalso
  omega
 ·rw [← List.map_append] at hown
  exact h _ _ _ hown ⟨hgr.os,hgr.tape,hgr.output,hgr.size,fun k hk=>hgr.block k hk (by simp)⟩
end
theorem compact_succ (d:Array (List UInt8)) (k:Nat):Lib.compactUpTo d (k + 1) = Lib.compactUpTo d k ++ if Lib.keeps d k = true then [d[k]!] else []:=by
 unfold Lib.compactUpTo
 rw [List.range_succ,List.filter_append,List.map_append]
 by_cases h:Lib.keeps d k = true
 ·rw [if_pos h];simp [h]
 ·rw [if_neg h];simp [h]
theorem chunk_big {line:Nat} {fs:List Fact} {j:Nat} (hj:j < (chunksOf (itemsF fs)).length) (h:65536 < (bAll (subI (itemsF fs) (chunksOf (itemsF fs))[j])).length):65536 < (tabB line fs).length:=by
 have h1:=upB_mono (itemsF fs) ((chunksOf (itemsF fs)).drop (j + 1)) ((chunksOf (itemsF fs)).take (j + 1))
 rw [List.take_append_drop,List.take_succ_eq_append_getElem hj,upB_snoc] at h1
 have h2:=out_le line fs
 unfold outB at h2
 unfold stepB at h1
 simp only [List.length_append] at h1
 omega
end Go.Proofs.Herb
namespace Go.Proofs.Herb
open Go.RowKit
set_option maxRecDepth 100000 in
set_option maxHeartbeats 8000000 in
theorem ref_build (line:Nat) (q:Option Addr) (n c:Nat) (fs:List Fact) (w:World) (hn:fs.length = n) (hm:n ≤ 24000) (hr:Rd w q (fCells fs)) (ho:∀ f ∈ fs,f.Ok) :
  Calls Tryz.prog 37 #[.int .u64 (line:Int),.slice q n c] w (RBuild line fs w.heap.size w):=by
 obtain ⟨w1,hw1⟩:∃ w1,w.alloc (.cells zProps 49) = w1:=⟨_,rfl⟩
 have hB1:Below w.heap.size w w1:=by rw [← hw1];exact (Below.refl _ _).alloc (Nat.le_refl _) _
 have hZ1:w1.heap[w.heap.size]? = some (.cells zProps 49 (0,0)):=by rw [← hw1];exact heap_alloc_new _ _
 have HMay:=hid (ref_mayT line q n c fs w1 hn (by omega) (hr.below hB1))
 have Hw1:=hid hw1
 have HB1:=hid hB1
 have HZ1:=hid hZ1
 have Hn:=hid hn
 have Hr:=hid hr
 have Ho:=hid ho
 have hs1:w1.heap.size = w.heap.size + 1:=by rw [← hw1,World.size_alloc]
 have HS1:=hid hs1
 clear hw1 hB1 hZ1 hn hr ho hs1
 go_enter Tryz.func37,Tryz.ntmps37
 go_upto_region 1 with (fail)
 have hw1:=Hw1.out
 unfold zProps at hw1
 rw [hw1]
 clear hw1
 go_wp2_with fail
 (with_reducible refine HMay.out.mono ?_)
 rintro e w2 ⟨rfl,hb2⟩
 have HZ2:=hid ((hb2.block _ (by have:=HS1.out;omega)).trans HZ1.out)
 have HB2:=hid (HB1.out.trans (hb2.mono HB1.out.size))
 have hlt2:w.heap.size < w2.heap.size:=by have:=hb2.size;have:=HS1.out;omega
 clear hb2 HMay
 by_cases hgood:GoodF line fs ∧ 0 < fs.length
 ·have hmt:=mayT_iff.2 hgood
  obtain ⟨hg,h0⟩:=hgood
  have HG:=hid hg
  have HCh:=hid (ref_chunks line q n c fs w2 Hn.out hm (Hr.out.below HB2.out) Ho.out hg)
  have H0:=hid h0
  have hn0:0 < n:=by rw [← Hn.out];exact h0
  obtain ⟨hri1,hri2⟩:=good_rise hg h0 Ho.out
  have HRi1:=hid hri1
  have HRi2:=hid hri2
  obtain ⟨l,hl⟩:∃ l,Hid (l = itemsF fs):=⟨_,hid rfl⟩
  have Hsz:=hid (show ∀ x ∈ l,x.key.size + x.val.size ≤ 100000 by rw [hl.out];exact item_size hg)
  obtain ⟨cs,hcs⟩:∃ cs,Hid (cs = chunksOf l):=⟨_,hid rfl⟩
  rw [← hl.out,← hcs.out] at HCh HRi1
  obtain ⟨M,hM⟩:∃ M,Hid (M = cs.length):=⟨_,hid rfl⟩
  rw [← hM.out] at HCh
  have hMl:M ≤ 24000:=by
   rw [hM.out,hcs.out]
   have h1:=chunks_len l
   have h2:l.length = n:=by rw [hl.out,← Hn.out];simp [itemsF]
   omega
  clear hg h0 hri1 hri2
  go_wp2_with fail
  (with_reducible refine HCh.out.mono ?_)
  rintro e wC ⟨o,oc,vs,rfl,hown9,hch,hbC⟩
  have HRo:=hid (Fr.of_own hown9).rd
  have HOvs:=hid hown9.1
  have HChv:=hid hch
  have HZC:=hid ((hbC.block _ hlt2).trans HZ2.out)
  have HBC:=hid (HB2.out.trans (hbC.mono HB2.out.size))
  have hltC:w.heap.size < wC.heap.size:=by have:=hbC.size;omega
  clear hown9 hch hbC HZ2 HCh hmt
  go_wp2_with fail
  have HbsC:=hid (Nat.le_refl wC.heap.size)
  go_loopw [7,8,10] (fun v7 v8 i wr=>∃ (j:Nat) (q7 q8:Option Addr) (c7 c8 N7:Nat),j ≤ M ∧ i = .int .i64 (j:Int) ∧ v7 = .slice q7 N7 c7 ∧ N7 = (upB l (cs.take j)).1.length ∧ N7 ≤ j * 65536 ∧ v8 = .slice q8 j c8 ∧
   wr.ownsRow wC.heap.size 5 1 (.slice q7 N7 c7) N7 ((upB l (cs.take j)).1.map bv) ∧ wr.ownsRow wC.heap.size 100 2 (.slice q8 j c8) j (iCells (upB l (cs.take j)).2) ∧ Below wC.heap.size wC wr) (fun _ _ i _=>M - (intOf i).toNat)
  case atStart=>exact ⟨0,none,none,0,0,0,Nat.zero_le _,rfl,rfl,rfl,Nat.le_refl _,rfl,World.ownsRow_nil _ _ _ _,World.ownsRow_nil _ _ _ _,Below.refl _ _⟩
  case round =>
   obtain ⟨j,q7,q8,c7,c8,N7,hj,rfl,rfl,hN7,hN7l,rfl,hown7,hown8,hB⟩:=hrel
   have HN7:=hid hN7
   have HO7:=hid hown7
   have HO8:=hid hown8
   have HB:=hid hB
   have hbs:=hB.size
   clear hN7 hown7 hown8 hB
   by_cases hlt:j < M
   ·have hjc:j < cs.length:=by rw [← hM.out];exact hlt
    have hjv:j < vs.length:=by rw [HChv.out.1,← hM.out];exact hlt
    obtain ⟨x,hx⟩:∃ x,Hid (x = cs[j]):=⟨_,hid rfl⟩
    obtain ⟨h1,h2,a,ca,h3,h4⟩:=HChv.out.2 j vs[j] x (List.getElem?_eq_getElem hjv) (by rw [List.getElem?_eq_getElem hjc,hx.out])
    obtain ⟨bo,oo,rfl,hco⟩:=(HRo.out.below HB.out).cell (k:=j) hjv
    rw [h3] at hco
    obtain ⟨LN,hLN⟩:∃ n,Hid (n = x.2 - x.1):=⟨_,hid rfl⟩
    rw [← hLN.out] at hco h4
    obtain ⟨lx,hlx⟩:∃ y,Hid (y = subI l x):=⟨_,hid rfl⟩
    have hlxl:lx.length = LN:=by rw [hlx.out,sub_len h2,hLN.out]
    have hLN0:0 < LN:=by rw [hLN.out];omega
    have hlx2:x.2 ≤ 24000:=by
     have h5:l.length = n:=by rw [hl.out,← Hn.out];simp [itemsF]
     omega
    have hLNl:LN ≤ 24000:=by rw [hLN.out];omega
    rw [← hlx.out] at h4
    have HRl:=hid ((Fr.of_own h4).rd.below HB.out)
    have HRlC:=hid (Fr.of_own h4).rd
    have hsz:∀ y ∈ lx,y.key.size ≤ 100000 ∧ y.val.size ≤ 100000:=fun y hy=>by
     have:=Hsz.out y (by rw [hlx.out] at hy;unfold subI at hy;exact List.mem_of_mem_drop (List.mem_of_mem_take hy))
     omega
    have HPut:=hid (ref_bput a LN ca lx wr hlxl (by omega) HRl.out hsz)
    have HRise:=hid (show RiseI lx by rw [hlx.out,hx.out];exact HRi1.out _ (List.getElem_mem hjc))
    have Hlxl:=hid hlxl
    have Hsz2:=hid hsz
    have HCo:=hid ((HRo.out).below HB.out)
    have hco':=hid hco
    have i0:(0:Int) ≤ (j:Int):=by omega
    have i1:(j:Int) < (M:Int):=by omega
    have i2:IntKind.i64.wrap ((LN:Int) - 1) = ((LN - 1:Nat):Int):=by rw [IntWalk.i64_in _ (by omega)];omega
    clear h1 h2 h3 h4 hlxl hsz
    go_wp2_with fail
    (with_reducible refine HPut.out.mono ?_)
    rintro e w3 ⟨hb3,h3⟩
    have HB3:=hid (HB.out.trans (hb3.mono hbs))
    have HZ3:=hid ((HB3.out.block _ hltC).trans HZC.out)
    rcases h3 with ⟨h3, -⟩ | ⟨-,h3,rfl⟩ | ⟨-,h3,q11,c11,rfl,hf11⟩
    ·exact absurd HRise.out h3
    ·have HBig:=hid (show 65536 < (tabB line fs).length from chunk_big (j:=j) (by rw [← hl.out,← hcs.out];exact hjc) (by
      have h5:(chunksOf (itemsF fs))[j]'(by rw [← hl.out,← hcs.out];exact hjc) = x:=by rw [hx.out];simp only [hcs.out,hl.out]
      rw [h5,← hl.out,← hlx.out]
      exact h3))
     clear h3 hb3 hco HPut
     go_wp2_with (refine wpList_store_block rfl 49 _ _ rfl _ _ _ _ rfl rfl HZ3.out rfl infoProps zProps1 ?_)
     refine bodyPost_ret (rb_results rfl rfl rfl (setRow_heap _ _ _ _ _ _ HZ3.out) rfl) rfl ?_
     exact ⟨below_setRow (HBC.out.trans (HB3.out.mono (by omega))) (Nat.le_refl _) _,.inr (.inl ⟨HG.out,H0.out,HBig.out,rfl⟩)⟩
    ·obtain ⟨CB,hCB⟩:∃ b,Hid (b = bAll lx):=⟨_,hid rfl⟩
     rw [← hCB.out] at hf11 h3
     rw [← hCB.out]
     obtain ⟨N11,hN11⟩:∃ n,Hid (n = CB.length):=⟨_,hid rfl⟩
     rw [← hN11.out] at hf11 h3
     rw [← hN11.out]
     have HF11:=hid hf11
     have Hb3:=hid hb3
     have HO73:=hid (own_below HO7.out hb3)
     have HO83:=hid (own_below HO8.out hb3)
     have hs3:=hb3.size
     obtain ⟨L1,hL1⟩:∃ n,Hid (n = LN - 1):=⟨_,hid rfl⟩
     have hL1l:L1 < lx.length:=by rw [hL1.out,Hlxl.out];omega
     obtain ⟨ba,oa,rfl, -, -, -⟩:=item_at HRlC.out hL1l
     obtain ⟨y,hy⟩:∃ y,Hid (y = lx[L1]):=⟨_,hid rfl⟩
     have HS:Hid (∀ w',Below wC.heap.size wC w' → w'.cell? ⟨bo,oo + j,none⟩ = some (.slice (some ⟨ba,oa,none⟩) LN ca) ∧ w'.cell? ⟨ba,oa + L1 * 2,none⟩ = some (.string y.key) ∧ w'.cell? ⟨ba,oa + L1 * 2 + 1,none⟩ = some (.string y.val)):=hid fun w' hb=>by
      refine ⟨?_, ?_⟩
      ·obtain ⟨b1,o1,e1,h1⟩:=(HRo.out.below hb).cell (k:=j) hjv
       cases e1
       obtain ⟨b2,o2,e2,h2⟩:=HCo.out.cell (k:=j) hjv
       cases e2
       rw [h1,← h2]
       exact hco
      ·obtain ⟨b1,o1,e1, -,h1,h2⟩:=item_at (HRlC.out.below hb) hL1l
       cases e1
       rw [hy.out]
       exact ⟨h1,h2⟩
     have HBd:=hid HB3.out.drew
     have HBa:=hid (HB3.out.alloc (HB3.out.size) (.cells #[.string ⟨#[]⟩,.string ⟨#[]⟩] 100)).drew
     have HBa2:=hid (HB3.out.alloc (HB3.out.size) (.cells #[.string y.key,.string y.val] 100)).drew
     rw [show LN - 1 = L1 from hL1.out.symm] at i2
     have i3:(0:Int) ≤ (L1:Int):=by omega
     have i4:(L1:Int) < (LN:Int):=by have:=hL1.out;omega
     clear hf11 hb3 hco HPut
     go_upto_region 12 with (fail)
     go_region_held3 (fun w'=>w'.cell? ⟨bo,oo + j,none⟩ = some (.slice (some ⟨ba,oa,none⟩) LN ca) ∧ w'.cell? ⟨ba,oa + L1 * 2,none⟩ = some (.string y.key) ∧ w'.cell? ⟨ba,oa + L1 * 2 + 1,none⟩ = some (.string y.val)) (first | exact HS.out _ HBd.out | exact HS.out _ HBa.out | exact HS.out _ HBa2.out) (fail)
     all_goals go_wp2_with fail
     obtain ⟨w4,hw4⟩:∃ w4,w4 = (w3.alloc (.cells #[.string y.key,.string y.val] 100)).drew:=⟨_,rfl⟩
     have hb34:Below w3.heap.size w3 w4:=hw4 ▸ ((Below.refl _ _).alloc (Nat.le_refl _) _).drew
     have HX4:=hid (show w4.heap[w3.heap.size]? = some (.cells #[.string y.key,.string y.val] 100 (0,0)) from hw4 ▸ heap_alloc_new w3 _)
     have hX4l:w3.heap.size < w4.heap.size:=lt_of_block HX4.out
     have HB4:=hid (HB3.out.trans (hb34.mono HB3.out.size))
     have HO74:=hid (own_below HO73.out hb34)
     have HO84:=hid (own_below HO83.out hb34)
     have HF114:=hid (HF11.out.below hb34)
     have hs4:=hb34.size
     rw [← hw4]
     have HP1:=hid (ref_putv none 0 0 N7 ([]:List UInt8) w4 rfl (by decide) (.inl rfl) (fun _=>rfl) (by omega))
     clear hw4 hb34 HO73 HO83
     (with_reducible refine HP1.out.mono ?_)
     rintro e w5 ⟨q5,c5,rfl,ho5,hb5⟩
     have hN11l:N11 ≤ 65536:=h3
     obtain ⟨V5,hV5⟩:∃ v,Hid (v = (vput N7).length):=⟨_,hid rfl⟩
     have hV5l:V5 ≤ 10:=by rw [hV5.out];exact (vput_len N7).2
     rw [List.nil_append,Nat.zero_add,← hV5.out] at ho5
     rw [Nat.zero_add,← hV5.out]
     have HP2:=hid (ref_putv_step _ V5 N11 q5 c5 (vput N7) w5 (by omega) ho5 (by omega))
     have HB5:=hid hb5
     have hs5:=hb5.size
     have u1:(N7:Int) % 18446744073709551616 = (N7:Int):=by omega
     have u2:(N11:Int) % 18446744073709551616 = (N11:Int):=by omega
     clear ho5 hb5 HP1
     go_wp2_with fail
     (with_reducible refine HP2.out.mono ?_)
     rintro e w6 ⟨q6,c6,rfl,ho6,hb6⟩
     obtain ⟨NP,hNP⟩:∃ v,v = V5 + (vput N11).length:=⟨_,rfl⟩
     rw [← hNP] at ho6 ⊢
     obtain ⟨PS,hPS⟩:∃ s:ByteArray,Hid (s = ⟨(vput N7 ++ vput N11).toArray⟩):=⟨_,hid rfl⟩
     have hcv:=convB w6 q6 NP c6 (vput N7 ++ vput N11) (own_len ho6) (Fr.of_own ho6).rd
     rw [← hPS.out] at hcv
     have hb46:=HB5.out.trans (hb6.mono hs5)
     have c6k:w6.cell? ⟨w3.heap.size,0,none⟩ = some (.string y.key):=(cell_of_row _ _ _ _ _ _ ((hb46.block _ hX4l).trans HX4.out)).trans rfl
     have HB6:=hid (HB4.out.trans (hb46.mono HB4.out.size))
     have HO76:=hid (own_below HO74.out hb46)
     have HO86:=hid (own_below HO84.out hb46)
     have HF116:=hid (HF114.out.below hb46)
     have hA6:Below w6.heap.size w6 (w6.alloc (.cells #[.string y.key,.string PS] 100)):=(Below.refl _ _).alloc (Nat.le_refl _) _
     have HA6:=hid hA6
     have HB6a:=hid (HB6.out.trans (hA6.mono HB6.out.size))
     have HO76a:=hid (own_below HO76.out hA6)
     have HO86a:=hid (own_below HO86.out hA6)
     have HF116a:=hid (HF116.out.below hA6)
     have HSrc:=hid (src_rd (P:=Tryz.prog) (size:=2) (by decide) (tx:=91) (e':=100) Tryz.underlying91 (w:=w6.alloc (.cells #[.string y.key,.string PS] 100)) (ad:=some ⟨w6.heap.size,0,none⟩) (m:=1) 1 (news:=[.string y.key,.string PS]) rfl (Rd.new w6 [.string y.key,.string PS] 100) (by simp [Value.oneCell']))
     have hm1:j + 1 ≤ maxLen:=by unfold maxLen;omega
     have hm2:(j + 1) * 32 ≤ 140737488355328:=by omega
     have hsz7:N7 + N11 ≤ 1000000000000:=by omega
     clear ho6 hb6 hNP hA6 hb46 HP2
     go_wp2_with (first
      | (refine wpList_append_src rfl (.tmp 68) (.tmp 74) 91 91 rfl wC.heap.size 100 (.agg #[.string ⟨#[]⟩,.string ⟨#[]⟩]) 2 32 Tryz.underlying91 infoItem rfl (by decide) q8 j c8 _ rfl HO86a.out _ 1 [.string y.key,.string PS] rfl HSrc.out hm1 hm2 HB6a.out.size ?_;intro q9 c9 w9 g1 g2 g3;have G1:=hid g1;have G2:=hid g2;have HB9:=hid (Below.grown' HB6a.out HO86a.out g2 HB6a.out.size);have HO79:=hid (own_kinds HO76a.out HO86a.out (by decide) g2);have HF119:=hid (HF116a.out.kept (fun g hg hgl=>g2.block g hgl (fun e=>by have:=(bown_lt HO8.out g e.symm).2;omega)));clear g1 g2 g3)
      | (refine app2 rfl (.tmp 76) (.tmp 77) rfl wC.heap.size q7 N7 c7 _ rfl HO79.out q11 N11 c11 CB rfl hN11.out.symm HF119.out.rd hsz7 HB9.out.size ?_;intro q10 c10 w10 k1;have K1:=hid k1;clear k1))
     go_roundw
     case rel =>
      have hst:upB l (cs.take (j + 1)) = ((upB l (cs.take j)).1 ++ CB,(upB l (cs.take j)).2 ++ [⟨y.key,PS⟩]):=by
       rw [List.take_succ_eq_append_getElem hjc,upB_snoc,← hx.out]
       unfold stepB
       rw [← hlx.out,← hCB.out,← HN7.out,← hN11.out,← hPS.out,lastKey_eq (k:=L1) (by rw [Hlxl.out,hL1.out];omega),hy.out]
      refine ⟨j + 1,q10,q9,c10,c9,N7 + N11,by omega,by go_num,rfl,by rw [hst,List.length_append,← HN7.out,← hN11.out],by omega,rfl, ?_, ?_,HB9.out.trans K1.out.below⟩
      ·rw [hst];exact K1.out.own
      ·rw [hst,iCells_append]
       exact own_grewK G1.out (by decide) HO79.out K1.out.toGrew
     case measure=>simp [intOf];omega
   ·obtain rfl:j = M:=by omega
    have htk:cs.take j = cs:=List.take_of_length_le (by rw [← hM.out];exact Nat.le_refl _)
    obtain ⟨IX,hIX⟩:∃ x,Hid (x = (upB l cs).2):=⟨_,hid rfl⟩
    obtain ⟨OB,hOB⟩:∃ x,Hid (x = (upB l cs).1):=⟨_,hid rfl⟩
    rw [htk,← hOB.out] at HN7 HO7
    rw [htk,← hIX.out] at HO8
    have HIX:=hid (show IX = idxI fs by rw [hIX.out,hcs.out,hl.out];rfl)
    have HOB:=hid (show OB = outB fs by rw [hOB.out,hcs.out,hl.out];rfl)
    have hIXl:IX.length = j:=by
     have h:=HO8.out.1
     rw [iCells_len] at h
     omega
    have HIl:=hid hIXl
    have HPut:=hid (ref_bput q8 j c8 IX wr hIXl (by omega) (Fr.of_own HO8.out).rd (by rw [hIX.out];exact upB_sizes (fun x hx=>by have:=Hsz.out x hx;omega) cs))
    have H7lt:=hid (show ∀ y,q7 = some y → y.block < wr.heap.size from fun y hy=>(bown_lt HO7.out y.block (by rw [hy];rfl)).2)
    clear htk hIXl
    go_wp2_with fail
    (with_reducible refine HPut.out.mono ?_)
    rintro e w3 ⟨hb3,h3⟩
    have HB3:=hid (HB.out.trans (hb3.mono hbs))
    have HZ3:=hid ((HB3.out.block _ hltC).trans HZC.out)
    rcases h3 with ⟨h3, -⟩ | ⟨-,h3,rfl⟩ | ⟨-,h3,q15,c15,rfl,hf15⟩
    ·rw [HIX.out] at h3;exact absurd HRi2.out h3
    ·have HBig:=hid (show 65536 < (tabB line fs).length from by
      have:=idx_le line fs
      rw [HIX.out] at h3
      unfold idxB idxI at *
      omega)
     clear h3 hb3 HPut
     go_wp2_with (refine wpList_store_block rfl 49 _ _ rfl _ _ _ _ rfl rfl HZ3.out rfl infoProps zProps1 ?_)
     refine bodyPost_ret (rb_results rfl rfl rfl (setRow_heap _ _ _ _ _ _ HZ3.out) rfl) rfl ?_
     exact ⟨below_setRow (HBC.out.trans (HB3.out.mono (by omega))) (Nat.le_refl _) _,.inr (.inl ⟨HG.out,H0.out,HBig.out,rfl⟩)⟩
    ·obtain ⟨TB,hTB⟩:∃ b,Hid (b = bAll IX):=⟨_,hid rfl⟩
     rw [← hTB.out] at hf15 h3
     rw [← hTB.out]
     obtain ⟨N15,hN15⟩:∃ n,Hid (n = TB.length):=⟨_,hid rfl⟩
     rw [← hN15.out] at hf15 h3
     rw [← hN15.out]
     have HTB:=hid (show TB = idxB fs by rw [hTB.out,HIX.out];rfl)
     have HF15:=hid hf15
     have HO73:=hid (own_below HO7.out hb3)
     have hs3:=hb3.size
     clear hf15 hb3 HPut HChv HRo HOvs HO7 HO8 HRi1 HRi2
     obtain ⟨d,hd⟩:∃ d,Hid (d = (fs.map fun f=>f.key.data.toList).toArray):=⟨_,hid rfl⟩
     go_wp2_with fail
     go_loopw [17,18] (fun v17 v18 wl=>∃ (k:Nat) (q17:Option Addr) (c17 NN:Nat),k ≤ n ∧ v18 = .int .i64 (k:Int) ∧ v17 = .slice q17 NN c17 ∧ NN = (Lib.compactUpTo d k).length ∧ NN ≤ k ∧ wl.ownsRow w3.heap.size 9 1 (.slice q17 NN c17) NN ((Lib.compactUpTo d k).map strV) ∧ Below w3.heap.size w3 wl) (fun _ i _=>n - (intOf i).toNat)
     case atStart=>exact ⟨0,none,0,0,Nat.zero_le _,rfl,rfl,rfl,Nat.le_refl _,World.ownsRow_nil _ _ _ _,Below.refl _ _⟩
     case round =>
      obtain ⟨k,q17,c17,NN,hk,rfl,rfl,hNN,hNNk,hown,hB⟩:=hrel
      have HNN:=hid hNN
      have HO:=hid hown
      have HBl:=hid hB
      have hls:=hB.size
      clear hNN hown hB
      by_cases hltk:k < n
      ·have hkl:k < fs.length:=by rw [Hn.out];exact hltk
       obtain ⟨f,hf⟩:∃ f,Hid (f = fs[k]):=⟨_,hid rfl⟩
       have hRd:=Hr.out.below (HBC.out.trans ((HB3.out.trans (HBl.out.mono (by omega))).mono (by omega)))
       obtain ⟨bq,off,rfl, -,hfa⟩:=fact_at hRd hkl
       rw [← hf.out] at hfa
       have k0:=hfa.c0
       have HRd:=hid hRd
       have hdk:d[k]! = f.key.data.toList:=by rw [hd.out,hf.out];simp [hkl]
       have HDk:=hid hdk
       have i0:(0:Int) ≤ (k:Int):=by omega
       have i1:(k:Int) < (n:Int):=by omega
       obtain ⟨key,valid,seq,fl,kind,val⟩:=f
       dsimp only at k0 HDk
       clear hfa hRd hdk
       by_cases hk0:k = 0
       ·have HKp:=hid (show Lib.keeps d k = true by unfold Lib.keeps;simp [hk0])
        have e0:((k:Int) == 0) = true:=by rw [beq_iff_eq];omega
        clear hk0
        go_upto_region 23 with (fail)
        go_quiet (fail)
        have hdr:=(Below.refl wr.heap.size wr).drew
        have hal:Below wr.heap.size wr ((wr.drewN nq).alloc (.cells #[.string key] 9)):=(below_drewN (Below.refl _ _) nq).alloc (by simp) _
        have HLa:=hid (HBl.out.trans (hal.mono hls))
        have HOa:=hid (own_below HO.out hal)
        have HSrc:=hid (src_rd (P:=Tryz.prog) (size:=1) (by decide) (tx:=51) (e':=9) Tryz.underlying51 (w:=(wr.drewN nq).alloc (.cells #[.string key] 9)) (ad:=some ⟨wr.heap.size,0,none⟩) (m:=1) 1 (news:=[.string key]) rfl (Rd.new (wr.drewN nq) [.string key] 9) (by simp [Value.oneCell']))
        clear hdr hal
        have HSn:=hid (show Lib.compactUpTo d (k + 1) = Lib.compactUpTo d k ++ [key.data.toList] by rw [compact_succ,if_pos HKp.out,HDk.out])
        have hm1:NN + 1 ≤ maxLen:=by unfold maxLen;omega
        have hm2:(NN + 1) * 16 ≤ 140737488355328:=by omega
        go_wp2_with (refine wpList_append_src rfl (.tmp 110) (.tmp 116) 51 51 rfl w3.heap.size 9 (.string ⟨#[]⟩) 1 16 Tryz.underlying51 infoStr rfl (by decide) q17 NN c17 _ rfl HOa.out _ 1 [.string key] rfl HSrc.out hm1 hm2 HLa.out.size ?_;intro q2 c2 w9 g1 g2 g3;have G1:=hid g1;have HB9:=hid (Below.grown' HLa.out HOa.out g2 HLa.out.size);clear g1 g2 g3)
        go_roundw
        case rel =>
         refine ⟨k + 1,q2,c2,NN + 1,by omega,by go_num,rfl,by rw [HSn.out,List.length_append,← HNN.out];rfl,by omega, ?_,HB9.out⟩
         rw [HSn.out,List.map_append]
         exact G1.out
        case measure=>simp [intOf];omega
       ·obtain ⟨i,hi⟩:∃ i,Hid (i + 1 = k):=⟨k - 1,hid (by omega)⟩
        have hil:i < fs.length:=by have:=hi.out;omega
        obtain ⟨g,hg⟩:∃ g,Hid (g = fs[i]):=⟨_,hid rfl⟩
        obtain ⟨b',off',e, -,hga⟩:=fact_at HRd.out hil
        cases e
        rw [← hg.out] at hga
        have g0:=hga.c0
        have hdi:d[k - 1]! = g.key.data.toList:=by rw [show k - 1 = i by have:=hi.out;omega,hd.out,hg.out];simp [hil]
        have HDi:=hid hdi
        obtain ⟨gk,gv,gs,gl,gd,gx⟩:=g
        dsimp only at g0 HDi
        have e0:((k:Int) == 0) = false:=by rw [beq_eq_false_iff_ne];omega
        have s1:IntKind.i64.wrap ((k:Int) - 1) = (i:Int):=by have:=hi.out;rw [IntWalk.i64_in _ (by omega)];omega
        have j0:(0:Int) ≤ (i:Int):=by omega
        have j1:(i:Int) < (n:Int):=by have:=hi.out;omega
        clear hga hdi
        by_cases hkg:key = gk
        ·have HKp:=hid (show Lib.keeps d k = false by unfold Lib.keeps;rw [HDk.out,HDi.out,hkg];simp [hk0])
         have e1:(key.toList == gk.toList) = true:=by rw [hkg];exact beq_self_eq_true _
         have HSn:=hid (show Lib.compactUpTo d (k + 1) = Lib.compactUpTo d k by rw [compact_succ,HKp.out];simp)
         clear hk0 hkg
         go_upto_region 23 with (fail)
         go_quiet (fail)
         go_wp2
         go_roundw
         case rel=>exact ⟨k + 1,q17,c17,NN,by omega,by go_num,rfl,by rw [HSn.out];exact HNN.out,by omega,by rw [HSn.out];exact own_below HO.out (below_drewN (Below.refl _ _) nq),below_drewN HBl.out nq⟩
         case measure=>simp [intOf];omega
        ·have hkd:key.data.toList ≠ gk.data.toList:=fun h=>hkg (by
          obtain ⟨a1⟩:=key
          obtain ⟨a2⟩:=gk
          exact congrArg ByteArray.mk (Array.toList_inj.1 h))
         have HKp:=hid (show Lib.keeps d k = true by unfold Lib.keeps;rw [HDk.out,HDi.out];simp only [decide_eq_true_eq];exact .inr hkd)
         have e1:(key.toList == gk.toList) = false:=by rw [beq_eq_false_iff_ne,ByteArray.toList_eq,ByteArray.toList_eq];exact hkd
         clear hk0 hkg hkd
         go_upto_region 23 with (fail)
         go_quiet (fail)
         have hdr:=(Below.refl wr.heap.size wr).drew
         have hal:Below wr.heap.size wr ((wr.drewN nq).alloc (.cells #[.string key] 9)):=(below_drewN (Below.refl _ _) nq).alloc (by simp) _
         have HLa:=hid (HBl.out.trans (hal.mono hls))
         have HOa:=hid (own_below HO.out hal)
         have HSrc:=hid (src_rd (P:=Tryz.prog) (size:=1) (by decide) (tx:=51) (e':=9) Tryz.underlying51 (w:=(wr.drewN nq).alloc (.cells #[.string key] 9)) (ad:=some ⟨wr.heap.size,0,none⟩) (m:=1) 1 (news:=[.string key]) rfl (Rd.new (wr.drewN nq) [.string key] 9) (by simp [Value.oneCell']))
         clear hdr hal
         have HSn:=hid (show Lib.compactUpTo d (k + 1) = Lib.compactUpTo d k ++ [key.data.toList] by rw [compact_succ,if_pos HKp.out,HDk.out])
         have hm1:NN + 1 ≤ maxLen:=by unfold maxLen;omega
         have hm2:(NN + 1) * 16 ≤ 140737488355328:=by omega
         go_wp2_with (refine wpList_append_src rfl (.tmp 110) (.tmp 116) 51 51 rfl w3.heap.size 9 (.string ⟨#[]⟩) 1 16 Tryz.underlying51 infoStr rfl (by decide) q17 NN c17 _ rfl HOa.out _ 1 [.string key] rfl HSrc.out hm1 hm2 HLa.out.size ?_;intro q2 c2 w9 g1 g2 g3;have G1:=hid g1;have HB9:=hid (Below.grown' HLa.out HOa.out g2 HLa.out.size);clear g1 g2 g3)
         go_roundw
         case rel =>
          refine ⟨k + 1,q2,c2,NN + 1,by omega,by go_num,rfl,by rw [HSn.out,List.length_append,← HNN.out];rfl,by omega, ?_,HB9.out⟩
          rw [HSn.out,List.map_append]
          exact G1.out
         case measure=>simp [intOf];omega
      ·obtain rfl:k = n:=by omega
       obtain ⟨ks,hks⟩:∃ x,Hid (x = namesF fs):=⟨_,hid rfl⟩
       have hcd:Lib.compactUpTo d k = ks:=by rw [hks.out,hd.out,← Hn.out];unfold namesF Lib.compact;rw [List.length_map]
       rw [hcd] at HNN HO
       have HFw:=hid (Below.trans HB3.out (HBl.out.mono (by omega)))
       have hFw:=HFw.out.size
       have HZl:=hid ((HFw.out.block _ hltC).trans HZC.out)
       have HF15l:=hid (HF15.out.below HBl.out)
       have HO7l:=hid (own_below HO73.out HBl.out)
       have HPr:=hid (ref_props line q k c fs wr Hn.out hn0 hm (Hr.out.below (HBC.out.trans (HFw.out.mono (by omega)))) HG.out)
       obtain ⟨PV,hPV⟩:∃ x,Hid (x = (propsF line fs).cells.toArray):=⟨_,hid rfl⟩
       rw [← hPV.out] at HPr
       have hPVs:PV.size = 8:=by rw [hPV.out];rfl
       have HPVs:=hid hPVs
       have HPV1:=hid (show ∀ v ∈ PV.toList,v.oneCell' = true by rw [hPV.out];exact (props_cells8 _).2)
       clear hcd hPVs
       go_wp2_with fail
       (with_reducible refine HPr.out.mono ?_)
       rintro e w4 ⟨rfl,hb4⟩
       have HB4:=hid (HFw.out.trans (hb4.mono hFw))
       have HZ4:=hid ((hb4.block _ (lt_of_block HZl.out)).trans HZl.out)
       have HF154:=hid (HF15l.out.below hb4)
       have HO74:=hid (own_below HO7l.out hb4)
       have HO4:=hid (own_below HO.out hb4)
       have hs4:=hb4.size
       clear hb4 HPr
       have hx5:=heap_alloc_new w4 (.cells zProps 49)
       have HX5:=hid hx5
       have hA5:Below w4.heap.size w4 (w4.alloc (.cells zProps 49)):=(Below.refl _ _).alloc (Nat.le_refl _) _
       obtain ⟨w5,hw5⟩:∃ x,(w4.alloc (.cells zProps 49)).setRow w4.heap.size PV = x:=⟨_,rfl⟩
       have hb45:Below w4.heap.size w4 w5:=hw5 ▸ below_setRow hA5 (Nat.le_refl _) _
       have HP5:=hid (show w5.heap[w4.heap.size]? = some (.cells PV 49 (0,0)) from hw5 ▸ setRow_heap _ _ _ _ _ _ hx5)
       have HB5:=hid (HB4.out.trans (hb45.mono (by have:=HB4.out.size;omega)))
       have HZ5:=hid ((hb45.block _ (lt_of_block HZ4.out)).trans HZ4.out)
       have HF155:=hid (HF154.out.below hb45)
       have HO75:=hid (own_below HO74.out hb45)
       have HO5:=hid (own_below HO4.out hb45)
       have hs5:=hb45.size
       have h5l:=lt_of_block HP5.out
       have HFil:=hid (ref_filter q17 NN c17 ks w5 HNN.out.symm (by omega) (Fr.of_own HO5.out).rd (by rw [hks.out];exact names_short HG.out))
       unfold zProps at hw5
       clear hx5 hA5 hb45
       go_wp2_with (refine wpList_store_block rfl 49 _ _ rfl _ _ _ _ rfl rfl HX5.out HPVs.out.symm (by rw [HPVs.out];exact infoProps) HPV1.out ?_)
       clear hw5
       (with_reducible refine HFil.out.mono ?_)
       rintro e w6 ⟨q20,c20,rfl,hf20,hb6⟩
       obtain ⟨FB,hFB⟩:∃ x,Hid (x = ofF ks):=⟨_,hid rfl⟩
       rw [← hFB.out] at hf20
       obtain ⟨N20,hN20⟩:∃ x,Hid (x = blN NN + 1):=⟨_,hid rfl⟩
       rw [← hN20.out] at hf20 ⊢
       have hN20l:N20 ≤ 100000:=by rw [hN20.out];unfold blN;omega
       have HFB:=hid (show FB = filB fs by rw [hFB.out,hks.out];rfl)
       have HF20:=hid hf20
       have HB6:=hid (HB5.out.trans (hb6.mono (by have:=HB5.out.size;omega)))
       have HZ6:=hid ((hb6.block _ (lt_of_block HZ5.out)).trans HZ5.out)
       have HP6:=hid ((hb6.block _ h5l).trans HP5.out)
       have HF156:=hid (HF155.out.below hb6)
       have HO76:=hid (own_below HO75.out hb6)
       have hs6:=hb6.size
       have HPok:=hid (props_ok HG.out H0.out (by rw [Hn.out];exact hm) Ho.out)
       have HPP:=hid (ref_putProps (propsF line fs) HPok.out w6)
       rw [← hPV.out] at HPP
       clear hf20 hb6 HFil HX5
       go_wp2_with (refine wpList_load_row rfl 49 _ rfl _ rfl _ _ _ _ HP6.out Tryz.underlying49 rfl (by rw [HPVs.out];exact infoProps) ?_)
       (with_reducible refine HPP.out.mono ?_)
       rintro e w7 ⟨q21,c21,rfl,ho21,hb7⟩
       obtain ⟨TL,hTL⟩:∃ x,Hid (x = ppB (propsF line fs)):=⟨_,hid rfl⟩
       rw [← hTL.out] at ho21
       rw [← hTL.out]
       obtain ⟨N21,hN21⟩:∃ x,Hid (x = TL.length):=⟨_,hid rfl⟩
       rw [← hN21.out] at ho21
       rw [← hN21.out]
       have hN21l:N21 ≤ 300000:=by rw [hN21.out,hTL.out];exact pp_len HPok.out
       have HTL:=hid (show TL = tailB2 line fs by rw [hTL.out];rfl)
       have HO21:=hid ho21
       have HB7:=hid (HB6.out.trans (hb7.mono (by have:=HB6.out.size;omega)))
       have HZ7:=hid ((hb7.block _ (lt_of_block HZ6.out)).trans HZ6.out)
       have HP7:=hid ((hb7.block _ (lt_of_block HP6.out)).trans HP6.out)
       have HF157:=hid (HF156.out.below hb7)
       have HF207:=hid (HF20.out.below hb7)
       have HO77:=hid (own_below HO76.out hb7)
       have hs7:=hb7.size
       clear ho21 hb7 HPP
       have hcv:=Go.Joins.run_convert_bytes_const_at (P:=Tryz.prog) w7 22 5 #[.int .u8 84,.int .u8 66,.int .u8 76,.int .u8 49] 4 4 w7.heap.size rfl Tryz.underlying22 Tryz.underlying5
       obtain ⟨w8,hw8⟩:∃ x,w7.alloc (.cells #[.int .u8 84,.int .u8 66,.int .u8 76,.int .u8 49] 5 (4,5)) = x:=⟨_,rfl⟩
       have hA8:Below w7.heap.size w7 w8:=hw8 ▸ (Below.refl _ _).alloc (Nat.le_refl _) _
       have HLit:=hid (show Rd w8 (some ⟨w7.heap.size,0,none⟩) (([84,66,76,49]:List UInt8).map bv) from hw8 ▸ Rd.block (cur := #[.int .u8 84,.int .u8 66,.int .u8 76,.int .u8 49]) (e:=5) (fr:=(4,5)) (heap_alloc_new _ _) (fun j u hu=>by rw [Nat.zero_add];simpa [bv] using hu))
       have hwC7:=HB7.out.size
       have hlo15:=fr_lo HF15.out
       have hlo20:=fr_lo HF20.out
       have hlo21:=fr_lo (Fr.of_own HO21.out)
       have hsz8:w8.heap.size = w7.heap.size + 1:=by rw [← hw8,World.size_alloc]
       have HFS0:Hid (FS wC w8 wC.heap.size q7 N7 c7 OB none 0 0 [] [(q15,TB),(q20,FB),(q21,TL)] [(w4.heap.size,PV,49)]):=hid ⟨own_below HO77.out hA8,World.ownsRow_nil _ _ _ _,fun y z hy hz=>(by cases hz),fun x hx=>by
        simp only [List.mem_cons,List.not_mem_nil,or_false] at hx
        rcases hx with rfl | rfl | rfl
        ·exact ⟨(HF157.out.below hA8).rd,fun a ha=>⟨by have:=(hlo15 a ha).2;omega,fun y hy=>by have h1:=H7lt.out y hy;have h2:=(hlo15 a ha).1;omega,fun y hy=>by cases hy⟩⟩
        ·exact ⟨(HF207.out.below hA8).rd,fun a ha=>⟨by have:=(hlo20 a ha).2;omega,fun y hy=>by have h1:=H7lt.out y hy;have h2:=(hlo20 a ha).1;omega,fun y hy=>by cases hy⟩⟩
        ·exact ⟨((Fr.of_own HO21.out).below hA8).rd,fun a ha=>⟨by have:=(hlo21 a ha).2;omega,fun y hy=>by have h1:=H7lt.out y hy;have h2:=(hlo21 a ha).1;omega,fun y hy=>by cases hy⟩⟩,fun r hr=>by rw [List.mem_singleton] at hr;subst hr;exact ⟨(hA8.block _ (lt_of_block HP7.out)).trans HP7.out,(show (49:TypeId) ≠ 5 by decide)⟩,HB7.out.trans (hA8.mono hwC7)⟩
       have hP7l:=lt_of_block HP7.out
       have hZ7l:=lt_of_block HZ7.out
       obtain ⟨XP,hXP⟩:∃ x,Hid (x = w4.heap.size):=⟨_,hid rfl⟩
       have HP8:=hid ((hA8.block _ hP7l).trans HP7.out)
       have hsC8:wC.heap.size ≤ w8.heap.size:=by omega
       have hN7b:N7 < 4294967296:=by omega
       rw [show (#[Value.int IntKind.u8 84,Value.int IntKind.u8 66,Value.int IntKind.u8 76,Value.int IntKind.u8 49]:Array Value).size = 4 from rfl] at hcv
       rw [hw8] at hcv
       clear hw8 hA8 hlo15 hlo20 hlo21 hsz8 hwC7
       go_wp2_with fail
       clear hcv
       have HLN15:=hid hN15.out.symm
       have HLN20:=hid (show FB.length = N20 by rw [hFB.out,ofF_len,hN20.out,← HNN.out])
       have HLN21:=hid hN21.out.symm
       (with_reducible refine (ref_four12 N7 (by omega) w8).mono ?_)
       rintro e u1 ⟨x1,rfl,hr1,hb1⟩
       have HFSa1:=hid (HFS0.out.on hb1 hsC8)
       have HR1:=hid hr1
       have HLitA:=hid (HLit.out.below hb1)
       have hsa1:wC.heap.size ≤ u1.heap.size:=Nat.le_trans hsC8 hb1.size
       clear hr1 hb1
       go_wp2_with (refine app_full rfl (.tmp 127) (.tmp 130) rfl (some ⟨w7.heap.size,0,none⟩) 4 [84,66,76,49] rfl rfl HLitA.out (some x1) 4 4 (le4 N7) (by decide) rfl rfl HR1.out (by decide) ?_;intro qf1 cf1 v1 g gb;have HFSb1:=hid (HFSa1.out.lit hsa1 g gb);have hsb1:wC.heap.size ≤ v1.heap.size:=HFSb1.out.below.size;clear g gb)
       (with_reducible refine (ref_four12 N15 (by omega) v1).mono ?_)
       rintro e u2 ⟨x2,rfl,hr2,hb2⟩
       have HFSa2:=hid (HFSb1.out.on hb2 hsb1)
       have HR2:=hid hr2
       have hsa2:wC.heap.size ≤ u2.heap.size:=Nat.le_trans hsb1 hb2.size
       clear hr2 hb2
       go_wp2_with (first | (refine app2 rfl (.tmp 131) (.tmp 134) rfl wC.heap.size qf1 8 cf1 ([84,66,76,49] ++ (le4 N7)) rfl HFSa2.out.f (some x2) 4 4 (le4 N15) rfl rfl HR2.out (by omega) hsa2 ?_;intro qf2 cf2 v2 g;have HFSb2:=hid (HFSa2.out.foot g);have hsb2:wC.heap.size ≤ v2.heap.size:=HFSb2.out.below.size;clear g) | (refine app2 rfl (.tmp 136) (.tmp 137) rfl wC.heap.size q7 N7 c7 OB rfl HFSb2.out.b q15 N15 c15 TB rfl HLN15.out (HFSb2.out.ex (q15,TB) (by simp)).1 (by omega) hsb2 ?_;intro qb1 cb1 y1 g;have HFSc1:=hid (HFSb2.out.body g);have hsc1:wC.heap.size ≤ y1.heap.size:=HFSc1.out.below.size;clear g;obtain ⟨NB1,hNB1⟩:∃ x,x = N7 + N15:=⟨_,rfl⟩;rw [← hNB1] at HFSc1 ⊢;have HNB1:=hid hNB1;have hNBl1:NB1 ≤ N7 + N15:=(by omega);clear hNB1))
       (with_reducible refine (ref_four12 NB1 (by omega) y1).mono ?_)
       rintro e u3 ⟨x3,rfl,hr3,hb3⟩
       have HFSa3:=hid (HFSc1.out.on hb3 hsc1)
       have HR3:=hid hr3
       have hsa3:wC.heap.size ≤ u3.heap.size:=Nat.le_trans hsc1 hb3.size
       clear hr3 hb3
       go_wp2_with (refine app2 rfl (.tmp 139) (.tmp 142) rfl wC.heap.size qf2 12 cf2 (([84,66,76,49] ++ (le4 N7)) ++ (le4 N15)) rfl HFSa3.out.f (some x3) 4 4 (le4 NB1) rfl rfl HR3.out (by omega) hsa3 ?_;intro qf3 cf3 v3 g;have HFSb3:=hid (HFSa3.out.foot g);have hsb3:wC.heap.size ≤ v3.heap.size:=HFSb3.out.below.size;clear g)
       (with_reducible refine (ref_four12 N20 (by omega) v3).mono ?_)
       rintro e u4 ⟨x4,rfl,hr4,hb4⟩
       have HFSa4:=hid (HFSb3.out.on hb4 hsb3)
       have HR4:=hid hr4
       have hsa4:wC.heap.size ≤ u4.heap.size:=Nat.le_trans hsb3 hb4.size
       clear hr4 hb4
       go_wp2_with (first | (refine app2 rfl (.tmp 143) (.tmp 146) rfl wC.heap.size qf3 16 cf3 ((([84,66,76,49] ++ (le4 N7)) ++ (le4 N15)) ++ (le4 NB1)) rfl HFSa4.out.f (some x4) 4 4 (le4 N20) rfl rfl HR4.out (by omega) hsa4 ?_;intro qf4 cf4 v4 g;have HFSb4:=hid (HFSa4.out.foot g);have hsb4:wC.heap.size ≤ v4.heap.size:=HFSb4.out.below.size;clear g) | (refine app2 rfl (.tmp 148) (.tmp 149) rfl wC.heap.size qb1 NB1 cb1 (OB ++ TB) rfl HFSb4.out.b q20 N20 c20 FB rfl HLN20.out (HFSb4.out.ex (q20,FB) (by simp)).1 (by omega) hsb4 ?_;intro qb2 cb2 y2 g;have HFSc2:=hid (HFSb4.out.body g);have hsc2:wC.heap.size ≤ y2.heap.size:=HFSc2.out.below.size;clear g;obtain ⟨NB2,hNB2⟩:∃ x,x = NB1 + N20:=⟨_,rfl⟩;rw [← hNB2] at HFSc2 ⊢;have HNB2:=hid hNB2;have hNBl2:NB2 ≤ NB1 + N20:=(by omega);clear hNB2))
       (with_reducible refine (ref_four12 NB2 (by omega) y2).mono ?_)
       rintro e u5 ⟨x5,rfl,hr5,hb5⟩
       have HFSa5:=hid (HFSc2.out.on hb5 hsc2)
       have HR5:=hid hr5
       have hsa5:wC.heap.size ≤ u5.heap.size:=Nat.le_trans hsc2 hb5.size
       clear hr5 hb5
       go_wp2_with (refine app2 rfl (.tmp 151) (.tmp 154) rfl wC.heap.size qf4 20 cf4 (((([84,66,76,49] ++ (le4 N7)) ++ (le4 N15)) ++ (le4 NB1)) ++ (le4 N20)) rfl HFSa5.out.f (some x5) 4 4 (le4 NB2) rfl rfl HR5.out (by omega) hsa5 ?_;intro qf5 cf5 v5 g;have HFSb5:=hid (HFSa5.out.foot g);have hsb5:wC.heap.size ≤ v5.heap.size:=HFSb5.out.below.size;clear g)
       (with_reducible refine (ref_four12 N21 (by omega) v5).mono ?_)
       rintro e u6 ⟨x6,rfl,hr6,hb6⟩
       have HFSa6:=hid (HFSb5.out.on hb6 hsb5)
       have HR6:=hid hr6
       have hsa6:wC.heap.size ≤ u6.heap.size:=Nat.le_trans hsb5 hb6.size
       clear hr6 hb6
       go_wp2_with (first | (refine app2 rfl (.tmp 155) (.tmp 158) rfl wC.heap.size qf5 24 cf5 ((((([84,66,76,49] ++ (le4 N7)) ++ (le4 N15)) ++ (le4 NB1)) ++ (le4 N20)) ++ (le4 NB2)) rfl HFSa6.out.f (some x6) 4 4 (le4 N21) rfl rfl HR6.out (by omega) hsa6 ?_;intro qf6 cf6 v6 g;have HFSb6:=hid (HFSa6.out.foot g);have hsb6:wC.heap.size ≤ v6.heap.size:=HFSb6.out.below.size;clear g) | (refine app2 rfl (.tmp 160) (.tmp 161) rfl wC.heap.size qb2 NB2 cb2 ((OB ++ TB) ++ FB) rfl HFSb6.out.b q21 N21 c21 TL rfl HLN21.out (HFSb6.out.ex (q21,TL) (by simp)).1 (by omega) hsb6 ?_;intro qb3 cb3 y3 g;have HFSc3:=hid (HFSb6.out.body g);have hsc3:wC.heap.size ≤ y3.heap.size:=HFSc3.out.below.size;clear g;obtain ⟨NB3,hNB3⟩:∃ x,x = NB2 + N21:=⟨_,rfl⟩;rw [← hNB3] at HFSc3 ⊢;have HNB3:=hid hNB3;have hNBl3:NB3 ≤ NB2 + N21:=(by omega);clear hNB3))
       (with_reducible refine (ref_sum10 q20 N20 c20 FB y3 HLN20.out (by omega) (HFSc3.out.ex (q20,FB) (by simp)).1).mono ?_)
       rintro e u7 ⟨x7,rfl,hr7,hb7⟩
       have HFSa7:=hid (HFSc3.out.on hb7 hsc3)
       have HR7:=hid hr7
       have hsa7:wC.heap.size ≤ u7.heap.size:=Nat.le_trans hsc3 hb7.size
       clear hr7 hb7
       go_wp2_with (refine app2 rfl (.tmp 163) (.tmp 165) rfl wC.heap.size qf6 28 cf6 (((((([84,66,76,49] ++ (le4 N7)) ++ (le4 N15)) ++ (le4 NB1)) ++ (le4 N20)) ++ (le4 NB2)) ++ (le4 N21)) rfl HFSa7.out.f (some x7) 4 4 (le4 (crcMore 0 FB).toNat) rfl rfl HR7.out (by omega) hsa7 ?_;intro qf7 cf7 v7 g;have HFSb7:=hid (HFSa7.out.foot g);have hsb7:wC.heap.size ≤ v7.heap.size:=HFSb7.out.below.size;clear g)
       (with_reducible refine (ref_sum10 q21 N21 c21 TL v7 HLN21.out (by omega) (HFSb7.out.ex (q21,TL) (by simp)).1).mono ?_)
       rintro e u8 ⟨x8,rfl,hr8,hb8⟩
       have HFSa8:=hid (HFSb7.out.on hb8 hsb7)
       have HR8:=hid hr8
       have hsa8:wC.heap.size ≤ u8.heap.size:=Nat.le_trans hsb7 hb8.size
       clear hr8 hb8
       go_wp2_with (first | (refine app2 rfl (.tmp 167) (.tmp 169) rfl wC.heap.size qf7 32 cf7 ((((((([84,66,76,49] ++ (le4 N7)) ++ (le4 N15)) ++ (le4 NB1)) ++ (le4 N20)) ++ (le4 NB2)) ++ (le4 N21)) ++ (le4 (crcMore 0 FB).toNat)) rfl HFSa8.out.f (some x8) 4 4 (le4 (crcMore 0 TL).toNat) rfl rfl HR8.out (by omega) hsa8 ?_;intro qf8 cf8 v8 g;have HFSb8:=hid (HFSa8.out.foot g);have hsb8:wC.heap.size ≤ v8.heap.size:=HFSb8.out.below.size;clear g) | (refine app2 rfl (.tmp 171) (.tmp 172) rfl wC.heap.size qb3 NB3 cb3 (((OB ++ TB) ++ FB) ++ TL) rfl HFSb8.out.b qf8 36 cf8 (((((((([84,66,76,49] ++ (le4 N7)) ++ (le4 N15)) ++ (le4 NB1)) ++ (le4 N20)) ++ (le4 NB2)) ++ (le4 N21)) ++ (le4 (crcMore 0 FB).toNat)) ++ (le4 (crcMore 0 TL).toNat)) rfl (own_len HFSb8.out.f) (Fr.of_own HFSb8.out.f).rd (by omega) hsb8 ?_;intro qb4 cb4 y4 g;have HFSc4:=hid (HFSb8.out.body g);have hsc4:wC.heap.size ≤ y4.heap.size:=HFSc4.out.below.size;clear g;obtain ⟨NB4,hNB4⟩:∃ x,x = NB3 + 36:=⟨_,rfl⟩;rw [← hNB4] at HFSc4 ⊢;have HNB4:=hid hNB4;have hNBl4:NB4 ≤ NB3 + 36:=(by omega);clear hNB4))
       (with_reducible refine (ref_sum10 qf8 36 cf8 (((((((([84,66,76,49] ++ (le4 N7)) ++ (le4 N15)) ++ (le4 NB1)) ++ (le4 N20)) ++ (le4 NB2)) ++ (le4 N21)) ++ (le4 (crcMore 0 FB).toNat)) ++ (le4 (crcMore 0 TL).toNat)) y4 (own_len HFSc4.out.f) (by omega) (Fr.of_own HFSc4.out.f).rd).mono ?_)
       rintro e u9 ⟨x9,rfl,hr9,hb9⟩
       have HFSa9:=hid (HFSc4.out.on hb9 hsc4)
       have HR9:=hid hr9
       have hsa9:wC.heap.size ≤ u9.heap.size:=Nat.le_trans hsc4 hb9.size
       clear hr9 hb9
       go_upto_region 38 with (refine app2 rfl (.tmp 173) (.tmp 175) rfl wC.heap.size qb4 NB4 cb4 ((((OB ++ TB) ++ FB) ++ TL) ++ (((((((([84,66,76,49] ++ (le4 N7)) ++ (le4 N15)) ++ (le4 NB1)) ++ (le4 N20)) ++ (le4 NB2)) ++ (le4 N21)) ++ (le4 (crcMore 0 FB).toNat)) ++ (le4 (crcMore 0 TL).toNat))) rfl HFSa9.out.b (some x9) 4 4 (le4 (crcMore 0 (((((((([84,66,76,49] ++ (le4 N7)) ++ (le4 N15)) ++ (le4 NB1)) ++ (le4 N20)) ++ (le4 NB2)) ++ (le4 N21)) ++ (le4 (crcMore 0 FB).toNat)) ++ (le4 (crcMore 0 TL).toNat))).toNat) rfl rfl HR9.out (by omega) hsa9 ?_;intro qb5 cb5 y5 g;have HFSc5:=hid (HFSa9.out.body g);have hsc5:wC.heap.size ≤ y5.heap.size:=HFSc5.out.below.size;clear g;obtain ⟨NB5,hNB5⟩:∃ x,x = NB4 + 4:=⟨_,rfl⟩;rw [← hNB5] at HFSc5 ⊢;have HNB5:=hid hNB5;have hNBl5:NB5 ≤ NB4 + 4:=(by omega);clear hNB5)
       have hF:(((((((([84,66,76,49] ++ (le4 N7)) ++ (le4 N15)) ++ (le4 NB1)) ++ (le4 N20)) ++ (le4 NB2)) ++ (le4 N21)) ++ (le4 (crcMore 0 FB).toNat)) ++ (le4 (crcMore 0 TL).toNat)) = foot0 line fs:=by
        unfold foot0
        rw [← HOB.out,← HTB.out,← HFB.out,← HTL.out]
        simp only [List.length_append,← HN7.out,← hN15.out,HLN20.out,← hN21.out,← HNB1.out,← HNB2.out]
       have hT:(((((OB ++ TB) ++ FB) ++ TL) ++ (((((((([84,66,76,49] ++ (le4 N7)) ++ (le4 N15)) ++ (le4 NB1)) ++ (le4 N20)) ++ (le4 NB2)) ++ (le4 N21)) ++ (le4 (crcMore 0 FB).toNat)) ++ (le4 (crcMore 0 TL).toNat))) ++ (le4 (crcMore 0 (((((((([84,66,76,49] ++ (le4 N7)) ++ (le4 N15)) ++ (le4 NB1)) ++ (le4 N20)) ++ (le4 NB2)) ++ (le4 N21)) ++ (le4 (crcMore 0 FB).toNat)) ++ (le4 (crcMore 0 TL).toNat))).toNat)) = tabB line fs:=by
        rw [hF]
        unfold tabB bodyB
        rw [← HOB.out,← HTB.out,← HFB.out,← HTL.out]
        simp only [List.append_assoc]
       have hown:=HFSc5.out.b
       rw [hT] at hown
       have hNT:NB5 = (tabB line fs).length:=(own_len hown).symm
       have HNT:=hid hNT
       have HOwn:=hid hown
       have HB9:=hid HFSc5.out.below
       have HP9:=hid (HFSc5.out.row (w4.heap.size,PV,49) (by simp)).1
       have HZ9:=hid ((HFSc5.out.below.block _ hltC).trans HZC.out)
       clear hF hT hown hNT HFSc5
       by_cases hbig:65536 < NB5
       ·have HBig:=hid hbig
        have d0:decide ((65536:Int) < (NB5:Int)) = true:=by simp;omega
        go_wp2_with (refine wpList_store_block rfl 49 _ _ rfl _ _ _ _ rfl rfl HZ9.out rfl infoProps zProps1 ?_)
        refine bodyPost_ret (rb_results rfl rfl rfl (setRow_heap _ _ _ _ _ _ HZ9.out) rfl) rfl ?_
        exact ⟨below_setRow (HBC.out.trans (HB9.out.mono (by omega))) (Nat.le_refl _) _,.inr (.inl ⟨HG.out,H0.out,by rw [← HNT.out];exact HBig.out,rfl⟩)⟩
       ·have HBig:=hid hbig
        have d0:decide ((65536:Int) < (NB5:Int)) = false:=by simp;omega
        have d1:¬ ((65536:Int) < (NB5:Int)):=by omega
        obtain ⟨PR,hPR⟩:∃ p,Hid (p = propsF line fs):=⟨_,hid rfl⟩
        have HPVR:=hid (show PV = PR.cells.toArray by rw [hPV.out,hPR.out])
        have hp9:=HP9.out
        rw [HPVR.out] at hp9
        unfold Props.cells at hp9
        obtain ⟨TD,D,hD1,hD2⟩:=class_d y5
        obtain ⟨x0,hx0⟩:=hD2 { y5 with drawn:=y5.drawn + 1 } (Below.refl _ _).drew
        haveI:Nonempty TD:=⟨x0⟩
        have hz:=fun d=>((hD1 d).block _ (lt_of_block hp9)).trans hp9
        have z0:=fun d=>(cell_of_row (D d) _ 0 _ _ _ (hz d)).trans rfl
        have z1:=fun d=>(cell_of_row (D d) _ 1 _ _ _ (hz d)).trans rfl
        have z2:=fun d=>(cell_of_row (D d) _ 2 _ _ _ (hz d)).trans rfl
        have z3:=fun d=>(cell_of_row (D d) _ 3 _ _ _ (hz d)).trans rfl
        have z4:=fun d=>(cell_of_row (D d) _ 4 _ _ _ (hz d)).trans rfl
        have z5:=fun d=>(cell_of_row (D d) _ 5 _ _ _ (hz d)).trans rfl
        have z6:=fun d=>(cell_of_row (D d) _ 6 _ _ _ (hz d)).trans rfl
        have z7:=fun d=>(cell_of_row (D d) _ 7 _ _ _ (hz d)).trans rfl
        have HD1:=hid hD1
        clear hz hp9 hD1 hD2 hbig
        go_upto_region 40 with (fail)
        refine region_last_d (D:=D) 3 (by kernel_rfl) (by kernel_rfl) (by kernel_rfl) x0 hx0 ?_
        simp only [List.take_succ_cons,List.take_zero,List.drop_succ_cons,List.drop_zero]
        repeat (go_big_quiet_step (fail))
        refine wpQuiet_nil ?_
        intro d
        have HZd:=hid (((HD1.out d).block _ (lt_of_block HZ9.out)).trans HZ9.out)
        have HDb:=hid (HB9.out.trans ((HD1.out d).mono HB9.out.size))
        have HOd:=hid (own_below HOwn.out (HD1.out d))
        clear z0 z1 z2 z3 z4 z5 z6 z7 HD1 hx0
        go_wp2_with (refine wpList_store_block rfl 49 _ _ rfl _ _ _ _ rfl rfl HZd.out rfl infoProps (by simp [Value.oneCell']) ?_)
        refine bodyPost_ret (rb_results rfl rfl rfl (setRow_heap _ _ _ _ _ _ HZd.out) rfl) rfl ?_
        refine ⟨below_setRow (HBC.out.trans (HDb.out.mono (by omega))) (Nat.le_refl _) _,.inr (.inr ⟨HG.out,H0.out,by rw [← HNT.out];have:=HBig.out;omega,qb5,cb5, ?_, ?_⟩)⟩
        ·rw [← HNT.out,← hPR.out];rfl
        ·rw [← HNT.out]
         exact (Fr.of_own (own_setRow HOd.out hltC _)).mono (by omega)

 ·have hmt:=mayT_not hgood
  have HNo:=hid hgood
  have hZ2:=HZ2.out
  unfold zProps at hZ2
  clear hgood
  go_wp2_with (refine wpList_store_block rfl 49 _ _ rfl _ _ _ _ rfl rfl HZ2.out rfl infoProps zProps1 ?_)
  refine bodyPost_ret (rb_results rfl rfl rfl (setRow_heap _ _ _ _ _ _ HZ2.out) rfl) rfl ?_
  exact ⟨below_setRow HB2.out (Nat.le_refl _) _,.inl ⟨HNo.out,rfl⟩⟩
end Go.Proofs.Herb
