/- The contract of readers.(*Reader).open. For bytes that can be read. The contract of readers.(*Reader).open: the walk. The contract of readers.whole, whose deferred closure recovers. The contracts of readers.there, Props, Has. The contract of readers.(*Reader).facts. The contract of readers.(*Reader).All. -/
import Derived.Defers
import Derived.Recover
import Derived.Deep.WholeRow
import Derived.Test.YtbaohpnfiacchaaGreatDoorQb05
import Derived.Test.YtbaohpnfiacchaaGreatDoorQb06
import Derived.Test.YtbaohpnfiacchaaGreatDoorQb09
import Derived.Test.YtbaohpnfiacchaaGreatDoorQb15
import Derived.Test.YtbaohpnfiacchaaGreatDoorQb16
import Derived.Test.YtbaohpnfiacchaaGreatDoorQb20
import Derived.Test.YtbaohpnfiacchaaGreatDoorQb22
import Derived.Test.YtbaohpnfiacchaaGreatDoorQb23
namespace Go.Proofs.Herb
open Go.RowKit
theorem slice_upto (b o m c T:Nat) (w:World) (hT:T ≤ c) :
  (Instr.slice 22 (.slice (some ⟨b,o,none⟩) m c) none (some (.int .i64 (T:Int))) none).run Tryz.prog w = .ok (.slice (some ⟨b,o,none⟩) T c) w:=by
 have i0:(0:Int) ≤ (T:Int):=by omega
 have i1:(T:Int) ≤ (c:Int):=by omega
 go_simp
theorem slice_mid (b o m c A M:Nat) (w:World) (hT:A + M ≤ c) :
  (Instr.slice 22 (.slice (some ⟨b,o,none⟩) m c) (some (.int .i64 (A:Int))) (some (.int .i64 ((A:Int) + (M:Int)))) none).run Tryz.prog w = .ok (.slice (some ⟨b,if c = A then o else o + A,none⟩) M (c - A)) w:=by
 obtain ⟨H,hH⟩:∃ H,H = A + M:=⟨_,rfl⟩
 rw [show ((A:Int) + (M:Int)) = ((H:Nat):Int) from by omega]
 have i0:(0:Int) ≤ (A:Int):=by omega
 have i1:(A:Int) ≤ (H:Int):=by omega
 have i2:(H:Int) ≤ (c:Int):=by omega
 have i4:H - A = M:=by omega
 by_cases h:c = A
 ·rw [if_pos h]
  obtain rfl:M = 0:=by omega
  obtain rfl:H = c:=by omega
  clear i1 i2 i4 hH hT
  subst h
  have i3:(H:Int) ≤ (H:Int):=by omega
  go_simp
 ·rw [if_neg h]
  clear hH hT
  have i5:A ≤ H:=by omega
  go_simp
theorem rd_mid {W:World} {b o m c A M:Nat} {l:List UInt8} (hl:l.length = m) (hmc:m ≤ c) (h:Rd W (some ⟨b,o,none⟩) (l.map bv)):Rd W (some ⟨b,if c = A then o else o + A,none⟩) (((l.drop A).take M).map bv):=by
 by_cases e:c = A
 ·have:(l.drop A).take M = []:=by rw [List.drop_of_length_le (by omega)];simp
  rw [this]
  exact .inl rfl
 ·rw [if_neg e,List.map_take,List.map_drop]
  exact (h.drop A).take M
def stA (bs:List UInt8):Nat → Nat
 | 0=>ftN bs 4
 | k + 1=>stA bs k + ftN bs (8 + 8 * k)
theorem stA_succ (bs:List UInt8) (k:Nat):stA bs (k + 1) = stA bs k + ftN bs (8 + 8 * k):=rfl
theorem opens_st {bs:List UInt8} {r:Rdr} (h:Opens bs r):bs.length - 40 = stA bs 3 ∧ ∀ k,k < 3 → ftN bs (4 + 8 * k) = stA bs k:=by
 have c0:=h.c0
 have c1:=h.c1
 have c2:=h.c2
 have e0:stA bs 0 = ftN bs 4:=rfl
 have e1:stA bs 1 = stA bs 0 + ftN bs 8:=rfl
 have e2:stA bs 2 = stA bs 1 + ftN bs 16:=rfl
 have e3:stA bs 3 = stA bs 2 + ftN bs 24:=rfl
 refine ⟨by omega,fun k hk => ?_⟩
 match k,hk with
 | 0,_=>rfl
 | 1,_=>show ftN bs 12 = _;omega
 | 2,_=>show ftN bs 20 = _;omega
theorem stA_le (bs:List UInt8) {k:Nat} (hk:k ≤ 3):stA bs k ≤ stA bs 3:=by
 have e1:stA bs 1 = stA bs 0 + ftN bs 8:=rfl
 have e2:stA bs 2 = stA bs 1 + ftN bs 16:=rfl
 have e3:stA bs 3 = stA bs 2 + ftN bs 24:=rfl
 match k,hk with
 | 0,_=>omega
 | 1,_=>omega
 | 2,_=>omega
 | 3,_=>omega
theorem opens_mk {bs:List UInt8} {p:Props} {cs:List Chk} {l:List Item} (h0:40 ≤ bs.length) (h1:(bs.drop (bs.length - 40)).take 4 = [84,66,76,49]) (h2:ftN bs 36 = (crcMore 0 ((bs.drop (bs.length - 40)).take 36)).toNat)
  (h3:∀ k,k < 3 → ftN bs (4 + 8 * k) = stA bs k) (h4:stA bs 3 = bs.length - 40) (h5:ftN bs 28 = (crcMore 0 (ftP bs 1)).toNat) (h6:ftN bs 32 = (crcMore 0 (ftP bs 2)).toNat)
  (h7:BlkOf (ftP bs 0) l) (h8:idxR (ftN bs 4) 0 l = some cs) (h9:propsR (ftP bs 2) = some p):Opens bs ⟨bs,ftP bs 1,p,cs⟩:=by
 have a1:=h3 1 (by decide)
 have a2:=h3 2 (by decide)
 have e1:stA bs 1 = ftN bs 4 + ftN bs 8:=rfl
 have e2:stA bs 2 = stA bs 1 + ftN bs 16:=rfl
 have e3:stA bs 3 = stA bs 2 + ftN bs 24:=rfl
 exact ⟨rfl,h0,h1,h2,by show ftN bs (4 + 8 * 1) = _;omega,by show ftN bs (4 + 8 * 2) = ftN bs (4 + 8 * 1) + _;omega,by show _ = ftN bs (4 + 8 * 2) + _;omega,h5,h6,⟨l,h7,h8⟩,rfl,h9⟩
theorem blk_pos {b:List UInt8} {l:List Item} (h:BlkOf b l):0 < b.length:=by
 obtain ⟨h1,h2,h3⟩:=h
 have h4:=bAll_len l
 rw [h2] at h4
 omega
def rdRow (b f:Value) (p:Props) (k:Value):Array Value := #[b,f,.int .u64 (p.line:Int),.int .u64 (p.many:Int),.string p.low,.string p.high,.int .u64 (p.least:Int),.int .u64 (p.greatest:Int),.int .u32 (p.early:Int),.int .u32 (p.late:Int),k]
def noProps:Props:=⟨0,0,⟨#[]⟩,⟨#[]⟩,0,0,0,0⟩
structure RdrAt (w:World) (R:Nat) (r:Rdr):Prop where
 ex:∃ q c fq fc kq kc,w.heap[R]? = some (.cells (rdRow (.slice q r.b.length c) (.slice fq r.filter.length fc) r.props (.slice kq r.chunks.length kc)) 62 (0,0)) ∧ r.b.length ≤ c ∧ c ≤ maxLen ∧ Rd w q (r.b.map bv) ∧ (q = none → c = 0) ∧
  r.filter.length ≤ fc ∧ fc ≤ maxLen ∧ Rd w fq (r.filter.map bv) ∧ r.chunks.length ≤ kc ∧ kc ≤ maxLen ∧ Rd w kq (chkCells r.chunks)
theorem RdrAt.below {w w':World} {R:Nat} {r:Rdr} (h:RdrAt w R r) (hb:Below w.heap.size w w'):RdrAt w' R r:=by
 obtain ⟨q,c,fq,fc,kq,kc,h1,h2,h3,h4,h4b,h5,h6,h7,h8,h9,h10⟩:=h.ex
 exact ⟨q,c,fq,fc,kq,kc,(hb.block _ (lt_of_block h1)).trans h1,h2,h3,h4.below hb,h4b,h5,h6,h7.below hb,h8,h9,h10.below hb⟩
def PartV (q:Option Addr) (bs:List UInt8) (j:Nat) (v:Value):Prop:=∃ q' c',v = .slice q' (ftN bs (8 + 8 * j)) c' ∧ ftN bs (8 + 8 * j) ≤ c' ∧ c' + stA bs j ≤ maxLen ∧ (ftP bs j).length = ftN bs (8 + 8 * j) ∧ ∀ W,Rd W q (bs.map bv) → Rd W q' ((ftP bs j).map bv)
def Bel2 (R:Nat) (w w':World):Prop:=Below R w w' ∧ ∀ g,g < w.heap.size → g ≠ R → w'.heap[g]? = w.heap[g]?
theorem two {R:Nat} {w w':World} (hR:R < w.heap.size) (h:Below w.heap.size w w'):Bel2 R w w':=⟨h.mono (Nat.le_of_lt hR),fun g hg _=>h.block g hg⟩
theorem Bel2.below {R:Nat} {w w1 w2:World} (h:Bel2 R w w1) (hR:R < w.heap.size) (k:Below w1.heap.size w1 w2):Bel2 R w w2 :=
 ⟨h.1.trans (k.mono (Nat.le_trans (Nat.le_of_lt hR) h.1.size)),fun g hg hn=>(k.block g (Nat.lt_of_lt_of_le hg h.1.size)).trans (h.2 g hg hn)⟩
theorem Bel2.cell {R:Nat} {w w1:World} (h:Bel2 R w w1) (j:Nat) (v:Value):Bel2 R w (w1.setCell ⟨R,j,none⟩ v) :=
 ⟨h.1.setCell (p:=⟨R,j,none⟩) (Nat.le_refl _) _,fun g hg hn=>(heap_setCell_other _ _ _ _ hn).trans (h.2 g hg hn)⟩
theorem Bel2.row {R:Nat} {w w1:World} (h:Bel2 R w w1) (cs:Array Value):Bel2 R w (w1.setRow R cs) :=
 ⟨below_setRow h.1 (Nat.le_refl _) _,fun g hg hn=>(setRow_other _ _ _ _ hn).trans (h.2 g hg hn)⟩
def Since (b0:Nat) (A B:World):Prop:=A.heap.size ≤ B.heap.size ∧ ∀ g,b0 ≤ g → g < A.heap.size → B.heap[g]? = A.heap[g]?
theorem Since.refl (b0:Nat) (A:World):Since b0 A A:=⟨Nat.le_refl _,fun _ _ _=>rfl⟩
def OpenP (bs:List UInt8) (b0 R:Nat) (w:World) (e:Ending) (w':World):Prop :=
 Bel2 R w w' ∧ (((¬ ∃ r,Opens bs r) ∧ e = .panicked corrupt) ∨ ∃ r,Opens bs r ∧ e = .returned (.tuple #[]) ∧ ∀ W,Since b0 w' W → RdrAt W R r)
end Go.Proofs.Herb
namespace Go.Proofs.Herb
open Go.RowKit
set_option maxRecDepth 100000 in
set_option maxHeartbeats 4000000 in
theorem open_any (b0 R:Nat) (q:Option Addr) (m c:Nat) (bs:List UInt8) (w:World) (hl:bs.length = m) (hc:m ≤ c) (hcm:c ≤ maxLen) (hm:m ≤ 4194304) (hqn:q = none → c = 0) (hb0:b0 ≤ R) (hrd0:∀ W:World,(∀ g,b0 ≤ g → g < R → W.heap[g]? = w.heap[g]?) → Rd W q (bs.map bv))
  (hR:w.heap[R]? = some (.cells (rdRow (.slice q m c) (.slice none 0 0) noProps (.slice none 0 0)) 62 (0,0))) :
  Calls Tryz.prog 23 #[.pointer (some ⟨R,0,none⟩)] w (OpenP bs b0 R w):=by
 have hrd:∀ W,Below R w W → Rd W q (bs.map bv):=fun W hW=>hrd0 W fun g _ hg=>hW.block g hg
 have HRd0:=hid hrd0
 have HRow:=hid hR
 have HRd:=hid hrd
 have hRs:R < w.heap.size:=lt_of_block hR
 have HMo:=hid must_ok
 have HMn:=hid must_no
 have Hqn:=hid hqn
 have rb:w.cell? ⟨R,0,none⟩ = some (.slice q m c):=by rw [cell_of_row _ _ _ _ _ _ hR];rfl
 clear hR hrd hrd0 hqn
 go_enter Tryz.func23,Tryz.ntmps23
 by_cases h40:40 ≤ m
 ·have d0:decide ((40:Int) ≤ (m:Int)) = true:=by simp;omega
  obtain ⟨E,hE⟩:∃ E,E = m - 40:=⟨_,rfl⟩
  have HE:=hid hE
  have hEi:(m:Int) - 40 = (E:Int):=by omega
  have hEi2:=hid hEi
  obtain ⟨bq,oq,rfl⟩:∃ b o,q = some ⟨b,o,none⟩:=by
   obtain ⟨b,o,e, -⟩:=(HRd.out w (Below.refl _ _)).cell (k:=0) (by rw [List.length_map];omega)
   exact ⟨b,o,e⟩
  obtain ⟨F,hF⟩:∃ F,F = bs.drop E:=⟨_,rfl⟩
  have hFl:F.length = 40:=by rw [hF,List.length_drop];omega
  obtain ⟨CF,hCF⟩:∃ CF,CF = c - E:=⟨_,rfl⟩
  obtain ⟨oF,hoF⟩:∃ oF,oF = (if c = E then oq else oq + E):=⟨_,rfl⟩
  have hsl:∀ W:World,(Instr.slice 22 (.slice (some ⟨bq,oq,none⟩) m c) (some (.int .i64 ((m:Int) - 40))) none none).run Tryz.prog W = .ok (.slice (some ⟨bq,oF,none⟩) 40 CF) W:=fun W=>by
   have h:=slice_from oF bq oq m c E W (by omega) hc hoF
   rw [hEi,hCF,show (40:Nat) = m - E from by omega]
   exact h
  have hFr:∀ W,Rd W (some ⟨bq,oq,none⟩) (bs.map bv) → Rd W (some ⟨bq,oF,none⟩) (F.map bv):=fun W hW=>by
   rw [hoF,hF,if_neg (by omega),List.map_drop]
   exact hW.drop E
  have hcf:40 ≤ CF:=by omega
  have hs4:∀ W:World,(Instr.slice 22 (.slice (some ⟨bq,oF,none⟩) 40 CF) none (some (.int .i64 4)) none).run Tryz.prog W = .ok (.slice (some ⟨bq,oF,none⟩) 4 CF) W:=fun W=>slice_upto bq oF 40 CF 4 W (by omega)
  have hs36:∀ W:World,(Instr.slice 22 (.slice (some ⟨bq,oF,none⟩) 40 CF) none (some (.int .i64 36)) none).run Tryz.prog W = .ok (.slice (some ⟨bq,oF,none⟩) 36 CF) W:=fun W=>slice_upto bq oF 40 CF 36 W (by omega)
  have hnum:∀ (a:Nat) (W:World),a + 4 ≤ 40 → Rd W (some ⟨bq,oF,none⟩) (F.map bv) → Calls Tryz.prog 56 #[.slice (some ⟨bq,oF,none⟩) 40 CF,.int .i64 (a:Int)] W fun e w'=>e = .returned (.int .i64 (ftN bs a:Int)) ∧ Below W.heap.size W w':=fun a W ha hW=>by
   have h:=numR_any (some ⟨bq,oF,none⟩) 40 CF a F W hFl ha (by decide) hW
   rw [hF,hE,← hl] at h
   exact h
  have hN32:∀ a,ftN bs a < 4294967296:=fun a=>by
   show num4 (bs.drop (bs.length - 40)) a < _
   unfold num4
   have:=(((bs.drop (bs.length - 40))[a]?).getD 0).toNat_lt
   have:=(((bs.drop (bs.length - 40))[a + 1]?).getD 0).toNat_lt
   have:=(((bs.drop (bs.length - 40))[a + 2]?).getD 0).toNat_lt
   have:=(((bs.drop (bs.length - 40))[a + 3]?).getD 0).toNat_lt
   omega
  have HNum:=hid hnum
  have HN32:=hid hN32
  have HFr:=hid hFr
  have HFl:=hid hFl
  have HF:=hid hF
  have Hl:=hid hl
  clear hF hFl hCF hoF hFr hnum hN32 hE hEi
  go_upto_region 3 with (go_at_call 55;refine (HMo.out _).mono ?_;rintro e w' ⟨rfl,rfl⟩)
  obtain ⟨TD,D,hD1,hD2⟩:=class_d w
  have hcall:∀ {f:Nat} {vs:Array Value} {v:Value},(∀ w',Below w.heap.size w w' → Calls Tryz.prog f vs w' fun e w''=>e = .returned v ∧ Below w'.heap.size w' w'') → ∀ x,Calls Tryz.prog f vs (D x) fun e w''=>e = .returned v ∧ ∃ y,w'' = D y:=fun hf x=>calls_d hD1 hD2 hf x
  have hft:∀ w',Below w.heap.size w w' → Rd w' (some ⟨bq,oF,none⟩) (F.map bv):=fun w' hb=>HFr.out _ (HRd.out _ (hb.mono (Nat.le_of_lt hRs)))
  have HFt:=hid hft
  obtain ⟨S4,hS4⟩:∃ S:ByteArray,S = ⟨(F.take 4).toArray⟩:=⟨_,rfl⟩
  have hcv:∀ x,(convert 22 9 (.slice (some ⟨bq,oF,none⟩) 4 CF)).run Tryz.prog (D x) = .ok (.string S4) (D x):=fun x=>by
   rw [hS4]
   exact convB (D x) (some ⟨bq,oF,none⟩) 4 CF (F.take 4) (by rw [List.length_take,HFl.out];rfl) (by rw [List.map_take];exact (hft _ (hD1 x)).take 4)
  obtain ⟨x0,hx0⟩:=hD2 { w with drawn:=w.drawn + 1 } (Below.refl _ _).drew
  haveI:Nonempty TD:=⟨x0⟩
  obtain ⟨N36,hN36⟩:∃ n,n = ftN bs 36:=⟨_,rfl⟩
  obtain ⟨C36,hC36⟩:∃ n,n = (crcMore 0 (F.take 36)).toNat:=⟨_,rfl⟩
  have HN36:Hid (∀ x,Calls Tryz.prog 56 #[.slice (some ⟨bq,oF,none⟩) 40 CF,.int .i64 36] (D x) fun e w''=>e = .returned (.int .i64 (N36:Int)) ∧ ∃ y,w'' = D y):=hid (hcall fun w' hb=>by rw [hN36];exact HNum.out 36 w' (by decide) (HFt.out _ hb))
  have HS36:Hid (∀ x,Calls Tryz.prog 52 #[.slice (some ⟨bq,oF,none⟩) 36 CF] (D x) fun e w''=>e = .returned (.int .u32 (C36:Int)) ∧ ∃ y,w'' = D y):=hid (hcall fun w' hb=>by rw [hC36];exact of_any (some ⟨bq,oF,none⟩) 36 CF (F.take 36) w' (by rw [List.length_take,HFl.out];rfl) (by decide) (by rw [List.map_take];exact (HFt.out _ hb).take 36))
  have hN36l:N36 < 4294967296:=hN36 ▸ HN32.out 36
  have m36:(N36:Int) % 4294967296 = (N36:Int):=by omega
  have HD1:=hid hD1
  have HSum:=hid (show N36 = C36 ↔ ftN bs 36 = (crcMore 0 ((bs.drop (bs.length - 40)).take 36)).toNat by rw [hN36,hC36,HF.out,HE.out,Hl.out])
  have HMg:=hid (show F.take 4 = [84,66,76,49] ↔ (bs.drop (bs.length - 40)).take 4 = [84,66,76,49] by rw [HF.out,HE.out,Hl.out])
  have HMg2:=hid (show F.take 4 = [84,66,76,49] ↔ S4 = ⟨#[84,66,76,49]⟩ from ⟨fun h=>by rw [hS4,h],fun h=>by
   rw [hS4] at h
   have h2:=congrArg (fun b=>b.data.toList) h
   simpa using h2⟩)
  clear hcall hft hD1 hD2 hS4 hN36 hC36
  by_cases hmg:S4 = ⟨#[84,66,76,49]⟩
  ·have hbe:(S4.toList == [84,66,76,49]) = true:=by rw [hmg,ByteArray.toList_eq];rfl
   have HMgT:=hid (HMg.out.1 (HMg2.out.2 hmg))
   clear hmg
   by_cases hsm:N36 = C36
   ·have hse:((N36:Int) == (C36:Int)) = true:=by rw [beq_iff_eq];omega
    have HSumT:=hid (HSum.out.1 hsm)
    clear hsm
    refine region_last_d (D:=D) 13 (by kernel_rfl) (by kernel_rfl) (by kernel_rfl) x0 hx0 ?_
    simp only [List.take_succ_cons,List.take_zero,List.drop_succ_cons,List.drop_zero]
    repeat (go_big_quiet_step (first | (go_at_call 56;with_reducible exact HN36.out _) | (go_at_call 52;with_reducible exact HS36.out _)))
    refine wpQuiet_nil ?_
    intro x
    obtain ⟨w3,hw3⟩:∃ y,y = D x:=⟨_,rfl⟩
    have HB3:=hid (show Below w.heap.size w w3 from hw3 ▸ HD1.out x)
    rw [← hw3]
    have hs3:=HB3.out.size
    clear hw3 HN36 HS36 hcv HD1 hx0 x0 m36 hN36l hse hbe HMg HMg2 HSum hs4 hs36
    have HN4:Hid (∀ W,Below w.heap.size w W → Calls Tryz.prog 56 #[.slice (some ⟨bq,oF,none⟩) 40 CF,.int .i64 4] W fun e w''=>e = .returned (.int .i64 (stA bs 0:Int)) ∧ Below W.heap.size W w''):=hid fun W hb=>HNum.out 4 W (by decide) (HFt.out _ hb)
    go_wp2_with (first | (go_at_call 55;refine (HMo.out _).mono ?_;rintro e w' ⟨rfl,rfl⟩) | fail)
    refine (HN4.out _ (HB3.out.alloc hs3 _)).mono ?_
    rintro e w5 ⟨rfl,hb5⟩
    obtain ⟨P,hP⟩:∃ P,P = w3.heap.size:=⟨_,rfl⟩
    have hX:w5.heap[P]? = some (.cells #[.slice none 0 0,.slice none 0 0,.slice none 0 0] 108 (0,0)):=by
     rw [hP,hb5.block _ (by simp)]
     exact heap_alloc_new w3 _
    have HB5:=hid (show Below w.heap.size w w5 from (HB3.out.alloc hs3 _).trans (hb5.mono (by rw [World.size_alloc];omega)))
    have hP5:P < w5.heap.size:=lt_of_block hX
    have hPw:w.heap.size ≤ P:=by rw [hP];exact hs3
    have HX:=hid hX
    rw [← hP]
    clear hb5 hX hP HN4
    have HN:=hid (fun (h:∃ r,Opens bs r)=>opens_st h.choose_spec)
    obtain ⟨A0,hA0⟩:∃ a,a = stA bs 0:=⟨_,rfl⟩
    rw [← hA0]
    have HA0:=hid hA0
    have hA0l:A0 < 4294967296:=by rw [hA0];exact HN32.out 4
    clear hA0
    go_wp2
    go_loopw [5,41] (fun at_ i wr=>∃ k:Nat,k ≤ 3 ∧ i = .int .i64 (k:Int) ∧ at_ = .int .i64 (stA bs k:Int) ∧ (∀ j,j < k → ftN bs (4 + 8 * j) = stA bs j ∧ stA bs j ≤ E ∧ stA bs (j + 1) ≤ E) ∧
     (∃ cur:Array Value,cur.size = 3 ∧ wr.heap[P]? = some (.cells cur 108 (0,0)) ∧ ∀ j,j < k → ∃ v,cur[j]? = some v ∧ PartV (some ⟨bq,oq,none⟩) bs j v) ∧ Below w.heap.size w wr) (fun _ i _=>3 - (intOf i).toNat)
    case atStart=>exact ⟨0,by decide,rfl,by rw [HA0.out],fun j hj=>absurd hj (by omega),⟨_,rfl,HX.out,fun j hj=>absurd hj (by omega)⟩,HB5.out⟩
    case round =>
     obtain ⟨k,hk,rfl,rfl,hch,⟨cur,hcs,hcur,hpv⟩,hb⟩:=hrel
     have HCh:=hid hch
     have HCur:=hid hcur
     have HPv:=hid hpv
     have HBr:=hid hb
     have Hcs:=hid hcs
     have hPr:P < wr.heap.size:=lt_of_block hcur
     have rbr:wr.cell? ⟨R,0,none⟩ = some (.slice (some ⟨bq,oq,none⟩) m c):=by
      rw [cell_of_row _ _ _ _ _ _ ((hb.block _ hRs).trans HRow.out)]
      rfl
     clear hch hcur hpv hb hcs
     by_cases hlt:k < 3
     ·have hnb:ftN bs (8 + 8 * k) < 4294967296:=HN32.out _
      have hna:ftN bs (4 + 8 * k) < 4294967296:=HN32.out _
      have HSt:=hid (stA_succ bs k)
      obtain ⟨NA,hNA⟩:∃ n,Hid (n = ftN bs (4 + 8 * k)):=⟨_,hid rfl⟩
      obtain ⟨NB,hNB⟩:∃ n,Hid (n = ftN bs (8 + 8 * k)):=⟨_,hid rfl⟩
      obtain ⟨AT,hAT⟩:∃ n,Hid (n = stA bs k):=⟨_,hid rfl⟩
      rw [← hNA.out] at hna
      rw [← hNB.out] at hnb
      rw [← hNB.out,← hAT.out] at HSt
      rw [← hAT.out]
      have HCa:Hid (∀ W,Below w.heap.size w W → Calls Tryz.prog 56 #[.slice (some ⟨bq,oF,none⟩) 40 CF,.int .i64 (4 + 8 * (k:Int))] W fun e w''=>e = .returned (.int .i64 (NA:Int)) ∧ Below W.heap.size W w''):=hid fun W hb=>by
       have h:=HNum.out (4 + 8 * k) W (by omega) (HFt.out _ hb)
       rw [← hNA.out,show ((4 + 8 * k:Nat):Int) = 4 + 8 * (k:Int) from by omega] at h
       exact h
      have HCb:Hid (∀ W,Below w.heap.size w W → Calls Tryz.prog 56 #[.slice (some ⟨bq,oF,none⟩) 40 CF,.int .i64 (8 + 8 * (k:Int))] W fun e w''=>e = .returned (.int .i64 (NB:Int)) ∧ Below W.heap.size W w''):=hid fun W hb=>by
       have h:=HNum.out (8 + 8 * k) W (by omega) (HFt.out _ hb)
       rw [← hNB.out,show ((8 + 8 * k:Nat):Int) = 8 + 8 * (k:Int) from by omega] at h
       exact h
      have hATl:AT ≤ 4194304 ∨ k = 0:=by
       by_cases h0:k = 0
       ·exact .inr h0
       ·obtain ⟨-, -,h3⟩:=HCh.out (k - 1) (by omega)
        rw [show k - 1 + 1 = k from by omega,← hAT.out] at h3
        have:=HE.out
        exact .inl (by omega)
      have hATm:AT < 4294967296:=by
       rcases hATl with h | h
       ·omega
       ·subst h
        rw [hAT.out]
        exact HN32.out 4
      clear hATl
      by_cases g1:NA = AT
      ·have g1b:((NA:Int) == (AT:Int)) = true:=by rw [beq_iff_eq];omega
       by_cases g2:AT ≤ E
       ·have g2b:decide ((AT:Int) ≤ (m:Int) - 40) = true:=by have:=hEi2.out;simp;omega
        go_upto_region 11 with (first | (go_at_call 55;refine (HMo.out _).mono ?_;rintro e w' ⟨rfl,rfl⟩) | (go_at_call 56;refine (HCa.out _ HBr.out).mono ?_;rintro e w6 ⟨rfl,hb6⟩))
        have HB6:=hid (HBr.out.trans (hb6.mono HBr.out.size))
        have HR6:=hid ((hb6.block _ hPr).trans HCur.out)
        have hs6:=hb6.size
        clear hb6 rbr
        go_upto_region 12 with (go_at_call 56;refine (HCb.out _ HB6.out).mono ?_;rintro e w7 ⟨rfl,hb7⟩)
        have HB7:=hid (HB6.out.trans (hb7.mono HB6.out.size))
        have HR7:=hid ((hb7.block _ (by omega)).trans HR6.out)
        have hs7:=hb7.size
        have rb7:w7.cell? ⟨R,0,none⟩ = some (.slice (some ⟨bq,oq,none⟩) m c):=by
         rw [cell_of_row _ _ _ _ _ _ ((HB7.out.block _ hRs).trans HRow.out)]
         rfl
        clear hb7
        by_cases g3:NB ≤ E - AT
        ·have g3b:decide ((NB:Int) ≤ (m:Int) - 40 - (AT:Int)) = true:=by have:=hEi2.out;simp;omega
         have hABm:AT + NB ≤ m:=by have:=HE.out;omega
         have hsm:∀ W:World,(Instr.slice 22 (.slice (some ⟨bq,oq,none⟩) m c) (some (.int .i64 (AT:Int))) (some (.int .i64 ((AT:Int) + (NB:Int)))) none).run Tryz.prog W = .ok (.slice (some ⟨bq,if c = AT then oq else oq + AT,none⟩) NB (c - AT)) W:=fun W=>slice_mid bq oq m c AT NB W (by omega)
         have HPart:=hid (show PartV (some ⟨bq,oq,none⟩) bs k (.slice (some ⟨bq,if c = AT then oq else oq + AT,none⟩) NB (c - AT)) from by
          have h1:(ftP bs k) = (bs.drop AT).take NB:=by rw [hNB.out,← g1,hNA.out];rfl
          refine ⟨_,_,by rw [← hNB.out],by rw [← hNB.out];omega,by rw [← hAT.out];omega, ?_,fun W hW => ?_⟩
          ·rw [h1,List.length_take,List.length_drop,← hNB.out,Hl.out]
           omega
          ·rw [h1]
           exact rd_mid Hl.out hc hW)
         obtain ⟨oP,hoP⟩:∃ o,o = (if c = AT then oq else oq + AT):=⟨_,rfl⟩
         rw [← hoP] at hsm HPart
         have kc:w7.cell? ⟨P,k,none⟩ = some (cur[k]'(by rw [Hcs.out];exact hlt)):=by
          rw [cell_of_row _ _ _ _ _ _ HR7.out]
          exact Array.getElem?_eq_getElem _
         have kf:w7.frozen? ⟨P,k,none⟩ = false:=frozen_of_row _ _ _ _ _ HR7.out
         clear hoP
         obtain ⟨ck,hck⟩:∃ v,v = cur[k]'(by rw [Hcs.out];exact hlt):=⟨_,rfl⟩
         rw [← hck] at kc
         clear hck
         have HR8:=hid (show (w7.setCell ⟨P,k,none⟩ (.slice (some ⟨bq,oP,none⟩) NB (c - AT))).heap[P]? = some (.cells (cur.setIfInBounds k (.slice (some ⟨bq,oP,none⟩) NB (c - AT))) 108 (0,0)) from Go.heap_setCell_same _ _ k _ _ _ HR7.out)
         have HB8:=hid (show Below w.heap.size w (w7.setCell ⟨P,k,none⟩ (.slice (some ⟨bq,oP,none⟩) NB (c - AT))) from HB7.out.setCell (p:=⟨P,k,none⟩) hPw _)
         go_wp2_with (go_at_call 55;refine (HMo.out _).mono ?_;rintro e w' ⟨rfl,rfl⟩)
         refine ⟨⟨k + 1,by omega,by rw [show ((k + 1:Nat):Int) = (k:Int) + 1 from by omega],by rw [HSt.out];rw [show ((AT + NB:Nat):Int) = (AT:Int) + (NB:Int) from by omega],fun j hj => ?_,⟨_,by rw [Array.size_setIfInBounds];exact Hcs.out,HR8.out,fun j hj => ?_⟩,HB8.out⟩,by simp [intOf];omega⟩
         ·by_cases hjk:j = k
          ·subst hjk
           refine ⟨by rw [← hNA.out,← hAT.out];exact g1,by rw [← hAT.out];exact g2, ?_⟩
           rw [HSt.out]
           omega
          ·exact HCh.out j (by omega)
         ·by_cases hjk:j = k
          ·subst hjk
           exact ⟨_,by rw [Array.getElem?_setIfInBounds_self_of_lt (by rw [Hcs.out];exact hlt)],HPart.out⟩
          ·obtain ⟨v,h1,h2⟩:=HPv.out j (by omega)
           exact ⟨v,by rw [Array.getElem?_setIfInBounds_ne (Ne.symm hjk)];exact h1,h2⟩
        ·have g3b:decide ((NB:Int) ≤ (m:Int) - 40 - (AT:Int)) = false:=by have:=hEi2.out;simp;omega
         have HNo:=hid (show ¬ ∃ r,Opens bs r from fun h=>g3 (by
          have h2:=(HN.out h).1
          have h3:=stA_le bs (show k + 1 ≤ 3 by omega)
          have h4:=HE.out
          have h5:=Hl.out
          have h6:=HSt.out
          omega))
         go_wp2_with (go_at_call 55;refine (HMn.out _).mono ?_;rintro e w' ⟨rfl,rfl⟩)
         exact ⟨rfl,two hRs (HB7.out),.inl ⟨HNo.out,rfl⟩⟩
       ·have g2b:decide ((AT:Int) ≤ (m:Int) - 40) = false:=by have:=hEi2.out;simp;omega
        have HNo:=hid (show ¬ ∃ r,Opens bs r from fun h=>g2 (by
         have h2:=(HN.out h).1
         have h3:=stA_le bs hk
         have h4:=HE.out
         have h5:=Hl.out
         have h6:=hAT.out
         omega))
        go_wp2_with (first | (go_at_call 55;refine (HMn.out _).mono ?_;rintro e w' ⟨rfl,rfl⟩) | (go_at_call 56;refine (HCa.out _ HBr.out).mono ?_;rintro e w6 ⟨rfl,hb6⟩))
        exact ⟨rfl,two hRs ((HBr.out.trans (hb6.mono HBr.out.size))),.inl ⟨HNo.out,rfl⟩⟩
      ·have g1b:((NA:Int) == (AT:Int)) = false:=by rw [beq_eq_false_iff_ne];omega
       have HNo:=hid (show ¬ ∃ r,Opens bs r from fun h=>g1 (by rw [hNA.out,hAT.out];exact (HN.out h).2 k hlt))
       go_wp2_with (first | (go_at_call 55;refine (HMn.out _).mono ?_;rintro e w' ⟨rfl,rfl⟩) | (go_at_call 56;refine (HCa.out _ HBr.out).mono ?_;rintro e w6 ⟨rfl,hb6⟩))
       exact ⟨rfl,two hRs ((HBr.out.trans (hb6.mono HBr.out.size))),.inl ⟨HNo.out,rfl⟩⟩
     ·obtain rfl:k = 3:=by omega
      obtain ⟨AT,hAT⟩:∃ n,Hid (n = stA bs 3):=⟨_,hid rfl⟩
      rw [← hAT.out]
      have hATl:AT ≤ E:=by rw [hAT.out];exact (HCh.out 2 (by decide)).2.2
      have hEm:E + 40 = m:=by have:=HE.out;omega
      clear rbr
      by_cases g1:AT = E
      ·have g1b:((AT:Int) == (m:Int) - 40) = true:=by rw [beq_iff_eq];omega
       have HAE:=hid g1
       clear g1
       obtain ⟨_,e0,q0,c0,rfl,hc0,hcm0,hl0,hr0⟩:=HPv.out 0 (by decide)
       obtain ⟨_,e1,q1,c1,rfl,hc1,hcm1,hl1,hr1⟩:=HPv.out 1 (by decide)
       obtain ⟨_,e2,q2,c2,rfl,hc2,hcm2,hl2,hr2⟩:=HPv.out 2 (by decide)
       obtain ⟨n0,hn0⟩:∃ n,Hid (n = ftN bs (8 + 8 * 0)):=⟨_,hid rfl⟩
       obtain ⟨n1,hn1⟩:∃ n,Hid (n = ftN bs (8 + 8 * 1)):=⟨_,hid rfl⟩
       obtain ⟨n2,hn2⟩:∃ n,Hid (n = ftN bs (8 + 8 * 2)):=⟨_,hid rfl⟩
       have st1:stA bs 1 = stA bs 0 + n0:=by rw [hn0.out];rfl
       have st2:stA bs 2 = stA bs 1 + n1:=by rw [hn1.out];rfl
       have st3:stA bs 3 = stA bs 2 + n2:=by rw [hn2.out];rfl
       rw [← hAT.out] at st3
       have ha0:=HA0.out
       rw [← hn0.out] at e0 hc0 hl0
       rw [← hn1.out] at e1 hc1 hl1
       rw [← hn2.out] at e2 hc2 hl2
       have hA0m:A0 ≤ 4194304:=by omega
       have hn0m:n0 ≤ 4194304:=by omega
       have hn1m:n1 ≤ 4194304:=by omega
       have hn2m:n2 ≤ 4194304:=by omega
       have HR0:=hid hr0
       have HR1:=hid hr1
       have HR2:=hid hr2
       have HE0:=hid e0
       have HE1:=hid e1
       have HE2:=hid e2
       have HL0:=hid hl0
       have HL1:=hid hl1
       have HL2:=hid hl2
       have HC2:=hid (show 0 < n0 → c2 ≤ 9223372036854775806 by unfold maxLen at hcm2;omega)
       have hcm0':c0 ≤ maxLen:=by omega
       have hcm1':c1 ≤ maxLen:=by omega
       clear e0 e1 e2 hr0 hr1 hr2 hl0 hl1 hl2 st1 st2 st3 ha0 hcm0 hcm1 hcm2
       go_upto_region 17 with (go_at_call 55;refine (HMo.out _).mono ?_;rintro e w' ⟨rfl,rfl⟩)
       obtain ⟨TE,G,hG1,hG2⟩:=class_d wr
       have hsr:=HBr.out.size
       have hcall:∀ {f:Nat} {vs:Array Value} {v:Value},(∀ w',Below wr.heap.size wr w' → Calls Tryz.prog f vs w' fun e w''=>e = .returned v ∧ Below w'.heap.size w' w'') → ∀ x,Calls Tryz.prog f vs (G x) fun e w''=>e = .returned v ∧ ∃ y,w'' = G y:=fun hf x=>calls_d hG1 hG2 hf x
       have hq:∀ w',Below wr.heap.size wr w' → Rd w' (some ⟨bq,oq,none⟩) (bs.map bv):=fun w' hb=>HRd.out _ ((HBr.out.trans (hb.mono hsr)).mono (Nat.le_of_lt hRs))
       have HQ:=hid hq
       have HFb:=hid (fun w' (hb:Below wr.heap.size wr w')=>HFt.out w' (HBr.out.trans (hb.mono hsr)))
       have HG1:=hid hG1
       have ld1:∀ x,(G x).cell? ⟨P,1,none⟩ = some (.slice q1 n1 c1):=fun x=>by rw [cell_of_row _ _ _ _ _ _ (((hG1 x).block _ hPr).trans HCur.out)];exact HE1.out
       have ld2:∀ x,(G x).cell? ⟨P,2,none⟩ = some (.slice q2 n2 c2):=fun x=>by rw [cell_of_row _ _ _ _ _ _ (((hG1 x).block _ hPr).trans HCur.out)];exact HE2.out
       obtain ⟨N28,hN28⟩:∃ n,n = ftN bs 28:=⟨_,rfl⟩
       obtain ⟨N32,hN32⟩:∃ n,n = ftN bs 32:=⟨_,rfl⟩
       obtain ⟨C1,hC1⟩:∃ n,n = (crcMore 0 (ftP bs 1)).toNat:=⟨_,rfl⟩
       obtain ⟨C2,hC2⟩:∃ n,n = (crcMore 0 (ftP bs 2)).toNat:=⟨_,rfl⟩
       have HC28:Hid (∀ x,Calls Tryz.prog 56 #[.slice (some ⟨bq,oF,none⟩) 40 CF,.int .i64 28] (G x) fun e w''=>e = .returned (.int .i64 (N28:Int)) ∧ ∃ y,w'' = G y):=hid (hcall fun w' hb=>by rw [hN28];exact HNum.out 28 w' (by decide) (HFb.out _ hb))
       have HC32:Hid (∀ x,Calls Tryz.prog 56 #[.slice (some ⟨bq,oF,none⟩) 40 CF,.int .i64 32] (G x) fun e w''=>e = .returned (.int .i64 (N32:Int)) ∧ ∃ y,w'' = G y):=hid (hcall fun w' hb=>by rw [hN32];exact HNum.out 32 w' (by decide) (HFb.out _ hb))
       have HS1:Hid (∀ x,Calls Tryz.prog 52 #[.slice q1 n1 c1] (G x) fun e w''=>e = .returned (.int .u32 (C1:Int)) ∧ ∃ y,w'' = G y):=hid (hcall fun w' hb=>by rw [hC1];exact of_any q1 n1 c1 (ftP bs 1) w' HL1.out (by omega) (HR1.out _ (hq _ hb)))
       have HS2:Hid (∀ x,Calls Tryz.prog 52 #[.slice q2 n2 c2] (G x) fun e w''=>e = .returned (.int .u32 (C2:Int)) ∧ ∃ y,w'' = G y):=hid (hcall fun w' hb=>by rw [hC2];exact of_any q2 n2 c2 (ftP bs 2) w' HL2.out (by omega) (HR2.out _ (hq _ hb)))
       have m28:(N28:Int) % 4294967296 = (N28:Int):=by have:=HN32.out 28;omega
       have m32:(N32:Int) % 4294967296 = (N32:Int):=by have:=HN32.out 32;omega
       have HS28:=hid (show N28 = C1 ↔ ftN bs 28 = (crcMore 0 (ftP bs 1)).toNat by rw [hN28,hC1])
       have HS32:=hid (show N32 = C2 ↔ ftN bs 32 = (crcMore 0 (ftP bs 2)).toNat by rw [hN32,hC2])
       obtain ⟨y0,hy0⟩:=hG2 { wr with drawn:=wr.drawn + 1 } (Below.refl _ _).drew
       haveI:Nonempty TE:=⟨y0⟩
       clear hcall hq hG1 hG2 hN28 hN32 hC1 hC2
       by_cases s1:N28 = C1
       ·have s1b:((N28:Int) == (C1:Int)) = true:=by rw [beq_iff_eq];omega
        by_cases s2:N32 = C2
        ·have s2b:((N32:Int) == (C2:Int)) = true:=by rw [beq_iff_eq];omega
         have HS28t:=hid (HS28.out.1 s1)
         have HS32t:=hid (HS32.out.1 s2)
         clear s1 s2
         refine region_last_d (D:=G) 16 (by kernel_rfl) (by kernel_rfl) (by kernel_rfl) y0 hy0 ?_
         simp only [List.take_succ_cons,List.take_zero,List.drop_succ_cons,List.drop_zero]
         repeat (go_big_quiet_step (first | (go_at_call 56;first | (with_reducible exact HC28.out _) | (with_reducible exact HC32.out _)) | (go_at_call 52;first | (with_reducible exact HS1.out _) | (with_reducible exact HS2.out _))))
         refine wpQuiet_nil ?_
         intro x
         obtain ⟨w17,hw17⟩:∃ y,y = G x:=⟨_,rfl⟩
         have HB17:=hid (show Below wr.heap.size wr w17 from hw17 ▸ HG1.out x)
         rw [← hw17]
         have HW17:=hid (HBr.out.trans (HB17.out.mono hsr))
         have HP17:=hid ((HB17.out.block _ hPr).trans HCur.out)
         have l0:w17.cell? ⟨P,0,none⟩ = some (.slice q0 n0 c0):=by rw [cell_of_row _ _ _ _ _ _ HP17.out];exact HE0.out
         have HI:=hid (index_any q0 n0 c0 A0 (ftP bs 0) w17 HL0.out hc0 hcm0' hn0m hA0m (HR0.out _ (HQ.out _ HB17.out)))
         have hsw:=HW17.out.size
         have hP17s:P < w17.heap.size:=lt_of_block HP17.out
         clear hw17 ld1 ld2 HC28 HC32 HS1 HS2 m28 m32 s1b s2b HG1 hy0
         go_wp2_with (go_at_call 55;refine (HMo.out _).mono ?_;rintro e w' ⟨rfl,rfl⟩)
         refine HI.out.mono ?_
         rintro e w18 ⟨hb18,hcase⟩
         have HW18:=hid (HW17.out.trans (hb18.mono hsw))
         have HP18:=hid ((hb18.block _ hP17s).trans HP17.out)
         clear hb18 HI
         rcases hcase with ⟨hno,rfl⟩ | ⟨l,cs,hbl,hix,kq,kc,rfl,hown⟩
         ·have HNo:=hid (show ¬ ∃ r,Opens bs r from fun ⟨r,h⟩=>by
           obtain ⟨l,h1,h2⟩:=h.idx
           exact hno ⟨l,_,h1,by rw [HA0.out];exact h2⟩)
          go_wp2
          exact ⟨rfl,two hRs (HW18.out),.inl ⟨HNo.out,rfl⟩⟩
         ·have HBl:=hid hbl
          have HIx:=hid hix
          have HFr18:=hid (Fr.of_own hown)
          obtain ⟨K,hK⟩:∃ K,Hid (K = cs.length):=⟨_,hid rfl⟩
          rw [← hK.out] at HFr18 ⊢
          have HR18:=hid ((HW18.out.block _ hRs).trans HRow.out)
          clear hbl hix hown
          have k10:w18.cell? ⟨R,10,none⟩ = some (.slice none 0 0):=by rw [cell_of_row _ _ _ _ _ _ HR18.out];rfl
          have f10:w18.frozen? ⟨R,10,none⟩ = false:=frozen_of_row _ _ _ _ _ HR18.out
          go_upto_region 19 with (fail)
          obtain ⟨W19,hW19⟩:∃ W,W = w18.setCell ⟨R,10,none⟩ (.slice kq K kc):=⟨_,rfl⟩
          rw [← hW19]
          have HW19:=hid hW19
          have hRP:P ≠ R:=by omega
          have HR19:=hid (show W19.heap[R]? = some (.cells (rdRow (.slice (some ⟨bq,oq,none⟩) m c) (.slice none 0 0) noProps (.slice kq K kc)) 62 (0,0)) by rw [hW19];exact Go.heap_setCell_same _ _ 10 _ _ _ HR18.out)
          have HP19:=hid (show W19.heap[P]? = some (.cells cur 108 (0,0)) by rw [hW19,heap_setCell_other _ _ _ _ hRP];exact HP18.out)
          have HB19:=hid (show Bel2 R w W19 by rw [hW19];exact (two hRs HW18.out).cell 10 _)
          have HF19:=hid (show Fr W19 w17.heap.size 79 3 (.slice kq K kc) K (chkCells cs) by
           rw [hW19]
           exact HFr18.out.kept fun g hg _=>heap_setCell_other _ _ _ _ (by show g ≠ R;omega))
          clear hW19 k10 f10
          have l1:W19.cell? ⟨P,1,none⟩ = some (.slice q1 n1 c1):=by rw [cell_of_row _ _ _ _ _ _ HP19.out];exact HE1.out
          have k1:W19.cell? ⟨R,1,none⟩ = some (.slice none 0 0):=by rw [cell_of_row _ _ _ _ _ _ HR19.out];rfl
          have f1:W19.frozen? ⟨R,1,none⟩ = false:=frozen_of_row _ _ _ _ _ HR19.out
          go_upto_region 20 with (fail)
          obtain ⟨W20,hW20⟩:∃ W,W = W19.setCell ⟨R,1,none⟩ (.slice q1 n1 c1):=⟨_,rfl⟩
          rw [← hW20]
          have HR20:=hid (show W20.heap[R]? = some (.cells (rdRow (.slice (some ⟨bq,oq,none⟩) m c) (.slice q1 n1 c1) noProps (.slice kq K kc)) 62 (0,0)) by rw [hW20];exact Go.heap_setCell_same _ _ 1 _ _ _ HR19.out)
          have HP20:=hid (show W20.heap[P]? = some (.cells cur 108 (0,0)) by rw [hW20,heap_setCell_other _ _ _ _ hRP];exact HP19.out)
          have HB20:=hid (show Bel2 R w W20 by rw [hW20];exact HB19.out.cell 1 _)
          have HF20:=hid (show Fr W20 w17.heap.size 79 3 (.slice kq K kc) K (chkCells cs) by
           rw [hW20]
           exact HF19.out.kept fun g hg _=>heap_setCell_other _ _ _ _ (by show g ≠ R;omega))
          clear hW20 l1 k1 f1
          have l2:W20.cell? ⟨P,2,none⟩ = some (.slice q2 n2 c2):=by rw [cell_of_row _ _ _ _ _ _ HP20.out];exact HE2.out
          have hR20:R < W20.heap.size:=lt_of_block HR20.out
          have HPp:=hid (propsR_any q2 n2 c2 (ftP bs 2) W20 HL2.out hc2 (HC2.out (by have:=blk_pos HBl.out;rw [HL0.out] at this;exact this)) (HR2.out _ (HRd.out _ HB20.out.1)))
          go_wp2_with fail
          refine HPp.out.mono ?_
          rintro e w21 ⟨hb21,hcase⟩
          have HB21:=hid (HB20.out.below hRs hb21)
          have HR21:=hid ((hb21.block _ hR20).trans HR20.out)
          have HF21:=hid (HF20.out.below hb21)
          clear hb21 HPp
          rcases hcase with ⟨hno,rfl⟩ | ⟨p,hp,rfl⟩
          ·have HNo:=hid (show ¬ ∃ r,Opens bs r from fun ⟨r,h⟩=>by
            have:=h.props
            rw [hno] at this
            cases this)
           go_wp2
           exact ⟨rfl,HB21.out,.inl ⟨HNo.out,rfl⟩⟩
          ·have HPr:=hid hp
           obtain ⟨C,hC⟩:∃ C,Hid (C = p.cells.toArray):=⟨_,hid rfl⟩
           rw [← hC.out]
           have HCs:=hid (show C.size = 8 by rw [hC.out];rfl)
           have HC1:=hid (show ∀ v ∈ C.toList,v.oneCell' = true by rw [hC.out];exact (props_cells8 _).2)
           have HNew:=hid (show ((rdRow (.slice (some ⟨bq,oq,none⟩) m c) (.slice q1 n1 c1) noProps (.slice kq K kc)).toList.take 2 ++ C.toList ++ (rdRow (.slice (some ⟨bq,oq,none⟩) m c) (.slice q1 n1 c1) noProps (.slice kq K kc)).toList.drop (2 + C.size)).toArray = rdRow (.slice (some ⟨bq,oq,none⟩) m c) (.slice q1 n1 c1) p (.slice kq K kc) by rw [hC.out];rfl)
           clear hp
           have hst:(storeCells ⟨R,2,none⟩ C.toList).run Tryz.prog w21 = .ok () (w21.setRow R (rdRow (.slice (some ⟨bq,oq,none⟩) m c) (.slice q1 n1 c1) p (.slice kq K kc))):=by
            have h:=run_storeCells_at Tryz.prog R 2 62 C.toList 0 _ w21 HR21.out (by rw [Array.length_toList,HCs.out];exact (by decide:2 + 0 + 8 ≤ 11)) HC1.out
            simp only [Nat.add_zero,Array.length_toList] at h
            rw [HNew.out] at h
            exact h
           go_wp2
           refine bodyPost_end (results_none rfl _ _ _) rfl ?_
           have HBf:=HB21.out.row (rdRow (.slice (some ⟨bq,oq,none⟩) m c) (.slice q1 n1 c1) p (.slice kq K kc))
           have hRf:R < (w21.setRow R (rdRow (.slice (some ⟨bq,oq,none⟩) m c) (.slice q1 n1 c1) p (.slice kq K kc))).heap.size:=by have:=HBf.1.size;omega
           have hRdW:∀ W:World,Since b0 (w21.setRow R (rdRow (.slice (some ⟨bq,oq,none⟩) m c) (.slice q1 n1 c1) p (.slice kq K kc))) W → Rd W (some ⟨bq,oq,none⟩) (bs.map bv):=fun W hW=>HRd0.out W fun g h1 h2=>(hW.2 g h1 (by omega)).trans (HBf.1.block g h2)
           refine ⟨HBf,.inr ⟨⟨bs,ftP bs 1,p,cs⟩, ?_,rfl,fun W hW=>⟨_,c,q1,c1,kq,kc, ?_, ?_,hcm,hRdW W hW,Hqn.out, ?_,hcm1',HR1.out _ (hRdW W hW), ?_⟩⟩⟩
           ·refine opens_mk (l:=l) (by rw [Hl.out];exact h40) HMgT.out HSumT.out (fun j hj=>(HCh.out j hj).1) (by rw [← hAT.out,HAE.out,HE.out,Hl.out]) HS28t.out HS32t.out HBl.out ?_ HPr.out
            have h:=HIx.out
            rw [HA0.out] at h
            exact h
           ·have h:=setRow_heap w21 R _ (rdRow (.slice (some ⟨bq,oq,none⟩) m c) (.slice q1 n1 c1) p (.slice kq K kc)) _ _ HR21.out
            rw [hW.2 R hb0 hRf,h]
            show some (Obj.cells (rdRow (.slice _ m c) (.slice q1 n1 c1) p (.slice kq K kc)) _ _) = some (.cells (rdRow (.slice _ bs.length c) (.slice q1 (ftP bs 1).length c1) p (.slice kq cs.length kc)) _ _)
            rw [Hl.out,HL1.out,hK.out]
           ·show bs.length ≤ c
            rw [Hl.out]
            exact hc
           ·show (ftP bs 1).length ≤ c1
            rw [HL1.out]
            exact hc1
           ·have h:=HF21.out.kept (w':=w21.setRow R (rdRow (.slice (some ⟨bq,oq,none⟩) m c) (.slice q1 n1 c1) p (.slice kq K kc))) fun g hg _=>setRow_other _ _ _ _ (by omega)
            have h:=h.kept (w':=W) fun g hg hgl=>hW.2 g (by omega) hgl
            obtain ⟨a,c',h1,h2,h3,h4,h5⟩:=h.shape
            cases h1
            exact ⟨by rw [← hK.out];exact h2,h3,h4⟩
        ·have s2b:((N32:Int) == (C2:Int)) = false:=by rw [beq_eq_false_iff_ne];omega
         have HNo:=hid (show ¬ ∃ r,Opens bs r from fun ⟨r,h⟩=>s2 (HS32.out.2 h.s2))
         clear s1 s2
         refine region_last_d (D:=G) 16 (by kernel_rfl) (by kernel_rfl) (by kernel_rfl) y0 hy0 ?_
         simp only [List.take_succ_cons,List.take_zero,List.drop_succ_cons,List.drop_zero]
         repeat (go_big_quiet_step (first | (go_at_call 56;first | (with_reducible exact HC28.out _) | (with_reducible exact HC32.out _)) | (go_at_call 52;first | (with_reducible exact HS1.out _) | (with_reducible exact HS2.out _))))
         refine wpQuiet_nil ?_
         intro x
         go_wp2_with (go_at_call 55;refine (HMn.out _).mono ?_;rintro e w' ⟨rfl,rfl⟩)
         exact ⟨rfl,two hRs ((HBr.out.trans ((HG1.out x).mono hsr))),.inl ⟨HNo.out,rfl⟩⟩
       ·have s1b:((N28:Int) == (C1:Int)) = false:=by rw [beq_eq_false_iff_ne];omega
        have HNo:=hid (show ¬ ∃ r,Opens bs r from fun ⟨r,h⟩=>s1 (HS28.out.2 h.s1))
        clear s1
        refine region_last_d (D:=G) 16 (by kernel_rfl) (by kernel_rfl) (by kernel_rfl) y0 hy0 ?_
        simp only [List.take_succ_cons,List.take_zero,List.drop_succ_cons,List.drop_zero]
        repeat (go_big_quiet_step (first | (go_at_call 56;first | (with_reducible exact HC28.out _) | (with_reducible exact HC32.out _)) | (go_at_call 52;first | (with_reducible exact HS1.out _) | (with_reducible exact HS2.out _))))
        refine wpQuiet_nil ?_
        intro x
        go_wp2_with (go_at_call 55;refine (HMn.out _).mono ?_;rintro e w' ⟨rfl,rfl⟩)
        exact ⟨rfl,two hRs ((HBr.out.trans ((HG1.out x).mono hsr))),.inl ⟨HNo.out,rfl⟩⟩
      ·have g1b:((AT:Int) == (m:Int) - 40) = false:=by rw [beq_eq_false_iff_ne];omega
       have HNo:=hid (show ¬ ∃ r,Opens bs r from fun h=>g1 (by
        have h2:=(HN.out h).1
        have h4:=HE.out
        have h5:=Hl.out
        have h6:=hAT.out
        omega))
       go_wp2_with (go_at_call 55;refine (HMn.out _).mono ?_;rintro e w' ⟨rfl,rfl⟩)
       exact ⟨rfl,two hRs (HBr.out),.inl ⟨HNo.out,rfl⟩⟩
   ·have hse:((N36:Int) == (C36:Int)) = false:=by rw [beq_eq_false_iff_ne];omega
    have HN:=hid (show ¬ ∃ r,Opens bs r from fun ⟨r,h⟩=>hsm (HSum.out.2 h.sum))
    clear hsm
    refine region_last_d (D:=D) 13 (by kernel_rfl) (by kernel_rfl) (by kernel_rfl) x0 hx0 ?_
    simp only [List.take_succ_cons,List.take_zero,List.drop_succ_cons,List.drop_zero]
    repeat (go_big_quiet_step (first | (go_at_call 56;with_reducible exact HN36.out _) | (go_at_call 52;with_reducible exact HS36.out _)))
    refine wpQuiet_nil ?_
    intro x
    go_wp2_with (go_at_call 55;refine (HMn.out _).mono ?_;rintro e w' ⟨rfl,rfl⟩)
    exact ⟨rfl,two hRs ((HD1.out x)),.inl ⟨HN.out,rfl⟩⟩
  ·have hbe:(S4.toList == [84,66,76,49]) = false:=beq_eq_false_iff_ne.2 fun e=>hmg (by
    rw [ByteArray.toList_eq] at e
    obtain ⟨⟨S⟩⟩:=S4
    simp only at e
    rw [e])
   have HN:=hid (show ¬ ∃ r,Opens bs r from fun ⟨r,h⟩=>hmg (HMg2.out.1 (HMg.out.2 h.magic)))
   clear hmg
   refine region_last_d (D:=D) 13 (by kernel_rfl) (by kernel_rfl) (by kernel_rfl) x0 hx0 ?_
   simp only [List.take_succ_cons,List.take_zero,List.drop_succ_cons,List.drop_zero]
   repeat (go_big_quiet_step (fail))
   refine wpQuiet_nil ?_
   intro x
   go_wp2_with (go_at_call 55;refine (HMn.out _).mono ?_;rintro e w' ⟨rfl,rfl⟩)
   exact ⟨rfl,two hRs ((HD1.out x)),.inl ⟨HN.out,rfl⟩⟩
 ·have d0:decide ((40:Int) ≤ (m:Int)) = false:=by simp;omega
  have HN:=hid (show ¬ ∃ r,Opens bs r from fun ⟨r,h⟩=>h40 (hl ▸ h.len))
  clear hl
  go_wp2_with (go_at_call 55;refine (HMn.out _).mono ?_;rintro e w' ⟨rfl,rfl⟩)
  exact ⟨rfl,two hRs (Below.refl _ _),.inl ⟨HN.out,rfl⟩⟩
end Go.Proofs.Herb
namespace Go.Proofs.Herb
open Go.RowKit
set_option maxRecDepth 100000 in
set_option maxHeartbeats 1000000 in
theorem catch_panic (p:Addr) (x:Int) (w:World) (hc:w.cell? p = some (.int .i64 x)) (hz:w.frozen? p = false) :
  CallsD Tryz.prog 54 #[.pointer (some p)] (.panicking corrupt) w fun e u' w' =>
   e = .returned (.tuple #[]) ∧ u' = .panicking [{ v:=.iface 31 (.int .i64 13),recovered:=true }] ∧ w' = w.setCell p (.int .i64 13):=by
 unfold corrupt
 refine callsD_of_wpS Tryz.func54 rfl fun c₀ cs hu => ?_
 apply wpS_seq
 apply wpS_region
 simp [wpOpsS,go_sem,recoverD,hu,Tryz.ntmps54,Exit.thenS]
 refine wpS_of_wp ?_
 have hta:∀ w:World,(Instr.typeAssert (.iface 31 (.int .i64 13)) 20 31 true).run Tryz.prog w = .ok (.tuple #[.int .i64 13,.bool true]) w:=fun w=>by kernel_rfl
 have he:(#[Value.pointer (some p)] ++ (Array.replicate 10 undef).setIfInBounds 3 (Value.iface 31 (Value.int IntKind.i64 13))) = #[.pointer (some p),undef,undef,undef,.iface 31 (.int .i64 13),undef,undef,undef,undef,undef,undef]:=rfl
 rw [he]
 go_wp2
 simp [bodyPostS,results,Tryz.results54]
set_option maxRecDepth 100000 in
set_option maxHeartbeats 1000000 in
theorem catch_none (p:Addr) (w:World) :
  CallsD Tryz.prog 54 #[.pointer (some p)] .returning w fun e u' w' =>
   e = .returned (.tuple #[]) ∧ u' = .returning ∧ w' = w:=by
 refine callsD_of_wpS Tryz.func54 rfl fun c₀ cs hu => ?_
 apply wpS_seq
 apply wpS_region
 simp [wpOpsS,go_sem,recoverD,hu,Tryz.ntmps54,Exit.thenS]
 refine wpS_of_wp ?_
 have he:(#[Value.pointer (some p)] ++ (Array.replicate 10 undef).setIfInBounds 3 Value.nilIface) = #[.pointer (some p),undef,undef,undef,Value.nilIface,undef,undef,undef,undef,undef,undef]:=rfl
 rw [he]
 go_wp2
 cases c₀
 simp_all [bodyPostS,results,Tryz.results54]
def WholeP (bs:List UInt8) (b0 R:Nat) (w:World) (e:Ending) (w':World):Prop :=
 Below R w w' ∧ (((¬ ∃ r,Opens bs r) ∧ e = .returned (.int .i64 13)) ∨ ∃ r,Opens bs r ∧ e = .returned (.int .i64 0) ∧ ∀ W,Since b0 w' W → RdrAt W R r)
set_option maxRecDepth 100000 in
set_option maxHeartbeats 1000000 in
theorem whole_any (b0 R:Nat) (q:Option Addr) (m c:Nat) (bs:List UInt8) (w:World) (hl:bs.length = m) (hc:m ≤ c) (hcm:c ≤ maxLen) (hm:m ≤ 4194304) (hqn:q = none → c = 0) (hb0:b0 ≤ R) (hrd:∀ W:World,(∀ g,b0 ≤ g → g < R → W.heap[g]? = w.heap[g]?) → Rd W q (bs.map bv))
  (hR:w.heap[R]? = some (.cells (rdRow (.slice q m c) (.slice none 0 0) noProps (.slice none 0 0)) 62 (0,0))) :
  Calls Tryz.prog 22 #[.func (Fn.func 23) #[.pointer (some ⟨R,0,none⟩)] #[]] w (WholeP bs b0 R w):=by
 have hRs:R < w.heap.size:=lt_of_block hR
 have hb1:Below R w (w.alloc (.cells #[.int .i64 0] 31)):=(Below.refl _ _).alloc (Nat.le_of_lt hRs) _
 have HO:=hid (open_any b0 R q m c bs (w.alloc (.cells #[.int .i64 0] 31)) hl hc hcm hm hqn hb0 (fun W hW=>hrd W (fun g h1 h2=>(hW g h1 h2).trans (hb1.block g h2))) (by rw [heap_alloc_old _ _ hRs];exact hR))
 have HB1:=hid hb1
 have hmf:∀ (fn:Fn) (first cap:Array Value) (w:World),(Instr.makeFunc fn first cap).run Tryz.prog w = .ok (.func fn first cap) w:=fun _ _ _ _=>rfl
 clear hR hrd hl hqn hb1
 go_enter_defers Tryz.func22,Tryz.ntmps22
 go_wp2_with fail
 refine HO.out.mono ?_
 rintro e w2 ⟨hb2,hcase⟩
 have hs1:w.heap.size < (w.alloc (.cells #[.int .i64 0] 31)).heap.size:=by rw [World.size_alloc];omega
 have hx:w2.heap[w.heap.size]? = some (.cells #[.int .i64 0] 31 (0,0)):=by
  rw [hb2.2 _ hs1 (by omega)]
  exact heap_alloc_new w _
 have c0:w2.cell? ⟨w.heap.size,0,none⟩ = some (.int .i64 0):=by rw [cell_of_row _ _ _ _ _ _ hx];rfl
 have f0:w2.frozen? ⟨w.heap.size,0,none⟩ = false:=frozen_of_row _ _ _ _ _ hx
 have HB2:=hid (HB1.out.trans hb2.1)
 have Hx:=hid hx
 clear hb2 hx HO
 rcases hcase with ⟨hno,rfl⟩ | ⟨r,hr,rfl,hat⟩
 ·have HNo:=hid hno
  clear hno
  go_wp2
  refine leaves_cons (f:=54) (args := #[.pointer (some ⟨w.heap.size,0,none⟩)]) (by simp) (by simp [go_sem]) ?_
  refine (catch_panic ⟨w.heap.size,0,none⟩ 0 w2 c0 f0).mono ?_
  rintro e u' w'' ⟨rfl,rfl,rfl⟩
  have hx2:=Go.heap_setCell_same w2 w.heap.size 0 _ _ (.int .i64 13) Hx.out
  have c2:(w2.setCell ⟨w.heap.size,0,none⟩ (.int .i64 13)).cell? ⟨w.heap.size,0,none⟩ = some (.int .i64 13):=by rw [cell_of_row _ _ _ _ _ _ hx2];rfl
  simp [Leaves,settle,results,Tryz.results22,go_sem]
  rw [c2]
  exact ⟨_,rfl,HB2.out.setCell (p:=⟨w.heap.size,0,none⟩) (Nat.le_of_lt hRs) _,.inl ⟨HNo.out,rfl⟩⟩
 ·have HR:=hid hr
  have HAt:=hid hat
  clear hr hat
  go_wp2
  have hself:w2.setCell ⟨w.heap.size,0,none⟩ (.int .i64 0) = w2:=by
   rw [setCell_eq_setRow w2 w.heap.size 0 _ _ _ _ Hx.out]
   exact setRow_self w2 w.heap.size _ _ _ Hx.out
  rw [hself]
  refine leaves_cons (f:=54) (args := #[.pointer (some ⟨w.heap.size,0,none⟩)]) (by simp) (by simp [go_sem]) ?_
  refine (catch_none ⟨w.heap.size,0,none⟩ w2).mono ?_
  rintro e u' w'' ⟨rfl,rfl,rfl⟩
  simp [Leaves,settle,results,Tryz.results22,go_sem]
  rw [c0]
  exact ⟨_,rfl,HB2.out,.inr ⟨r,HR.out,rfl,HAt.out⟩⟩
def OpnP (bs:List UInt8) (b0:Nat) (w:World) (e:Ending) (w':World):Prop :=
 Below b0 w w' ∧ (((¬ ∃ r,Opens bs r) ∧ e = .returned (.tuple #[.pointer none,.int .i64 13])) ∨ ∃ r R,Opens bs r ∧ e = .returned (.tuple #[.pointer (some ⟨R,0,none⟩),.int .i64 0]) ∧ RdrAt w' R r)
def OpnP2 (bs:List UInt8) (b0:Nat) (w:World) (e:Ending) (w':World):Prop :=
 Below b0 w w' ∧ (((¬ ∃ r,Opens bs r) ∧ e = .returned (.tuple #[.pointer none,.int .i64 13])) ∨ ∃ r R,Opens bs r ∧ e = .returned (.tuple #[.pointer (some ⟨R,0,none⟩),.int .i64 0]) ∧ ∀ W,Since b0 w' W → RdrAt W R r)
set_option maxRecDepth 100000 in
set_option maxHeartbeats 1000000 in
theorem opn_any2 (q:Option Addr) (m c:Nat) (bs:List UInt8) (w:World) (hl:bs.length = m) (hc:m ≤ c) (hm:m ≤ 4194304) (hqn:q = none → c = 0) (hr:Rd w q (bs.map bv)) :
  Calls Tryz.prog 6 #[.slice q m c] w (OpnP2 bs w.heap.size w):=by
 have HC:=hid (clone_bytes q m c bs w hl hc hm hr hqn)
 have hmf:∀ (fn:Fn) (first cap:Array Value) (w:World),(Instr.makeFunc fn first cap).run Tryz.prog w = .ok (.func fn first cap) w:=fun _ _ _ _=>rfl
 have Hl:=hid hl
 clear hl hr hqn
 go_enter Tryz.func6,Tryz.ntmps6
 go_upto_region 1 with (fail)
 go_wp2_with fail
 refine HC.out.mono ?_
 rintro e w1 ⟨v,rfl,hfr,hb⟩
 obtain ⟨q1,c1,rfl,hc1,hcm1,hrd1,hn1⟩:=hfr.shape
 have HFr:=hid hfr
 have HB:=hid hb
 clear HC
 go_upto_region 2 with (fail)
 obtain ⟨R,hRe⟩:∃ R,R = w1.heap.size:=⟨_,rfl⟩
 obtain ⟨W,hW⟩:∃ W,W = w1.alloc (.cells (rdRow (.slice q1 m c1) (.slice none 0 0) noProps (.slice none 0 0)) 62):=⟨_,rfl⟩
 have hX:W.heap[R]? = some (.cells (rdRow (.slice q1 m c1) (.slice none 0 0) noProps (.slice none 0 0)) 62 (0,0)):=by rw [hW,hRe];exact heap_alloc_new w1 _
 have hBW:Below w1.heap.size w1 W:=by rw [hW];exact (Below.refl _ _).alloc (Nat.le_refl _) _
 have HWh:=hid (whole_any w.heap.size R q1 m c1 bs W Hl.out hc1 hcm1 hm (fun e=>(hn1 e).2) (by rw [hRe];exact hb.size) (fun V hV=>by
  have h:=hfr.kept (w':=V) fun g hg hgl=>(hV g hg (by rw [hRe];exact hgl)).trans (hBW.block g hgl)
  obtain ⟨a,c',h1,h2,h3,h4,h5⟩:=h.shape
  cases h1
  exact h4) hX)
 have HBW:=hid (HB.out.trans (hBW.mono HB.out.size))
 have HRe:=hid (show w.heap.size ≤ R by rw [hRe];exact HB.out.size)
 have HRs:=hid (show R ≤ W.heap.size from Nat.le_of_lt (lt_of_block hX))
 rw [show (Obj.cells #[Value.slice q1 m c1,Value.slice none 0 0,Value.int IntKind.u64 0,Value.int IntKind.u64 0,Value.string { data := #[] },Value.string { data := #[] },Value.int IntKind.u64 0,Value.int IntKind.u64 0,Value.int IntKind.u32 0,Value.int IntKind.u32 0,Value.slice none 0 0] 62:Obj) = Obj.cells (rdRow (.slice q1 m c1) (.slice none 0 0) noProps (.slice none 0 0)) 62 from rfl,← hW,← hRe]
 clear hX hBW hrd1 hW hRe hn1 hfr hb
 go_wp2_with fail
 refine HWh.out.mono ?_
 rintro e w2 ⟨hb2,hcase⟩
 have HB2:=hid (HBW.out.trans (hb2.mono HRe.out))
 clear hb2 HWh
 rcases hcase with ⟨hno,rfl⟩ | ⟨r,hr,rfl,hat⟩
 ·have HNo:=hid hno
  clear hno
  go_wp2
  go_ret2
  exact ⟨HB2.out,.inl ⟨HNo.out,rfl⟩⟩
 ·have HR:=hid hr
  have HAt:=hid hat
  clear hr hat
  go_wp2
  go_ret2
  exact ⟨HB2.out,.inr ⟨r,R,HR.out,rfl,HAt.out⟩⟩
theorem opn_any (q:Option Addr) (m c:Nat) (bs:List UInt8) (w:World) (hl:bs.length = m) (hc:m ≤ c) (hm:m ≤ 4194304) (hqn:q = none → c = 0) (hr:Rd w q (bs.map bv)) :
  Calls Tryz.prog 6 #[.slice q m c] w (OpnP bs w.heap.size w):=by
 refine (opn_any2 q m c bs w hl hc hm hqn hr).mono ?_
 rintro e w' ⟨h1,h2⟩
 refine ⟨h1, ?_⟩
 rcases h2 with h | ⟨r,R,a,b,d⟩
 ·exact .inl h
 ·exact .inr ⟨r,R,a,b,d w' (Since.refl _ _)⟩
end Go.Proofs.Herb
namespace Go.Proofs.Herb
open Go.RowKit
theorem there_at (R:Nat) (b f:Value) (p:Props) (kq:Option Addr) (n kc:Nat) (w:World) (_hn:n ≤ 4611686018427387904) (hR:w.heap[R]? = some (.cells (rdRow b f p (.slice kq n kc)) 62 (0,0))) :
  Calls Tryz.prog 33 #[.pointer (some ⟨R,0,none⟩)] w fun e w'=>e = .returned (.bool (decide (0 < n))) ∧ w = w':=by
 have c10:w.cell? ⟨R,10,none⟩ = some (.slice kq n kc):=by rw [cell_of_row _ _ _ _ _ _ hR];rfl
 clear hR
 go_enter Tryz.func33,Tryz.ntmps33
 go_wp2
 go_ret
 refine ⟨?_,rfl⟩
 simp
def NoRdr (w:World) (q:Option Addr):Prop:=q = none ∨ ∃ R b f p kq kc,q = some ⟨R,0,none⟩ ∧ w.heap[R]? = some (.cells (rdRow b f p (.slice kq 0 kc)) 62 (0,0))
theorem NoRdr.below {w w':World} {q:Option Addr} (h:NoRdr w q) (hb:Below w.heap.size w w'):NoRdr w' q:=by
 rcases h with h | ⟨R,b,f,p,kq,kc,h1,h2⟩
 ·exact .inl h
 ·exact .inr ⟨R,b,f,p,kq,kc,h1,(hb.block _ (lt_of_block h2)).trans h2⟩
theorem there_yes {R:Nat} {r:Rdr} {w:World} (h:RdrAt w R r) (hn:0 < r.chunks.length) (hm:r.chunks.length ≤ 4611686018427387904):Calls Tryz.prog 33 #[.pointer (some ⟨R,0,none⟩)] w fun e w'=>e = .returned (.bool true) ∧ w = w':=by
 obtain ⟨q,c,fq,fc,kq,kc,h1, -⟩:=h.ex
 have h2:=there_at R _ _ _ kq r.chunks.length kc w hm h1
 rw [show decide (0 < r.chunks.length) = true by simpa using hn] at h2
 exact h2
set_option maxRecDepth 100000 in
set_option maxHeartbeats 1000000 in
theorem props_yes {R:Nat} {r:Rdr} {w:World} (h:RdrAt w R r) (hn:0 < r.chunks.length) (hm:r.chunks.length ≤ 4611686018427387904):Calls Tryz.prog 15 #[.pointer (some ⟨R,0,none⟩)] w fun e w'=>e = .returned (.agg r.props.cells.toArray) ∧ Below w.heap.size w w':=by
 obtain ⟨w1,hw1⟩:∃ W,W = w.alloc (.cells noProps.cells.toArray 49):=⟨_,rfl⟩
 have HB1:=hid (show Below w.heap.size w w1 by rw [hw1];exact (Below.refl _ _).alloc (Nat.le_refl _) _)
 have hat:=h.below HB1.out
 have HT:=hid (there_yes hat hn hm)
 obtain ⟨q,c,fq,fc,kq,kc,h1, -⟩:=hat.ex
 have hrd:∀ (j:Nat) (u:Value),r.props.cells[j]? = some u → w1.cell? ⟨R,2 + j,none⟩ = some u:=fun j u hu=>by
  rw [cell_of_row _ _ _ _ _ _ h1]
  have hj:j < 8:=(List.getElem?_eq_some_iff.1 hu).1
  match j,hj,hu with
  | 0,_,hu=>exact hu
  | 1,_,hu=>exact hu
  | 2,_,hu=>exact hu
  | 3,_,hu=>exact hu
  | 4,_,hu=>exact hu
  | 5,_,hu=>exact hu
  | 6,_,hu=>exact hu
  | 7,_,hu=>exact hu
 have HRd:=hid hrd
 have hX:w1.heap[w.heap.size]? = some (.cells noProps.cells.toArray 49 (0,0)):=by rw [hw1];exact heap_alloc_new w _
 have HX:=hid hX
 have HW1:=hid hw1
 clear hw1 hX h hat h1 hrd hn hm
 go_enter Tryz.func15,Tryz.ntmps15
 go_upto_region 1 with (fail)
 rw [show (Obj.cells #[Value.int IntKind.u64 0,Value.int IntKind.u64 0,Value.string { data := #[] },Value.string { data := #[] },Value.int IntKind.u64 0,Value.int IntKind.u64 0,Value.int IntKind.u32 0,Value.int IntKind.u32 0] 49:Obj) = Obj.cells noProps.cells.toArray 49 from rfl,← HW1.out]
 go_wp2_with (first | (go_at_call 33;refine HT.out.mono ?_;rintro e w' ⟨rfl,rfl⟩) | (refine wpList_load_rd rfl 49 (.tmp 9) rfl R 2 rfl r.props.cells _ HRd.out Tryz.underlying49 rfl infoProps8 ?_) | (refine wpList_store_block rfl 49 (.tmp 2) (.tmp 10) rfl w.heap.size _ _ r.props.cells.toArray rfl rfl HX.out rfl infoProps8 (props_cells8 _).2 ?_))
 refine bodyPost_ret (results_cell_row rfl _ _ w.heap.size 49 r.props.cells.toArray (0,0) _ rfl (setRow_heap _ _ _ _ _ _ HX.out) Tryz.underlying49 rfl infoProps8) rfl ?_
 exact ⟨rfl,below_setRow HB1.out (Nat.le_refl _) _⟩
theorem toList_injE {a b:ByteArray} (h:a.toList = b.toList):a.data.toList = b.data.toList:=by
 rw [ByteArray.toList_eq,ByteArray.toList_eq] at h
 exact h
theorem le_trueS {a b:ByteArray} (h:bL b.data.toList a.data.toList = false):(Op.bytesLess a.toList b.toList || a.toList == b.toList) = true:=by
 rw [ByteArray.toList_eq,ByteArray.toList_eq,Bool.or_eq_true]
 by_cases e:a.data.toList = b.data.toList
 ·exact .inr (by rw [e];exact beq_self_eq_true _)
 ·exact .inl (bl_total h (fun h=>e h.symm))
theorem le_falseS {a b:ByteArray} (h:bL b.data.toList a.data.toList = true):(Op.bytesLess a.toList b.toList || a.toList == b.toList) = false:=by
 rw [ByteArray.toList_eq,ByteArray.toList_eq,Bool.or_eq_false_iff]
 refine ⟨?_, ?_⟩
 ·cases h2:Op.bytesLess a.data.toList b.data.toList with
  | false=>rfl
  | true=>exact absurd (h2.symm.trans (bl_asymm h)) (by decide)
 ·rw [beq_eq_false_iff_ne]
  intro e
  rw [e] at h
  exact absurd h (by rw [bl_irrefl];decide)
theorem ge_true {a b:ByteArray} (h:bL a.data.toList b.data.toList = false):(Op.bytesLess b.toList a.toList || b.toList == a.toList) = true:=le_trueS h
theorem ge_false {a b:ByteArray} (h:bL a.data.toList b.data.toList = true):(Op.bytesLess b.toList a.toList || b.toList == a.toList) = false:=le_falseS h
def hasR (r:Rdr) (k:ByteArray):Bool:=(decide (0 < r.chunks.length) && !bL k.data.toList r.props.low.data.toList && !bL r.props.high.data.toList k.data.toList) && hasF r.filter k.data.toList
set_option maxRecDepth 100000 in
set_option maxHeartbeats 1000000 in
theorem has_yes {R:Nat} {r:Rdr} {w:World} (k:ByteArray) (hk:k.size ≤ 1000000) (h:RdrAt w R r) (hn:0 < r.chunks.length) (hm:r.chunks.length ≤ 4611686018427387904) (hf:r.filter.length ≤ 100000) :
  Calls Tryz.prog 16 #[.pointer (some ⟨R,0,none⟩),.string k] w fun e w'=>e = .returned (.bool (hasR r k)) ∧ Below w.heap.size w w':=by
 have HT:=hid (there_yes h hn hm)
 obtain ⟨q,c,fq,fc,kq,kc,h1, -, -, -, -, -, -,hfr, -⟩:=h.ex
 have HF:=hid (has_any fq r.filter.length fc r.filter k w rfl hf hk hfr)
 have c1:w.cell? ⟨R,1,none⟩ = some (.slice fq r.filter.length fc):=by rw [cell_of_row _ _ _ _ _ _ h1];rfl
 have c4:w.cell? ⟨R,4,none⟩ = some (.string r.props.low):=by rw [cell_of_row _ _ _ _ _ _ h1];rfl
 have c5:w.cell? ⟨R,5,none⟩ = some (.string r.props.high):=by rw [cell_of_row _ _ _ _ _ _ h1];rfl
 have hn':decide (0 < r.chunks.length) = true:=by simpa using hn
 have hA:hasR r k = ((!bL k.data.toList r.props.low.data.toList && !bL r.props.high.data.toList k.data.toList) && hasF r.filter k.data.toList):=by unfold hasR;rw [hn'];simp
 rw [hA]
 obtain ⟨N,hN⟩:∃ N,N = r.filter.length:=⟨_,rfl⟩
 obtain ⟨lo,hlo⟩:∃ s,s = r.props.low:=⟨_,rfl⟩
 obtain ⟨hi,hhi⟩:∃ s,s = r.props.high:=⟨_,rfl⟩
 rw [← hlo] at c4 ⊢
 rw [← hhi] at c5 ⊢
 rw [← hN] at c1 HF
 clear h h1 hfr hn' hA hn hm hf hN hlo hhi
 go_enter Tryz.func16,Tryz.ntmps16
 cases e1:bL k.data.toList lo.data.toList with
 | true =>
  have g1:Op.bytesLess k.toList lo.toList = true:=by rw [ByteArray.toList_eq,ByteArray.toList_eq];exact e1
  have E1:=hid e1
  clear e1
  go_wp2_with (go_at_call 33;refine HT.out.mono ?_;rintro e w' ⟨rfl,rfl⟩)
  go_ret
  exact ⟨rfl,Below.refl _ _⟩
 | false =>
  have g1:Op.bytesLess k.toList lo.toList = false:=by rw [ByteArray.toList_eq,ByteArray.toList_eq];exact e1
  have E1:=hid e1
  clear e1
  cases e2:bL hi.data.toList k.data.toList with
  | true =>
   have g2:=le_falseS e2
   have E2:=hid e2
   clear e2
   go_wp2_with (go_at_call 33;refine HT.out.mono ?_;rintro e w' ⟨rfl,rfl⟩)
   go_ret
   exact ⟨rfl,Below.refl _ _⟩
  | false =>
   have g2:=le_trueS e2
   have E2:=hid e2
   clear e2
   go_wp2_with (first | (go_at_call 33;refine HT.out.mono ?_;rintro e w' ⟨rfl,rfl⟩) | (go_at_call 41;refine HF.out.mono ?_;rintro e w' ⟨rfl,hb'⟩))
   go_ret
   exact ⟨by simp,hb'⟩
end Go.Proofs.Herb
namespace Go.Proofs.Herb
open Go.RowKit
def FctP (r:Rdr) (c:Chk) (b0:Nat) (w:World) (e:Ending) (w':World):Prop :=
 Below b0 w w' ∧ (((¬ ∃ fs,ChkOf r c fs) ∧ e = .returned (.tuple #[.slice none 0 0,.bool false])) ∨
  ∃ fs,ChkOf r c fs ∧ ∃ q,e = .returned (.tuple #[.slice q fs.length fs.length,.bool true]) ∧ w'.ownsRow b0 27 6 (.slice q fs.length fs.length) fs.length (fCells fs))
theorem last_get {l:List Item} (h:0 < l.length):lastKey l = (l[l.length - 1]'(by omega)).key:=by
 unfold lastKey
 rw [List.getLast?_eq_getElem?,List.getElem?_eq_getElem (by omega)]
 rfl
theorem infoFact6:(Tryz.prog.info? 27).map (fun i=>(i.zero,i.size,i.bytes)) = some (some (.agg zFact.cells.toArray),6,64):=by kernel_rfl
theorem cell_else (w:World) {g i b k:Nat} (v:Value) (h:b ≠ g):(w.setCell ⟨g,i,none⟩ v).cell? ⟨b,k,none⟩ = w.cell? ⟨b,k,none⟩:=by
 have e:=heap_setCell_other w ⟨g,i,none⟩ b v h
 unfold World.cell?
 simp only [e]
theorem set6a (D rest:List Value) (a0 a1 a2 a3 a4 a5 x:Value) (n:Nat) (hn:D.length = n):(D ++ [a0,a1,a2,a3,a4,a5] ++ rest).set (n + 3) x = D ++ [a0,a1,a2,x,a4,a5] ++ rest:=by
 subst hn
 rw [List.append_assoc,List.set_append_right _ _ (by omega),List.append_assoc]
 congr 1
 rw [show D.length + 3 - D.length = 3 from by omega]
 rfl
theorem set6b (D rest:List Value) (a0 a1 a2 a3 a4 a5 x:Value) (n:Nat) (hn:D.length = n):(D ++ [a0,a1,a2,a3,a4,a5] ++ rest).set (n + 5) x = D ++ [a0,a1,a2,a3,a4,x] ++ rest:=by
 subst hn
 rw [List.append_assoc,List.set_append_right _ _ (by omega),List.append_assoc]
 congr 1
 rw [show D.length + 5 - D.length = 5 from by omega]
 rfl
theorem row_put {cur:Array Value} {done:List Fact} {k N:Nat} (hd:done.length = k) (hk:k < N) (hs:cur.size = N * 6) (ht:cur.toList.take (k * 6) = fCells done) (f:Fact) (ln:Nat) (v:ByteArray) :
  ((((cur.toList.take (k * 6) ++ f.cells ++ cur.toList.drop (k * 6 + f.cells.toArray.size)).toArray).setIfInBounds (k * 6 + 3) (.int .u64 (ln:Int))).setIfInBounds (k * 6 + 5) (.string v)).size = N * 6 ∧
  ((((cur.toList.take (k * 6) ++ f.cells ++ cur.toList.drop (k * 6 + f.cells.toArray.size)).toArray).setIfInBounds (k * 6 + 3) (.int .u64 (ln:Int))).setIfInBounds (k * 6 + 5) (.string v)).toList.take ((k + 1) * 6) = fCells (done ++ [⟨f.key,f.valid,f.seq,ln,f.kind,v⟩]):=by
 have hl:(fCells done).length = k * 6:=by rw [fCells_len,hd]
 rw [ht]
 have e1:f.cells.toArray.size = 6:=rfl
 rw [e1]
 refine ⟨?_, ?_⟩
 ·simp only [Array.size_setIfInBounds,List.size_toArray,List.length_append,hl,List.length_drop,Array.length_toList,hs]
  have:f.cells.length = 6:=rfl
  omega
 ·simp only [Array.toList_setIfInBounds]
  rw [show f.cells = [.string f.key,.int .u32 (f.valid:Int),.int .u64 (f.seq:Int),.int .u64 (f.line:Int),.int .u8 (f.kind:Int),.string f.val] from rfl,set6a _ _ _ _ _ _ _ _ _ _ hl,set6b _ _ _ _ _ _ _ _ _ _ hl,List.take_append_of_le_length (by simp [hl];omega),fCells_append]
  rw [List.take_of_length_le (by simp [hl];omega)]
  simp [fCells,Fact.cells]
theorem item_step {line:Nat} {l:List Item} {k:Nat} {K V:ByteArray} (h:l.drop k = ⟨K,V⟩ :: l.drop (k + 1)) (done:List Fact) (hI:allSome (l.map (itemF? line)) = (allSome ((l.drop k).map (itemF? line))).map (fun x=>done ++ x)) :
  (kgetF K.data.toList = none → allSome (l.map (itemF? line)) = none) ∧ ∀ f,kgetF K.data.toList = some f → allSome (l.map (itemF? line)) = (allSome ((l.drop (k + 1)).map (itemF? line))).map (fun x=>(done ++ [⟨f.key,f.valid,f.seq,line,f.kind,V⟩]) ++ x):=by
 rw [h,List.map_cons] at hI
 refine ⟨fun hn => ?_,fun f hf => ?_⟩
 ·have e:itemF? line ⟨K,V⟩ = none:=by unfold itemF?;dsimp only;rw [hn];rfl
  rw [hI,e,allSome]
  rfl
 ·have e:itemF? line ⟨K,V⟩ = some ⟨f.key,f.valid,f.seq,line,f.kind,V⟩:=by unfold itemF?;dsimp only;rw [hf];rfl
  rw [hI,e,allSome]
  cases allSome ((l.drop (k + 1)).map (itemF? line)) <;> simp
set_option maxRecDepth 100000 in
set_option maxHeartbeats 4000000 in
theorem facts_any (R:Nat) (r:Rdr) (c:Chk) (w:World) (hat:RdrAt w R r) (hb:c.beg < c.fin) (hf:c.fin ≤ r.b.length) (hm:r.b.length ≤ 4194304) :
  Calls Tryz.prog 34 #[.pointer (some ⟨R,0,none⟩),.agg #[.string c.last,.int .i64 (c.beg:Int),.int .i64 (c.fin:Int)]] w (FctP r c w.heap.size w):=by
 obtain ⟨q,cp,fq,fc,kq,kc,hrow,hbc,hcm,hrd, -, -⟩:=hat.ex
 obtain ⟨w1,hw1⟩:∃ W,W = w.alloc (.cells #[.string c.last,.int .i64 (c.beg:Int),.int .i64 (c.fin:Int)] 79):=⟨_,rfl⟩
 have hB1:Below w.heap.size w w1:=by rw [hw1];exact (Below.refl _ _).alloc (Nat.le_refl _) _
 have hX:w1.heap[w.heap.size]? = some (.cells #[.string c.last,.int .i64 (c.beg:Int),.int .i64 (c.fin:Int)] 79 (0,0)):=by rw [hw1];exact heap_alloc_new w _
 have hrow1:=(hB1.block _ (lt_of_block hrow)).trans hrow
 have hRw:R < w.heap.size:=lt_of_block hrow
 have HB1:=hid hB1
 have HX:=hid hX
 have HW1:=hid hw1
 have HRd:=hid (hrd.below hB1)
 have HRow1:=hid hrow1
 have hs1:=hB1.size
 obtain ⟨T,hT⟩:∃ n,n = w.heap.size:=⟨_,rfl⟩
 rw [← hT] at HX
 have HT:=hid hT
 clear hw1 hX hat hrow hrd hB1 hrow1 hT
 obtain ⟨bs,hbs⟩:∃ b,Hid (b = (r.b.drop c.beg).take (c.fin - c.beg)):=⟨_,hid rfl⟩
 have hbl:bs.length = c.fin - c.beg:=by rw [hbs.out,List.length_take,List.length_drop];omega
 have hsl:∃ q',(∀ W:World,(Instr.slice 22 (.slice q r.b.length cp) (some (.int .i64 (c.beg:Int))) (some (.int .i64 (c.fin:Int))) none).run Tryz.prog W = .ok (.slice q' (c.fin - c.beg) (cp - c.beg)) W) ∧ ∀ W,Rd W q (r.b.map bv) → Rd W q' (bs.map bv):=by
  obtain ⟨b,o,rfl, -⟩:=HRd.out.cell (k:=0) (by rw [List.length_map];omega)
  refine ⟨some ⟨b,if cp = c.beg then o else o + c.beg,none⟩,fun W => ?_,fun W hW => ?_⟩
  ·have h:=slice_mid b o r.b.length cp c.beg (c.fin - c.beg) W (by omega)
   rw [show (c.beg:Int) + ((c.fin - c.beg:Nat):Int) = (c.fin:Int) from by omega] at h
   exact h
  ·rw [hbs.out]
   exact rd_mid rfl hbc hW
 obtain ⟨q',hsl,hrq⟩:=hsl
 have HRq:=hid (hrq _ HRd.out)
 obtain ⟨L,hL⟩:∃ L,L = c.fin - c.beg:=⟨_,rfl⟩
 obtain ⟨CL,hCL⟩:∃ L,L = cp - c.beg:=⟨_,rfl⟩
 rw [← hL] at hsl hbl
 rw [← hCL] at hsl
 have hLC:L ≤ CL:=by omega
 have hCm:CL ≤ maxLen:=by omega
 have hLm:L ≤ 4194304:=by omega
 obtain ⟨lst,hlst⟩:∃ s,s = c.last:=⟨_,rfl⟩
 obtain ⟨fr,hfr⟩:∃ s,s = c.beg:=⟨_,rfl⟩
 obtain ⟨en,hen⟩:∃ s,s = c.fin:=⟨_,rfl⟩
 obtain ⟨M,hM⟩:∃ s,s = r.b.length:=⟨_,rfl⟩
 have HLst:=hid hlst
 rw [← hlst,← hfr,← hen] at HX HW1 ⊢
 rw [← hfr,← hen,← hM] at hsl
 rw [← hM] at HRow1
 clear hL hCL hrq hfr hen hM hlst
 have HBl:=hid hbl
 clear hbl hb hf hm hbc hcm
 go_enter Tryz.func34,Tryz.ntmps34
 go_upto_region 1 with (fail)
 rw [← HW1.out,← HT.out]
 obtain ⟨TD,D,hD1,hD2⟩:=class_d w1
 have cb:∀ x,(D x).cell? ⟨R,0,none⟩ = some (.slice q M cp):=fun x=>by rw [cell_of_row _ _ _ _ _ _ (((hD1 x).block _ (lt_of_block HRow1.out)).trans HRow1.out)];rfl
 have c1:∀ x,(D x).cell? ⟨T,1,none⟩ = some (.int .i64 (fr:Int)):=fun x=>by rw [cell_of_row _ _ _ _ _ _ (((hD1 x).block _ (lt_of_block HX.out)).trans HX.out)];rfl
 have c2:∀ x,(D x).cell? ⟨T,2,none⟩ = some (.int .i64 (en:Int)):=fun x=>by rw [cell_of_row _ _ _ _ _ _ (((hD1 x).block _ (lt_of_block HX.out)).trans HX.out)];rfl
 obtain ⟨x0,hx0⟩:=hD2 { w1 with drawn:=w1.drawn + 1 } (Below.refl _ _).drew
 haveI:Nonempty TD:=⟨x0⟩
 have HD1:=hid hD1
 clear hD1 hD2
 refine region_mid_d (D:=D) 9 2 (by kernel_rfl) (by kernel_rfl) (by kernel_rfl) x0 hx0 ?_
 simp only [List.take_succ_cons,List.take_zero,List.drop_succ_cons,List.drop_zero]
 repeat (go_big_quiet_step (fail))
 refine wpQuiet_nil ?_
 intro x
 obtain ⟨w2,hw2⟩:∃ y,y = D x:=⟨_,rfl⟩
 rw [← hw2]
 have HB12:=hid (show Below w1.heap.size w1 w2 from hw2 ▸ HD1.out x)
 have HG:=hid (bget_any q' L CL bs w2 HBl.out hLC hCm hLm (HRq.out.below HB12.out))
 have hs2:=HB12.out.size
 clear cb c1 c2 hx0 hw2 HD1
 go_wp2_with fail
 refine HG.out.mono ?_
 rintro e w3 ⟨hb3,hcase⟩
 have HB13:=hid (HB12.out.trans (hb3.mono hs2))
 have HB3:=hid (HB1.out.trans (HB13.out.mono hs1))
 have HR3:=hid ((HB13.out.block _ (lt_of_block HRow1.out)).trans HRow1.out)
 have HX3:=hid ((HB13.out.block _ (lt_of_block HX.out)).trans HX.out)
 clear hb3 HG
 rcases hcase with ⟨hno,er,her,rfl⟩ | ⟨l,hbl,q3,rfl,hr3⟩
 ·have he:(er != 0) = true:=by rw [bne_iff_ne];exact her
  have HN:=hid (show ¬ ∃ fs,ChkOf r c fs from fun ⟨fs,l,h1,_⟩=>hno ⟨l,by rw [hbs.out];exact h1⟩)
  clear hno her
  go_wp2
  rw [headQ_normal]
  repeat (go_big_quiet_step (fail))
  refine wpQuiet_nil ?_
  go_wp2_with (go_quiet (fail))
  go_ret2
  exact ⟨below_drewN HB3.out nq,.inl ⟨HN.out,rfl⟩⟩
 ·have HBk:=hid hbl
  have HR33:=hid hr3
  have hll:=blk_short hbl
  have hl0:0 < l.length:=hbl.1.1
  obtain ⟨N,hN⟩:∃ N,Hid (N = l.length):=⟨_,hid rfl⟩
  obtain ⟨b3,o3,rfl, -,it0, -⟩:=item_at hr3 (j:=l.length - 1) (by omega)
  rw [← last_get hl0,← hN.out] at it0
  rw [← hN.out] at hl0 hll ⊢
  obtain ⟨lk,hlk⟩:∃ s,Hid (s = lastKey l):=⟨_,hid rfl⟩
  rw [← hlk.out] at it0
  have HItm:=hid (show ∀ x ∈ l,x.key.size ≤ 65536 ∧ x.val.size ≤ 65536 from blk_sizes hbl)
  clear hbl hr3
  go_wp2
  rw [headQ_normal]
  repeat (go_big_quiet_step (fail))
  refine wpQuiet_nil ?_
  obtain ⟨J,hJ⟩:∃ J,J = N - 1:=⟨_,rfl⟩
  have hJN:J < N:=by omega
  have hJi:(N:Int) - 1 = (J:Int):=by omega
  have HJi:=hid hJi
  rw [← hJ] at it0
  have ct:w3.cell? ⟨T,0,none⟩ = some (.string lst):=by rw [cell_of_row _ _ _ _ _ _ HX3.out];rfl
  clear hJ
  have HLN:=hid hll.2
  have hN65:=hll.2
  clear hll
  by_cases hk:lk = lst
  ·have hke:(lk.toList == lst.toList) = true:=by rw [hk];simp
   have HK:=hid hk
   clear hk
   go_upto_region 2 with (fail)
   go_quiet (fail)
   obtain ⟨W4,hW4⟩:∃ W,W = w3.drewN nq:=⟨_,rfl⟩
   have HB34:=hid (show Below w3.heap.size w3 W4 by rw [hW4];exact below_drewN (Below.refl _ _) nq)
   rw [← hW4]
   have hmk:=run_make_len (P:=Tryz.prog) 38 27 (.agg zFact.cells.toArray) 6 64 Tryz.underlying38 infoFact6 (N:Int) N rfl (by omega) (by omega) W4
   obtain ⟨Z,hZ⟩:∃ Z,Z = madeCells (Value.agg zFact.cells.toArray).cells (N * 6):=⟨_,rfl⟩
   have hZs:Z.size = N * 6:=by rw [hZ];simp [madeCells]
   obtain ⟨O,hO⟩:∃ O,O = W4.heap.size:=⟨_,rfl⟩
   rw [← hZ,← hO] at hmk
   obtain ⟨W5,hW5⟩:∃ W,W = W4.alloc (.cells Z 27):=⟨_,rfl⟩
   have HB45:=hid (show Below W4.heap.size W4 W5 by rw [hW5];exact (Below.refl _ _).alloc (Nat.le_refl _) _)
   have hXO:W5.heap[O]? = some (.cells Z 27 (0,0)):=by rw [hW5,hO];exact heap_alloc_new W4 _
   rw [← hW5] at hmk
   have hs3:=HB3.out.size
   have hs34:=HB34.out.size
   have hs45:=HB45.out.size
   have HB35:=hid (HB34.out.trans (HB45.out.mono hs34))
   have HB5:=hid (HB3.out.trans (HB35.out.mono hs3))
   have hOw:w.heap.size ≤ O:=by rw [hO];omega
   have hO3:w3.heap.size ≤ O:=by rw [hO];omega
   have HXO:=hid hXO
   have HZs:=hid hZs
   clear hW4 hW5 hO hZ hXO hZs ct it0 hke
   go_wp2
   go_loopw [43] (fun i wr=>∃ (k:Nat) (done:List Fact) (cur:Array Value),k ≤ N ∧ i = .int .i64 (k:Int) ∧ done.length = k ∧ wr.heap[O]? = some (.cells cur 27 (0,0)) ∧ cur.size = N * 6 ∧ cur.toList.take (k * 6) = fCells done ∧ Below O W5 wr ∧
    allSome (l.map (itemF? r.props.line)) = (allSome ((l.drop k).map (itemF? r.props.line))).map (fun x=>done ++ x)) (fun i _=>N - (intOf i).toNat)
   case atStart=>exact ⟨0,[],Z,Nat.zero_le _,rfl,rfl,HXO.out,HZs.out,by simp [fCells],Below.refl _ _,by rw [List.drop_zero];cases allSome (l.map (itemF? r.props.line)) <;> rfl⟩
   case round =>
    obtain ⟨k,done,cur,hk,rfl,hdl,hcur,hcs,hct,hbr,hI⟩:=hrel
    have HCur:=hid hcur
    have HCs:=hid hcs
    have HCt:=hid hct
    have HBr:=hid hbr
    have HI:=hid hI
    have HDl:=hid hdl
    have hOr:O < wr.heap.size:=lt_of_block hcur
    clear hcur hcs hct hbr hI hdl
    by_cases hlt:k < N
    ·have hlt2:k < l.length:=by rw [← hN.out];exact hlt
     obtain ⟨K,V,hKV⟩:∃ K V,l[k] = ⟨K,V⟩:=⟨_,_,rfl⟩
     have hdr:l.drop k = ⟨K,V⟩ :: l.drop (k + 1):=by rw [List.drop_eq_getElem_cons hlt2,hKV]
     have hsz:=HItm.out l[k] (List.getElem_mem hlt2)
     rw [hKV] at hsz
     have hK65:K.size ≤ 65536:=hsz.1
     have HSt:=hid (item_step hdr done HI.out)
     have HBr3:=hid (show Below w3.heap.size w3 wr from HB35.out.trans (HBr.out.mono hO3))
     obtain ⟨b1,o1,e1,hb1l,ic0,ic1⟩:=item_at (HR33.out.below HBr3.out) hlt2
     cases e1
     rw [hKV] at ic0 ic1
     dsimp only at ic0 ic1
     obtain ⟨Wa,hWa⟩:∃ W,W = wr.alloc (.cells #[.string K,.string V] 100):=⟨_,rfl⟩
     obtain ⟨IB,hIB⟩:∃ n,n = wr.heap.size:=⟨_,rfl⟩
     have hBa:Below wr.heap.size wr Wa:=by rw [hWa];exact (Below.refl _ _).alloc (Nat.le_refl _) _
     have hXa:Wa.heap[IB]? = some (.cells #[.string K,.string V] 100 (0,0)):=by rw [hWa,hIB];exact heap_alloc_new wr _
     obtain ⟨c3,Wb,cv,rdb,hbb,hcb⟩:=convS Wa K
     have da:Wa.cell? ⟨IB,0,none⟩ = some (.string K):=by rw [cell_of_row _ _ _ _ _ _ hXa];rfl
     have HKg:=hid (kget_any (some ⟨Wa.heap.size,0,none⟩) K.size c3 K.data.toList Wb (size_toList K) (by omega) hcb rdb)
     have HBa:=hid hBa
     have HXa:=hid hXa
     have HWa:=hid hWa
     have HBab:=hid hbb
     have hsa:=hBa.size
     have hsb:=hbb.size
     have hIBw:O < IB:=by rw [hIB];exact hOr
     have HIB:=hid hIB
     clear hWa hIB hBa hXa rdb hbb hdr hKV hsz
     go_upto_region 8 with (fail)
     rw [← HWa.out,← HIB.out]
     go_wp2_with fail
     refine HKg.out.mono ?_
     rintro e Wc ⟨hbc,hcase⟩
     have HBc:=hid (show Below wr.heap.size wr Wc from HBa.out.trans ((HBab.out.trans (hbc.mono hsb)).mono hsa))
     have HBac:=hid (show Below Wa.heap.size Wa Wc from HBab.out.trans (hbc.mono hsb))
     have hsr:=HBr.out.size
     have HRc:=hid ((HBc.out.block _ hOr).trans HCur.out)
     have HXc:=hid ((HBac.out.block _ (lt_of_block HXa.out)).trans HXa.out)
     have HO5c:=hid (show Below O W5 Wc from HBr.out.trans (HBc.out.mono (Nat.le_of_lt hOr)))
     clear hbc HKg cv da
     rcases hcase with ⟨hkn,er,her,rfl⟩ | ⟨f,hkf,rfl⟩
     ·have he:(er == 0) = false:=by rw [beq_eq_false_iff_ne];exact her
      have HNo:=hid (show ¬ ∃ fs,ChkOf r c fs from fun ⟨fs,m,h1,_,h3⟩=>by
       rw [← hbs.out] at h1
       rw [blk_one HBk.out h1] at h3
       rw [HSt.out.1 hkn] at h3
       cases h3)
      obtain ⟨C,hC⟩:∃ C,Hid (C = zFact.cells.toArray):=⟨_,hid rfl⟩
      rw [← hC.out]
      obtain ⟨cur1,hcur1⟩:∃ c,Hid (c = (cur.toList.take (k * 6) ++ C.toList ++ cur.toList.drop (k * 6 + C.size)).toArray):=⟨_,hid rfl⟩
      have hst:(storeCells ⟨O,k * 6,none⟩ C.toList).run Tryz.prog Wc = .ok () (Wc.setRow O cur1):=by
       rw [hcur1.out]
       have h:=run_storeCells_at Tryz.prog O (k * 6) 27 C.toList 0 _ Wc HRc.out (by rw [Array.length_toList,hC.out,HCs.out];show k * 6 + 0 + 6 ≤ N * 6;omega) (by rw [hC.out];simp [Fact.cells,Value.oneCell'])
       simp only [Nat.add_zero,Array.length_toList] at h
       exact h
      have hCs:C.size = 6:=by rw [hC.out];rfl
      clear hkn her
      go_wp2
      go_ret2
      exact ⟨below_setRow (HB5.out.trans (HO5c.out.mono hOw)) hOw _,.inl ⟨HNo.out,rfl⟩⟩
     ·have HKf:=hid hkf
      obtain ⟨C,hC⟩:∃ C,Hid (C = f.cells.toArray):=⟨_,hid rfl⟩
      rw [← hC.out]
      have hCs:C.size = 6:=by rw [hC.out];rfl
      obtain ⟨cur1,hcur1⟩:∃ c,Hid (c = (cur.toList.take (k * 6) ++ C.toList ++ cur.toList.drop (k * 6 + C.size)).toArray):=⟨_,hid rfl⟩
      have hst:(storeCells ⟨O,k * 6,none⟩ C.toList).run Tryz.prog Wc = .ok () (Wc.setRow O cur1):=by
       rw [hcur1.out]
       have h:=run_storeCells_at Tryz.prog O (k * 6) 27 C.toList 0 _ Wc HRc.out (by rw [Array.length_toList,hC.out,HCs.out];show k * 6 + 0 + 6 ≤ N * 6;omega) (by rw [hC.out];simp [Fact.cells,Value.oneCell'])
       simp only [Nat.add_zero,Array.length_toList] at h
       exact h
      clear hkf
      go_upto_region 11 with (fail)
      obtain ⟨Wd,hWd⟩:∃ W,W = Wc.setRow O cur1:=⟨_,rfl⟩
      rw [← hWd]
      have hXd:Wd.heap[O]? = some (.cells cur1 27 (0,0)):=by rw [hWd];exact setRow_heap _ _ _ _ _ _ HRc.out
      have hdo:∀ g,g ≠ O → Wd.heap[g]? = Wc.heap[g]?:=fun g hg=>by rw [hWd];exact setRow_other _ _ _ _ hg
      have hRO:R < O:=by omega
      have hXi:Wd.heap[IB]? = some (.cells #[.string K,.string V] 100 (0,0)):=(hdo _ (by omega)).trans HXc.out
      have hXr:∃ a b q',Wd.heap[R]? = some (.cells (rdRow a b r.props q') 62 (0,0)):=⟨_,_,_,(hdo _ (by omega)).trans ((HO5c.out.block _ hRO).trans ((HB35.out.block _ (by omega)).trans HR3.out))⟩
      have hHO:Below O W5 Wd:=by rw [hWd];exact below_setRow HO5c.out (Nat.le_refl _) _
      have HHO:=hid hHO
      have HXd:=hid hXd
      have HWd:=hid hWd
      have hc1s:cur1.size = N * 6:=by
       rw [hcur1.out,List.size_toArray,List.length_append,List.length_append,List.length_take,List.length_drop,Array.length_toList,HCs.out,Array.length_toList,hCs]
       omega
      have hcell:∀ W:World,W.heap[O]? = some (.cells cur1 27 (0,0)) → ∀ j,j < N * 6 → ∃ u,W.cell? ⟨O,j,none⟩ = some u:=fun W hW j hj=>⟨cur1[j]'(by omega),by rw [cell_of_row _ _ _ _ _ _ hW,Array.getElem?_eq_getElem]⟩
      obtain ⟨u3,hu3⟩:=hcell Wd.drew hXd (k * 6 + 3) (by omega)
      have hf3:Wd.drew.frozen? ⟨O,k * 6 + 3,none⟩ = false:=frozen_of_row _ _ _ _ _ (show Wd.drew.heap[O]? = _ from hXd)
      have hX3:=Go.heap_setCell_same Wd O (k * 6 + 3) _ _ (.int .u64 (r.props.line:Int)) hXd
      obtain ⟨u5,hu5⟩:=hcell Wd hXd (k * 6 + 5) (by omega)
      have hf5:Wd.frozen? ⟨O,k * 6 + 5,none⟩ = false:=frozen_of_row _ _ _ _ _ hXd
      have HC5:=hid hu5
      have HF5:=hid hf5
      have HX5:=hid (Go.heap_setCell_same _ O (k * 6 + 5) _ _ (.string V) hX3)
      obtain ⟨S,hSo,hSi⟩:∃ S:World → Prop,(∀ W,S W → W.cell? ⟨R,2,none⟩ = some (.int .u64 (r.props.line:Int)) ∧ W.cell? ⟨IB,1,none⟩ = some (.string V)) ∧ ∀ W,(W.cell? ⟨R,2,none⟩ = some (.int .u64 (r.props.line:Int)) ∧ W.cell? ⟨IB,1,none⟩ = some (.string V)) → S W:=⟨_,fun W h=>h,fun W h=>h⟩
      have HSo:=hid hSo
      have HSi:=hid hSi
      have HSd:=hid (show Wd.drew.cell? ⟨R,2,none⟩ = some (.int .u64 (r.props.line:Int)) ∧ Wd.drew.cell? ⟨IB,1,none⟩ = some (.string V) from by
       obtain ⟨a,b,q',h⟩:=hXr
       refine ⟨?_, ?_⟩
       ·rw [cell_of_row _ _ _ _ _ _ (show Wd.drew.heap[R]? = _ from h)];rfl
       ·rw [cell_of_row _ _ _ _ _ _ (show Wd.drew.heap[IB]? = _ from hXi)];rfl)
      have HSet:=hid (show ∀ (W:World) (j:Nat) (v:Value),(W.cell? ⟨R,2,none⟩ = some (.int .u64 (r.props.line:Int)) ∧ W.cell? ⟨IB,1,none⟩ = some (.string V)) → ((W.setCell ⟨O,j,none⟩ v).cell? ⟨R,2,none⟩ = some (.int .u64 (r.props.line:Int)) ∧ (W.setCell ⟨O,j,none⟩ v).cell? ⟨IB,1,none⟩ = some (.string V)) from fun W j v hW=>by
       exact ⟨(cell_else W v (by omega)).trans hW.1,(cell_else W v (by omega)).trans hW.2⟩)
      have hSd:=HSi.out _ HSd.out
      clear hSo hSi hXd hdo hXi hXr hHO hWd hcell hX3 hu5 hf5
      refine wp_region_held (S:=S) (by kernel_rfl) ?_
      change wpAnyH _ _ _ _ _ _ _ _ Wd.drew
      -- region 11
      refine take_held (v := ?v0) 0 rfl (by kernel_rfl) (by kernel_rfl) (by kernel_rfl) (fun _ _ _ h=>h) (Or.inl ⟨by rfl, ?y0⟩) (by assumption) ?r0
      case y0 =>
       intro wS hSw
       obtain ⟨s0,s1⟩:=HSo.out _ hSw
       clear hSw
       go_simp
       try with_reducible rfl
      simp only [Act.put,List.setIfInBounds_toArray,List.set_cons_zero,List.set_cons_succ]
      refine take_held (v := ?v1) 1 rfl (by kernel_rfl) (by kernel_rfl) (by kernel_rfl) (fun _ _ _ h=>h) (Or.inl ⟨by rfl, ?y1⟩) (by assumption) ?r1
      case y1 =>
       intro wS hSw
       obtain ⟨s0,s1⟩:=HSo.out _ hSw
       clear hSw
       go_simp
       try with_reducible rfl
      simp only [Act.put,List.setIfInBounds_toArray,List.set_cons_zero,List.set_cons_succ]
      refine take_held (v := ?v2) 2 rfl (by kernel_rfl) (by kernel_rfl) (by kernel_rfl) (fun _ _ _ h=>h) (Or.inl ⟨by rfl, ?y2⟩) (by assumption) ?r2
      case y2 =>
       intro wS hSw
       obtain ⟨s0,s1⟩:=HSo.out _ hSw
       clear hSw
       go_simp
       try with_reducible rfl
      simp only [Act.put,List.setIfInBounds_toArray,List.set_cons_zero,List.set_cons_succ]
      refine take_held (v := ?v3) 3 rfl (by kernel_rfl) (by kernel_rfl) (by kernel_rfl) (fun _ _ _ h=>h) (Or.inl ⟨by rfl, ?y3⟩) (by assumption) ?r3
      case y3 =>
       intro wS hSw
       obtain ⟨s0,s1⟩:=HSo.out _ hSw
       clear hSw
       go_simp
       try with_reducible rfl
      simp only [Act.put,List.setIfInBounds_toArray,List.set_cons_zero,List.set_cons_succ]
      refine take_held (v := ?v4) 4 rfl (by kernel_rfl) (by kernel_rfl) (by kernel_rfl) (fun _ _ _ h=>h) (Or.inl ⟨by rfl, ?y4⟩) (by assumption) ?r4
      case y4 =>
       intro wS hSw
       obtain ⟨s0,s1⟩:=HSo.out _ hSw
       clear hSw
       go_simp
       try with_reducible rfl
      simp only [Act.put,List.setIfInBounds_toArray,List.set_cons_zero,List.set_cons_succ]
      refine take_held (v := ?v5) 5 rfl (by kernel_rfl) (by kernel_rfl) (by kernel_rfl) (fun _ _ _ h=>h) (Or.inl ⟨by rfl, ?y5⟩) (by assumption) ?r5
      case y5 =>
       intro wS hSw
       obtain ⟨s0,s1⟩:=HSo.out _ hSw
       clear hSw
       go_simp
       try with_reducible rfl
      simp only [Act.put,List.setIfInBounds_toArray,List.set_cons_zero,List.set_cons_succ]
      refine take_held (v := ?v6) 6 rfl (by kernel_rfl) (by kernel_rfl) (by kernel_rfl) (fun _ _ _ h=>h) (Or.inl ⟨by rfl, ?y6⟩) (by assumption) ?r6
      case y6 =>
       intro wS hSw
       obtain ⟨s0,s1⟩:=HSo.out _ hSw
       clear hSw
       go_simp
       try with_reducible rfl
      simp only [Act.put,List.setIfInBounds_toArray,List.set_cons_zero,List.set_cons_succ]
      refine take_held (v := ?v7) 7 rfl (by kernel_rfl) (by kernel_rfl) (by kernel_rfl) (fun _ _ _ h=>h) (Or.inl ⟨by rfl, ?y7⟩) (by assumption) ?r7
      case y7 =>
       intro wS hSw
       obtain ⟨s0,s1⟩:=HSo.out _ hSw
       clear hSw
       go_simp
       try with_reducible rfl
      simp only [Act.put,List.setIfInBounds_toArray,List.set_cons_zero,List.set_cons_succ]
      refine take_held (v := ?v8) 8 rfl (by kernel_rfl) (by kernel_rfl) (by kernel_rfl) (fun _ _ _ h=>h) (Or.inl ⟨by rfl, ?y8⟩) (by assumption) ?r8
      case y8 =>
       intro wS hSw
       obtain ⟨s0,s1⟩:=HSo.out _ hSw
       clear hSw
       go_simp
       try with_reducible rfl
      simp only [Act.put,List.setIfInBounds_toArray,List.set_cons_zero,List.set_cons_succ]
      refine take_held (v := ?v9) 9 rfl (by kernel_rfl) (by kernel_rfl) (by kernel_rfl) (fun _ _ _ h=>h) (Or.inl ⟨by rfl, ?y9⟩) (by assumption) ?r9
      case y9 =>
       intro wS hSw
       obtain ⟨s0,s1⟩:=HSo.out _ hSw
       clear hSw
       go_simp
       try with_reducible rfl
      simp only [Act.put,List.setIfInBounds_toArray,List.set_cons_zero,List.set_cons_succ]
      refine take_held (v := ?v10) 10 rfl (by kernel_rfl) (by kernel_rfl) (by kernel_rfl) (fun _ _ _ h=>h) (Or.inl ⟨by rfl, ?y10⟩) (by assumption) ?r10
      case y10 =>
       intro wS hSw
       obtain ⟨s0,s1⟩:=HSo.out _ hSw
       clear hSw
       go_simp
       try with_reducible rfl
      simp only [Act.put,List.setIfInBounds_toArray,List.set_cons_zero,List.set_cons_succ]
      refine take_held (v := ?v11) 11 rfl (by kernel_rfl) (by kernel_rfl) (by kernel_rfl) (fun _ _ _ h=>h) (Or.inl ⟨by rfl, ?y11⟩) (by assumption) ?r11
      case y11 =>
       intro wS hSw
       obtain ⟨s0,s1⟩:=HSo.out _ hSw
       clear hSw
       go_simp
       try with_reducible rfl
      simp only [Act.put,List.setIfInBounds_toArray,List.set_cons_zero,List.set_cons_succ]
      refine take_held (v := ?v12) 12 rfl (by kernel_rfl) (by kernel_rfl) (by kernel_rfl) (fun _ _ _ h=>h) (Or.inl ⟨by rfl, ?y12⟩) (by assumption) ?r12
      case y12 =>
       intro wS hSw
       obtain ⟨s0,s1⟩:=HSo.out _ hSw
       clear hSw
       go_simp
       try with_reducible rfl
      simp only [Act.put,List.setIfInBounds_toArray,List.set_cons_zero,List.set_cons_succ]
      refine wpAnyH_ready (rs:=[13]) (by kernel_rfl) (by simp) ?_
      refine cons_held 13 rfl (fun K hK => ?_) AllReadyH.nil
      go_simp
      refine hK.out _ _ (HSi.out _ (HSet.out _ (k * 6 + 3) _ HSd.out)) (fun hHeld => ?_)
      clear hK K
      try (simp only [Act.put,List.setIfInBounds_toArray,List.set_cons_zero,List.set_cons_succ])
      have c5:=HC5.out
      have f5:=HF5.out
      refine take_held (v := ?v14) 14 rfl (by kernel_rfl) (by kernel_rfl) (by kernel_rfl) (fun _ _ _ h=>h) (Or.inl ⟨by rfl, ?y14⟩) (by assumption) ?r14
      case y14 =>
       intro wS hSw
       obtain ⟨s0,s1⟩:=HSo.out _ hSw
       clear hSw
       go_simp
       try with_reducible rfl
      simp only [Act.put,List.setIfInBounds_toArray,List.set_cons_zero,List.set_cons_succ]
      refine take_held (v := ?v15) 15 rfl (by kernel_rfl) (by kernel_rfl) (by kernel_rfl) (fun _ _ _ h=>h) (Or.inl ⟨by rfl, ?y15⟩) (by assumption) ?r15
      case y15 =>
       intro wS hSw
       obtain ⟨s0,s1⟩:=HSo.out _ hSw
       clear hSw
       go_simp
       try with_reducible rfl
      simp only [Act.put,List.setIfInBounds_toArray,List.set_cons_zero,List.set_cons_succ]
      refine wpAnyH_ready (rs:=[16]) (by kernel_rfl) (by simp) ?_
      refine cons_held 16 rfl (fun K hK => ?_) AllReadyH.nil
      go_simp
      refine hK.out _ _ (HSi.out _ (HSet.out _ (k * 6 + 5) _ (HSet.out _ (k * 6 + 3) _ HSd.out))) (fun hHeld => ?_)
      clear hK K
      try (simp only [Act.put,List.setIfInBounds_toArray,List.set_cons_zero,List.set_cons_succ])
      refine wpAnyH_done (by kernel_rfl) ?_ _
      -- end of region 11
      obtain ⟨We,hWe⟩:∃ W,W = ((Wd.setCell ⟨O,k * 6 + 3,none⟩ (.int .u64 (r.props.line:Int))).setCell ⟨O,k * 6 + 5,none⟩ (.string V)).drew:=⟨_,rfl⟩
      rw [← hWe]
      have HXe:=hid (show We.heap[O]? = some (.cells ((cur1.setIfInBounds (k * 6 + 3) (.int .u64 (r.props.line:Int))).setIfInBounds (k * 6 + 5) (.string V)) 27 (0,0)) by rw [hWe];exact HX5.out)
      have HBe:=hid (show Below O W5 We by rw [hWe];exact ((HHO.out.setCell (p:=⟨O,k * 6 + 3,none⟩) (Nat.le_refl _) _).setCell (p:=⟨O,k * 6 + 5,none⟩) (Nat.le_refl _) _).drew)
      have HPut:=hid (row_put HDl.out hlt HCs.out HCt.out f r.props.line V)
      have HCur1:=hid (show cur1 = (cur.toList.take (k * 6) ++ f.cells ++ cur.toList.drop (k * 6 + f.cells.toArray.size)).toArray by rw [hcur1.out,hC.out])
      have HSt2:=hid (HSt.out.2 f HKf.out)
      clear hWe hSd hu3 hf3 c5 f5 hst hCs hc1s
      go_wp2
      refine ⟨⟨k + 1,done ++ [⟨f.key,f.valid,f.seq,r.props.line,f.kind,V⟩],_,by omega,by rw [show ((k + 1:Nat):Int) = (k:Int) + 1 from by omega],by rw [List.length_append,HDl.out];rfl,HXe.out, ?_, ?_,HBe.out,HSt2.out⟩,by simp [intOf];omega⟩
      ·rw [HCur1.out]
       exact HPut.out.1
      ·rw [HCur1.out]
       exact HPut.out.2
    ·obtain rfl:k = N:=by omega
     have hI:=HI.out
     rw [List.drop_of_length_le (by rw [← hN.out];exact Nat.le_refl _)] at hI
     have HI2:=hid (show allSome (l.map (itemF? r.props.line)) = some done by rw [hI];simp [allSome])
     clear hI
     go_wp2
     go_ret2
     refine ⟨HB5.out.trans (HBr.out.mono hOw),.inr ⟨done,⟨l,by rw [← hbs.out];exact HBk.out,by rw [← hlk.out,← HLst.out];exact HK.out,HI2.out⟩,some ⟨O,0,none⟩,by rw [HDl.out];rfl,by rw [fCells_len],.inr ⟨O,done.length,cur,rfl,hOw,HCur.out,Nat.le_refl _,by rw [HDl.out];unfold maxLen;omega,by rw [HDl.out];exact HCs.out,by rw [HDl.out];exact HCt.out⟩⟩⟩
  ·have hke:(lk.toList == lst.toList) = false:=by
    rw [beq_eq_false_iff_ne]
    intro e
    rw [ByteArray.toList_eq,ByteArray.toList_eq] at e
    refine hk ?_
    obtain ⟨⟨x⟩⟩:=lk
    obtain ⟨⟨y⟩⟩:=lst
    simp only at e
    rw [e]
   have HNo:=hid (show ¬ ∃ fs,ChkOf r c fs from fun ⟨fs,m,h1,h2,_⟩=>hk (by
    rw [← hbs.out] at h1
    rw [blk_one HBk.out h1] at h2
    rw [hlk.out,HLst.out]
    exact h2))
   clear hk
   go_wp2_with (go_quiet (fail))
   go_ret2
   exact ⟨below_drewN HB3.out nq,.inl ⟨HNo.out,rfl⟩⟩
end Go.Proofs.Herb
namespace Go.Proofs.Herb
open Go.RowKit
theorem clip_facts (a:Option Addr) (n c:Nat) (w:World) (hn:n ≤ c) (_hc:c ≤ maxLen) :
  Calls Tryz.prog 36 #[.slice a n c] w fun e w'=>e = .returned (.slice a n n) ∧ w = w':=by
 unfold maxLen at _hc
 go_enter Tryz.func36,Tryz.ntmps36
 go_wp2
 go_ret
 exact ⟨rfl,rfl⟩
theorem ChksOf.snoc {r:Rdr}:∀ {cs:List Chk} {c:Chk} {a b:List Fact},ChksOf r cs a → ChkOf r c b → ChksOf r (cs ++ [c]) (a ++ b)
 | [],c,a,b,h,k=>by
  obtain rfl:a = []:=h
  exact ⟨b,[],k,rfl,by simp⟩
 | d :: cs,c,a,b,h,k=>by
  obtain ⟨x,y,h1,h2,rfl⟩:=h
  exact ⟨x,y ++ b,h1,h2.snoc k,by simp⟩
theorem ChksOf.get {r:Rdr}:∀ {cs:List Chk} {a:List Fact} {k:Nat} (_:ChksOf r cs a) (hk:k < cs.length),∃ b,ChkOf r cs[k] b
 | d :: cs,a,0,h,_=>by
  obtain ⟨x,y,h1,h2,rfl⟩:=h
  exact ⟨x,h1⟩
 | d :: cs,a,k + 1,h,hk=>by
  obtain ⟨x,y,h1,h2,rfl⟩:=h
  exact h2.get (k:=k) (by simpa using hk)
theorem ChksOf.one {r:Rdr}:∀ {cs:List Chk} {a b:List Fact},ChksOf r cs a → ChksOf r cs b → a = b
 | [],a,b,h,k=>by
  obtain rfl:a = []:=h
  obtain rfl:b = []:=k
  rfl
 | d :: cs,a,b,h,k=>by
  obtain ⟨x,y,h1,h2,rfl⟩:=h
  obtain ⟨x',y',k1,k2,rfl⟩:=k
  rw [h1.one k1,h2.one k2]
theorem ChkOf.ok {r:Rdr} {c:Chk} {fs:List Fact} (h:ChkOf r c fs) (hl:r.props.line < 18446744073709551616):∀ f ∈ fs,f.Ok:=by
 obtain ⟨l,h1, -,h2⟩:=h
 intro f hf
 have h3:=allSome_mem h2 f hf
 rw [List.mem_map] at h3
 obtain ⟨x,hx,h4⟩:=h3
 exact (itemF?_ok hl (by have:=(blk_sizes h1 x hx).2;unfold maxLen;omega) h4).1
theorem ChksOf.ok {r:Rdr}:∀ {cs:List Chk} {a:List Fact},ChksOf r cs a → r.props.line < 18446744073709551616 → ∀ f ∈ a,f.Ok
 | [],a,h,_=>by
  obtain rfl:a = []:=h
  intro f hf
  cases hf
 | d :: cs,a,h,hl=>by
  obtain ⟨x,y,h1,h2,rfl⟩:=h
  intro f hf
  rcases List.mem_append.1 hf with hf | hf
  ·exact h1.ok hl f hf
  ·exact h2.ok hl f hf
theorem ChkOf.short {r:Rdr} {c:Chk} {fs:List Fact} (h:ChkOf r c fs):fs.length ≤ 65536:=by
 obtain ⟨l,h1, -,h2⟩:=h
 have h3:=allSome_len h2
 rw [List.length_map] at h3
 have:=(blk_short h1).2
 omega
def AllR (r:Rdr) (fs:List Fact):Prop:=ChksOf r r.chunks fs ∧ (GoodF r.props.line fs ∧ 0 < fs.length) ∧ (tabB r.props.line fs).length ≤ 65536 ∧ tabB r.props.line fs = r.b
structure Rdr.Fit (r:Rdr):Prop where
 n0:0 < r.chunks.length
 n1:r.chunks.length ≤ 65536
 at_:∀ c ∈ r.chunks,c.beg < c.fin ∧ c.fin ≤ r.b.length
 b:r.b.length ≤ 4194304
 line:r.props.line < 18446744073709551616
 few:∀ fs,ChksOf r r.chunks fs → fs.length ≤ 24000
def AlaP (r:Rdr) (b0:Nat) (w:World) (e:Ending) (w':World):Prop :=
 Below b0 w w' ∧ (((¬ ∃ fs,AllR r fs) ∧ e = .returned (.tuple #[.slice none 0 0,.int .i64 13])) ∨
  ∃ fs,AllR r fs ∧ ∃ q,e = .returned (.tuple #[.slice q fs.length fs.length,.int .i64 0]) ∧ Fr w' b0 27 6 (.slice q fs.length fs.length) fs.length (fCells fs))
set_option maxRecDepth 100000 in
set_option maxHeartbeats 4000000 in
theorem allr_any (R:Nat) (r:Rdr) (w:World) (hat:RdrAt w R r) (hf:r.Fit) :
  Calls Tryz.prog 11 #[.pointer (some ⟨R,0,none⟩)] w (AlaP r w.heap.size w):=by
 have HAt:=hid hat
 have HFit:=hid hf
 have HT:=hid (there_yes hat hf.n0 (by have:=hf.n1;omega))
 obtain ⟨q,cp,fq,fc,kq,kc,hrow,hbc,hcm,hrd, -, -, -, -,hkc,hkm,hkr⟩:=hat.ex
 have HRow:=hid hrow
 have HRd:=hid hrd
 have HKr:=hid hkr
 obtain ⟨N,hN⟩:∃ N,Hid (N = r.chunks.length):=⟨_,hid rfl⟩
 have hN0:0 < N:=by rw [hN.out];exact hf.n0
 have hN1:N ≤ 65536:=by rw [hN.out];exact hf.n1
 have c10:w.cell? ⟨R,10,none⟩ = some (.slice kq N kc):=by rw [cell_of_row _ _ _ _ _ _ hrow,hN.out];rfl
 obtain ⟨bk,ok,rfl, -, -, -, -⟩:=chk_at hkr (j:=0) hf.n0
 clear hat hf hrow hrd hkr hbc hkc
 go_enter Tryz.func11,Tryz.ntmps11
 go_upto_region 4 with (go_at_call 33;refine HT.out.mono ?_;rintro e w' ⟨rfl,rfl⟩)
 clear HT
 go_wp2
 go_loopw [4,20] (fun out i wr=>∃ (k:Nat) (done:List Fact),k ≤ N ∧ i = .int .i64 (k:Int) ∧ ChksOf r (r.chunks.take k) done ∧ done.length ≤ k * 65536 ∧ wr.ownsRow w.heap.size 27 6 out done.length (fCells done) ∧ Below w.heap.size w wr) (fun _ i _=>N - (intOf i).toNat)
 case atStart=>exact ⟨0,[],Nat.zero_le _,rfl,rfl,Nat.zero_le _,⟨rfl,.inl ⟨rfl,rfl⟩⟩,Below.refl _ _⟩
 case round =>
  obtain ⟨k,done,hk,rfl,hch,hdl,hown,hb⟩:=hrel
  obtain ⟨q2,c2,rfl,hc2,hcm2,hq2⟩:=own_shape hown
  have Hown:=hid hown
  have HCh:=hid hch
  have HBr:=hid hb
  have hsr:=hb.size
  clear hown hch hb
  by_cases hlt:k < N
  ·have hlt2:k < r.chunks.length:=by rw [← hN.out];exact hlt
   obtain ⟨b',o',e', -,ic0,ic1,ic2⟩:=chk_at (HKr.out.below HBr.out) hlt2
   cases e'
   obtain ⟨c,hc⟩:∃ c,Hid (c = r.chunks[k]):=⟨_,hid rfl⟩
   rw [← hc.out] at ic0 ic1 ic2
   obtain ⟨hc3,hc4⟩:=HFit.out.at_ c (by rw [hc.out];exact List.getElem_mem hlt2)
   obtain ⟨Wa,hWa⟩:∃ W,W = wr.alloc (.cells #[.string c.last,.int .i64 (c.beg:Int),.int .i64 (c.fin:Int)] 79):=⟨_,rfl⟩
   have hBa:Below wr.heap.size wr Wa:=by rw [hWa];exact (Below.refl _ _).alloc (Nat.le_refl _) _
   have HBa:=hid hBa
   have HWa:=hid hWa
   have hsa:=hBa.size
   have hXa:Wa.heap[wr.heap.size]? = some (.cells #[.string c.last,.int .i64 (c.beg:Int),.int .i64 (c.fin:Int)] 79 (0,0)):=by rw [hWa];exact heap_alloc_new wr _
   have HWab:=hid (HBr.out.trans (hBa.mono hsr))
   have HFc:=hid (facts_any R r c Wa (HAt.out.below HWab.out) hc3 hc4 HFit.out.b)
   have x0:Wa.cell? ⟨wr.heap.size,0,none⟩ = some (.string c.last):=by rw [cell_of_row _ _ _ _ _ _ hXa];rfl
   have x1:Wa.cell? ⟨wr.heap.size,1,none⟩ = some (.int .i64 (c.beg:Int)):=by rw [cell_of_row _ _ _ _ _ _ hXa];rfl
   have x2:Wa.cell? ⟨wr.heap.size,2,none⟩ = some (.int .i64 (c.fin:Int)):=by rw [cell_of_row _ _ _ _ _ _ hXa];rfl
   clear hWa hBa hXa hc3 hc4
   go_upto_region 7 with (fail)
   rw [← HWa.out]
   go_wp2_with fail
   refine HFc.out.mono ?_
   rintro e w3 ⟨hb3,hcase⟩
   have HB3:=hid (HWab.out.trans (hb3.mono HWab.out.size))
   have HO3:=hid (own_below (own_below Hown.out HBa.out) hb3)
   have hs3:=HB3.out.size
   clear hb3 HFc
   rcases hcase with ⟨hno,rfl⟩ | ⟨fs,hfs,q3,rfl,hown3⟩
   ·have HNo:=hid (show ¬ ∃ fs,AllR r fs from fun ⟨fs,h,_⟩=>hno (by rw [hc.out];exact h.get hlt2))
    clear hno
    go_wp2
    go_ret2
    exact ⟨HB3.out,.inl ⟨HNo.out,rfl⟩⟩
   ·have HFs:=hid hfs
    have hfl:=hfs.short
    have HF3:=hid (Fr.of_own hown3)
    obtain ⟨q3',c3',e3,hc3a,hc3b,hrd3,hn3⟩:=HF3.out.shape
    cases e3
    have HRd3:=hid hrd3
    have hn3':q3 = none → fs.length = 0:=fun e=>(hn3 e).1
    obtain ⟨FL,hFL⟩:∃ n,Hid (n = fs.length):=⟨_,hid rfl⟩
    obtain ⟨DL,hDL⟩:∃ n,Hid (n = done.length):=⟨_,hid rfl⟩
    rw [← hFL.out] at hfl hn3' ⊢
    rw [← hDL.out] at HO3 hdl ⊢
    clear hfs hown3 hrd3 hn3
    go_wp2_with (refine wpList_append_rd rfl (.tmp 32) (.tmp 33) 38 rfl w.heap.size 27 _ 6 64 Tryz.underlying38 infoFact6 rfl (by decide) (.slice q2 DL c2) DL (fCells done) rfl HO3.out q3 FL FL (fCells fs) rfl hn3' (by rw [fCells_len,hFL.out]) HRd3.out (fCells_one fs) (by unfold maxLen;omega) (by omega) hs3 ?_;intro v6 w6 hown6 hg6 hz6;have HO6:=hid hown6;have HG6:=hid hg6;clear hown6 hg6 hz6)
    refine ⟨⟨k + 1,done ++ fs,by omega,by rw [show ((k + 1:Nat):Int) = (k:Int) + 1 from by omega], ?_, ?_, ?_,Below.grown' HB3.out HO3.out HG6.out hs3⟩,by simp [intOf];omega⟩
    ·have h:=HCh.out.snoc (by rw [← hc.out];exact HFs.out:ChkOf r r.chunks[k] fs)
     rw [List.take_append_getElem] at h
     exact h
    ·rw [List.length_append,← hDL.out,← hFL.out]
     omega
    ·rw [List.length_append,← hDL.out,← hFL.out,fCells_append]
     exact HO6.out
  ·obtain rfl:k = N:=by omega
   have hall:ChksOf r r.chunks done:=by
    have h:=HCh.out
    rw [List.take_of_length_le (by rw [← hN.out];exact Nat.le_refl _)] at h
    exact h
   have hD6:=HFit.out.few done hall
   have hOk:=hall.ok HFit.out.line
   have HAll:=hid hall
   have HOk:=hid hOk
   have HFr:=hid (Fr.of_own Hown.out)
   obtain ⟨q4,c4,e4, -, -,hrdo,hn4⟩:=HFr.out.shape
   cases e4
   have HRdo:=hid hrdo
   obtain ⟨DL,hDL⟩:∃ n,Hid (n = done.length):=⟨_,hid rfl⟩
   rw [← hDL.out] at hc2 hD6 hdl ⊢
   have HRowR:=hid ((HBr.out.block _ (lt_of_block HRow.out)).trans HRow.out)
   have hln:wr.cell? ⟨R,2,none⟩ = some (.int .u64 (r.props.line:Int)):=by rw [cell_of_row _ _ _ _ _ _ HRowR.out];rfl
   obtain ⟨LN,hLN⟩:∃ n,Hid (n = r.props.line):=⟨_,hid rfl⟩
   rw [← hLN.out] at hln
   clear hall hOk hrdo hn4
   by_cases hgd:(GoodF LN done ∧ 0 < done.length) ∧ (tabB LN done).length ≤ 65536
   ·have HGd:=hid hgd
    have HBd:=hid (build_ok LN q2 DL c2 done wr hDL.out.symm hD6 HRdo.out HOk.out hgd.1 hgd.2)
    obtain ⟨C,hC⟩:∃ C,Hid (C = (propsF LN done).cells.toArray):=⟨_,hid rfl⟩
    rw [← hC.out] at HBd
    have hst:∀ W:World,(storeCells ⟨W.heap.size,0,none⟩ C.toList).run Tryz.prog (W.alloc (.cells #[Value.int IntKind.u64 0,Value.int IntKind.u64 0,Value.string { data := #[] },Value.string { data := #[] },Value.int IntKind.u64 0,Value.int IntKind.u64 0,Value.int IntKind.u32 0,Value.int IntKind.u32 0] 49)) = .ok () (W.alloc (.cells C 49)):=fun W =>
     run_storeCells_new (P:=Tryz.prog) W 49 _ C (by rw [hC.out];exact infoProps8) (by rw [hC.out];rfl) (by rw [hC.out];simp [Props.cells,Value.oneCell'])
    have hCs:C.size = 8:=by rw [hC.out];rfl
    clear hgd
    go_wp2_with fail
    refine HBd.out.mono ?_
    rintro e w4 ⟨p,rfl,hfr4,hb4⟩
    obtain ⟨TL,hTL⟩:∃ n,Hid (n = (tabB LN done).length):=⟨_,hid rfl⟩
    rw [← hTL.out] at hfr4 ⊢
    have HFr4:=hid hfr4
    have HB4:=hid (HBr.out.trans (hb4.mono hsr))
    have hs4:=HB4.out.size
    obtain ⟨W5,hW5⟩:∃ W,W = w4.alloc (.cells C 49):=⟨_,rfl⟩
    have hB5:Below w4.heap.size w4 W5:=by rw [hW5];exact (Below.refl _ _).alloc (Nat.le_refl _) _
    have HB5:=hid (HB4.out.trans (hB5.mono hs4))
    have HB5r:=hid (show Below wr.heap.size wr W5 from hb4.trans (hB5.mono hb4.size))
    obtain ⟨a4,d4,e4, -, -,hrd4, -⟩:=hfr4.shape
    cases e4
    have HSq:=hid (seq_any p q TL TL r.b.length cp (tabB LN done) r.b W5 hTL.out.symm rfl (by have:=HGd.out.2;have:=hTL.out;omega) (by have:=HFit.out.b;omega) (hrd4.below hB5) (HRd.out.below HB5.out))
    have rb5:W5.cell? ⟨R,0,none⟩ = some (.slice q r.b.length cp):=by rw [cell_of_row _ _ _ _ _ _ ((HB5.out.block _ (lt_of_block HRow.out)).trans HRow.out)];rfl
    have HW5:=hid hW5
    clear hfr4 hb4 hB5 hrd4 hW5 HBd hln
    obtain ⟨BL,hBL⟩:∃ n,n = r.b.length:=⟨_,rfl⟩
    rw [← hBL] at rb5 HSq
    clear hBL
    go_upto_region 13 with (fail)
    rw [← HW5.out]
    obtain ⟨eb,heb⟩:∃ b,Hid (b = (tabB LN done == r.b)):=⟨_,hid rfl⟩
    rw [← heb.out] at HSq
    have HCl:=hid (fun W=>clip_facts q2 DL c2 W hc2 hcm2)
    cases eb with
    | false =>
     have HNo:=hid (show ¬ ∃ fs,AllR r fs from fun ⟨fs,h1,_,_,h4⟩=>by
      rw [h1.one HAll.out,← hLN.out] at h4
      have h5:=heb.out
      rw [h4] at h5
      simp at h5)
     go_wp2_with (go_at_call 35;refine HSq.out.mono ?_;rintro e w6 ⟨rfl,hb6⟩)
     go_ret2
     exact ⟨HB5.out.trans (hb6.mono HB5.out.size),.inl ⟨HNo.out,rfl⟩⟩
    | true =>
     have hty:=heb.out
     have HTy:=hid (show tabB LN done = r.b from by simpa using hty.symm)
     clear hty
     go_wp2_with (first | (go_at_call 35;refine HSq.out.mono ?_;rintro e w6 ⟨rfl,hb6⟩) | (go_at_call 36;refine (HCl.out _).mono ?_;rintro e w' ⟨rfl,rfl⟩))
     go_ret2
     have hb:=HB5.out.trans (hb6.mono HB5.out.size)
     refine ⟨hb,.inr ⟨done,⟨HAll.out, ?_, ?_, ?_⟩,q2,by rw [← hDL.out];rfl,(HFr.out.below (HB5r.out.trans (hb6.mono HB5r.out.size))).clip⟩⟩
     ·rw [← hLN.out];exact HGd.out.1
     ·rw [← hLN.out];exact HGd.out.2
     ·rw [← hLN.out];exact HTy.out
   ·have HBd:=hid (build_e LN q2 DL c2 done wr hDL.out.symm hD6 HRdo.out HOk.out)
    have hE:buildE LN done ≠ 0:=fun h=>hgd (buildE_zero.1 h)
    have HNo:=hid (show ¬ ∃ fs,AllR r fs from fun ⟨fs,h1,h2,h3,_⟩=>hgd (by
     rw [h1.one HAll.out,← hLN.out] at h2
     rw [h1.one HAll.out,← hLN.out] at h3
     exact ⟨h2,h3⟩))
    obtain ⟨E,hEe⟩:∃ e,e = buildE LN done:=⟨_,rfl⟩
    rw [← hEe] at hE HBd
    have he:(E != 0) = true:=by rw [bne_iff_ne];exact hE
    clear hgd hE hEe
    go_wp2_with fail
    refine HBd.out.mono ?_
    rintro e w4 ⟨p,mm,dd,C,rfl,hCs,hC1,hb4⟩
    have HB4:=hid (HBr.out.trans (hb4.mono hsr))
    have hst:∀ W:World,(storeCells ⟨W.heap.size,0,none⟩ C.toList).run Tryz.prog (W.alloc (.cells #[Value.int IntKind.u64 0,Value.int IntKind.u64 0,Value.string { data := #[] },Value.string { data := #[] },Value.int IntKind.u64 0,Value.int IntKind.u64 0,Value.int IntKind.u32 0,Value.int IntKind.u32 0] 49)) = .ok () (W.alloc (.cells C 49)):=fun W =>
     run_storeCells_new (P:=Tryz.prog) W 49 _ C (by rw [hCs];exact infoProps8) (by rw [hCs];rfl) (by rw [Array.all_eq_true_iff_forall_mem];intro v hv;exact hC1 v (by simpa using hv))
    clear hb4 HBd hC1
    go_wp2
    go_ret2
    exact ⟨HB4.out.alloc HB4.out.size _,.inl ⟨HNo.out,rfl⟩⟩
end Go.Proofs.Herb
