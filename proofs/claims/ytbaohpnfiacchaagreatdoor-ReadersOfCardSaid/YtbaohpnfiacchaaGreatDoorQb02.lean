/- What came in: bytes, facts, a fact, a pair of small numbers. No condition. -/
import Derived.OpenShut
import Derived.Deep.Slices
import Derived.Deep.Fields
import Derived.ChangeSame
import Derived.SizedLaws
import Derived.Test.YtbaohpnfiacchaaGreatDoorProg
import Derived.Test.YtbaohpnfiacchaaGreatDoorQb01
namespace Go.Proofs.Herb
open Go.RowKit
theorem row_bytes {w:World} {a:Option Addr} {len cap:Nat} {zs:List Int}
  (h:(a = none ∧ len = 0 ∧ cap = 0 ∧ zs = []) ∨ ∃ x,a = some x ∧ len ≤ cap ∧ cap ≤ maxLen ∧ zs.length = cap ∧ (∀ i,i < zs.length → w.cell? (x.add i) = some (.int .u8 (zs.getD i 0))) ∧ ∀ n ∈ zs,(Lit.int .u8 n).wf = true) :
  ∃ l:List UInt8,l.length = len ∧ len ≤ cap ∧ cap ≤ maxLen ∧ Rd w a (l.map bv) ∧ (a = none → cap = 0):=by
 rcases h with ⟨rfl,rfl,rfl,rfl⟩ | ⟨x,rfl,hl,hm,hz,hc,hw⟩
 ·exact ⟨[],rfl,Nat.le_refl _,by simp [maxLen],.inl rfl,fun _=>rfl⟩
 ·refine ⟨(zs.take len).map fun z=>UInt8.ofNat z.toNat,by simp;omega,hl,hm, ?_,fun e=>by cases e⟩
  rcases Nat.eq_zero_or_pos len with h0 | h0
  ·subst h0;exact .inl (by simp)
  ·obtain ⟨b,off,rfl,hc2⟩:=ints_at hc (by omega)
   refine .inr ⟨b,off,rfl,fun j u hu => ?_⟩
   rw [List.getElem?_map,List.getElem?_map] at hu
   have hj:j < len:=by
    rcases Nat.lt_or_ge j len with h | h
    ·exact h
    ·rw [List.getElem?_eq_none (by simp;omega)] at hu;cases hu
   rw [hc2 j (by omega),← hu]
   rw [List.getElem?_take_of_lt hj,List.getElem?_eq_getElem (by omega)]
   have hb:=hw (zs[j]'(by omega)) (List.getElem_mem _)
   simp only [Option.map_some,bv,Option.some.injEq]
   rw [List.getD_eq_getElem?_getD,List.getElem?_eq_getElem (by omega),Option.getD_some]
   congr 1
   rw [UInt8.toNat_ofNat']
   have h2:=bounds_u8 hb
   omega
end Go.Proofs.Herb
namespace Go.Proofs.Herb
open Go.RowKit Go.ChangeShapes Go.WideShapes Go.Deep
theorem list6c {α:Type} {cs:List α} (h:cs.length = 6):∃ a b c d e f,cs = [a,b,c,d,e,f]:=by
 match cs,h with
 | [a,b,c,d,e,f],_=>exact ⟨a,b,c,d,e,f,rfl⟩
section
variable {H:Type} {enc:TypeId × Value → H} {w:World}
theorem open_fact {fuel:Nat} {cs:List Value} {x:DataW H × List MemPlace} (h:DataW.trod enc Tryz.prog w 0 (fun _=>true) true fuel 27 cs = some x) :
  ∃ f:Fact,cs = f.cells ∧ f.Ok ∧ ∀ R,(∀ z ∈ x.1.weights Tryz.prog 27,z ≤ R) → f.key.size ≤ R ∧ f.val.size ≤ R:=by
 obtain ⟨xs,n,_,hx,hl,hxs,hf⟩:=DataW.trod_struct Tryz.underlying27 h
 have hC:Tryz.prog.cellsOf 27 = 6:=by kernel_rfl
 have k9:Tryz.prog.cellsOf 9 = 1:=by kernel_rfl
 have k32:Tryz.prog.cellsOf 23 = 1:=by kernel_rfl
 have k64:Tryz.prog.cellsOf 24 = 1:=by kernel_rfl
 have kK:Tryz.prog.cellsOf 25 = 1:=by kernel_rfl
 rw [hC] at hl
 obtain ⟨c0,c1,c2,c3,c4,c5,rfl⟩:=list6c hl
 obtain ⟨y0,y1,y2,y3,y4,y5,rfl⟩:=list6c hxs
 have h0:DataW.trod enc Tryz.prog w 0 (fun _=>true) true n 9 (([c0,c1,c2,c3,c4,c5].drop 0).take (Tryz.prog.cellsOf 9)) = some y0:=hf 0 _ rfl
 have h1:DataW.trod enc Tryz.prog w 0 (fun _=>true) true n 23 (([c0,c1,c2,c3,c4,c5].drop 1).take (Tryz.prog.cellsOf 23)) = some y1:=hf 1 _ rfl
 have h2:DataW.trod enc Tryz.prog w 0 (fun _=>true) true n 24 (([c0,c1,c2,c3,c4,c5].drop 2).take (Tryz.prog.cellsOf 24)) = some y2:=hf 2 _ rfl
 have h3:DataW.trod enc Tryz.prog w 0 (fun _=>true) true n 24 (([c0,c1,c2,c3,c4,c5].drop 3).take (Tryz.prog.cellsOf 24)) = some y3:=hf 3 _ rfl
 have h4:DataW.trod enc Tryz.prog w 0 (fun _=>true) true n 25 (([c0,c1,c2,c3,c4,c5].drop 4).take (Tryz.prog.cellsOf 25)) = some y4:=hf 4 _ rfl
 have h5:DataW.trod enc Tryz.prog w 0 (fun _=>true) true n 9 (([c0,c1,c2,c3,c4,c5].drop 5).take (Tryz.prog.cellsOf 9)) = some y5:=hf 5 _ rfl
 rw [k9] at h0 h5
 rw [k32] at h1
 rw [k64] at h2 h3
 rw [kK] at h4
 obtain ⟨z0,e0,x0,w0⟩:=DataW.trod_string Tryz.underlying9 (x:=y0) h0
 obtain ⟨z1,e1,_,w1⟩:=DataW.trod_int Tryz.underlying23 (x:=y1) h1
 obtain ⟨z2,e2,_,w2⟩:=DataW.trod_int Tryz.underlying24 (x:=y2) h2
 obtain ⟨z3,e3,_,w3⟩:=DataW.trod_int Tryz.underlying24 (x:=y3) h3
 obtain ⟨z4,e4,_,w4⟩:=DataW.trod_int Tryz.underlying25 (x:=y4) h4
 obtain ⟨z5,e5,x5,w5⟩:=DataW.trod_string Tryz.underlying9 (x:=y5) h5
 simp at e0 e1 e2 e3 e4 e5
 subst e0;subst e1;subst e2;subst e3;subst e4;subst e5
 have b1:=bounds_u32 w1
 have b2:=bounds_u64 w2
 have b3:=bounds_u64 w3
 have b4:=bounds_u8 w4
 refine ⟨⟨z0,z1.toNat,z2.toNat,z3.toNat,z4.toNat,z5⟩, ?_,⟨by dsimp only;omega,by dsimp only;omega,by dsimp only;omega,by dsimp only;omega,w0,w5⟩,fun R hR => ?_⟩
 ·unfold Fact.cells
  dsimp only
  rw [show ((z1.toNat:Nat):Int) = z1 by omega,show ((z2.toNat:Nat):Int) = z2 by omega,show ((z3.toNat:Nat):Int) = z3 by omega,show ((z4.toNat:Nat):Int) = z4 by omega]
 ·have g0:=hR z0.data.toList.length (by rw [hx];simp only [DataW.weights,Tryz.underlying27];exact DataW.weights_mem_each (j:=0) (t:=9) (d:=y0.1) rfl rfl _ (by rw [x0];simp [DataW.weights]))
  have g5:=hR z5.data.toList.length (by rw [hx];simp only [DataW.weights,Tryz.underlying27];exact DataW.weights_mem_each (j:=5) (t:=9) (d:=y5.1) rfl rfl _ (by rw [x5];simp [DataW.weights]))
  rw [Array.length_toList] at g0 g5
  exact ⟨g0,g5⟩
end
end Go.Proofs.Herb
namespace Go.Proofs.Herb
open Go.RowKit Go.ChangeShapes Go.WideShapes Go.Deep
section
variable {H:Type} {enc:TypeId × Value → H} {w:World}
theorem open_byteRow {fuel:Nat} {c:Value} {x:DataW H × List MemPlace} (h:DataW.trod enc Tryz.prog w 0 (fun _=>true) true fuel 22 [c] = some x) :
  ∃ (q:Option Addr) (n k:Nat) (l:List UInt8),c = .slice q n k ∧ l.length = n ∧ n ≤ k ∧ k ≤ maxLen ∧ Rd w q (l.map bv) ∧ (q = none → k = 0):=by
 rcases open_ints Tryz.underlying22 Tryz.underlying5 (by kernel_rfl) h with ⟨hcs,_⟩ | ⟨a,l,k,zs,hcs,_,hl,hm,hz,_,hcell,hwz⟩
 ·simp only [List.cons.injEq,and_true] at hcs
  exact ⟨none,0,0,[],hcs,rfl,Nat.le_refl _,by simp [maxLen],.inl rfl,fun _=>rfl⟩
 ·simp only [List.cons.injEq,and_true] at hcs
  obtain ⟨b,h1,h2,h3,h4,h5⟩:=row_bytes (w:=w) (a:=some a) (len:=l) (cap:=k) (zs:=zs) (.inr ⟨a,rfl,hl,hm,by simpa using hz,hcell,hwz⟩)
  exact ⟨some a,l,k,b,hcs,h1,h2,h3,h4,h5⟩
end
end Go.Proofs.Herb
