/- The contract of tables.items. For facts that can be read. A law of control: a range over a function whose iterator hands over values that are good in the world at hand, and whose body never leaves. No program. A law of control: a range over a function whose iterator hands over values that are good in the world at hand and writes blocks of its own between the rounds, and whose body may leave. No program. The contracts of blocks.number, rise, common. For slices that can be read. Numbers in groups of seven bits: plain. A block's bytes: plain. -/
import Derived.Laws.IdiomStrings
import Derived.Laws.BytesString
import Derived.Laws.BytesArg
import Derived.Deep.DeepCutAuto
import Derived.BigQuiet
import Derived.Deep.QuietTactic
import Derived.IntWalk
import Derived.RangeFuncNested
import Derived.RangeFuncBound
import Derived.RangeFuncCalls
import Derived.RangeFuncLeaves
import Derived.RangeFuncBox
import Derived.OwnWalkIn
import Derived.Test.YtbaohpnfiacchaaGreatDoorQb01
import Derived.Test.YtbaohpnfiacchaaGreatDoorQb03
namespace Go.Proofs.Herb
open Go.RowKit
theorem convB (w:World) (a:Option Addr) (n c:Nat) (l:List UInt8) (hn:l.length = n) (hr:Rd w a (l.map bv)):(convert 22 9 (.slice a n c)).run Tryz.prog w = .ok (.string ⟨l.toArray⟩) w:=by
 subst hn
 rcases hr with h0 | ⟨b,off,rfl,hc⟩
 ·obtain rfl:l = []:=by simpa using h0
  cases a with
  | none=>exact run_convert_bytes_nil w 22 5 Tryz.underlying22 Tryz.underlying5 0 c 9 Tryz.underlying9
  | some ad=>exact run_convert_bytes_back (P:=Tryz.prog) w 22 9 5 ad c [] Tryz.underlying22 Tryz.underlying5 Tryz.underlying9 (fun j hj=>absurd hj (by simp))
 ·exact run_convert_bytes_back (P:=Tryz.prog) w 22 9 5 ⟨b,off,none⟩ c l Tryz.underlying22 Tryz.underlying5 Tryz.underlying9 (fun j hj=>by
   rw [Addr.add_mid]
   exact hc j _ (by rw [List.getElem?_map,List.getElem?_eq_getElem hj];rfl))
theorem infoItem:(Tryz.prog.info? 100).map (fun i=>(i.zero,i.size,i.bytes)) = some (some (.agg #[.string ⟨#[]⟩,.string ⟨#[]⟩]),2,32):=by kernel_rfl
def GoodAt (line:Nat) (fs:List Fact) (i:Nat):Prop:=∃ h:i < fs.length,mayF fs[i] = true ∧ fs[i].line = line ∧ fs[i].val.size ≤ 256 ∧ ∀ j,(hj:j + 1 = i) → cmpF (fs[j]'(by omega)) fs[i] < 0
def GoodF (line:Nat) (fs:List Fact):Prop:=∀ i,i < fs.length → GoodAt line fs i
def itemF (f:Fact):Item:=⟨⟨(kput f).toArray⟩,f.val⟩
def itemsF (fs:List Fact):List Item:=fs.map itemF
def IPut (line:Nat) (fs:List Fact) (b0:Nat) (w:World) (e:Ending) (w':World):Prop :=
 Below b0 w w' ∧ ∃ q c b,((b = false ∧ ¬ (GoodF line fs ∧ 0 < fs.length)) ∨ (b = true ∧ GoodF line fs ∧ 0 < fs.length)) ∧
  ∃ m,e = .returned (.tuple #[.slice q m c,.bool b]) ∧ (b = true → m = fs.length ∧ w'.ownsRow b0 100 2 (.slice q m c) m (iCells (itemsF fs)))
set_option maxRecDepth 100000 in
set_option maxHeartbeats 4000000 in
theorem items_any (line:Nat) (q:Option Addr) (n c:Nat) (fs:List Fact) (w:World) (hn:fs.length = n) (hm:n ≤ 24000) (hr:Rd w q (fCells fs)) (ho:∀ f ∈ fs,f.Ok) :
  Calls Tryz.prog 43 #[.int .u64 (line:Int),.slice q n c] w (IPut line fs w.heap.size w):=by
 have hmk:=run_make_cap (P:=Tryz.prog) 91 100 (.agg #[.string ⟨#[]⟩,.string ⟨#[]⟩]) 2 32 Tryz.underlying91 infoItem (n:Int) n rfl (by omega) (by omega)
 have hown0:=World.ownsRow_made (base:=w.heap.size) (e:=100) (size:=2) w (madeCells (Value.agg #[.string ⟨#[]⟩,.string ⟨#[]⟩]).cells (n * 2)) n (Nat.le_refl _) (by unfold maxLen;omega) (by rw [size_madeCells])
 have Hown0:=hid hown0
 have Hn:=hid hn
 have Hr:=hid hr
 have Ho:=hid ho
 clear hn hr ho hown0
 go_enter Tryz.func43,Tryz.ntmps43
 go_wp2_with fail
 clear hmk
 go_loopw [6,16] (fun v i wr=>∃ (k:Nat) (p:Option Addr) (d:Nat),k ≤ n ∧ i = .int .i64 (k:Int) ∧ v = .slice p k d ∧ wr.ownsRow w.heap.size 100 2 (.slice p k d) k (iCells (itemsF (fs.take k))) ∧ (∀ i,i < k → GoodAt line fs i) ∧ Below w.heap.size w wr) (fun _ i _=>n - (intOf i).toNat)
 case atStart=>exact ⟨0,_,_,Nat.zero_le _,rfl,rfl,Hown0.out,fun i h=>by omega,(Below.refl _ _).alloc (Nat.le_refl _) _⟩
 case round =>
  obtain ⟨k,p,d,hk,rfl,rfl,hown,hgd,hB⟩:=hrel
  have Hown:=hid hown
  have Hgd:=hid hgd
  have HB:=hid hB
  have hbs:=hB.size
  clear hown hgd hB Hown0
  by_cases hlt:k < n
  ·have hkl:k < fs.length:=by rw [Hn.out];exact hlt
   obtain ⟨bq,off,rfl,hbq,hfa⟩:=fact_at (Hr.out.below HB.out) hkl
   obtain ⟨f,hf⟩:∃ f,f = fs[k]:=⟨_,rfl⟩
   rw [← hf] at hfa
   have hok:=Ho.out _ (List.getElem_mem hkl)
   rw [← hf] at hok
   have Hf:=hid hf
   clear hf
   have hmay:=may_any
   obtain ⟨key,valid,seq,fl,kind,val⟩:=f
   obtain ⟨a0,a1,a2,a3,a4,a5⟩:=hfa
   dsimp only at a0 a1 a2 a3 a4 a5
   have i0:(0:Int) ≤ (k:Int):=by omega
   have i1:(k:Int) < (n:Int):=by omega
   have Hok:=hid hok
   clear hok hmay
   go_upto_region 5 with (fail)
   have hba:(wr.alloc (.cells #[.string key,.int .u32 (valid:Int),.int .u64 (seq:Int),.int .u64 (fl:Int),.int .u8 (kind:Int),.string val] 27)).heap[wr.heap.size]? = some (.cells #[.string key,.int .u32 (valid:Int),.int .u64 (seq:Int),.int .u64 (fl:Int),.int .u8 (kind:Int),.string val] 27 (0,0)):=heap_alloc_new _ _
   generalize hwa:wr.alloc (.cells #[.string key,.int .u32 (valid:Int),.int .u64 (seq:Int),.int .u64 (fl:Int),.int .u8 (kind:Int),.string val] 27) = wa at hba
   obtain ⟨X,hX⟩:∃ X,X = wr.heap.size:=⟨_,rfl⟩
   have hBa:Below wr.heap.size wr wa:=by rw [← hwa];exact (Below.refl _ _).alloc (Nat.le_refl _) _
   have hXa:X < wa.heap.size:=by rw [← hwa,hX];simp
   rw [← hX] at hba ⊢
   have Howna:=hid (own_below Hown.out hBa)
   have HBa:=hid (HB.out.trans (hBa.mono hbs))
   have Hba:=hid hba
   have Hr2:=hid (Hr.out.below HBa.out)
   have hwX:w.heap.size ≤ X:=by omega
   have cells:∀ w',Below wa.heap.size wa w' → FactAt w' X 0 ⟨key,valid,seq,fl,kind,val⟩:=fun w' hb=>by
    have h:=(hb.block X hXa).trans hba
    exact ⟨(cell_of_row w' _ _ _ _ _ h).trans rfl,(cell_of_row w' _ _ _ _ _ h).trans rfl,(cell_of_row w' _ _ _ _ _ h).trans rfl,(cell_of_row w' _ _ _ _ _ h).trans rfl,(cell_of_row w' _ _ _ _ _ h).trans rfl,(cell_of_row w' _ _ _ _ _ h).trans rfl⟩
   have HC:=hid cells
   obtain ⟨e0,e1,e2,e3,e4,e5⟩:=HC.out wa (Below.refl _ _)
   dsimp only [Nat.zero_add] at e0 e1 e2 e3 e4 e5
   clear hba hBa hwa Hown hX cells a0 a1 a2 a3 a4 a5
   have bad:¬ GoodAt line fs k → ∀ (w':World),Below wa.heap.size wa w' → IPut line fs w.heap.size w (.returned (.tuple #[.slice none 0 0,.bool false])) w':=fun hb w' hw =>
    ⟨HBa.out.trans (hw.mono (by omega)),none,0,false,.inl ⟨rfl,fun h=>hb (h.1 k hkl)⟩,0,rfl,fun h=>by cases h⟩
   have HBad:=hid bad
   clear bad
   by_cases hmf:mayF ⟨key,valid,seq,fl,kind,val⟩ = true
   ·have HK:=hid (kput_ok ⟨key,valid,seq,fl,kind,val⟩ Hok.out wa hmf)
    unfold Fact.cells at HK
    by_cases hli:fl = line
    ·have b1:((fl:Int) != (line:Int)) = false:=by simp [hli]
     by_cases hvs:val.size ≤ 256
     ·have b2:decide ((256:Int) < (val.size:Int)) = false:=by simp;omega
      by_cases hk0:k = 0
      ·subst hk0
       have b3:decide ((0:Int) < ((0:Nat):Int)) = false:=rfl
       have hgood:GoodAt line fs 0:=⟨hkl,by rw [← Hf.out];exact hmf,by rw [← Hf.out];exact hli,by rw [← Hf.out];exact hvs,fun j hj=>by omega⟩
       have HGood:=hid hgood
       clear hgood hmf hli hvs
       go_wp2_with fail
       (with_reducible refine HK.out.mono ?_)
       rintro e w3 ⟨q9,rfl,hf9,hb3⟩
       obtain ⟨f0,f1,f2,f3,f4,f5⟩:=HC.out _ hb3
       dsimp only [Nat.zero_add] at f0 f1 f2 f3 f4 f5
       obtain ⟨CC,hCC⟩:∃ CC:World → Prop,CC = fun w'=>Below w3.heap.size w3 w':=⟨_,rfl⟩
       have hs3:=hb3.size
       have Hb3:=hid hb3
       have Hf9:=hid hf9
       clear hb3 hf9 e0 e1 e2 e3 e4 e5
       go_upto_region 6 with (fail)
       have CD:CC { w3 with drawn:=w3.drawn + 1 }:=by rw [hCC];exact (Below.refl _ _).drew
       have hSA:∀ w',CC w' → w'.cell? ⟨X,0,none⟩ = some (.string key) ∧ w'.cell? ⟨X,1,none⟩ = some (.int .u32 (valid:Int)) ∧ w'.cell? ⟨X,2,none⟩ = some (.int .u64 (seq:Int)) ∧ w'.cell? ⟨X,3,none⟩ = some (.int .u64 (fl:Int)) ∧ w'.cell? ⟨X,4,none⟩ = some (.int .u8 (kind:Int)) ∧ w'.cell? ⟨X,5,none⟩ = some (.string val):=fun w' h=>by
        rw [hCC] at h
        have hb:=Hb3.out.trans (h.mono hs3)
        obtain ⟨f0,f1,f2,f3,f4,f5⟩:=HC.out _ hb
        exact ⟨f0,f1,f2,f3,f4,f5⟩
       have HCmp:=hid (trivial)
       have HSA:=hid hSA
       have HCC:=hid hCC
       clear hSA hCC
       refine region_quiet_c (C:=CC) (by kernel_rfl) (by kernel_rfl) CD ?_
       repeat (go_big_quiet_step ((intro hw';first | (with_reducible exact rfl) | (have hc:=HSA.out _ hw';go_simp;with_reducible exact rfl))))
       refine wpQuiet_nil ?_
       intro w5 hw5
       rw [HCC.out] at hw5
       have hb5:=Hb3.out.trans (hw5.mono hs3)
       have hX5:w5.cell? ⟨X,5,none⟩ = some (.string val):=by have:=(HC.out _ hb5).c5;dsimp only [Nat.zero_add] at this;exact this
       have hcv:=convB w5 q9 (kput ⟨key,valid,seq,fl,kind,val⟩).length (kput ⟨key,valid,seq,fl,kind,val⟩).length (kput ⟨key,valid,seq,fl,kind,val⟩) rfl ((Hf9.out.below (hw5.mono (Nat.le_refl _))).rd)
       have Hown5:=hid (own_below Howna.out hb5)
       have HB5:=hid (HBa.out.trans (hb5.mono (by omega)))
       have hs5:=hb5.size
       obtain ⟨KS,hKS⟩:∃ KS:ByteArray,KS = ⟨(kput ⟨key,valid,seq,fl,kind,val⟩).toArray⟩:=⟨_,rfl⟩
       rw [← hKS] at hcv
       have HKS:=hid hKS
       clear hb5 hw5 hKS
       go_wp2_with (refine wpList_append_src rfl (.tmp 54) (.tmp 60) 91 91 rfl w.heap.size 100 (.agg #[.string ⟨#[]⟩,.string ⟨#[]⟩]) 2 32 Tryz.underlying91 infoItem rfl (by decide) p 0 d _ rfl (own_below Hown5.out ((Below.refl _ _).alloc (Nat.le_refl _) _)) _ 1 [.string KS,.string val] rfl (src_rd (by decide) Tryz.underlying91 1 rfl (Rd.new w5 [.string KS,.string val] 100) (by simp [Value.oneCell'])) (by unfold maxLen;omega) (by omega) (by simp;omega) ?_;intro q' c' w6 hown6 hg6 _;have P6:=hid (And.intro hown6 hg6);clear hown6 hg6)
       obtain ⟨hown6,hg6⟩:=P6.out
       go_roundw
       case rel =>
        refine ⟨0 + 1,q',c',by omega,by go_num,rfl, ?_,fun i hi => ?_,(HB5.out.alloc (by omega) _).grown hg6 (by simp;omega) (fun g hg=>(Hown5.out.lt g hg).1)⟩
        ·have e:itemsF (fs.take (0 + 1)) = itemsF (fs.take (0)) ++ [⟨KS,val⟩]:=by
          unfold itemsF
          rw [List.take_succ_eq_append_getElem hkl,List.map_append,← Hf.out,HKS.out];rfl
         rw [e,iCells_append]
         exact hown6
        ·by_cases e:i = 0
         ·subst e;exact HGood.out
         ·exact Hgd.out i (by omega)
       case measure=>simp [intOf];omega
      ·obtain ⟨j,rfl⟩:∃ j,k = j + 1:=⟨k - 1,by omega⟩
       have b3:decide ((0:Int) < ((j + 1:Nat):Int)) = true:=by simp
       have s1:IntKind.i64.wrap (((j + 1:Nat):Int) - 1) = (j:Int):=by rw [IntWalk.i64_in _ (by omega)];omega
       have j0:(0:Int) ≤ (j:Int):=by omega
       have j1:(j:Int) < (n:Int):=by omega
       obtain ⟨g,hg⟩:∃ g,g = fs[j]:=⟨_,rfl⟩
       have hgg:∀ w',Below wa.heap.size wa w' → FactAt w' bq (off + j * 6) g:=fun w' hb=>by
        obtain ⟨b',off',e,_,h⟩:=fact_at (j:=j) (Hr2.out.below hb) (by omega)
        cases e
        rw [hg];exact h
       obtain ⟨C,hC⟩:∃ C,C = cmpF g ⟨key,valid,seq,fl,kind,val⟩:=⟨_,rfl⟩
       have Hg:=hid hg
       clear hg
       obtain ⟨gk,gv,gs,gl,gd,gx⟩:=g
       have HG:=hid hgg
       have HCV:=hid hC
       clear hgg hC
       by_cases hcm:C < 0
       ·have b4:decide ((0:Int) ≤ C) = false:=by simp;omega
        have hgood:GoodAt line fs (j + 1):=⟨hkl,by rw [← Hf.out];exact hmf,by rw [← Hf.out];exact hli,by rw [← Hf.out];exact hvs,fun i hi=>by
         obtain rfl:i = j:=by omega
         rw [← Hf.out,← Hg.out,← HCV.out];exact hcm⟩
        have HGood:=hid hgood
        clear hgood hmf hli hvs hcm
        go_wp2_with fail
        (with_reducible refine HK.out.mono ?_)
        rintro e w3 ⟨q9,rfl,hf9,hb3⟩
        obtain ⟨f0,f1,f2,f3,f4,f5⟩:=HC.out _ hb3
        dsimp only [Nat.zero_add] at f0 f1 f2 f3 f4 f5
        obtain ⟨CC,hCC⟩:∃ CC:World → Prop,CC = fun w'=>Below w3.heap.size w3 w':=⟨_,rfl⟩
        have hs3:=hb3.size
        have Hb3:=hid hb3
        have Hf9:=hid hf9
        clear hb3 hf9 e0 e1 e2 e3 e4 e5
        go_upto_region 6 with (fail)
        have CD:CC { w3 with drawn:=w3.drawn + 1 }:=by rw [hCC];exact (Below.refl _ _).drew
        have hSA:∀ w',CC w' → w'.cell? ⟨X,0,none⟩ = some (.string key) ∧ w'.cell? ⟨X,1,none⟩ = some (.int .u32 (valid:Int)) ∧ w'.cell? ⟨X,2,none⟩ = some (.int .u64 (seq:Int)) ∧ w'.cell? ⟨X,3,none⟩ = some (.int .u64 (fl:Int)) ∧ w'.cell? ⟨X,4,none⟩ = some (.int .u8 (kind:Int)) ∧ w'.cell? ⟨X,5,none⟩ = some (.string val) ∧ w'.cell? ⟨bq,off + j * 6,none⟩ = some (.string gk) ∧ w'.cell? ⟨bq,off + j * 6 + 1,none⟩ = some (.int .u32 (gv:Int)) ∧ w'.cell? ⟨bq,off + j * 6 + 2,none⟩ = some (.int .u64 (gs:Int)) ∧ w'.cell? ⟨bq,off + j * 6 + 3,none⟩ = some (.int .u64 (gl:Int)) ∧ w'.cell? ⟨bq,off + j * 6 + 4,none⟩ = some (.int .u8 (gd:Int)) ∧ w'.cell? ⟨bq,off + j * 6 + 5,none⟩ = some (.string gx):=fun w' h=>by
         rw [hCC] at h
         have hb:=Hb3.out.trans (h.mono hs3)
         obtain ⟨f0,f1,f2,f3,f4,f5⟩:=HC.out _ hb
         obtain ⟨g0,g1,g2,g3,g4,g5⟩:=HG.out _ hb
         dsimp only at g0 g1 g2 g3 g4 g5
         exact ⟨f0,f1,f2,f3,f4,f5,g0,g1,g2,g3,g4,g5⟩
        have hCmp:∀ w',CC w' → Calls Tryz.prog 86 #[.agg #[.string gk,.int .u32 (gv:Int),.int .u64 (gs:Int),.int .u64 (gl:Int),.int .u8 (gd:Int),.string gx],.agg #[.string key,.int .u32 (valid:Int),.int .u64 (seq:Int),.int .u64 (fl:Int),.int .u8 (kind:Int),.string val]] w' fun e w''=>e = .returned (.int .i64 C) ∧ CC w'':=fun w' h=>by
         have hh:=cmpF_any ⟨gk,gv,gs,gl,gd,gx⟩ ⟨key,valid,seq,fl,kind,val⟩ w'
         rw [← HCV.out] at hh
         rw [hCC] at h ⊢
         exact hh.mono fun _ _ ⟨h1,h2⟩=>⟨h1,h.trans (h2.mono h.size)⟩
        have HCmp:=hid hCmp
        have HSA:=hid hSA
        have HCC:=hid hCC
        clear hSA hCC hCmp
        refine region_quiet_c (C:=CC) (by kernel_rfl) (by kernel_rfl) CD ?_
        repeat (go_big_quiet_step ((intro hw';first | (with_reducible exact rfl) | (have hc:=HSA.out _ hw';go_simp;with_reducible exact rfl) | (go_at_call 86;exact HCmp.out _ hw'))))
        refine wpQuiet_nil ?_
        intro w5 hw5
        rw [HCC.out] at hw5
        have hb5:=Hb3.out.trans (hw5.mono hs3)
        have hX5:w5.cell? ⟨X,5,none⟩ = some (.string val):=by have:=(HC.out _ hb5).c5;dsimp only [Nat.zero_add] at this;exact this
        have hcv:=convB w5 q9 (kput ⟨key,valid,seq,fl,kind,val⟩).length (kput ⟨key,valid,seq,fl,kind,val⟩).length (kput ⟨key,valid,seq,fl,kind,val⟩) rfl ((Hf9.out.below (hw5.mono (Nat.le_refl _))).rd)
        have Hown5:=hid (own_below Howna.out hb5)
        have HB5:=hid (HBa.out.trans (hb5.mono (by omega)))
        have hs5:=hb5.size
        obtain ⟨KS,hKS⟩:∃ KS:ByteArray,KS = ⟨(kput ⟨key,valid,seq,fl,kind,val⟩).toArray⟩:=⟨_,rfl⟩
        rw [← hKS] at hcv
        have HKS:=hid hKS
        clear hb5 hw5 hKS
        go_wp2_with (refine wpList_append_src rfl (.tmp 54) (.tmp 60) 91 91 rfl w.heap.size 100 (.agg #[.string ⟨#[]⟩,.string ⟨#[]⟩]) 2 32 Tryz.underlying91 infoItem rfl (by decide) p (j + 1) d _ rfl (own_below Hown5.out ((Below.refl _ _).alloc (Nat.le_refl _) _)) _ 1 [.string KS,.string val] rfl (src_rd (by decide) Tryz.underlying91 1 rfl (Rd.new w5 [.string KS,.string val] 100) (by simp [Value.oneCell'])) (by unfold maxLen;omega) (by omega) (by simp;omega) ?_;intro q' c' w6 hown6 hg6 _;have P6:=hid (And.intro hown6 hg6);clear hown6 hg6)
        obtain ⟨hown6,hg6⟩:=P6.out
        go_roundw
        case rel =>
         refine ⟨(j + 1) + 1,q',c',by omega,by go_num,rfl, ?_,fun i hi => ?_,(HB5.out.alloc (by omega) _).grown hg6 (by simp;omega) (fun g hg=>(Hown5.out.lt g hg).1)⟩
         ·have e:itemsF (fs.take ((j + 1) + 1)) = itemsF (fs.take ((j + 1))) ++ [⟨KS,val⟩]:=by
           unfold itemsF
           rw [List.take_succ_eq_append_getElem hkl,List.map_append,← Hf.out,HKS.out];rfl
          rw [e,iCells_append]
          exact hown6
         ·by_cases e:i = (j + 1)
          ·subst e;exact HGood.out
          ·exact Hgd.out i (by omega)
        case measure=>simp [intOf];omega
       ·have b4:decide ((0:Int) ≤ C) = true:=by simp;omega
        have hbd:¬ GoodAt line fs (j + 1):=fun ⟨_,_,_,_,h⟩=>by
         have:=h j rfl
         rw [← Hf.out,← Hg.out,← HCV.out] at this;exact hcm this
        have HBd:=hid hbd
        clear hbd hmf hli hvs hcm
        go_wp2_with fail
        (with_reducible refine HK.out.mono ?_)
        rintro e w3 ⟨q9,rfl,hf9,hb3⟩
        obtain ⟨f0,f1,f2,f3,f4,f5⟩:=HC.out _ hb3
        dsimp only [Nat.zero_add] at f0 f1 f2 f3 f4 f5
        obtain ⟨CC,hCC⟩:∃ CC:World → Prop,CC = fun w'=>Below w3.heap.size w3 w':=⟨_,rfl⟩
        have hs3:=hb3.size
        have Hb3:=hid hb3
        have Hf9:=hid hf9
        clear hb3 hf9 e0 e1 e2 e3 e4 e5
        go_upto_region 6 with (fail)
        have CD:CC { w3 with drawn:=w3.drawn + 1 }:=by rw [hCC];exact (Below.refl _ _).drew
        have hSA:∀ w',CC w' → w'.cell? ⟨X,0,none⟩ = some (.string key) ∧ w'.cell? ⟨X,1,none⟩ = some (.int .u32 (valid:Int)) ∧ w'.cell? ⟨X,2,none⟩ = some (.int .u64 (seq:Int)) ∧ w'.cell? ⟨X,3,none⟩ = some (.int .u64 (fl:Int)) ∧ w'.cell? ⟨X,4,none⟩ = some (.int .u8 (kind:Int)) ∧ w'.cell? ⟨X,5,none⟩ = some (.string val) ∧ w'.cell? ⟨bq,off + j * 6,none⟩ = some (.string gk) ∧ w'.cell? ⟨bq,off + j * 6 + 1,none⟩ = some (.int .u32 (gv:Int)) ∧ w'.cell? ⟨bq,off + j * 6 + 2,none⟩ = some (.int .u64 (gs:Int)) ∧ w'.cell? ⟨bq,off + j * 6 + 3,none⟩ = some (.int .u64 (gl:Int)) ∧ w'.cell? ⟨bq,off + j * 6 + 4,none⟩ = some (.int .u8 (gd:Int)) ∧ w'.cell? ⟨bq,off + j * 6 + 5,none⟩ = some (.string gx):=fun w' h=>by
         rw [hCC] at h
         have hb:=Hb3.out.trans (h.mono hs3)
         obtain ⟨f0,f1,f2,f3,f4,f5⟩:=HC.out _ hb
         obtain ⟨g0,g1,g2,g3,g4,g5⟩:=HG.out _ hb
         dsimp only at g0 g1 g2 g3 g4 g5
         exact ⟨f0,f1,f2,f3,f4,f5,g0,g1,g2,g3,g4,g5⟩
        have hCmp:∀ w',CC w' → Calls Tryz.prog 86 #[.agg #[.string gk,.int .u32 (gv:Int),.int .u64 (gs:Int),.int .u64 (gl:Int),.int .u8 (gd:Int),.string gx],.agg #[.string key,.int .u32 (valid:Int),.int .u64 (seq:Int),.int .u64 (fl:Int),.int .u8 (kind:Int),.string val]] w' fun e w''=>e = .returned (.int .i64 C) ∧ CC w'':=fun w' h=>by
         have hh:=cmpF_any ⟨gk,gv,gs,gl,gd,gx⟩ ⟨key,valid,seq,fl,kind,val⟩ w'
         rw [← HCV.out] at hh
         rw [hCC] at h ⊢
         exact hh.mono fun _ _ ⟨h1,h2⟩=>⟨h1,h.trans (h2.mono h.size)⟩
        have HCmp:=hid hCmp
        have HSA:=hid hSA
        have HCC:=hid hCC
        clear hSA hCC hCmp
        refine region_quiet_c (C:=CC) (by kernel_rfl) (by kernel_rfl) CD ?_
        repeat (go_big_quiet_step ((intro hw';first | (with_reducible exact rfl) | (have hc:=HSA.out _ hw';go_simp;with_reducible exact rfl) | (go_at_call 86;exact HCmp.out _ hw'))))
        refine wpQuiet_nil ?_
        intro w5 hw5
        rw [HCC.out] at hw5
        go_wp2_with fail
        go_ret2
        exact HBad.out HBd.out _ (Hb3.out.trans (hw5.mono hs3))
     ·have b2:decide ((256:Int) < (val.size:Int)) = true:=by simp;omega
      have hbd:¬ GoodAt line fs k:=fun ⟨_,_,_,h,_⟩=>by rw [← Hf.out] at h;exact hvs h
      have HBd:=hid hbd
      clear hbd hmf hli hvs
      go_wp2_with fail
      (with_reducible refine HK.out.mono ?_)
      rintro e w3 ⟨q9,rfl,hf9,hb3⟩
      obtain ⟨f0,f1,f2,f3,f4,f5⟩:=HC.out _ hb3
      dsimp only [Nat.zero_add] at f0 f1 f2 f3 f4 f5
      obtain ⟨CC,hCC⟩:∃ CC:World → Prop,CC = fun w'=>Below w3.heap.size w3 w':=⟨_,rfl⟩
      have hs3:=hb3.size
      have Hb3:=hid hb3
      have Hf9:=hid hf9
      clear hb3 hf9 e0 e1 e2 e3 e4 e5
      go_upto_region 6 with (fail)
      have CD:CC { w3 with drawn:=w3.drawn + 1 }:=by rw [hCC];exact (Below.refl _ _).drew
      have hSA:∀ w',CC w' → w'.cell? ⟨X,0,none⟩ = some (.string key) ∧ w'.cell? ⟨X,1,none⟩ = some (.int .u32 (valid:Int)) ∧ w'.cell? ⟨X,2,none⟩ = some (.int .u64 (seq:Int)) ∧ w'.cell? ⟨X,3,none⟩ = some (.int .u64 (fl:Int)) ∧ w'.cell? ⟨X,4,none⟩ = some (.int .u8 (kind:Int)) ∧ w'.cell? ⟨X,5,none⟩ = some (.string val):=fun w' h=>by
       rw [hCC] at h
       have hb:=Hb3.out.trans (h.mono hs3)
       obtain ⟨f0,f1,f2,f3,f4,f5⟩:=HC.out _ hb
       exact ⟨f0,f1,f2,f3,f4,f5⟩
      have HCmp:=hid (trivial)
      have HSA:=hid hSA
      have HCC:=hid hCC
      clear hSA hCC
      refine region_quiet_c (C:=CC) (by kernel_rfl) (by kernel_rfl) CD ?_
      repeat (go_big_quiet_step ((intro hw';first | (with_reducible exact rfl) | (have hc:=HSA.out _ hw';go_simp;with_reducible exact rfl))))
      refine wpQuiet_nil ?_
      intro w5 hw5
      rw [HCC.out] at hw5
      go_wp2_with fail
      go_ret2
      exact HBad.out HBd.out _ (Hb3.out.trans (hw5.mono hs3))
    ·have b1:((fl:Int) != (line:Int)) = true:=by simp;omega
     have hbd:¬ GoodAt line fs k:=fun ⟨_,_,h,_⟩=>by rw [← Hf.out] at h;exact hli h
     have HBd:=hid hbd
     clear hbd hmf hli
     go_wp2_with fail
     (with_reducible refine HK.out.mono ?_)
     rintro e w3 ⟨q9,rfl,hf9,hb3⟩
     obtain ⟨f0,f1,f2,f3,f4,f5⟩:=HC.out _ hb3
     dsimp only [Nat.zero_add] at f0 f1 f2 f3 f4 f5
     obtain ⟨CC,hCC⟩:∃ CC:World → Prop,CC = fun w'=>Below w3.heap.size w3 w':=⟨_,rfl⟩
     have hs3:=hb3.size
     have Hb3:=hid hb3
     have Hf9:=hid hf9
     clear hb3 hf9 e0 e1 e2 e3 e4 e5
     go_upto_region 6 with (fail)
     have CD:CC { w3 with drawn:=w3.drawn + 1 }:=by rw [hCC];exact (Below.refl _ _).drew
     have hSA:∀ w',CC w' → w'.cell? ⟨X,0,none⟩ = some (.string key) ∧ w'.cell? ⟨X,1,none⟩ = some (.int .u32 (valid:Int)) ∧ w'.cell? ⟨X,2,none⟩ = some (.int .u64 (seq:Int)) ∧ w'.cell? ⟨X,3,none⟩ = some (.int .u64 (fl:Int)) ∧ w'.cell? ⟨X,4,none⟩ = some (.int .u8 (kind:Int)) ∧ w'.cell? ⟨X,5,none⟩ = some (.string val):=fun w' h=>by
      rw [hCC] at h
      have hb:=Hb3.out.trans (h.mono hs3)
      obtain ⟨f0,f1,f2,f3,f4,f5⟩:=HC.out _ hb
      exact ⟨f0,f1,f2,f3,f4,f5⟩
     have HCmp:=hid (trivial)
     have HSA:=hid hSA
     have HCC:=hid hCC
     clear hSA hCC
     refine region_quiet_c (C:=CC) (by kernel_rfl) (by kernel_rfl) CD ?_
     repeat (go_big_quiet_step ((intro hw';first | (with_reducible exact rfl) | (have hc:=HSA.out _ hw';go_simp;with_reducible exact rfl))))
     refine wpQuiet_nil ?_
     intro w5 hw5
     rw [HCC.out] at hw5
     go_wp2_with fail
     go_ret2
     exact HBad.out HBd.out _ (Hb3.out.trans (hw5.mono hs3))
   ·have hmf:mayF ⟨key,valid,seq,fl,kind,val⟩ = false:=by simpa using hmf
    have hbd:¬ GoodAt line fs k:=fun ⟨h,h1,_⟩=>by rw [← Hf.out,hmf] at h1;cases h1
    have HBd:=hid hbd
    have HK:=hid (kput_no ⟨key,valid,seq,fl,kind,val⟩ wa Hok.out.key hmf)
    unfold Fact.cells at HK
    clear hmf hbd
    go_wp2_with fail
    (with_reducible refine HK.out.mono ?_)
    rintro e w3 ⟨rfl,hb3⟩
    obtain ⟨f0,f1,f2,f3,f4,f5⟩:=HC.out _ hb3
    dsimp only [Nat.zero_add] at f0 f1 f2 f3 f4 f5
    obtain ⟨CC,hCC⟩:∃ CC:World → Prop,CC = fun w'=>Below w3.heap.size w3 w':=⟨_,rfl⟩
    have hs3:=hb3.size
    have Hb3:=hid hb3
    clear hb3 e0 e1 e2 e3 e4 e5
    go_upto_region 6 with (fail)
    have CD:CC { w3 with drawn:=w3.drawn + 1 }:=by rw [hCC];exact (Below.refl _ _).drew
    have hSA:∀ w',CC w' → w'.cell? ⟨X,3,none⟩ = some (.int .u64 (fl:Int)) ∧ w'.cell? ⟨X,5,none⟩ = some (.string val):=fun w' h=>by
     rw [hCC] at h
     obtain ⟨_,_,_,f3,_,f5⟩:=HC.out _ (Hb3.out.trans (h.mono hs3))
     exact ⟨f3,f5⟩
    have HSA:=hid hSA
    have HCC:=hid hCC
    clear hSA hCC
    refine region_quiet_c (C:=CC) (by kernel_rfl) (by kernel_rfl) CD ?_
    repeat (go_big_quiet_step ((intro hw';first | (with_reducible exact rfl) | (have hc:=HSA.out _ hw';go_simp;with_reducible exact rfl))))
    refine wpQuiet_nil ?_
    intro w5 hw5
    rw [HCC.out] at hw5
    go_wp2_with fail
    go_ret2
    exact HBad.out HBd.out _ (Hb3.out.trans (hw5.mono hs3))
  ·obtain rfl:k = n:=by omega
   have hlen:=Hn.out
   have htk:fs.take k = fs:=List.take_of_length_le (by omega)
   have hgf:GoodF line fs:=fun i hi=>Hgd.out i (by omega)
   have HGF:=hid hgf
   have HTK:=hid htk
   have Hlen:=hid hlen
   clear hlen htk hgf
   by_cases h0:0 < k
   ·have d1:decide ((0:Int) < (k:Int)) = true:=by simp;omega
    go_wp2_with fail
    go_ret2
    refine ⟨HB.out,p,d,true,.inr ⟨rfl,HGF.out,by rw [Hlen.out];exact h0⟩,k, ?_,fun _=>⟨Hlen.out.symm, ?_⟩⟩
    ·first | rfl | simp [h0]
    ·have:=Hown.out;rw [HTK.out] at this;exact this
   ·obtain rfl:k = 0:=by omega
    go_wp2_with fail
    go_ret2
    exact ⟨HB.out,p,d,false,.inl ⟨rfl,fun h=>by have:=h.2;have:=Hlen.out;omega⟩,0,rfl,fun h=>by cases h⟩
end Go.Proofs.Herb
namespace Go.Proofs.Herb
open Go.RowKit
def Stays (J:World → Prop):Prop:=∀ A B,J A → Below A.heap.size A B → J B
def Turns (b0:Nat) (J:World → Prop):Prop:=∀ (W:World) (l:Nat) (o o':Obj),J W → b0 ≤ l → W.heap[l]? = some o → o.isCells = false → J (W.putObj l o')
variable {F:Fence} {n:Nat} {P:Program}
end Go.Proofs.Herb
namespace Go.Proofs.Herb
open Go.RowKit
def Goes {α:Type} (B:Nat) (Kp:World → World → Prop) (I:List α → World → Prop) (Ix:Code → List α → World → Prop) (xs:List α) (W:World):Exit → Act → World → Prop
 | .normal,_,W'=>KeepsFrom B W W' ∧ Kp W W' ∧ I xs W'
 | .ret,_,W'=>KeepsFrom B W W' ∧ Ix .ret xs W'
 | .exit id,_,W'=>KeepsFrom B W W' ∧ Ix (.exit id) xs W'
 | _,_,_=>False
def SeqGood {α:Type} (F:Fence) (n:Nat) (P:Program) (gf:Nat) (lb:Array Value) (encs : α → Array Value) (Rw:World → World → Prop) (Gd:List α → α → World → Prop) (Kp:World → World → Prop) (S:List α → Prop) (base:Nat) (Ok:World → Prop):Prop :=
 ∀ (l:Nat) (J Jx:List α → World → Prop) (W:World),base ≤ W.heap.size → Ok W → (∀ s A B,J s A → Rw A B → J s B) → (∀ s A B,Jx s A → Rw A B → Jx s B) →
  (∀ pre x W1,J pre W1 → Gd pre x W1 → YieldAt F (n - 1) P l (encs x) W1 fun e W'=>(e = .returned (.bool true) ∧ J (pre ++ [x]) W' ∧ Kp W1 W') ∨ (e = .returned (.bool false) ∧ Jx (pre ++ [x]) W')) → J [] W →
  CallsIn F n P gf (#[.func (.yield l) #[] #[]] ++ lb) W fun e W'=>(∃ v,e = .returned v) ∧ ((∃ xs,S xs ∧ J xs W') ∨ (∃ pre,Jx pre W'))
variable {F:Fence} {n:Nat} {P:Program}
theorem wpIn_range_stop {α:Type} {g:Operand} {ps:Array Tmp} {assign body:Code} {Q:Exit → Act → World → Prop} {a:Act} {w:World}
  (hro:F.round = none) (h1:1 ≤ n) {gf:Nat} {lb:Array Value} (hg:a.eval g = .func (.func gf) #[] lb) (hFg:F.fn gf) (eg:∀ args w,(callFunc gf args).run P w = .ok (.enter gf args) w)
  {encs : α → Array Value} (hps:∀ x,(encs x).size = ps.size) {Rw:World → World → Prop} {Gd:List α → α → World → Prop} {Kp:World → World → Prop} {S:List α → Prop} {base:Nat} {Ok:World → Prop}
  (hseq:SeqGood F (n - 1) P gf lb encs Rw Gd Kp S base Ok) (hbase:base ≤ w.heap.size) (hOk:∀ W,Below w.heap.size w W → Ok W)
  (hKt:∀ A B C,Kp A B → Kp B C → Kp A C) (hKb:∀ (W:World) (l:Nat) (o o':Obj),w.heap.size ≤ l → W.heap[l]? = some o → o.isCells = false → Kp W (W.putObj l o'))
  (hRk:∀ A B,Rw A B → KeepsFrom w.heap.size A B)
  (I:List α → World → Prop) (Ix:Code → List α → World → Prop) (hIb:∀ s,Stays (I s)) (hIr:∀ s A B,I s A → Rw A B → I s B) (hXr:∀ c s A B,Ix c s A → Rw A B → Ix c s B) (hIp:∀ s,Turns w.heap.size (I s)) (hXp:∀ c s,Turns w.heap.size (Ix c s)) (hGp:∀ s x,Turns w.heap.size (Gd s x)) (h0:I [] w) (a₁ : α → Act)
  (hassign:∀ (l:Nat) (x : α) (W:World) (K:Act → World → Prop),K (a₁ x) W →
   assign.wpIn (F.inRound l) (n - 1 - 1) P (Exit.then K (fun _ _ _=>False)) { tmps:=(ps.zip (encs x)).foldl (fun t (p,v)=>t.setIfInBounds p v) a.tmps,defers:=[] } W)
  (hbody:∀ (l:Nat) (pre:List α) (x : α) (W:World),w.heap.size ≤ l → I pre W → Gd pre x W → body.wpIn (F.inRound l) (n - 1 - 1) P (Goes w.heap.size Kp I Ix (pre ++ [x]) W) (a₁ x) W)
  (hdone:∀ (D:Nat) (xs:List α) (W:World),w.heap.size ≤ D → S xs → I xs W → W.heap[D]? = some (.deferred (some [])) → Q .normal { a with defers := { target:=.collected D,args := #[] } :: a.defers } W)
  (hstop:∀ (D:Nat) (c:Code) (pre:List α) (W:World),w.heap.size ≤ D → Ix c pre W → W.heap[D]? = some (.deferred (some [])) → c.wpIn F n P Q { a with defers := { target:=.collected D,args := #[] } :: a.defers } W) :
  (Code.rangeFunc g ps assign body).wpIn F n P Q a w:=by
 refine wpIn_rangeFunc fun fn hfn => ?_
 rw [hro]
 obtain ⟨rec,hrec⟩:∃ rec:LoopState → Option Code → Loop,rec = fun st pe => { state:=st,pending:=pe,fn,tmps:=a.tmps,params:=ps,assign,body,defers:=w.heap.size }:=⟨_,rfl⟩
 obtain ⟨V,hV⟩:∃ V,(w.alloc (.deferred (some []))).alloc (.loop (rec .ready none)) = V:=⟨_,rfl⟩
 have hVb:Below w.heap.size w V:=by rw [← hV];exact ((Below.refl _ w).alloc (Nat.le_refl _) _).alloc (by simp) _
 have hVD:V.heap[w.heap.size]? = some (.deferred (some [])):=by rw [← hV];exact (Below.heap_alloc _ _ _ (by simp)).trans (World.alloc_heap_new w _)
 have hVL:V.heap[w.heap.size + 1]? = some (.loop (rec .ready none)):=by
  rw [← hV];have h:=World.alloc_heap_new (w.alloc (.deferred (some []))) (.loop (rec .ready none))
  rwa [World.size_alloc] at h
 have lt_of:∀ {W:World} {k:Nat} {o:Obj},W.heap[k]? = some o → k < W.heap.size:=fun h=>(Array.getElem?_eq_some_iff.1 h).1
 have hVs:w.heap.size ≤ V.heap.size:=hVb.size
 refine ⟨w.heap.size + 1,[{ target:=.collected w.heap.size,args := #[] }],V, { target:=.fn (.func gf) lb,args := #[.func (.yield (w.heap.size + 1)) #[] #[]] },V,gf,
  #[.func (.yield (w.heap.size + 1)) #[] #[]] ++ lb,V, ?_, ?_, ?_, ?_,fun _=>h1, ?_⟩
 ·rw [← hV,hrec];exact run_enterLoop_outer _ _ _ _ _
 ·simp only [resolve,hg];simp [go_sem]
 ·intro f' hf';simp [Target.leads] at hf';subst hf';exact hFg
 ·simp [invoke,go_sem,eg]
 ·refine (hseq (w.heap.size + 1)
   (fun s W=>I s W ∧ W.heap[w.heap.size + 1]? = some (.loop (rec .ready none)) ∧ W.heap[w.heap.size]? = some (.deferred (some [])))
   (fun s W=>∃ c,Ix c s W ∧ W.heap[w.heap.size + 1]? = some (.loop (rec .done (some c))) ∧ W.heap[w.heap.size]? = some (.deferred (some [])))
   V (by omega) (hOk V hVb) ?_ ?_ ?_ ⟨hIb _ _ _ h0 hVb,hVL,hVD⟩).mono ?_
  ·intro s A B h hr
   have k:=hRk A B hr
   exact ⟨hIr s A B h.1 hr,k.same _ _ (by omega) h.2.1 rfl,k.same _ _ (Nat.le_refl _) h.2.2 rfl⟩
  ·rintro s A B ⟨c,hc,hl,hd⟩ hr
   have k:=hRk A B hr
   exact ⟨c,hXr c s A B hc hr,k.same _ _ (by omega) hl rfl,k.same _ _ (Nat.le_refl _) hd rfl⟩
  ·intro pre x W hJW hgd
   have hy:=run_yield (P:=P) (args:=encs x) hJW.2.1 (by rw [hrec];exact hps x)
   rw [hrec] at hy
   refine ⟨fn,_,assign,body,hy,roundIn_of_wpIn hfn (hassign _ x W _ ?_)⟩
   clear hy
   refine ⟨_,run_beginRound hJW.2.1 (by rw [hrec]), ?_⟩
   obtain ⟨W2,hW2⟩:∃ W2,W.putObj (w.heap.size + 1) (.loop { rec .ready none with state:=.busy }) = W2:=⟨_,rfl⟩
   have hL2:W2.heap[w.heap.size + 1]? = some (.loop { rec .ready none with state:=.busy }):=by rw [← hW2];exact World.putObj_heap_same (lt_of hJW.2.1)
   have hD2:W2.heap[w.heap.size]? = some (.deferred (some [])):=by rw [← hW2];exact (World.putObj_heap_other (by omega)).trans hJW.2.2
   have hI2:I pre W2:=by rw [← hW2];exact hIp _ _ _ _ _ hJW.1 (by omega) hJW.2.1 rfl
   have hG2:Gd pre x W2:=by rw [← hW2];exact hGp _ _ _ _ _ _ hgd (by omega) hJW.2.1 rfl
   have hK2:Kp W W2:=by rw [← hW2];exact hKb _ _ _ _ (by omega) hJW.2.1 rfl
   rw [hW2]
   have fin:∀ (jump:Option Code) (W3:World),KeepsFrom w.heap.size W2 W3 →
     (Instr.endRound (w.heap.size + 1) jump).run P W3 = .ok (.bool jump.isNone) (W3.putObj (w.heap.size + 1) (.loop (rec (if jump.isNone then .ready else .done) jump))) ∧
     W3.heap[w.heap.size + 1]? = some (.loop { rec .ready none with state:=.busy }) ∧
     (W3.putObj (w.heap.size + 1) (.loop (rec (if jump.isNone then .ready else .done) jump))).heap[w.heap.size + 1]? = some (.loop (rec (if jump.isNone then .ready else .done) jump)) ∧
     (W3.putObj (w.heap.size + 1) (.loop (rec (if jump.isNone then .ready else .done) jump))).heap[w.heap.size]? = some (.deferred (some [])):=fun jump W3 hk3=>by
    have hl3:=hk3.same _ _ (by omega) hL2 rfl
    have:=run_endRound (P:=P) jump hl3
    rw [hrec] at this ⊢
    exact ⟨this,by rw [hrec] at hl3;exact hl3,World.putObj_heap_same (lt_of hl3),(World.putObj_heap_other (by omega)).trans (hk3.same _ _ (Nat.le_refl _) hD2 rfl)⟩
   refine wpIn_mono (hbody _ pre x W2 (by omega) hI2 hG2) fun e a3 W3 hp => ?_
   cases e with
   | normal =>
    obtain ⟨hk,hkp,hi⟩:=hp
    obtain ⟨hr,hl3,hl4,hk4⟩:=fin none W3 hk
    exact ⟨_,_,hr,.inl ⟨rfl,⟨hIp _ _ _ _ _ hi (by omega) hl3 rfl,hl4,hk4⟩,hKt _ _ _ (hKt _ _ _ hK2 hkp) (hKb _ _ _ _ (by omega) hl3 rfl)⟩⟩
   | ret =>
    obtain ⟨hk,hi⟩:=hp
    obtain ⟨hr,hl3,hl4,hk4⟩:=fin (some .ret) W3 hk
    exact ⟨_,_,hr,.inr ⟨rfl,.ret,hXp _ _ _ _ _ _ hi (by omega) hl3 rfl,hl4,hk4⟩⟩
   | exit id =>
    obtain ⟨hk,hi⟩:=hp
    obtain ⟨hr,hl3,hl4,hk4⟩:=fin (some (.exit id)) W3 hk
    exact ⟨_,_,hr,.inr ⟨rfl,.exit id,hXp _ _ _ _ _ _ hi (by omega) hl3 rfl,hl4,hk4⟩⟩
   | _=>exact hp.elim
  ·rintro e W ⟨⟨v,rfl⟩,(⟨xs,hS,hi,hl,hd⟩ | ⟨pre,c,hi,hl,hd⟩)⟩
   ·exact ⟨none,_,by have:=run_endLoop (P:=P) hl (by rw [hrec];simp);rw [hrec] at this;exact this,hdone _ xs _ (Nat.le_refl _) hS (hIp _ _ _ _ _ hi (by omega) hl rfl) ((World.putObj_heap_other (by omega)).trans hd)⟩
   ·exact ⟨some c,_,by have:=run_endLoop (P:=P) hl (by rw [hrec];simp);rw [hrec] at this;exact this,hstop _ c pre _ (Nat.le_refl _) (hXp _ _ _ _ _ _ hi (by omega) hl rfl) ((World.putObj_heap_other (by omega)).trans hd)⟩
structure Only (R:Nat → Prop) (A B:World):Prop where
 os:B.os = A.os
 tape:B.tape = A.tape
 output:B.output = A.output
 size:A.heap.size ≤ B.heap.size
 same:∀ (g:Nat) (o:Obj),A.heap[g]? = some o → ¬ R g → B.heap[g]? = some o
 recd:∀ (g:Nat) (o:Obj),A.heap[g]? = some o → o.isCells = false → B.heap[g]? = some o
 kind:∀ (g:Nat) (cs:Array Value) (t:TypeId) (fr:Nat × Nat),A.heap[g]? = some (.cells cs t fr) → ∃ cs',B.heap[g]? = some (.cells cs' t fr)
theorem Only.of_below {R:Nat → Prop} {A B:World} (h:Below A.heap.size A B):Only R A B :=
 have k:∀ (g:Nat) (o:Obj),A.heap[g]? = some o → B.heap[g]? = some o:=fun g _ ho=>(h.block g (Array.getElem?_eq_some_iff.1 ho).1).trans ho
 ⟨h.os,h.tape,h.output,h.size,fun g o ho _=>k g o ho,fun g _ ho _=>k g _ ho,fun g cs _ _ ho=>⟨cs,k g _ ho⟩⟩
theorem Only.refl (R:Nat → Prop) (A:World):Only R A A:=.of_below (Below.refl _ _)
theorem Only.trans {R:Nat → Prop} {A B C:World} (h:Only R A B) (k:Only R B C):Only R A C :=
 ⟨k.os.trans h.os,k.tape.trans h.tape,k.output.trans h.output,Nat.le_trans h.size k.size,fun g o ho hn=>k.same g o (h.same g o ho hn) hn,fun g o ho hc=>k.recd g o (h.recd g o ho hc) hc,fun g cs t fr ho=>by
  obtain ⟨cs',h'⟩:=h.kind g cs t fr ho
  exact k.kind g cs' t fr h'⟩
theorem Only.set {R:Nat → Prop} {A:World} {g:Nat} {t:TypeId} {v:Value} (hb:Boxed A g t v) (hg:R g) (u:Value):Only R A (A.setCell ⟨g,0,none⟩ u) :=
 ⟨rfl,rfl,rfl,by rw [World.size_setCell];exact Nat.le_refl _,
  fun k o ho hn=>((grownBy_setCell' A g u).block k (Array.getElem?_eq_some_iff.1 ho).1 (fun e=>hn (by cases e;exact hg))).trans ho,
  fun k o ho hc=>by
   by_cases e:k = g
   ·subst e;rw [show A.heap[k]? = _ from hb] at ho;cases ho;cases hc
   ·exact ((grownBy_setCell' A g u).block k (Array.getElem?_eq_some_iff.1 ho).1 (fun e'=>e (by cases e';rfl))).trans ho,
  fun k cs t' fr ho=>by
   by_cases e:k = g
   ·subst e;rw [show A.heap[k]? = _ from hb] at ho;cases ho;exact ⟨_,hb.set u⟩
   ·exact ⟨cs,((grownBy_setCell' A g u).block k (Array.getElem?_eq_some_iff.1 ho).1 (fun e'=>e (by cases e';rfl))).trans ho⟩⟩
theorem Only.keeps {R:Nat → Prop} {A B:World} (h:Only R A B) (b:Nat):KeepsFrom b A B:=⟨h.size,fun k o _ hk ho=>h.recd k o hk ho⟩
theorem Only.below {R:Nat → Prop} {A B:World} (h:Only R A B) {b:Nat} (hb:b ≤ A.heap.size) (hR:∀ g,g < b → ¬ R g):Below b A B :=
 ⟨h.os,h.tape,h.output,h.size,fun k hk=>by
  obtain ⟨o,ho⟩:∃ o,A.heap[k]? = some o:=⟨_,Array.getElem?_eq_getElem (by omega)⟩
  rw [ho];exact h.same k o ho (hR k hk)⟩
theorem Only.boxed {R:Nat → Prop} {A B:World} (h:Only R A B) {g:Nat} {t:TypeId} {v:Value} (hb:Boxed A g t v) (hg:¬ R g):Boxed B g t v:=h.same g _ hb hg
def HasKind (W:World) (g:Nat) (t:TypeId):Prop:=∃ cs fr,W.heap[g]? = some (.cells cs t fr)
theorem HasKind.only {R:Nat → Prop} {A B:World} (h:Only R A B) {g:Nat} {t:TypeId} (hk:HasKind A g t):HasKind B g t:=by
 obtain ⟨cs,fr,ho⟩:=hk
 obtain ⟨cs',h'⟩:=h.kind g cs t fr ho
 exact ⟨cs',fr,h'⟩
theorem HasKind.lt {W:World} {g:Nat} {t:TypeId} (h:HasKind W g t):g < W.heap.size:=by
 obtain ⟨cs,fr,ho⟩:=h;exact (Array.getElem?_eq_some_iff.1 ho).1
theorem HasKind.below {A B:World} {g:Nat} {t:TypeId} (h:HasKind A g t) (hb:Below A.heap.size A B):HasKind B g t:=by
 obtain ⟨cs,fr,ho⟩:=h
 exact ⟨cs,fr,(hb.block g (Array.getElem?_eq_some_iff.1 ho).1).trans ho⟩
theorem own_only {R:Nat → Prop} {A B:World} (h:Only R A B) {base:Nat} {e:TypeId} {k n:Nat} {v:Value} {xs:List Value} (hr:A.ownsRow base e k v n xs) (hne:∀ g,v.ownBlock = some g → ¬ R g):B.ownsRow base e k v n xs:=by
 obtain ⟨h1,h2⟩:=hr
 refine ⟨h1, ?_⟩
 rcases h2 with h2 | ⟨g,cap,cur,hv,hg,hh,r⟩
 ·exact .inl h2
 ·exact .inr ⟨g,cap,cur,hv,hg,h.same g _ hh (hne g (by rw [hv];rfl)),r⟩
theorem own_apart {A:World} {base:Nat} {e t:TypeId} {k n:Nat} {v:Value} {xs:List Value} (hr:A.ownsRow base e k v n xs) {b:Nat} (hk:HasKind A b t) (het:e ≠ t):∀ g,v.ownBlock = some g → g ≠ b:=by
 intro g hg hgb
 subst hgb
 obtain ⟨_,h2⟩:=hr
 obtain ⟨cs,fr,ho⟩:=hk
 rcases h2 with ⟨h2,_⟩ | ⟨g',cap,cur,hv,_,hh,_⟩
 ·rw [h2] at hg;simp [Value.ownBlock] at hg
 ·rw [hv] at hg;simp [Value.ownBlock] at hg;subst hg
  rw [hh] at ho;cases ho;exact het rfl
def KeepB (b:Nat) (A B:World):Prop:=∀ o:Obj,A.heap[b]? = some o → B.heap[b]? = some o
theorem KeepB.trans {b:Nat} (A B C:World) (h:KeepB b A B) (k:KeepB b B C):KeepB b A C:=fun o ho=>k o (h o ho)
theorem KeepB.putObj {b:Nat} (W:World) (l:Nat) (_o o':Obj) (h:b ≠ l):KeepB b W (W.putObj l o'):=fun x hx=>by rw [World.putObj_heap_other h];exact hx
theorem KeepB.only {b:Nat} {R:Nat → Prop} {A B:World} (h:Only R A B) (hb:¬ R b):KeepB b A B:=fun o ho=>h.same b o ho hb
theorem HasKind.putObj {W:World} {g:Nat} {t:TypeId} (h:HasKind W g t) {l:Nat} {o:Obj} (o':Obj) (ho:W.heap[l]? = some o) (hc:o.isCells = false):HasKind (W.putObj l o') g t:=by
 obtain ⟨cs,fr,hk⟩:=h
 exact ⟨cs,fr,(World.putObj_heap_other (fun e=>by subst e;rw [ho] at hk;cases hk;cases hc)).trans hk⟩
theorem boxed_putObj {W:World} {g:Nat} {t:TypeId} {v:Value} (h:Boxed W g t v) {l:Nat} {o:Obj} (o':Obj) (ho:W.heap[l]? = some o) (hc:o.isCells = false):Boxed (W.putObj l o') g t v :=
 (World.putObj_heap_other (fun e=>by subst e;rw [show W.heap[g]? = _ from h] at ho;cases ho;cases hc)).trans h
theorem below_putObj {b:Nat} {w W:World} (h:Below b w W) {l:Nat} (hl:b ≤ l) {o:Obj} (o':Obj) (ho:W.heap[l]? = some o):Below b w (W.putObj l o') :=
 h.trans ((Below.refl b W).grown (grownBy_putObj' W l o') (Nat.le_trans hl (Nat.le_of_lt (Array.getElem?_eq_some_iff.1 ho).1)) (fun k e=>by cases e;exact hl))
def boxN (b:Nat) (w:World):Nat:=match w.cell? ⟨b,0,none⟩ with
 | some (.int _ n)=>n.toNat
 | _=>0
theorem boxN_of {w:World} {b:Nat} {t:TypeId} {k:IntKind} {m:Nat} (h:Boxed w b t (.int k (m:Int))):boxN b w = m:=by
 unfold boxN;rw [h.cell];simp
end Go.Proofs.Herb
namespace Go.Proofs.Herb
open Go.RowKit
def le4 (n:Nat):List UInt8:=[UInt8.ofNat n,UInt8.ofNat (n / 256),UInt8.ofNat (n / 65536),UInt8.ofNat (n / 16777216)]
theorem le4_form (n:Nat) (h:n < 4294967296):((n:Int) % 256) = ((UInt8.ofNat n).toNat:Int) ∧ ((n:Int) / 256 % 256) = ((UInt8.ofNat (n / 256)).toNat:Int) ∧ ((n:Int) / 65536 % 256) = ((UInt8.ofNat (n / 65536)).toNat:Int) ∧ ((n:Int) / 16777216) = ((UInt8.ofNat (n / 16777216)).toNat:Int):=by
 refine ⟨?_, ?_, ?_, ?_⟩ <;> rw [UInt8.toNat_ofNat'] <;> omega
theorem le4_rd (n:Nat) (h:n < 4294967296) (w:World):Rd (w.alloc (.cells #[.int .u8 ((n:Int) % 256),.int .u8 ((n:Int) / 256 % 256),.int .u8 ((n:Int) / 65536 % 256),.int .u8 ((n:Int) / 16777216)] 5)) (some ⟨w.heap.size,0,none⟩) ((le4 n).map bv):=by
 obtain ⟨f1,f2,f3,f4⟩:=le4_form n h
 rw [f1,f2,f3,f4]
 exact Rd.new w ((le4 n).map bv) 5
set_option maxHeartbeats 800000 in
theorem number_any (base:Nat) (q:Option Addr) (n c:Nat) (l:List UInt8) (N:Nat) (w:World) (hN:N < 4294967296) (hown:w.ownsRow base 5 1 (.slice q n c) n (l.map bv)) (hsz:n ≤ 100000000000) (hbase:base ≤ w.heap.size) :
  Calls Tryz.prog 89 #[.slice q n c,.int .u32 (N:Int)] w fun e w'=>∃ q' c',e = .returned (.slice q' (n + 4) c') ∧ Grew2 base w w' q q' (n + 4) c' (l ++ le4 N):=by
 have F:=hid (le4_rd N hN)
 have Hown:=hid hown
 clear hown
 go_enter Tryz.func89,Tryz.ntmps89
 go_wp2_with (refine app2 rfl (.tmp 5) (.tmp 17) rfl base q n c l rfl (own_below Hown.out ((Below.refl _ _).alloc (Nat.le_refl _) _)) _ 4 4 (le4 N) rfl rfl (F.out w) (by omega) (by simp;omega) ?_;intro q2 c2 w2 g2)
 go_ret
 refine ⟨_,_,rfl,⟨⟨g2.len,g2.max,g2.nil,g2.own,((Below.refl _ _).alloc hbase _).trans g2.below,fun g hg hne=>(g2.other g (by simp;omega) hne).trans (Below.heap_alloc _ _ _ hg)⟩, ?_⟩⟩
 rcases g2.place with h | ⟨g,h,hg⟩
 ·exact .inl h
 ·exact .inr ⟨g,h,by simp at hg;omega⟩
set_option maxHeartbeats 800000 in
theorem four_any (base:Nat) (q:Option Addr) (n c:Nat) (l:List UInt8) (N:Nat) (w:World) (hN:N < 4294967296) (hown:w.ownsRow base 5 1 (.slice q n c) n (l.map bv)) (hsz:n ≤ 100000000000) (hbase:base ≤ w.heap.size) :
  Calls Tryz.prog 51 #[.slice q n c,.int .u32 (N:Int)] w fun e w'=>∃ q' c',e = .returned (.slice q' (n + 4) c') ∧ Grew2 base w w' q q' (n + 4) c' (l ++ le4 N):=by
 have F:=hid (le4_rd N hN)
 have Hown:=hid hown
 clear hown
 go_enter Tryz.func51,Tryz.ntmps51
 go_wp2_with (refine app2 rfl (.tmp 5) (.tmp 17) rfl base q n c l rfl (own_below Hown.out ((Below.refl _ _).alloc (Nat.le_refl _) _)) _ 4 4 (le4 N) rfl rfl (F.out w) (by omega) (by simp;omega) ?_;intro q2 c2 w2 g2)
 go_ret
 refine ⟨_,_,rfl,⟨⟨g2.len,g2.max,g2.nil,g2.own,((Below.refl _ _).alloc hbase _).trans g2.below,fun g hg hne=>(g2.other g (by simp;omega) hne).trans (Below.heap_alloc _ _ _ hg)⟩, ?_⟩⟩
 rcases g2.place with h | ⟨g,h,hg⟩
 ·exact .inl h
 ·exact .inr ⟨g,h,by simp at hg;omega⟩
/-! rise -/
def leS (a b:ByteArray):Bool:=Op.bytesLess a.toList b.toList || a.toList == b.toList
def RiseI (l:List Item):Prop:=0 < l.length ∧ ∀ j,(h:j + 1 < l.length) → leS l[j + 1].key l[j].key = false
set_option maxRecDepth 100000 in
set_option maxHeartbeats 800000 in
theorem rise_any (q:Option Addr) (n c:Nat) (l:List Item) (w:World) (hn:l.length = n) (hm:n ≤ 1000000000) (hr:Rd w q (iCells l)) :
  Calls Tryz.prog 88 #[.slice q n c] w fun e w'=>∃ b:Bool,e = .returned (.bool b) ∧ (b = true ↔ RiseI l) ∧ Below w.heap.size w w':=by
 have Hn:=hid hn
 have Hr:=hid hr
 clear hn hr
 go_enter Tryz.func88,Tryz.ntmps88
 go_wp2
 go_loopw [6] (fun i wr=>∃ k:Nat,k ≤ n ∧ i = .int .i64 (k:Int) ∧ (∀ j,(h:j + 1 < l.length) → j + 1 < k → leS l[j + 1].key l[j].key = false) ∧ Below w.heap.size w wr) (fun i _=>n - (intOf i).toNat)
 case atStart=>exact ⟨0,Nat.zero_le _,rfl,fun j _ h=>by omega,Below.refl _ _⟩
 case round =>
  obtain ⟨k,hk,rfl,hz,hb⟩:=hrel
  have HZ:=hid hz
  have HB:=hid hb
  clear hz hb
  by_cases hlt:k < n
  ·by_cases h0:k = 0
   ·subst h0
    have d0:decide ((0:Int) < ((0:Nat):Int)) = false:=rfl
    go_upto_region 4 with (fail)
    go_quiet (fail)
    go_wp2
    go_roundw
    case rel=>exact ⟨1,by omega,by go_num,fun j _ h=>by omega,below_drewN HB.out nq⟩
    case measure=>simp [intOf];omega
   ·obtain ⟨j,rfl⟩:∃ j,k = j + 1:=⟨k - 1,by omega⟩
    have hjl:j + 1 < l.length:=by rw [Hn.out];exact hlt
    have hr2:=Hr.out.below HB.out
    obtain ⟨b,off,rfl,_,c1,_⟩:=item_at hr2 hjl
    obtain ⟨b',off',e,_,c0,_⟩:=item_at (j:=j) hr2 (by omega)
    cases e
    obtain ⟨x,hx⟩:∃ x,x = l[j + 1].key:=⟨_,rfl⟩
    obtain ⟨y,hy⟩:∃ y,y = l[j].key:=⟨_,rfl⟩
    rw [← hx] at c1
    rw [← hy] at c0
    have s1:IntKind.i64.wrap (((j + 1:Nat):Int) - 1) = (j:Int):=by rw [IntWalk.i64_in _ (by omega)];omega
    have d0:decide ((0:Int) < ((j + 1:Nat):Int)) = true:=by simp
    have i0:(0:Int) ≤ (j:Int):=by omega
    have i1:(j:Int) < (n:Int):=by omega
    have i2:(0:Int) ≤ ((j + 1:Nat):Int):=by omega
    have i3:((j + 1:Nat):Int) < (n:Int):=by omega
    by_cases hle:leS x y = true
    ·have hnr:¬ RiseI l:=fun h=>by
      have:=h.2 j hjl
      rw [← hx,← hy,hle] at this;cases this
     unfold leS at hle
     have HX:=hid hx
     have HY:=hid hy
     have HNR:=hid hnr
     clear hx hy hr2 hnr
     go_upto_region 4 with (fail)
     go_quiet (fail)
     go_wp2
     go_ret
     exact ⟨false,rfl,⟨fun h=>(by cases h),fun h=>absurd h HNR.out⟩,below_drewN HB.out nq⟩
    ·have hle2:leS x y = false:=by simpa using hle
     have hle3:=hle2
     unfold leS at hle3
     have HLE:=hid hle2
     have HX:=hid hx
     have HY:=hid hy
     clear hx hy hr2 hle hle2
     go_upto_region 4 with (fail)
     go_quiet (fail)
     go_wp2
     go_roundw
     case rel =>
      refine ⟨j + 2,by omega,by go_num,fun i hi hik => ?_,below_drewN HB.out nq⟩
      by_cases e:i = j
      ·subst e;rw [← HX.out,← HY.out];exact HLE.out
      ·exact HZ.out i hi (by omega)
     case measure=>simp [intOf];omega
  ·obtain rfl:k = n:=by omega
   have hri:(decide (0 < k) = true ↔ RiseI l):=by
    have hL:=Hn.out
    rw [decide_eq_true_eq]
    exact ⟨fun h=>⟨by omega,fun j hj=>HZ.out j hj (by omega)⟩,fun h=>by have:=h.1;omega⟩
   have HRI:=hid hri
   clear hri
   go_wp2
   go_ret
   exact ⟨_,rfl,HRI.out,HB.out⟩
/-! common -/
theorem drewN_add (w:World) (m n:Nat):(w.drewN m).drewN n = w.drewN (m + n):=by simp [World.drewN,Nat.add_assoc]
def comL:List UInt8 → List UInt8 → Nat
 | a :: x,b :: y=>if a = b then comL x y + 1 else 0
 | _,_=>0
theorem comL_le:∀ (x y:List UInt8),comL x y ≤ x.length ∧ comL x y ≤ y.length
 | [],_=>by simp [comL]
 | _ :: _,[]=>by simp [comL]
 | a :: x,b :: y=>by
  have:=comL_le x y
  rw [comL];split <;> simp <;> omega
theorem comL_of:∀ (n:Nat) (x y:List UInt8),n ≤ x.length → n ≤ y.length → x.take n = y.take n → (n = x.length ∨ n = y.length ∨ x[n]? ≠ y[n]?) → comL x y = n
 | 0,[],_,_,_,_,_=>by simp [comL]
 | 0,_ :: _,[],_,_,_,_=>by simp [comL]
 | 0,a :: x,b :: y,_,_,_,h=>by
  rw [comL,if_neg]
  rcases h with h | h | h
  ·simp at h
  ·simp at h
  ·simpa using h
 | n + 1,[],_,h,_,_,_=>by simp at h
 | n + 1,_ :: _,[],_,h,_,_=>by simp at h
 | n + 1,a :: x,b :: y,h1,h2,h3,h4=>by
  simp only [List.take_succ_cons,List.cons.injEq] at h3
  rw [comL,if_pos h3.1,comL_of n x y (by simpa using h1) (by simpa using h2) h3.2 (by simpa using h4)]
set_option maxRecDepth 100000 in
set_option maxHeartbeats 800000 in
theorem common_any (a b:ByteArray) (w:World) (ha:a.size ≤ 1000000000) :
  Calls Tryz.prog 90 #[.string a,.string b] w fun e w'=>e = .returned (.int .i64 ((comL a.data.toList b.data.toList:Nat):Int)) ∧ ∃ m,w' = w.drewN m:=by
 have hal:a.data.toList.length = a.size:=by rw [Array.length_toList];rfl
 have hbl:b.data.toList.length = b.size:=by rw [Array.length_toList];rfl
 have Hal:=hid hal
 have Hbl:=hid hbl
 clear hal hbl
 go_enter Tryz.func90,Tryz.ntmps90
 go_wp2
 go_loopw [5] (fun i wr=>∃ k:Nat,k ≤ a.size ∧ k ≤ b.size ∧ i = .int .i64 (k:Int) ∧ a.data.toList.take k = b.data.toList.take k ∧ ∃ m,wr = w.drewN m) (fun i _=>a.size - (intOf i).toNat)
 case atStart=>exact ⟨0,Nat.zero_le _,Nat.zero_le _,rfl,rfl,0,rfl⟩
 case round =>
  obtain ⟨k,hka,hkb,rfl,hz,m,rfl⟩:=hrel
  have HZ:=hid hz
  clear hz
  by_cases h1:k < a.size
  ·have d1:decide ((k:Int) < (a.size:Int)) = true:=by simp;omega
   by_cases h2:k < b.size
   ·have d2:decide ((k:Int) < (b.size:Int)) = true:=by simp;omega
    by_cases h3:a[k] = b[k]
    ·have d3:((a[k].toNat:Int) == (b[k].toNat:Int)) = true:=by rw [h3];simp
     have H3:=hid h3
     clear h3
     go_upto_region 2 with (fail)
     go_quiet (fail)
     go_wp2
     go_roundw
     case rel =>
      refine ⟨k + 1,by omega,by omega,by go_num, ?_,_,rfl⟩
      have e1:=List.take_succ_eq_append_getElem (l:=a.data.toList) (i:=k) (by rw [Hal.out];exact h1)
      have e2:=List.take_succ_eq_append_getElem (l:=b.data.toList) (i:=k) (by rw [Hbl.out];exact h2)
      have e3:a.data.toList[k]'(by rw [Hal.out];exact h1) = b.data.toList[k]'(by rw [Hbl.out];exact h2):=H3.out
      rw [e1,e2,HZ.out,e3]
     case measure=>simp [intOf];omega
    ·have d3:((a[k].toNat:Int) == (b[k].toNat:Int)) = false:=by
      rw [beq_eq_false_iff_ne];intro e;exact h3 (UInt8.toNat_inj.1 (by omega))
     have hfin:comL a.data.toList b.data.toList = k:=comL_of k _ _ (by rw [Hal.out];exact hka) (by rw [Hbl.out];exact hkb) HZ.out (.inr (.inr (by
      rw [List.getElem?_eq_getElem (by rw [Hal.out];exact h1),List.getElem?_eq_getElem (by rw [Hbl.out];exact h2)]
      intro e;exact h3 (Option.some.inj e))))
     have HF:=hid hfin
     clear hfin h3
     go_upto_region 2 with (fail)
     go_quiet (fail)
     go_wp2
     go_ret
     exact ⟨by rw [HF.out];rfl,_,drewN_add w m _⟩
   ·have d2:decide ((k:Int) < (b.size:Int)) = false:=by simp;omega
    have hfin:comL a.data.toList b.data.toList = k:=comL_of k _ _ (by rw [Hal.out];exact hka) (by rw [Hbl.out];exact hkb) HZ.out (.inr (.inl (by rw [Hbl.out];omega)))
    have HF:=hid hfin
    clear hfin
    go_upto_region 2 with (fail)
    go_quiet (fail)
    go_wp2
    go_ret
    exact ⟨by rw [HF.out];rfl,_,drewN_add w m _⟩
  ·have d1:decide ((k:Int) < (a.size:Int)) = false:=by simp;omega
   have hfin:comL a.data.toList b.data.toList = k:=comL_of k _ _ (by rw [Hal.out];exact hka) (by rw [Hbl.out];exact hkb) HZ.out (.inl (by rw [Hal.out];omega))
   have HF:=hid hfin
   clear hfin
   go_upto_region 2 with (fail)
   go_quiet (fail)
   go_wp2
   go_ret
   exact ⟨by rw [HF.out];rfl,_,drewN_add w m _⟩
end Go.Proofs.Herb
namespace Go.Proofs.Herb
open Go.RowKit
def gF:Nat → Nat → List (Nat × Bool)
 | 0,_=>[]
 | f + 1,m=>(m % 128,decide (128 ≤ m)) :: if 128 ≤ m then gF f (m / 128) else []
def byteOf (x:Nat × Bool):UInt8:=UInt8.ofNat (if x.2 then x.1 + 128 else x.1)
def vput (n:Nat):List UInt8:=(gF 10 n).map byteOf
def tput (l:List UInt8):List UInt8:=vput l.length ++ l
theorem gF_len:∀ (f m:Nat),(gF f m).length ≤ f
 | 0,_=>by simp [gF]
 | f + 1,m=>by
  rw [gF]
  have:=gF_len f (m / 128)
  split <;> simp <;> omega
theorem vput_len (n:Nat):1 ≤ (vput n).length ∧ (vput n).length ≤ 10:=by
 unfold vput
 rw [List.length_map]
 refine ⟨?_,gF_len _ _⟩
 rw [gF];simp
theorem gF_next {f m:Nat} (h:m < 128 ^ f) (h0:1 ≤ f) (hm:128 ≤ m):gF f m = (m % 128,true) :: gF (f - 1) (m / 128) ∧ m / 128 < 128 ^ (f - 1) ∧ 1 ≤ f - 1:=by
 cases f with
 | zero=>omega
 | succ f =>
  rw [Nat.pow_succ] at h
  refine ⟨by rw [gF,if_pos hm];simp [hm],by rw [Nat.add_sub_cancel];exact Nat.div_lt_of_lt_mul (by omega), ?_⟩
  cases f with
  | zero=>simp at h;omega
  | succ f=>omega
theorem gF_last {f m:Nat} (h0:1 ≤ f) (hm:¬ 128 ≤ m):gF f m = [(m % 128,false)]:=by
 cases f with
 | zero=>omega
 | succ f=>rw [gF,if_neg hm];simp [hm]
theorem byteOf_true (n:Nat) (h:n < 128):bits .or .u8 (n:Int) 128 = ((byteOf (n,true)).toNat:Int):=by
 rw [show (128:Int) = ((128:Nat):Int) from rfl,u8_or_nat _ _ (by omega) (by decide)]
 have h2:n ||| 128 = n + 128:=by
  have:=Nat.two_pow_add_eq_or_of_lt (i:=7) (b:=n) (by omega) 1
  rw [Nat.or_comm]
  rw [show (2 ^ 7 * 1:Nat) = 128 from rfl] at this
  rw [← this];omega
 rw [h2]
 unfold byteOf
 simp only [if_true]
 rw [UInt8.toNat_ofNat']
 omega
theorem byteOf_false (n:Nat) (h:n < 128):(n:Int) = ((byteOf (n,false)).toNat:Int):=by
 unfold byteOf
 simp only [Bool.false_eq_true,if_false]
 rw [UInt8.toNat_ofNat']
 omega
end Go.Proofs.Herb
namespace Go.Proofs.Herb
open Go.RowKit
def kAt (l:List Item) (i:Nat):List UInt8:=((l[i]?).map fun x=>x.key.data.toList).getD []
def vAt (l:List Item) (i:Nat):List UInt8:=((l[i]?).map fun x=>x.val.data.toList).getD []
def shAt (l:List Item) (i:Nat):Nat:=if i % 4 = 0 then 0 else comL (kAt l (i - 1)) (kAt l i)
def itB (l:List Item) (i:Nat):List UInt8:=vput (shAt l i) ++ tput ((kAt l i).drop (shAt l i)) ++ tput (vAt l i)
def bUp (l:List Item) (k:Nat):List UInt8:=(List.range k).flatMap (itB l)
def pUp (l:List Item) (k:Nat):List UInt8:=(List.range k).flatMap fun i=>if i % 4 = 0 then le4 (bUp l i).length else []
def bBody (l:List Item):List UInt8:=bUp l l.length ++ pUp l l.length ++ le4 ((pUp l l.length).length / 4)
def bAll (l:List Item):List UInt8:=bBody l ++ le4 (crcMore 0 (bBody l)).toNat
theorem le4_len (n:Nat):(le4 n).length = 4:=rfl
theorem kAt_get {l:List Item} {i:Nat} (h:i < l.length):kAt l i = l[i].key.data.toList:=by unfold kAt;rw [List.getElem?_eq_getElem h];rfl
theorem vAt_get {l:List Item} {i:Nat} (h:i < l.length):vAt l i = l[i].val.data.toList:=by unfold vAt;rw [List.getElem?_eq_getElem h];rfl
theorem bUp_succ (l:List Item) (k:Nat):bUp l (k + 1) = bUp l k ++ itB l k:=by unfold bUp;rw [List.range_succ,List.flatMap_append];simp
theorem pUp_succ (l:List Item) (k:Nat):pUp l (k + 1) = pUp l k ++ if k % 4 = 0 then le4 (bUp l k).length else []:=by unfold pUp;rw [List.range_succ,List.flatMap_append];simp
theorem bUp_mono (l:List Item) {j k:Nat} (h:j ≤ k):(bUp l j).length ≤ (bUp l k).length:=by
 induction k with
 | zero=>rw [show j = 0 by omega];exact Nat.le_refl _
 | succ k ih =>
  by_cases e:j = k + 1
  ·rw [e];exact Nat.le_refl _
  ·have:=ih (by omega)
   rw [bUp_succ,List.length_append];omega
theorem pUp_len (l:List Item) (k:Nat):(pUp l k).length = 4 * ((k + 3) / 4):=by
 induction k with
 | zero=>rfl
 | succ k ih =>
  rw [pUp_succ,List.length_append,ih]
  split
  ·rw [le4_len];omega
  ·simp;omega
theorem tput_len (l:List UInt8):(tput l).length = (vput l.length).length + l.length:=by unfold tput;rw [List.length_append]
theorem itB_len (l:List Item) (i:Nat):(itB l i).length ≤ 30 + (kAt l i).length + (vAt l i).length:=by
 unfold itB
 have h1:=(vput_len (shAt l i)).2
 have h2:=(vput_len ((kAt l i).drop (shAt l i)).length).2
 have h3:=(vput_len (vAt l i).length).2
 rw [List.length_append,List.length_append,tput_len,tput_len,List.length_drop]
 rw [List.length_drop] at h2
 omega
theorem shAt_le (l:List Item) (i:Nat):shAt l i ≤ (kAt l i).length:=by
 unfold shAt
 split
 ·exact Nat.zero_le _
 ·exact (comL_le _ _).2
theorem bAll_len (l:List Item):(bAll l).length = (bUp l l.length).length + (pUp l l.length).length + 8:=by
 unfold bAll bBody
 simp only [List.length_append,le4_len]
theorem size_toList (s:ByteArray):s.data.toList.length = s.size:=by rw [Array.length_toList];rfl
def BPut (l:List Item) (b0:Nat) (w:World) (e:Ending) (w':World):Prop :=
 Below b0 w w' ∧ ((¬ RiseI l ∧ e = .returned (.tuple #[.slice none 0 0,.int .i64 1])) ∨ (RiseI l ∧ 65536 < (bAll l).length ∧ e = .returned (.tuple #[.slice none 0 0,.int .i64 3])) ∨
  (RiseI l ∧ (bAll l).length ≤ 65536 ∧ ∃ q,e = .returned (.tuple #[.slice q (bAll l).length (bAll l).length,.int .i64 0]) ∧ Fr w' b0 5 1 (.slice q (bAll l).length (bAll l).length) (bAll l).length ((bAll l).map bv)))
end Go.Proofs.Herb
