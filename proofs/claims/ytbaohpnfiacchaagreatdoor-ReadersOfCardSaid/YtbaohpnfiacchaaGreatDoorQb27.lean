/- The laws' great; the example's facts, of readers. The law's lives, of readers. -/
import Derived.Test.YtbaohpnfiacchaaGreatDoorQb15
import Derived.Test.YtbaohpnfiacchaaGreatDoorQb22
import Derived.Test.YtbaohpnfiacchaaGreatDoorQb25
import Derived.Test.YtbaohpnfiacchaaGreatDoorQb26
namespace Go.Proofs.Herb
open Go.RowKit
def fA:Fact:=⟨⟨#[97]⟩,1,2,0,0,⟨#[120]⟩⟩
theorem fA_len:(tabB 0 [fA]).length = 124 ∧ ((tabB 0 [fA]).drop 84).take 4 = [84,66,76,49]:=by decide +kernel
theorem fA_good:GoodF 0 [fA]:=by
 intro i hi
 obtain rfl:i = 0:=by simpa using hi
 exact ⟨by decide,by decide,rfl,by decide,fun j hj=>by omega⟩
theorem fA_ok:∀ f ∈ [fA],f.Ok:=by
 intro f hf
 rw [List.mem_singleton] at hf
 subst hf
 exact ⟨by decide,by decide,by decide,by decide,by unfold maxLen;decide,by unfold maxLen;decide⟩
theorem fA_props:(propsF 0 [fA]).cells.toArray = #[.int .u64 0,.int .u64 1,.string ⟨#[97]⟩,.string ⟨#[97]⟩,.int .u64 2,.int .u64 2,.int .u32 1,.int .u32 1]:=by rfl
theorem eqlProps (w:World) (a b:Array Value) (h:a = b) (h8:∃ p:Props,a = p.cells.toArray):(binOp .eql 49 (.agg a) (.agg b)).run Tryz.prog w = .ok (.bool true) w:=by
 subst h
 obtain ⟨p,rfl⟩:=h8
 unfold Props.cells
 go_simp
end Go.Proofs.Herb
namespace Go.Proofs.Herb
open Go.RowKit
theorem lv_a:hasR (rdrF 0 [fA]) ⟨#[97]⟩ = true:=by decide +kernel
theorem lv_b:hasR (rdrF 0 [fA]) ⟨#[98]⟩ = false:=by decide +kernel
theorem lv_f:(rdrF 0 [fA]).filter.length = 9:=by decide +kernel
def fBad:List UInt8:=(tabB 0 [fA]).set 123 (((tabB 0 [fA])[123]?.getD 0) + 1)
theorem lv_bad:¬ ∃ r,Opens fBad r:=fun ⟨r,h⟩=>by
 have h1:=h.sum
 have h2:fBad.length - 40 = 84:=by unfold fBad;rw [List.length_set,fA_len.1]
 rw [h2] at h1
 exact absurd h1 (by unfold fBad;decide +kernel)
theorem lv_last:(tabB 0 [fA])[123]? = some 29:=by decide +kernel
theorem lv_nil:¬ ∃ r,Opens [] r:=fun ⟨r,h⟩=>by have:=h.len;simp at this
theorem lv_opens:Opens (tabB 0 [fA]) (rdrF 0 [fA]):=opens_tab ⟨fA_good,by decide⟩ fA_ok (by decide) (by rw [fA_len.1];decide)
theorem lv_all:AllR (rdrF 0 [fA]) [fA]:=⟨all_tab ⟨fA_good,by decide⟩ fA_ok (by rw [fA_len.1];decide),⟨fA_good,by decide⟩,by show (tabB 0 [fA]).length ≤ 65536;rw [fA_len.1];decide,rfl⟩
theorem lv_fit:(rdrF 0 [fA]).Fit:=fit_of lv_opens (by rw [fA_len.1];decide) fun fs h=>by rw [h.one lv_all.1];decide
theorem lv_x:keepS ⟨(seekB [97] 1).toArray⟩ [fA] = [fA].map fun f=>(f,0):=by
 unfold keepS
 rw [List.filter_eq_self.2]
 intro f hf
 rw [List.mem_singleton] at hf
 subst hf
 decide +kernel
theorem lv_y:keepS ⟨(seekB [97] 0).toArray⟩ [fA] = []:=keepS_none fun f hf=>by
 rw [List.mem_singleton] at hf
 subst hf
 decide +kernel
theorem neqProps (w:World) (a b:Array Value) (h:a = b) (h8:∃ p:Props,a = p.cells.toArray):(binOp .neq 49 (.agg a) (.agg b)).run Tryz.prog w = .ok (.bool false) w:=by
 subst h
 obtain ⟨p,rfl⟩:=h8
 unfold Props.cells
 go_simp
set_option maxRecDepth 100000 in
set_option maxHeartbeats 2000000 in
theorem lives_any (w:World):Calls Tryz.prog 4 #[] w fun e w'=>e = .returned (.bool true) ∧ Below w.heap.size w w':=by
 go_enter Tryz.func4,Tryz.ntmps4
 go_wp2_with fail
 obtain ⟨w1,hw1⟩:∃ x,x = (w.alloc (.cells (fCells [fA]).toArray 27)).alloc (.cells (fCells [fA]).toArray 27):=⟨_,rfl⟩
 have hb1:Below w.heap.size w w1:=by rw [hw1];exact ((Below.refl _ _).alloc (Nat.le_refl _) _).alloc (by simp) _
 have hr1:Rd w1 (some ⟨w.heap.size + 1,0,none⟩) (fCells [fA]):=by
  have h:=Rd.new (w.alloc (.cells (fCells [fA]).toArray 27)) (fCells [fA]) 27
  rw [World.size_alloc] at h
  rw [hw1];exact h
 have hx1:w1.heap[w.heap.size]? = some (.cells (fCells [fA]).toArray 27 (0,0)):=by
  rw [hw1,Below.heap_alloc _ _ _ (by simp)]
  exact heap_alloc_new w _
 have hs1:=hb1.size
 obtain ⟨F0,hF0⟩:∃ n,n = w.heap.size:=⟨_,rfl⟩
 change Calls _ _ _ ((w.alloc (.cells (fCells [fA]).toArray 27)).alloc (.cells (fCells [fA]).toArray 27)) _
 rw [← hw1]
 rw [← hF0] at hx1 hr1 ⊢
 have HB1:=hid hb1
 have HX1:=hid hx1
 have HF0:=hid hF0
 clear hw1 hb1 hx1 hF0
 refine (build_ok 0 _ 1 1 [fA] w1 rfl (by decide) hr1 fA_ok ⟨fA_good,by decide⟩ (by rw [fA_len.1];decide)).mono ?_
 rintro e w2 ⟨p,rfl,hf,hb2⟩
 rw [fA_len.1] at hf ⊢
 obtain ⟨C,hC⟩:∃ C,Hid (C = (propsF 0 [fA]).cells.toArray):=⟨_,hid rfl⟩
 rw [← hC.out]
 have hst:∀ W:World,(storeCells ⟨W.heap.size,0,none⟩ C.toList).run Tryz.prog (W.alloc (.cells #[Value.int IntKind.u64 0,Value.int IntKind.u64 0,Value.string { data := #[] },Value.string { data := #[] },Value.int IntKind.u64 0,Value.int IntKind.u64 0,Value.int IntKind.u32 0,Value.int IntKind.u32 0] 49)) = .ok () (W.alloc (.cells C 49)):=fun W =>
  run_storeCells_new (P:=Tryz.prog) W 49 _ C (by rw [hC.out];exact infoProps8) (by rw [hC.out];rfl) (by rw [hC.out];simp [Props.cells,Value.oneCell'])
 have hCs:C.size = 8:=by rw [hC.out];rfl
 have HF:=hid hf
 have HB2:=hid (HB1.out.trans (hb2.mono hs1))
 have HX2:=hid ((hb2.block _ (lt_of_block HX1.out)).trans HX1.out)
 clear hf hb2 hr1
 go_upto_region 3 with (fail)
 obtain ⟨w3,hw3⟩:∃ x,x = w2.alloc (.cells C 49):=⟨_,rfl⟩
 obtain ⟨P3,hP3⟩:∃ n,n = w2.heap.size:=⟨_,rfl⟩
 have hb3:Below w2.heap.size w2 w3:=by rw [hw3];exact (Below.refl _ _).alloc (Nat.le_refl _) _
 have hx3:w3.heap[P3]? = some (.cells C 49 (0,0)):=by rw [hw3,hP3];exact heap_alloc_new w2 _
 rw [← hw3,← hP3]
 have HF3:=hid (HF.out.below hb3)
 have HB3:=hid (HB2.out.trans (hb3.mono HB2.out.size))
 have HX3:=hid ((hb3.block _ (lt_of_block HX2.out)).trans HX2.out)
 have HP3:=hid hx3
 clear hw3 hP3 hb3 hx3 hst hCs
 go_wp2_with fail
 refine (opn_any p 124 124 (tabB 0 [fA]) w3 fA_len.1 (Nat.le_refl _) (by decide) (fun e=>by
  have:=HF3.out.rd
  rw [e] at this
  have h:=this.none
  have h2:=congrArg List.length h
  rw [List.length_map,fA_len.1] at h2
  cases h2) HF3.out.rd).mono ?_
 rintro e w4 ⟨hb4,hcase⟩
 rcases hcase with ⟨hno, -⟩ | ⟨r,R,hr,rfl,hat⟩
 ·exact absurd ⟨_,lv_opens⟩ hno
 obtain rfl:r = rdrF 0 [fA]:=lv_opens.one hr
 have HAt:=hid hat
 have HB4:=hid (HB3.out.trans (hb4.mono HB3.out.size))
 have HX4:=hid ((hb4.block _ (lt_of_block HX3.out)).trans HX3.out)
 have hp4:=(hb4.block _ (lt_of_block HP3.out)).trans HP3.out
 have HF4:=hid (HF3.out.below hb4)
 clear hr hat hb4
 go_upto_region 4 with (fail)
 obtain ⟨TD,D,hD1,hD2⟩:=class_d w4
 have hcall:∀ {f:Nat} {vs:Array Value} {v:Value},(∀ w',Below w4.heap.size w4 w' → Calls Tryz.prog f vs w' fun e w''=>e = .returned v ∧ Below w'.heap.size w' w'') → ∀ x,Calls Tryz.prog f vs (D x) fun e w''=>e = .returned v ∧ ∃ y,w'' = D y:=fun hf x=>calls_d hD1 hD2 hf x
 have h0:0 < (rdrF 0 [fA]).chunks.length:=lv_fit.n0
 have h1:(rdrF 0 [fA]).chunks.length ≤ 4611686018427387904:=by have:=lv_fit.n1;omega
 have HCp:=hid (hcall fun w' hb=>props_yes (HAt.out.below hb) h0 h1)
 have HCa:=hid (hcall fun w' hb=>has_yes ⟨#[97]⟩ (by decide) (HAt.out.below hb) h0 h1 (by rw [lv_f];decide))
 have HCb:=hid (hcall fun w' hb=>has_yes ⟨#[98]⟩ (by decide) (HAt.out.below hb) h0 h1 (by rw [lv_f];decide))
 rw [lv_a] at HCa
 rw [lv_b] at HCb
 rw [show (rdrF 0 [fA]).props.cells.toArray = #[.int .u64 0,.int .u64 1,.string ⟨#[97]⟩,.string ⟨#[97]⟩,.int .u64 2,.int .u64 2,.int .u32 1,.int .u32 1] from fA_props] at HCp
 rw [hC.out,fA_props] at hp4
 have yy:∀ (x:TD) (j:Nat),(D x).cell? ⟨P3,j,none⟩ = (#[.int .u64 0,.int .u64 1,.string ⟨#[97]⟩,.string ⟨#[97]⟩,.int .u64 2,.int .u64 2,.int .u32 1,.int .u32 1]:Array Value)[j]?:=fun x j=>cell_of_row _ _ _ _ _ _ (((hD1 x).block _ (lt_of_block hp4)).trans hp4)
 have y0:∀ x,(D x).cell? ⟨P3,0,none⟩ = some (.int .u64 0):=fun x=>yy x 0
 have y1:∀ x,(D x).cell? ⟨P3,1,none⟩ = some (.int .u64 1):=fun x=>yy x 1
 have y2:∀ x,(D x).cell? ⟨P3,2,none⟩ = some (.string ⟨#[97]⟩):=fun x=>yy x 2
 have y3:∀ x,(D x).cell? ⟨P3,3,none⟩ = some (.string ⟨#[97]⟩):=fun x=>yy x 3
 have y4:∀ x,(D x).cell? ⟨P3,4,none⟩ = some (.int .u64 2):=fun x=>yy x 4
 have y5:∀ x,(D x).cell? ⟨P3,5,none⟩ = some (.int .u64 2):=fun x=>yy x 5
 have y6:∀ x,(D x).cell? ⟨P3,6,none⟩ = some (.int .u32 1):=fun x=>yy x 6
 have y7:∀ x,(D x).cell? ⟨P3,7,none⟩ = some (.int .u32 1):=fun x=>yy x 7
 have hne:∀ W:World,(binOp .neq 49 (.agg #[.int .u64 0,.int .u64 1,.string ⟨#[97]⟩,.string ⟨#[97]⟩,.int .u64 2,.int .u64 2,.int .u32 1,.int .u32 1]) (.agg #[.int .u64 0,.int .u64 1,.string ⟨#[97]⟩,.string ⟨#[97]⟩,.int .u64 2,.int .u64 2,.int .u32 1,.int .u32 1])).run Tryz.prog W = .ok (.bool false) W:=fun W=>neqProps W _ _ rfl ⟨propsF 0 [fA],fA_props.symm⟩
 obtain ⟨x0,hx0⟩:=hD2 { w4 with drawn:=w4.drawn + 1 } (Below.refl _ _).drew
 haveI:Nonempty TD:=⟨x0⟩
 have HD1:=hid hD1
 clear hcall hD1 hD2 yy hp4 h0 h1
 refine region_quiet_d (D:=D) (by kernel_rfl) (by kernel_rfl) x0 hx0 ?_
 repeat (go_big_quiet_step (first | (go_at_call 15;with_reducible exact HCp.out _) | (go_at_call 16;first | (with_reducible exact HCa.out _) | (with_reducible exact HCb.out _))))
 refine wpQuiet_nil ?_
 intro x
 obtain ⟨w5,hw5⟩:∃ y,y = D x:=⟨_,rfl⟩
 have HB45:=hid (show Below w4.heap.size w4 w5 from hw5 ▸ HD1.out x)
 rw [← hw5]
 have HB5:=hid (HB4.out.trans (HB45.out.mono HB4.out.size))
 have HX5:=hid ((HB45.out.block _ (lt_of_block HX4.out)).trans HX4.out)
 have HF5:=hid (HF4.out.below HB45.out)
 have HAt5:=hid (HAt.out.below HB45.out)
 clear hw5 y0 y1 y2 y3 y4 y5 y6 y7 hne hx0 HCp HCa HCb HD1
 go_wp2_with fail
 refine (allr_any R (rdrF 0 [fA]) w5 HAt5.out lv_fit).mono ?_
 rintro e w6 ⟨hb6,hcase⟩
 rcases hcase with ⟨hno, -⟩ | ⟨fs,hfs,q6,rfl,hf6⟩
 ·exact absurd ⟨_,lv_all⟩ hno
 obtain rfl:fs = [fA]:=hfs.1.one lv_all.1
 have HB6:=hid (HB5.out.trans (hb6.mono HB5.out.size))
 have HX6:=hid ((hb6.block _ (lt_of_block HX5.out)).trans HX5.out)
 have HF6:=hid (HF5.out.below hb6)
 have HAt6:=hid (HAt5.out.below hb6)
 have HL6:=hid hf6
 have hs6:=hb6.size
 clear hfs hf6 hb6
 go_wp2_with fail
 refine (told_any R (rdrF 0 [fA]) w6 HAt6.out (fit0_of lv_opens (by rw [fA_len.1];decide)) ⟨#[97]⟩ 1 9 (by decide) (by decide) (by decide) (by decide) _ rfl [fA] false (by
  have h:=told_tab ⟨fA_good,by decide⟩ fA_ok (by rw [fA_len.1];decide) ⟨(seekB [97] 1).toArray⟩
  rw [lv_x] at h
  rw [if_neg (by decide),List.append_nil]
  exact h)).mono ?_
 rintro e w7 ⟨hb7,q7,c7,rfl,hf7⟩
 rw [show toldA [fA] false 9 = ([fA],0) from rfl] at hf7 ⊢
 have HB7:=hid (HB6.out.trans (hb7.mono HB6.out.size))
 have HX7:=hid ((hb7.block _ (lt_of_block HX6.out)).trans HX6.out)
 have HF7:=hid (HF6.out.below hb7)
 have HAt7:=hid (HAt6.out.below hb7)
 have HL7:=hid (HL6.out.below hb7)
 have HM7:=hid hf7
 have hs56:=HL6.out
 have hs5:=HB45.out.size
 clear hf7 hb7 hs56
 go_wp2_with fail
 refine (told_any R (rdrF 0 [fA]) w7 HAt7.out (fit0_of lv_opens (by rw [fA_len.1];decide)) ⟨#[97]⟩ 0 9 (by decide) (by decide) (by decide) (by decide) _ rfl [] false (by
  have h:=told_tab ⟨fA_good,by decide⟩ fA_ok (by rw [fA_len.1];decide) ⟨(seekB [97] 0).toArray⟩
  rw [lv_y] at h
  exact h)).mono ?_
 rintro e w8 ⟨hb8,q8,c8,rfl, -⟩
 rw [show toldA [] false 9 = ([],0) from rfl]
 have HB8:=hid (HB7.out.trans (hb8.mono HB7.out.size))
 have HX8:=hid ((hb8.block _ (lt_of_block HX7.out)).trans HX7.out)
 have HF8:=hid (HF7.out.below hb8)
 have HL8:=hid (HL7.out.below hb8)
 have HM8:=hid (HM7.out.below hb8)
 clear hb8
 go_wp2_with fail
 refine (opn_any none 0 0 [] w8 rfl (Nat.le_refl _) (by decide) (fun _=>rfl) (.inl rfl)).mono ?_
 rintro e w9 ⟨hb9,hcase⟩
 rcases hcase with ⟨-,rfl⟩ | ⟨r,R2,hr, -, -⟩
 rotate_left
 ·exact absurd ⟨_,hr⟩ lv_nil
 have HB9:=hid (HB8.out.trans (hb9.mono HB8.out.size))
 have HX9:=hid ((hb9.block _ (lt_of_block HX8.out)).trans HX8.out)
 have HF9:=hid (HF8.out.below hb9)
 have HL9:=hid (HL8.out.below hb9)
 have HM9:=hid (HM8.out.below hb9)
 clear hb9
 go_upto_region 10 with (fail)
 obtain ⟨bp,cap,cur,hpv,hbp,hpc, -, -,hps,hpt⟩:∃ g cap cur,Value.slice p 124 124 = .slice (some ⟨g,0,none⟩) 124 cap ∧ w1.heap.size ≤ g ∧ w9.heap[g]? = some (.cells cur 5 (0,0)) ∧ 124 ≤ cap ∧ cap ≤ maxLen ∧ cap * 1 ≤ cur.size ∧ cur.toList.take (124 * 1) = (tabB 0 [fA]).map bv:=by
  obtain ⟨-,h2 | h2⟩:=HF9.out
  ·exact absurd h2.2 (by decide)
  ·exact h2
 obtain ⟨rfl⟩:p = some ⟨bp,0,none⟩:=by cases hpv;rfl
 obtain rfl:cap = 124:=by cases hpv;rfl
 have hps':124 ≤ cur.size:=by omega
 have hat_:∀ j,j < 124 → cur[j]? = ((tabB 0 [fA]).map bv)[j]?:=fun j hj=>by
  rw [← hpt,List.getElem?_take_of_lt (by omega)]
  simp
 have hc123:w9.cell? ⟨bp,123,none⟩ = some (.int .u8 29):=by
  rw [cell_of_row _ _ _ _ _ _ hpc,hat_ 123 (by decide),List.getElem?_map,lv_last]
  rfl
 have hf123:w9.frozen? ⟨bp,123,none⟩ = false:=frozen_of_row _ _ _ _ _ hpc
 obtain ⟨w10,hw10⟩:∃ W,W = w9.setCell ⟨bp,123,none⟩ (.int .u8 30):=⟨_,rfl⟩
 have hp10:w10.heap[bp]? = some (.cells (cur.setIfInBounds 123 (.int .u8 30)) 5 (0,0)):=by rw [hw10];exact Go.heap_setCell_same _ _ 123 _ _ _ hpc
 have hoth:∀ g,g ≠ bp → w10.heap[g]? = w9.heap[g]?:=fun g hg=>by rw [hw10];exact heap_setCell_other _ _ _ _ hg
 have hbl:fBad.length = 124:=by unfold fBad;rw [List.length_set,fA_len.1]
 have hrd10:Rd w10 (some ⟨bp,0,none⟩) (fBad.map bv):=Rd.block hp10 fun j u hu=>by
  have hj:j < 124:=by
   have:=(List.getElem?_eq_some_iff.1 hu).1
   rw [List.length_map,hbl] at this
   exact this
  rw [Nat.zero_add,Array.getElem?_setIfInBounds]
  unfold fBad at hu
  rw [List.getElem?_map,List.getElem?_set,fA_len.1] at hu
  by_cases hj3:123 = j
  ·subst hj3
   rw [if_pos rfl,if_pos (by decide),lv_last] at hu
   rw [if_pos rfl,if_pos (by omega)]
   exact hu
  ·rw [if_neg hj3] at hu ⊢
   rw [hat_ j hj,List.getElem?_map]
   exact hu
 have hbp5:bp < w5.heap.size:=by
  have h:=HF5.out
  obtain ⟨-,h2 | ⟨g,cp',cu',hv, -,hg, -⟩⟩:=h
  ·exact absurd h2.2 (by decide)
  ·cases hv
   exact lt_of_block hg
 have hbF:w.heap.size ≤ bp:=Nat.le_trans HB1.out.size hbp
 have hbF2:bp ≠ F0:=by
  have:=lt_of_block HX1.out
  omega
 have HRd10:=hid hrd10
 have HB10:=hid (show Below w.heap.size w w10 by rw [hw10];exact HB9.out.setCell (p:=⟨bp,123,none⟩) hbF _)
 have HX10:=hid ((hoth F0 (Ne.symm hbF2)).trans HX9.out)
 have HL10:=hid (HL9.out.kept (w':=w10) fun g hg _=>hoth g (by omega))
 have HM10:=hid (HM9.out.kept (w':=w10) fun g hg _=>hoth g (by omega))
 have HW10:=hid hw10
 have Hbl:=hid hbl
 clear hpv hpc hpt hat_ hw10 hp10 hoth hbl hrd10
 go_upto_region 11 with (fail)
 rw [← HW10.out]
 go_wp2_with fail
 refine (opn_any (some ⟨bp,0,none⟩) 124 124 fBad w10 Hbl.out (Nat.le_refl _) (by decide) (fun e=>by cases e) HRd10.out).mono ?_
 rintro e w11 ⟨hb11,hcase⟩
 rcases hcase with ⟨-,rfl⟩ | ⟨r,R2,hr, -, -⟩
 rotate_left
 ·exact absurd ⟨_,hr⟩ lv_bad
 have HB11:=hid (HB10.out.trans (hb11.mono HB10.out.size))
 have hx11:=(hb11.block _ (lt_of_block HX10.out)).trans HX10.out
 have HL11:=hid (HL10.out.below hb11)
 have HM11:=hid (HM10.out.below hb11)
 have z0:w11.cell? ⟨F0,0,none⟩ = some (.string ⟨#[97]⟩):=by rw [cell_of_row _ _ _ _ _ _ hx11];rfl
 have z1:w11.cell? ⟨F0,1,none⟩ = some (.int .u32 1):=by rw [cell_of_row _ _ _ _ _ _ hx11];rfl
 have z2:w11.cell? ⟨F0,2,none⟩ = some (.int .u64 2):=by rw [cell_of_row _ _ _ _ _ _ hx11];rfl
 have z3:w11.cell? ⟨F0,3,none⟩ = some (.int .u64 0):=by rw [cell_of_row _ _ _ _ _ _ hx11];rfl
 have z4:w11.cell? ⟨F0,4,none⟩ = some (.int .u8 0):=by rw [cell_of_row _ _ _ _ _ _ hx11];rfl
 have z5:w11.cell? ⟨F0,5,none⟩ = some (.string ⟨#[120]⟩):=by rw [cell_of_row _ _ _ _ _ _ hx11];rfl
 clear hb11 hx11 hc123 hf123
 go_wp2_with fail
 obtain ⟨w12,hw12⟩:∃ W,W = w11.alloc (.cells (fCells [fA]).toArray 27):=⟨_,rfl⟩
 have hb12:Below w11.heap.size w11 w12:=by rw [hw12];exact (Below.refl _ _).alloc (Nat.le_refl _) _
 have hr12:Rd w12 (some ⟨w11.heap.size,0,none⟩) (fCells [fA]):=by rw [hw12];exact Rd.new _ _ _
 change Calls _ _ _ (w11.alloc (.cells (fCells [fA]).toArray 27)) _
 rw [← hw12]
 have HB12:=hid (HB11.out.trans (hb12.mono HB11.out.size))
 have HL12:=hid (HL11.out.below hb12)
 have HM12:=hid (HM11.out.below hb12)
 clear hw12 hb12 z0 z1 z2 z3 z4 z5
 refine (same_facts q6 _ 1 1 1 1 [fA] [fA] w12 rfl rfl (by decide) (by decide) HL12.out.rd hr12).mono ?_
 rintro e w13 ⟨b1,rfl,hb1,hb13⟩
 obtain rfl:b1 = true:=hb1.2 rfl
 have HB13:=hid (HB12.out.trans (hb13.mono HB12.out.size))
 have HL13:=hid (HL12.out.below hb13)
 have HM13:=hid (HM12.out.below hb13)
 clear hb13 hb1 hr12
 go_wp2_with fail
 refine (same_facts q7 q6 1 c7 1 1 [fA] [fA] w13 rfl rfl (by decide) (by decide) HM13.out.rd HL13.out.rd).mono ?_
 rintro e w14 ⟨b1,rfl,hb1,hb14⟩
 obtain rfl:b1 = true:=hb1.2 rfl
 have HB14:=hid (HB13.out.trans (hb14.mono HB13.out.size))
 clear hb14 hb1
 go_wp2
 go_ret
 exact ⟨rfl,HB14.out⟩
end Go.Proofs.Herb
