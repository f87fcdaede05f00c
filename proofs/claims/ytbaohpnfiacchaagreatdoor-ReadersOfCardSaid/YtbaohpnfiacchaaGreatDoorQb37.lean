/- The reference of chapter 13: Has, and chunk. For a reader as it lies. The reference of chapter 13: From, and All. For a reader as it lies. -/
import Derived.Test.YtbaohpnfiacchaaGreatDoorQb25
import Derived.Test.YtbaohpnfiacchaaGreatDoorQb36
namespace Go.Proofs.Herb
open Go.RowKit
def rhasR (r:Rdr) (k:ByteArray):Bool:=(!bL k.data.toList r.props.low.data.toList && !bL r.props.high.data.toList k.data.toList) && hasF r.filter k.data.toList
set_option maxRecDepth 100000 in
set_option maxHeartbeats 4000000 in
theorem rrhas_any {R:Nat} {r:Rdr} {w:World} (k:ByteArray) (hk:k.size ≤ 1000000) (h:RRAt w R r) (hf:r.filter.length ≤ 100000) :
  Calls Tryz.prog 17 #[.pointer (some ⟨R,0,none⟩),.string k] w fun e w'=>e = .returned (.bool (rhasR r k)) ∧ Below w.heap.size w w':=by
 obtain ⟨bb,ob,cb,fq,fc,lq,lc,eq,ec,h1,h2,h3,h4,h5,h6,h7⟩:=h.ex
 unfold rrRow at h1
 obtain ⟨r0,r1,r2,r3,r4,r5,r6,r7,r8,r9⟩:=cells12c h1
 have kh:=rhas_any fq r.filter.length fc r.filter k w rfl hf hk h5
 unfold rhasR
 obtain ⟨FF,hFF⟩:∃ x,x = hasF r.filter k.data.toList:=⟨_,rfl⟩
 rw [← hFF] at kh ⊢
 clear h h1 h4 h5 h6 h7 hFF
 go_enter Tryz.func17,Tryz.ntmps17
 cases e1:bL k.data.toList r.props.low.data.toList with
 | true =>
  have g1:=le_falseS (a:=r.props.low) (b:=k) e1
  clear e1
  go_wp2
  go_ret
  exact ⟨rfl,Below.refl _ _⟩
 | false =>
  have g1:=le_trueS (a:=r.props.low) (b:=k) e1
  clear e1
  cases e2:bL r.props.high.data.toList k.data.toList with
  | true =>
   have g2:=le_falseS (a:=k) (b:=r.props.high) e2
   clear e2
   go_wp2
   go_ret
   exact ⟨rfl,Below.refl _ _⟩
  | false =>
   have g2:=le_trueS (a:=k) (b:=r.props.high) e2
   clear e2
   go_wp2_with (go_at_call 42;(with_reducible refine kh.mono ?_);rintro e w2 ⟨rfl,b2⟩;have B2:=hid b2;clear b2)
   go_ret
   exact ⟨rfl,B2.out⟩
def RChP (r:Rdr) (c:Chk) (b0:Nat) (w:World) (e:Ending) (w':World):Prop :=
 Below b0 w w' ∧ (((¬ ∃ fs,ChkOf r c fs) ∧ e = .returned (.tuple #[.slice none 0 0,.bool false])) ∨
  ∃ fs,ChkOf r c fs ∧ ∃ q cc,e = .returned (.tuple #[.slice q fs.length cc,.bool true]) ∧ w'.ownsRow b0 27 6 (.slice q fs.length cc) fs.length (fCells fs))
set_option maxRecDepth 100000 in
set_option maxHeartbeats 20000000 in
theorem rchunk_any (R i:Nat) (r:Rdr) (c:Chk) (w:World) (hat:RRAt w R r) (hi:i < r.chunks.length) (hci:r.chunks[i] = c) (hbeg:∀ j,i = j + 1 → ∃ d,r.chunks[j]? = some d ∧ d.fin = c.beg) (hbeg0:i = 0 → c.beg = 0) (hb:c.beg < c.fin) (hf:c.fin ≤ r.b.length) (hm:r.b.length ≤ 4194304) (hN:r.chunks.length ≤ 65536) :
  Calls Tryz.prog 31 #[.pointer (some ⟨R,0,none⟩),.int .i64 (i:Int)] w (RChP r c w.heap.size w):=by
 obtain ⟨bb,ob,cb,fq,fc,lq,lc,eq,ec,h1,h2,h3,h4,h5,h6,h7⟩:=hat.ex
 unfold rrRow at h1
 have HRow:=hid h1
 obtain ⟨BEG,hBEG⟩:∃ x,c.beg = x:=⟨_,rfl⟩
 obtain ⟨FIN,hFIN⟩:∃ x,c.fin = x:=⟨_,rfl⟩
 obtain ⟨N,hNe⟩:∃ x,r.chunks.length = x:=⟨_,rfl⟩
 obtain ⟨M,hMe⟩:∃ x,r.b.length = x:=⟨_,rfl⟩
 obtain ⟨LAST,hLe⟩:∃ x,c.last = x:=⟨_,rfl⟩
 obtain ⟨be,oe,rfl,ge⟩:=h7.cell (k:=i) (by rw [List.length_map];exact hi)
 rw [List.getElem_map,hci,hFIN] at ge
 unfold nv at ge
 obtain ⟨bl,ol,rfl,gl⟩:=h6.cell (k:=i) (by rw [List.length_map];exact hi)
 rw [List.getElem_map,hci,hLe] at gl
 unfold stv at gl
 have gep:∀ j,i = j + 1 → w.cell? ⟨be,oe + j,none⟩ = some (.int .i64 (BEG:Int)):=fun j hj=>by
  obtain ⟨d,hd1,hd2⟩:=hbeg j hj
  obtain ⟨b',o',e',g⟩:=h7.cell (k:=j) (by rw [List.length_map];omega)
  cases e'
  have hjl:j < r.chunks.length:=by omega
  rw [g,List.getElem_map]
  rw [List.getElem?_eq_getElem hjl] at hd1
  cases hd1
  unfold nv
  rw [hd2,hBEG]
 rw [hBEG,hFIN] at hb
 rw [hFIN,hMe] at hf
 rw [hMe] at hm h2 h1
 rw [hNe] at hi h1 hN
 obtain ⟨r0,r1,r2,r3,r4,r5,r6,r7,r8,r9⟩:=cells12c h1
 obtain ⟨r10,r11⟩:=cells12 h1
 clear r1 r3 r4 r5 r6 r7 r8 r9
 have HRd:=hid h4
 have HB0:=hid hbeg0
 have HGP:=hid gep
 have HCI:=hid hci
 have HBEG:=hid hBEG
 have HFIN:=hid hFIN
 have HLe:=hid hLe
 have HMe:=hid hMe
 have i0:(0:Int) ≤ (i:Int):=by omega
 have i1:(i:Int) < (N:Int):=by omega
 have k0:(0:Int) ≤ (BEG:Int):=by omega
 have k1:(BEG:Int) ≤ (FIN:Int):=by omega
 have k2:(FIN:Int) ≤ (cb:Int):=by omega
 have k3:¬ cb = BEG:=by omega
 have k4:BEG ≤ FIN:=by omega
 clear h1 h4 h5 h6 h7 hbeg hbeg0 gep hci hBEG hFIN hLe hMe hat hNe
 go_enter Tryz.func31,Tryz.ntmps31
 go_upto_if 14 with (fail)
 go_cut [6] (fun v wd=>v = .int .i64 (BEG:Int) ∧ w = wd)
 case first =>
  by_cases hz:i = 0
  ·have hB0:BEG = 0:=by rw [← HBEG.out];exact HB0.out hz
   subst hz
   subst hB0
   go_wp2
   go_meet
   exact ⟨rfl,rfl⟩
  ·obtain ⟨j,rfl⟩:∃ j,i = j + 1:=⟨i - 1,by omega⟩
   have gj:=HGP.out j rfl
   have e1:IntKind.i64.wrap (((j + 1:Nat):Int) - 1) = (j:Int):=by rw [IntWalk.i64_in _ (by omega)];omega
   have e2:IntKind.i64.wrap ((j:Int) + 1 - 1) = (j:Int):=by rw [IntWalk.i64_in _ (by omega)];omega
   have j0:(0:Int) ≤ (j:Int):=by omega
   have j1:(j:Int) < (N:Int):=by omega
   have j2:(0:Int) < (j:Int) + 1:=by omega
   go_wp2
   go_meet
   exact ⟨rfl,rfl⟩
 case rest =>
  obtain ⟨rfl,rfl⟩:=hcut
  clear HGP HB0
  obtain ⟨wq,hwq⟩:∃ x,x = w.drew:=⟨_,rfl⟩
  have HBq:=hid (show Below w.heap.size w wq from by rw [hwq];exact (Below.refl _ _).drew)
  obtain ⟨BY,hBY⟩:∃ x,x = (r.b.drop BEG).take (FIN - BEG):=⟨_,rfl⟩
  have hBYl:BY.length = FIN - BEG:=by rw [hBY,List.length_take,List.length_drop,HMe.out];omega
  have kg:=rbget_any (some ⟨bb,ob + BEG,none⟩) (FIN - BEG) (cb - BEG) BY wq hBYl (by omega) (by omega) (by omega) (by rw [hBY,List.map_take,List.map_drop];exact ((HRd.out.below HBq.out).drop BEG).take _)
  have hchk:∀ fs,ChkOf r c fs ↔ ∃ l,BlkOf BY l ∧ lastKey l = LAST ∧ allSome (l.map (itemF? r.props.line)) = some fs:=fun fs=>by
   unfold ChkOf
   rw [HBEG.out,HFIN.out,HLe.out,← hBY]
  have HCh:=hid hchk
  clear hBY hBYl hchk
  go_upto_region 4 with fail
  refine wp_region_held_drew (S:=fun w'=>w'.cell? ⟨R,0,none⟩ = some (.slice (some ⟨bb,ob,none⟩) M cb) ∧ w'.cell? ⟨R,11,none⟩ = some (.slice (some ⟨be,oe,none⟩) N ec) ∧ w'.cell? ⟨be,oe + i,none⟩ = some (.int .i64 (FIN:Int))) (by kernel_rfl) ⟨r0,r11,ge⟩ (fun hHeld => ?_)
  rw [← hwq] at hHeld ⊢
  clear hwq
  refine take_held (v := ?_) 0 rfl (by kernel_rfl) (by kernel_rfl) (by kernel_rfl) (fun _ _ _ h=>h) (Or.inl ⟨by rfl, ?_⟩) (by first | assumption | trivial) ?_
  rotate_left
  ·intro wS hSw
   obtain ⟨s0,s1,s2⟩:=hSw
   go_simp
   try with_reducible rfl
  simp only [Act.put,List.setIfInBounds_toArray,List.set_cons_zero,List.set_cons_succ]
  refine take_held (v := ?_) 1 rfl (by kernel_rfl) (by kernel_rfl) (by kernel_rfl) (fun _ _ _ h=>h) (Or.inl ⟨by rfl, ?_⟩) (by first | assumption | trivial) ?_
  rotate_left
  ·intro wS hSw
   obtain ⟨s0,s1,s2⟩:=hSw
   go_simp
   try with_reducible rfl
  simp only [Act.put,List.setIfInBounds_toArray,List.set_cons_zero,List.set_cons_succ]
  refine take_held (v := ?_) 2 rfl (by kernel_rfl) (by kernel_rfl) (by kernel_rfl) (fun _ _ _ h=>h) (Or.inl ⟨by rfl, ?_⟩) (by first | assumption | trivial) ?_
  rotate_left
  ·intro wS hSw
   obtain ⟨s0,s1,s2⟩:=hSw
   go_simp
   try with_reducible rfl
  simp only [Act.put,List.setIfInBounds_toArray,List.set_cons_zero,List.set_cons_succ]
  refine take_held (v := ?_) 3 rfl (by kernel_rfl) (by kernel_rfl) (by kernel_rfl) (fun _ _ _ h=>h) (Or.inl ⟨by rfl, ?_⟩) (by first | assumption | trivial) ?_
  rotate_left
  ·intro wS hSw
   obtain ⟨s0,s1,s2⟩:=hSw
   go_simp
   try with_reducible rfl
  simp only [Act.put,List.setIfInBounds_toArray,List.set_cons_zero,List.set_cons_succ]
  refine take_held (v := ?_) 4 rfl (by kernel_rfl) (by kernel_rfl) (by kernel_rfl) (fun _ _ _ h=>h) (Or.inl ⟨by rfl, ?_⟩) (by first | assumption | trivial) ?_
  rotate_left
  ·intro wS hSw
   obtain ⟨s0,s1,s2⟩:=hSw
   go_simp
   try with_reducible rfl
  simp only [Act.put,List.setIfInBounds_toArray,List.set_cons_zero,List.set_cons_succ]
  refine take_held (v := ?_) 5 rfl (by kernel_rfl) (by kernel_rfl) (by kernel_rfl) (fun _ _ _ h=>h) (Or.inl ⟨by rfl, ?_⟩) (by first | assumption | trivial) ?_
  rotate_left
  ·intro wS hSw
   obtain ⟨s0,s1,s2⟩:=hSw
   go_simp
   try with_reducible rfl
  simp only [Act.put,List.setIfInBounds_toArray,List.set_cons_zero,List.set_cons_succ]
  refine take_held (v := ?_) 6 rfl (by kernel_rfl) (by kernel_rfl) (by kernel_rfl) (fun _ _ _ h=>h) (Or.inl ⟨by rfl, ?_⟩) (by first | assumption | trivial) ?_
  rotate_left
  ·intro wS hSw
   obtain ⟨s0,s1,s2⟩:=hSw
   go_simp
   try with_reducible rfl
  simp only [Act.put,List.setIfInBounds_toArray,List.set_cons_zero,List.set_cons_succ]
  refine take_held (v := ?_) 7 rfl (by kernel_rfl) (by kernel_rfl) (by kernel_rfl) (fun _ _ _ h=>h) (Or.inl ⟨by rfl, ?_⟩) (by first | assumption | trivial) ?_
  rotate_left
  ·intro wS hSw
   obtain ⟨s0,s1,s2⟩:=hSw
   go_simp
   try with_reducible rfl
  simp only [Act.put,List.setIfInBounds_toArray,List.set_cons_zero,List.set_cons_succ]
  refine take_held (v := ?_) 8 rfl (by kernel_rfl) (by kernel_rfl) (by kernel_rfl) (fun _ _ _ h=>h) (Or.inl ⟨by rfl, ?_⟩) (by first | assumption | trivial) ?_
  rotate_left
  ·intro wS hSw
   obtain ⟨s0,s1,s2⟩:=hSw
   go_simp
   try with_reducible rfl
  simp only [Act.put,List.setIfInBounds_toArray,List.set_cons_zero,List.set_cons_succ]
  refine take_held (v := ?_) 9 rfl (by kernel_rfl) (by kernel_rfl) (by kernel_rfl) (fun _ _ _ h=>h) (Or.inl ⟨by rfl, ?_⟩) (by first | assumption | trivial) ?_
  rotate_left
  ·intro wS hSw
   obtain ⟨s0,s1,s2⟩:=hSw
   go_simp
   try with_reducible rfl
  simp only [Act.put,List.setIfInBounds_toArray,List.set_cons_zero,List.set_cons_succ]
  refine take_held (v := ?_) 10 rfl (by kernel_rfl) (by kernel_rfl) (by kernel_rfl) (fun _ _ _ h=>h) (Or.inl ⟨by rfl, ?_⟩) (by first | assumption | trivial) ?_
  rotate_left
  ·intro wS hSw
   obtain ⟨s0,s1,s2⟩:=hSw
   go_simp
   try with_reducible rfl
  simp only [Act.put,List.setIfInBounds_toArray,List.set_cons_zero,List.set_cons_succ]
  refine take_held (v := ?_) 11 rfl (by kernel_rfl) (by kernel_rfl) (by kernel_rfl) (fun _ _ _ h=>h) (Or.inl ⟨by rfl, ?_⟩) (by first | assumption | trivial) ?_
  rotate_left
  ·intro wS hSw
   obtain ⟨s0,s1,s2⟩:=hSw
   go_simp
   try with_reducible rfl
  simp only [Act.put,List.setIfInBounds_toArray,List.set_cons_zero,List.set_cons_succ]
  refine take_held (v := ?_) 12 rfl (by kernel_rfl) (by kernel_rfl) (by kernel_rfl) (fun _ _ _ h=>h) (Or.inl ⟨by rfl, ?_⟩) (by first | assumption | trivial) ?_
  rotate_left
  ·intro wS hSw
   obtain ⟨s0,s1,s2⟩:=hSw
   go_simp
   try with_reducible rfl
  simp only [Act.put,List.setIfInBounds_toArray,List.set_cons_zero,List.set_cons_succ]
  refine wpAnyH_ready (rs:=[13]) (by kernel_rfl) (by simp) ?_
  refine cons_held 13 rfl (fun KK hK => ?_) AllReadyH.nil
  go_simp
  refine kg.mono ?_
  rintro e w2 ⟨b2,hcase⟩
  have HB2:=hid (HBq.out.trans (b2.mono HBq.out.size))
  have xx:∀ (p:Addr) v,w.cell? p = some v → w2.cell? p = some v:=fun p v hv=>(HB2.out.cell (World.block_lt_of_cell? w _ hv)).trans hv
  have hsq:=HBq.out.size
  have hs2:=HB2.out.size
  have c10:=xx _ _ r10
  have cl:=xx _ _ gl
  have HRow2:=hid ((HB2.out.block R (lt_of_block HRow.out)).trans HRow.out)
  have hS2:=And.intro (xx _ _ r0) (And.intro (xx _ _ r11) (xx _ _ ge))
  clear b2 kg xx r0 r2 r10 r11 ge gl k0 k1 k2 k3 k4
  rcases hcase with ⟨hno,er,her,rfl⟩ | ⟨l,hbl,q1,c1,rfl,own1⟩
  ·have he:(er != 0) = true:=by simpa using her
   have HNo:Hid (¬ ∃ fs,ChkOf r c fs):=fun ⟨fs,h⟩=>by obtain ⟨l,h1,_⟩:=(HCh.out fs).1 h;exact hno ⟨l,h1⟩
   clear hno
   refine hK.out _ _ hS2 (fun hHeld2 => ?_)
   clear hK KK hHeld
   refine take_held (v := ?_) 14 rfl (by kernel_rfl) (by kernel_rfl) (by kernel_rfl) (fun _ _ _ h=>h) (Or.inl ⟨by rfl, ?_⟩) (by first | assumption | trivial) ?_
   rotate_left
   ·intro wS hSw
    obtain ⟨s0,s1,s2⟩:=hSw
    go_simp
    try with_reducible rfl
   simp only [Act.put,List.setIfInBounds_toArray,List.set_cons_zero,List.set_cons_succ]
   refine take_held (v := ?_) 15 rfl (by kernel_rfl) (by kernel_rfl) (by kernel_rfl) (fun _ _ _ h=>h) (Or.inl ⟨by rfl, ?_⟩) (by first | assumption | trivial) ?_
   rotate_left
   ·intro wS hSw
    obtain ⟨s0,s1,s2⟩:=hSw
    go_simp
    try with_reducible rfl
   simp only [Act.put,List.setIfInBounds_toArray,List.set_cons_zero,List.set_cons_succ]
   refine take_held (v := ?_) 16 rfl (by kernel_rfl) (by kernel_rfl) (by kernel_rfl) (fun _ _ _ h=>h) (Or.inl ⟨by rfl, ?_⟩) (by first | assumption | trivial) ?_
   rotate_left
   ·intro wS hSw
    obtain ⟨s0,s1,s2⟩:=hSw
    go_simp
    try with_reducible rfl
   simp only [Act.put,List.setIfInBounds_toArray,List.set_cons_zero,List.set_cons_succ]
   refine take_held (v := ?_) 17 rfl (by kernel_rfl) (by kernel_rfl) (by kernel_rfl) (fun _ _ _ h=>h) (Or.inl ⟨by rfl, ?_⟩) (by first | assumption | trivial) ?_
   rotate_left
   ·intro wS hSw
    obtain ⟨s0,s1,s2⟩:=hSw
    go_simp
    try with_reducible rfl
   simp only [Act.put,List.setIfInBounds_toArray,List.set_cons_zero,List.set_cons_succ]
   refine take_held (v := ?_) 18 rfl (by kernel_rfl) (by kernel_rfl) (by kernel_rfl) (fun _ _ _ h=>h) (Or.inl ⟨by rfl, ?_⟩) (by first | assumption | trivial) ?_
   rotate_left
   ·intro wS hSw
    obtain ⟨s0,s1,s2⟩:=hSw
    go_simp
    try with_reducible rfl
   simp only [Act.put,List.setIfInBounds_toArray,List.set_cons_zero,List.set_cons_succ]
   refine wpAnyH_done (by kernel_rfl) ?_ _
   clear hHeld2 hS2
   go_upto_region 5 with fail
   go_quiet (fail)
   have HBz:=hid (below_drewN HB2.out nq)
   go_wp2
   go_ret2
   exact ⟨HBz.out,.inl ⟨HNo.out,rfl⟩⟩
  refine hK.out _ _ hS2 (fun hHeld2 => ?_)
  clear hK KK hHeld
  refine take_held (v := ?_) 14 rfl (by kernel_rfl) (by kernel_rfl) (by kernel_rfl) (fun _ _ _ h=>h) (Or.inl ⟨by rfl, ?_⟩) (by first | assumption | trivial) ?_
  rotate_left
  ·intro wS hSw
   obtain ⟨s0,s1,s2⟩:=hSw
   go_simp
   try with_reducible rfl
  simp only [Act.put,List.setIfInBounds_toArray,List.set_cons_zero,List.set_cons_succ]
  refine take_held (v := ?_) 15 rfl (by kernel_rfl) (by kernel_rfl) (by kernel_rfl) (fun _ _ _ h=>h) (Or.inl ⟨by rfl, ?_⟩) (by first | assumption | trivial) ?_
  rotate_left
  ·intro wS hSw
   obtain ⟨s0,s1,s2⟩:=hSw
   go_simp
   try with_reducible rfl
  simp only [Act.put,List.setIfInBounds_toArray,List.set_cons_zero,List.set_cons_succ]
  refine take_held (v := ?_) 16 rfl (by kernel_rfl) (by kernel_rfl) (by kernel_rfl) (fun _ _ _ h=>h) (Or.inl ⟨by rfl, ?_⟩) (by first | assumption | trivial) ?_
  rotate_left
  ·intro wS hSw
   obtain ⟨s0,s1,s2⟩:=hSw
   go_simp
   try with_reducible rfl
  simp only [Act.put,List.setIfInBounds_toArray,List.set_cons_zero,List.set_cons_succ]
  refine take_held (v := ?_) 17 rfl (by kernel_rfl) (by kernel_rfl) (by kernel_rfl) (fun _ _ _ h=>h) (Or.inl ⟨by rfl, ?_⟩) (by first | assumption | trivial) ?_
  rotate_left
  ·intro wS hSw
   obtain ⟨s0,s1,s2⟩:=hSw
   go_simp
   try with_reducible rfl
  simp only [Act.put,List.setIfInBounds_toArray,List.set_cons_zero,List.set_cons_succ]
  refine take_held (v := ?_) 18 rfl (by kernel_rfl) (by kernel_rfl) (by kernel_rfl) (fun _ _ _ h=>h) (Or.inl ⟨by rfl, ?_⟩) (by first | assumption | trivial) ?_
  rotate_left
  ·intro wS hSw
   obtain ⟨s0,s1,s2⟩:=hSw
   go_simp
   try with_reducible rfl
  simp only [Act.put,List.setIfInBounds_toArray,List.set_cons_zero,List.set_cons_succ]
  refine wpAnyH_done (by kernel_rfl) ?_ _
  clear hHeld2 hS2
  have HBl:=hid hbl
  have hlp:=hbl.1.1
  have hll:=(blk_short hbl).2
  have HSz:=hid (blk_sizes hbl)
  obtain ⟨LL,hLL⟩:∃ x,l.length = x:=⟨_,rfl⟩
  obtain ⟨J,hJ⟩:∃ x,x = LL - 1:=⟨_,rfl⟩
  have hkl:lastKey l = (l[J]'(by omega)).key:=by rw [last_get hlp];simp only [hJ,hLL]
  obtain ⟨b1,o1,rfl,hb1l,ic0,ic1⟩:=item_at (Fr.of_own own1).rd (j:=J) (by omega)
  obtain ⟨KL,hKL⟩:∃ x,lastKey l = x:=⟨_,rfl⟩
  rw [← hkl,hKL] at ic0
  have e1:IntKind.i64.wrap ((LL:Int) - 1) = (J:Int):=by rw [IntWalk.i64_in _ (by omega)];omega
  have j0:(0:Int) ≤ (J:Int):=by omega
  have j1:(J:Int) < (LL:Int):=by omega
  rw [hLL] at own1 hll hlp ⊢
  have HOwn:=hid own1
  have HLL:=hid hLL
  have HKL:=hid hKL
  have hone:∀ fs,ChkOf r c fs ↔ KL = LAST ∧ allSome (l.map (itemF? r.props.line)) = some fs:=fun fs=>by
   rw [HCh.out fs,← HKL.out]
   constructor
   ·rintro ⟨m,h1,h2,h3⟩
    obtain rfl:=blk_one h1 HBl.out
    exact ⟨h2,h3⟩
   ·rintro ⟨h2,h3⟩
    exact ⟨l,HBl.out,h2,h3⟩
  have HOne:=hid hone
  clear own1 hLL hbl hJ hkl hKL ic1 HCh hone
  by_cases hlk:KL = LAST
  rotate_left
  ·have HNo:Hid (¬ ∃ fs,ChkOf r c fs):=fun ⟨fs,h⟩=>hlk ((HOne.out fs).1 h).1
   have d1:(KL.toList == LAST.toList) = false:=beq_eq_false_iff_ne.2 fun e=>hlk (Go.WideShapes.bytes_inj (toList_injE e))
   clear hlk
   as_aux_lemma =>
    go_upto_region 5 with fail
    go_quiet (fail)
    have HBz:=hid (below_drewN HB2.out nq)
    go_wp2
    go_ret2
    exact ⟨HBz.out,.inl ⟨HNo.out,rfl⟩⟩
  subst hlk
  have d1:(KL.toList == KL.toList) = true:=beq_self_eq_true _
  go_upto_region 5 with fail
  go_quiet (fail)
  obtain ⟨w3,hw3⟩:∃ x,x = w2.drewN nq:=⟨_,rfl⟩
  have hb23:Below w2.heap.size w2 w3:=by rw [hw3];exact below_drewN (Below.refl _ _) nq
  rw [← hw3]
  have HB3:=hid (HB2.out.trans (hb23.mono hs2))
  have HOwn3:=hid (own_below HOwn.out hb23)
  have HRow3:=hid ((hb23.block R (lt_of_block HRow2.out)).trans HRow2.out)
  have hs3:=HB3.out.size
  clear hw3 hb23 HB2 HOwn HRow2 c10 cl ic0 d1 e1 j0 j1 hb1l
  go_upto_region 8 with fail
  go_wp2_with fail
  go_loopw [9,10] (fun ov kv wr=>∃ (k:Nat) (done:List Fact) (qo:Option Addr) (co:Nat),k ≤ LL ∧ kv = .int .i64 (k:Int) ∧ ov = .slice qo k co ∧ Hid (done.length = k) ∧ Hid (allSome (l.map (itemF? r.props.line)) = (allSome ((l.drop k).map (itemF? r.props.line))).map (fun x=>done ++ x)) ∧ Hid (wr.ownsRow w3.heap.size 27 6 (.slice qo k co) k (fCells done)) ∧ Hid (Below w3.heap.size w3 wr)) (fun _ kv _=>LL - (intOf kv).toNat)
  case atStart=>exact ⟨0,[],none,0,Nat.zero_le _,rfl,rfl,rfl,by show _ = _;rw [List.drop_zero];cases allSome (l.map (itemF? r.props.line)) <;> rfl,World.ownsRow_nil _ _ _ _,Below.refl _ _⟩
  case round =>
   obtain ⟨k,done,qo,co,hk,rfl,rfl,HDl,HI,HO,HB⟩:=hrel
   have hsr:=HB.out.size
   have k0:(0:Int) ≤ (k:Int):=by omega
   by_cases hlt:k < LL
   ·have hlt2:k < l.length:=by rw [HLL.out];exact hlt
    obtain ⟨K,V,hKV⟩:∃ K V,l[k] = ⟨K,V⟩:=⟨_,_,rfl⟩
    have hdr:l.drop k = ⟨K,V⟩ :: l.drop (k + 1):=by rw [List.drop_eq_getElem_cons hlt2,hKV]
    have hsz:=HSz.out l[k] (List.getElem_mem hlt2)
    rw [hKV] at hsz
    dsimp only at hsz
    have hown2:=own_below HOwn3.out HB.out
    obtain ⟨b1',o1',e1',hb1l,ic0,ic1⟩:=item_at (Fr.of_own hown2).rd hlt2
    cases e1'
    rw [hKV] at ic0 ic1
    dsimp only at ic0 ic1
    have hst:=item_step hdr done HI.out
    have HSt1:=hid hst.1
    have HSt2:=hid hst.2
    have hk1:(k:Int) < (LL:Int):=by omega
    obtain ⟨c3,w4,cv,rd4,hb4,hc3⟩:=convS wr K
    obtain ⟨VB,hVB⟩:∃ x,x = wr.heap.size:=⟨_,rfl⟩
    rw [← hVB] at cv rd4
    have kk:=rkget_any (some ⟨VB,0,none⟩) K.size c3 K.data.toList w4 (size_toList K) (by omega) hc3 rd4
    have B4:=hid hb4
    clear hVB hdr hKV hst hown2 hb4 rd4
    have hK65:=hsz.1
    go_wp2_with fail
    refine kk.mono ?_
    rintro e w5 ⟨b5,hcase⟩
    have BR5:=hid (B4.out.trans (b5.mono B4.out.size))
    have HB5:=hid (HB.out.trans (BR5.out.mono hsr))
    clear b5 kk cv hsz
    rcases hcase with ⟨hn,er,her,rfl⟩ | ⟨f,hf,rfl⟩
    ·have he:(er != 0) = true:=by simpa using her
     have HNo:Hid (¬ ∃ fs,ChkOf r c fs):=fun ⟨fs,h⟩=>by have h2:=((HOne.out fs).1 h).2;rw [HSt1.out hn] at h2;cases h2
     rw [show zFact.cells.toArray = #[.string ⟨#[]⟩,.int .u32 0,.int .u64 0,.int .u64 0,.int .u8 0,.string ⟨#[]⟩] from rfl]
     clear hn her
     as_aux_lemma =>
      go_wp2
      go_ret2
      exact ⟨(HB3.out.trans (HB5.out.mono hs3)).alloc (by have:=HB5.out.size;omega) _,.inl ⟨HNo.out,rfl⟩⟩
    have HIN:=hid (HSt2.out f hf)
    rw [show f.cells.toArray = #[.string f.key,.int .u32 (f.valid:Int),.int .u64 (f.seq:Int),.int .u64 (f.line:Int),.int .u8 (f.kind:Int),.string f.val] from rfl]
    clear hf HI HSt1 HSt2
    obtain ⟨P,hP⟩:∃ x,x = w5.heap.size:=⟨_,rfl⟩
    have hwP:wr.heap.size ≤ P:=by rw [hP];exact BR5.out.size
    go_upto_region 12 with fail
    obtain ⟨w6,hw6⟩:∃ x,x = w5.alloc (.cells #[.string f.key,.int .u32 (f.valid:Int),.int .u64 (f.seq:Int),.int .u64 (f.line:Int),.int .u8 (f.kind:Int),.string f.val] 27):=⟨_,rfl⟩
    have row6:w6.heap[P]? = some (.cells #[.string f.key,.int .u32 (f.valid:Int),.int .u64 (f.seq:Int),.int .u64 (f.line:Int),.int .u8 (f.kind:Int),.string f.val] 27 (0,0)):=by rw [hw6,hP];exact World.alloc_heap_new _ _
    have BR6:Below wr.heap.size wr w6:=by rw [hw6];exact BR5.out.alloc BR5.out.size _
    rw [← hw6,← hP]
    have HR6:=hid (BR6.block R (by have:=lt_of_block HRow3.out;omega))
    have hRow6:=(BR6.block R (by have:=lt_of_block HRow3.out;omega)).trans ((HB.out.block R (lt_of_block HRow3.out)).trans HRow3.out)
    obtain ⟨-, -,r2, -⟩:=cells12c hRow6
    obtain ⟨f0,f1,f2,f3,f4,f5⟩:=cells6 row6
    have fz:∀ j,w6.frozen? ⟨P,j,none⟩ = false:=fun j=>frozen_of_row _ _ _ _ _ row6
    have HRow6:=hid row6
    have B6:=hid BR6
    clear hw6 hP BR6 row6 hRow6 BR5 HB5 HR6
    go_upto_region 15 with fail
    obtain ⟨w7,hw7⟩:∃ x,x = w6.setCell ⟨P,3,none⟩ (.int .u64 (r.props.line:Int)):=⟨_,rfl⟩
    have row7:w7.heap[P]? = some (.cells #[.string f.key,.int .u32 (f.valid:Int),.int .u64 (f.seq:Int),.int .u64 (r.props.line:Int),.int .u8 (f.kind:Int),.string f.val] 27 (0,0)):=by
     rw [hw7,Go.heap_setCell_same _ _ 3 _ _ _ HRow6.out]
     simp only [List.setIfInBounds_toArray,List.set_cons_zero,List.set_cons_succ]
    have BR7:Below wr.heap.size wr w7:=by rw [hw7];exact B6.out.setCell (p:=⟨P,3,none⟩) hwP _
    rw [← hw7]
    have ic17:=(BR7.cell (p:=⟨b1,o1 + k * 2 + 1,none⟩) hb1l).trans ic1
    clear f0 f1 f2 f3 f4 f5 fz r2
    obtain ⟨f0,f1,f2,f3,f4,f5⟩:=cells6 row7
    have fz:∀ j,w7.frozen? ⟨P,j,none⟩ = false:=fun j=>frozen_of_row _ _ _ _ _ row7
    have HRow7:=hid row7
    have B7:=hid BR7
    clear hw7 row7 BR7 B6 HRow6
    go_upto_region 16 with fail
    obtain ⟨w8,hw8⟩:∃ x,x = w7.setCell ⟨P,5,none⟩ (.string V):=⟨_,rfl⟩
    have row8:w8.heap[P]? = some (.cells #[.string f.key,.int .u32 (f.valid:Int),.int .u64 (f.seq:Int),.int .u64 (r.props.line:Int),.int .u8 (f.kind:Int),.string V] 27 (0,0)):=by
     rw [hw8,Go.heap_setCell_same _ _ 5 _ _ _ HRow7.out]
     simp only [List.setIfInBounds_toArray,List.set_cons_zero,List.set_cons_succ]
    have BR8:Below wr.heap.size wr w8:=by rw [hw8];exact B7.out.setCell (p:=⟨P,5,none⟩) hwP _
    rw [← hw8]
    clear f0 f1 f2 f3 f4 f5 fz ic17
    obtain ⟨f0,f1,f2,f3,f4,f5⟩:=cells6 row8
    have B8:=hid BR8
    have hs8:=BR8.size
    clear hw8 row8 BR8 B7 HRow7 ic0 ic1
    obtain ⟨F,hF⟩:∃ x:Fact,x = ⟨f.key,f.valid,f.seq,r.props.line,f.kind,V⟩:=⟨_,rfl⟩
    rw [← hF] at HIN
    have hHO8:=own_below HO.out B8.out
    have HO8:=hid hHO8
    have hPl:P < w8.heap.size:=World.block_lt_of_cell? w8 _ f0
    clear hHO8
    go_upto_region 10 with (at_builtin;refine wpList_append_rd rfl (.tmp 89) (.tmp 91) 38 rfl w3.heap.size 27 (.agg zFact.cells.toArray) 6 64 Tryz.underlying38 infoFact6 rfl (by decide) (.slice qo k co) k (fCells done) rfl (own_below HO8.out ((Below.refl _ _).alloc (Nat.le_refl _) _)) (some ⟨w8.heap.size,0,none⟩) 1 1 (fCells [F]) rfl (fun h=>by cases h) rfl (by rw [hF];exact Rd.new _ _ _) (fCells_one _) (by unfold maxLen;omega) (by omega) (by simp;omega) ?_;intro v9 w9 hown9 hg9 _;have P9:=hid (And.intro hown9 hg9);clear hown9 hg9)
    obtain ⟨hown9,hg9⟩:=P9.out
    obtain ⟨q9,c9,rfl,_,_,_⟩:=own_shape hown9
    rw [← fCells_append] at hown9
    have HO9:=hid hown9
    have HB9:=hid (show Below w3.heap.size w3 w9 from (((HB.out.trans (B8.out.mono hsr)).alloc (by omega) _).grown hg9 (by simp;omega) (fun g hg=>(HO8.out.lt g hg).1)))
    have HDl9:Hid ((done ++ [F]).length = k + 1):=by show _ = _;rw [List.length_append,HDl.out];rfl
    clear hown9 hg9 P9 f0 f1 f2 f3 f4 f5 hF
    go_wp2
    go_roundw
    case rel=>exact ⟨k + 1,done ++ [F],q9,c9,by omega,by go_num,rfl,HDl9,HIN,HO9,HB9⟩
    case measure=>simp [intOf];omega
   ·obtain rfl:k = LL:=by omega
    have hI:=HI.out
    rw [List.drop_eq_nil_of_le (by rw [HLL.out];exact Nat.le_refl _)] at hI
    simp only [List.map_nil,allSome,Option.map_some,List.append_nil] at hI
    have HYes:Hid (ChkOf r c done):=(HOne.out done).2 ⟨by first | rfl | trivial,hI⟩
    clear hI
    go_wp2
    go_ret2
    exact ⟨HB3.out.trans (HB.out.mono hs3),.inr ⟨done,HYes.out,qo,co,by rw [HDl.out];rfl,by rw [HDl.out];exact own_mono HO.out hs3⟩⟩
end Go.Proofs.Herb
namespace Go.Proofs.Herb
open Go.RowKit
theorem itB_three (l:List Item) (i:Nat):3 ≤ (itB l i).length:=by
 have h1:=(vput_len (shAt l i)).1
 have h2:=(vput_len ((kAt l i).drop (shAt l i)).length).1
 have h3:=(vput_len (vAt l i).length).1
 unfold itB tput
 simp only [List.length_append]
 omega
theorem blk_three {b:List UInt8} {l:List Item} (h:BlkOf b l):3 * l.length ≤ b.length:=by
 have h4:=bAll_len l
 rw [h.2.1] at h4
 have:∀ k,3 * k ≤ (bUp l k).length:=by
  intro k
  induction k with
  | zero=>exact Nat.zero_le _
  | succ k ih =>
   rw [bUp_succ,List.length_append]
   have:=itB_three l k
   omega
 have:=this l.length
 omega
theorem chk_three {r:Rdr} {c:Chk} {fs:List Fact} (h:ChkOf r c fs):3 * fs.length ≤ c.fin - c.beg:=by
 obtain ⟨l,h1, -,h2⟩:=h
 have h3:=blk_three h1
 have h4:=allSome_len h2
 rw [List.length_map] at h4
 rw [List.length_take] at h3
 omega
theorem idxR_step {fin A:Nat} {x:Item} {r:List Item} {cs:List Chk} (h:idxR fin A (x :: r) = some cs) (hA:A ≤ fin):∃ n ds,cs = ⟨x.key,A,A + n⟩ :: ds ∧ idxR fin (A + n) r = some ds ∧ A + n ≤ fin:=by
 rw [idxR_cons] at h
 obtain ⟨a,h1,h⟩:=Option.bind_eq_some_iff.1 h
 obtain ⟨b,h2,h⟩:=Option.bind_eq_some_iff.1 h
 split at h
 ·rename_i hc
  obtain ⟨-, -, -,h4⟩:=hc
  cases hd:idxR fin (A + b.1) r with
  | none=>rw [hd] at h;cases h
  | some ds =>
   rw [hd] at h
   cases h
   exact ⟨b.1,ds,rfl,hd,by omega⟩
 ·cases h
theorem idx_three {r:Rdr} {fin:Nat}:∀ {l:List Item} {A:Nat} {cs:List Chk},idxR fin A l = some cs → A ≤ fin → ∀ (i:Nat) (fs:List Fact),ChksOf r (cs.take i) fs → A + 3 * fs.length ≤ fin
 | [],A,cs,h,hA,i,fs,hf=>by
  rw [idxR_nil] at h
  split at h
  ·cases h
   rw [List.take_nil] at hf
   obtain rfl:fs = []:=hf
   simpa using hA
  ·cases h
 | x :: l,A,cs,h,hA,0,fs,hf=>by
  obtain rfl:fs = []:=hf
  simpa using hA
 | x :: l,A,cs,h,hA,i + 1,fs,hf=>by
  obtain ⟨n,ds,rfl,h2,h3⟩:=idxR_step h hA
  rw [List.take_succ_cons] at hf
  obtain ⟨a,b,h4,h5,rfl⟩:=hf
  have h6:=chk_three h4
  have h7:=idx_three h2 h3 i b h5
  dsimp only at h6
  rw [List.length_append]
  omega
theorem idx_link {fin:Nat}:∀ {l:List Item} {A:Nat} {cs:List Chk},idxR fin A l = some cs → A ≤ fin → (∀ c,cs[0]? = some c → c.beg = A) ∧ ∀ j c d,cs[j]? = some d → cs[j + 1]? = some c → d.fin = c.beg
 | [],A,cs,h,hA=>by
  rw [idxR_nil] at h
  split at h
  ·cases h
   exact ⟨fun c hc=>by simp at hc,fun j c d hd=>by simp at hd⟩
  ·cases h
 | x :: l,A,cs,h,hA=>by
  obtain ⟨n,ds,rfl,h2,h3⟩:=idxR_step h hA
  obtain ⟨k1,k2⟩:=idx_link h2 h3
  refine ⟨fun c hc => ?_,fun j c d hd hc => ?_⟩
  ·rw [List.getElem?_cons_zero] at hc;cases hc;rfl
  ·rw [List.getElem?_cons_succ] at hc
   cases j with
   | zero =>
    rw [List.getElem?_cons_zero] at hd
    cases hd
    exact (k1 c hc).symm
   | succ j =>
    rw [List.getElem?_cons_succ] at hd
    exact k2 j c d hd hc
theorem opens_fin {bs:List UInt8} {r:Rdr} (h:Opens bs r):ftN bs 4 ≤ bs.length:=by
 have h1:=h.c0
 have h2:=h.c1
 have h3:=h.c2
 have h4:=h.len
 omega
theorem opens_few {bs:List UInt8} {r:Rdr} (h:Opens bs r) (i:Nat) {fs:List Fact} (hf:ChksOf r (r.chunks.take i) fs):3 * fs.length ≤ bs.length:=by
 obtain ⟨l, -,h2⟩:=h.idx
 have:=idx_three h2 (Nat.zero_le _) i fs hf
 have:=opens_fin h
 omega
theorem opens_link {bs:List UInt8} {r:Rdr} (h:Opens bs r) {i:Nat} (hi:i < r.chunks.length):(∀ j,i = j + 1 → ∃ d,r.chunks[j]? = some d ∧ d.fin = r.chunks[i].beg) ∧ (i = 0 → r.chunks[i].beg = 0):=by
 obtain ⟨l, -,h2⟩:=h.idx
 obtain ⟨k1,k2⟩:=idx_link h2 (Nat.zero_le _)
 refine ⟨fun j hj => ?_,fun h0 => ?_⟩
 ·subst hj
  exact ⟨r.chunks[j],List.getElem?_eq_getElem (by omega),k2 j _ _ (List.getElem?_eq_getElem (by omega)) (List.getElem?_eq_getElem hi)⟩
 ·subst h0
  exact k1 _ (List.getElem?_eq_getElem hi)
theorem seekR_B (k:List UInt8) (v:Nat):seekR k v = seekB k v:=by
 unfold seekR seekB tailB
 rw [List.append_assoc (List.map _ _),List.take_append_of_le_length (by simp),List.take_of_length_le (by simp)]
theorem rchunk_o {bs:List UInt8} (R i:Nat) (r:Rdr) (w:World) (hat:RRAt w R r) (ho:Opens bs r) (hm:bs.length ≤ 4194304) (hi:i < r.chunks.length) :
  Calls Tryz.prog 31 #[.pointer (some ⟨R,0,none⟩),.int .i64 (i:Int)] w (RChP r r.chunks[i] w.heap.size w):=by
 have h0:=fit0_of ho hm
 obtain ⟨h1,h2⟩:=opens_link ho hi
 obtain ⟨h3,h4⟩:=h0.at_ _ (List.getElem_mem hi)
 exact rchunk_any R i r _ w hat hi rfl h1 h2 h3 h4 h0.b h0.n1
def RAlP (r:Rdr) (b0:Nat) (w:World) (e:Ending) (w':World):Prop :=
 Below b0 w w' ∧ (((¬ ∃ fs,AllR r fs) ∧ e = .returned (.tuple #[.slice none 0 0,.int .i64 13])) ∨
  ∃ fs,AllR r fs ∧ ∃ q c,e = .returned (.tuple #[.slice q fs.length c,.int .i64 0]) ∧ w'.ownsRow b0 27 6 (.slice q fs.length c) fs.length (fCells fs))
set_option maxRecDepth 100000 in
set_option maxHeartbeats 20000000 in
theorem rall_any {bs:List UInt8} (R:Nat) (r:Rdr) (w:World) (hat:RRAt w R r) (ho:Opens bs r) (hm:bs.length ≤ 70000) :
  Calls Tryz.prog 12 #[.pointer (some ⟨R,0,none⟩)] w (RAlP r w.heap.size w):=by
 have h0:=fit0_of ho (by omega)
 obtain ⟨N,hN⟩:∃ x,r.chunks.length = x:=⟨_,rfl⟩
 have hN1:=h0.n1
 rw [hN] at hN1
 have HN:=hid hN
 have HAt:=hid hat
 have HOp:=hid ho
 have hc10:∀ W,Below w.heap.size w W → ∃ q c,W.cell? ⟨R,10,none⟩ = some (.slice q N c):=fun W hW=>by
  obtain ⟨bb,ob,cb,fq,fc,lq,lc,eq,ec,h1, -⟩:=(hat.below hW).ex
  unfold rrRow at h1
  rw [hN] at h1
  exact ⟨lq,lc,(cells12 h1).1⟩
 have HC10:=hid hc10
 have HLine:=hid h0.line
 clear hat ho hN hc10
 go_enter Tryz.func12,Tryz.ntmps12
 go_wp2
 go_loopw [4,5] (fun ov iv wr=>∃ (i no:Nat) (O:List Fact) (qo:Option Addr) (co:Nat),i ≤ N ∧ iv = .int .i64 (i:Int) ∧ ov = .slice qo no co ∧ Hid (O.length = no) ∧ no ≤ 24000 ∧ Hid (ChksOf r (r.chunks.take i) O) ∧ Hid (wr.ownsRow w.heap.size 27 6 (.slice qo no co) no (fCells O)) ∧ Hid (Below w.heap.size w wr)) (fun _ iv _=>N - (intOf iv).toNat)
 case atStart=>exact ⟨0,0,[],none,0,Nat.zero_le _,rfl,rfl,rfl,Nat.zero_le _,rfl,World.ownsRow_nil _ _ _ _,Below.refl _ _⟩
 case round =>
  obtain ⟨i,no,O,qo,co,hi,rfl,rfl,HOl,hno,HCh,HO,HB⟩:=hrel
  have hsr:=HB.out.size
  have i0:(0:Int) ≤ (i:Int):=by omega
  obtain ⟨ql,cl,r10⟩:=HC10.out _ HB.out
  by_cases hlt:i < N
  ·have hil:i < r.chunks.length:=by rw [HN.out];exact hlt
   have i1:(i:Int) < (N:Int):=by omega
   have kc:=rchunk_o R i r wr (HAt.out.below HB.out) HOp.out (by omega) hil
   go_wp2_with fail
   refine kc.mono ?_
   rintro e w2 ⟨b2,hcase⟩
   have HB2:=hid (HB.out.trans (b2.mono hsr))
   have B2:=hid b2
   clear b2 kc
   rcases hcase with ⟨hnc,rfl⟩ | ⟨fs,hfs,q2,c2,rfl,own2⟩
   ·have HNo:Hid (¬ ∃ fs,AllR r fs):=fun ⟨fs,h⟩=>hnc (h.1.get hil)
    clear hnc
    as_aux_lemma =>
     go_wp2
     go_ret2
     exact ⟨HB2.out,.inl ⟨HNo.out,rfl⟩⟩
   have hch:ChksOf r (r.chunks.take (i + 1)) (O ++ fs):=by
    rw [List.take_succ_eq_append_getElem hil]
    exact HCh.out.snoc hfs
   have hfew:=opens_few HOp.out _ hch
   rw [List.length_append,HOl.out] at hfew
   have HCN:=hid hch
   obtain ⟨FL,hFL⟩:∃ x,fs.length = x:=⟨_,rfl⟩
   rw [hFL] at own2 hfew ⊢
   have HFL:=hid hFL
   have HOw2:=hid own2
   have hs2:=HB2.out.size
   have hq2:q2 = none → c2 = 0:=by
    obtain ⟨qz,cz,ez,_,_,hz⟩:=own_shape own2
    cases ez
    exact hz
   clear hch hfs own2 hFL hil
   go_upto_region 4 with (at_builtin;refine wpList_append_rd rfl (.tmp 28) (.tmp 29) 38 rfl w.heap.size 27 (.agg zFact.cells.toArray) 6 64 Tryz.underlying38 infoFact6 rfl (by decide) (.slice qo no co) no (fCells O) rfl (own_below HO.out B2.out) q2 FL c2 (fCells fs) rfl hq2 (by rw [fCells_len,HFL.out]) (Fr.of_own HOw2.out).rd (fCells_one _) (by unfold maxLen;omega) (by omega) hs2 ?_;intro v9 w9 hown9 hg9 _;have P9:=hid (And.intro hown9 hg9);clear hown9 hg9)
   obtain ⟨hown9,hg9⟩:=P9.out
   obtain ⟨q9,c9,rfl,_,_,_⟩:=own_shape hown9
   rw [← fCells_append] at hown9
   have HO9:=hid hown9
   have HB9:=hid (show Below w.heap.size w w9 from HB2.out.grown hg9 hs2 (fun g hg=>(HO.out.lt g hg).1))
   have HOl9:Hid ((O ++ fs).length = no + FL):=by show _ = _;rw [List.length_append,HOl.out,HFL.out]
   clear hown9 hg9 P9 r10
   go_wp2
   go_roundw
   case rel=>exact ⟨i + 1,no + FL,O ++ fs,q9,c9,by omega,by go_num,rfl,HOl9,by omega,HCN,HO9,HB9⟩
   case measure=>simp [intOf];omega
  ·obtain rfl:i = N:=by omega
   have hall:ChksOf r r.chunks O:=by
    have:=HCh.out
    rw [← HN.out,List.take_length] at this
    exact this
   have hok:=hall.ok HLine.out
   have kb:=ref_build r.props.line qo no co O wr HOl.out hno (Fr.of_own HO.out).rd hok
   have HAll:=hid hall
   obtain ⟨bb,ob,cb,fq,fc,lq,lc,eq,ec,hrow, -, -,rdb, -⟩:=(HAt.out.below HB.out).ex
   unfold rrRow at hrow
   obtain ⟨r0, -,r2, -⟩:=cells12c hrow
   have HRow:=hid hrow
   have HRdb:=hid rdb
   have i1:¬ ((i:Int) < (i:Int)):=by omega
   clear hall hok hrow rdb
   go_wp2_with fail
   refine kb.mono ?_
   rintro e w2 ⟨b2,hcase⟩
   have HB2:=hid (HB.out.trans (b2.mono hsr))
   have B2:=hid b2
   clear b2 kb
   rcases hcase with ⟨hng,rfl⟩ | ⟨hg,hp,hbig,rfl⟩ | ⟨hg,hp,hle,qt,ct,rfl,hfr⟩
   ·have HNo:Hid (¬ ∃ fs,AllR r fs):=fun ⟨fs,h⟩=>hng (by have e:=HAll.out.one h.1;subst e;exact h.2.1)
    clear hng
    as_aux_lemma =>
     rw [show zProps = #[.int .u64 0,.int .u64 0,.string ⟨#[]⟩,.string ⟨#[]⟩,.int .u64 0,.int .u64 0,.int .u32 0,.int .u32 0] from rfl]
     go_upto_region 10 with fail
     go_quiet (fail)
     have HBz:=hid (below_drewN (HB2.out.alloc HB2.out.size (.cells #[.int .u64 0,.int .u64 0,.string ⟨#[]⟩,.string ⟨#[]⟩,.int .u64 0,.int .u64 0,.int .u32 0,.int .u32 0] 49)) nq)
     go_wp2
     go_ret2
     exact ⟨HBz.out,.inl ⟨HNo.out,rfl⟩⟩
   ·have HNo:Hid (¬ ∃ fs,AllR r fs):=fun ⟨fs,h⟩=>by have e:=HAll.out.one h.1;subst e;have:=h.2.2.1;omega
    clear hg hp hbig
    as_aux_lemma =>
     rw [show zProps = #[.int .u64 0,.int .u64 0,.string ⟨#[]⟩,.string ⟨#[]⟩,.int .u64 0,.int .u64 0,.int .u32 0,.int .u32 0] from rfl]
     go_upto_region 10 with fail
     go_quiet (fail)
     have HBz:=hid (below_drewN (HB2.out.alloc HB2.out.size (.cells #[.int .u64 0,.int .u64 0,.string ⟨#[]⟩,.string ⟨#[]⟩,.int .u64 0,.int .u64 0,.int .u32 0,.int .u32 0] 49)) nq)
     go_wp2
     go_ret2
     exact ⟨HBz.out,.inl ⟨HNo.out,rfl⟩⟩
   ·obtain ⟨pp,hpp⟩:∃ x,propsF r.props.line O = x:=⟨_,rfl⟩
    rw [hpp,show pp.cells.toArray = #[.int .u64 (pp.line:Int),.int .u64 (pp.many:Int),.string pp.low,.string pp.high,.int .u64 (pp.least:Int),.int .u64 (pp.greatest:Int),.int .u32 (pp.early:Int),.int .u32 (pp.late:Int)] from rfl]
    obtain ⟨TT,hTT⟩:∃ x,tabB r.props.line O = x:=⟨_,rfl⟩
    rw [hTT] at hfr hle ⊢
    obtain ⟨TL,hTL⟩:∃ x,TT.length = x:=⟨_,rfl⟩
    rw [hTL] at hfr ⊢
    have HFr:=hid hfr
    have HTT:=hid hTT
    have HTL:=hid hTL
    have HGd:=hid (And.intro hg hp)
    have HLe:=hid hle
    clear hfr hTT hTL hpp hg hp hle
    go_upto_region 10 with fail
    obtain ⟨w3,hw3⟩:∃ x,x = w2.alloc (.cells #[.int .u64 (pp.line:Int),.int .u64 (pp.many:Int),.string pp.low,.string pp.high,.int .u64 (pp.least:Int),.int .u64 (pp.greatest:Int),.int .u32 (pp.early:Int),.int .u32 (pp.late:Int)] 49):=⟨_,rfl⟩
    have hb3:Below w2.heap.size w2 w3:=by rw [hw3];exact (Below.refl _ _).alloc (Nat.le_refl _) _
    rw [← hw3]
    have HO3:=hid (own_below (own_below HO.out B2.out) hb3)
    have HB3:=hid (HB2.out.trans (hb3.mono HB2.out.size))
    have hR3:w3.heap[R]? = _:=(hb3.block R (Nat.lt_of_lt_of_le (lt_of_block HRow.out) B2.out.size)).trans ((B2.out.block R (lt_of_block HRow.out)).trans HRow.out)
    obtain ⟨r0', -⟩:=cells12c hR3
    obtain ⟨SA,hSA⟩:∃ x:ByteArray,x = ⟨TT.toArray⟩:=⟨_,rfl⟩
    obtain ⟨SB,hSB⟩:∃ x:ByteArray,x = ⟨r.b.toArray⟩:=⟨_,rfl⟩
    have rdT:=HFr.out.rd.below hb3
    have rdB:=(HRdb.out.below B2.out).below hb3
    obtain ⟨TD,D,hD1,hD2⟩:=class_d w3
    have cva:∀ z,(convert 22 9 (.slice qt TL ct)).run Tryz.prog (D z) = .ok (.string SA) (D z):=fun z=>by
     rw [hSA];exact convB (D z) qt TL ct TT HTL.out (rdT.below (hD1 z))
    have cvb:∀ z,(convert 22 9 (.slice (some ⟨bb,ob,none⟩) r.b.length cb)).run Tryz.prog (D z) = .ok (.string SB) (D z):=fun z=>by
     rw [hSB];exact convB (D z) _ _ cb r.b rfl (rdB.below (hD1 z))
    have y0:∀ z,(D z).cell? ⟨R,0,none⟩ = some (.slice (some ⟨bb,ob,none⟩) r.b.length cb):=fun z=>((hD1 z).cell (World.block_lt_of_cell? w3 _ r0')).trans r0'
    obtain ⟨q0,hq0⟩:=hD2 { w3 with drawn:=w3.drawn + 1 } (Below.refl _ _).drew
    haveI:Nonempty TD:=⟨q0⟩
    have HD1:=hid hD1
    have HSA:=hid hSA
    have HSB:=hid hSB
    clear hw3 hb3 hR3 r0' rdT rdB hD1 hD2 hSA hSB r0 r2
    by_cases hE:TT = r.b
    ·have hyes:AllR r O:=⟨HAll.out,HGd.out,by rw [HTT.out];exact HLe.out,by rw [HTT.out];exact hE⟩
     have HYes:=hid hyes
     obtain rfl:SA = SB:=by rw [HSA.out,HSB.out,hE]
     have d1:(SA.toList == SA.toList) = true:=beq_self_eq_true _
     clear hyes hE
     refine region_quiet_d (D:=D) (by kernel_rfl) (by kernel_rfl) q0 hq0 ?_
     repeat (go_big_quiet_step (fail))
     refine wpQuiet_nil ?_
     intro z
     have HBz:=hid (HB3.out.trans ((HD1.out z).mono HB3.out.size))
     have HOz:=hid (own_below HO3.out (HD1.out z))
     go_wp2
     go_ret2
     exact ⟨HBz.out,.inr ⟨O,HYes.out,qo,co,by rw [HOl.out];rfl,by rw [HOl.out];exact HOz.out⟩⟩
    ·have HNo:Hid (¬ ∃ fs,AllR r fs):=fun ⟨fs,h⟩=>hE (by have e:=HAll.out.one h.1;subst e;rw [← HTT.out];exact h.2.2.2)
     have d1:(SA.toList == SB.toList) = false:=beq_eq_false_iff_ne.2 fun e=>hE (by have h2:=toList_injE e;rw [HSA.out,HSB.out] at h2;exact h2)
     clear hE
     as_aux_lemma =>
      refine region_quiet_d (D:=D) (by kernel_rfl) (by kernel_rfl) q0 hq0 ?_
      repeat (go_big_quiet_step (fail))
      refine wpQuiet_nil ?_
      intro z
      have HBz:=hid (HB3.out.trans ((HD1.out z).mono HB3.out.size))
      go_wp2
      go_ret2
      exact ⟨HBz.out,.inl ⟨HNo.out,rfl⟩⟩
def posR (r:Rdr) (i:Nat):Nat:=if i = 0 then 0 else ((r.chunks[i - 1]?).map (·.fin)).getD 0
theorem pos_step {bs:List UInt8} {r:Rdr} (ho:Opens bs r) {i:Nat} (hi:i < r.chunks.length):posR r i = r.chunks[i].beg ∧ posR r (i + 1) = r.chunks[i].fin:=by
 obtain ⟨h1,h2⟩:=opens_link ho hi
 refine ⟨?_, ?_⟩
 ·unfold posR
  by_cases h0:i = 0
  ·rw [if_pos h0];exact (h2 h0).symm
  ·rw [if_neg h0]
   obtain ⟨d,hd,he⟩:=h1 (i - 1) (by omega)
   rw [hd]
   exact he
 ·unfold posR
  rw [if_neg (by omega),Nat.add_sub_cancel,List.getElem?_eq_getElem hi]
  rfl
def RFrQ (r:Rdr) (s:ByteArray) (SI b0:Nat) (w:World) (e:Ending) (w':World):Prop :=
 Below b0 w w' ∧ ∃ (l:List Fact) (b:Bool) (q:Option Addr) (c:Nat),FromR r s (r.chunks.drop SI) (l.map (fun f=>(f,0)) ++ (if b = true then [(zFact,13)] else [])) ∧ l.length ≤ 24000 ∧
  e = .returned (.tuple #[.slice q l.length c,.int .i64 (if b = true then 13 else 0)]) ∧ w'.ownsRow b0 27 6 (.slice q l.length c) l.length (fCells l)
set_option maxRecDepth 100000 in
set_option maxHeartbeats 20000000 in
theorem rfrom_any {bs:List UInt8} (R:Nat) (r:Rdr) (key:ByteArray) (valid:Nat) (w:World) (hat:RRAt w R r) (ho:Opens bs r) (hm:bs.length ≤ 70000) (hk:key.size ≤ 1000000) (hv:valid < 4294967296) :
  Calls Tryz.prog 10 #[.pointer (some ⟨R,0,none⟩),.string key,.int .u32 (valid:Int)] w (RFrQ r ⟨(seekB key.data.toList valid).toArray⟩ (seekI r.chunks ⟨(seekB key.data.toList valid).toArray⟩) w.heap.size w):=by
 have h0:=fit0_of ho (by omega)
 obtain ⟨N,hN⟩:∃ x,r.chunks.length = x:=⟨_,rfl⟩
 have hN1:=h0.n1
 rw [hN] at hN1
 have HN:=hid hN
 have HAt:=hid hat
 have HOp:=hid ho
 have hc10:∀ W,Below w.heap.size w W → ∃ q c,W.cell? ⟨R,10,none⟩ = some (.slice q N c) ∧ Rd W q (r.chunks.map fun c=>stv c.last):=fun W hW=>by
  obtain ⟨bb,ob,cb,fq,fc,lq,lc,eq,ec,h1, -, -, -, -,h6, -⟩:=(hat.below hW).ex
  unfold rrRow at h1
  rw [hN] at h1
  exact ⟨lq,lc,(cells12 h1).1,h6⟩
 have HC10:=hid hc10
 have HLine:=hid h0.line
 have HRise:=hid h0.rise
 have ks:=ref_seek key valid hk hv w
 rw [seekR_B] at ks
 obtain ⟨SS,hSS⟩:∃ x:ByteArray,x = ⟨(seekB key.data.toList valid).toArray⟩:=⟨_,rfl⟩
 have hSl:(seekB key.data.toList valid).length = (esc key.data.toList).length + 6:=by rw [← seekR_B];unfold seekR;simp
 rw [← hSS]
 obtain ⟨SL,hSL⟩:∃ x,(esc key.data.toList).length + 6 = x:=⟨_,rfl⟩
 rw [hSL] at ks hSl
 have HSL:=hid hSl
 have HSS:=hid hSS
 obtain ⟨SI,hSI⟩:∃ x,seekI r.chunks SS = x:=⟨_,rfl⟩
 have hSIl:=seekI_le r.chunks SS
 rw [hSI,hN] at hSIl
 rw [hSI]
 have HSI:=hid hSI
 clear hat ho hN hc10 hSS hSl hSL hSI
 go_enter Tryz.func10,Tryz.ntmps10
 go_upto_region 2 with (go_at_call 30;(with_reducible refine ks.mono ?_);rintro e w1 ⟨q1,c1,rfl,own1,b1⟩;have cv1:=convB w1 q1 SL c1 (seekB key.data.toList valid) HSL.out (Fr.of_own own1).rd;rw [← HSS.out] at cv1;have HB1:=hid b1;clear own1 b1)
 clear cv1
 go_wp2
 go_loopw [9,10] (fun ov iv wr=>∃ (i no:Nat) (O:List Fact) (qo:Option Addr) (co:Nat),i ≤ N ∧ iv = .int .i64 (i:Int) ∧ ov = .slice qo no co ∧ Hid (O.length = no) ∧ Hid (3 * no ≤ posR r i) ∧ no ≤ 24000 ∧ Hid (∀ ys,FromR r SS (r.chunks.drop (max i SI)) ys → FromR r SS (r.chunks.drop SI) (O.map (fun f=>(f,0)) ++ ys)) ∧ Hid (wr.ownsRow w.heap.size 27 6 (.slice qo no co) no (fCells O)) ∧ Hid (Below w.heap.size w wr)) (fun _ iv _=>N - (intOf iv).toNat)
 case atStart=>exact ⟨0,0,[],none,0,Nat.zero_le _,rfl,rfl,rfl,Nat.zero_le _,Nat.zero_le _,fun ys h=>(by rw [Nat.zero_max] at h;exact h),World.ownsRow_nil _ _ _ _,HB1.out⟩
 case round =>
  obtain ⟨i,no,O,qo,co,hi,rfl,rfl,HOl,HPo,hno,HF,HO,HB⟩:=hrel
  have hsr:=HB.out.size
  have i0:(0:Int) ≤ (i:Int):=by omega
  obtain ⟨ql,cl,r10,rl⟩:=HC10.out _ HB.out
  by_cases hlt:i < N
  ·have hil:i < r.chunks.length:=by rw [HN.out];exact hlt
   have i1:(i:Int) < (N:Int):=by omega
   obtain ⟨bl,ol,rfl,gl⟩:=rl.cell (k:=i) (by rw [List.length_map];exact hil)
   rw [List.getElem_map] at gl
   unfold stv at gl
   obtain ⟨hp1,hp2⟩:=pos_step HOp.out hil
   obtain ⟨hp3,hp4⟩:=(fit0_of HOp.out (by omega)).at_ _ (List.getElem_mem hil)
   rw [HOp.out.b] at hp4
   have hpo:=HPo.out
   rw [hp1] at hpo
   clear rl
   by_cases hsk:i < SI
   ·have d1:Op.bytesLess r.chunks[i].last.toList SS.toList = true:=by rw [ByteArray.toList_eq,ByteArray.toList_eq];exact seekI_lt hil (by rw [HSI.out];exact hsk)
    have HF2:Hid (∀ ys,FromR r SS (r.chunks.drop (max (i + 1) SI)) ys → FromR r SS (r.chunks.drop SI) (O.map (fun f=>(f,0)) ++ ys)):=fun ys h=>HF.out ys (by rw [show max i SI = max (i + 1) SI by omega];exact h)
    have HPo2:Hid (3 * no ≤ posR r (i + 1)):=by show _ ≤ _;rw [hp2];omega
    clear hp1 hp2 hp3 hp4 hpo hsk
    go_wp2
    go_roundw
    case rel=>exact ⟨i + 1,no,O,qo,co,by omega,by go_num,rfl,HOl,HPo2,hno,HF2,HO,HB⟩
    case measure=>simp [intOf];omega
   have d1:Op.bytesLess r.chunks[i].last.toList SS.toList = false:=by rw [ByteArray.toList_eq,ByteArray.toList_eq];exact seekI_ge HRise.out hil (by rw [HSI.out];omega)
   have kc:=rchunk_o R i r wr (HAt.out.below HB.out) HOp.out (by omega) hil
   have hdr:r.chunks.drop i = r.chunks[i] :: r.chunks.drop (i + 1):=List.drop_eq_getElem_cons hil
   have hmx:max i SI = i:=by omega
   have hmx2:max (i + 1) SI = i + 1:=by omega
   have hF:=HF.out
   rw [hmx,hdr] at hF
   have HF1:=hid hF
   obtain ⟨C,hC⟩:∃ x,r.chunks[i] = x:=⟨_,rfl⟩
   rw [hC] at HF1 hp1 hp2 hp3 hp4 hpo
   have HC:=hid hC
   have HP2:=hid hp2
   have HMX:=hid hmx2
   rw [hC] at kc gl d1
   clear hF HF hdr hmx hmx2 hC hsk hp1 hp2
   go_wp2_with fail
   refine kc.mono ?_
   rintro e w2 ⟨b2,hcase⟩
   have HB2:=hid (HB.out.trans (b2.mono hsr))
   have B2:=hid b2
   have hs2:=HB2.out.size
   have hr2:=b2.size
   clear b2 kc gl r10 d1
   rcases hcase with ⟨hnc,rfl⟩ | ⟨fs,hfs,q2,c2,rfl,own2⟩
   ·have HR:Hid (FromR r SS (r.chunks.drop SI) (O.map (fun f=>(f,0)) ++ [(zFact,13)])):=HF1.out _ (.inr ⟨hnc,rfl⟩)
    have HO2:=hid (own_below HO.out B2.out)
    clear hnc
    as_aux_lemma =>
     go_wp2
     go_ret2
     exact ⟨HB2.out,O,true,qo,co,HR.out,by rw [HOl.out];exact hno,by rw [HOl.out];rfl,by rw [HOl.out];exact HO2.out⟩
   have hfp:=hfs.pos
   have hmay:=hfs.may HLine.out
   have hf3:=chk_three hfs
   have HFS:=hid hfs
   have HMay:=hid hmay
   obtain ⟨FL,hFL⟩:∃ x,fs.length = x:=⟨_,rfl⟩
   rw [hFL] at own2 hfp hf3 ⊢
   have HFL:=hid hFL
   obtain ⟨bb2,oo2,hq2, -⟩:=(Fr.of_own own2).rd.cell (k:=0) (by rw [fCells_len];omega)
   subst hq2
   obtain ⟨hbg,hbl⟩:=bown_lt own2 bb2 rfl
   have hqb:∀ x,qo = some x → x.block ≠ bb2:=fun x hx=>by
    subst hx
    have:=(bown_lt HO.out x.block rfl).2
    omega
   have HOw2:=hid own2
   have HQB:=hid hqb
   have HO2:=hid (own_below HO.out B2.out)
   clear own2 hFL hmay hfs hqb
   go_upto_region 10 with fail
   go_wp2_with fail
   go_loopw [9,13] (fun ov kv wk=>∃ (k no2:Nat) (O2:List Fact) (q3:Option Addr) (c3:Nat),k ≤ FL ∧ kv = .int .i64 (k:Int) ∧ ov = .slice q3 no2 c3 ∧ Hid (O2 = O ++ (fs.take k).filter fun f => !bL (kput f) SS.data.toList) ∧ Hid (O2.length = no2) ∧ no2 ≤ no + k ∧ Hid (∀ x,q3 = some x → x.block ≠ bb2) ∧ Hid (wk.heap[bb2]? = w2.heap[bb2]?) ∧ Hid (wk.ownsRow w.heap.size 27 6 (.slice q3 no2 c3) no2 (fCells O2)) ∧ Hid (Below w.heap.size w wk)) (fun _ kv _=>FL - (intOf kv).toNat)
   case atStart=>exact ⟨0,no,O,qo,co,Nat.zero_le _,rfl,rfl,by show _ = _;simp,HOl,Nat.le_refl _,HQB.out,rfl,HO2.out,HB2.out⟩
   case round =>
    obtain ⟨k,no2,O2,q3,c3,hk,rfl,rfl,HO2e,HO2l,hno2,HQ3,HK,HO3,HB3⟩:=hrel
    have hs3:=HB3.out.size
    have k0:(0:Int) ≤ (k:Int):=by omega
    by_cases hkl:k < FL
    ·have hkf:k < fs.length:=by rw [HFL.out];exact hkl
     have hk1:(k:Int) < (FL:Int):=by omega
     have own3:=bown_keep HOw2.out (w':=wr) fun g hv=>by cases hv;exact HK.out
     obtain ⟨b3,o3,e3,hb3l,hfa⟩:=fact_at (Fr.of_own own3).rd hkf
     cases e3
     obtain ⟨f,hf⟩:∃ x,fs[k] = x:=⟨_,rfl⟩
     rw [hf] at hfa
     obtain ⟨g0,g1,g2,g3,g4,g5⟩:=hfa
     obtain ⟨hok,hmy⟩:=HMay.out f (by rw [← hf];exact List.getElem_mem hkf)
     have kp:Calls Tryz.prog 32 #[.agg #[.string f.key,.int .u32 (f.valid:Int),.int .u64 (f.seq:Int),.int .u64 (f.line:Int),.int .u8 (f.kind:Int),.string f.val]] wr (fun e w'=>∃ q c,e = .returned (.tuple #[.slice q (kput f).length c,.int .i64 0]) ∧ Fr w' wr.heap.size 5 1 (.slice q (kput f).length c) (kput f).length ((kput f).map bv) ∧ Below wr.heap.size wr w'):=ref_kput f hok wr hmy
     have htk:(fs.take (k + 1)).filter (fun f => !bL (kput f) SS.data.toList) = (fs.take k).filter (fun f => !bL (kput f) SS.data.toList) ++ if bL (kput f) SS.data.toList = true then [] else [f]:=by
      rw [List.take_succ_eq_append_getElem hkf,List.filter_append,hf]
      congr 1
      cases hb:bL (kput f) SS.data.toList <;> simp [hb]
     have HTK:=hid htk
     obtain ⟨KK,hKK⟩:∃ x:ByteArray,x = ⟨(kput f).toArray⟩:=⟨_,rfl⟩
     have HKK:=hid hKK
     obtain ⟨KN,hKN⟩:∃ x,(kput f).length = x:=⟨_,rfl⟩
     have HKN:=hid hKN
     rw [hKN] at kp
     clear own3 hf hok hmy htk hKK hKN
     go_upto_region 14 with (go_at_call 32;(with_reducible refine kp.mono ?_);rintro e w5 ⟨qk,ck,rfl,fr5,b5⟩;have cv5:=convB w5 qk KN ck (kput f) HKN.out fr5.rd;rw [← HKK.out] at cv5;have B5:=hid b5;clear fr5 b5 kp)
     have HB5:=hid (HB3.out.trans (B5.out.mono hs3))
     have hs5:=HB5.out.size
     have HO5:=hid (own_below HO3.out B5.out)
     have HK5:=hid ((B5.out.block bb2 hb3l).trans HK.out)
     have x0:=(B5.out.cell (p:=⟨bb2,oo2 + k * 6,none⟩) hb3l).trans g0
     have x1:=(B5.out.cell (p:=⟨bb2,oo2 + k * 6 + 1,none⟩) hb3l).trans g1
     have x2:=(B5.out.cell (p:=⟨bb2,oo2 + k * 6 + 2,none⟩) hb3l).trans g2
     have x3:=(B5.out.cell (p:=⟨bb2,oo2 + k * 6 + 3,none⟩) hb3l).trans g3
     have x4:=(B5.out.cell (p:=⟨bb2,oo2 + k * 6 + 4,none⟩) hb3l).trans g4
     have x5:=(B5.out.cell (p:=⟨bb2,oo2 + k * 6 + 5,none⟩) hb3l).trans g5
     have hl5:bb2 < w5.heap.size:=Nat.lt_of_lt_of_le hb3l B5.out.size
     clear g0 g1 g2 g3 g4 g5
     cases hb:bL (kput f) SS.data.toList with
     | true =>
      have d2:=ge_false (a:=KK) (b:=SS) (by rw [HKK.out];exact hb)
      have d3:Op.bytesLess KK.toList SS.toList = true:=by rw [ByteArray.toList_eq,ByteArray.toList_eq,HKK.out];exact hb
      have HE:Hid (O2 = O ++ (fs.take (k + 1)).filter fun f => !bL (kput f) SS.data.toList):=by show _ = _;rw [HTK.out,hb,if_pos rfl,List.append_nil];exact HO2e.out
      clear hb x0 x1 x2 x3 x4 x5
      go_wp2
      go_roundw
      case rel=>exact ⟨k + 1,no2,O2,q3,c3,by omega,by go_num,rfl,HE,HO2l,by omega,HQ3,HK5,HO5,HB5⟩
      case measure=>simp [intOf];omega
     | false =>
      have d2:=ge_true (a:=KK) (b:=SS) (by rw [HKK.out];exact hb)
      have d3:Op.bytesLess KK.toList SS.toList = false:=by rw [ByteArray.toList_eq,ByteArray.toList_eq,HKK.out];exact hb
      have HE:Hid (O2 ++ [f] = O ++ (fs.take (k + 1)).filter fun f => !bL (kput f) SS.data.toList):=by show _ = _;rw [HTK.out,hb,if_neg (by decide),HO2e.out,List.append_assoc]
      clear hb
      go_upto_region 12 with (at_builtin;refine wpList_append_src rfl (.tmp 65) (.tmp 70) 38 38 rfl w.heap.size 27 (.agg zFact.cells.toArray) 6 64 Tryz.underlying38 infoFact6 rfl (by decide) q3 no2 c3 (fCells O2) rfl (own_below HO5.out ((Below.refl _ _).alloc (Nat.le_refl _) _)) _ 1 (fCells [f]) rfl (src_rd (by decide) Tryz.underlying38 1 rfl (Rd.new w5 (fCells [f]) 27) (fCells_one _)) (by unfold maxLen;omega) (by omega) (by simp;omega) ?_;intro q9 c9 w9 hown9 hg9 hwh;have P9:=hid (And.intro hown9 (And.intro hg9 hwh));clear hown9 hg9 hwh)
      obtain ⟨hown9,hg9,hwh⟩:=P9.out
      rw [← fCells_append] at hown9
      have hq9:∀ x,q9 = some x → x.block ≠ bb2:=fun x hx=>by
       rcases hwh with h | ⟨g,h,hg⟩
       ·exact HQ3.out x (by rw [← h];exact hx)
       ·rw [h] at hx
        cases hx
        rw [World.size_alloc] at hg
        show g ≠ bb2
        omega
      have hk9:w9.heap[bb2]? = w2.heap[bb2]?:=by
       refine (hg9.block bb2 (by rw [World.size_alloc];omega) (fun e => ?_)).trans ((Below.heap_alloc _ _ _ hl5).trans HK5.out)
       cases q3 with
       | none=>cases e
       | some x =>
        have:=HQ3.out x rfl
        exact this (Option.some.inj e).symm
      have HO9:=hid hown9
      have HQ9:=hid hq9
      have HK9:=hid hk9
      have HB9:=hid (show Below w.heap.size w w9 from (HB5.out.alloc hs5 _).grown hg9 (by simp;omega) (fun g hg=>(HO5.out.lt g hg).1))
      have HL9:Hid ((O2 ++ [f]).length = no2 + 1):=by show _ = _;rw [List.length_append,HO2l.out];rfl
      clear hown9 hg9 hwh hq9 hk9 P9 x0 x1 x2 x3 x4 x5
      go_wp2
      go_roundw
      case rel=>exact ⟨k + 1,no2 + 1,O2 ++ [f],q9,c9,by omega,by go_num,rfl,HE,HL9,by omega,HQ9,HK9,HO9,HB9⟩
      case measure=>simp [intOf];omega
    ·obtain rfl:k = FL:=by omega
     have hO2:=HO2e.out
     rw [← HFL.out,List.take_length] at hO2
     have HF2:Hid (∀ ys,FromR r SS (r.chunks.drop (max (i + 1) SI)) ys → FromR r SS (r.chunks.drop SI) (O2.map (fun f=>(f,0)) ++ ys)):=fun ys h=>by
      rw [HMX.out] at h
      have:=HF1.out _ (.inl ⟨fs,ys,HFS.out,h,rfl⟩)
      rw [hO2,List.map_append,List.append_assoc]
      exact this
     have HPo2:Hid (3 * no2 ≤ posR r (i + 1)):=by show _ ≤ _;rw [HP2.out];omega
     have hno3:no2 ≤ 24000:=by have:=HPo2.out;rw [HP2.out] at this;omega
     clear hO2
     go_wp2
     go_roundw
     case rel=>exact ⟨i + 1,no2,O2,q3,c3,by omega,by go_num,rfl,HO2l,HPo2,hno3,HF2,HO3,HB3⟩
     case measure=>simp [intOf];omega
  ·obtain rfl:i = N:=by omega
   have i1:¬ ((i:Int) < (i:Int)):=by omega
   have HR:Hid (FromR r SS (r.chunks.drop SI) (O.map (fun f=>(f,0)) ++ [])):=HF.out [] (by
    rw [show max i SI = r.chunks.length by rw [HN.out];omega,List.drop_length]
    rfl)
   clear rl
   go_wp2
   go_ret2
   exact ⟨HB.out,O,false,qo,co,HR.out,by rw [HOl.out];exact hno,by rw [HOl.out];rfl,by rw [HOl.out];exact HO.out⟩
end Go.Proofs.Herb
