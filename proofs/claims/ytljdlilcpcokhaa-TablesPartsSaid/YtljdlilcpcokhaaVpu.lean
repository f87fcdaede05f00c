/- The contracts of varints.Put and PutText: a number, and a text, behind bytes. For slices that can be read. -/
import Derived.Test.YtljdlilcpcokhaaVpt
namespace Go.Proofs.Herb
open Go.RowKit
attribute [local go_sem] Oper.semAt_some
set_option maxRecDepth 100000 in
set_option maxHeartbeats 2000000 in
theorem vput_any (a : Option Addr) (n c N : Nat) (l : List UInt8) (w : World) (hN : N < 18446744073709551616) (hn : l.length = n) (hc : n ≤ c) (hm : n ≤ 4194304) (hr : Rd w a (l.map bv)) (ha : a = none → c = 0) :
    Calls Try.prog 22 #[.slice a n c, .int .u64 (N : Int)] w fun e w' => ∃ q, e = .returned (.slice q (n + (vput N).length) (n + (vput N).length)) ∧ Fr w' w.heap.size 5 1 (.slice q (n + (vput N).length) (n + (vput N).length)) (n + (vput N).length) ((l ++ vput N).map bv) ∧ Below w.heap.size w w' := by
  have HC := hid (clone_own a n c l (w.alloc (.cells #[.slice a n c] 26)) hn hc hm (hr.alloc _) ha)
  have Hn := hid hn
  have HVl := hid (vput_len N)
  have hvl := (vput_len N).2
  clear hr ha hn
  refine (callsIn_wide (n := 3)).1 (callsIn_of_wp_marks Try.func22 rfl trivial ?_ rfl)
  refine wpIn_wide.2 ?_
  simp only [Try.ntmps22, List.size_toArray, List.length_cons, List.length_nil, Nat.reduceAdd, Nat.reduceSub, Array.replicate_succ, Array.replicate_zero, List.push_toArray, List.append_toArray, List.nil_append, List.cons_append]
  go_wp2_with fail
  (with_reducible refine HC.out.mono ?_)
  rintro e w2 ⟨q2, c2, rfl, hown2, hb2⟩
  rw [World.size_alloc] at hown2 hb2
  have hB2 : Boxed w2 w.heap.size 26 (.slice a n c) := (hb2.block _ (by simp)).trans (Boxed.new w _ _)
  have cB2 := hB2.cell
  have fB2 := hB2.frozen
  have HB2 := hid hB2
  have Hown2 := hid hown2
  have Hb2 := hid hb2
  clear hB2 hown2 hb2
  go_wp2_with (go_at_call 45; refine (groups_any N _).mono ?_; rintro e w4 ⟨rfl, rfl⟩)
  obtain ⟨Bn, hBn⟩ : ∃ Bn, Bn = w2.heap.size := ⟨_, rfl⟩
  obtain ⟨w3, hw3⟩ : ∃ w3, (w2.setCell ⟨w.heap.size, 0, none⟩ (.slice q2 n c2)).alloc (.cells #[.int .u64 (N : Int)] 22) = w3 := ⟨_, rfl⟩
  rw [← hBn, hw3]
  have hlt : w.heap.size < Bn := by rw [hBn]; exact HB2.out.lt
  have hs3 : w3.heap.size = Bn + 1 := by rw [← hw3, hBn]; simp
  have hO3 : Only (· = w.heap.size) w2 w3 := by
    rw [← hw3]
    exact (Only.set (R := (· = w.heap.size)) HB2.out rfl _).trans (Only.of_below ((Below.refl _ _).alloc (Nat.le_refl _) _))
  have hN3 : Boxed w3 Bn 22 (.int .u64 (N : Int)) := by
    rw [← hw3, hBn]
    have := Boxed.new (w2.setCell ⟨w.heap.size, 0, none⟩ (.slice q2 n c2)) 22 (.int .u64 (N : Int))
    rwa [World.size_setCell] at this
  have hX3 : Boxed w3 w.heap.size 26 (.slice q2 n c2) := by rw [← hw3]; exact (HB2.out.set _).alloc _
  have hw2s : w.heap.size ≤ w2.heap.size := by omega
  have hI3 : PutI w l w.heap.size Bn [] w3 := ⟨⟨_, hX3, by
      have := own_mono (own_only hO3 Hown2.out (fun g hg e => by have := (Hown2.out.lt g hg).1; omega)) (show w.heap.size ≤ w.heap.size + 1 by omega)
      simpa [Hn.out] using this⟩, ⟨_, _, hN3⟩, (((Below.refl _ w).alloc (Nat.le_refl _) _).trans (Hb2.out.mono (by omega))).trans (hO3.below hw2s (fun g hg e => by omega))⟩
  have HN3 := hid hN3
  have HI3 := hid hI3
  have HBn := hid hBn
  have Hs3 := hid hs3
  clear hw3 hN3 hX3 hO3 hI3 hBn hs3 cB2 fB2 HC
  refine wpIn_wide.1 (wpIn_range_stop (n := 3) rfl (by omega) (gf := 58) (lb := #[.pointer (some ⟨Bn, 0, none⟩)]) rfl trivial (enters_of Try.func58 (by kernel_rfl) rfl)
    (fun _ => rfl) (groups1_in 2 Bn w3.heap.size N (by omega) hN) (Nat.le_refl _) (fun W hb => (hb.block _ HN3.out.lt).trans HN3.out) KeepB.trans (fun W l o o' hl _ _ => KeepB.putObj W l o o' (by have := Hs3.out; omega))
    (fun A B h => h.keeps _) (PutI w l w.heap.size Bn) (fun _ _ _ => False) (PutI.stays w l w.heap.size Bn) (PutI.only w l w.heap.size Bn (by omega) (by omega)) (fun _ _ _ _ h _ => h) (PutI.turns w l w.heap.size Bn w3.heap.size (by have := Hs3.out; omega)) (fun _ _ _ _ _ _ h _ _ _ => h) (fun _ _ _ _ _ _ h _ _ _ => h)
    HI3.out
    (fun x => { tmps := #[.slice a n c, .int .u64 (N : Int), .pointer (some ⟨w.heap.size, 0, none⟩), undef, .slice none 0 0, .int .u8 (x.1 : Int), .bool x.2, .slice a n c, .slice q2 n c2, .int .u64 (N : Int), .func (.func 58) #[] #[.pointer (some ⟨Bn, 0, none⟩)], .int .u8 (x.1 : Int), .bool x.2, undef, undef, undef, undef, undef, undef, undef, undef, undef], defers := [] }) ?assign ?body ?done ?stop)
  case assign =>
    intro l x W K hK
    gi_wp2
    exact hK
  case stop => exact fun _ _ _ _ _ h _ => h.elim
  case body =>
    rintro k pre ⟨low, on⟩ W hk ⟨⟨v, hX, hrow⟩, hkd, hb⟩ ⟨hp10, hlow⟩
    obtain ⟨q, cq, rfl, hcq, hmq, hqn⟩ := own_shape hrow
    obtain ⟨i0, hi, hz0, hz1, hz2⟩ := info_parts infoU8
    have cX := hX.cell
    have fX := hX.frozen
    have hsW := hb.size
    have hXlt := hX.lt
    have Hl := hid (show l.length ≤ 4194304 from by rw [Hn.out]; exact hm)
    have HX := hid hX
    have Hrow := hid hrow
    have Hkd := hid hkd
    have Hb := hid hb
    dsimp only at hlow
    clear hX hrow hkd hb
    obtain ⟨M, hM⟩ : ∃ M, M = l.length + pre.length := ⟨_, rfl⟩
    rw [← hM] at Hrow cX HX hcq
    have hMl : M + 1 ≤ 4194315 := by have := Hl.out; omega
    have HM := hid hM
    clear hM
    have fin : ∀ (y : UInt8), y = byteOf (low, on) → ∀ (v' : Value) (w1 : World), w1.ownsRow w.heap.size 5 1 v' (M + 1) ((l ++ pre.map byteOf).map bv ++ [bv y]) → (W.alloc (.cells #[bv y] 5)).grownBy w1 (Value.ownBlock (.slice q M cq)) →
        Boxed w1 w.heap.size 26 (.slice q M cq) ∧ KeepsFrom w3.heap.size W (w1.setCell ⟨w.heap.size, 0, none⟩ v') ∧ KeepB Bn W (w1.setCell ⟨w.heap.size, 0, none⟩ v') ∧ PutI w l w.heap.size Bn (pre ++ [(low, on)]) (w1.setCell ⟨w.heap.size, 0, none⟩ v') := by
      intro y hy v' w1 ho hg
      obtain ⟨hb1, st⟩ := box_step (b0 := w.heap.size) HX.out Hrow.out ((Below.refl _ _).alloc (Nat.le_refl _) _) ho hg (by decide) (Nat.le_refl _) (Nat.le_refl _) (by omega)
      have hkb : (w1.setCell ⟨w.heap.size, 0, none⟩ v').heap[Bn]? = W.heap[Bn]? := st.kind Bn _ Hkd.out (by decide) (by omega)
      refine ⟨hb1, st.keeps _, fun o ho => hkb.trans ho, ⟨v', st.box, ?_⟩, ?_, Hb.out.trans st.below⟩
      · have := st.own
        rw [List.length_append, ← Nat.add_assoc, ← HM.out]
        simpa [hy] using this
      · obtain ⟨cs, fr, h⟩ := Hkd.out
        exact ⟨cs, fr, hkb.trans h⟩
    cases on with
    | true =>
      have ho := byteOf_true low hlow
      have Hfin := hid (fin _ rfl)
      clear fin
      gi_wp2_with (gi_at_builtin; refine wpListIn_append_own _ rfl _ _ 26 rfl w.heap.size 5 i0 (.int .u8 0) 1 1 Try.underlying26 hi hz0 hz1 hz2 rfl (by decide) _ _ _ rfl (Hrow.out.alloc _) ⟨W.heap.size, 0, none⟩ 1 1 [bv (byteOf (low, true))] rfl rfl (cell_one_new _ _ _) (by simp [Value.oneCell', bv]) (by unfold maxLen; omega) (by omega) (by simp; omega) ?_; intro v' w1 hown' hgrow _; obtain ⟨p1, p2⟩ := Hfin.out v' w1 hown' hgrow; have cX1 := p1.cell; have fX1 := p1.frozen; obtain ⟨q', c', rfl, _⟩ := own_shape hown'; have P2 := hid p2; clear p1 p2 hown' hgrow)
      exact P2.out
    | false =>
      have ho := byteOf_false low hlow
      have Hfin := hid (fin _ rfl)
      have HO := hid ho
      clear fin ho
      gi_wp2_with (gi_at_builtin; refine wpListIn_append_own _ rfl _ _ 26 rfl w.heap.size 5 i0 (.int .u8 0) 1 1 Try.underlying26 hi hz0 hz1 hz2 rfl (by decide) _ _ _ rfl (Hrow.out.alloc _) ⟨W.heap.size, 0, none⟩ 1 1 [.int .u8 (low : Int)] rfl rfl (cell_one_new _ _ _) (by simp [Value.oneCell']) (by unfold maxLen; omega) (by omega) (by simp; omega) ?_; intro v' w1 hown' hgrow _; rw [HO.out] at hown' hgrow; obtain ⟨p1, p2⟩ := Hfin.out v' w1 hown' hgrow; have cX1 := p1.cell; have fX1 := p1.frozen; obtain ⟨q', c', rfl, _⟩ := own_shape hown'; have P2 := hid p2; clear p1 p2 hown' hgrow)
      exact P2.out
  case done =>
    rintro D xs W hD rfl ⟨⟨v, hX, hrow⟩, hkd, hb⟩ hK
    have hlen : l.length + (gF 10 N).length = n + (vput N).length := by rw [Hn.out]; simp [vput]
    rw [hlen] at hrow
    obtain ⟨M, hM⟩ : ∃ M, M = n + (vput N).length := ⟨_, rfl⟩
    rw [← hM] at hrow
    have hgl : (l ++ (gF 10 N).map byteOf).map bv = (l ++ vput N).map bv := rfl
    rw [hgl] at hrow
    obtain ⟨q, cq, rfl, hcq, hmq, hqn⟩ := own_shape hrow
    have cX := hX.cell
    have HM := hid hM
    have Hrow := hid hrow
    have Hb := hid hb
    have HK := hid hK
    clear hX hrow hb hkd hM hlen hK hgl
    go_wp2_with (go_at_call 28; refine (clip_bytes q M cq _ hcq hmq).mono ?_; rintro e w4 ⟨rfl, rfl⟩)
    refine ⟨by simp, .inl ⟨_, _, rfl, run_takeDeferred HK.out, ?_⟩⟩
    refine ⟨.slice q M M, by simp [results, Try.results22, go_sem], q, by rw [HM.out], ?_, ?_⟩
    · rw [← HM.out]
      obtain ⟨f1, f2⟩ := (Fr.of_own Hrow.out).clip
      refine ⟨f1, ?_⟩
      rcases f2 with f2 | ⟨g, cap, cur, hv, hg, hh, r⟩
      · exact .inl f2
      · exact .inr ⟨g, cap, cur, hv, hg, (World.putObj_heap_other (fun e => by subst e; rw [HK.out] at hh; cases hh)).trans hh, r⟩
    · exact below_putObj Hb.out (by have := Hs3.out; omega) _ HK.out
set_option maxHeartbeats 800000 in
theorem ptext_any (a : Option Addr) (n c : Nat) (l : List UInt8) (s : ByteArray) (w : World) (hs : s.size ≤ 4194304) (hn : l.length = n) (hc : n ≤ c) (hm : n ≤ 4194304) (hr : Rd w a (l.map bv)) (ha : a = none → c = 0) :
    Calls Try.prog 43 #[.slice a n c, .string s] w fun e w' => ∃ q, e = .returned (.slice q (n + (tput s.data.toList).length) (n + (tput s.data.toList).length)) ∧ Fr w' w.heap.size 5 1 (.slice q (n + (tput s.data.toList).length) (n + (tput s.data.toList).length)) (n + (tput s.data.toList).length) ((l ++ tput s.data.toList).map bv) ∧ Below w.heap.size w w' := by
  have hsl : s.data.toList.length = s.size := by rw [Array.length_toList]; rfl
  have htl : (tput s.data.toList).length = (vput s.size).length + s.size := by unfold tput; rw [List.length_append, hsl]
  have hte : l ++ tput s.data.toList = (l ++ vput s.size) ++ s.data.toList := by unfold tput; rw [hsl, List.append_assoc]
  rw [htl, hte, ← Nat.add_assoc]
  have hvl := (vput_len s.size).2
  have H := hid (vput_any a n c s.size l w (by omega) hn hc hm hr ha)
  obtain ⟨M, hM⟩ : ∃ M, M = n + (vput s.size).length := ⟨_, rfl⟩
  rw [← hM] at H ⊢
  have hMl : M ≤ 4194314 := by omega
  clear hn hr ha hM hte htl hsl
  go_enter Try.func43, Try.ntmps43
  go_wp2_with fail
  (with_reducible refine H.out.mono ?_)
  rintro e w2 ⟨q, rfl, hf, hb⟩
  have Hb := hid hb
  have Hf := hid hf
  have hsz := hb.size
  clear hf hb
  go_wp2_with (refine appStr rfl (.tmp 9) (.tmp 10) rfl w.heap.size q M _ rfl Hf.out s rfl (by omega) hsz ?_; intro q' c' w3 hf3 hc3 hm3 hn3 hb3)
  go_wp2_with (go_at_call 28; refine (clip_bytes q' (M + s.size) c' _ hc3 hm3).mono ?_; rintro e w4 ⟨rfl, rfl⟩)
  go_ret
  exact ⟨_, rfl, hf3.clip, Hb.out.trans (hb3.mono hsz)⟩
end Go.Proofs.Herb
