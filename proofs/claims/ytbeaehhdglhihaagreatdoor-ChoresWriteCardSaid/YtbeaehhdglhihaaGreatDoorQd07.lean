/- The contracts of varints.Put and PutText: a number, and a text, behind bytes. For slices that can be read. The contracts of varints.Put and PutText: a number, and a text, behind bytes. For slices that can be read. -/
import Derived.Shelf.Abstract
import Derived.Shelf.RegionOpen
import Derived.OwnWalkIn
import Derived.TacticsInMore
import Derived.LoopNIn
import Derived.LoopIn
import Derived.Maps.AppendAt
import Derived.Test.YtbeaehhdglhihaaGreatDoorQd01
import Derived.Test.YtbeaehhdglhihaaGreatDoorQd02
import Derived.Test.YtbeaehhdglhihaaGreatDoorQd04
namespace Go.Proofs.Herb
open Go.RowKit
attribute [local go_sem] Oper.semAt_some
theorem groups_any (N : Nat) (w : World) :
    Calls Tryz.prog 167 #[.int .u64 (N : Int)] w fun e w' => e = .returned (.func (.func 202) #[] #[.pointer (some ⟨w.heap.size, 0, none⟩)]) ∧ w' = w.alloc (.cells #[.int .u64 (N : Int)] 22) := by
  go_enter Tryz.func167, Tryz.ntmps167
  go_wp2
  go_ret
  exact ⟨rfl, rfl⟩
set_option maxRecDepth 100000 in
set_option maxHeartbeats 1000000 in
theorem groups1_in (n Bn base N : Nat) (hn : 1 ≤ n) (hN : N < 18446744073709551616) :
    SeqGood Fence.wide n Tryz.prog 202 #[.pointer (some ⟨Bn, 0, none⟩)] (fun x : Nat × Bool => #[.int .u8 (x.1 : Int), .bool x.2]) (Only (· = Bn)) (fun pre x _ => pre.length < 10 ∧ x.1 < 128) (KeepB Bn) (fun xs => xs = gF 10 N) base (fun W => Boxed W Bn 22 (.int .u64 (N : Int))) := by
  intro l J Jx W hb hOk hJ hJx hY h0
  have HY := hid hY
  have HJ := hid hJ
  have HOk := hid hOk
  clear hY hJ hJx hOk hb
  refine callsIn_of_wp Tryz.func202 rfl trivial ?_ rfl
  simp only [Tryz.ntmps202, List.size_toArray, List.length_cons, List.length_nil, Nat.reduceAdd, Nat.reduceSub, Array.replicate_succ, Array.replicate_zero, List.push_toArray, List.append_toArray, List.nil_append, List.cons_append]
  gi_wp2
  gi_loopw [] (fun wr => ∃ (f m : Nat) (pre : List (Nat × Bool)), Boxed wr Bn 22 (.int .u64 (m : Int)) ∧ m < 18446744073709551616 ∧ m < 128 ^ f ∧ 1 ≤ f ∧ pre.length + f = 10 ∧ gF 10 N = pre ++ gF f m ∧ J pre wr) (fun wr => boxN Bn wr)
  case atStart => exact ⟨10, N, [], HOk.out, hN, by omega, by decide, rfl, rfl, h0⟩
  case round =>
    obtain ⟨f, m, pre, hbox, hm, hmf, hf, hpf, hg, hJp⟩ := hrel
    have cbox := hbox.cell
    have Hbox := hid hbox
    have Hg := hid hg
    have HJp := hid hJp
    have Hpf := hid hpf
    have Hmf := hid hmf
    clear hbox hg hJp hpf hmf
    have hlow : m % 128 < 128 := Nat.mod_lt _ (by decide)
    obtain ⟨fn, tmps, assign, body, hy, hR⟩ := HY.out pre (m % 128, decide (128 ≤ m)) wr HJp.out ⟨by have := Hpf.out; omega, hlow⟩
    dsimp only at hy
    have HR := hid hR
    clear hR
    have e1 : ((m % 128 : Nat) : Int) = (m : Int) % 128 := by omega
    rw [e1] at hy
    by_cases hge : 128 ≤ m
    · have hd : decide (128 ≤ m) = true := by simpa using hge
      have hd2 : decide ((128 : Int) ≤ (m : Int)) = true := by simp; omega
      rw [hd] at hy HR
      obtain ⟨g1, g2, g3⟩ := gF_next Hmf.out hf hge
      have G1 := hid g1
      have G2 := hid g2
      have g4 : m / 128 < 18446744073709551616 := by omega
      have e2 : (m : Int) / 128 = ((m / 128 : Nat) : Int) := by omega
      have E2 := hid e2
      have HGE := hid hge
      clear g1 g2 hge e1 e2
      gi_wp2
      refine HR.out.mono ?_
      rintro e W2 (⟨rfl, hJ2, hk2⟩ | ⟨rfl, hJ2⟩)
      · have hbox2 : Boxed W2 Bn 22 (.int .u64 (m : Int)) := hk2 _ Hbox.out
        have cbox2 := hbox2.cell
        have fbox2 := hbox2.frozen
        have Hbox2 := hid hbox2
        have HJ2 := hid hJ2
        clear hJ2 hk2 hbox2 cbox hy HR
        gi_wp2
        rw [E2.out]
        have hb3 := Hbox2.out.set (.int .u64 ((m / 128 : Nat) : Int))
        have HB3 := hid hb3
        have HJ3 := hid (HJ.out _ _ _ HJ2.out (Only.set (R := (· = Bn)) Hbox2.out rfl (.int .u64 ((m / 128 : Nat) : Int))))
        clear hb3
        go_roundw
        case rel => exact ⟨f - 1, m / 128, _, HB3.out, g4, G2.out, g3, by have := Hpf.out; simp; omega, by rw [Hg.out, G1.out]; simp, HJ3.out⟩
        case measure => rw [boxN_of HB3.out, boxN_of Hbox.out]; have := HGE.out; omega
      · have HJ2 := hid hJ2
        clear hJ2 hy HR
        gi_wp2
        refine ⟨rfl, _, results_none rfl _ _ _, ?_⟩
        exact ⟨⟨_, rfl⟩, .inr ⟨_, HJ2.out⟩⟩
    · have hd : decide (128 ≤ m) = false := by simpa using hge
      have hd2 : decide ((128 : Int) ≤ (m : Int)) = false := by simp; omega
      rw [hd] at hy HR
      have G1 := hid (gF_last hf hge)
      clear hge e1
      gi_wp2
      refine HR.out.mono ?_
      rintro e W2 (⟨rfl, hJ2, hk2⟩ | ⟨rfl, hJ2⟩)
      · have hbox2 : Boxed W2 Bn 22 (.int .u64 (m : Int)) := hk2 _ Hbox.out
        have cbox2 := hbox2.cell
        have fbox2 := hbox2.frozen
        have HJ2 := hid hJ2
        clear hJ2 hk2 hbox2 cbox hy HR
        gi_wp2
        refine ⟨rfl, _, results_none rfl _ _ _, ?_⟩
        refine ⟨⟨_, rfl⟩, .inl ⟨_, ?_, HJ2.out⟩⟩
        rw [Hg.out, G1.out]
      · have HJ2 := hid hJ2
        clear hJ2 hy HR
        gi_wp2
        refine ⟨rfl, _, results_none rfl _ _ _, ?_⟩
        exact ⟨⟨_, rfl⟩, .inr ⟨_, HJ2.out⟩⟩
/-- a row that grew, and its box, which was written -/
structure BoxStep (W W' : World) (Bb base b0 : Nat) (tb e : TypeId) (size : Nat) (v v' : Value) (m : Nat) (ys : List Value) : Prop where
  box : Boxed W' Bb tb v'
  own : W'.ownsRow base e size v' m ys
  far : ∀ g, g < W.heap.size → g ≠ Bb → v.ownBlock ≠ some g → W'.heap[g]? = W.heap[g]?
  kind : ∀ g t, HasKind W g t → e ≠ t → g ≠ Bb → W'.heap[g]? = W.heap[g]?
  keeps : ∀ b, KeepsFrom b W W'
  below : Below b0 W W'
theorem box_step {W W0 w1 : World} {Bb base b0 : Nat} {tb e : TypeId} {size k m : Nat} {v v' : Value} {xs ys : List Value} (hB : Boxed W Bb tb v) (hrow : W.ownsRow base e size v k xs) (hW0 : Below W.heap.size W W0) (hown' : w1.ownsRow base e size v' m ys)
    (hgrow : W0.grownBy w1 v.ownBlock) (hte : e ≠ tb) (h0 : b0 ≤ Bb) (hb0 : b0 ≤ base) (hbs : b0 ≤ W.heap.size) : Boxed w1 Bb tb v ∧ BoxStep W (w1.setCell ⟨Bb, 0, none⟩ v') Bb base b0 tb e size v v' m ys := by
  have ap : ∀ g, v.ownBlock = some g → g ≠ Bb := own_apart hrow ⟨_, _, hB⟩ hte
  have same : ∀ g, g < W.heap.size → v.ownBlock ≠ some g → w1.heap[g]? = W.heap[g]? := fun g hg hne =>
    (hgrow.block g (Nat.lt_of_lt_of_le hg hW0.size) (fun e => hne e.symm)).trans (hW0.block g hg)
  have hB1 : Boxed w1 Bb tb v := (same Bb hB.lt (fun e => ap Bb e rfl)).trans hB
  have ap' : ∀ g, v'.ownBlock = some g → g ≠ Bb := own_apart hown' ⟨_, _, hB1⟩ hte
  have hsz : W.heap.size ≤ w1.heap.size := Nat.le_trans hW0.size hgrow.size
  have far : ∀ g, g < W.heap.size → g ≠ Bb → v.ownBlock ≠ some g → (w1.setCell ⟨Bb, 0, none⟩ v').heap[g]? = W.heap[g]? := fun g hg h1 h2 =>
    ((grownBy_setCell' w1 Bb v').block g (by omega) (fun e => h1 (by cases e; rfl))).trans (same g hg h2)
  refine ⟨hB1, hB1.set v', hown'.kept (grownBy_setCell' w1 Bb v') (.inr (fun e => ap' Bb e rfl)), far, ?_, ?_, ?_⟩
  · intro g t hk het hg
    exact far g hk.lt hg (fun e => own_apart hrow hk het g e rfl)
  · intro b
    refine ⟨by rw [World.size_setCell]; exact hsz, fun g o _ ho hc => ?_⟩
    have hgl : g < W.heap.size := (Array.getElem?_eq_some_iff.1 ho).1
    rw [far g hgl (fun e => by subst e; rw [show W.heap[g]? = _ from hB] at ho; cases ho; cases hc) (fun e => by
      rcases hrow.2 with ⟨h2, _⟩ | ⟨g', cap, cur, hv, _, hh, _⟩
      · rw [h2] at e; simp [Value.ownBlock] at e
      · rw [hv] at e; simp [Value.ownBlock] at e; subst e
        rw [hh] at ho; cases ho; cases hc)]
    exact ho
  · exact (((hW0.mono hbs).grown hgrow (Nat.le_trans hbs hW0.size) (fun j ej => Nat.le_trans hb0 (hrow.lt j ej).1))).setCell (p := ⟨Bb, 0, none⟩) h0 v'
/-- a copy of bytes, in a row of its own -/
theorem clone_own (a : Option Addr) (n c : Nat) (l : List UInt8) (w : World) (hn : l.length = n) (hc : n ≤ c) (hm : n ≤ 4194304) (hr : Rd w a (l.map bv)) (ha : a = none → c = 0) :
    Calls Tryz.prog 63 #[.slice a n c] w fun e w' => ∃ q c', e = .returned (.slice q n c') ∧ w'.ownsRow w.heap.size 5 1 (.slice q n c') n (l.map bv) ∧ Below w.heap.size w w' := by
  have heq := fun (w : World) (a : Option Addr) (n c : Nat) => Lib.run_eql_slice_nil (P := Tryz.prog) w 75 5 a n c 0 0 Tryz.underlying75
  cases a with
  | none =>
    have Hn := hid hn
    clear hr hn
    obtain rfl := ha rfl
    obtain rfl : n = 0 := by omega
    go_enter Tryz.func63, Tryz.ntmps63
    go_wp2
    go_ret
    refine ⟨_, _, rfl, ?_, Below.refl _ _⟩
    rw [List.eq_nil_of_length_eq_zero Hn.out]
    exact own_nil22 _ _
  | some ad =>
    have Hr := hid hr
    have Hn := hid hn
    clear hr hn ha
    go_enter Tryz.func63, Tryz.ntmps63
    go_wp2_with (refine wpList_append_rd rfl (.tmp 5) (.tmp 6) 75 rfl w.heap.size 5 _ 1 1 Tryz.underlying75 infoU8 rfl (by decide) (.slice (some ⟨w.heap.size, 0, none⟩) 0 0) 0 [] rfl (World.ownsRow_made w #[] 0 (Nat.le_refl _) (by decide) rfl) _ n c (l.map bv) rfl (fun h => by cases h) (by have := Hn.out; simp; omega) (Hr.out.alloc _) bv_one (by unfold maxLen; omega) (by omega) (by simp) ?_; intro v' w1 hown hg hnil)
    rw [Nat.zero_add, List.nil_append] at hown
    obtain ⟨q, c', rfl, _⟩ := own_shape hown
    go_ret
    refine ⟨_, _, rfl, hown, ?_⟩
    exact ((Below.refl _ _).alloc (Nat.le_refl _) _).grown hg (by simp) (by simp [Value.ownBlock])
/-- where the loop of Put stands: behind these groups -/
def PutI (w : World) (l : List UInt8) (Bb Bn : Nat) (pre : List (Nat × Bool)) (W : World) : Prop :=
  (∃ v, Boxed W Bb 75 v ∧ W.ownsRow w.heap.size 5 1 v (l.length + pre.length) ((l ++ pre.map byteOf).map bv)) ∧ HasKind W Bn 22 ∧ Below w.heap.size w W
theorem PutI.stays (w : World) (l : List UInt8) (Bb Bn : Nat) (pre : List (Nat × Bool)) : Stays (PutI w l Bb Bn pre) := by
  rintro A C ⟨⟨v, h1, h2⟩, h3, h4⟩ hb
  exact ⟨⟨v, (hb.block Bb h1.lt).trans h1, own_below h2 hb⟩, h3.below hb, h4.trans (hb.mono h4.size)⟩
theorem PutI.only (w : World) (l : List UInt8) (Bb Bn : Nat) (hne : Bb ≠ Bn) (hw : w.heap.size ≤ Bn) (pre : List (Nat × Bool)) (A C : World) (h : PutI w l Bb Bn pre A) (hr : Only (· = Bn) A C) : PutI w l Bb Bn pre C := by
  obtain ⟨⟨v, h1, h2⟩, h3, h4⟩ := h
  exact ⟨⟨v, hr.boxed h1 hne, own_only hr h2 (fun g hg => own_apart h2 h3 (by decide) g hg)⟩, h3.only hr, h4.trans (hr.below h4.size (fun g hg e => by omega))⟩
theorem PutI.turns (w : World) (l : List UInt8) (Bb Bn b0 : Nat) (hb : w.heap.size ≤ b0) (pre : List (Nat × Bool)) : Turns b0 (PutI w l Bb Bn pre) := by
  rintro W k o o' ⟨⟨v, h1, h2⟩, h3, h4⟩ hl ho hc
  exact ⟨⟨v, boxed_putObj h1 o' ho hc, ownsRow_putObj h2 _ ho hc⟩, h3.putObj o' ho hc, below_putObj h4 (by omega) o' ho⟩
end Go.Proofs.Herb
namespace Go.Proofs.Herb
open Go.RowKit
attribute [local go_sem] Oper.semAt_some
set_option maxRecDepth 100000 in
set_option maxHeartbeats 2000000 in
theorem vput_any (a : Option Addr) (n c N : Nat) (l : List UInt8) (w : World) (hN : N < 18446744073709551616) (hn : l.length = n) (hc : n ≤ c) (hm : n ≤ 4194304) (hr : Rd w a (l.map bv)) (ha : a = none → c = 0) :
    Calls Tryz.prog 130 #[.slice a n c, .int .u64 (N : Int)] w fun e w' => ∃ q, e = .returned (.slice q (n + (vput N).length) (n + (vput N).length)) ∧ Fr w' w.heap.size 5 1 (.slice q (n + (vput N).length) (n + (vput N).length)) (n + (vput N).length) ((l ++ vput N).map bv) ∧ Below w.heap.size w w' := by
  have HC := hid (clone_own a n c l (w.alloc (.cells #[.slice a n c] 75)) hn hc hm (hr.alloc _) ha)
  have Hn := hid hn
  have HVl := hid (vput_len N)
  have hvl := (vput_len N).2
  clear hr ha hn
  refine (callsIn_wide (n := 3)).1 (callsIn_of_wp_marks Tryz.func130 rfl trivial ?_ rfl)
  refine wpIn_wide.2 ?_
  simp only [Tryz.ntmps130, List.size_toArray, List.length_cons, List.length_nil, Nat.reduceAdd, Nat.reduceSub, Array.replicate_succ, Array.replicate_zero, List.push_toArray, List.append_toArray, List.nil_append, List.cons_append]
  go_wp2_with fail
  (with_reducible refine HC.out.mono ?_)
  rintro e w2 ⟨q2, c2, rfl, hown2, hb2⟩
  rw [World.size_alloc] at hown2 hb2
  have hB2 : Boxed w2 w.heap.size 75 (.slice a n c) := (hb2.block _ (by simp)).trans (Boxed.new w _ _)
  have cB2 := hB2.cell
  have fB2 := hB2.frozen
  have HB2 := hid hB2
  have Hown2 := hid hown2
  have Hb2 := hid hb2
  clear hB2 hown2 hb2
  go_wp2_with (go_at_call 167; refine (groups_any N _).mono ?_; rintro e w4 ⟨rfl, rfl⟩)
  obtain ⟨Bn, hBn⟩ : ∃ Bn, Bn = w2.heap.size := ⟨_, rfl⟩
  obtain ⟨w3, hw3⟩ : ∃ w3, (w2.setCell ⟨w.heap.size, 0, none⟩ (.slice q2 n c2)).alloc (.cells #[.int .u64 (N : Int)] 22) = w3 := ⟨_, rfl⟩
  rw [← hBn, hw3]
  have hlt : w.heap.size < Bn := by rw [hBn]; exact HB2.out.lt
  have hs3 : w3.heap.size = Bn + 1 := by rw [← hw3, hBn]; simp
  have hO3 : Only (· = w.heap.size) w2 w3 := by
    rw [← hw3]
    exact (Only.set (R := (· = w.heap.size)) HB2.out rfl _).trans (Only.of_below ((Below.refl _ _).alloc (Nat.le_refl _) _))
  have hN3 : Boxed w3 Bn 22 (.int .u64 (N : Int)) := by
    rw [← hw3, hBn]
    have := Boxed.new (w2.setCell ⟨w.heap.size, 0, none⟩ (.slice q2 n c2)) 22 (.int .u64 (N : Int))
    rwa [World.size_setCell] at this
  have hX3 : Boxed w3 w.heap.size 75 (.slice q2 n c2) := by rw [← hw3]; exact (HB2.out.set _).alloc _
  have hw2s : w.heap.size ≤ w2.heap.size := by omega
  have hI3 : PutI w l w.heap.size Bn [] w3 := ⟨⟨_, hX3, by
      have := own_mono (own_only hO3 Hown2.out (fun g hg e => by have := (Hown2.out.lt g hg).1; omega)) (show w.heap.size ≤ w.heap.size + 1 by omega)
      simpa [Hn.out] using this⟩, ⟨_, _, hN3⟩, (((Below.refl _ w).alloc (Nat.le_refl _) _).trans (Hb2.out.mono (by omega))).trans (hO3.below hw2s (fun g hg e => by omega))⟩
  have HN3 := hid hN3
  have HI3 := hid hI3
  have HBn := hid hBn
  have Hs3 := hid hs3
  clear hw3 hN3 hX3 hO3 hI3 hBn hs3 cB2 fB2 HC
  refine wpIn_wide.1 (wpIn_range_stop (n := 3) rfl (by omega) (gf := 202) (lb := #[.pointer (some ⟨Bn, 0, none⟩)]) rfl trivial (enters_of Tryz.func202 (by kernel_rfl) rfl)
    (fun _ => rfl) (groups1_in 2 Bn w3.heap.size N (by omega) hN) (Nat.le_refl _) (fun W hb => (hb.block _ HN3.out.lt).trans HN3.out) KeepB.trans (fun W l o o' hl _ _ => KeepB.putObj W l o o' (by have := Hs3.out; omega))
    (fun A B h => h.keeps _) (PutI w l w.heap.size Bn) (fun _ _ _ => False) (PutI.stays w l w.heap.size Bn) (PutI.only w l w.heap.size Bn (by omega) (by omega)) (fun _ _ _ _ h _ => h) (PutI.turns w l w.heap.size Bn w3.heap.size (by have := Hs3.out; omega)) (fun _ _ _ _ _ _ h _ _ _ => h) (fun _ _ _ _ _ _ h _ _ _ => h)
    HI3.out
    (fun x => { tmps := #[.slice a n c, .int .u64 (N : Int), .pointer (some ⟨w.heap.size, 0, none⟩), undef, .slice none 0 0, .int .u8 (x.1 : Int), .bool x.2, .slice a n c, .slice q2 n c2, .int .u64 (N : Int), .func (.func 202) #[] #[.pointer (some ⟨Bn, 0, none⟩)], .int .u8 (x.1 : Int), .bool x.2, undef, undef, undef, undef, undef, undef, undef, undef, undef], defers := [] }) ?assign ?body ?done ?stop)
  case assign =>
    intro l x W K hK
    gi_wp2
    exact hK
  case stop => exact fun _ _ _ _ _ h _ => h.elim
  case body =>
    rintro k pre ⟨low, on⟩ W hk ⟨⟨v, hX, hrow⟩, hkd, hb⟩ ⟨hp10, hlow⟩
    obtain ⟨q, cq, rfl, hcq, hmq, hqn⟩ := own_shape hrow
    obtain ⟨i0, hi, hz0, hz1, hz2⟩ := info_parts infoU8
    have cX := hX.cell
    have fX := hX.frozen
    have hsW := hb.size
    have hXlt := hX.lt
    have Hl := hid (show l.length ≤ 4194304 from by rw [Hn.out]; exact hm)
    have HX := hid hX
    have Hrow := hid hrow
    have Hkd := hid hkd
    have Hb := hid hb
    dsimp only at hlow
    clear hX hrow hkd hb
    obtain ⟨M, hM⟩ : ∃ M, M = l.length + pre.length := ⟨_, rfl⟩
    rw [← hM] at Hrow cX HX hcq
    have hMl : M + 1 ≤ 4194315 := by have := Hl.out; omega
    have HM := hid hM
    clear hM
    have fin : ∀ (y : UInt8), y = byteOf (low, on) → ∀ (v' : Value) (w1 : World), w1.ownsRow w.heap.size 5 1 v' (M + 1) ((l ++ pre.map byteOf).map bv ++ [bv y]) → (W.alloc (.cells #[bv y] 5)).grownBy w1 (Value.ownBlock (.slice q M cq)) →
        Boxed w1 w.heap.size 75 (.slice q M cq) ∧ KeepsFrom w3.heap.size W (w1.setCell ⟨w.heap.size, 0, none⟩ v') ∧ KeepB Bn W (w1.setCell ⟨w.heap.size, 0, none⟩ v') ∧ PutI w l w.heap.size Bn (pre ++ [(low, on)]) (w1.setCell ⟨w.heap.size, 0, none⟩ v') := by
      intro y hy v' w1 ho hg
      obtain ⟨hb1, st⟩ := box_step (b0 := w.heap.size) HX.out Hrow.out ((Below.refl _ _).alloc (Nat.le_refl _) _) ho hg (by decide) (Nat.le_refl _) (Nat.le_refl _) (by omega)
      have hkb : (w1.setCell ⟨w.heap.size, 0, none⟩ v').heap[Bn]? = W.heap[Bn]? := st.kind Bn _ Hkd.out (by decide) (by omega)
      refine ⟨hb1, st.keeps _, fun o ho => hkb.trans ho, ⟨v', st.box, ?_⟩, ?_, Hb.out.trans st.below⟩
      · have := st.own
        rw [List.length_append, ← Nat.add_assoc, ← HM.out]
        simpa [hy] using this
      · obtain ⟨cs, fr, h⟩ := Hkd.out
        exact ⟨cs, fr, hkb.trans h⟩
    cases on with
    | true =>
      have ho := byteOf_true low hlow
      have Hfin := hid (fin _ rfl)
      clear fin
      gi_wp2_with (gi_at_builtin; refine wpListIn_append_own _ rfl _ _ 75 rfl w.heap.size 5 i0 (.int .u8 0) 1 1 Tryz.underlying75 hi hz0 hz1 hz2 rfl (by decide) _ _ _ rfl (Hrow.out.alloc _) ⟨W.heap.size, 0, none⟩ 1 1 [bv (byteOf (low, true))] rfl rfl (cell_one_new _ _ _) (by simp [Value.oneCell', bv]) (by unfold maxLen; omega) (by omega) (by simp; omega) ?_; intro v' w1 hown' hgrow _; obtain ⟨p1, p2⟩ := Hfin.out v' w1 hown' hgrow; have cX1 := p1.cell; have fX1 := p1.frozen; obtain ⟨q', c', rfl, _⟩ := own_shape hown'; have P2 := hid p2; clear p1 p2 hown' hgrow)
      exact P2.out
    | false =>
      have ho := byteOf_false low hlow
      have Hfin := hid (fin _ rfl)
      have HO := hid ho
      clear fin ho
      gi_wp2_with (gi_at_builtin; refine wpListIn_append_own _ rfl _ _ 75 rfl w.heap.size 5 i0 (.int .u8 0) 1 1 Tryz.underlying75 hi hz0 hz1 hz2 rfl (by decide) _ _ _ rfl (Hrow.out.alloc _) ⟨W.heap.size, 0, none⟩ 1 1 [.int .u8 (low : Int)] rfl rfl (cell_one_new _ _ _) (by simp [Value.oneCell']) (by unfold maxLen; omega) (by omega) (by simp; omega) ?_; intro v' w1 hown' hgrow _; rw [HO.out] at hown' hgrow; obtain ⟨p1, p2⟩ := Hfin.out v' w1 hown' hgrow; have cX1 := p1.cell; have fX1 := p1.frozen; obtain ⟨q', c', rfl, _⟩ := own_shape hown'; have P2 := hid p2; clear p1 p2 hown' hgrow)
      exact P2.out
  case done =>
    rintro D xs W hD rfl ⟨⟨v, hX, hrow⟩, hkd, hb⟩ hK
    have hlen : l.length + (gF 10 N).length = n + (vput N).length := by rw [Hn.out]; simp [vput]
    rw [hlen] at hrow
    obtain ⟨M, hM⟩ : ∃ M, M = n + (vput N).length := ⟨_, rfl⟩
    rw [← hM] at hrow
    have hgl : (l ++ (gF 10 N).map byteOf).map bv = (l ++ vput N).map bv := rfl
    rw [hgl] at hrow
    obtain ⟨q, cq, rfl, hcq, hmq, hqn⟩ := own_shape hrow
    have cX := hX.cell
    have HM := hid hM
    have Hrow := hid hrow
    have Hb := hid hb
    have HK := hid hK
    clear hX hrow hb hkd hM hlen hK hgl
    go_wp2_with (go_at_call 104; refine (clip_bytes q M cq _ hcq hmq).mono ?_; rintro e w4 ⟨rfl, rfl⟩)
    refine ⟨by simp, .inl ⟨_, _, rfl, run_takeDeferred HK.out, ?_⟩⟩
    refine ⟨.slice q M M, by simp [results, Tryz.results130, go_sem], q, by rw [HM.out], ?_, ?_⟩
    · rw [← HM.out]
      obtain ⟨f1, f2⟩ := (Fr.of_own Hrow.out).clip
      refine ⟨f1, ?_⟩
      rcases f2 with f2 | ⟨g, cap, cur, hv, hg, hh, r⟩
      · exact .inl f2
      · exact .inr ⟨g, cap, cur, hv, hg, (World.putObj_heap_other (fun e => by subst e; rw [HK.out] at hh; cases hh)).trans hh, r⟩
    · exact below_putObj Hb.out (by have := Hs3.out; omega) _ HK.out
set_option maxHeartbeats 800000 in
theorem ptext_any (a : Option Addr) (n c : Nat) (l : List UInt8) (s : ByteArray) (w : World) (hs : s.size ≤ 4194304) (hn : l.length = n) (hc : n ≤ c) (hm : n ≤ 4194304) (hr : Rd w a (l.map bv)) (ha : a = none → c = 0) :
    Calls Tryz.prog 166 #[.slice a n c, .string s] w fun e w' => ∃ q, e = .returned (.slice q (n + (tput s.data.toList).length) (n + (tput s.data.toList).length)) ∧ Fr w' w.heap.size 5 1 (.slice q (n + (tput s.data.toList).length) (n + (tput s.data.toList).length)) (n + (tput s.data.toList).length) ((l ++ tput s.data.toList).map bv) ∧ Below w.heap.size w w' := by
  have hsl : s.data.toList.length = s.size := by rw [Array.length_toList]; rfl
  have htl : (tput s.data.toList).length = (vput s.size).length + s.size := by unfold tput; rw [List.length_append, hsl]
  have hte : l ++ tput s.data.toList = (l ++ vput s.size) ++ s.data.toList := by unfold tput; rw [hsl, List.append_assoc]
  rw [htl, hte, ← Nat.add_assoc]
  have hvl := (vput_len s.size).2
  have H := hid (vput_any a n c s.size l w (by omega) hn hc hm hr ha)
  obtain ⟨M, hM⟩ : ∃ M, M = n + (vput s.size).length := ⟨_, rfl⟩
  rw [← hM] at H ⊢
  have hMl : M ≤ 4194314 := by omega
  clear hn hr ha hM hte htl hsl
  go_enter Tryz.func166, Tryz.ntmps166
  go_wp2_with fail
  (with_reducible refine H.out.mono ?_)
  rintro e w2 ⟨q, rfl, hf, hb⟩
  have Hb := hid hb
  have Hf := hid hf
  have hsz := hb.size
  clear hf hb
  go_wp2_with (refine appStr rfl (.tmp 9) (.tmp 10) rfl w.heap.size q M _ rfl Hf.out s rfl (by omega) hsz ?_; intro q' c' w3 hf3 hc3 hm3 hn3 hb3)
  go_wp2_with (go_at_call 104; refine (clip_bytes q' (M + s.size) c' _ hc3 hm3).mono ?_; rintro e w4 ⟨rfl, rfl⟩)
  go_ret
  exact ⟨_, rfl, hf3.clip, Hb.out.trans (hb3.mono hsz)⟩
end Go.Proofs.Herb
