/- The contracts of varints.Put and PutText: a number, and a text, behind bytes. For slices that can be read. -/
import Derived.Test.YtljdlilcpcokhaaApc
import Derived.Test.YtljdlilcpcokhaaRgs
import Derived.Test.YtljdlilcpcokhaaVptP
import Derived.Shelf.Abstract
import Derived.Shelf.RegionOpen
import Derived.OwnWalkIn
import Derived.TacticsInMore
import Derived.LoopNIn
import Derived.LoopIn
import Derived.Maps.AppendAt
namespace Go.Proofs.Herb
open Go.RowKit
attribute [local go_sem] Oper.semAt_some
theorem groups_any (N : Nat) (w : World) :
    Calls Try.prog 45 #[.int .u64 (N : Int)] w fun e w' => e = .returned (.func (.func 58) #[] #[.pointer (some ⟨w.heap.size, 0, none⟩)]) ∧ w' = w.alloc (.cells #[.int .u64 (N : Int)] 22) := by
  go_enter Try.func45, Try.ntmps45
  go_wp2
  go_ret
  exact ⟨rfl, rfl⟩
set_option maxRecDepth 100000 in
set_option maxHeartbeats 1000000 in
theorem groups1_in (n Bn base N : Nat) (hn : 1 ≤ n) (hN : N < 18446744073709551616) :
    SeqGood Fence.wide n Try.prog 58 #[.pointer (some ⟨Bn, 0, none⟩)] (fun x : Nat × Bool => #[.int .u8 (x.1 : Int), .bool x.2]) (Only (· = Bn)) (fun pre x _ => pre.length < 10 ∧ x.1 < 128) (KeepB Bn) (fun xs => xs = gF 10 N) base (fun W => Boxed W Bn 22 (.int .u64 (N : Int))) := by
  intro l J Jx W hb hOk hJ hJx hY h0
  have HY := hid hY
  have HJ := hid hJ
  have HOk := hid hOk
  clear hY hJ hJx hOk hb
  refine callsIn_of_wp Try.func58 rfl trivial ?_ rfl
  simp only [Try.ntmps58, List.size_toArray, List.length_cons, List.length_nil, Nat.reduceAdd, Nat.reduceSub, Array.replicate_succ, Array.replicate_zero, List.push_toArray, List.append_toArray, List.nil_append, List.cons_append]
  gi_wp2
  gi_loopw [] (fun wr => ∃ (f m : Nat) (pre : List (Nat × Bool)), Boxed wr Bn 22 (.int .u64 (m : Int)) ∧ m < 18446744073709551616 ∧ m < 128 ^ f ∧ 1 ≤ f ∧ pre.length + f = 10 ∧ gF 10 N = pre ++ gF f m ∧ J pre wr) (fun wr => boxN Bn wr)
  case atStart => exact ⟨10, N, [], HOk.out, hN, by omega, by decide, rfl, rfl, h0⟩
  case round =>
    obtain ⟨f, m, pre, hbox, hm, hmf, hf, hpf, hg, hJp⟩ := hrel
    have cbox := hbox.cell
    have Hbox := hid hbox
    have Hg := hid hg
    have HJp := hid hJp
    have Hpf := hid hpf
    have Hmf := hid hmf
    clear hbox hg hJp hpf hmf
    have hlow : m % 128 < 128 := Nat.mod_lt _ (by decide)
    obtain ⟨fn, tmps, assign, body, hy, hR⟩ := HY.out pre (m % 128, decide (128 ≤ m)) wr HJp.out ⟨by have := Hpf.out; omega, hlow⟩
    dsimp only at hy
    have HR := hid hR
    clear hR
    have e1 : ((m % 128 : Nat) : Int) = (m : Int) % 128 := by omega
    rw [e1] at hy
    by_cases hge : 128 ≤ m
    · have hd : decide (128 ≤ m) = true := by simpa using hge
      have hd2 : decide ((128 : Int) ≤ (m : Int)) = true := by simp; omega
      rw [hd] at hy HR
      obtain ⟨g1, g2, g3⟩ := gF_next Hmf.out hf hge
      have G1 := hid g1
      have G2 := hid g2
      have g4 : m / 128 < 18446744073709551616 := by omega
      have e2 : (m : Int) / 128 = ((m / 128 : Nat) : Int) := by omega
      have E2 := hid e2
      have HGE := hid hge
      clear g1 g2 hge e1 e2
      gi_wp2
      refine HR.out.mono ?_
      rintro e W2 (⟨rfl, hJ2, hk2⟩ | ⟨rfl, hJ2⟩)
      · have hbox2 : Boxed W2 Bn 22 (.int .u64 (m : Int)) := hk2 _ Hbox.out
        have cbox2 := hbox2.cell
        have fbox2 := hbox2.frozen
        have Hbox2 := hid hbox2
        have HJ2 := hid hJ2
        clear hJ2 hk2 hbox2 cbox hy HR
        gi_wp2
        rw [E2.out]
        have hb3 := Hbox2.out.set (.int .u64 ((m / 128 : Nat) : Int))
        have HB3 := hid hb3
        have HJ3 := hid (HJ.out _ _ _ HJ2.out (Only.set (R := (· = Bn)) Hbox2.out rfl (.int .u64 ((m / 128 : Nat) : Int))))
        clear hb3
        go_roundw
        case rel => exact ⟨f - 1, m / 128, _, HB3.out, g4, G2.out, g3, by have := Hpf.out; simp; omega, by rw [Hg.out, G1.out]; simp, HJ3.out⟩
        case measure => rw [boxN_of HB3.out, boxN_of Hbox.out]; have := HGE.out; omega
      · have HJ2 := hid hJ2
        clear hJ2 hy HR
        gi_wp2
        refine ⟨rfl, _, results_none rfl _ _ _, ?_⟩
        exact ⟨⟨_, rfl⟩, .inr ⟨_, HJ2.out⟩⟩
    · have hd : decide (128 ≤ m) = false := by simpa using hge
      have hd2 : decide ((128 : Int) ≤ (m : Int)) = false := by simp; omega
      rw [hd] at hy HR
      have G1 := hid (gF_last hf hge)
      clear hge e1
      gi_wp2
      refine HR.out.mono ?_
      rintro e W2 (⟨rfl, hJ2, hk2⟩ | ⟨rfl, hJ2⟩)
      · have hbox2 : Boxed W2 Bn 22 (.int .u64 (m : Int)) := hk2 _ Hbox.out
        have cbox2 := hbox2.cell
        have fbox2 := hbox2.frozen
        have HJ2 := hid hJ2
        clear hJ2 hk2 hbox2 cbox hy HR
        gi_wp2
        refine ⟨rfl, _, results_none rfl _ _ _, ?_⟩
        refine ⟨⟨_, rfl⟩, .inl ⟨_, ?_, HJ2.out⟩⟩
        rw [Hg.out, G1.out]
      · have HJ2 := hid hJ2
        clear hJ2 hy HR
        gi_wp2
        refine ⟨rfl, _, results_none rfl _ _ _, ?_⟩
        exact ⟨⟨_, rfl⟩, .inr ⟨_, HJ2.out⟩⟩
/-- a row that grew, and its box, which was written -/
structure BoxStep (W W' : World) (Bb base b0 : Nat) (tb e : TypeId) (size : Nat) (v v' : Value) (m : Nat) (ys : List Value) : Prop where
  box : Boxed W' Bb tb v'
  own : W'.ownsRow base e size v' m ys
  far : ∀ g, g < W.heap.size → g ≠ Bb → v.ownBlock ≠ some g → W'.heap[g]? = W.heap[g]?
  kind : ∀ g t, HasKind W g t → e ≠ t → g ≠ Bb → W'.heap[g]? = W.heap[g]?
  keeps : ∀ b, KeepsFrom b W W'
  below : Below b0 W W'
theorem box_step {W W0 w1 : World} {Bb base b0 : Nat} {tb e : TypeId} {size k m : Nat} {v v' : Value} {xs ys : List Value} (hB : Boxed W Bb tb v) (hrow : W.ownsRow base e size v k xs) (hW0 : Below W.heap.size W W0) (hown' : w1.ownsRow base e size v' m ys)
    (hgrow : W0.grownBy w1 v.ownBlock) (hte : e ≠ tb) (h0 : b0 ≤ Bb) (hb0 : b0 ≤ base) (hbs : b0 ≤ W.heap.size) : Boxed w1 Bb tb v ∧ BoxStep W (w1.setCell ⟨Bb, 0, none⟩ v') Bb base b0 tb e size v v' m ys := by
  have ap : ∀ g, v.ownBlock = some g → g ≠ Bb := own_apart hrow ⟨_, _, hB⟩ hte
  have same : ∀ g, g < W.heap.size → v.ownBlock ≠ some g → w1.heap[g]? = W.heap[g]? := fun g hg hne =>
    (hgrow.block g (Nat.lt_of_lt_of_le hg hW0.size) (fun e => hne e.symm)).trans (hW0.block g hg)
  have hB1 : Boxed w1 Bb tb v := (same Bb hB.lt (fun e => ap Bb e rfl)).trans hB
  have ap' : ∀ g, v'.ownBlock = some g → g ≠ Bb := own_apart hown' ⟨_, _, hB1⟩ hte
  have hsz : W.heap.size ≤ w1.heap.size := Nat.le_trans hW0.size hgrow.size
  have far : ∀ g, g < W.heap.size → g ≠ Bb → v.ownBlock ≠ some g → (w1.setCell ⟨Bb, 0, none⟩ v').heap[g]? = W.heap[g]? := fun g hg h1 h2 =>
    ((grownBy_setCell' w1 Bb v').block g (by omega) (fun e => h1 (by cases e; rfl))).trans (same g hg h2)
  refine ⟨hB1, hB1.set v', hown'.kept (grownBy_setCell' w1 Bb v') (.inr (fun e => ap' Bb e rfl)), far, ?_, ?_, ?_⟩
  · intro g t hk het hg
    exact far g hk.lt hg (fun e => own_apart hrow hk het g e rfl)
  · intro b
    refine ⟨by rw [World.size_setCell]; exact hsz, fun g o _ ho hc => ?_⟩
    have hgl : g < W.heap.size := (Array.getElem?_eq_some_iff.1 ho).1
    rw [far g hgl (fun e => by subst e; rw [show W.heap[g]? = _ from hB] at ho; cases ho; cases hc) (fun e => by
      rcases hrow.2 with ⟨h2, _⟩ | ⟨g', cap, cur, hv, _, hh, _⟩
      · rw [h2] at e; simp [Value.ownBlock] at e
      · rw [hv] at e; simp [Value.ownBlock] at e; subst e
        rw [hh] at ho; cases ho; cases hc)]
    exact ho
  · exact (((hW0.mono hbs).grown hgrow (Nat.le_trans hbs hW0.size) (fun j ej => Nat.le_trans hb0 (hrow.lt j ej).1))).setCell (p := ⟨Bb, 0, none⟩) h0 v'
/-- a copy of bytes, in a row of its own -/
theorem clone_own (a : Option Addr) (n c : Nat) (l : List UInt8) (w : World) (hn : l.length = n) (hc : n ≤ c) (hm : n ≤ 4194304) (hr : Rd w a (l.map bv)) (ha : a = none → c = 0) :
    Calls Try.prog 44 #[.slice a n c] w fun e w' => ∃ q c', e = .returned (.slice q n c') ∧ w'.ownsRow w.heap.size 5 1 (.slice q n c') n (l.map bv) ∧ Below w.heap.size w w' := by
  have heq := fun (w : World) (a : Option Addr) (n c : Nat) => Lib.run_eql_slice_nil (P := Try.prog) w 26 5 a n c 0 0 Try.underlying26
  cases a with
  | none =>
    have Hn := hid hn
    clear hr hn
    obtain rfl := ha rfl
    obtain rfl : n = 0 := by omega
    go_enter Try.func44, Try.ntmps44
    go_wp2
    go_ret
    refine ⟨_, _, rfl, ?_, Below.refl _ _⟩
    rw [List.eq_nil_of_length_eq_zero Hn.out]
    exact own_nil22 _ _
  | some ad =>
    have Hr := hid hr
    have Hn := hid hn
    clear hr hn ha
    go_enter Try.func44, Try.ntmps44
    go_wp2_with (refine wpList_append_rd rfl (.tmp 5) (.tmp 6) 26 rfl w.heap.size 5 _ 1 1 Try.underlying26 infoU8 rfl (by decide) (.slice (some ⟨w.heap.size, 0, none⟩) 0 0) 0 [] rfl (World.ownsRow_made w #[] 0 (Nat.le_refl _) (by decide) rfl) _ n c (l.map bv) rfl (fun h => by cases h) (by have := Hn.out; simp; omega) (Hr.out.alloc _) bv_one (by unfold maxLen; omega) (by omega) (by simp) ?_; intro v' w1 hown hg hnil)
    rw [Nat.zero_add, List.nil_append] at hown
    obtain ⟨q, c', rfl, _⟩ := own_shape hown
    go_ret
    refine ⟨_, _, rfl, hown, ?_⟩
    exact ((Below.refl _ _).alloc (Nat.le_refl _) _).grown hg (by simp) (by simp [Value.ownBlock])
/-- where the loop of Put stands: behind these groups -/
def PutI (w : World) (l : List UInt8) (Bb Bn : Nat) (pre : List (Nat × Bool)) (W : World) : Prop :=
  (∃ v, Boxed W Bb 26 v ∧ W.ownsRow w.heap.size 5 1 v (l.length + pre.length) ((l ++ pre.map byteOf).map bv)) ∧ HasKind W Bn 22 ∧ Below w.heap.size w W
theorem PutI.stays (w : World) (l : List UInt8) (Bb Bn : Nat) (pre : List (Nat × Bool)) : Stays (PutI w l Bb Bn pre) := by
  rintro A C ⟨⟨v, h1, h2⟩, h3, h4⟩ hb
  exact ⟨⟨v, (hb.block Bb h1.lt).trans h1, own_below h2 hb⟩, h3.below hb, h4.trans (hb.mono h4.size)⟩
theorem PutI.only (w : World) (l : List UInt8) (Bb Bn : Nat) (hne : Bb ≠ Bn) (hw : w.heap.size ≤ Bn) (pre : List (Nat × Bool)) (A C : World) (h : PutI w l Bb Bn pre A) (hr : Only (· = Bn) A C) : PutI w l Bb Bn pre C := by
  obtain ⟨⟨v, h1, h2⟩, h3, h4⟩ := h
  exact ⟨⟨v, hr.boxed h1 hne, own_only hr h2 (fun g hg => own_apart h2 h3 (by decide) g hg)⟩, h3.only hr, h4.trans (hr.below h4.size (fun g hg e => by omega))⟩
theorem PutI.turns (w : World) (l : List UInt8) (Bb Bn b0 : Nat) (hb : w.heap.size ≤ b0) (pre : List (Nat × Bool)) : Turns b0 (PutI w l Bb Bn pre) := by
  rintro W k o o' ⟨⟨v, h1, h2⟩, h3, h4⟩ hl ho hc
  exact ⟨⟨v, boxed_putObj h1 o' ho hc, ownsRow_putObj h2 _ ho hc⟩, h3.putObj o' ho hc, below_putObj h4 (by omega) o' ho⟩
end Go.Proofs.Herb
