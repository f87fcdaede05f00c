/- The contracts of blocks.number, rise, common. For slices that can be read. -/
import Derived.Test.YtljdlilcpcokhaaDoorAps
import Derived.Test.YtljdlilcpcokhaaDoorFct
import Derived.Test.YtljdlilcpcokhaaDoorCmp
import Derived.Deep.QuietTactic
import Derived.BigQuiet
import Derived.IntWalk
namespace Go.Proofs.Herb
open Go.RowKit
def le4 (n : Nat) : List UInt8 := [UInt8.ofNat n, UInt8.ofNat (n / 256), UInt8.ofNat (n / 65536), UInt8.ofNat (n / 16777216)]
theorem le4_form (n : Nat) (h : n < 4294967296) : ((n : Int) % 256) = ((UInt8.ofNat n).toNat : Int) ∧ ((n : Int) / 256 % 256) = ((UInt8.ofNat (n / 256)).toNat : Int) ∧ ((n : Int) / 65536 % 256) = ((UInt8.ofNat (n / 65536)).toNat : Int) ∧ ((n : Int) / 16777216) = ((UInt8.ofNat (n / 16777216)).toNat : Int) := by
  refine ⟨?_, ?_, ?_, ?_⟩ <;> rw [UInt8.toNat_ofNat'] <;> omega
theorem le4_rd (n : Nat) (h : n < 4294967296) (w : World) : Rd (w.alloc (.cells #[.int .u8 ((n : Int) % 256), .int .u8 ((n : Int) / 256 % 256), .int .u8 ((n : Int) / 65536 % 256), .int .u8 ((n : Int) / 16777216)] 5)) (some ⟨w.heap.size, 0, none⟩) ((le4 n).map bv) := by
  obtain ⟨f1, f2, f3, f4⟩ := le4_form n h
  rw [f1, f2, f3, f4]
  exact Rd.new w ((le4 n).map bv) 5
set_option maxHeartbeats 800000 in
theorem number_any (base : Nat) (q : Option Addr) (n c : Nat) (l : List UInt8) (N : Nat) (w : World) (hN : N < 4294967296) (hown : w.ownsRow base 5 1 (.slice q n c) n (l.map bv)) (hsz : n ≤ 100000000000) (hbase : base ≤ w.heap.size) :
    Calls Tryd.prog 42 #[.slice q n c, .int .u32 (N : Int)] w fun e w' => ∃ q' c', e = .returned (.slice q' (n + 4) c') ∧ Grew2 base w w' q q' (n + 4) c' (l ++ le4 N) := by
  have F := hid (le4_rd N hN)
  have Hown := hid hown
  clear hown
  go_enter Tryd.func42, Tryd.ntmps42
  go_wp2_with (refine app2 rfl (.tmp 5) (.tmp 17) rfl base q n c l rfl (own_below Hown.out ((Below.refl _ _).alloc (Nat.le_refl _) _)) _ 4 4 (le4 N) rfl rfl (F.out w) (by omega) (by simp; omega) ?_; intro q2 c2 w2 g2)
  go_ret
  refine ⟨_, _, rfl, ⟨⟨g2.len, g2.max, g2.nil, g2.own, ((Below.refl _ _).alloc hbase _).trans g2.below, fun g hg hne => (g2.other g (by simp; omega) hne).trans (Below.heap_alloc _ _ _ hg)⟩, ?_⟩⟩
  rcases g2.place with h | ⟨g, h, hg⟩
  · exact .inl h
  · exact .inr ⟨g, h, by simp at hg; omega⟩
set_option maxHeartbeats 800000 in
theorem four_any (base : Nat) (q : Option Addr) (n c : Nat) (l : List UInt8) (N : Nat) (w : World) (hN : N < 4294967296) (hown : w.ownsRow base 5 1 (.slice q n c) n (l.map bv)) (hsz : n ≤ 100000000000) (hbase : base ≤ w.heap.size) :
    Calls Tryd.prog 22 #[.slice q n c, .int .u32 (N : Int)] w fun e w' => ∃ q' c', e = .returned (.slice q' (n + 4) c') ∧ Grew2 base w w' q q' (n + 4) c' (l ++ le4 N) := by
  have F := hid (le4_rd N hN)
  have Hown := hid hown
  clear hown
  go_enter Tryd.func22, Tryd.ntmps22
  go_wp2_with (refine app2 rfl (.tmp 5) (.tmp 17) rfl base q n c l rfl (own_below Hown.out ((Below.refl _ _).alloc (Nat.le_refl _) _)) _ 4 4 (le4 N) rfl rfl (F.out w) (by omega) (by simp; omega) ?_; intro q2 c2 w2 g2)
  go_ret
  refine ⟨_, _, rfl, ⟨⟨g2.len, g2.max, g2.nil, g2.own, ((Below.refl _ _).alloc hbase _).trans g2.below, fun g hg hne => (g2.other g (by simp; omega) hne).trans (Below.heap_alloc _ _ _ hg)⟩, ?_⟩⟩
  rcases g2.place with h | ⟨g, h, hg⟩
  · exact .inl h
  · exact .inr ⟨g, h, by simp at hg; omega⟩
/-! rise -/
def leS (a b : ByteArray) : Bool := Op.bytesLess a.toList b.toList || a.toList == b.toList
/-- each key stands behind the one ahead of it -/
def RiseI (l : List Item) : Prop := 0 < l.length ∧ ∀ j, (h : j + 1 < l.length) → leS l[j + 1].key l[j].key = false
set_option maxRecDepth 100000 in
set_option maxHeartbeats 800000 in
theorem rise_any (q : Option Addr) (n c : Nat) (l : List Item) (w : World) (hn : l.length = n) (hm : n ≤ 1000000000) (hr : Rd w q (iCells l)) :
    Calls Tryd.prog 41 #[.slice q n c] w fun e w' => ∃ b : Bool, e = .returned (.bool b) ∧ (b = true ↔ RiseI l) ∧ Below w.heap.size w w' := by
  have Hn := hid hn
  have Hr := hid hr
  clear hn hr
  go_enter Tryd.func41, Tryd.ntmps41
  go_wp2
  go_loopw [6] (fun i wr => ∃ k : Nat, k ≤ n ∧ i = .int .i64 (k : Int) ∧ (∀ j, (h : j + 1 < l.length) → j + 1 < k → leS l[j + 1].key l[j].key = false) ∧ Below w.heap.size w wr) (fun i _ => n - (intOf i).toNat)
  case atStart => exact ⟨0, Nat.zero_le _, rfl, fun j _ h => by omega, Below.refl _ _⟩
  case round =>
    obtain ⟨k, hk, rfl, hz, hb⟩ := hrel
    have HZ := hid hz
    have HB := hid hb
    clear hz hb
    by_cases hlt : k < n
    · by_cases h0 : k = 0
      · subst h0
        have d0 : decide ((0 : Int) < ((0 : Nat) : Int)) = false := rfl
        go_upto_region 4 with (fail)
        go_quiet (fail)
        go_wp2
        go_roundw
        case rel => exact ⟨1, by omega, by go_num, fun j _ h => by omega, below_drewN HB.out nq⟩
        case measure => simp [intOf]; omega
      · obtain ⟨j, rfl⟩ : ∃ j, k = j + 1 := ⟨k - 1, by omega⟩
        have hjl : j + 1 < l.length := by rw [Hn.out]; exact hlt
        have hr2 := Hr.out.below HB.out
        obtain ⟨b, off, rfl, _, c1, _⟩ := item_at hr2 hjl
        obtain ⟨b', off', e, _, c0, _⟩ := item_at (j := j) hr2 (by omega)
        cases e
        obtain ⟨x, hx⟩ : ∃ x, x = l[j + 1].key := ⟨_, rfl⟩
        obtain ⟨y, hy⟩ : ∃ y, y = l[j].key := ⟨_, rfl⟩
        rw [← hx] at c1
        rw [← hy] at c0
        have s1 : IntKind.i64.wrap (((j + 1 : Nat) : Int) - 1) = (j : Int) := by rw [IntWalk.i64_in _ (by omega)]; omega
        have d0 : decide ((0 : Int) < ((j + 1 : Nat) : Int)) = true := by simp
        have i0 : (0 : Int) ≤ (j : Int) := by omega
        have i1 : (j : Int) < (n : Int) := by omega
        have i2 : (0 : Int) ≤ ((j + 1 : Nat) : Int) := by omega
        have i3 : ((j + 1 : Nat) : Int) < (n : Int) := by omega
        by_cases hle : leS x y = true
        · have hnr : ¬ RiseI l := fun h => by
            have := h.2 j hjl
            rw [← hx, ← hy, hle] at this; cases this
          unfold leS at hle
          have HX := hid hx
          have HY := hid hy
          have HNR := hid hnr
          clear hx hy hr2 hnr
          go_upto_region 4 with (fail)
          go_quiet (fail)
          go_wp2
          go_ret
          exact ⟨false, rfl, ⟨fun h => (by cases h), fun h => absurd h HNR.out⟩, below_drewN HB.out nq⟩
        · have hle2 : leS x y = false := by simpa using hle
          have hle3 := hle2
          unfold leS at hle3
          have HLE := hid hle2
          have HX := hid hx
          have HY := hid hy
          clear hx hy hr2 hle hle2
          go_upto_region 4 with (fail)
          go_quiet (fail)
          go_wp2
          go_roundw
          case rel =>
            refine ⟨j + 2, by omega, by go_num, fun i hi hik => ?_, below_drewN HB.out nq⟩
            by_cases e : i = j
            · subst e; rw [← HX.out, ← HY.out]; exact HLE.out
            · exact HZ.out i hi (by omega)
          case measure => simp [intOf]; omega
    · obtain rfl : k = n := by omega
      have hri : (decide (0 < k) = true ↔ RiseI l) := by
        have hL := Hn.out
        rw [decide_eq_true_eq]
        exact ⟨fun h => ⟨by omega, fun j hj => HZ.out j hj (by omega)⟩, fun h => by have := h.1; omega⟩
      have HRI := hid hri
      clear hri
      go_wp2
      go_ret
      exact ⟨_, rfl, HRI.out, HB.out⟩
/-! common -/
theorem drewN_add (w : World) (m n : Nat) : (w.drewN m).drewN n = w.drewN (m + n) := by simp [World.drewN, Nat.add_assoc]
def comL : List UInt8 → List UInt8 → Nat
  | a :: x, b :: y => if a = b then comL x y + 1 else 0
  | _, _ => 0
theorem comL_le : ∀ (x y : List UInt8), comL x y ≤ x.length ∧ comL x y ≤ y.length
  | [], _ => by simp [comL]
  | _ :: _, [] => by simp [comL]
  | a :: x, b :: y => by
    have := comL_le x y
    rw [comL]; split <;> simp <;> omega
theorem comL_of : ∀ (n : Nat) (x y : List UInt8), n ≤ x.length → n ≤ y.length → x.take n = y.take n → (n = x.length ∨ n = y.length ∨ x[n]? ≠ y[n]?) → comL x y = n
  | 0, [], _, _, _, _, _ => by simp [comL]
  | 0, _ :: _, [], _, _, _, _ => by simp [comL]
  | 0, a :: x, b :: y, _, _, _, h => by
    rw [comL, if_neg]
    rcases h with h | h | h
    · simp at h
    · simp at h
    · simpa using h
  | n + 1, [], _, h, _, _, _ => by simp at h
  | n + 1, _ :: _, [], _, h, _, _ => by simp at h
  | n + 1, a :: x, b :: y, h1, h2, h3, h4 => by
    simp only [List.take_succ_cons, List.cons.injEq] at h3
    rw [comL, if_pos h3.1, comL_of n x y (by simpa using h1) (by simpa using h2) h3.2 (by simpa using h4)]
set_option maxRecDepth 100000 in
set_option maxHeartbeats 800000 in
theorem common_any (a b : ByteArray) (w : World) (ha : a.size ≤ 1000000000) :
    Calls Tryd.prog 43 #[.string a, .string b] w fun e w' => e = .returned (.int .i64 ((comL a.data.toList b.data.toList : Nat) : Int)) ∧ ∃ m, w' = w.drewN m := by
  have hal : a.data.toList.length = a.size := by rw [Array.length_toList]; rfl
  have hbl : b.data.toList.length = b.size := by rw [Array.length_toList]; rfl
  have Hal := hid hal
  have Hbl := hid hbl
  clear hal hbl
  go_enter Tryd.func43, Tryd.ntmps43
  go_wp2
  go_loopw [5] (fun i wr => ∃ k : Nat, k ≤ a.size ∧ k ≤ b.size ∧ i = .int .i64 (k : Int) ∧ a.data.toList.take k = b.data.toList.take k ∧ ∃ m, wr = w.drewN m) (fun i _ => a.size - (intOf i).toNat)
  case atStart => exact ⟨0, Nat.zero_le _, Nat.zero_le _, rfl, rfl, 0, rfl⟩
  case round =>
    obtain ⟨k, hka, hkb, rfl, hz, m, rfl⟩ := hrel
    have HZ := hid hz
    clear hz
    by_cases h1 : k < a.size
    · have d1 : decide ((k : Int) < (a.size : Int)) = true := by simp; omega
      by_cases h2 : k < b.size
      · have d2 : decide ((k : Int) < (b.size : Int)) = true := by simp; omega
        by_cases h3 : a[k] = b[k]
        · have d3 : ((a[k].toNat : Int) == (b[k].toNat : Int)) = true := by rw [h3]; simp
          have H3 := hid h3
          clear h3
          go_upto_region 2 with (fail)
          go_quiet (fail)
          go_wp2
          go_roundw
          case rel =>
            refine ⟨k + 1, by omega, by omega, by go_num, ?_, _, rfl⟩
            have e1 := List.take_succ_eq_append_getElem (l := a.data.toList) (i := k) (by rw [Hal.out]; exact h1)
            have e2 := List.take_succ_eq_append_getElem (l := b.data.toList) (i := k) (by rw [Hbl.out]; exact h2)
            have e3 : a.data.toList[k]'(by rw [Hal.out]; exact h1) = b.data.toList[k]'(by rw [Hbl.out]; exact h2) := H3.out
            rw [e1, e2, HZ.out, e3]
          case measure => simp [intOf]; omega
        · have d3 : ((a[k].toNat : Int) == (b[k].toNat : Int)) = false := by
            rw [beq_eq_false_iff_ne]; intro e; exact h3 (UInt8.toNat_inj.1 (by omega))
          have hfin : comL a.data.toList b.data.toList = k := comL_of k _ _ (by rw [Hal.out]; exact hka) (by rw [Hbl.out]; exact hkb) HZ.out (.inr (.inr (by
            rw [List.getElem?_eq_getElem (by rw [Hal.out]; exact h1), List.getElem?_eq_getElem (by rw [Hbl.out]; exact h2)]
            intro e; exact h3 (Option.some.inj e))))
          have HF := hid hfin
          clear hfin h3
          go_upto_region 2 with (fail)
          go_quiet (fail)
          go_wp2
          go_ret
          exact ⟨by rw [HF.out]; rfl, _, drewN_add w m _⟩
      · have d2 : decide ((k : Int) < (b.size : Int)) = false := by simp; omega
        have hfin : comL a.data.toList b.data.toList = k := comL_of k _ _ (by rw [Hal.out]; exact hka) (by rw [Hbl.out]; exact hkb) HZ.out (.inr (.inl (by rw [Hbl.out]; omega)))
        have HF := hid hfin
        clear hfin
        go_upto_region 2 with (fail)
        go_quiet (fail)
        go_wp2
        go_ret
        exact ⟨by rw [HF.out]; rfl, _, drewN_add w m _⟩
    · have d1 : decide ((k : Int) < (a.size : Int)) = false := by simp; omega
      have hfin : comL a.data.toList b.data.toList = k := comL_of k _ _ (by rw [Hal.out]; exact hka) (by rw [Hbl.out]; exact hkb) HZ.out (.inl (by rw [Hal.out]; omega))
      have HF := hid hfin
      clear hfin
      go_upto_region 2 with (fail)
      go_quiet (fail)
      go_wp2
      go_ret
      exact ⟨by rw [HF.out]; rfl, _, drewN_add w m _⟩
end Go.Proofs.Herb
