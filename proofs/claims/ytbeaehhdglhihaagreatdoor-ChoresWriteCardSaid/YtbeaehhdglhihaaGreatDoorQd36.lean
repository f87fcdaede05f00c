/- The contract of the laws' equal at bytes. For slices that can be read. -/
import Derived.Test.YtbeaehhdglhihaaGreatDoorQd01
namespace Go.Proofs.Herb
open Go.RowKit
set_option maxRecDepth 100000 in
set_option maxHeartbeats 400000 in
theorem equal_bytes (a b : Option Addr) (n c m d : Nat) (l k : List UInt8) (w : World) (hn : l.length = n) (hm : k.length = m) (_hn' : n ≤ 4611686018427387904) (_hm' : m ≤ 4611686018427387904) (hr : Rd w a (l.map bv)) (hs : Rd w b (k.map bv)) :
    Calls Tryz.prog 106 #[.slice a n c, .slice b m d] w fun e w' => e = .returned (.bool (l == k)) ∧ Below w.heap.size w w' := by
  have Hn := hid hn
  have Hm := hid hm
  have Hr := hid hr
  have Hs := hid hs
  clear hn hr hm hs
  go_enter Tryz.func106, Tryz.ntmps106
  go_wp2
  go_loopw [5] (fun i wr => ∃ j : Nat, j ≤ n ∧ j ≤ m ∧ i = .int .i64 j ∧ l.take j = k.take j ∧ Below w.heap.size w wr)
    (fun i _ => n - (intOf i).toNat)
  case atStart => exact ⟨0, by omega, by omega, rfl, rfl, Below.refl _ _⟩
  case round =>
    obtain ⟨j, hj1, hj2, rfl, he, hb⟩ := hrel
    have He := hid he
    have Hb := hid hb
    clear he hb
    by_cases hjn : j < n
    · by_cases hjm : j < m
      · obtain ⟨b1, o1, rfl, hb1, hc1⟩ := Hr.out.cellB Hb.out (k := j) (by simp; have := Hn.out; omega)
        obtain ⟨b2, o2, rfl, hb2, hc2⟩ := Hs.out.cellB Hb.out (k := j) (by simp; have := Hm.out; omega)
        have i1 : (0 : Int) ≤ (j : Int) := by omega
        have i2 : (j : Int) < (n : Int) := by omega
        have i3 : (j : Int) < (m : Int) := by omega
        rw [List.getElem_map] at hc1 hc2
        obtain ⟨p, hp⟩ : ∃ p, p = l[j]'(by have := Hn.out; omega) := ⟨_, rfl⟩
        obtain ⟨q, hq⟩ : ∃ q, q = k[j]'(by have := Hm.out; omega) := ⟨_, rfl⟩
        rw [← hp] at hc1
        rw [← hq] at hc2
        unfold bv at hc1 hc2
        have Hp := hid hp
        have Hq := hid hq
        clear hp hq
        by_cases hpq : p = q
        · subst hpq
          have hbb : (((p.toNat : Int)) != (p.toNat : Int)) = false := by simp
          go_wp2
          go_quiet (fail)
          go_wp2
          go_roundw
          case rel => exact ⟨j + 1, by omega, by omega, by go_num, eq_round _ _ _ He.out (by have := Hn.out; omega) (by have := Hm.out; omega) (Hp.out.symm.trans Hq.out), below_drewN Hb.out _⟩
          case measure => simp [intOf]; omega
        · have hbb : (((p.toNat : Int)) != (q.toNat : Int)) = true := by rw [bne_iff_ne]; intro h; exact hpq (UInt8.toNat_inj.1 (by omega))
          go_wp2
          go_quiet (fail)
          go_wp2
          go_ret
          refine ⟨?_, below_drewN Hb.out _⟩
          rw [eq_not l k j (by have := Hn.out; omega) (by have := Hm.out; omega) (by rw [← Hp.out, ← Hq.out]; exact hpq)]
          rfl
      · go_wp2
        go_ret
        refine ⟨?_, Hb.out⟩
        rw [← eq_end l k j He.out (by have := Hn.out; omega) (by have := Hm.out; omega) (by have := Hm.out; omega), Hn.out, Hm.out]; rfl
    · go_wp2
      go_ret
      refine ⟨?_, Hb.out⟩
      rw [← eq_end l k j He.out (by have := Hn.out; omega) (by have := Hm.out; omega) (by have := Hn.out; omega), Hn.out, Hm.out]; rfl
end Go.Proofs.Herb
