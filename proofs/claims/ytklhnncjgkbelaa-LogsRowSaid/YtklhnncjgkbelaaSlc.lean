/- The contracts of slices.Clip and Clone at bytes, and of the laws' equal. For slices that can be read. -/
import Derived.Test.YtklhnncjgkbelaaProg
import Derived.WalkLawsBesides
import Derived.WalkSpells
import Derived.Outline
import Derived.Deep.LoopGhost
import Derived.Deep.QuietTactic
import Derived.Deep.DeepCutAuto
import Derived.BigQuiet
import Derived.Test.YtklhnncjgkbelaaBase2
namespace Go.Proofs.Herb
open Go.RowKit
theorem infoU8 : (Try.prog.info? 5).map (fun i => (i.zero, i.size, i.bytes)) = some (some (.int .u8 0), 1, 1) := by kernel_rfl
set_option maxHeartbeats 400000 in
theorem clip_bytes (a : Option Addr) (n c : Nat) (w : World) (hn : n ≤ c) (_hc : c ≤ maxLen) :
    Calls Try.prog 30 #[.slice a n c] w fun e w' => e = .returned (.slice a n n) ∧ w = w' := by
  unfold maxLen at _hc
  go_enter Try.func30, Try.ntmps30
  go_wp2
  go_ret
  exact ⟨rfl, rfl⟩
set_option maxRecDepth 100000 in
set_option maxHeartbeats 400000 in
theorem clone_bytes (a : Option Addr) (n c : Nat) (l : List UInt8) (w : World) (hn : l.length = n) (hc : n ≤ c) (hm : n ≤ 4194304) (hr : Rd w a (l.map bv)) (ha : a = none → c = 0) :
    Calls Try.prog 31 #[.slice a n c] w fun e w' => ∃ v, e = .returned v ∧ Fr w' w.heap.size 5 1 v n (l.map bv) ∧ Below w.heap.size w w' := by
  have heq := fun (w : World) (a : Option Addr) (n c : Nat) => Lib.run_eql_slice_nil (P := Try.prog) w 22 5 a n c 0 0 Try.underlying22
  cases a with
  | none =>
    have Hr := hid hr
    clear hr
    obtain rfl := ha rfl
    obtain rfl : n = 0 := by omega
    go_enter Try.func31, Try.ntmps31
    go_wp2
    go_ret
    exact ⟨_, rfl, ⟨by simp [hn], .inl ⟨rfl, rfl⟩⟩, Below.refl _ _⟩
  | some ad =>
    have Hr := hid hr
    have Hn := hid hn
    clear hr hn ha
    go_enter Try.func31, Try.ntmps31
    go_wp2_with (refine wpList_append_rd rfl (.tmp 5) (.tmp 6) 22 rfl w.heap.size 5 _ 1 1 Try.underlying22 infoU8 rfl (by decide) (.slice (some ⟨w.heap.size, 0, none⟩) 0 0) 0 [] rfl (World.ownsRow_made w #[] 0 (Nat.le_refl _) (by decide) rfl) _ n c (l.map bv) rfl (fun h => by cases h) (by have := Hn.out; simp; omega) (Hr.out.alloc _) bv_one (by unfold maxLen; omega) (by omega) (by simp) ?_; intro v' w1 hown hg hnil)
    go_ret
    refine ⟨_, rfl, Fr.of_own (by simpa using hown), ?_⟩
    exact ((Below.refl _ _).alloc (Nat.le_refl _) _).grown hg (by simp) (by simp [Value.ownBlock])
set_option maxRecDepth 100000 in
set_option maxHeartbeats 400000 in
theorem equal_bytes (a b : Option Addr) (n c m d : Nat) (l k : List UInt8) (w : World) (hn : l.length = n) (hm : k.length = m) (_hn' : n ≤ 4611686018427387904) (_hm' : m ≤ 4611686018427387904) (hr : Rd w a (l.map bv)) (hs : Rd w b (k.map bv)) :
    Calls Try.prog 32 #[.slice a n c, .slice b m d] w fun e w' => e = .returned (.bool (l == k)) ∧ Below w.heap.size w w' := by
  have Hn := hid hn
  have Hm := hid hm
  have Hr := hid hr
  have Hs := hid hs
  clear hn hr hm hs
  go_enter Try.func32, Try.ntmps32
  go_wp2
  go_loopw [5] (fun i wr => ∃ j : Nat, j ≤ n ∧ j ≤ m ∧ i = .int .i64 j ∧ l.take j = k.take j ∧ Below w.heap.size w wr)
    (fun i _ => n - (intOf i).toNat)
  case atStart => exact ⟨0, by omega, by omega, rfl, rfl, Below.refl _ _⟩
  case round =>
    obtain ⟨j, hj1, hj2, rfl, he, hb⟩ := hrel
    have He := hid he
    have Hb := hid hb
    clear he hb
    by_cases hjn : j < n
    · by_cases hjm : j < m
      · obtain ⟨b1, o1, rfl, hb1, hc1⟩ := Hr.out.cellB Hb.out (k := j) (by simp; have := Hn.out; omega)
        obtain ⟨b2, o2, rfl, hb2, hc2⟩ := Hs.out.cellB Hb.out (k := j) (by simp; have := Hm.out; omega)
        have i1 : (0 : Int) ≤ (j : Int) := by omega
        have i2 : (j : Int) < (n : Int) := by omega
        have i3 : (j : Int) < (m : Int) := by omega
        rw [List.getElem_map] at hc1 hc2
        obtain ⟨p, hp⟩ : ∃ p, p = l[j]'(by have := Hn.out; omega) := ⟨_, rfl⟩
        obtain ⟨q, hq⟩ : ∃ q, q = k[j]'(by have := Hm.out; omega) := ⟨_, rfl⟩
        rw [← hp] at hc1
        rw [← hq] at hc2
        unfold bv at hc1 hc2
        have Hp := hid hp
        have Hq := hid hq
        clear hp hq
        by_cases hpq : p = q
        · subst hpq
          have hbb : (((p.toNat : Int)) != (p.toNat : Int)) = false := by simp
          go_wp2
          go_quiet (fail)
          go_wp2
          go_roundw
          case rel => exact ⟨j + 1, by omega, by omega, by go_num, eq_round _ _ _ He.out (by have := Hn.out; omega) (by have := Hm.out; omega) (Hp.out.symm.trans Hq.out), below_drewN Hb.out _⟩
          case measure => simp [intOf]; omega
        · have hbb : (((p.toNat : Int)) != (q.toNat : Int)) = true := by rw [bne_iff_ne]; intro h; exact hpq (UInt8.toNat_inj.1 (by omega))
          go_wp2
          go_quiet (fail)
          go_wp2
          go_ret
          refine ⟨?_, below_drewN Hb.out _⟩
          rw [eq_not l k j (by have := Hn.out; omega) (by have := Hm.out; omega) (by rw [← Hp.out, ← Hq.out]; exact hpq)]
          rfl
      · go_wp2
        go_ret
        refine ⟨?_, Hb.out⟩
        rw [← eq_end l k j He.out (by have := Hn.out; omega) (by have := Hm.out; omega) (by have := Hm.out; omega), Hn.out, Hm.out]; rfl
    · go_wp2
      go_ret
      refine ⟨?_, Hb.out⟩
      rw [← eq_end l k j He.out (by have := Hn.out; omega) (by have := Hm.out; omega) (by have := Hn.out; omega), Hn.out, Hm.out]; rfl
end Go.Proofs.Herb
