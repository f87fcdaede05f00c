/- The contracts of slices.Clip and Clone at bytes. For slices that can be read. -/
import Derived.Test.YtancpdhinocbnaaGreatDoorProg
import Derived.WalkLawsBesides
import Derived.WalkSpells
import Derived.Outline
import Derived.Deep.LoopGhost
import Derived.Deep.QuietTactic
import Derived.Deep.DeepCutAuto
import Derived.BigQuiet
import Derived.Test.YtancpdhinocbnaaGreatDoorBase2
namespace Go.Proofs.Herb
open Go.RowKit
theorem infoU8 : (Tryz.prog.info? 5).map (fun i => (i.zero, i.size, i.bytes)) = some (some (.int .u8 0), 1, 1) := by kernel_rfl
set_option maxHeartbeats 400000 in
theorem clip_bytes (a : Option Addr) (n c : Nat) (w : World) (hn : n ≤ c) (_hc : c ≤ maxLen) :
    Calls Tryz.prog 69 #[.slice a n c] w fun e w' => e = .returned (.slice a n n) ∧ w = w' := by
  unfold maxLen at _hc
  go_enter Tryz.func69, Tryz.ntmps69
  go_wp2
  go_ret
  exact ⟨rfl, rfl⟩
set_option maxRecDepth 100000 in
set_option maxHeartbeats 400000 in
theorem clone_bytes (a : Option Addr) (n c : Nat) (l : List UInt8) (w : World) (hn : l.length = n) (hc : n ≤ c) (hm : n ≤ 4194304) (hr : Rd w a (l.map bv)) (ha : a = none → c = 0) :
    Calls Tryz.prog 29 #[.slice a n c] w fun e w' => ∃ v, e = .returned v ∧ Fr w' w.heap.size 5 1 v n (l.map bv) ∧ Below w.heap.size w w' := by
  have heq := fun (w : World) (a : Option Addr) (n c : Nat) => Lib.run_eql_slice_nil (P := Tryz.prog) w 31 5 a n c 0 0 Tryz.underlying31
  cases a with
  | none =>
    have Hr := hid hr
    clear hr
    obtain rfl := ha rfl
    obtain rfl : n = 0 := by omega
    go_enter Tryz.func29, Tryz.ntmps29
    go_wp2
    go_ret
    exact ⟨_, rfl, ⟨by simp [hn], .inl ⟨rfl, rfl⟩⟩, Below.refl _ _⟩
  | some ad =>
    have Hr := hid hr
    have Hn := hid hn
    clear hr hn ha
    go_enter Tryz.func29, Tryz.ntmps29
    go_wp2_with (refine wpList_append_rd rfl (.tmp 5) (.tmp 6) 31 rfl w.heap.size 5 _ 1 1 Tryz.underlying31 infoU8 rfl (by decide) (.slice (some ⟨w.heap.size, 0, none⟩) 0 0) 0 [] rfl (World.ownsRow_made w #[] 0 (Nat.le_refl _) (by decide) rfl) _ n c (l.map bv) rfl (fun h => by cases h) (by have := Hn.out; simp; omega) (Hr.out.alloc _) bv_one (by unfold maxLen; omega) (by omega) (by simp) ?_; intro v' w1 hown hg hnil)
    go_ret
    refine ⟨_, rfl, Fr.of_own (by simpa using hown), ?_⟩
    exact ((Below.refl _ _).alloc (Nat.le_refl _) _).grown hg (by simp) (by simp [Value.ownBlock])
end Go.Proofs.Herb
