/- The contract of the law's of: a disk with one file. For bytes that have room. -/
import Derived.Test.YtklhnncjgkbelaaDoorAdd
import Derived.Test.YtklhnncjgkbelaaDoorAll
import Derived.Test.YtklhnncjgkbelaaDoorFrs
namespace Go.Proofs.Herb
open Go.RowKit
abbrev kA : ByteArray := ⟨#[97]⟩
abbrev kB : ByteArray := ⟨#[98]⟩
/-- a disk with one file -/
def oneS (room : Int) (b : List UInt8) : DS := ⟨room, -1, false, [⟨b, 0⟩], [(kA, 0, 0)], 1, [], 0, [⟨kA, 0, ⟨#[]⟩⟩]⟩
theorem one_create (room : Int) : createE (newS room) kA = 0 ∧ createS (newS room) kA = oneS room [] := ⟨by rfl, by rfl⟩
theorem one_known (room : Int) (b : List UInt8) : knownE (oneS room b) kA = 0 := by rfl
theorem one_knownB (room : Int) (b : List UInt8) : knownE (oneS room b) kB = 7 := by rfl
theorem one_used (room : Int) (b : List UInt8) : usedN (oneS room b) = b.length := by simp [usedN, oneS, lenAt]
theorem one_file (room : Int) (b : List UInt8) : fileL (oneS room b) kA = b := by rfl
theorem one_read (room : Int) (b : List UInt8) : readL (oneS room b) kA = b := by rfl
theorem one_appendE (room : Int) (b l : List UInt8) (h : (b.length : Int) + (l.length : Int) ≤ room) : appendE (oneS room b) kA l = 0 := by
  unfold appendE
  rw [one_known, one_used, if_neg (by simp), if_neg (by show ¬ (room - _ < _); omega)]; rfl
theorem one_appendS (room : Int) (b l : List UInt8) (h : (b.length : Int) + (l.length : Int) ≤ room) : appendS (oneS room b) kA l = oneS room (b ++ l) := by
  unfold appendS
  rw [one_known, one_used, if_neg (by show ¬ (_ ∨ room - _ < _); simp; omega)]; rfl
theorem one_appendE' (room : Int) (b l : List UInt8) (h : room < (b.length : Int) + (l.length : Int)) : appendE (oneS room b) kA l = 9 := by
  unfold appendE
  rw [one_known, one_used, if_neg (by simp), if_pos (by show room - _ < _; omega)]
theorem one_appendS' (room : Int) (b l : List UInt8) (h : room < (b.length : Int) + (l.length : Int)) : appendS (oneS room b) kA l = oneS room b := by
  unfold appendS
  rw [one_used, if_pos (.inr (by show room - _ < _; omega))]
theorem one_dir (room : Int) (b : List UInt8) : DirOk (oneS room b).names (oneS room b).nclock (oneS room b).files.length := ⟨by simp [oneS], by simp [oneS], by simp [oneS]⟩
theorem one_ok (room : Int) (b : List UInt8) (h0 : 0 ≤ room) (h1 : room ≤ 4194304) (hb : b.length ≤ 4194304) : (oneS room b).Ok :=
  ⟨one_dir room b, by rw [one_used]; omega, by simp [oneS], by simp [oneS], h0, h1, by simpa [oneS] using hb⟩
set_option maxRecDepth 100000 in
set_option maxHeartbeats 800000 in
theorem mk_any (r : Nat) (a : Option Addr) (n c : Nat) (l : List UInt8) (w : World) (hn : l.length = n) (hc : n ≤ c) (hcm : c ≤ maxLen) (hr : Rd w a (l.map bv)) (ha : a = none → c = 0) (h1 : n ≤ r) (h2 : r ≤ 4194304) :
    Calls Tryd.prog 5 #[.int .i64 (r : Int), .string kA, .slice a n c] w fun e w' => ∃ m, e = .returned (.pointer (some ⟨m.D, 0, none⟩)) ∧ DiskAt w' m (oneS r l) ∧ (∀ k, k ∈ m.fp → w.heap.size ≤ k) ∧ Below w.heap.size w w' := by
  obtain ⟨m1, hm1⟩ : ∃ m, m = newM w.heap.size := ⟨_, rfl⟩
  have hfp1 : ∀ k, k ∈ m1.fp → w.heap.size ≤ k := by
    intro k hk; rw [hm1] at hk; simp [DM.fp, newM, Value.ownBlock] at hk; omega
  have hnew := new_any (r : Int) (by omega) (by omega) w
  rw [← hm1] at hnew
  have Hnew := hid hnew
  have Hn := hid hn
  have Hr := hid hr
  have Ha := hid ha
  have Hfp1 := hid hfp1
  clear hm1 hnew hn hr ha hfp1
  have e1 := one_appendE r [] l (by rw [Hn.out]; simp; omega)
  have e2 := one_appendS r [] l (by rw [Hn.out]; simp; omega)
  have E1 := hid e1
  have E2 := hid e2
  clear e1 e2
  go_enter Tryd.func5, Tryd.ntmps5
  go_wp2_with (first
    | (go_at_call 14; refine Hnew.out.mono ?_; rintro e w1 ⟨rfl, hD1, hb1⟩; have HD1 := hid hD1; have HB1 := hid hb1; clear hD1 hb1)
    | (go_at_call 15; refine (create_any m1 (newS r) kA w1 HD1.out (by unfold maxLen; decide) (by simp [newS]) (by simp [newS]) (by simp [newS]) (by simp [newS]) (by simp [newS])).mono ?_; rintro e w2 ⟨m2, rfl, hD2, hmd, hM2⟩; rw [(one_create r).1, ← hmd]; rw [(one_create r).2] at hD2; have HD2 := hid hD2; have HF2 := hid (hM2.fresh HB1.out.size Hfp1.out); have HB2 := hid (HB1.out.trans HF2.out.2); clear hD2 hM2 hmd)
    | (go_at_call 16; refine (append_any m2 (oneS r []) kA (by unfold maxLen; decide) a n c l w2 HD2.out (one_dir _ _) (by rw [one_used]; decide) (by simp [oneS]) (by simp [oneS]) (by simp [oneS]) (by simp [oneS]; omega) Hn.out hc hcm (Hr.out.below HB2.out) Ha.out (fun hl b off e hm => by have h3 := HF2.out.1 b hm; have h4 := Hr.out.lt e (by rw [List.length_map]; exact List.length_pos_iff.2 hl); omega) (by simp [oneS])).mono ?_; rintro e w3 ⟨m3, rfl, hD3, hmd3, hM3⟩; rw [E1.out, ← hmd3]; rw [E2.out] at hD3; have HD3 := hid hD3; have HF3 := hid (hM3.fresh HB2.out.size HF2.out.1); clear hD3 hM3 hmd3))
  go_ret
  exact ⟨m3, rfl, HD3.out, HF3.out.1, HB2.out.trans HF3.out.2⟩
end Go.Proofs.Herb
