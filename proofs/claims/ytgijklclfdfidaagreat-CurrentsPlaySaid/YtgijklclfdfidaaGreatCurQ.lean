/- What a pointer's Set makes of a new disk, and of one that has a pointer. Plain; no condition. -/
import Derived.Test.YtgijklclfdfidaaGreatCurS
import Derived.Test.YtgijklclfdfidaaGreatCurG
import Derived.Test.YtgijklclfdfidaaGreatCrr
namespace Go.Proofs.Herb
open Go.RowKit Go.Sort
theorem DsOk.run (b : List UInt8) : ∀ (j : Nat) {s : DS} {n : Nat}, DsOk s n → DsOk (runS b j s) (n + 2 * j + 1)
  | 0, s, n, h => h.mono (by omega)
  | j + 1, s, n, h => by
    unfold runS
    split
    · exact (DsOk.run b j (h.step b (j + 1))).mono (by omega)
    · split
      · exact ((h.step b (j + 1)).remove kD).mono (by omega)
      · exact (h.step b (j + 1)).mono (by omega)
/-- a disk with a pointer of these bytes -/
def curS (room : Int) (b : List UInt8) : DS := ⟨room, -1, false, [⟨b, b.length⟩], [(kC, 0, 1)], 2, [(kC, 0, 1)], 2, []⟩
def newD (room : Int) (b : List UInt8) (n : Nat) : DS := ⟨room, -1, false, [⟨b, n⟩], [(kD, 0, 0)], 1, [], 0, [⟨kD, 0, ⟨#[]⟩⟩]⟩
theorem set_new (b : List UInt8) (hb : b.length = 12) : runE b 5 (newS 100) = 0 ∧ runS b 5 (newS 100) = curS 100 b := by
  have e5 : stepE b 5 (newS 100) = 0 := by rfl
  have s5 : stepS b 5 (newS 100) = newD 100 [] 0 := by rfl
  have u0 : usedN (newD 100 [] 0) = 0 := by rfl
  have k4 : knownE (newD 100 [] 0) kD = 0 := by rfl
  have e4 : stepE b 4 (newD 100 [] 0) = 0 := by
    show appendE (newD 100 [] 0) kD b = 0
    unfold appendE
    rw [k4, u0, hb, if_neg (by decide), if_neg (by decide)]; rfl
  have s4 : stepS b 4 (newD 100 [] 0) = newD 100 b 0 := by
    show appendS (newD 100 [] 0) kD b = _
    unfold appendS
    rw [k4, u0, hb, if_neg (by decide)]; rfl
  have e3 : stepE b 3 (newD 100 b 0) = 0 := by rfl
  have s3 : stepS b 3 (newD 100 b 0) = newD 100 b b.length := by rfl
  have e2 : stepE b 2 (newD 100 b b.length) = 0 := by rfl
  have e1 : stepE b 1 (stepS b 2 (newD 100 b b.length)) = 0 := by rfl
  have s1 : stepS b 1 (stepS b 2 (newD 100 b b.length)) = curS 100 b := by rfl
  constructor
  · rw [(run_ok e5).1, s5, (run_ok e4).1, s4, (run_ok e3).1, s3, (run_ok e2).1, (run_ok e1).1]; rfl
  · rw [(run_ok e5).2, s5, (run_ok e4).2, s4, (run_ok e3).2, s3, (run_ok e2).2, (run_ok e1).2, s1]; rfl
theorem set_first (N : Nat) : setE (newS 100) N = 0 ∧ setS (newS 100) N = curS 100 (contentL N) := set_new (contentL N) (contentL_len N)
theorem cur_ok {room : Int} {b : List UInt8} (h0 : 0 ≤ room) (h1 : room ≤ 4194304) (hb : b.length ≤ 4194304) : DsOk (curS room b) 1 :=
  ⟨by simp [curS], by simp [curS], h0, h1, by simp [curS], by simp [curS], rfl, fun j hj => by
    obtain rfl : j = 0 := Nat.le_zero.1 hj
    exact ⟨by simp [dirAt, curS], by simp [dirAt, curS], by simp [dirAt, curS], by simp [dirAt, curS]; decide, by simp [dirAt, curS], by simp [dirAt, curS], by simp [dirAt, curS]⟩, fun f hf => by simp only [curS, List.mem_singleton] at hf; subst hf; exact ⟨Nat.le_refl _, hb⟩⟩
theorem cur_read (room : Int) (b : List UInt8) : readL (curS room b) kC = b := by rfl
theorem get_cur {s : DS} {b : List UInt8} (h1 : (look s.names kC).isSome = true) (h2 : knownE s kC = 0) (h3 : readL s kC = b) : getE s = (if goodL b = true then 0 else 13) ∧ getN s = if goodL b = true then valL (b.take 8) else 0 := by
  have h : getE s = (if goodL b = true then 0 else 13) := by
    unfold getE
    rw [h1, if_neg (by decide), if_neg (fun h => h h2), h3]
  refine ⟨h, ?_⟩
  unfold getN
  rw [h, h3]
  cases goodL b <;> rfl
theorem get_good {s : DS} {N : Nat} (hN : N < 18446744073709551616) (h1 : (look s.names kC).isSome = true) (h2 : knownE s kC = 0) (h3 : readL s kC = contentL N) : getE s = 0 ∧ getN s = N := by
  have h := get_cur h1 h2 h3
  rw [(good_content hN).2, if_pos rfl, if_pos rfl, (good_content hN).1] at h
  exact h
theorem get_bad {s : DS} {b : List UInt8} (h1 : (look s.names kC).isSome = true) (h2 : knownE s kC = 0) (h3 : readL s kC = b) (hg : goodL b = false) : getE s = 13 ∧ getN s = 0 := by
  have h := get_cur h1 h2 h3
  rw [hg, if_neg (by decide), if_neg (by decide)] at h
  exact h
/-! no room -/
def fullS (room : Int) (b : List UInt8) : DS := ⟨room, -1, false, [⟨b, b.length⟩, ⟨[], 0⟩], [(kC, 0, 1)], 3, [(kC, 0, 1)], 2, [⟨kD, 1, ⟨#[]⟩⟩, ⟨kD, -1, ⟨#[]⟩⟩]⟩
def draftS (room : Int) (b : List UInt8) : DS := ⟨room, -1, false, [⟨b, b.length⟩, ⟨[], 0⟩], [(kC, 0, 1), (kD, 1, 2)], 3, [(kC, 0, 1)], 2, [⟨kD, 1, ⟨#[]⟩⟩]⟩
theorem set_full {room : Int} {b : List UInt8} (N : Nat) (hr : room < 24) (hb : b.length = 12) : setE (curS room b) N = 9 ∧ setS (curS room b) N = fullS room b := by
  have hc := contentL_len N
  obtain ⟨c, hcc⟩ : ∃ c, c = contentL N := ⟨_, rfl⟩
  have h5 : setE (curS room b) N = runE c 5 (curS room b) ∧ setS (curS room b) N = runS c 5 (curS room b) := by rw [hcc]; exact ⟨rfl, rfl⟩
  rw [← hcc] at hc
  have e5 : stepE c 5 (curS room b) = 0 := by rfl
  have s5 : stepS c 5 (curS room b) = draftS room b := by rfl
  have k4 : knownE (draftS room b) kD = 0 := by rfl
  have u4 : usedN (draftS room b) = 12 := by simp [usedN, draftS, lenAt, hb]
  have e4 : stepE c 4 (draftS room b) = 9 := by
    show appendE (draftS room b) kD c = 9
    unfold appendE
    rw [k4, u4, hc, if_neg (by decide), if_pos (by show room - _ < _; omega)]
  have s4 : stepS c 4 (draftS room b) = draftS room b := by
    show appendS (draftS room b) kD c = _
    unfold appendS
    rw [u4, hc, if_pos (.inr (by show room - _ < _; omega))]
  have n4 := run_no (b := c) (j := 3) (S := draftS room b) (by rw [e4]; decide)
  rw [e4, if_pos rfl, s4] at n4
  rw [h5.1, h5.2, (run_ok e5).1, (run_ok e5).2, s5, n4.1, n4.2]
  exact ⟨rfl, by rfl⟩
theorem full_sorted (room : Int) (b : List UInt8) : sortedK (fullS room b).names = [keyL kC] := by
  refine List.perm_singleton.1 ?_
  exact (sortedK_perm _).trans (by simp [fullS])
end Go.Proofs.Herb
