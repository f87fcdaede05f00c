/- What a crash leaves of a pointer's Set that a fuse stops: the number that was set ahead, or this one. Plain; no condition. -/
import Derived.Test.YteopiecmaihjeaaCurQ
namespace Go.Proofs.Herb
open Go.RowKit Go.Sort
/-- no fuse, not dead -/
structure Idle (s : DS) : Prop where
  dead : s.dead = false
  fuse : s.fuse = -1
theorem Idle.letsS {s : DS} (h : Idle s) : letsS s = s := by unfold Herb.letsS; rw [if_pos h.fuse]
theorem Idle.letsE {s : DS} (h : Idle s) : letsE s = 0 := by unfold Herb.letsE; rw [if_neg (by rw [h.fuse]; decide)]
theorem Idle.alive {s : DS} (h : Idle s) : aliveE s = 0 := by unfold aliveE; rw [h.dead]; rfl
theorem knownE_congr {s t : DS} (h1 : t.dead = s.dead) (h2 : t.names = s.names) (k : ByteArray) : knownE t k = knownE s k := by unfold knownE foundE; rw [h1, h2]
theorem create_idle {s : DS} {n : Nat} (h : DsOk s n) (hi : Idle s) (hl : look s.names kD = none) (hn : s.names.length < 200) : createE s kD = 0 ∧ Idle (createS s kD) ∧ knownE (createS s kD) kD = 0 ∧ (createS s kD).room = s.room := by
  have k7 : knownE s kD = 7 := by unfold knownE foundE; rw [hi.dead, hl]; rfl
  have e : createS s kD = turnS { s with files := s.files ++ [⟨[], 0⟩] } ⟨kD, (s.files.length : Int), ⟨#[]⟩⟩ := by
    unfold createS
    rw [if_neg (by rw [k7]; simp; omega), hi.letsE, if_neg (by decide), hi.letsS]
  refine ⟨?_, ?_, ?_, ?_⟩
  · unfold createE; rw [k7, if_neg (by decide), if_neg (by decide), if_neg (by omega), hi.letsE]
  · rw [e]; exact ⟨hi.dead, hi.fuse⟩
  · rw [e]
    have hlk : look (turnDir s.names s.nclock ⟨kD, (s.files.length : Int), ⟨#[]⟩⟩) kD = some s.files.length := by
      rw [look_turnDir h.good]
      dsimp only
      rw [if_pos rfl, if_neg (by omega), Int.toNat_natCast]
    unfold knownE foundE
    show (if s.dead = true then _ else _) = _
    rw [hi.dead, if_neg (by decide)]
    show (if mayB kD = true then if (look (turnDir s.names s.nclock ⟨kD, (s.files.length : Int), ⟨#[]⟩⟩) kD).isSome = true then 0 else 7 else 1) = (0 : Int)
    rw [hlk]; rfl
  · rw [e]; rfl
theorem append_idle {s : DS} (hi : Idle s) (k : ByteArray) (b : List UInt8) : Idle (appendS s k b) ∧ (appendS s k b).names = s.names ∧ (appendS s k b).dead = s.dead := by
  unfold appendS
  rw [hi.letsE, hi.letsS]
  split
  · exact ⟨hi, rfl, rfl⟩
  · rw [if_neg (by decide)]; exact ⟨⟨hi.dead, hi.fuse⟩, rfl, rfl⟩
theorem sync_idle {s : DS} (hi : Idle s) (k : ByteArray) : Idle (syncS s k) ∧ (syncS s k).names = s.names ∧ (syncS s k).dead = s.dead := by
  unfold syncS
  rw [hi.letsE, hi.letsS]
  split
  · exact ⟨hi, rfl, rfl⟩
  · rw [if_neg (by decide)]; exact ⟨⟨hi.dead, hi.fuse⟩, rfl, rfl⟩
theorem rename_idle {s : DS} (hi : Idle s) (f t : ByteArray) : Idle (renameS s f t) := by
  unfold renameS
  rw [hi.letsE, hi.letsS]
  split
  · exact hi
  · rw [if_neg (by decide)]
    split
    · exact hi
    · exact ⟨hi.dead, hi.fuse⟩
theorem set5_idle {s : DS} {n : Nat} {c : List UInt8} (h : DsOk s n) (hi : Idle s) (hl : look s.names kD = none) (hn : s.names.length < 200) (hu : (usedN s : Int) + 12 ≤ s.room) (hc : c.length = 12) : runE c 5 s = 0 := by
  obtain ⟨e5, i5, k5, r5⟩ := create_idle h hi hl hn
  have u5 := create_used h kD
  have e4 : appendE (createS s kD) kD c = 0 := by
    unfold appendE
    rw [k5, if_neg (by decide), u5, r5, hc, if_neg (by omega), i5.letsE]
  obtain ⟨i4, n4, d4⟩ := append_idle i5 kD c
  have k4 : knownE (appendS (createS s kD) kD c) kD = 0 := (knownE_congr d4 n4 kD).trans k5
  have e3 : syncE (appendS (createS s kD) kD c) kD = 0 := by unfold syncE; rw [k4, if_neg (by decide), i4.letsE]
  obtain ⟨i3, n3, d3⟩ := sync_idle i4 kD
  have k3 : knownE (syncS (appendS (createS s kD) kD c) kD) kD = 0 := (knownE_congr d3 n3 kD).trans k4
  have e2 : renameE (syncS (appendS (createS s kD) kD c) kD) kD kC = 0 := by
    have : renE (syncS (appendS (createS s kD) kD c) kD) kD kC = 0 := by unfold renE; rw [if_neg (by rintro ⟨_, h⟩; exact absurd h (by decide))]; exact k3
    unfold renameE; rw [this, if_neg (by decide), i3.letsE]
  have i2 := rename_idle i3 kD kC
  have e1 : syncDirE (renameS (syncS (appendS (createS s kD) kD c) kD) kD kC) = 0 := by unfold syncDirE; rw [i2.alive, if_neg (by decide), i2.letsE]
  have h5 : runE c 5 s = runE c 4 (createS s kD) := (run_ok (b := c) (j := 4) (S := s) e5).1
  have h4 : runE c 4 (createS s kD) = runE c 3 (appendS (createS s kD) kD c) := (run_ok (b := c) (j := 3) (S := createS s kD) e4).1
  have h3 : runE c 3 (appendS (createS s kD) kD c) = runE c 2 (syncS (appendS (createS s kD) kD c) kD) := (run_ok (b := c) (j := 2) (S := appendS (createS s kD) kD c) e3).1
  have h2 : runE c 2 (syncS (appendS (createS s kD) kD c) kD) = runE c 1 (renameS (syncS (appendS (createS s kD) kD c) kD) kD kC) := (run_ok (b := c) (j := 1) (S := syncS (appendS (createS s kD) kD c) kD) e2).1
  have h1 : runE c 1 (renameS (syncS (appendS (createS s kD) kD c) kD) kD kC) = 0 := (run_ok (b := c) (j := 0) (S := renameS (syncS (appendS (createS s kD) kD c) kD) kD kC) e1).1
  rw [h5, h4, h3, h2, h1]
theorem set_idle {s : DS} {n : Nat} (h : DsOk s n) (hi : Idle s) (hn : s.names.length < 200) (hu : (usedN s : Int) + 12 ≤ s.room) (N : Nat) : setE s N = 0 := by
  unfold setE
  cases hl : look s.names kD with
  | none =>
    rw [if_neg (by simp)]
    exact set5_idle h hi hl hn hu (contentL_len N)
  | some i =>
    rw [if_pos (by simp)]
    have k0 : knownE s kD = 0 := by unfold knownE foundE; rw [hi.dead, hl]; rfl
    have e6 : removeE s kD = 0 := by unfold removeE; rw [k0, if_neg (by decide), hi.letsE]
    have s6 : removeS s kD = turnS s ⟨kD, -1, ⟨#[]⟩⟩ := by unfold removeS; rw [k0, if_neg (by decide), hi.letsE, if_neg (by decide), hi.letsS]
    have n6 : (removeS s kD).names = dirDel s.names kD := by rw [s6]; rfl
    have l6 : look (removeS s kD).names kD = none := by rw [n6, look_dirDel h.good.keys, if_pos rfl]
    have i6 : Idle (removeS s kD) := by rw [s6]; exact ⟨hi.dead, hi.fuse⟩
    have r6 : (removeS s kD).room = s.room := by rw [s6]; rfl
    have u6 := remove_used h kD
    have h6 : runE (contentL N) 6 s = runE (contentL N) 5 (removeS s kD) := (run_ok (b := contentL N) (j := 5) (S := s) e6).1
    rw [h6]
    exact set5_idle (h.remove kD) i6 l6 (by rw [n6]; exact Nat.lt_of_le_of_lt (dirDel_sub _ _).length_le hn) (by rw [r6]; show ((usedN (removeS s kD) : Nat) : Int) + 12 ≤ _; omega) (contentL_len N)
/-! a crash -/
theorem crash_small {s : DS} {n : Nat} (h : DsOk s n) (dir : Int) (fl : List Int) (hl : (crashD s dir).length ≤ 2) (hf : ∀ f ∈ s.files, f.b.length ≤ 12) : usedN (crashS s dir fl) ≤ 24 ∧ (crashS s dir fl).names.length ≤ 2 := by
  obtain ⟨h1, _, _, h4, _⟩ := crashT_facts h dir fl
  have hn : (crashS s dir fl).names.length ≤ 2 := by
    have := congrArg List.length h1
    rw [List.length_map, List.length_map] at this
    show (crashT s dir fl).names.length ≤ 2
    omega
  refine ⟨?_, hn⟩
  have h12 : ∀ i, lenAt (crashS s dir fl) i ≤ 12 := by
    intro i
    unfold lenAt
    rw [show (crashS s dir fl).files = (crashL s dir).mapIdx (fun i k => crashF s fl (crashD s dir) i k) from h4, List.getElem?_mapIdx]
    cases hk : (crashL s dir)[i]? with
    | none => simp
    | some k =>
      simp only [Option.map_some, Option.getD_some]
      unfold crashF
      rw [List.length_take]
      cases hg : s.files[(look (crashD s dir) k).getD 0]? with
      | none => simp
      | some g =>
        have := hf g (List.mem_of_getElem? hg)
        simp only [Option.getD_some]
        omega
  have h2 : usedN (crashS s dir fl) ≤ ((crashS s dir fl).names.map fun e => lenAt (crashS s dir fl) e.2.1).length * 12 := sum_le_mul fun a ha => by
    obtain ⟨e, _, rfl⟩ := List.mem_map.1 ha
    exact h12 _
  rw [List.length_map] at h2
  omega
theorem crash_cur {s : DS} {n : Nat} (h : DsOk s n) (dir : Int) (fl : List Int) {i : Nat} {f : DF} (hk : look (crashD s dir) kC = some i) (hf : s.files[i]? = some f) (hs : f.sure = f.b.length) :
    knownE (crashS s dir fl) kC = 0 ∧ (look (crashS s dir fl).names kC).isSome = true ∧ readL (crashS s dir fl) kC = f.b := by
  have hm : kC ∈ crashL s dir := (crashL_in kC).2 (by rw [hk]; rfl)
  obtain ⟨j, hj⟩ := List.mem_iff_getElem?.1 hm
  obtain ⟨h1, h2, h3, _⟩ := crash_read h dir fl hj
  refine ⟨h1, by rw [h3]; rfl, ?_⟩
  rw [h2]
  unfold crashF
  rw [hk, Option.getD_some, hf, Option.getD_some, keep_sure hs, List.take_length]
/-- what the law asks of a state, whichever changes a crash keeps -/
structure SureAt (S : DS) (x y : Nat) (E : Int) : Prop where
  ok : DsOk S 12
  room : S.room = 100
  files : ∀ f ∈ S.files, f.b.length ≤ 12
  cur : ∀ J, J ≤ S.changes.length → (dirAt S J).1.length ≤ 2 ∧ ∃ (i : Nat) (f : DF) (M : Nat), look (dirAt S J).1 kC = some i ∧ S.files[i]? = some f ∧ f.sure = f.b.length ∧ f.b = contentL M ∧ (M = x ∨ M = y) ∧ (E = 0 → M = y)
theorem SureAt.crash {S : DS} {x y : Nat} {E : Int} (h : SureAt S x y E) (hx : x < 18446744073709551616) (hy : y < 18446744073709551616) (dir : Int) (fl : List Int) (N : Nat) :
    ∃ M, getE (crashS S dir fl) = 0 ∧ getN (crashS S dir fl) = M ∧ (M = x ∨ M = y) ∧ (E = 0 → M = y) ∧ setE (crashS S dir fl) N = 0 ∧ DsOk (crashS S dir fl) 12 := by
  obtain ⟨h1, i, f, M, h2, h3, h4, h5, h6, h7⟩ := h.cur (crashJ S dir) (crashJ_le S dir)
  obtain ⟨k1, k2, k3⟩ := crash_cur h.ok dir fl (i := i) (f := f) h2 h3 h4
  have hM : M < 18446744073709551616 := by rcases h6 with rfl | rfl <;> assumption
  have hg := get_good hM k2 k1 (by rw [k3, h5])
  obtain ⟨u1, u2⟩ := crash_small h.ok dir fl h1 h.files
  obtain ⟨_, f2, f3, f4⟩ := crash_flags h.ok dir fl
  refine ⟨M, hg.1, hg.2, h6, h7, set_idle (h.ok.crash dir fl) ⟨f2, f3⟩ (by omega) (by rw [f4, h.room]; omega) N, h.ok.crash dir fl⟩
/-! a fuse -/
def p0 (F : Int) (b : List UInt8) : DS := ⟨100, F, false, [⟨b, b.length⟩], [(kC, 0, 1)], 2, [(kC, 0, 1)], 2, []⟩
def p1 (F : Int) (b c : List UInt8) (n : Nat) : DS := ⟨100, F, false, [⟨b, b.length⟩, ⟨c, n⟩], [(kC, 0, 1), (kD, 1, 2)], 3, [(kC, 0, 1)], 2, [⟨kD, 1, ⟨#[]⟩⟩]⟩
def p2 (F : Int) (b c : List UInt8) : DS := ⟨100, F, false, [⟨b, b.length⟩, ⟨c, c.length⟩], [(kC, 1, 1)], 3, [(kC, 0, 1)], 2, [⟨kD, 1, ⟨#[]⟩⟩, ⟨kC, 1, kD⟩]⟩
def p3 (F : Int) (b c : List UInt8) : DS := ⟨100, F, false, [⟨b, b.length⟩, ⟨c, c.length⟩], [(kC, 1, 1)], 3, [(kC, 1, 1)], 3, []⟩
def deadS (s : DS) : DS := { s with dead := true }
theorem p1_used {F : Int} {b : List UInt8} (hb : b.length = 12) : usedN (p1 F b [] 0) = 12 := by simp [usedN, p1, lenAt, hb]
theorem fuse_0 {b c : List UInt8} (_hb : b.length = 12) (_hc : c.length = 12) : runE c 5 (p0 0 b) = 10 ∧ runS c 5 (p0 0 b) = deadS (p0 0 b) := by
  have e5 : stepE c 5 (p0 0 b) = 10 := by rfl
  have s5 : stepS c 5 (p0 0 b) = (deadS (p0 0 b)) := by rfl
  have n5 := run_no (b := c) (j := 4) (S := (p0 0 b)) (by rw [e5]; decide)
  rw [e5, if_neg (by decide), s5] at n5
  exact ⟨by rw [n5.1], by rw [n5.2]⟩
theorem fuse_1 {b c : List UInt8} (hb : b.length = 12) (hc : c.length = 12) : runE c 5 (p0 1 b) = 10 ∧ runS c 5 (p0 1 b) = deadS (p1 0 b [] 0) := by
  have e5 : stepE c 5 (p0 1 b) = 0 := by rfl
  have s5 : stepS c 5 (p0 1 b) = (p1 0 b [] 0) := by rfl
  have k4 : knownE (p1 0 b [] 0) kD = 0 := by rfl
  have u4 : usedN (p1 0 b [] 0) = 12 := p1_used hb
  have e4 : stepE c 4 (p1 0 b [] 0) = 10 := by
    show appendE (p1 0 b [] 0) kD c = 10
    unfold appendE
    rw [k4, u4, hc, if_neg (by decide), if_neg (by show ¬ ((100 : Int) - _ < _); decide)]; rfl
  have s4 : stepS c 4 (p1 0 b [] 0) = (deadS (p1 0 b [] 0)) := by
    show appendS (p1 0 b [] 0) kD c = _
    unfold appendS
    rw [k4, u4, hc, if_neg (by show ¬ (_ ∨ (100 : Int) - _ < _); decide)]; rfl
  have n4 := run_no (b := c) (j := 3) (S := (p1 0 b [] 0)) (by rw [e4]; decide)
  rw [e4, if_neg (by decide), s4] at n4
  exact ⟨by rw [(run_ok e5).1, s5, n4.1], by rw [(run_ok e5).2, s5, n4.2]⟩
theorem fuse_2 {b c : List UInt8} (hb : b.length = 12) (hc : c.length = 12) : runE c 5 (p0 2 b) = 10 ∧ runS c 5 (p0 2 b) = deadS (p1 0 b c 0) := by
  have e5 : stepE c 5 (p0 2 b) = 0 := by rfl
  have s5 : stepS c 5 (p0 2 b) = (p1 1 b [] 0) := by rfl
  have k4 : knownE (p1 1 b [] 0) kD = 0 := by rfl
  have u4 : usedN (p1 1 b [] 0) = 12 := p1_used hb
  have e4 : stepE c 4 (p1 1 b [] 0) = 0 := by
    show appendE (p1 1 b [] 0) kD c = 0
    unfold appendE
    rw [k4, u4, hc, if_neg (by decide), if_neg (by show ¬ ((100 : Int) - _ < _); decide)]; rfl
  have s4 : stepS c 4 (p1 1 b [] 0) = (p1 0 b c 0) := by
    show appendS (p1 1 b [] 0) kD c = _
    unfold appendS
    rw [k4, u4, hc, if_neg (by show ¬ (_ ∨ (100 : Int) - _ < _); decide)]; rfl
  have e3 : stepE c 3 (p1 0 b c 0) = 10 := by rfl
  have s3 : stepS c 3 (p1 0 b c 0) = (deadS (p1 0 b c 0)) := by rfl
  have n3 := run_no (b := c) (j := 2) (S := (p1 0 b c 0)) (by rw [e3]; decide)
  rw [e3, if_neg (by decide), s3] at n3
  exact ⟨by rw [(run_ok e5).1, s5, (run_ok e4).1, s4, n3.1], by rw [(run_ok e5).2, s5, (run_ok e4).2, s4, n3.2]⟩
theorem fuse_3 {b c : List UInt8} (hb : b.length = 12) (hc : c.length = 12) : runE c 5 (p0 3 b) = 10 ∧ runS c 5 (p0 3 b) = deadS (p1 0 b c c.length) := by
  have e5 : stepE c 5 (p0 3 b) = 0 := by rfl
  have s5 : stepS c 5 (p0 3 b) = (p1 2 b [] 0) := by rfl
  have k4 : knownE (p1 2 b [] 0) kD = 0 := by rfl
  have u4 : usedN (p1 2 b [] 0) = 12 := p1_used hb
  have e4 : stepE c 4 (p1 2 b [] 0) = 0 := by
    show appendE (p1 2 b [] 0) kD c = 0
    unfold appendE
    rw [k4, u4, hc, if_neg (by decide), if_neg (by show ¬ ((100 : Int) - _ < _); decide)]; rfl
  have s4 : stepS c 4 (p1 2 b [] 0) = (p1 1 b c 0) := by
    show appendS (p1 2 b [] 0) kD c = _
    unfold appendS
    rw [k4, u4, hc, if_neg (by show ¬ (_ ∨ (100 : Int) - _ < _); decide)]; rfl
  have e3 : stepE c 3 (p1 1 b c 0) = 0 := by rfl
  have s3 : stepS c 3 (p1 1 b c 0) = (p1 0 b c c.length) := by rfl
  have e2 : stepE c 2 (p1 0 b c c.length) = 10 := by rfl
  have s2 : stepS c 2 (p1 0 b c c.length) = (deadS (p1 0 b c c.length)) := by rfl
  have n2 := run_no (b := c) (j := 1) (S := (p1 0 b c c.length)) (by rw [e2]; decide)
  rw [e2, if_neg (by decide), s2] at n2
  exact ⟨by rw [(run_ok e5).1, s5, (run_ok e4).1, s4, (run_ok e3).1, s3, n2.1], by rw [(run_ok e5).2, s5, (run_ok e4).2, s4, (run_ok e3).2, s3, n2.2]⟩
theorem fuse_4 {b c : List UInt8} (hb : b.length = 12) (hc : c.length = 12) : runE c 5 (p0 4 b) = 10 ∧ runS c 5 (p0 4 b) = deadS (p2 0 b c) := by
  have e5 : stepE c 5 (p0 4 b) = 0 := by rfl
  have s5 : stepS c 5 (p0 4 b) = (p1 3 b [] 0) := by rfl
  have k4 : knownE (p1 3 b [] 0) kD = 0 := by rfl
  have u4 : usedN (p1 3 b [] 0) = 12 := p1_used hb
  have e4 : stepE c 4 (p1 3 b [] 0) = 0 := by
    show appendE (p1 3 b [] 0) kD c = 0
    unfold appendE
    rw [k4, u4, hc, if_neg (by decide), if_neg (by show ¬ ((100 : Int) - _ < _); decide)]; rfl
  have s4 : stepS c 4 (p1 3 b [] 0) = (p1 2 b c 0) := by
    show appendS (p1 3 b [] 0) kD c = _
    unfold appendS
    rw [k4, u4, hc, if_neg (by show ¬ (_ ∨ (100 : Int) - _ < _); decide)]; rfl
  have e3 : stepE c 3 (p1 2 b c 0) = 0 := by rfl
  have s3 : stepS c 3 (p1 2 b c 0) = (p1 1 b c c.length) := by rfl
  have e2 : stepE c 2 (p1 1 b c c.length) = 0 := by rfl
  have s2 : stepS c 2 (p1 1 b c c.length) = (p2 0 b c) := by rfl
  have e1 : stepE c 1 (p2 0 b c) = 10 := by rfl
  have s1 : stepS c 1 (p2 0 b c) = (deadS (p2 0 b c)) := by rfl
  have n1 := run_no (b := c) (j := 0) (S := (p2 0 b c)) (by rw [e1]; decide)
  rw [e1, if_neg (by decide), s1] at n1
  exact ⟨by rw [(run_ok e5).1, s5, (run_ok e4).1, s4, (run_ok e3).1, s3, (run_ok e2).1, s2, n1.1], by rw [(run_ok e5).2, s5, (run_ok e4).2, s4, (run_ok e3).2, s3, (run_ok e2).2, s2, n1.2]⟩
theorem fuse_5 {b c : List UInt8} (hb : b.length = 12) (hc : c.length = 12) : runE c 5 (p0 5 b) = 0 ∧ runS c 5 (p0 5 b) = p3 0 b c := by
  have e5 : stepE c 5 (p0 5 b) = 0 := by rfl
  have s5 : stepS c 5 (p0 5 b) = (p1 4 b [] 0) := by rfl
  have k4 : knownE (p1 4 b [] 0) kD = 0 := by rfl
  have u4 : usedN (p1 4 b [] 0) = 12 := p1_used hb
  have e4 : stepE c 4 (p1 4 b [] 0) = 0 := by
    show appendE (p1 4 b [] 0) kD c = 0
    unfold appendE
    rw [k4, u4, hc, if_neg (by decide), if_neg (by show ¬ ((100 : Int) - _ < _); decide)]; rfl
  have s4 : stepS c 4 (p1 4 b [] 0) = (p1 3 b c 0) := by
    show appendS (p1 4 b [] 0) kD c = _
    unfold appendS
    rw [k4, u4, hc, if_neg (by show ¬ (_ ∨ (100 : Int) - _ < _); decide)]; rfl
  have e3 : stepE c 3 (p1 3 b c 0) = 0 := by rfl
  have s3 : stepS c 3 (p1 3 b c 0) = (p1 2 b c c.length) := by rfl
  have e2 : stepE c 2 (p1 2 b c c.length) = 0 := by rfl
  have s2 : stepS c 2 (p1 2 b c c.length) = (p2 1 b c) := by rfl
  have e1 : stepE c 1 (p2 1 b c) = 0 := by rfl
  have s1 : stepS c 1 (p2 1 b c) = (p3 0 b c) := by rfl
  exact ⟨by rw [(run_ok e5).1, s5, (run_ok e4).1, s4, (run_ok e3).1, s3, (run_ok e2).1, s2, (run_ok e1).1, s1]; rfl, by rw [(run_ok e5).2, s5, (run_ok e4).2, s4, (run_ok e3).2, s3, (run_ok e2).2, s2, (run_ok e1).2, s1]; rfl⟩
theorem fuse_6 {b c : List UInt8} (hb : b.length = 12) (hc : c.length = 12) : runE c 5 (p0 6 b) = 0 ∧ runS c 5 (p0 6 b) = p3 1 b c := by
  have e5 : stepE c 5 (p0 6 b) = 0 := by rfl
  have s5 : stepS c 5 (p0 6 b) = (p1 5 b [] 0) := by rfl
  have k4 : knownE (p1 5 b [] 0) kD = 0 := by rfl
  have u4 : usedN (p1 5 b [] 0) = 12 := p1_used hb
  have e4 : stepE c 4 (p1 5 b [] 0) = 0 := by
    show appendE (p1 5 b [] 0) kD c = 0
    unfold appendE
    rw [k4, u4, hc, if_neg (by decide), if_neg (by show ¬ ((100 : Int) - _ < _); decide)]; rfl
  have s4 : stepS c 4 (p1 5 b [] 0) = (p1 4 b c 0) := by
    show appendS (p1 5 b [] 0) kD c = _
    unfold appendS
    rw [k4, u4, hc, if_neg (by show ¬ (_ ∨ (100 : Int) - _ < _); decide)]; rfl
  have e3 : stepE c 3 (p1 4 b c 0) = 0 := by rfl
  have s3 : stepS c 3 (p1 4 b c 0) = (p1 3 b c c.length) := by rfl
  have e2 : stepE c 2 (p1 3 b c c.length) = 0 := by rfl
  have s2 : stepS c 2 (p1 3 b c c.length) = (p2 2 b c) := by rfl
  have e1 : stepE c 1 (p2 2 b c) = 0 := by rfl
  have s1 : stepS c 1 (p2 2 b c) = (p3 1 b c) := by rfl
  exact ⟨by rw [(run_ok e5).1, s5, (run_ok e4).1, s4, (run_ok e3).1, s3, (run_ok e2).1, s2, (run_ok e1).1, s1]; rfl, by rw [(run_ok e5).2, s5, (run_ok e4).2, s4, (run_ok e3).2, s3, (run_ok e2).2, s2, (run_ok e1).2, s1]; rfl⟩
theorem fuse_7 {b c : List UInt8} (hb : b.length = 12) (hc : c.length = 12) : runE c 5 (p0 7 b) = 0 ∧ runS c 5 (p0 7 b) = p3 2 b c := by
  have e5 : stepE c 5 (p0 7 b) = 0 := by rfl
  have s5 : stepS c 5 (p0 7 b) = (p1 6 b [] 0) := by rfl
  have k4 : knownE (p1 6 b [] 0) kD = 0 := by rfl
  have u4 : usedN (p1 6 b [] 0) = 12 := p1_used hb
  have e4 : stepE c 4 (p1 6 b [] 0) = 0 := by
    show appendE (p1 6 b [] 0) kD c = 0
    unfold appendE
    rw [k4, u4, hc, if_neg (by decide), if_neg (by show ¬ ((100 : Int) - _ < _); decide)]; rfl
  have s4 : stepS c 4 (p1 6 b [] 0) = (p1 5 b c 0) := by
    show appendS (p1 6 b [] 0) kD c = _
    unfold appendS
    rw [k4, u4, hc, if_neg (by show ¬ (_ ∨ (100 : Int) - _ < _); decide)]; rfl
  have e3 : stepE c 3 (p1 5 b c 0) = 0 := by rfl
  have s3 : stepS c 3 (p1 5 b c 0) = (p1 4 b c c.length) := by rfl
  have e2 : stepE c 2 (p1 4 b c c.length) = 0 := by rfl
  have s2 : stepS c 2 (p1 4 b c c.length) = (p2 3 b c) := by rfl
  have e1 : stepE c 1 (p2 3 b c) = 0 := by rfl
  have s1 : stepS c 1 (p2 3 b c) = (p3 2 b c) := by rfl
  exact ⟨by rw [(run_ok e5).1, s5, (run_ok e4).1, s4, (run_ok e3).1, s3, (run_ok e2).1, s2, (run_ok e1).1, s1]; rfl, by rw [(run_ok e5).2, s5, (run_ok e4).2, s4, (run_ok e3).2, s3, (run_ok e2).2, s2, (run_ok e1).2, s1]; rfl⟩
theorem fuse_8 {b c : List UInt8} (hb : b.length = 12) (hc : c.length = 12) : runE c 5 (p0 8 b) = 0 ∧ runS c 5 (p0 8 b) = p3 3 b c := by
  have e5 : stepE c 5 (p0 8 b) = 0 := by rfl
  have s5 : stepS c 5 (p0 8 b) = (p1 7 b [] 0) := by rfl
  have k4 : knownE (p1 7 b [] 0) kD = 0 := by rfl
  have u4 : usedN (p1 7 b [] 0) = 12 := p1_used hb
  have e4 : stepE c 4 (p1 7 b [] 0) = 0 := by
    show appendE (p1 7 b [] 0) kD c = 0
    unfold appendE
    rw [k4, u4, hc, if_neg (by decide), if_neg (by show ¬ ((100 : Int) - _ < _); decide)]; rfl
  have s4 : stepS c 4 (p1 7 b [] 0) = (p1 6 b c 0) := by
    show appendS (p1 7 b [] 0) kD c = _
    unfold appendS
    rw [k4, u4, hc, if_neg (by show ¬ (_ ∨ (100 : Int) - _ < _); decide)]; rfl
  have e3 : stepE c 3 (p1 6 b c 0) = 0 := by rfl
  have s3 : stepS c 3 (p1 6 b c 0) = (p1 5 b c c.length) := by rfl
  have e2 : stepE c 2 (p1 5 b c c.length) = 0 := by rfl
  have s2 : stepS c 2 (p1 5 b c c.length) = (p2 4 b c) := by rfl
  have e1 : stepE c 1 (p2 4 b c) = 0 := by rfl
  have s1 : stepS c 1 (p2 4 b c) = (p3 3 b c) := by rfl
  exact ⟨by rw [(run_ok e5).1, s5, (run_ok e4).1, s4, (run_ok e3).1, s3, (run_ok e2).1, s2, (run_ok e1).1, s1]; rfl, by rw [(run_ok e5).2, s5, (run_ok e4).2, s4, (run_ok e3).2, s3, (run_ok e2).2, s2, (run_ok e1).2, s1]; rfl⟩
theorem mem_two {f a b : DF} (h : f ∈ [a, b]) : f = a ∨ f = b := by simpa using h
theorem p0_ok {F : Int} (h0 : -1 ≤ F) (h1 : F ≤ 9223372036854775807) {b : List UInt8} (hb : b.length = 12) : DsOk (p0 F b) 1 :=
  (cur_ok (room := 100) (b := b) (by decide) (by decide) (by omega)).same h0 h1 (by simp [p0]) (by simp [p0]) rfl rfl rfl rfl rfl rfl (fun f hf => by simp only [p0, List.mem_singleton] at hf; subst hf; exact ⟨Nat.le_refl _, by show b.length ≤ _; omega⟩)
theorem sure_case {x y f : Nat} (hf : f < 9) : ∃ E S, setE (p0 (f : Int) (contentL x)) y = E ∧ setS (p0 (f : Int) (contentL x)) y = S ∧ SureAt S x y E := by
  have hb := contentL_len x
  have hc := contentL_len y
  have hok : DsOk (setS (p0 (f : Int) (contentL x)) y) 12 := (p0_ok (F := (f : Int)) (by omega) (by omega) hb).run (contentL y) 5
  refine ⟨_, _, rfl, rfl, ?_⟩
  have hE : setE (p0 (f : Int) (contentL x)) y = runE (contentL y) 5 (p0 (f : Int) (contentL x)) := by rfl
  have hS : setS (p0 (f : Int) (contentL x)) y = runS (contentL y) 5 (p0 (f : Int) (contentL x)) := by rfl
  rw [hS] at hok ⊢
  rw [hE]
  obtain ⟨c, hcy⟩ : ∃ c, c = contentL y := ⟨_, rfl⟩
  obtain ⟨b, hbx⟩ : ∃ b, b = contentL x := ⟨_, rfl⟩
  rw [← hcy, ← hbx] at hok ⊢
  rw [← hcy] at hc
  rw [← hbx] at hb
  clear hE hS
  have hff : f = 0 ∨ f = 1 ∨ f = 2 ∨ f = 3 ∨ f = 4 ∨ f = 5 ∨ f = 6 ∨ f = 7 ∨ f = 8 := by omega
  rcases hff with rfl | rfl | rfl | rfl | rfl | rfl | rfl | rfl | rfl
  · rw [show ((0 : Nat) : Int) = 0 from rfl, (fuse_0 hb hc).2] at hok
    rw [show ((0 : Nat) : Int) = 0 from rfl, (fuse_0 hb hc).1, (fuse_0 hb hc).2]
    refine ⟨hok, rfl, fun g hg => ?_, fun J hJ => ?_⟩
    · rcases List.mem_singleton.1 hg with rfl; show b.length ≤ 12; omega
    · obtain rfl : J = 0 := Nat.le_zero.1 hJ
      exact ⟨Nat.le_of_ble_eq_true rfl, ⟨0, ⟨b, b.length⟩, x, rfl, rfl, rfl, hbx, .inl rfl, fun h => absurd h (by decide)⟩⟩
  · rw [show ((1 : Nat) : Int) = 1 from rfl, (fuse_1 hb hc).2] at hok
    rw [show ((1 : Nat) : Int) = 1 from rfl, (fuse_1 hb hc).1, (fuse_1 hb hc).2]
    refine ⟨hok, rfl, fun g hg => ?_, fun J hJ => ?_⟩
    · rcases mem_two hg with rfl | rfl
      · show b.length ≤ 12; omega
      · show 0 ≤ 12; omega
    · have hJ : J ≤ 1 := hJ
      rcases (show J = 0 ∨ J = 1 by omega) with rfl | rfl
      · exact ⟨Nat.le_of_ble_eq_true rfl, ⟨0, ⟨b, b.length⟩, x, rfl, rfl, rfl, hbx, .inl rfl, fun h => absurd h (by decide)⟩⟩
      · exact ⟨Nat.le_of_ble_eq_true rfl, ⟨0, ⟨b, b.length⟩, x, rfl, rfl, rfl, hbx, .inl rfl, fun h => absurd h (by decide)⟩⟩
  · rw [show ((2 : Nat) : Int) = 2 from rfl, (fuse_2 hb hc).2] at hok
    rw [show ((2 : Nat) : Int) = 2 from rfl, (fuse_2 hb hc).1, (fuse_2 hb hc).2]
    refine ⟨hok, rfl, fun g hg => ?_, fun J hJ => ?_⟩
    · rcases mem_two hg with rfl | rfl
      · show b.length ≤ 12; omega
      · show c.length ≤ 12; omega
    · have hJ : J ≤ 1 := hJ
      rcases (show J = 0 ∨ J = 1 by omega) with rfl | rfl
      · exact ⟨Nat.le_of_ble_eq_true rfl, ⟨0, ⟨b, b.length⟩, x, rfl, rfl, rfl, hbx, .inl rfl, fun h => absurd h (by decide)⟩⟩
      · exact ⟨Nat.le_of_ble_eq_true rfl, ⟨0, ⟨b, b.length⟩, x, rfl, rfl, rfl, hbx, .inl rfl, fun h => absurd h (by decide)⟩⟩
  · rw [show ((3 : Nat) : Int) = 3 from rfl, (fuse_3 hb hc).2] at hok
    rw [show ((3 : Nat) : Int) = 3 from rfl, (fuse_3 hb hc).1, (fuse_3 hb hc).2]
    refine ⟨hok, rfl, fun g hg => ?_, fun J hJ => ?_⟩
    · rcases mem_two hg with rfl | rfl
      · show b.length ≤ 12; omega
      · show c.length ≤ 12; omega
    · have hJ : J ≤ 1 := hJ
      rcases (show J = 0 ∨ J = 1 by omega) with rfl | rfl
      · exact ⟨Nat.le_of_ble_eq_true rfl, ⟨0, ⟨b, b.length⟩, x, rfl, rfl, rfl, hbx, .inl rfl, fun h => absurd h (by decide)⟩⟩
      · exact ⟨Nat.le_of_ble_eq_true rfl, ⟨0, ⟨b, b.length⟩, x, rfl, rfl, rfl, hbx, .inl rfl, fun h => absurd h (by decide)⟩⟩
  · rw [show ((4 : Nat) : Int) = 4 from rfl, (fuse_4 hb hc).2] at hok
    rw [show ((4 : Nat) : Int) = 4 from rfl, (fuse_4 hb hc).1, (fuse_4 hb hc).2]
    refine ⟨hok, rfl, fun g hg => ?_, fun J hJ => ?_⟩
    · rcases mem_two hg with rfl | rfl
      · show b.length ≤ 12; omega
      · show c.length ≤ 12; omega
    · have hJ : J ≤ 2 := hJ
      rcases (show J = 0 ∨ J = 1 ∨ J = 2 by omega) with rfl | rfl | rfl
      · exact ⟨Nat.le_of_ble_eq_true rfl, ⟨0, ⟨b, b.length⟩, x, rfl, rfl, rfl, hbx, .inl rfl, fun h => absurd h (by decide)⟩⟩
      · exact ⟨Nat.le_of_ble_eq_true rfl, ⟨0, ⟨b, b.length⟩, x, rfl, rfl, rfl, hbx, .inl rfl, fun h => absurd h (by decide)⟩⟩
      · exact ⟨Nat.le_of_ble_eq_true rfl, ⟨1, ⟨c, c.length⟩, y, rfl, rfl, rfl, hcy, .inr rfl, fun _ => rfl⟩⟩
  · rw [show ((5 : Nat) : Int) = 5 from rfl, (fuse_5 hb hc).2] at hok
    rw [show ((5 : Nat) : Int) = 5 from rfl, (fuse_5 hb hc).1, (fuse_5 hb hc).2]
    refine ⟨hok, rfl, fun g hg => ?_, fun J hJ => ?_⟩
    · rcases mem_two hg with rfl | rfl
      · show b.length ≤ 12; omega
      · show c.length ≤ 12; omega
    · obtain rfl : J = 0 := Nat.le_zero.1 hJ
      exact ⟨Nat.le_of_ble_eq_true rfl, ⟨1, ⟨c, c.length⟩, y, rfl, rfl, rfl, hcy, .inr rfl, fun _ => rfl⟩⟩
  · rw [show ((6 : Nat) : Int) = 6 from rfl, (fuse_6 hb hc).2] at hok
    rw [show ((6 : Nat) : Int) = 6 from rfl, (fuse_6 hb hc).1, (fuse_6 hb hc).2]
    refine ⟨hok, rfl, fun g hg => ?_, fun J hJ => ?_⟩
    · rcases mem_two hg with rfl | rfl
      · show b.length ≤ 12; omega
      · show c.length ≤ 12; omega
    · obtain rfl : J = 0 := Nat.le_zero.1 hJ
      exact ⟨Nat.le_of_ble_eq_true rfl, ⟨1, ⟨c, c.length⟩, y, rfl, rfl, rfl, hcy, .inr rfl, fun _ => rfl⟩⟩
  · rw [show ((7 : Nat) : Int) = 7 from rfl, (fuse_7 hb hc).2] at hok
    rw [show ((7 : Nat) : Int) = 7 from rfl, (fuse_7 hb hc).1, (fuse_7 hb hc).2]
    refine ⟨hok, rfl, fun g hg => ?_, fun J hJ => ?_⟩
    · rcases mem_two hg with rfl | rfl
      · show b.length ≤ 12; omega
      · show c.length ≤ 12; omega
    · obtain rfl : J = 0 := Nat.le_zero.1 hJ
      exact ⟨Nat.le_of_ble_eq_true rfl, ⟨1, ⟨c, c.length⟩, y, rfl, rfl, rfl, hcy, .inr rfl, fun _ => rfl⟩⟩
  · rw [show ((8 : Nat) : Int) = 8 from rfl, (fuse_8 hb hc).2] at hok
    rw [show ((8 : Nat) : Int) = 8 from rfl, (fuse_8 hb hc).1, (fuse_8 hb hc).2]
    refine ⟨hok, rfl, fun g hg => ?_, fun J hJ => ?_⟩
    · rcases mem_two hg with rfl | rfl
      · show b.length ≤ 12; omega
      · show c.length ≤ 12; omega
    · obtain rfl : J = 0 := Nat.le_zero.1 hJ
      exact ⟨Nat.le_of_ble_eq_true rfl, ⟨1, ⟨c, c.length⟩, y, rfl, rfl, rfl, hcy, .inr rfl, fun _ => rfl⟩⟩
end Go.Proofs.Herb
