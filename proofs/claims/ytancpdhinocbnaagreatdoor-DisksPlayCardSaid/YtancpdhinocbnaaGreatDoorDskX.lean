/- The contracts of the disk's found, known, New and the directory's turns. For a disk as DiskAt says. -/
import Derived.Test.YtancpdhinocbnaaGreatDoorDskW
import Derived.Test.YtancpdhinocbnaaGreatDoorAppAt
namespace Go.Proofs.Herb
open Go.RowKit
/-- what a name leads to, of a disk that is there -/
def foundE (s : DS) (k : ByteArray) : Int := if mayB k then (if (look s.names k).isSome then 0 else 7) else 1
def foundN (s : DS) (k : ByteArray) : Int := if mayB k then (((look s.names k).getD 0 : Nat) : Int) else 0
def knownE (s : DS) (k : ByteArray) : Int := if s.dead then 10 else foundE s k
def knownN (s : DS) (k : ByteArray) : Int := if s.dead then 0 else foundN s k
theorem look_none_getD {s : DS} {k : ByteArray} (h : (look s.names k).isSome = false) : (look s.names k).getD 0 = 0 := by
  cases e : look s.names k with
  | none => rfl
  | some i => rw [e] at h; cases h
set_option maxHeartbeats 800000 in
theorem found_any (m : DM) (s : DS) (k : ByteArray) (hk : k.size ≤ maxLen) (w : World) (h : DiskAt w m s) :
    Calls Tryz.prog 68 #[.pointer (some ⟨m.D, 0, none⟩), .string k] w fun e w' => e = .returned (.tuple #[.int .i64 (foundN s k), .int .i64 (foundE s k)]) ∧ w = w' := by
  obtain ⟨_, _, _, _, c4, _, _⟩ := h.cells
  have H := hid h
  have hlk := fun ok => run_lookup w m.M s.names s.nclock k ok h.names
  clear h
  cases hm : mayB k
  · have Hm := hid hm
    go_enter Tryz.func68, Tryz.ntmps68
    go_wp2_with (first | (go_at_call 27; refine (there_any m s w H.out).mono ?_; rintro e w1 ⟨rfl, rfl⟩) | (go_at_call 80; refine (may_any k hk w).mono ?_; rintro e w1 ⟨rfl, rfl⟩; rw [Hm.out]))
    go_ret2
    exact ⟨by unfold foundN foundE; rw [Hm.out]; rfl, rfl⟩
  · have Hm := hid hm
    clear hm
    cases hl : (look s.names k).isSome
    · have Hl := hid hl
      rw [hl, look_none_getD hl] at hlk
      clear hl
      go_enter Tryz.func68, Tryz.ntmps68
      go_wp2_with (first | (go_at_call 27; refine (there_any m s w H.out).mono ?_; rintro e w1 ⟨rfl, rfl⟩) | (go_at_call 80; refine (may_any k hk w).mono ?_; rintro e w1 ⟨rfl, rfl⟩; rw [Hm.out]))
      go_ret2
      exact ⟨by unfold foundN foundE; rw [Hm.out, Hl.out, look_none_getD Hl.out]; rfl, rfl⟩
    · have Hl := hid hl
      rw [hl] at hlk
      clear hl
      go_enter Tryz.func68, Tryz.ntmps68
      go_wp2_with (first | (go_at_call 27; refine (there_any m s w H.out).mono ?_; rintro e w1 ⟨rfl, rfl⟩) | (go_at_call 80; refine (may_any k hk w).mono ?_; rintro e w1 ⟨rfl, rfl⟩; rw [Hm.out]))
      go_ret2
      exact ⟨by unfold foundN foundE; rw [Hm.out, Hl.out]; rfl, rfl⟩
set_option maxHeartbeats 800000 in
theorem known_any (m : DM) (s : DS) (k : ByteArray) (hk : k.size ≤ maxLen) (w : World) (h : DiskAt w m s) :
    Calls Tryz.prog 46 #[.pointer (some ⟨m.D, 0, none⟩), .string k] w fun e w' => e = .returned (.tuple #[.int .i64 (knownN s k), .int .i64 (knownE s k)]) ∧ w = w' := by
  have H := hid h
  clear h
  cases hd : s.dead
  all_goals
    have Hd := hid hd
    have ha : aliveE s = if s.dead then 10 else 0 := rfl
    rw [hd] at ha
    clear hd
    go_enter Tryz.func46, Tryz.ntmps46
    go_wp2_with (first | (go_at_call 67; refine (alive_any m s w H.out).mono ?_; rintro e w1 ⟨rfl, rfl⟩; rw [ha]) | (go_at_call 68; refine (found_any m s k hk w H.out).mono ?_; rintro e w1 ⟨rfl, rfl⟩))
    go_ret2
    exact ⟨by unfold knownN knownE; rw [Hd.out]; rfl, rfl⟩
/-- a nil disk -/
theorem there_nil (w : World) : Calls Tryz.prog 27 #[.pointer none] w fun e w' => e = .returned (.bool false) ∧ w = w' := by
  go_enter Tryz.func27, Tryz.ntmps27
  go_wp2
  go_ret
  exact ⟨rfl, rfl⟩
theorem alive_nil (w : World) : Calls Tryz.prog 67 #[.pointer none] w fun e w' => e = .returned (.int .i64 2) ∧ w = w' := by
  go_enter Tryz.func67, Tryz.ntmps67
  go_wp2_with (go_at_call 27; refine (there_nil w).mono ?_; rintro e w1 ⟨rfl, rfl⟩)
  go_ret
  exact ⟨rfl, rfl⟩
theorem known_nil (k : ByteArray) (w : World) : Calls Tryz.prog 46 #[.pointer none, .string k] w fun e w' => e = .returned (.tuple #[.int .i64 0, .int .i64 2]) ∧ w = w' := by
  go_enter Tryz.func46, Tryz.ntmps46
  go_wp2_with (go_at_call 67; refine (alive_nil w).mono ?_; rintro e w1 ⟨rfl, rfl⟩)
  go_ret2
  exact ⟨rfl, rfl⟩
/-- a new disk -/
def newS (room : Int) : DS := ⟨room, -1, false, [], [], 0, [], 0, []⟩
def newM (n : Nat) : DM := ⟨n + 2, n, n + 1, .slice none 0 0, .slice none 0 0, []⟩
theorem new_at {w : World} {o : Obj} {n : Nat} (h : w.heap.size = n) : (w.alloc o).heap[n]? = some o := by subst h; exact heap_alloc_new _ _
set_option maxHeartbeats 800000 in
theorem new_any (room : Int) (h0 : 0 ≤ room) (h1 : room ≤ 4194304) (w : World) :
    Calls Tryz.prog 4 #[.int .i64 room] w fun e w' => e = .returned (.tuple #[.pointer (some ⟨(newM w.heap.size).D, 0, none⟩), .int .i64 0]) ∧ DiskAt w' (newM w.heap.size) (newS room) ∧ Below w.heap.size w w' := by
  have b1 : decide (room < 0) = false := by simpa using h0
  have b2 : decide (4194304 < room) = false := by simpa using h1
  have hmm := @run_makeMap Tryz.prog
  go_enter Tryz.func4, Tryz.ntmps4
  go_wp2
  go_ret2
  refine ⟨rfl, ⟨?_, ?_, ?_, World.ownsRow_nil _ _ _ _, rfl, (fun i v f h => by cases h), World.ownsRow_nil _ _ _ _, ?_⟩, ?_⟩
  · exact new_at (by simp [newM])
  · exact (heap_alloc_old _ _ (by simp [newM]; omega)).trans ((heap_alloc_old _ _ (by simp [newM])).trans (heap_alloc_new _ _))
  · exact (heap_alloc_old _ _ (by simp [newM])).trans (new_at (by simp [newM]))
  · simp [newM, DM.fp, Value.ownBlock]
  · exact (((Below.refl _ _).alloc (Nat.le_refl _) _).alloc (by simp) _).alloc (by simp; omega) _
theorem new_no (room : Int) (h0 : room < 0 ∨ 4194304 < room) (w : World) :
    Calls Tryz.prog 4 #[.int .i64 room] w fun e w' => e = .returned (.tuple #[.pointer none, .int .i64 1]) ∧ w = w' := by
  have hb : ((decide (room < 0) = true) ∨ (decide (room < 0) = false ∧ decide (4194304 < room) = true)) := by
    rcases h0 with h | h
    · exact .inl (by simpa using h)
    · by_cases g : room < 0
      · exact .inl (by simpa using g)
      · exact .inr ⟨by simpa using g, by simpa using h⟩
  clear h0
  rcases hb with b | ⟨b, b'⟩
  all_goals
    go_enter Tryz.func4, Tryz.ntmps4
    go_wp2
    go_ret2
    exact ⟨rfl, rfl⟩
theorem toList_ne {k : ByteArray} (h : k ≠ ⟨#[]⟩) : k.toList.isEmpty = false := by
  rw [ByteArray.toList_eq]
  obtain ⟨⟨l⟩⟩ := k
  cases l with
  | nil => exact absurd rfl h
  | cons x l => rfl
def turnDir (d : Dir) (c : Nat) (x : DC) : Dir :=
  if x.file < 0 then dirDel (if x.gone ≠ ⟨#[]⟩ then dirDel d x.gone else d) x.name else dirSet (if x.gone ≠ ⟨#[]⟩ then dirDel d x.gone else d) c x.name x.file.toNat
def turnClk (d : Dir) (c : Nat) (x : DC) : Nat :=
  if x.file < 0 then c else clkSet (if x.gone ≠ ⟨#[]⟩ then dirDel d x.gone else d) c x.name
structure OneMap (w w' : World) (M : Nat) (d : Dir) (c : Nat) : Prop where
  at_ : w'.heap[M]? = some (.map (encDir d) c)
  other : ∀ k, k < w.heap.size → k ≠ M → w'.heap[k]? = w.heap[k]?
  size : w.heap.size ≤ w'.heap.size
  os : w'.os = w.os
  tape : w'.tape = w.tape
  output : w'.output = w.output
theorem OneMap.of_set {w : World} {M : Nat} {es : Array MapEntry} {c0 : Nat} (h : w.heap[M]? = some (.map es c0)) (d : Dir) (c : Nat) : OneMap w (setMap w M d c) M d c :=
  ⟨setMap_at (lt_of_block h) d c, fun k _ hk => setMap_other w M k hk d c, by rw [setMap_size]; exact Nat.le_refl _, rfl, rfl, rfl⟩
theorem OneMap.trans {w w1 w2 : World} {M : Nat} {d d' : Dir} {c c' : Nat} (h : OneMap w w1 M d c) (k : OneMap w1 w2 M d' c') : OneMap w w2 M d' c' :=
  ⟨k.at_, fun i hi hn => (k.other i (by have := h.size; omega) hn).trans (h.other i hi hn), Nat.le_trans h.size k.size, k.os.trans h.os, k.tape.trans h.tape, k.output.trans h.output⟩
theorem OneMap.front {w w1 : World} {M : Nat} {d : Dir} {c : Nat} {o : Obj} (h : OneMap (w.alloc o) w1 M d c) : OneMap w w1 M d c :=
  ⟨h.at_, fun i hi hn => (h.other i (by simp; omega) hn).trans (heap_alloc_old w o hi), by have := h.size; simp at this; omega, h.os, h.tape, h.output⟩
theorem del1 {ops : Array Oper} {rest : List Oper} {o : Oper} {a : Act} {w : World} {Q : Exit → Act → World → Prop} (hgd : o.guard = none) (hdst : o.dst = none) (s x : Operand) (ho : o.op = .call { callee := .builtin .delete, args := #[s, x], argTypes := #[47, 9] })
    (M : Nat) (d : Dir) (c : Nat) (k : ByteArray) (hs : a.eval s = .map (some M)) (hx : a.eval x = .string k) (h : w.heap[M]? = some (.map (encDir d) c))
    (hK : ∀ w', OneMap w w' M (dirDel d k) c → w'.heap.size = w.heap.size → wpList Tryz.prog ops Q rest a w') : wpList Tryz.prog ops Q (o :: rest) a w :=
  wpList_delete_dir hgd hdst s x ho M d c k hs hx h (hK _ (OneMap.of_set h _ _) (setMap_size _ _ _ _))
theorem upd1 {ops : Array Oper} {rest : List Oper} {o : Oper} {a : Act} {w : World} {Q : Exit → Act → World → Prop} (hgd : o.guard = none) (hdst : o.dst = none) (s x v : Operand) (ho : o.op = .mapUpdate 47 s x v)
    (M : Nat) (d : Dir) (c : Nat) (k : ByteArray) (f : Nat) (hs : a.eval s = .map (some M)) (hx : a.eval x = .string k) (hv : a.eval v = .int .i64 (f : Int)) (h : w.heap[M]? = some (.map (encDir d) c))
    (hK : ∀ w', OneMap w w' M (dirSet d c k f) (clkSet d c k) → w'.heap.size = w.heap.size → wpList Tryz.prog ops Q rest a w') : wpList Tryz.prog ops Q (o :: rest) a w := by
  refine wpList_plain hgd fun K hK' => ?_
  have hrun := run_update w M d c k f h
  unfold Oper.wp
  simp [execOp, ho, hs, hx, hv, hrun, Result.andThen]
  rw [Oper.upon_skip, hdst]; exact hK' _ _ (hK _ (OneMap.of_set h _ _) (setMap_size _ _ _ _))
set_option maxRecDepth 100000 in
set_option maxHeartbeats 800000 in
theorem turnDir_any (M : Nat) (d : Dir) (c : Nat) (x : DC) (w : World) (h : w.heap[M]? = some (.map (encDir d) c)) :
    Calls Tryz.prog 33 #[.map (some M), .agg #[.string x.name, .int .i64 x.file, .string x.gone]] w fun e w' => e = .returned (.tuple #[]) ∧ OneMap w w' M (turnDir d c x) (turnClk d c x) := by
  have hlt := lt_of_block h
  obtain ⟨nm, fi, go⟩ := x
  have H := hid h
  clear h
  by_cases hg : go = ⟨#[]⟩
  · by_cases hf : fi < 0
    · have b1 : decide (fi < 0) = true := by simpa using hf
      have Hf := hid hf
      have Hg := hid hg
      clear hf
      go_enter Tryz.func33, Tryz.ntmps33
      go_wp2_with (refine del1 rfl rfl _ _ rfl M d c nm rfl rfl ((heap_alloc_old w _ hlt).trans H.out) ?_; intro w1 O1 z1)
      refine bodyPost_ret (results_none rfl _ _ _) rfl ⟨rfl, ?_⟩
      rw [turnDir, turnClk, if_pos Hf.out, if_pos Hf.out, if_neg (fun h => h Hg.out)]
      exact O1.front
    · obtain ⟨f, rfl⟩ : ∃ f : Nat, fi = (f : Int) := ⟨fi.toNat, by omega⟩
      have Hg := hid hg
      clear hf
      go_enter Tryz.func33, Tryz.ntmps33
      go_wp2_with (refine upd1 rfl rfl _ _ _ rfl M d c nm f rfl rfl rfl ((heap_alloc_old w _ hlt).trans H.out) ?_; intro w1 O1 z1)
      refine bodyPost_end (results_none rfl _ _ _) rfl ⟨rfl, ?_⟩
      have hn : ¬ ((f : Int) < 0) := by omega
      dsimp only [turnDir, turnClk]
      rw [if_neg hn, if_neg hn, if_neg (fun h => h Hg.out)]
      exact O1.front
  · have b0 : go.toList.isEmpty = false := toList_ne hg
    have Hg := hid hg
    clear hg
    by_cases hf : fi < 0
    · have b1 : decide (fi < 0) = true := by simpa using hf
      have Hf := hid hf
      clear hf
      go_enter Tryz.func33, Tryz.ntmps33
      go_wp2_with (first
        | (refine del1 rfl rfl (.tmp 7) (.tmp 9) rfl M d c go rfl rfl ((heap_alloc_old w _ hlt).trans H.out) ?_; intro w1 O1 z1; have r1 := cell_of_row w1 w.heap.size 0 _ _ _ ((O1.other _ (by simp) (by omega)).trans (heap_alloc_new _ _)); have r2 := cell_of_row w1 w.heap.size 1 _ _ _ ((O1.other _ (by simp) (by omega)).trans (heap_alloc_new _ _)); have O1 := hid O1)
        | (refine del1 rfl rfl (.tmp 13) (.tmp 15) rfl M _ c nm rfl rfl O1.out.at_ ?_; intro w2 O2 z2))
      refine bodyPost_ret (results_none rfl _ _ _) rfl ⟨rfl, ?_⟩
      rw [turnDir, turnClk, if_pos Hf.out, if_pos Hf.out, if_pos Hg.out]
      exact (O1.out.trans O2).front
    · obtain ⟨f, rfl⟩ : ∃ f : Nat, fi = (f : Int) := ⟨fi.toNat, by omega⟩
      clear hf
      go_enter Tryz.func33, Tryz.ntmps33
      go_wp2_with (first
        | (refine del1 rfl rfl (.tmp 7) (.tmp 9) rfl M d c go rfl rfl ((heap_alloc_old w _ hlt).trans H.out) ?_; intro w1 O1 z1; have r1 := cell_of_row w1 w.heap.size 0 _ _ _ ((O1.other _ (by simp) (by omega)).trans (heap_alloc_new _ _)); have r2 := cell_of_row w1 w.heap.size 1 _ _ _ ((O1.other _ (by simp) (by omega)).trans (heap_alloc_new _ _)); have O1 := hid O1)
        | (refine upd1 rfl rfl (.tmp 16) (.tmp 18) (.tmp 20) rfl M _ c nm f rfl rfl rfl O1.out.at_ ?_; intro w2 O2 z2))
      refine bodyPost_end (results_none rfl _ _ _) rfl ⟨rfl, ?_⟩
      have hn : ¬ ((f : Int) < 0) := by omega
      dsimp only [turnDir, turnClk]
      rw [if_neg hn, if_neg hn, if_pos Hg.out]
      exact (O1.out.trans O2).front
end Go.Proofs.Herb
