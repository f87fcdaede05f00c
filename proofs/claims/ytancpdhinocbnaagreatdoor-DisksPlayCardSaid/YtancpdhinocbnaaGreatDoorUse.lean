/- How many bytes a disk's names lead to: plain lemmas. No condition. -/
import Derived.Test.YtancpdhinocbnaaGreatDoorDst
namespace Go.Proofs.Herb
open Go.RowKit Go.Sort
def lenF (fs : List DF) (i : Nat) : Nat := (fs[i]?.map (·.b.length)).getD 0
def usedD (fs : List DF) (d : Dir) : Nat := (d.map fun e => lenF fs e.2.1).sum
def lookLen (fs : List DF) (d : Dir) (k : ByteArray) : Nat := match look d k with
  | some i => lenF fs i
  | none => 0
theorem usedN_eq (s : DS) : usedN s = usedD s.files s.names := rfl
theorem usedD_cons (fs : List DF) (e : ByteArray × Nat × Nat) (d : Dir) : usedD fs (e :: d) = lenF fs e.2.1 + usedD fs d := by simp [usedD]
theorem lookLen_cons (fs : List DF) (e : ByteArray × Nat × Nat) (d : Dir) (k : ByteArray) : lookLen fs (e :: d) k = if e.1 = k then lenF fs e.2.1 else lookLen fs d k := by
  unfold lookLen
  rw [look_cons]
  by_cases h : e.1 = k
  · rw [if_pos h, if_pos h]
  · rw [if_neg h, if_neg h]
theorem used_del (fs : List DF) (k : ByteArray) : ∀ d : Dir, usedD fs (dirDel d k) + lookLen fs d k = usedD fs d
  | [] => rfl
  | e :: d => by
    have ih := used_del fs k d
    rw [dirDel_cons, lookLen_cons, usedD_cons]
    by_cases h : e.1 = k
    · rw [if_pos h, if_pos h]; omega
    · rw [if_neg h, if_neg h, usedD_cons]; omega
theorem used_set (fs : List DF) (c : Nat) (k : ByteArray) (v : Nat) : ∀ d : Dir, usedD fs (dirSet d c k v) + lookLen fs d k = usedD fs d + lenF fs v
  | [] => by simp [dirSet_nil, usedD, lookLen, look_nil]
  | e :: d => by
    have ih := used_set fs c k v d
    rw [dirSet_cons, lookLen_cons, usedD_cons]
    by_cases h : e.1 = k
    · rw [if_pos h, if_pos h, usedD_cons]; dsimp only; omega
    · rw [if_neg h, if_neg h, usedD_cons]; omega
theorem used_congr {fs fs' : List DF} : ∀ {d : Dir}, (∀ e ∈ d, lenF fs' e.2.1 = lenF fs e.2.1) → usedD fs' d = usedD fs d
  | [], _ => rfl
  | e :: d, h => by
    rw [usedD_cons, usedD_cons, h e (List.mem_cons_self ..), used_congr fun e he => h e (List.mem_cons_of_mem _ he)]
theorem lenF_modify (fs : List DF) (i j : Nat) (f : DF → DF) : lenF (fs.modify i f) j = if i = j then ((fs[j]?.map fun x => (f x).b.length).getD 0) else lenF fs j := by
  unfold lenF
  rw [List.getElem?_modify]
  cases fs[j]? with
  | none => split <;> rfl
  | some y =>
    simp only [Option.map_eq_map, Option.map_some, Option.getD_some]
    by_cases h : i = j
    · rw [if_pos h, if_pos h]
    · rw [if_neg h, if_neg h]
theorem used_one {fs fs' : List DF} {k : ByteArray} {i : Nat} : ∀ {d : Dir}, (d.map (·.1)).Nodup → look d k = some i → (∀ e ∈ d, e.1 ≠ k → lenF fs' e.2.1 = lenF fs e.2.1) → usedD fs' d + lenF fs i = usedD fs d + lenF fs' i
  | [], _, h, _ => by cases h
  | e :: d, hk, h, ho => by
    simp only [List.map_cons, List.nodup_cons, List.mem_map, not_exists, not_and] at hk
    rw [look_cons] at h
    rw [usedD_cons, usedD_cons]
    by_cases he : e.1 = k
    · rw [if_pos he] at h
      cases h
      have : usedD fs' d = usedD fs d := used_congr fun x hx => ho x (List.mem_cons_of_mem _ hx) fun hxk => hk.1 x hx (hxk.trans he.symm)
      omega
    · rw [if_neg he] at h
      have := used_one hk.2 h (fun x hx => ho x (List.mem_cons_of_mem _ hx))
      have := ho e (List.mem_cons_self ..) he
      omega
theorem lookLen_some {fs : List DF} {d : Dir} {k : ByteArray} {i : Nat} (h : look d k = some i) : lookLen fs d k = lenF fs i := by unfold lookLen; rw [h]
theorem lookLen_none {fs : List DF} {d : Dir} {k : ByteArray} (h : look d k = none) : lookLen fs d k = 0 := by unfold lookLen; rw [h]
theorem lookLen_del {fs : List DF} {d : Dir} (hk : (d.map (·.1)).Nodup) (k q : ByteArray) : lookLen fs (dirDel d k) q = if q = k then 0 else lookLen fs d q := by
  unfold lookLen
  rw [look_dirDel hk]
  by_cases h : q = k
  · rw [if_pos h, if_pos h]
  · rw [if_neg h, if_neg h]
/-! each call's bytes -/
theorem lets_used (s : DS) : usedN (letsS s) = usedN s := by
  obtain ⟨l1, l2, _⟩ := lets_files s
  rw [usedN_eq, usedN_eq, l1, l2]
theorem known_seven {s : DS} {k : ByteArray} (h : knownE s k = 7) : s.dead = false ∧ mayB k = true ∧ look s.names k = none := by
  unfold knownE at h
  split at h
  · cases h
  · rename_i hd
    unfold foundE at h
    split at h
    · rename_i hm
      split at h
      · cases h
      · rename_i hs
        exact ⟨by simpa using hd, hm, by simpa using hs⟩
    · cases h
theorem turn_used {s : DS} {n : Nat} (h : DsOk s n) {fs : List DF} (x : DC) (hne : x.name ≠ x.gone) :
    usedD fs (turnDir s.names s.nclock x) + lookLen fs s.names x.gone + lookLen fs s.names x.name = usedD fs s.names + (if x.file < 0 then 0 else lenF fs x.file.toNat) := by
  have hg := h.good
  rw [(turnDir_eq hg x).1]
  have h1 := used_del fs x.gone s.names
  have h4 := lookLen_del (fs := fs) hg.keys x.gone x.name
  rw [if_neg hne] at h4
  by_cases hf : x.file < 0
  · rw [if_pos hf, if_pos hf]
    have h2 := used_del fs x.name (dirDel s.names x.gone)
    omega
  · rw [if_neg hf, if_neg hf]
    have h3 := used_set fs s.nclock x.name x.file.toNat (dirDel s.names x.gone)
    omega
theorem create_used {s : DS} {n : Nat} (h : DsOk s n) (k : ByteArray) : usedN (createS s k) = usedN s := by
  unfold createS
  split
  · rfl
  · split
    · exact lets_used s
    · rename_i h1 _
      have h2 : knownE s k = 7 := Classical.byContradiction fun h3 => h1 (.inl h3)
      obtain ⟨_, hm, hn⟩ := known_seven h2
      obtain ⟨l1, l2, l3, _⟩ := lets_files s
      have hfo : usedD (s.files ++ [⟨[], 0⟩]) s.names = usedD s.files s.names := used_congr fun e he => by
        have := h.good.file e he
        unfold lenF
        rw [List.getElem?_append_left this]
      have ht := turn_used h (fs := s.files ++ [⟨[], 0⟩]) ⟨k, (s.files.length : Int), ⟨#[]⟩⟩ (may_ne hm)
      have hz : look s.names ⟨#[]⟩ = none := by
        cases hl : look s.names ⟨#[]⟩ with
        | none => rfl
        | some v =>
          obtain ⟨e, he, hk, _⟩ := look_mem' hl
          exact absurd hk (may_ne (h.good.may e he))
      dsimp only at ht
      rw [lookLen_none hz, lookLen_none hn, if_neg (by omega), hfo] at ht
      have hlast : lenF (s.files ++ [⟨[], 0⟩]) (Int.toNat (s.files.length : Int)) = 0 := by simp [lenF]
      rw [hlast] at ht
      show usedD (s.files ++ [⟨[], 0⟩]) (turnDir (letsS s).names (letsS s).nclock ⟨k, (s.files.length : Int), ⟨#[]⟩⟩) = _
      rw [l2, l3, usedN_eq]
      omega
theorem append_used {s : DS} {n : Nat} (h : DsOk s n) (k : ByteArray) (b : List UInt8) : usedN (appendS s k b) = if appendE s k b = 0 then usedN s + b.length else usedN s := by
  have hE : appendE s k b = if knownE s k ≠ 0 then knownE s k else if s.room - (usedN s : Int) < (b.length : Int) then 9 else letsE s := rfl
  have hS : appendS s k b = if knownE s k ≠ 0 ∨ s.room - (usedN s : Int) < (b.length : Int) then s else if letsE s ≠ 0 then letsS s else { letsS s with files := s.files.modify ((look s.names k).getD 0) fun f => ⟨f.b ++ b, f.sure⟩ } := rfl
  by_cases h1 : knownE s k = 0
  · rw [if_neg (fun h => h h1)] at hE
    by_cases h2 : s.room - (usedN s : Int) < (b.length : Int)
    · rw [if_pos h2] at hE
      rw [if_pos (.inr h2)] at hS
      rw [hE, hS, if_neg (by decide)]
    · rw [if_neg h2] at hE
      rw [if_neg (fun h => by rcases h with h | h; exact h h1; exact h2 h)] at hS
      by_cases h3 : letsE s = 0
      · rw [if_neg (fun h => h h3)] at hS
        rw [hE, if_pos h3, hS]
        obtain ⟨_, _, hs⟩ := knownE_zero h1
        obtain ⟨i, hi⟩ := Option.isSome_iff_exists.1 hs
        obtain ⟨l1, l2, _⟩ := lets_files s
        rw [usedN_eq, usedN_eq, hi, Option.getD_some]
        dsimp only
        rw [l2]
        have hu := used_one (fs := s.files) (fs' := s.files.modify i fun f => ⟨f.b ++ b, f.sure⟩) h.good.keys hi (fun e he hek => by
          rw [lenF_modify, if_neg]
          rintro rfl
          obtain ⟨e', he', hk', hv'⟩ := look_mem' hi
          exact hek ((h.good.inj e he e' he' hv'.symm).trans hk'))
        rw [lenF_modify, if_pos rfl] at hu
        obtain ⟨e', he', hk', hv'⟩ := look_mem' hi
        have hlt := h.good.file e' he'
        rw [hv'] at hlt
        have e1 : s.files[i]? = some s.files[i] := List.getElem?_eq_getElem hlt
        unfold lenF at hu
        rw [e1] at hu
        simp only [Option.map_some, Option.getD_some, List.length_append] at hu
        omega
      · rw [if_pos h3] at hS
        rw [hE, if_neg h3, hS]
        exact lets_used s
  · rw [if_pos h1] at hE
    rw [if_pos (.inl h1)] at hS
    rw [hE, if_neg h1, hS]
theorem sync_used {s : DS} (k : ByteArray) : usedN (syncS s k) = usedN s := by
  unfold syncS
  split
  · rfl
  · split
    · exact lets_used s
    · obtain ⟨l1, l2, _⟩ := lets_files s
      rw [usedN_eq, usedN_eq]
      dsimp only
      rw [l2]
      refine used_congr fun e _ => ?_
      rw [lenF_modify]
      split
      · unfold lenF; cases s.files[e.2.1]? <;> rfl
      · rfl
theorem remove_used {s : DS} {n : Nat} (h : DsOk s n) (k : ByteArray) : usedN (removeS s k) ≤ usedN s := by
  unfold removeS
  split
  · exact Nat.le_refl _
  · split
    · rw [lets_used]; exact Nat.le_refl _
    · rename_i h1 _
      obtain ⟨l1, l2, l3, _⟩ := lets_files s
      obtain ⟨_, hm, _⟩ := knownE_zero (Classical.byContradiction fun h3 => h1 h3)
      have ht := turn_used h (fs := s.files) ⟨k, -1, ⟨#[]⟩⟩ (may_ne hm)
      dsimp only at ht
      rw [if_pos (by decide)] at ht
      show usedD (letsS s).files (turnDir (letsS s).names (letsS s).nclock ⟨k, -1, ⟨#[]⟩⟩) ≤ usedN s
      rw [l1, l2, l3, usedN_eq]
      omega
theorem rename_used {s : DS} {n : Nat} (h : DsOk s n) (f t : ByteArray) : usedN (renameS s f t) ≤ usedN s := by
  unfold renameS
  split
  · exact Nat.le_refl _
  · split
    · rw [lets_used]; exact Nat.le_refl _
    · split
      · rw [lets_used]; exact Nat.le_refl _
      · rename_i h1 _ hft
        obtain ⟨l1, l2, l3, _⟩ := lets_files s
        obtain ⟨hk0, hm⟩ := renE_zero (Classical.byContradiction fun h3 => h1 h3)
        obtain ⟨_, _, hs⟩ := knownE_zero hk0
        obtain ⟨i, hi⟩ := Option.isSome_iff_exists.1 hs
        rw [hi, Option.getD_some]
        have ht := turn_used h (fs := s.files) ⟨t, (i : Int), f⟩ (fun e => hft e.symm)
        dsimp only at ht
        rw [if_neg (by omega), lookLen_some hi, Int.toNat_natCast] at ht
        show usedD (letsS s).files (turnDir (letsS s).names (letsS s).nclock ⟨t, (i : Int), f⟩) ≤ usedN s
        rw [l1, l2, l3, usedN_eq]
        omega
theorem syncDir_used (s : DS) : usedN (syncDirT s) = usedN s := by
  unfold syncDirT
  split
  · rfl
  · split
    · exact lets_used s
    · exact lets_used s
end Go.Proofs.Herb
