/- What a disk's states keep, and what a crash leaves: plain lemmas on directories and files. No condition. What a call turned, of a disk that is new: plain. No condition. The contracts of the disk's SetRoom, Fuse, Remove, Rename, SyncDir and Loose. For a disk as DiskAt says. -/
import Derived.Test.YtbeaehhdglhihaaGreatDoorQd27
import Derived.Test.YtbeaehhdglhihaaGreatDoorQd29
namespace Go.Proofs.Herb
open Go.RowKit Go.Sort
/-! directories -/
structure DirGood (d : Dir) (c F n : Nat) : Prop where
  born : ∀ e ∈ d, e.2.2 < c
  once : (d.map (·.2.2)).Nodup
  keys : (d.map (·.1)).Nodup
  may : ∀ e ∈ d, mayB e.1 = true
  file : ∀ e ∈ d, e.2.1 < F
  inj : ∀ e ∈ d, ∀ e' ∈ d, e.2.1 = e'.2.1 → e.1 = e'.1
  many : d.length ≤ n
theorem may_size {k : ByteArray} (h : mayB k = true) : 1 ≤ k.size ∧ k.size ≤ 24 := by
  unfold mayB at h
  rw [Bool.and_eq_true, decide_eq_true_iff, decide_eq_true_iff] at h
  exact h
theorem may_ne {k : ByteArray} (h : mayB k = true) : k ≠ ⟨#[]⟩ := by
  rintro rfl
  exact absurd h (by decide)
theorem DirGood.ok {d : Dir} {c F n : Nat} (h : DirGood d c F n) : DirOk d c F := ⟨h.born, h.once, h.file⟩
theorem DirGood.keysOk {d : Dir} {c F n : Nat} (h : DirGood d c F n) (hF : F ≤ 1000000000) (hn : n ≤ 1000000000) : DirKeys d c :=
  ⟨h.born, h.once, h.keys, fun e he => (may_size (h.may e he)).2, fun e he => by have := h.file e he; omega, by have := h.many; omega⟩
theorem DirGood.mono {d : Dir} {c F n F' n' : Nat} (h : DirGood d c F n) (hF : F ≤ F') (hn : n ≤ n') : DirGood d c F' n' :=
  ⟨h.born, h.once, h.keys, h.may, fun e he => Nat.lt_of_lt_of_le (h.file e he) hF, h.inj, Nat.le_trans h.many hn⟩
theorem DirGood.nil (F n : Nat) : DirGood [] 0 F n := ⟨by simp, by simp, by simp, by simp, by simp, by simp, by simp⟩
theorem DirGood.sub {d d' : Dir} {c F n : Nat} (h : DirGood d c F n) (hs : d'.Sublist d) : DirGood d' c F n :=
  ⟨fun e he => h.born e (hs.subset he), (hs.map _).nodup h.once, (hs.map _).nodup h.keys, fun e he => h.may e (hs.subset he), fun e he => h.file e (hs.subset he), fun e he e' he' => h.inj e (hs.subset he) e' (hs.subset he'), Nat.le_trans hs.length_le h.many⟩
theorem dirDel_sub (d : Dir) (k : ByteArray) : (dirDel d k).Sublist d := by
  unfold dirDel
  split
  · exact List.eraseIdx_sublist _ _
  · exact List.Sublist.refl _
theorem DirGood.del {d : Dir} {c F n : Nat} (h : DirGood d c F n) (k : ByteArray) : DirGood (dirDel d k) c F n := h.sub (dirDel_sub d k)
theorem lookAt_none_key {d : Dir} {k : ByteArray} (h : lookAt d k = none) : ∀ e ∈ d, e.1 ≠ k := by
  unfold lookAt at h
  rw [List.findIdx?_eq_none_iff] at h
  intro e he
  simpa using h e he
theorem look_mem' {d : Dir} {k : ByteArray} {v : Nat} (h : look d k = some v) : ∃ e ∈ d, e.1 = k ∧ e.2.1 = v := by
  rcases look_cases d k with ⟨_, h2⟩ | ⟨j, e, _, h3, h4, h5⟩
  · rw [h2] at h; cases h
  · rw [h5] at h; exact ⟨e, List.mem_of_getElem? h3, h4, Option.some.inj h⟩
theorem key_inj {d : Dir} (hk : (d.map (·.1)).Nodup) {e e' : ByteArray × Nat × Nat} (h : e ∈ d) (h' : e' ∈ d) (heq : e.1 = e'.1) : e = e' := by
  induction d with
  | nil => cases h
  | cons x d ih =>
    simp only [List.map_cons, List.nodup_cons, List.mem_map, not_exists, not_and] at hk
    simp only [List.mem_cons] at h h'
    rcases h with rfl | h <;> rcases h' with rfl | h'
    · rfl
    · exact absurd heq.symm (hk.1 e' h')
    · exact absurd heq (hk.1 e h)
    · exact ih hk.2 h h'
theorem look_of {d : Dir} (hk : (d.map (·.1)).Nodup) {e : ByteArray × Nat × Nat} (h : e ∈ d) : look d e.1 = some e.2.1 := by
  rcases look_cases d e.1 with ⟨h1, _⟩ | ⟨j, e', _, h3, h4, h5⟩
  · exact absurd rfl (lookAt_none_key h1 e h)
  · rw [h5, key_inj hk (List.mem_of_getElem? h3) h h4]
theorem look_isSome {d : Dir} (k : ByteArray) : (look d k).isSome = true ↔ k ∈ d.map (·.1) := by
  rcases look_cases d k with ⟨h1, h2⟩ | ⟨j, e, h1, h3, h4, h5⟩
  · rw [h2]
    simp only [Option.isSome_none, Bool.false_eq_true, List.mem_map, false_iff]
    rintro ⟨e, he, rfl⟩
    exact lookAt_none_key h1 e he rfl
  · rw [h5]
    simp only [Option.isSome_some, List.mem_map, true_iff]
    exact ⟨e, List.mem_of_getElem? h3, h4⟩
theorem look_none_iff {d : Dir} (k : ByteArray) : look d k = none ↔ k ∉ d.map (·.1) := by
  rw [← look_isSome]; cases look d k <;> simp
theorem look_cons (e : ByteArray × Nat × Nat) (d : Dir) (k : ByteArray) : look (e :: d) k = if e.1 = k then some e.2.1 else look d k := by
  unfold look
  rw [List.find?_cons]
  by_cases h : e.1 = k <;> simp [h]
theorem lookAt_cons (e : ByteArray × Nat × Nat) (d : Dir) (k : ByteArray) : lookAt (e :: d) k = if e.1 = k then some 0 else (lookAt d k).map (· + 1) := by
  unfold lookAt
  rw [List.findIdx?_cons]
  by_cases h : e.1 = k <;> simp [h]
theorem dirDel_cons (e : ByteArray × Nat × Nat) (d : Dir) (k : ByteArray) : dirDel (e :: d) k = if e.1 = k then d else e :: dirDel d k := by
  unfold dirDel
  rw [lookAt_cons]
  by_cases h : e.1 = k
  · simp [h]
  · rw [if_neg h, if_neg h]
    cases lookAt d k <;> rfl
theorem dirSet_cons (e : ByteArray × Nat × Nat) (d : Dir) (c : Nat) (k : ByteArray) (v : Nat) : dirSet (e :: d) c k v = if e.1 = k then (k, v, e.2.2) :: d else e :: dirSet d c k v := by
  unfold dirSet
  rw [lookAt_cons]
  by_cases h : e.1 = k
  · simp [h]
  · rw [if_neg h, if_neg h]
    cases lookAt d k <;> rfl
theorem clkSet_cons (e : ByteArray × Nat × Nat) (d : Dir) (c : Nat) (k : ByteArray) : clkSet (e :: d) c k = if e.1 = k then c else clkSet d c k := by
  unfold clkSet
  rw [lookAt_cons]
  by_cases h : e.1 = k
  · simp [h]
  · rw [if_neg h, if_neg h]
    cases lookAt d k <;> rfl
theorem dirSet_nil (c : Nat) (k : ByteArray) (v : Nat) : dirSet [] c k v = [(k, v, c)] := rfl
theorem look_nil (k : ByteArray) : look [] k = none := rfl
theorem look_dirDel {d : Dir} (hk : (d.map (·.1)).Nodup) (k q : ByteArray) : look (dirDel d k) q = if q = k then none else look d q := by
  induction d with
  | nil => simp [dirDel, lookAt, look_nil]
  | cons e d ih =>
    simp only [List.map_cons, List.nodup_cons] at hk
    rw [dirDel_cons, look_cons]
    by_cases h : e.1 = k
    · rw [if_pos h]
      by_cases hq : q = k
      · rw [if_pos hq, hq, ← h]; exact (look_none_iff _).2 hk.1
      · rw [if_neg hq, if_neg (fun h2 => hq (h2.symm.trans h))]
    · rw [if_neg h, look_cons, ih hk.2]
      by_cases hq : q = k
      · rw [if_pos hq, if_pos hq, if_neg (fun h2 => h (h2.trans hq))]
      · rw [if_neg hq, if_neg hq]
theorem look_dirSet (d : Dir) (c : Nat) (k : ByteArray) (v : Nat) (q : ByteArray) : look (dirSet d c k v) q = if q = k then some v else look d q := by
  induction d with
  | nil =>
    rw [dirSet_nil, look_cons]
    by_cases h : q = k
    · rw [if_pos h, if_pos h.symm]
    · rw [if_neg h, if_neg (fun h2 => h h2.symm)]
  | cons e d ih =>
    rw [dirSet_cons, look_cons]
    by_cases h : e.1 = k
    · rw [if_pos h, look_cons]
      by_cases hq : q = k
      · rw [if_pos hq, if_pos hq.symm]
      · rw [if_neg hq, if_neg (fun h2 => hq h2.symm), if_neg (fun h2 => hq (h2.symm.trans h))]
    · rw [if_neg h, look_cons, ih]
      by_cases hq : q = k
      · rw [if_pos hq, if_neg (fun h2 => h (h2.trans hq))]
        rw [if_pos hq]
      · rw [if_neg hq, if_neg hq]
theorem dirSet_len (d : Dir) (c : Nat) (k : ByteArray) (v : Nat) : (dirSet d c k v).length ≤ d.length + 1 := by
  unfold dirSet; split <;> simp
theorem dirSet_new {d : Dir} {k : ByteArray} (h : look d k = none) (c v : Nat) : dirSet d c k v = d ++ [(k, v, c)] ∧ clkSet d c k = c + 1 := by
  have h' : lookAt d k = none := by
    rcases look_cases d k with ⟨h1, _⟩ | ⟨j, e, h1, _, _, h5⟩
    · exact h1
    · rw [h5] at h; cases h
  unfold dirSet clkSet
  rw [h']
  exact ⟨rfl, rfl⟩
theorem dirSet_old (c : Nat) (k : ByteArray) (v : Nat) : ∀ (d : Dir), (look d k).isSome = true → (dirSet d c k v).map (·.1) = d.map (·.1) ∧ (dirSet d c k v).map (·.2.2) = d.map (·.2.2) ∧ clkSet d c k = c
  | [], h => by cases h
  | e :: d, h => by
    rw [dirSet_cons, clkSet_cons]
    rw [look_cons] at h
    by_cases he : e.1 = k
    · rw [if_pos he, if_pos he]; simp [he]
    · rw [if_neg he] at h
      rw [if_neg he, if_neg he]
      obtain ⟨h1, h2, h3⟩ := dirSet_old c k v d h
      exact ⟨by simp [h1], by simp [h2], h3⟩
theorem dirSet_mem {d : Dir} (hk : (d.map (·.1)).Nodup) {c : Nat} {k : ByteArray} {v : Nat} {x : ByteArray × Nat × Nat} (h : x ∈ dirSet d c k v) : (x ∈ d ∧ x.1 ≠ k) ∨ (x.1 = k ∧ x.2.1 = v) := by
  induction d with
  | nil => rw [dirSet_nil, List.mem_singleton] at h; subst h; exact .inr ⟨rfl, rfl⟩
  | cons e d ih =>
    simp only [List.map_cons, List.nodup_cons, List.mem_map, not_exists, not_and] at hk
    rw [dirSet_cons] at h
    by_cases he : e.1 = k
    · rw [if_pos he, List.mem_cons] at h
      rcases h with rfl | h
      · exact .inr ⟨rfl, rfl⟩
      · exact .inl ⟨List.mem_cons_of_mem _ h, fun hx => hk.1 x h (hx.trans he.symm)⟩
    · rw [if_neg he, List.mem_cons] at h
      rcases h with rfl | h
      · exact .inl ⟨List.mem_cons_self .., he⟩
      · rcases ih hk.2 h with ⟨h1, h2⟩ | h1
        · exact .inl ⟨List.mem_cons_of_mem _ h1, h2⟩
        · exact .inr h1
theorem DirGood.set {d : Dir} {c F n : Nat} (h : DirGood d c F n) {k : ByteArray} (hk : mayB k = true) {v : Nat} (hv : v < F) (hi : ∀ e ∈ d, e.2.1 = v → e.1 = k) : DirGood (dirSet d c k v) (clkSet d c k) F (n + 1) := by
  have hmem := fun x (hx : x ∈ dirSet d c k v) => dirSet_mem h.keys hx
  have hm : (dirSet d c k v).length ≤ n + 1 := Nat.le_trans (dirSet_len _ _ _ _) (by have := h.many; omega)
  have hmay : ∀ e ∈ dirSet d c k v, mayB e.1 = true := fun e he => by
    rcases hmem e he with ⟨h1, _⟩ | ⟨h1, _⟩
    · exact h.may e h1
    · rw [h1]; exact hk
  have hfile : ∀ e ∈ dirSet d c k v, e.2.1 < F := fun e he => by
    rcases hmem e he with ⟨h1, _⟩ | ⟨_, h1⟩
    · exact h.file e h1
    · rw [h1]; exact hv
  have hinj : ∀ e ∈ dirSet d c k v, ∀ e' ∈ dirSet d c k v, e.2.1 = e'.2.1 → e.1 = e'.1 := fun e he e' he' heq => by
    rcases hmem e he with ⟨h1, h2⟩ | ⟨h1, h2⟩ <;> rcases hmem e' he' with ⟨h3, h4⟩ | ⟨h3, h4⟩
    · exact h.inj e h1 e' h3 heq
    · exact absurd (hi e h1 (heq.trans h4)) h2
    · exact absurd (hi e' h3 (heq.symm.trans h2)) h4
    · rw [h1, h3]
  cases hl : look d k with
  | none =>
    obtain ⟨e1, e2⟩ := dirSet_new hl c v
    rw [e2]
    refine ⟨fun e he => ?_, ?_, ?_, hmay, hfile, hinj, hm⟩
    · rw [e1, List.mem_append, List.mem_singleton] at he
      rcases he with he | rfl
      · have := h.born e he; omega
      · exact Nat.lt_succ_self c
    · rw [e1, List.map_append]
      refine List.nodup_append.2 ⟨h.once, by simp, fun a ha b hb => ?_⟩
      simp only [List.map_cons, List.map_nil, List.mem_singleton] at hb
      obtain ⟨e, he, rfl⟩ := List.mem_map.1 ha
      have := h.born e he
      omega
    · rw [e1, List.map_append]
      refine List.nodup_append.2 ⟨h.keys, by simp, fun a ha b hb => ?_⟩
      simp only [List.map_cons, List.map_nil, List.mem_singleton] at hb
      subst hb
      rintro rfl
      exact (look_none_iff _).1 hl ha
  | some u =>
    obtain ⟨e1, e2, e3⟩ := dirSet_old c k v d (by rw [hl]; rfl)
    rw [e3]
    refine ⟨fun e he => ?_, by rw [e2]; exact h.once, by rw [e1]; exact h.keys, hmay, hfile, hinj, hm⟩
    have : e.2.2 ∈ (dirSet d c k v).map (·.2.2) := List.mem_map_of_mem he
    rw [e2] at this
    obtain ⟨e', he', heq⟩ := List.mem_map.1 this
    rw [← heq]
    exact h.born e' he'
theorem turnDir_gone {d : Dir} {c F n : Nat} (h : DirGood d c F n) (g : ByteArray) : (if g ≠ ⟨#[]⟩ then dirDel d g else d) = dirDel d g := by
  by_cases hg : g = ⟨#[]⟩
  · rw [if_neg (fun h => h hg)]
    have : lookAt d g = none := by
      rcases look_cases d g with ⟨h1, _⟩ | ⟨j, e, _, h3, h4, _⟩
      · exact h1
      · exact absurd (h4.trans hg) (may_ne (h.may e (List.mem_of_getElem? h3)))
    unfold dirDel
    rw [this]
  · rw [if_pos hg]
theorem turnDir_eq {d : Dir} {c F n : Nat} (h : DirGood d c F n) (x : DC) :
    turnDir d c x = (if x.file < 0 then dirDel (dirDel d x.gone) x.name else dirSet (dirDel d x.gone) c x.name x.file.toNat) ∧ turnClk d c x = (if x.file < 0 then c else clkSet (dirDel d x.gone) c x.name) := by
  unfold turnDir turnClk
  rw [turnDir_gone h]
  exact ⟨rfl, rfl⟩
theorem DirGood.turn {d : Dir} {c F n : Nat} (h : DirGood d c F n) {x : DC} (hx : x.file < 0 ∨ (mayB x.name = true ∧ x.file.toNat < F ∧ ∀ e ∈ d, e.2.1 = x.file.toNat → e.1 = x.name ∨ e.1 = x.gone)) : DirGood (turnDir d c x) (turnClk d c x) F (n + 1) := by
  obtain ⟨e1, e2⟩ := turnDir_eq h x
  rw [e1, e2]
  by_cases hf : x.file < 0
  · rw [if_pos hf, if_pos hf]
    exact ((h.del _).del _).mono (Nat.le_refl _) (by omega)
  · rw [if_neg hf, if_neg hf]
    rcases hx with h1 | ⟨h1, h2, h3⟩
    · exact absurd h1 hf
    · refine (h.del _).set h1 h2 fun e he hev => ?_
      rcases h3 e ((dirDel_sub _ _).subset he) hev with h4 | h4
      · exact h4
      · exfalso
        have h5 := look_dirDel h.keys x.gone e.1
        rw [if_pos h4, look_of (h.del x.gone).keys he] at h5
        cases h5
/-! sorted names -/
theorem sortedK_perm (d : Dir) : (sortedK d).Perm (d.map fun e => keyL e.1) := by
  unfold sortedK
  exact List.mergeSort_perm _ _
theorem keyL_inj {a b : ByteArray} (h : keyL a = keyL b) : a = b := by
  rw [← ofL_keyL a, h, ofL_keyL]
theorem nodup_keyL {l : List ByteArray} (h : l.Nodup) : (l.map keyL).Nodup := by
  rw [List.nodup_iff_pairwise_ne] at h ⊢
  exact List.Pairwise.map _ (fun a b hab e => hab (keyL_inj e)) h
theorem mem_sortedK {d : Dir} {k : ByteArray} : k ∈ (sortedK d).map ofL ↔ (look d k).isSome = true := by
  rw [look_isSome]
  have h := (sortedK_perm d).map ofL
  rw [h.mem_iff]
  simp [ofL_keyL, Function.comp_def]
/-! states -/
structure DsOk (s : DS) (n : Nat) : Prop where
  f0 : -1 ≤ s.fuse
  f1 : s.fuse ≤ 9223372036854775807
  r0 : 0 ≤ s.room
  r1 : s.room ≤ 4194304
  files : s.files.length ≤ n
  changes : s.changes.length ≤ n
  replay : dirAt s s.changes.length = (s.names, s.nclock)
  dirs : ∀ j, j ≤ s.changes.length → DirGood (dirAt s j).1 (dirAt s j).2 s.files.length n
  sure : ∀ f ∈ s.files, f.sure ≤ f.b.length ∧ f.b.length ≤ 4194304
theorem dirAt_congr {s s' : DS} (h1 : s'.sured = s.sured) (h2 : s'.sclock = s.sclock) (h3 : s'.changes = s.changes) : ∀ j, dirAt s' j = dirAt s j
  | 0 => by unfold dirAt; rw [h1, h2]
  | j + 1 => by unfold dirAt; rw [h3, dirAt_congr h1 h2 h3 j]
theorem dirAt_front {s s' : DS} (h1 : s'.sured = s.sured) (h2 : s'.sclock = s.sclock) {x : DC} (h3 : s'.changes = s.changes ++ [x]) : ∀ j, j ≤ s.changes.length → dirAt s' j = dirAt s j
  | 0, _ => by unfold dirAt; rw [h1, h2]
  | j + 1, hj => by
    unfold dirAt
    rw [h3, List.getElem?_append_left (by omega), dirAt_front h1 h2 h3 j (by omega)]
theorem DsOk.good {s : DS} {n : Nat} (h : DsOk s n) : DirGood s.names s.nclock s.files.length n := by
  have := h.dirs _ (Nat.le_refl _)
  rw [h.replay] at this
  exact this
theorem DsOk.mono {s : DS} {n n' : Nat} (h : DsOk s n) (hn : n ≤ n') : DsOk s n' :=
  ⟨h.f0, h.f1, h.r0, h.r1, Nat.le_trans h.files hn, Nat.le_trans h.changes hn, h.replay, fun j hj => (h.dirs j hj).mono (Nat.le_refl _) hn, h.sure⟩
theorem DsOk.new {room : Int} (h0 : 0 ≤ room) (h1 : room ≤ 4194304) : DsOk (newS room) 0 :=
  ⟨by simp [newS], by simp [newS], h0, h1, Nat.le_refl _, Nat.le_refl _, rfl, fun j hj => by
    obtain rfl : j = 0 := Nat.le_zero.1 hj
    exact DirGood.nil _ _, fun f hf => by cases hf⟩
/-- only room, fuse and dead, or the files' bytes have turned -/
theorem DsOk.same {s s' : DS} {n : Nat} (h : DsOk s n) (f0 : -1 ≤ s'.fuse) (f1 : s'.fuse ≤ 9223372036854775807) (r0 : 0 ≤ s'.room) (r1 : s'.room ≤ 4194304) (e1 : s'.names = s.names) (e2 : s'.nclock = s.nclock) (e3 : s'.sured = s.sured) (e4 : s'.sclock = s.sclock) (e5 : s'.changes = s.changes)
    (hl : s'.files.length = s.files.length) (hs : ∀ f ∈ s'.files, f.sure ≤ f.b.length ∧ f.b.length ≤ 4194304) : DsOk s' n :=
  ⟨f0, f1, r0, r1, by rw [hl]; exact h.files, by rw [e5]; exact h.changes, by rw [e5, e1, e2, dirAt_congr e3 e4 e5]; exact h.replay, fun j hj => by rw [dirAt_congr e3 e4 e5, hl]; exact h.dirs j (by rw [← e5]; exact hj), hs⟩
theorem DsOk.lets {s : DS} {n : Nat} (h : DsOk s n) : DsOk (letsS s) n := by
  obtain ⟨l1, l2, l3, l4, l5, l6, l7⟩ := lets_files s
  refine h.same ?_ ?_ (by rw [l7]; exact h.r0) (by rw [l7]; exact h.r1) l2 l3 l4 l5 l6 (by rw [l1]) (by rw [l1]; exact h.sure)
  · have h0 := h.f0
    unfold letsS
    split
    · exact h0
    · split
      · exact h0
      · dsimp only; omega
  · have h1 := h.f1
    unfold letsS
    split
    · exact h1
    · split
      · exact h1
      · dsimp only; omega
theorem DsOk.turn {s : DS} {n : Nat} (h : DsOk s n) {x : DC} (hx : x.file < 0 ∨ (mayB x.name = true ∧ x.file.toNat < s.files.length ∧ ∀ e ∈ s.names, e.2.1 = x.file.toNat → e.1 = x.name ∨ e.1 = x.gone)) : DsOk (turnS s x) (n + 1) := by
  have hr : dirAt (turnS s x) (s.changes.length + 1) = (turnDir s.names s.nclock x, turnClk s.names s.nclock x) := by
    have e : (turnS s x).changes[s.changes.length]? = some x := by simp [turnS]
    have e2 : dirAt (turnS s x) s.changes.length = (s.names, s.nclock) := (dirAt_front (s := s) (s' := turnS s x) (x := x) rfl rfl rfl _ (Nat.le_refl _)).trans h.replay
    unfold dirAt
    rw [e, e2]
  refine ⟨h.f0, h.f1, h.r0, h.r1, Nat.le_trans h.files (Nat.le_succ _), ?_, ?_, fun j hj => ?_, h.sure⟩
  · have := h.changes; simp [turnS]; omega
  · have e : (turnS s x).changes.length = s.changes.length + 1 := by simp [turnS]
    rw [e, hr]; rfl
  · have e : (turnS s x).changes.length = s.changes.length + 1 := by simp [turnS]
    rw [e] at hj
    by_cases hj2 : j ≤ s.changes.length
    · rw [dirAt_front (s := s) (s' := turnS s x) (x := x) rfl rfl rfl j hj2]
      exact (h.dirs j hj2).mono (Nat.le_refl _) (Nat.le_succ _)
    · obtain rfl : j = s.changes.length + 1 := by omega
      rw [hr]
      exact h.good.turn hx
theorem DsOk.fileMore {s : DS} {n : Nat} (h : DsOk s n) : DsOk { s with files := s.files ++ [⟨[], 0⟩] } (n + 1) :=
  ⟨h.f0, h.f1, h.r0, h.r1, by have := h.files; simp; omega, Nat.le_trans h.changes (Nat.le_succ _), by rw [dirAt_congr (s := s) (s' := { s with files := s.files ++ [⟨[], 0⟩] }) rfl rfl rfl]; exact h.replay, fun j hj => by
    rw [dirAt_congr (s := s) (s' := { s with files := s.files ++ [⟨[], 0⟩] }) rfl rfl rfl]
    exact (h.dirs j hj).mono (by simp) (Nat.le_succ _), fun f hf => by
    simp only [List.mem_append, List.mem_singleton] at hf
    rcases hf with hf | rfl
    · exact h.sure f hf
    · simp⟩
theorem DsOk.create {s : DS} {n : Nat} (h : DsOk s n) (k : ByteArray) : DsOk (createS s k) (n + 2) := by
  unfold createS
  split
  · exact h.mono (by omega)
  · split
    · exact h.lets.mono (by omega)
    · rename_i h1 _
      have hk : mayB k = true := by
        have h2 : knownE s k = 7 := by
          apply Classical.byContradiction
          intro h3; exact h1 (.inl h3)
        unfold knownE at h2
        split at h2
        · cases h2
        · unfold foundE at h2
          split at h2
          · assumption
          · cases h2
      have hl := h.lets.fileMore
      obtain ⟨l1, l2, _⟩ := lets_files s
      rw [l1] at hl
      refine hl.turn (.inr ⟨hk, by simp, fun e he hev => ?_⟩)
      exfalso
      dsimp only at he hev
      rw [l2] at he
      have := h.good.file e he
      simp at hev
      omega
theorem knownE_zero {s : DS} {k : ByteArray} (h : knownE s k = 0) : s.dead = false ∧ mayB k = true ∧ (look s.names k).isSome = true := by
  unfold knownE at h
  split at h
  · cases h
  · rename_i hd
    unfold foundE at h
    split at h
    · rename_i hm
      split at h
      · rename_i hs
        exact ⟨by simpa using hd, hm, hs⟩
      · cases h
    · cases h
theorem DsOk.modify {s : DS} {n : Nat} (h : DsOk s n) (i : Nat) (f : DF → DF) (hf : ∀ x, s.files[i]? = some x → (f x).sure ≤ (f x).b.length ∧ (f x).b.length ≤ 4194304) : DsOk { s with files := s.files.modify i f } n := by
  refine h.same h.f0 h.f1 h.r0 h.r1 rfl rfl rfl rfl rfl (by simp) fun x hx => ?_
  obtain ⟨j, hj⟩ := List.mem_iff_getElem?.1 hx
  dsimp only at hj
  rw [List.getElem?_modify] at hj
  cases hy : s.files[j]? with
  | none => rw [hy] at hj; cases hj
  | some y =>
    rw [hy] at hj
    simp only [Option.map_eq_map, Option.map_some, Option.some.injEq] at hj
    subst hj
    by_cases hij : i = j
    · rw [if_pos hij]
      exact hf y (by rw [hij]; exact hy)
    · rw [if_neg hij]
      exact h.sure y (List.mem_of_getElem? hy)
theorem mem_le_sum {l : List Nat} {a : Nat} (h : a ∈ l) : a ≤ l.sum := by
  induction l with
  | nil => cases h
  | cons b l ih =>
    rw [List.sum_cons]
    rw [List.mem_cons] at h
    rcases h with rfl | h
    · omega
    · have := ih h; omega
theorem sum_le_mul {l : List Nat} {b : Nat} (h : ∀ a ∈ l, a ≤ b) : l.sum ≤ l.length * b := by
  induction l with
  | nil => simp
  | cons a l ih =>
    rw [List.sum_cons, List.length_cons, Nat.succ_mul]
    have := h a (List.mem_cons_self ..)
    have := ih (fun a ha => h a (List.mem_cons_of_mem _ ha))
    omega
theorem used_ge {s : DS} {k : ByteArray} {i : Nat} (h : look s.names k = some i) : lenAt s i ≤ usedN s := by
  obtain ⟨e, he, _, rfl⟩ := look_mem' h
  exact mem_le_sum (List.mem_map_of_mem (f := fun e => lenAt s e.2.1) he)
theorem lenAt_le {s : DS} {n : Nat} (h : DsOk s n) (i : Nat) : lenAt s i ≤ 4194304 := by
  unfold lenAt
  cases hy : s.files[i]? with
  | none => simp
  | some f => simpa using (h.sure f (List.mem_of_getElem? hy)).2
theorem used_le {s : DS} {n : Nat} (h : DsOk s n) : usedN s ≤ n * 4194304 := by
  have h1 : usedN s ≤ (s.names.map fun e => lenAt s e.2.1).length * 4194304 := sum_le_mul fun a ha => by
    obtain ⟨e, _, rfl⟩ := List.mem_map.1 ha
    exact lenAt_le h _
  rw [List.length_map] at h1
  have := h.good.many
  exact Nat.le_trans h1 (Nat.mul_le_mul_right _ this)
theorem DsOk.append {s : DS} {n : Nat} (h : DsOk s n) (k : ByteArray) (b : List UInt8) : DsOk (appendS s k b) n := by
  unfold appendS
  split
  · exact h
  · split
    · exact h.lets
    · rename_i h1 _
      have hk0 : knownE s k = 0 := Classical.byContradiction fun h3 => h1 (.inl h3)
      have hr : ¬ s.room - (usedN s : Int) < (b.length : Int) := fun h3 => h1 (.inr h3)
      obtain ⟨_, _, hs⟩ := knownE_zero hk0
      obtain ⟨i, hi⟩ := Option.isSome_iff_exists.1 hs
      rw [hi, Option.getD_some]
      obtain ⟨l1, _⟩ := lets_files s
      rw [← l1]
      refine h.lets.modify i _ fun x hx => ?_
      rw [l1] at hx
      have h2 := h.sure x (List.mem_of_getElem? hx)
      have h3 := used_ge hi
      have h4 : lenAt s i = x.b.length := by unfold lenAt; rw [hx]; rfl
      have h5 := h.r1
      simp only [List.length_append]
      omega
theorem DsOk.sync {s : DS} {n : Nat} (h : DsOk s n) (k : ByteArray) : DsOk (syncS s k) n := by
  unfold syncS
  split
  · exact h
  · split
    · exact h.lets
    · obtain ⟨l1, _⟩ := lets_files s
      rw [← l1]
      refine h.lets.modify _ _ fun x hx => ?_
      rw [l1] at hx
      exact ⟨Nat.le_refl _, (h.sure x (List.mem_of_getElem? hx)).2⟩
/-! what a crash leaves -/
end Go.Proofs.Herb
namespace Go.Proofs.Herb
open Go.RowKit
theorem newM_fresh (n : Nat) : ∀ k, k ∈ (newM n).fp → n ≤ k := by
  intro k hk
  simp [DM.fp, newM, Value.ownBlock] at hk
  omega
end Go.Proofs.Herb
namespace Go.Proofs.Herb
open Go.RowKit
def fuseE (n : Int) : Int := if n < 0 then 1 else 0
def fuseS (s : DS) (n : Int) : DS := if n < 0 then s else { s with fuse := n }
set_option maxHeartbeats 800000 in
theorem fuseI_any (m : DM) (s : DS) (n : Int) (w : World) (h : DiskAt w m s) :
    Calls Tryz.prog 28 #[.pointer (some ⟨m.D, 0, none⟩), .int .i64 n] w fun e w' => e = .returned (.int .i64 (fuseE n)) ∧ DiskAt w' m (fuseS s n) ∧ Mod m.fp m.fp w w' := by
  by_cases h1 : n < 0
  · have b1 : decide (n < 0) = true := by simpa using h1
    have hE : Hid (fuseE n = 1 ∧ fuseS s n = s) := hid ⟨if_pos h1, if_pos h1⟩
    have H := hid h
    clear h1 h
    go_enter Tryz.func28, Tryz.ntmps28
    go_wp2_with (go_at_call 60; refine (there_any m s w H.out).mono ?_; rintro e w1 ⟨rfl, rfl⟩)
    go_ret
    exact ⟨by rw [hE.out.1]; rfl, by rw [hE.out.2]; exact H.out, Mod.refl _ _⟩
  · obtain ⟨k, rfl⟩ : ∃ k : Nat, n = (k : Int) := ⟨n.toNat, by omega⟩
    refine (fuse_any m s k w h).mono ?_
    rintro e w' ⟨rfl, h2, h3⟩
    exact ⟨by unfold fuseE; rw [if_neg h1], by unfold fuseS; rw [if_neg h1]; exact h2, h3⟩
def looseN (s : DS) (k : ByteArray) : Int := if foundE s k = 0 then ((((s.files[(look s.names k).getD 0]?).map (·.b.length)).getD 0 : Nat) : Int) - ((((s.files[(look s.names k).getD 0]?).map (·.sure)).getD 0 : Nat) : Int) else 0
theorem found_ok {s : DS} {k : ByteArray} (h : foundE s k = 0) (hd : DirOk s.names s.nclock s.files.length) : ∃ i, look s.names k = some i ∧ foundN s k = (i : Int) ∧ i < s.files.length := by
  unfold foundE at h
  split at h
  · rename_i hm
    split at h
    · rename_i hs
      obtain ⟨i, hi⟩ := Option.isSome_iff_exists.1 hs
      obtain ⟨e, he, rfl⟩ := look_mem hi
      refine ⟨_, hi, ?_, hd.at_ e he⟩
      unfold foundN
      rw [if_pos hm, hi]
      rfl
    · cases h
  · cases h
set_option maxRecDepth 100000 in
set_option maxHeartbeats 1600000 in
theorem loose_any (m : DM) (s : DS) (k : ByteArray) (hk : k.size ≤ maxLen) (w : World) (h : DiskAt w m s) (hd : DirOk s.names s.nclock s.files.length) (hb : ∀ f ∈ s.files, f.sure ≤ f.b.length ∧ f.b.length ≤ 4194304) :
    Calls Tryz.prog 53 #[.pointer (some ⟨m.D, 0, none⟩), .string k] w fun e w' => e = .returned (.tuple #[.int .i64 (looseN s k), .int .i64 (foundE s k)]) ∧ Below w.heap.size w w' := by
  by_cases q : foundE s k = 0
  · obtain ⟨i, hi, hn, hil⟩ := found_ok q hd
    obtain ⟨g, c, q0, k0, hfv, hc1, hbi, hk1, hk2, hqn, hce, hsu, hrd, _, hgl⟩ := h.file hil
    have hL : looseN s k = ((s.files[i]).b.length : Int) - ((s.files[i]).sure : Int) := by unfold looseN; rw [if_pos q, hi, Option.getD_some, List.getElem?_eq_getElem hil]; rfl
    have hbl := hb _ (List.getElem_mem hil)
    have c3 := h.cells.2.2.2.1
    rw [hfv] at c3
    rw [hL, q]
    obtain ⟨nb, hnb⟩ : ∃ nb, nb = (s.files[i]).b.length := ⟨_, rfl⟩
    obtain ⟨ns, hns⟩ : ∃ ns, ns = (s.files[i]).sure := ⟨_, rfl⟩
    rw [← hnb] at hk1 hce hbl ⊢
    rw [← hns] at hsu hbl ⊢
    have i1 : (i : Int) < (s.files.length : Int) := by omega
    have i0 : (0 : Int) ≤ (i : Int) := by omega
    have hw : IntKind.i64.wrap ((nb : Int) - (ns : Int)) = (nb : Int) - (ns : Int) := by rw [IntKind.wrap_i64]; omega
    have H := hid h
    have Q := hid q
    have Hn := hid hn
    clear h q hn hrd hqn hbi hi hL hd hb hnb hns hfv hbl
    go_enter Tryz.func53, Tryz.ntmps53
    go_wp2_with (go_at_call 70; refine (found_any m s k hk w H.out).mono ?_; rintro e w' ⟨rfl, rfl⟩; rw [Q.out, Hn.out])
    go_quiet (fail)
    go_wp2
    go_ret2
    exact ⟨rfl, below_drewN (Below.refl _ _) _⟩
  · have b1 : (foundE s k != 0) = true := by simpa using q
    have hL : looseN s k = 0 := by unfold looseN; rw [if_neg q]
    rw [hL]
    have H := hid h
    clear h q hL hd hb
    go_enter Tryz.func53, Tryz.ntmps53
    go_wp2_with (go_at_call 70; refine (found_any m s k hk w H.out).mono ?_; rintro e w' ⟨rfl, rfl⟩)
    go_ret2
    exact ⟨rfl, Below.refl _ _⟩
theorem dtoList_inj {a b : ByteArray} (h : a.toList = b.toList) : a = b := by
  rw [ByteArray.toList_eq, ByteArray.toList_eq] at h
  obtain ⟨⟨a⟩⟩ := a
  obtain ⟨⟨b⟩⟩ := b
  simp only at h
  rw [h]
theorem sne {a b : ByteArray} (h : a ≠ b) : (a.toList == b.toList) = false := beq_eq_false_iff_ne.2 fun e => h (dtoList_inj e)
theorem seq {a b : ByteArray} (h : a = b) : (a.toList == b.toList) = true := by rw [h]; exact beq_self_eq_true _
end Go.Proofs.Herb
