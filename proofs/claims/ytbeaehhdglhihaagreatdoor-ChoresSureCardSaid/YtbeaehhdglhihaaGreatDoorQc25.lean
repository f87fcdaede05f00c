/- What a disk's states keep, and what a crash leaves: plain lemmas on directories and files. No condition. What is read of a crash's disk: plain. No condition. Files that are written on a disk, one behind the other, each made sure: what each call answers, and what the disk has behind them. Plain; for states as DsOk says. -/
import Derived.Test.YtbeaehhdglhihaaGreatDoorQc24
namespace Go.Proofs.Herb
open Go.RowKit Go.Sort
/-! directories -/
structure DirGood (d : Dir) (c F n : Nat) : Prop where
  born : ∀ e ∈ d, e.2.2 < c
  once : (d.map (·.2.2)).Nodup
  keys : (d.map (·.1)).Nodup
  may : ∀ e ∈ d, mayB e.1 = true
  file : ∀ e ∈ d, e.2.1 < F
  inj : ∀ e ∈ d, ∀ e' ∈ d, e.2.1 = e'.2.1 → e.1 = e'.1
  many : d.length ≤ n
theorem may_size {k : ByteArray} (h : mayB k = true) : 1 ≤ k.size ∧ k.size ≤ 24 := by
  unfold mayB at h
  rw [Bool.and_eq_true, decide_eq_true_iff, decide_eq_true_iff] at h
  exact h
theorem may_ne {k : ByteArray} (h : mayB k = true) : k ≠ ⟨#[]⟩ := by
  rintro rfl
  exact absurd h (by decide)
theorem DirGood.ok {d : Dir} {c F n : Nat} (h : DirGood d c F n) : DirOk d c F := ⟨h.born, h.once, h.file⟩
theorem DirGood.keysOk {d : Dir} {c F n : Nat} (h : DirGood d c F n) (hF : F ≤ 1000000000) (hn : n ≤ 1000000000) : DirKeys d c :=
  ⟨h.born, h.once, h.keys, fun e he => (may_size (h.may e he)).2, fun e he => by have := h.file e he; omega, by have := h.many; omega⟩
theorem DirGood.mono {d : Dir} {c F n F' n' : Nat} (h : DirGood d c F n) (hF : F ≤ F') (hn : n ≤ n') : DirGood d c F' n' :=
  ⟨h.born, h.once, h.keys, h.may, fun e he => Nat.lt_of_lt_of_le (h.file e he) hF, h.inj, Nat.le_trans h.many hn⟩
theorem DirGood.nil (F n : Nat) : DirGood [] 0 F n := ⟨by simp, by simp, by simp, by simp, by simp, by simp, by simp⟩
theorem DirGood.sub {d d' : Dir} {c F n : Nat} (h : DirGood d c F n) (hs : d'.Sublist d) : DirGood d' c F n :=
  ⟨fun e he => h.born e (hs.subset he), (hs.map _).nodup h.once, (hs.map _).nodup h.keys, fun e he => h.may e (hs.subset he), fun e he => h.file e (hs.subset he), fun e he e' he' => h.inj e (hs.subset he) e' (hs.subset he'), Nat.le_trans hs.length_le h.many⟩
theorem dirDel_sub (d : Dir) (k : ByteArray) : (dirDel d k).Sublist d := by
  unfold dirDel
  split
  · exact List.eraseIdx_sublist _ _
  · exact List.Sublist.refl _
theorem DirGood.del {d : Dir} {c F n : Nat} (h : DirGood d c F n) (k : ByteArray) : DirGood (dirDel d k) c F n := h.sub (dirDel_sub d k)
theorem lookAt_none_key {d : Dir} {k : ByteArray} (h : lookAt d k = none) : ∀ e ∈ d, e.1 ≠ k := by
  unfold lookAt at h
  rw [List.findIdx?_eq_none_iff] at h
  intro e he
  simpa using h e he
theorem look_mem' {d : Dir} {k : ByteArray} {v : Nat} (h : look d k = some v) : ∃ e ∈ d, e.1 = k ∧ e.2.1 = v := by
  rcases look_cases d k with ⟨_, h2⟩ | ⟨j, e, _, h3, h4, h5⟩
  · rw [h2] at h; cases h
  · rw [h5] at h; exact ⟨e, List.mem_of_getElem? h3, h4, Option.some.inj h⟩
theorem key_inj {d : Dir} (hk : (d.map (·.1)).Nodup) {e e' : ByteArray × Nat × Nat} (h : e ∈ d) (h' : e' ∈ d) (heq : e.1 = e'.1) : e = e' := by
  induction d with
  | nil => cases h
  | cons x d ih =>
    simp only [List.map_cons, List.nodup_cons, List.mem_map, not_exists, not_and] at hk
    simp only [List.mem_cons] at h h'
    rcases h with rfl | h <;> rcases h' with rfl | h'
    · rfl
    · exact absurd heq.symm (hk.1 e' h')
    · exact absurd heq (hk.1 e h)
    · exact ih hk.2 h h'
theorem look_of {d : Dir} (hk : (d.map (·.1)).Nodup) {e : ByteArray × Nat × Nat} (h : e ∈ d) : look d e.1 = some e.2.1 := by
  rcases look_cases d e.1 with ⟨h1, _⟩ | ⟨j, e', _, h3, h4, h5⟩
  · exact absurd rfl (lookAt_none_key h1 e h)
  · rw [h5, key_inj hk (List.mem_of_getElem? h3) h h4]
theorem look_isSome {d : Dir} (k : ByteArray) : (look d k).isSome = true ↔ k ∈ d.map (·.1) := by
  rcases look_cases d k with ⟨h1, h2⟩ | ⟨j, e, h1, h3, h4, h5⟩
  · rw [h2]
    simp only [Option.isSome_none, Bool.false_eq_true, List.mem_map, false_iff]
    rintro ⟨e, he, rfl⟩
    exact lookAt_none_key h1 e he rfl
  · rw [h5]
    simp only [Option.isSome_some, List.mem_map, true_iff]
    exact ⟨e, List.mem_of_getElem? h3, h4⟩
theorem look_none_iff {d : Dir} (k : ByteArray) : look d k = none ↔ k ∉ d.map (·.1) := by
  rw [← look_isSome]; cases look d k <;> simp
theorem look_cons (e : ByteArray × Nat × Nat) (d : Dir) (k : ByteArray) : look (e :: d) k = if e.1 = k then some e.2.1 else look d k := by
  unfold look
  rw [List.find?_cons]
  by_cases h : e.1 = k <;> simp [h]
theorem lookAt_cons (e : ByteArray × Nat × Nat) (d : Dir) (k : ByteArray) : lookAt (e :: d) k = if e.1 = k then some 0 else (lookAt d k).map (· + 1) := by
  unfold lookAt
  rw [List.findIdx?_cons]
  by_cases h : e.1 = k <;> simp [h]
theorem dirDel_cons (e : ByteArray × Nat × Nat) (d : Dir) (k : ByteArray) : dirDel (e :: d) k = if e.1 = k then d else e :: dirDel d k := by
  unfold dirDel
  rw [lookAt_cons]
  by_cases h : e.1 = k
  · simp [h]
  · rw [if_neg h, if_neg h]
    cases lookAt d k <;> rfl
theorem dirSet_cons (e : ByteArray × Nat × Nat) (d : Dir) (c : Nat) (k : ByteArray) (v : Nat) : dirSet (e :: d) c k v = if e.1 = k then (k, v, e.2.2) :: d else e :: dirSet d c k v := by
  unfold dirSet
  rw [lookAt_cons]
  by_cases h : e.1 = k
  · simp [h]
  · rw [if_neg h, if_neg h]
    cases lookAt d k <;> rfl
theorem clkSet_cons (e : ByteArray × Nat × Nat) (d : Dir) (c : Nat) (k : ByteArray) : clkSet (e :: d) c k = if e.1 = k then c else clkSet d c k := by
  unfold clkSet
  rw [lookAt_cons]
  by_cases h : e.1 = k
  · simp [h]
  · rw [if_neg h, if_neg h]
    cases lookAt d k <;> rfl
theorem dirSet_nil (c : Nat) (k : ByteArray) (v : Nat) : dirSet [] c k v = [(k, v, c)] := rfl
theorem look_nil (k : ByteArray) : look [] k = none := rfl
theorem look_dirDel {d : Dir} (hk : (d.map (·.1)).Nodup) (k q : ByteArray) : look (dirDel d k) q = if q = k then none else look d q := by
  induction d with
  | nil => simp [dirDel, lookAt, look_nil]
  | cons e d ih =>
    simp only [List.map_cons, List.nodup_cons] at hk
    rw [dirDel_cons, look_cons]
    by_cases h : e.1 = k
    · rw [if_pos h]
      by_cases hq : q = k
      · rw [if_pos hq, hq, ← h]; exact (look_none_iff _).2 hk.1
      · rw [if_neg hq, if_neg (fun h2 => hq (h2.symm.trans h))]
    · rw [if_neg h, look_cons, ih hk.2]
      by_cases hq : q = k
      · rw [if_pos hq, if_pos hq, if_neg (fun h2 => h (h2.trans hq))]
      · rw [if_neg hq, if_neg hq]
theorem look_dirSet (d : Dir) (c : Nat) (k : ByteArray) (v : Nat) (q : ByteArray) : look (dirSet d c k v) q = if q = k then some v else look d q := by
  induction d with
  | nil =>
    rw [dirSet_nil, look_cons]
    by_cases h : q = k
    · rw [if_pos h, if_pos h.symm]
    · rw [if_neg h, if_neg (fun h2 => h h2.symm)]
  | cons e d ih =>
    rw [dirSet_cons, look_cons]
    by_cases h : e.1 = k
    · rw [if_pos h, look_cons]
      by_cases hq : q = k
      · rw [if_pos hq, if_pos hq.symm]
      · rw [if_neg hq, if_neg (fun h2 => hq h2.symm), if_neg (fun h2 => hq (h2.symm.trans h))]
    · rw [if_neg h, look_cons, ih]
      by_cases hq : q = k
      · rw [if_pos hq, if_neg (fun h2 => h (h2.trans hq))]
        rw [if_pos hq]
      · rw [if_neg hq, if_neg hq]
theorem dirSet_len (d : Dir) (c : Nat) (k : ByteArray) (v : Nat) : (dirSet d c k v).length ≤ d.length + 1 := by
  unfold dirSet; split <;> simp
theorem dirSet_new {d : Dir} {k : ByteArray} (h : look d k = none) (c v : Nat) : dirSet d c k v = d ++ [(k, v, c)] ∧ clkSet d c k = c + 1 := by
  have h' : lookAt d k = none := by
    rcases look_cases d k with ⟨h1, _⟩ | ⟨j, e, h1, _, _, h5⟩
    · exact h1
    · rw [h5] at h; cases h
  unfold dirSet clkSet
  rw [h']
  exact ⟨rfl, rfl⟩
theorem dirSet_old (c : Nat) (k : ByteArray) (v : Nat) : ∀ (d : Dir), (look d k).isSome = true → (dirSet d c k v).map (·.1) = d.map (·.1) ∧ (dirSet d c k v).map (·.2.2) = d.map (·.2.2) ∧ clkSet d c k = c
  | [], h => by cases h
  | e :: d, h => by
    rw [dirSet_cons, clkSet_cons]
    rw [look_cons] at h
    by_cases he : e.1 = k
    · rw [if_pos he, if_pos he]; simp [he]
    · rw [if_neg he] at h
      rw [if_neg he, if_neg he]
      obtain ⟨h1, h2, h3⟩ := dirSet_old c k v d h
      exact ⟨by simp [h1], by simp [h2], h3⟩
theorem dirSet_mem {d : Dir} (hk : (d.map (·.1)).Nodup) {c : Nat} {k : ByteArray} {v : Nat} {x : ByteArray × Nat × Nat} (h : x ∈ dirSet d c k v) : (x ∈ d ∧ x.1 ≠ k) ∨ (x.1 = k ∧ x.2.1 = v) := by
  induction d with
  | nil => rw [dirSet_nil, List.mem_singleton] at h; subst h; exact .inr ⟨rfl, rfl⟩
  | cons e d ih =>
    simp only [List.map_cons, List.nodup_cons, List.mem_map, not_exists, not_and] at hk
    rw [dirSet_cons] at h
    by_cases he : e.1 = k
    · rw [if_pos he, List.mem_cons] at h
      rcases h with rfl | h
      · exact .inr ⟨rfl, rfl⟩
      · exact .inl ⟨List.mem_cons_of_mem _ h, fun hx => hk.1 x h (hx.trans he.symm)⟩
    · rw [if_neg he, List.mem_cons] at h
      rcases h with rfl | h
      · exact .inl ⟨List.mem_cons_self .., he⟩
      · rcases ih hk.2 h with ⟨h1, h2⟩ | h1
        · exact .inl ⟨List.mem_cons_of_mem _ h1, h2⟩
        · exact .inr h1
theorem DirGood.set {d : Dir} {c F n : Nat} (h : DirGood d c F n) {k : ByteArray} (hk : mayB k = true) {v : Nat} (hv : v < F) (hi : ∀ e ∈ d, e.2.1 = v → e.1 = k) : DirGood (dirSet d c k v) (clkSet d c k) F (n + 1) := by
  have hmem := fun x (hx : x ∈ dirSet d c k v) => dirSet_mem h.keys hx
  have hm : (dirSet d c k v).length ≤ n + 1 := Nat.le_trans (dirSet_len _ _ _ _) (by have := h.many; omega)
  have hmay : ∀ e ∈ dirSet d c k v, mayB e.1 = true := fun e he => by
    rcases hmem e he with ⟨h1, _⟩ | ⟨h1, _⟩
    · exact h.may e h1
    · rw [h1]; exact hk
  have hfile : ∀ e ∈ dirSet d c k v, e.2.1 < F := fun e he => by
    rcases hmem e he with ⟨h1, _⟩ | ⟨_, h1⟩
    · exact h.file e h1
    · rw [h1]; exact hv
  have hinj : ∀ e ∈ dirSet d c k v, ∀ e' ∈ dirSet d c k v, e.2.1 = e'.2.1 → e.1 = e'.1 := fun e he e' he' heq => by
    rcases hmem e he with ⟨h1, h2⟩ | ⟨h1, h2⟩ <;> rcases hmem e' he' with ⟨h3, h4⟩ | ⟨h3, h4⟩
    · exact h.inj e h1 e' h3 heq
    · exact absurd (hi e h1 (heq.trans h4)) h2
    · exact absurd (hi e' h3 (heq.symm.trans h2)) h4
    · rw [h1, h3]
  cases hl : look d k with
  | none =>
    obtain ⟨e1, e2⟩ := dirSet_new hl c v
    rw [e2]
    refine ⟨fun e he => ?_, ?_, ?_, hmay, hfile, hinj, hm⟩
    · rw [e1, List.mem_append, List.mem_singleton] at he
      rcases he with he | rfl
      · have := h.born e he; omega
      · exact Nat.lt_succ_self c
    · rw [e1, List.map_append]
      refine List.nodup_append.2 ⟨h.once, by simp, fun a ha b hb => ?_⟩
      simp only [List.map_cons, List.map_nil, List.mem_singleton] at hb
      obtain ⟨e, he, rfl⟩ := List.mem_map.1 ha
      have := h.born e he
      omega
    · rw [e1, List.map_append]
      refine List.nodup_append.2 ⟨h.keys, by simp, fun a ha b hb => ?_⟩
      simp only [List.map_cons, List.map_nil, List.mem_singleton] at hb
      subst hb
      rintro rfl
      exact (look_none_iff _).1 hl ha
  | some u =>
    obtain ⟨e1, e2, e3⟩ := dirSet_old c k v d (by rw [hl]; rfl)
    rw [e3]
    refine ⟨fun e he => ?_, by rw [e2]; exact h.once, by rw [e1]; exact h.keys, hmay, hfile, hinj, hm⟩
    have : e.2.2 ∈ (dirSet d c k v).map (·.2.2) := List.mem_map_of_mem he
    rw [e2] at this
    obtain ⟨e', he', heq⟩ := List.mem_map.1 this
    rw [← heq]
    exact h.born e' he'
theorem turnDir_gone {d : Dir} {c F n : Nat} (h : DirGood d c F n) (g : ByteArray) : (if g ≠ ⟨#[]⟩ then dirDel d g else d) = dirDel d g := by
  by_cases hg : g = ⟨#[]⟩
  · rw [if_neg (fun h => h hg)]
    have : lookAt d g = none := by
      rcases look_cases d g with ⟨h1, _⟩ | ⟨j, e, _, h3, h4, _⟩
      · exact h1
      · exact absurd (h4.trans hg) (may_ne (h.may e (List.mem_of_getElem? h3)))
    unfold dirDel
    rw [this]
  · rw [if_pos hg]
theorem turnDir_eq {d : Dir} {c F n : Nat} (h : DirGood d c F n) (x : DC) :
    turnDir d c x = (if x.file < 0 then dirDel (dirDel d x.gone) x.name else dirSet (dirDel d x.gone) c x.name x.file.toNat) ∧ turnClk d c x = (if x.file < 0 then c else clkSet (dirDel d x.gone) c x.name) := by
  unfold turnDir turnClk
  rw [turnDir_gone h]
  exact ⟨rfl, rfl⟩
theorem DirGood.turn {d : Dir} {c F n : Nat} (h : DirGood d c F n) {x : DC} (hx : x.file < 0 ∨ (mayB x.name = true ∧ x.file.toNat < F ∧ ∀ e ∈ d, e.2.1 = x.file.toNat → e.1 = x.name ∨ e.1 = x.gone)) : DirGood (turnDir d c x) (turnClk d c x) F (n + 1) := by
  obtain ⟨e1, e2⟩ := turnDir_eq h x
  rw [e1, e2]
  by_cases hf : x.file < 0
  · rw [if_pos hf, if_pos hf]
    exact ((h.del _).del _).mono (Nat.le_refl _) (by omega)
  · rw [if_neg hf, if_neg hf]
    rcases hx with h1 | ⟨h1, h2, h3⟩
    · exact absurd h1 hf
    · refine (h.del _).set h1 h2 fun e he hev => ?_
      rcases h3 e ((dirDel_sub _ _).subset he) hev with h4 | h4
      · exact h4
      · exfalso
        have h5 := look_dirDel h.keys x.gone e.1
        rw [if_pos h4, look_of (h.del x.gone).keys he] at h5
        cases h5
/-! sorted names -/
theorem sortedK_perm (d : Dir) : (sortedK d).Perm (d.map fun e => keyL e.1) := by
  unfold sortedK
  exact List.mergeSort_perm _ _
theorem mem_sortedK {d : Dir} {k : ByteArray} : k ∈ (sortedK d).map ofL ↔ (look d k).isSome = true := by
  rw [look_isSome]
  have h := (sortedK_perm d).map ofL
  rw [h.mem_iff]
  simp [ofL_keyL, Function.comp_def]
theorem nodup_sortedK {d : Dir} (h : (d.map (·.1)).Nodup) : ((sortedK d).map ofL).Nodup := by
  have e := (sortedK_perm d).map ofL
  refine e.nodup_iff.2 ?_
  simpa [ofL_keyL, Function.comp_def] using h
/-! states -/
structure DsOk (s : DS) (n : Nat) : Prop where
  f0 : -1 ≤ s.fuse
  f1 : s.fuse ≤ 9223372036854775807
  r0 : 0 ≤ s.room
  r1 : s.room ≤ 4194304
  files : s.files.length ≤ n
  changes : s.changes.length ≤ n
  replay : dirAt s s.changes.length = (s.names, s.nclock)
  dirs : ∀ j, j ≤ s.changes.length → DirGood (dirAt s j).1 (dirAt s j).2 s.files.length n
  sure : ∀ f ∈ s.files, f.sure ≤ f.b.length ∧ f.b.length ≤ 4194304
theorem dirAt_congr {s s' : DS} (h1 : s'.sured = s.sured) (h2 : s'.sclock = s.sclock) (h3 : s'.changes = s.changes) : ∀ j, dirAt s' j = dirAt s j
  | 0 => by unfold dirAt; rw [h1, h2]
  | j + 1 => by unfold dirAt; rw [h3, dirAt_congr h1 h2 h3 j]
theorem dirAt_front {s s' : DS} (h1 : s'.sured = s.sured) (h2 : s'.sclock = s.sclock) {x : DC} (h3 : s'.changes = s.changes ++ [x]) : ∀ j, j ≤ s.changes.length → dirAt s' j = dirAt s j
  | 0, _ => by unfold dirAt; rw [h1, h2]
  | j + 1, hj => by
    unfold dirAt
    rw [h3, List.getElem?_append_left (by omega), dirAt_front h1 h2 h3 j (by omega)]
theorem DsOk.good {s : DS} {n : Nat} (h : DsOk s n) : DirGood s.names s.nclock s.files.length n := by
  have := h.dirs _ (Nat.le_refl _)
  rw [h.replay] at this
  exact this
theorem DsOk.mono {s : DS} {n n' : Nat} (h : DsOk s n) (hn : n ≤ n') : DsOk s n' :=
  ⟨h.f0, h.f1, h.r0, h.r1, Nat.le_trans h.files hn, Nat.le_trans h.changes hn, h.replay, fun j hj => (h.dirs j hj).mono (Nat.le_refl _) hn, h.sure⟩
theorem DsOk.new {room : Int} (h0 : 0 ≤ room) (h1 : room ≤ 4194304) : DsOk (newS room) 0 :=
  ⟨by simp [newS], by simp [newS], h0, h1, Nat.le_refl _, Nat.le_refl _, rfl, fun j hj => by
    obtain rfl : j = 0 := Nat.le_zero.1 hj
    exact DirGood.nil _ _, fun f hf => by cases hf⟩
/-- only room, fuse and dead, or the files' bytes have turned -/
theorem DsOk.same {s s' : DS} {n : Nat} (h : DsOk s n) (f0 : -1 ≤ s'.fuse) (f1 : s'.fuse ≤ 9223372036854775807) (r0 : 0 ≤ s'.room) (r1 : s'.room ≤ 4194304) (e1 : s'.names = s.names) (e2 : s'.nclock = s.nclock) (e3 : s'.sured = s.sured) (e4 : s'.sclock = s.sclock) (e5 : s'.changes = s.changes)
    (hl : s'.files.length = s.files.length) (hs : ∀ f ∈ s'.files, f.sure ≤ f.b.length ∧ f.b.length ≤ 4194304) : DsOk s' n :=
  ⟨f0, f1, r0, r1, by rw [hl]; exact h.files, by rw [e5]; exact h.changes, by rw [e5, e1, e2, dirAt_congr e3 e4 e5]; exact h.replay, fun j hj => by rw [dirAt_congr e3 e4 e5, hl]; exact h.dirs j (by rw [← e5]; exact hj), hs⟩
theorem DsOk.lets {s : DS} {n : Nat} (h : DsOk s n) : DsOk (letsS s) n := by
  obtain ⟨l1, l2, l3, l4, l5, l6, l7⟩ := lets_files s
  refine h.same ?_ ?_ (by rw [l7]; exact h.r0) (by rw [l7]; exact h.r1) l2 l3 l4 l5 l6 (by rw [l1]) (by rw [l1]; exact h.sure)
  · have h0 := h.f0
    unfold letsS
    split
    · exact h0
    · split
      · exact h0
      · dsimp only; omega
  · have h1 := h.f1
    unfold letsS
    split
    · exact h1
    · split
      · exact h1
      · dsimp only; omega
theorem DsOk.turn {s : DS} {n : Nat} (h : DsOk s n) {x : DC} (hx : x.file < 0 ∨ (mayB x.name = true ∧ x.file.toNat < s.files.length ∧ ∀ e ∈ s.names, e.2.1 = x.file.toNat → e.1 = x.name ∨ e.1 = x.gone)) : DsOk (turnS s x) (n + 1) := by
  have hr : dirAt (turnS s x) (s.changes.length + 1) = (turnDir s.names s.nclock x, turnClk s.names s.nclock x) := by
    have e : (turnS s x).changes[s.changes.length]? = some x := by simp [turnS]
    have e2 : dirAt (turnS s x) s.changes.length = (s.names, s.nclock) := (dirAt_front (s := s) (s' := turnS s x) (x := x) rfl rfl rfl _ (Nat.le_refl _)).trans h.replay
    unfold dirAt
    rw [e, e2]
  refine ⟨h.f0, h.f1, h.r0, h.r1, Nat.le_trans h.files (Nat.le_succ _), ?_, ?_, fun j hj => ?_, h.sure⟩
  · have := h.changes; simp [turnS]; omega
  · have e : (turnS s x).changes.length = s.changes.length + 1 := by simp [turnS]
    rw [e, hr]; rfl
  · have e : (turnS s x).changes.length = s.changes.length + 1 := by simp [turnS]
    rw [e] at hj
    by_cases hj2 : j ≤ s.changes.length
    · rw [dirAt_front (s := s) (s' := turnS s x) (x := x) rfl rfl rfl j hj2]
      exact (h.dirs j hj2).mono (Nat.le_refl _) (Nat.le_succ _)
    · obtain rfl : j = s.changes.length + 1 := by omega
      rw [hr]
      exact h.good.turn hx
theorem DsOk.fileMore {s : DS} {n : Nat} (h : DsOk s n) : DsOk { s with files := s.files ++ [⟨[], 0⟩] } (n + 1) :=
  ⟨h.f0, h.f1, h.r0, h.r1, by have := h.files; simp; omega, Nat.le_trans h.changes (Nat.le_succ _), by rw [dirAt_congr (s := s) (s' := { s with files := s.files ++ [⟨[], 0⟩] }) rfl rfl rfl]; exact h.replay, fun j hj => by
    rw [dirAt_congr (s := s) (s' := { s with files := s.files ++ [⟨[], 0⟩] }) rfl rfl rfl]
    exact (h.dirs j hj).mono (by simp) (Nat.le_succ _), fun f hf => by
    simp only [List.mem_append, List.mem_singleton] at hf
    rcases hf with hf | rfl
    · exact h.sure f hf
    · simp⟩
theorem DsOk.create {s : DS} {n : Nat} (h : DsOk s n) (k : ByteArray) : DsOk (createS s k) (n + 2) := by
  unfold createS
  split
  · exact h.mono (by omega)
  · split
    · exact h.lets.mono (by omega)
    · rename_i h1 _
      have hk : mayB k = true := by
        have h2 : knownE s k = 7 := by
          apply Classical.byContradiction
          intro h3; exact h1 (.inl h3)
        unfold knownE at h2
        split at h2
        · cases h2
        · unfold foundE at h2
          split at h2
          · assumption
          · cases h2
      have hl := h.lets.fileMore
      obtain ⟨l1, l2, _⟩ := lets_files s
      rw [l1] at hl
      refine hl.turn (.inr ⟨hk, by simp, fun e he hev => ?_⟩)
      exfalso
      dsimp only at he hev
      rw [l2] at he
      have := h.good.file e he
      simp at hev
      omega
theorem knownE_zero {s : DS} {k : ByteArray} (h : knownE s k = 0) : s.dead = false ∧ mayB k = true ∧ (look s.names k).isSome = true := by
  unfold knownE at h
  split at h
  · cases h
  · rename_i hd
    unfold foundE at h
    split at h
    · rename_i hm
      split at h
      · rename_i hs
        exact ⟨by simpa using hd, hm, hs⟩
      · cases h
    · cases h
theorem DsOk.modify {s : DS} {n : Nat} (h : DsOk s n) (i : Nat) (f : DF → DF) (hf : ∀ x, s.files[i]? = some x → (f x).sure ≤ (f x).b.length ∧ (f x).b.length ≤ 4194304) : DsOk { s with files := s.files.modify i f } n := by
  refine h.same h.f0 h.f1 h.r0 h.r1 rfl rfl rfl rfl rfl (by simp) fun x hx => ?_
  obtain ⟨j, hj⟩ := List.mem_iff_getElem?.1 hx
  dsimp only at hj
  rw [List.getElem?_modify] at hj
  cases hy : s.files[j]? with
  | none => rw [hy] at hj; cases hj
  | some y =>
    rw [hy] at hj
    simp only [Option.map_eq_map, Option.map_some, Option.some.injEq] at hj
    subst hj
    by_cases hij : i = j
    · rw [if_pos hij]
      exact hf y (by rw [hij]; exact hy)
    · rw [if_neg hij]
      exact h.sure y (List.mem_of_getElem? hy)
theorem mem_le_sum {l : List Nat} {a : Nat} (h : a ∈ l) : a ≤ l.sum := by
  induction l with
  | nil => cases h
  | cons b l ih =>
    rw [List.sum_cons]
    rw [List.mem_cons] at h
    rcases h with rfl | h
    · omega
    · have := ih h; omega
theorem sum_le_mul {l : List Nat} {b : Nat} (h : ∀ a ∈ l, a ≤ b) : l.sum ≤ l.length * b := by
  induction l with
  | nil => simp
  | cons a l ih =>
    rw [List.sum_cons, List.length_cons, Nat.succ_mul]
    have := h a (List.mem_cons_self ..)
    have := ih (fun a ha => h a (List.mem_cons_of_mem _ ha))
    omega
theorem used_ge {s : DS} {k : ByteArray} {i : Nat} (h : look s.names k = some i) : lenAt s i ≤ usedN s := by
  obtain ⟨e, he, _, rfl⟩ := look_mem' h
  exact mem_le_sum (List.mem_map_of_mem (f := fun e => lenAt s e.2.1) he)
theorem lenAt_le {s : DS} {n : Nat} (h : DsOk s n) (i : Nat) : lenAt s i ≤ 4194304 := by
  unfold lenAt
  cases hy : s.files[i]? with
  | none => simp
  | some f => simpa using (h.sure f (List.mem_of_getElem? hy)).2
theorem used_le {s : DS} {n : Nat} (h : DsOk s n) : usedN s ≤ n * 4194304 := by
  have h1 : usedN s ≤ (s.names.map fun e => lenAt s e.2.1).length * 4194304 := sum_le_mul fun a ha => by
    obtain ⟨e, _, rfl⟩ := List.mem_map.1 ha
    exact lenAt_le h _
  rw [List.length_map] at h1
  have := h.good.many
  exact Nat.le_trans h1 (Nat.mul_le_mul_right _ this)
theorem DsOk.append {s : DS} {n : Nat} (h : DsOk s n) (k : ByteArray) (b : List UInt8) : DsOk (appendS s k b) n := by
  unfold appendS
  split
  · exact h
  · split
    · exact h.lets
    · rename_i h1 _
      have hk0 : knownE s k = 0 := Classical.byContradiction fun h3 => h1 (.inl h3)
      have hr : ¬ s.room - (usedN s : Int) < (b.length : Int) := fun h3 => h1 (.inr h3)
      obtain ⟨_, _, hs⟩ := knownE_zero hk0
      obtain ⟨i, hi⟩ := Option.isSome_iff_exists.1 hs
      rw [hi, Option.getD_some]
      obtain ⟨l1, _⟩ := lets_files s
      rw [← l1]
      refine h.lets.modify i _ fun x hx => ?_
      rw [l1] at hx
      have h2 := h.sure x (List.mem_of_getElem? hx)
      have h3 := used_ge hi
      have h4 : lenAt s i = x.b.length := by unfold lenAt; rw [hx]; rfl
      have h5 := h.r1
      simp only [List.length_append]
      omega
theorem DsOk.sync {s : DS} {n : Nat} (h : DsOk s n) (k : ByteArray) : DsOk (syncS s k) n := by
  unfold syncS
  split
  · exact h
  · split
    · exact h.lets
    · obtain ⟨l1, _⟩ := lets_files s
      rw [← l1]
      refine h.lets.modify _ _ fun x hx => ?_
      rw [l1] at hx
      exact ⟨Nat.le_refl _, (h.sure x (List.mem_of_getElem? hx)).2⟩
theorem DsOk.synced {s : DS} {n : Nat} (h : DsOk s n) : DsOk (syncDirS s) n :=
  ⟨h.f0, h.f1, h.r0, h.r1, h.files, Nat.zero_le _, rfl, fun j hj => by
    obtain rfl : j = 0 := Nat.le_zero.1 hj
    exact h.good, h.sure⟩
/-! what a crash leaves -/
def crashF (s : DS) (fl : List Int) (d : Dir) (i : Nat) (k : ByteArray) : DF :=
  ⟨((s.files[(look d k).getD 0]?).getD ⟨[], 0⟩).b.take (keepAt fl i ((s.files[(look d k).getD 0]?).getD ⟨[], 0⟩)), keepAt fl i ((s.files[(look d k).getD 0]?).getD ⟨[], 0⟩)⟩
theorem crashAt_facts (s : DS) (fl : List Int) (t0 : DS) (L : List ByteArray) (hL : L.Nodup) (hin : ∀ k ∈ L, (look t0.names k).isSome = true) (hf : t0.files = []) : ∀ j, j ≤ L.length →
    (crashAt s fl t0 L j).names.map (·.1) = t0.names.map (·.1) ∧ (crashAt s fl t0 L j).names.map (·.2.2) = t0.names.map (·.2.2) ∧ (crashAt s fl t0 L j).nclock = t0.nclock ∧
    (crashAt s fl t0 L j).files = (L.take j).mapIdx (fun i k => crashF s fl t0.names i k) ∧
    (∀ (i : Nat) k, L[i]? = some k → look (crashAt s fl t0 L j).names k = if i < j then some i else look t0.names k) ∧
    (crashAt s fl t0 L j).room = t0.room ∧ (crashAt s fl t0 L j).fuse = t0.fuse ∧ (crashAt s fl t0 L j).dead = t0.dead ∧ (crashAt s fl t0 L j).changes = t0.changes
  | 0, _ => by
    refine ⟨rfl, rfl, rfl, by simp [crashAt, hf], fun i k _ => by simp [crashAt], rfl, rfl, rfl, rfl⟩
  | j + 1, hj => by
    obtain ⟨h1, h2, h3, h4, h5, h6, h7, h8, h9⟩ := crashAt_facts s fl t0 L hL hin hf j (by omega)
    have hk : L[j]? = some L[j] := List.getElem?_eq_getElem (by omega)
    have hlk := h5 j L[j] hk
    rw [if_neg (Nat.lt_irrefl j)] at hlk
    have hso := hin L[j] (List.getElem_mem _)
    have hold := dirSet_old (crashAt s fl t0 L j).nclock L[j] j (crashAt s fl t0 L j).names (by rw [hlk]; exact hso)
    unfold crashAt
    rw [hk]
    dsimp only
    refine ⟨hold.1.trans h1, hold.2.1.trans h2, hold.2.2.trans h3, ?_, fun i k hi => ?_, h6, h7, h8, h9⟩
    · rw [h4, List.take_add_one, hk, Option.toList_some, List.mapIdx_append]
      simp only [List.mapIdx_cons, List.mapIdx_nil, List.length_take, Nat.min_eq_left (show j ≤ L.length by omega), Nat.zero_add]
      rw [hlk]
      rfl
    · rw [look_dirSet]
      by_cases hik : k = L[j]
      · have hij : i = j := by
          obtain ⟨hi1, hi2⟩ := List.getElem?_eq_some_iff.1 hi
          exact (List.getElem_inj hL).1 (hi2.trans hik)
        rw [if_pos hik, if_pos (by omega), hij]
      · rw [if_neg hik, h5 i k hi]
        have hij : i ≠ j := fun e => by
          subst e
          rw [hk] at hi
          exact hik (Option.some.inj hi).symm
        by_cases hlt : i < j
        · rw [if_pos hlt, if_pos (by omega)]
        · rw [if_neg hlt, if_neg (by omega)]
def crashD (s : DS) (dir : Int) : Dir := (dirAt s (crashJ s dir)).1
def crashL (s : DS) (dir : Int) : List ByteArray := (sortedK (crashD s dir)).map ofL
theorem crashJ_le (s : DS) (dir : Int) : crashJ s dir ≤ s.changes.length := by
  unfold crashJ withinI; omega
theorem DsOk.crashGood {s : DS} {n : Nat} (h : DsOk s n) (dir : Int) : DirGood (crashD s dir) (dirAt s (crashJ s dir)).2 s.files.length n := h.dirs _ (crashJ_le s dir)
theorem crashL_nodup {s : DS} {n : Nat} (h : DsOk s n) (dir : Int) : (crashL s dir).Nodup := nodup_sortedK (h.crashGood dir).keys
theorem crashL_in {s : DS} {dir : Int} : ∀ k, k ∈ crashL s dir ↔ (look (crashD s dir) k).isSome = true := fun _ => mem_sortedK
theorem crashL_len (s : DS) (dir : Int) : (crashL s dir).length = (crashD s dir).length := by
  unfold crashL; rw [List.length_map, sortedK_len]
theorem crashT_facts {s : DS} {n : Nat} (h : DsOk s n) (dir : Int) (fl : List Int) :
    (crashT s dir fl).names.map (·.1) = (crashD s dir).map (·.1) ∧ (crashT s dir fl).names.map (·.2.2) = (crashD s dir).map (·.2.2) ∧ (crashT s dir fl).nclock = (dirAt s (crashJ s dir)).2 ∧
    (crashT s dir fl).files = (crashL s dir).mapIdx (fun i k => crashF s fl (crashD s dir) i k) ∧
    (∀ (i : Nat) k, (crashL s dir)[i]? = some k → look (crashT s dir fl).names k = some i) ∧
    (crashT s dir fl).room = s.room ∧ (crashT s dir fl).fuse = -1 ∧ (crashT s dir fl).dead = false ∧ (crashT s dir fl).changes = [] := by
  have hlen : (sortedK (crash0 s (crashJ s dir)).names).length = (crashL s dir).length := by
    unfold crashL; rw [List.length_map]; rfl
  have hT : crashT s dir fl = crashAt s fl (crash0 s (crashJ s dir)) (crashL s dir) (crashL s dir).length := by
    unfold crashT; rw [hlen]; rfl
  obtain ⟨h1, h2, h3, h4, h5, h6, h7, h8, h9⟩ := crashAt_facts s fl (crash0 s (crashJ s dir)) (crashL s dir) (crashL_nodup h dir) (fun k hk => crashL_in k |>.1 hk) rfl _ (Nat.le_refl _)
  rw [← hT] at h1 h2 h3 h4 h5 h6 h7 h8 h9
  refine ⟨h1, h2, h3, ?_, fun i k hi => ?_, h6, h7, h8, h9⟩
  · rw [h4, List.take_length]; rfl
  · rw [h5 i k hi, if_pos (List.getElem?_eq_some_iff.1 hi).1]
theorem crash_look {s : DS} {n : Nat} (h : DsOk s n) (dir : Int) (fl : List Int) (k : ByteArray) (hk : k ∉ crashL s dir) : look (crashT s dir fl).names k = none := by
  obtain ⟨h1, _, _, _, h5, _⟩ := crashT_facts h dir fl
  rw [look_none_iff, h1, ← look_none_iff]
  cases hl : look (crashD s dir) k with
  | none => rfl
  | some v => exact absurd ((crashL_in k).2 (by rw [hl]; rfl)) hk
theorem keepAt_le {fl : List Int} {i : Nat} {f : DF} (h : f.sure ≤ f.b.length) : f.sure ≤ keepAt fl i f ∧ keepAt fl i f ≤ f.b.length := by
  unfold keepAt
  cases hq : fl[i]? with
  | none => dsimp only; omega
  | some n =>
    obtain ⟨_, h2⟩ := withinB n f.b.length f.sure h
    exact ⟨Nat.le_add_right _ _, h2⟩
theorem crashF_ok {s : DS} {n : Nat} (h : DsOk s n) (fl : List Int) (d : Dir) (i : Nat) (k : ByteArray) : (crashF s fl d i k).b.length = (crashF s fl d i k).sure ∧ (crashF s fl d i k).b.length ≤ 4194304 := by
  have hf : ((s.files[(look d k).getD 0]?).getD ⟨[], 0⟩).sure ≤ ((s.files[(look d k).getD 0]?).getD ⟨[], 0⟩).b.length ∧ ((s.files[(look d k).getD 0]?).getD ⟨[], 0⟩).b.length ≤ 4194304 := by
    cases hy : s.files[(look d k).getD 0]? with
    | none => simp
    | some f => simpa using h.sure f (List.mem_of_getElem? hy)
  obtain ⟨h1, h2⟩ := hf
  have h3 := keepAt_le (fl := fl) (i := i) h1
  unfold crashF
  dsimp only
  rw [List.length_take]
  omega
theorem DsOk.crashNames {s : DS} {n : Nat} (h : DsOk s n) (dir : Int) (fl : List Int) : DirGood (crashT s dir fl).names (crashT s dir fl).nclock (crashL s dir).length n := by
  have hg := h.crashGood dir
  obtain ⟨h1, h2, h3, _, h5, _⟩ := crashT_facts h dir fl
  have hk : ((crashT s dir fl).names.map (·.1)).Nodup := by rw [h1]; exact hg.keys
  have hv : ∀ e ∈ (crashT s dir fl).names, (crashL s dir)[e.2.1]? = some e.1 := fun e he => by
    have hl := look_of hk he
    by_cases hm : e.1 ∈ crashL s dir
    · obtain ⟨i, hi⟩ := List.mem_iff_getElem?.1 hm
      rw [h5 i e.1 hi] at hl
      rw [← Option.some.inj hl]; exact hi
    · rw [crash_look h dir fl e.1 hm] at hl; cases hl
  refine ⟨fun e he => ?_, by rw [h2]; exact hg.once, hk, fun e he => ?_, fun e he => ?_, fun e he e' he' heq => ?_, ?_⟩
  · have hb : e.2.2 ∈ (crashD s dir).map (·.2.2) := by rw [← h2]; exact List.mem_map_of_mem (f := fun e : ByteArray × Nat × Nat => e.2.2) he
    obtain ⟨x, hx, hxe⟩ := List.mem_map.1 hb
    rw [h3, ← hxe]; exact hg.born x hx
  · have hb : e.1 ∈ (crashD s dir).map (·.1) := by rw [← h1]; exact List.mem_map_of_mem (f := fun e : ByteArray × Nat × Nat => e.1) he
    obtain ⟨x, hx, hxe⟩ := List.mem_map.1 hb
    rw [← hxe]; exact hg.may x hx
  · exact (List.getElem?_eq_some_iff.1 (hv e he)).1
  · have a := hv e he
    have b := hv e' he'
    rw [heq, b] at a
    exact (Option.some.inj a).symm
  · have : (crashT s dir fl).names.length = (crashD s dir).length := by
      have := congrArg List.length h1
      simpa using this
    rw [this]; exact hg.many
theorem DsOk.crash {s : DS} {n : Nat} (h : DsOk s n) (dir : Int) (fl : List Int) : DsOk (crashS s dir fl) n := by
  have hg := h.crashNames dir fl
  obtain ⟨h1, h2, h3, h4, h5, h6, h7, h8, h9⟩ := crashT_facts h dir fl
  have hlen : (crashS s dir fl).files.length = (crashL s dir).length := by show (crashT s dir fl).files.length = _; rw [h4, List.length_mapIdx]
  have hc : (crashS s dir fl).changes = [] := h9
  refine ⟨?_, ?_, ?_, ?_, ?_, ?_, ?_, fun j hj => ?_, fun f hf => ?_⟩
  · show -1 ≤ (crashT s dir fl).fuse; rw [h7]; decide
  · show (crashT s dir fl).fuse ≤ _; rw [h7]; decide
  · show 0 ≤ (crashT s dir fl).room; rw [h6]; exact h.r0
  · show (crashT s dir fl).room ≤ _; rw [h6]; exact h.r1
  · rw [hlen, crashL_len]; exact (h.crashGood dir).many
  · rw [hc]; exact Nat.zero_le _
  · rw [hc]; rfl
  · rw [hc] at hj
    obtain rfl : j = 0 := Nat.le_zero.1 hj
    rw [hlen]; exact hg
  · change f ∈ (crashT s dir fl).files at hf
    rw [h4] at hf
    obtain ⟨i, hi⟩ := List.mem_iff_getElem?.1 hf
    rw [List.getElem?_mapIdx] at hi
    cases hk : (crashL s dir)[i]? with
    | none => rw [hk] at hi; cases hi
    | some k =>
      rw [hk] at hi
      simp only [Option.map_some, Option.some.injEq] at hi
      subst hi
      obtain ⟨a, b⟩ := crashF_ok h fl (crashD s dir) i k
      exact ⟨by omega, b⟩
theorem DsOk.crashOk {s : DS} {n : Nat} (h : DsOk s n) (hn : n ≤ 1000000000) (dir : Int) (fl : List Int) : CrashOk s fl (crash0 s (crashJ s dir)) := by
  have hg := h.crashGood dir
  refine ⟨hg.keysOk (Nat.le_trans h.files hn) hn, fun j k hj => ?_, h.sure⟩
  have hj' : (crashL s dir)[j]? = some k := hj
  have hlt := (List.getElem?_eq_some_iff.1 hj').1
  obtain ⟨_, _, _, _, h5, _⟩ := crashAt_facts s fl (crash0 s (crashJ s dir)) (crashL s dir) (crashL_nodup h dir) (fun k hk => crashL_in k |>.1 hk) rfl j (Nat.le_of_lt hlt)
  have h6 := h5 j k hj'
  rw [if_neg (Nat.lt_irrefl j)] at h6
  have hso := (crashL_in k).1 (List.mem_of_getElem? hj')
  obtain ⟨v, hv⟩ := Option.isSome_iff_exists.1 hso
  have h7 : look (crash0 s (crashJ s dir)).names k = some v := hv
  refine ⟨v, h6.trans h7, ?_⟩
  obtain ⟨e, he, _, rfl⟩ := look_mem' hv
  exact hg.file e he
theorem crash_sorted {s : DS} {n : Nat} (h : DsOk s n) (dir : Int) (fl : List Int) : sortedK (crashS s dir fl).names = sortedK (crashD s dir) := by
  obtain ⟨h1, _⟩ := crashT_facts h dir fl
  have h1' : (crashS s dir fl).names.map (·.1) = (crashD s dir).map (·.1) := h1
  have e : ∀ d : Dir, (d.map fun e => keyL e.1) = (d.map (·.1)).map keyL := fun d => by simp
  unfold sortedK
  rw [e, e, h1']
end Go.Proofs.Herb
namespace Go.Proofs.Herb
open Go.RowKit Go.Sort
theorem crashL_may {s : DS} {n : Nat} (h : DsOk s n) (dir : Int) {k : ByteArray} (hk : k ∈ crashL s dir) : mayB k = true := by
  obtain ⟨v, hv⟩ := Option.isSome_iff_exists.1 ((crashL_in k).1 hk)
  obtain ⟨e, he, rfl, _⟩ := look_mem' hv
  exact (h.crashGood dir).may e he
theorem crash_read {s : DS} {n : Nat} (h : DsOk s n) (dir : Int) (fl : List Int) {i : Nat} {k : ByteArray} (hi : (crashL s dir)[i]? = some k) :
    knownE (crashS s dir fl) k = 0 ∧ readL (crashS s dir fl) k = (crashF s fl (crashD s dir) i k).b ∧ look (crashS s dir fl).names k = some i ∧ (crashS s dir fl).files[i]? = some (crashF s fl (crashD s dir) i k) := by
  obtain ⟨_, _, _, h4, h5, _, _, h8, _⟩ := crashT_facts h dir fl
  have hl : look (crashS s dir fl).names k = some i := h5 i k hi
  have hd : (crashS s dir fl).dead = false := h8
  have hm := crashL_may h dir (List.mem_of_getElem? hi)
  have hf : (crashS s dir fl).files[i]? = some (crashF s fl (crashD s dir) i k) := by
    show (crashT s dir fl).files[i]? = _
    rw [h4, List.getElem?_mapIdx, hi]; rfl
  have hk : knownE (crashS s dir fl) k = 0 := by
    unfold knownE foundE
    rw [hd, hm, hl]; rfl
  refine ⟨hk, ?_, hl, hf⟩
  unfold readL fileL
  rw [if_pos hk, hl, Option.getD_some, hf]; rfl
theorem sortedK_mem {s : DS} {k : ByteArray} {i : Nat} (h : ((sortedK s.names).map ofL)[i]? = some k) : (look s.names k).isSome = true := mem_sortedK.1 (List.mem_of_getElem? h)
/-- a file as a name leads to it -/
def fileAt (s : DS) (k : ByteArray) : DF := (s.files[(look s.names k).getD 0]?).getD ⟨[], 0⟩
theorem fileAt_b (s : DS) (k : ByteArray) : fileL s k = (fileAt s k).b := by
  unfold fileL fileAt
  cases s.files[(look s.names k).getD 0]? <;> rfl
theorem crashF_at {s : DS} {fl : List Int} {i : Nat} {k : ByteArray} : crashF s fl s.names i k = ⟨(fileAt s k).b.take (keepAt fl i (fileAt s k)), keepAt fl i (fileAt s k)⟩ := rfl
theorem keep_sure {fl : List Int} {i : Nat} {f : DF} (h : f.sure = f.b.length) : keepAt fl i f = f.b.length := by
  obtain ⟨h1, h2⟩ := keepAt_le (fl := fl) (i := i) (f := f) (by omega)
  omega
theorem sorted_at {s : DS} {n : Nat} (h : DsOk s n) (hd : s.dead = false) {k : ByteArray} (hk : k ∈ (sortedK s.names).map ofL) : knownE s k = 0 ∧ readL s k = (fileAt s k).b := by
  have hs := mem_sortedK.1 hk
  obtain ⟨v, hv⟩ := Option.isSome_iff_exists.1 hs
  obtain ⟨e, he, rfl, _⟩ := look_mem' hv
  have hm := h.good.may e he
  have hk0 : knownE s e.1 = 0 := by
    unfold knownE foundE
    rw [hd, hm, hs]; rfl
  refine ⟨hk0, ?_⟩
  unfold readL
  rw [if_pos hk0, fileAt_b]
/-- two disks with the same names, and bytes -/
def SameS (s t : DS) : Prop := sortedK s.names = sortedK t.names ∧ ∀ k, k ∈ (sortedK s.names).map ofL → knownE s k = 0 ∧ knownE t k = 0 ∧ readL s k = readL t k
/-- a crash behind which all is there, and each file has the bytes that are sure, or all -/
theorem crash_same {s : DS} {n : Nat} (h : DsOk s n) (hd : s.dead = false) (dir : Int) (fl : List Int) (hD : crashD s dir = s.names) (hk : ∀ (i : Nat) k, ((sortedK s.names).map ofL)[i]? = some k → keepAt fl i (fileAt s k) = (fileAt s k).b.length) :
    SameS (crashS s dir fl) s := by
  have hs := crash_sorted h dir fl
  rw [hD] at hs
  refine ⟨hs, fun k hkm => ?_⟩
  rw [hs] at hkm
  obtain ⟨h1, h2⟩ := sorted_at h hd hkm
  obtain ⟨i, hi⟩ := List.mem_iff_getElem?.1 hkm
  obtain ⟨h3, h4, _⟩ := crash_read h dir fl (i := i) (k := k) (by unfold crashL; rw [hD]; exact hi)
  refine ⟨h3, h1, ?_⟩
  rw [h4, h2, hD, crashF_at, hk i k hi, List.take_length]
end Go.Proofs.Herb
namespace Go.Proofs.Herb
open Go.RowKit Go.Sort
/-- a file more, its bytes, made sure -/
def put1E (s : DS) (k : ByteArray) (b : List UInt8) : Int := if createE s k ≠ 0 then createE s k else if appendE (createS s k) k b ≠ 0 then appendE (createS s k) k b else syncE (appendS (createS s k) k b) k
def put1S (s : DS) (k : ByteArray) (b : List UInt8) : DS := if createE s k ≠ 0 then createS s k else if appendE (createS s k) k b ≠ 0 then appendS (createS s k) k b else syncS (appendS (createS s k) k b) k
def putE (s : DS) : List (ByteArray × List UInt8) → Int
  | [] => 0
  | x :: r => if put1E s x.1 x.2 ≠ 0 then put1E s x.1 x.2 else putE (put1S s x.1 x.2) r
def putS (s : DS) : List (ByteArray × List UInt8) → DS
  | [] => s
  | x :: r => if put1E s x.1 x.2 ≠ 0 then put1S s x.1 x.2 else putS (put1S s x.1 x.2) r
theorem DsOk.put1 {s : DS} {n : Nat} (h : DsOk s n) (k : ByteArray) (b : List UInt8) : DsOk (put1S s k b) (n + 2) := by
  unfold put1S
  split
  · exact h.create k
  · split
    · exact (h.create k).append k b
    · exact ((h.create k).append k b).sync k
theorem DsOk.put {n : Nat} : ∀ {s : DS} (_ : DsOk s n) (l : List (ByteArray × List UInt8)), DsOk (putS s l) (n + 2 * l.length)
  | s, h, [] => h
  | s, h, x :: r => by
    unfold putS
    split
    · exact (h.put1 x.1 x.2).mono (by rw [List.length_cons]; omega)
    · exact (DsOk.put (h.put1 x.1 x.2) r).mono (by rw [List.length_cons]; omega)
/-- no fuse, alive -/
structure FreeS (s : DS) : Prop where
  dead : s.dead = false
  fuse : s.fuse = -1
/-- a file of a name, all its bytes sure -/
def HasF (s : DS) (k : ByteArray) (b : List UInt8) : Prop := mayB k = true ∧ ∃ i, look s.names k = some i ∧ s.files[i]? = some ⟨b, b.length⟩
theorem HasF.known {s : DS} {k : ByteArray} {b : List UInt8} (h : HasF s k b) (hf : FreeS s) : knownE s k = 0 ∧ readL s k = b := by
  obtain ⟨hm, i, h1, h2⟩ := h
  have hk : knownE s k = 0 := by unfold knownE foundE; rw [hf.dead, hm, h1]; rfl
  refine ⟨hk, ?_⟩
  unfold readL fileL
  rw [if_pos hk, h1, Option.getD_some, h2]
  rfl
structure Put1 (s t : DS) (k : ByteArray) (b : List UInt8) : Prop where
  free : FreeS t
  many : t.names.length = s.names.length + 1
  has : HasF t k b
  keep : ∀ q c, HasF s q c → HasF t q c
  new : look s.names k = none
  only : ∀ q, (look t.names q).isSome = true → q = k ∨ (look s.names q).isSome = true
theorem put1_ok {s : DS} {n : Nat} {k : ByteArray} {b : List UInt8} (ok : DsOk s n) (hf : FreeS s) (h : put1E s k b = 0) : Put1 s (put1S s k b) k b := by
  have hl : letsS s = s := by unfold letsS; rw [if_pos hf.fuse]
  have he : letsE s = 0 := by unfold letsE; rw [if_neg (by rw [hf.fuse]; decide)]
  unfold put1E at h
  have c0 : createE s k = 0 := by
    by_cases q : createE s k = 0
    · exact q
    · rw [if_pos q] at h; exact absurd h q
  rw [if_neg (fun q => q c0)] at h
  have c1 : appendE (createS s k) k b = 0 := by
    by_cases q : appendE (createS s k) k b = 0
    · exact q
    · rw [if_pos q] at h; exact absurd h q
  rw [if_neg (fun q => q c1)] at h
  have e0 : put1S s k b = syncS (appendS (createS s k) k b) k := by unfold put1S; rw [if_neg (fun q => q c0), if_neg (fun q => q c1)]
  have hk7 : knownE s k = 7 ∧ s.names.length < 200 := by
    unfold createE at c0
    by_cases q : knownE s k = 0
    · rw [if_pos q] at c0; cases c0
    · rw [if_neg q] at c0
      by_cases q7 : knownE s k = 7
      · rw [if_neg (fun q => q q7)] at c0
        by_cases q2 : 200 ≤ s.names.length
        · rw [if_pos q2] at c0; cases c0
        · exact ⟨q7, by omega⟩
      · rw [if_pos q7] at c0; exact absurd c0 q
  obtain ⟨hm, hn⟩ : mayB k = true ∧ look s.names k = none := by
    have h7 := hk7.1
    unfold knownE foundE at h7
    rw [hf.dead] at h7
    cases hm : mayB k
    · rw [hm] at h7; simp at h7
    · refine ⟨rfl, ?_⟩
      cases hl : look s.names k with
      | none => rfl
      | some v => rw [hm, hl] at h7; simp at h7
  have hg := ok.good
  have hlt : s.names.length < 200 := hk7.2
  obtain ⟨F, hF⟩ : ∃ F, F = s.files.length := ⟨_, rfl⟩
  have hs1 : createS s k = turnS { s with files := s.files ++ [⟨[], 0⟩] } ⟨k, (s.files.length : Int), ⟨#[]⟩⟩ := by
    unfold createS
    rw [if_neg (by rintro (q | q); exact q hk7.1; omega), if_neg (fun q => q he), hl]
  have ht : turnDir s.names s.nclock ⟨k, (s.files.length : Int), ⟨#[]⟩⟩ = dirSet s.names s.nclock k s.files.length := by
    unfold turnDir
    dsimp only
    rw [if_neg (by omega), if_neg (by simp), Int.toNat_natCast]
  have hn1 : (createS s k).names = dirSet s.names s.nclock k F := by rw [hs1, hF]; exact ht
  have hf1 : (createS s k).files = s.files ++ [⟨[], 0⟩] := by rw [hs1]; rfl
  have hd1 : (createS s k).dead = false ∧ (createS s k).fuse = -1 := by rw [hs1]; exact ⟨hf.dead, hf.fuse⟩
  have hlk : ∀ q, look (createS s k).names q = if q = k then some F else look s.names q := fun q => by rw [hn1]; exact look_dirSet _ _ _ _ _
  have hlen : (createS s k).names.length = s.names.length + 1 := by
    rw [hn1]
    unfold dirSet
    rcases look_cases s.names k with ⟨h1, _⟩ | ⟨j, e, h1, h3, h4, h5⟩
    · rw [h1]; simp
    · rw [hn] at h5; cases h5
  obtain ⟨s1, es1⟩ : ∃ t, t = createS s k := ⟨_, rfl⟩
  rw [← es1] at c1 e0 h hn1 hf1 hd1 hlk hlen
  have hl1 : letsS s1 = s1 := by unfold letsS; rw [if_pos hd1.2]
  have he1 : letsE s1 = 0 := by unfold letsE; rw [if_neg (by rw [hd1.2]; decide)]
  have hkk : look s1.names k = some F := by rw [hlk, if_pos rfl]
  have hk1 : knownE s1 k = 0 := by unfold knownE foundE; rw [hd1.1, hm, hkk]; rfl
  have hr1 : ¬ (s1.room - (usedN s1 : Int) < (b.length : Int)) := fun q => by
    unfold appendE at c1
    rw [if_neg (fun h => h hk1), if_pos q] at c1
    cases c1
  have e1 : appendS s1 k b = { s1 with files := s1.files.modify F fun f => ⟨f.b ++ b, f.sure⟩ } := by
    unfold appendS
    rw [if_neg (by rintro (q | q); exact q hk1; exact hr1 q), if_neg (fun q => q he1), hl1, hkk]
    rfl
  have e2 : put1S s k b = { s1 with files := (s1.files.modify F fun f => ⟨f.b ++ b, f.sure⟩).modify F fun f => ⟨f.b, f.b.length⟩ } := by
    rw [e0, e1]
    obtain ⟨s2, es2⟩ : ∃ t, t = ({ s1 with files := s1.files.modify F fun f => ⟨f.b ++ b, f.sure⟩ } : DS) := ⟨_, rfl⟩
    rw [← es2]
    have a1 : knownE s2 k = 0 := by rw [es2]; exact hk1
    have a2 : letsE s2 = 0 := by rw [es2]; exact he1
    have a3 : letsS s2 = s2 := by rw [es2]; unfold letsS; rw [if_pos hd1.2]
    have a4 : look s2.names k = some F := by rw [es2]; exact hkk
    unfold syncS
    rw [if_neg (fun q => q a1), if_neg (fun q => q a2), a3, a4, es2]
    rfl
  have hfiles : (put1S s k b).files = s.files ++ [⟨b, b.length⟩] := by
    rw [e2]
    show (s1.files.modify F _).modify F _ = _
    rw [hf1, hF]
    apply List.ext_getElem?
    intro i
    rw [List.getElem?_modify, List.getElem?_modify]
    by_cases q : i < s.files.length
    · rw [List.getElem?_append_left q, List.getElem?_append_left q]
      rw [List.getElem?_eq_getElem q]
      simp [show ¬ s.files.length = i by omega]
    · rw [List.getElem?_append_right (by omega), List.getElem?_append_right (by omega)]
      by_cases q2 : i = s.files.length
      · subst q2; simp
      · have : i - s.files.length ≠ 0 := by omega
        obtain ⟨j, hj⟩ : ∃ j, i - s.files.length = j + 1 := ⟨i - s.files.length - 1, by omega⟩
        rw [hj]; simp
  have hnames : (put1S s k b).names = s1.names := by rw [e2]
  refine ⟨⟨by rw [e2]; exact hd1.1, by rw [e2]; exact hd1.2⟩, by rw [hnames]; exact hlen, ⟨hm, F, by rw [hnames]; exact hkk, ?_⟩, fun q c hq => ?_, hn, fun q hq => ?_⟩
  · rw [hfiles, hF]; simp
  · obtain ⟨h1, i, h2, h3⟩ := hq
    refine ⟨h1, i, ?_, ?_⟩
    · rw [hnames, hlk, if_neg (fun e => by rw [e, hn] at h2; cases h2)]; exact h2
    · rw [hfiles, List.getElem?_append_left (List.getElem?_eq_some_iff.1 h3).1]; exact h3
  · rw [hnames, hlk] at hq
    by_cases e : q = k
    · exact .inl e
    · rw [if_neg e] at hq; exact .inr hq
/-- what a disk has behind files that were written on it -/
structure PutOk (s t : DS) (l : List (ByteArray × List UInt8)) : Prop where
  free : FreeS t
  many : t.names.length = s.names.length + l.length
  has : ∀ x ∈ l, HasF t x.1 x.2
  keep : ∀ q c, HasF s q c → HasF t q c
  only : ∀ q, (look t.names q).isSome = true → (∃ x ∈ l, x.1 = q) ∨ (look s.names q).isSome = true
theorem put_ok : ∀ {l : List (ByteArray × List UInt8)} {s : DS} {n : Nat} (_ : DsOk s n) (_ : FreeS s) (_ : putE s l = 0), PutOk s (putS s l) l
  | [], s, n, ok, hf, h => ⟨hf, rfl, fun x hx => (by cases hx), fun _ _ h => h, fun _ h => .inr h⟩
  | x :: r, s, n, ok, hf, h => by
    unfold putE at h
    have c0 : put1E s x.1 x.2 = 0 := by
      by_cases q : put1E s x.1 x.2 = 0
      · exact q
      · rw [if_pos q] at h; exact absurd h q
    rw [if_neg (fun q => q c0)] at h
    have h1 := put1_ok ok hf c0
    have h2 := put_ok (ok.put1 x.1 x.2) h1.free h
    have e : putS s (x :: r) = putS (put1S s x.1 x.2) r := by
      show (if put1E s x.1 x.2 ≠ 0 then _ else _) = _
      rw [if_neg (fun q => q c0)]
    rw [e]
    refine ⟨h2.free, by rw [h2.many, h1.many, List.length_cons]; omega, fun y hy => ?_, fun q c hq => h2.keep q c (h1.keep q c hq), fun q hq => ?_⟩
    · rcases List.mem_cons.1 hy with rfl | hy
      · exact h2.keep _ _ h1.has
      · exact h2.has y hy
    · rcases h2.only q hq with ⟨y, hy, e⟩ | hq
      · exact .inl ⟨y, List.mem_cons_of_mem _ hy, e⟩
      · rcases h1.only q hq with e | hq
        · exact .inl ⟨x, List.mem_cons_self, e.symm⟩
        · exact .inr hq
end Go.Proofs.Herb
