/- What a disk's states keep, and what a crash leaves: plain lemmas on directories and files. No condition. How many bytes a disk's names lead to: plain lemmas. No condition. Files that are written on a disk, one behind the other, each made sure: what each call answers, and what the disk has behind them. Plain; for states as DsOk says. -/
import Derived.Test.YtcmiillgniglaaaGreatDoorQf20
namespace Go.Proofs.Herb
open Go.RowKit Go.Sort
/-! directories -/
structure DirGood (d : Dir) (c F n : Nat) : Prop where
  born : ∀ e ∈ d, e.2.2 < c
  once : (d.map (·.2.2)).Nodup
  keys : (d.map (·.1)).Nodup
  may : ∀ e ∈ d, mayB e.1 = true
  file : ∀ e ∈ d, e.2.1 < F
  inj : ∀ e ∈ d, ∀ e' ∈ d, e.2.1 = e'.2.1 → e.1 = e'.1
  many : d.length ≤ n
theorem may_ne {k : ByteArray} (h : mayB k = true) : k ≠ ⟨#[]⟩ := by
  rintro rfl
  exact absurd h (by decide)
theorem DirGood.ok {d : Dir} {c F n : Nat} (h : DirGood d c F n) : DirOk d c F := ⟨h.born, h.once, h.file⟩
theorem DirGood.mono {d : Dir} {c F n F' n' : Nat} (h : DirGood d c F n) (hF : F ≤ F') (hn : n ≤ n') : DirGood d c F' n' :=
  ⟨h.born, h.once, h.keys, h.may, fun e he => Nat.lt_of_lt_of_le (h.file e he) hF, h.inj, Nat.le_trans h.many hn⟩
theorem DirGood.nil (F n : Nat) : DirGood [] 0 F n := ⟨by simp, by simp, by simp, by simp, by simp, by simp, by simp⟩
theorem DirGood.sub {d d' : Dir} {c F n : Nat} (h : DirGood d c F n) (hs : d'.Sublist d) : DirGood d' c F n :=
  ⟨fun e he => h.born e (hs.subset he), (hs.map _).nodup h.once, (hs.map _).nodup h.keys, fun e he => h.may e (hs.subset he), fun e he => h.file e (hs.subset he), fun e he e' he' => h.inj e (hs.subset he) e' (hs.subset he'), Nat.le_trans hs.length_le h.many⟩
theorem dirDel_sub (d : Dir) (k : ByteArray) : (dirDel d k).Sublist d := by
  unfold dirDel
  split
  · exact List.eraseIdx_sublist _ _
  · exact List.Sublist.refl _
theorem DirGood.del {d : Dir} {c F n : Nat} (h : DirGood d c F n) (k : ByteArray) : DirGood (dirDel d k) c F n := h.sub (dirDel_sub d k)
theorem lookAt_none_key {d : Dir} {k : ByteArray} (h : lookAt d k = none) : ∀ e ∈ d, e.1 ≠ k := by
  unfold lookAt at h
  rw [List.findIdx?_eq_none_iff] at h
  intro e he
  simpa using h e he
theorem look_mem' {d : Dir} {k : ByteArray} {v : Nat} (h : look d k = some v) : ∃ e ∈ d, e.1 = k ∧ e.2.1 = v := by
  rcases look_cases d k with ⟨_, h2⟩ | ⟨j, e, _, h3, h4, h5⟩
  · rw [h2] at h; cases h
  · rw [h5] at h; exact ⟨e, List.mem_of_getElem? h3, h4, Option.some.inj h⟩
theorem key_inj {d : Dir} (hk : (d.map (·.1)).Nodup) {e e' : ByteArray × Nat × Nat} (h : e ∈ d) (h' : e' ∈ d) (heq : e.1 = e'.1) : e = e' := by
  induction d with
  | nil => cases h
  | cons x d ih =>
    simp only [List.map_cons, List.nodup_cons, List.mem_map, not_exists, not_and] at hk
    simp only [List.mem_cons] at h h'
    rcases h with rfl | h <;> rcases h' with rfl | h'
    · rfl
    · exact absurd heq.symm (hk.1 e' h')
    · exact absurd heq (hk.1 e h)
    · exact ih hk.2 h h'
theorem look_of {d : Dir} (hk : (d.map (·.1)).Nodup) {e : ByteArray × Nat × Nat} (h : e ∈ d) : look d e.1 = some e.2.1 := by
  rcases look_cases d e.1 with ⟨h1, _⟩ | ⟨j, e', _, h3, h4, h5⟩
  · exact absurd rfl (lookAt_none_key h1 e h)
  · rw [h5, key_inj hk (List.mem_of_getElem? h3) h h4]
theorem look_isSome {d : Dir} (k : ByteArray) : (look d k).isSome = true ↔ k ∈ d.map (·.1) := by
  rcases look_cases d k with ⟨h1, h2⟩ | ⟨j, e, h1, h3, h4, h5⟩
  · rw [h2]
    simp only [Option.isSome_none, Bool.false_eq_true, List.mem_map, false_iff]
    rintro ⟨e, he, rfl⟩
    exact lookAt_none_key h1 e he rfl
  · rw [h5]
    simp only [Option.isSome_some, List.mem_map, true_iff]
    exact ⟨e, List.mem_of_getElem? h3, h4⟩
theorem look_none_iff {d : Dir} (k : ByteArray) : look d k = none ↔ k ∉ d.map (·.1) := by
  rw [← look_isSome]; cases look d k <;> simp
theorem look_cons (e : ByteArray × Nat × Nat) (d : Dir) (k : ByteArray) : look (e :: d) k = if e.1 = k then some e.2.1 else look d k := by
  unfold look
  rw [List.find?_cons]
  by_cases h : e.1 = k <;> simp [h]
theorem lookAt_cons (e : ByteArray × Nat × Nat) (d : Dir) (k : ByteArray) : lookAt (e :: d) k = if e.1 = k then some 0 else (lookAt d k).map (· + 1) := by
  unfold lookAt
  rw [List.findIdx?_cons]
  by_cases h : e.1 = k <;> simp [h]
theorem dirDel_cons (e : ByteArray × Nat × Nat) (d : Dir) (k : ByteArray) : dirDel (e :: d) k = if e.1 = k then d else e :: dirDel d k := by
  unfold dirDel
  rw [lookAt_cons]
  by_cases h : e.1 = k
  · simp [h]
  · rw [if_neg h, if_neg h]
    cases lookAt d k <;> rfl
theorem dirSet_cons (e : ByteArray × Nat × Nat) (d : Dir) (c : Nat) (k : ByteArray) (v : Nat) : dirSet (e :: d) c k v = if e.1 = k then (k, v, e.2.2) :: d else e :: dirSet d c k v := by
  unfold dirSet
  rw [lookAt_cons]
  by_cases h : e.1 = k
  · simp [h]
  · rw [if_neg h, if_neg h]
    cases lookAt d k <;> rfl
theorem clkSet_cons (e : ByteArray × Nat × Nat) (d : Dir) (c : Nat) (k : ByteArray) : clkSet (e :: d) c k = if e.1 = k then c else clkSet d c k := by
  unfold clkSet
  rw [lookAt_cons]
  by_cases h : e.1 = k
  · simp [h]
  · rw [if_neg h, if_neg h]
    cases lookAt d k <;> rfl
theorem dirSet_nil (c : Nat) (k : ByteArray) (v : Nat) : dirSet [] c k v = [(k, v, c)] := rfl
theorem look_nil (k : ByteArray) : look [] k = none := rfl
theorem look_dirDel {d : Dir} (hk : (d.map (·.1)).Nodup) (k q : ByteArray) : look (dirDel d k) q = if q = k then none else look d q := by
  induction d with
  | nil => simp [dirDel, lookAt, look_nil]
  | cons e d ih =>
    simp only [List.map_cons, List.nodup_cons] at hk
    rw [dirDel_cons, look_cons]
    by_cases h : e.1 = k
    · rw [if_pos h]
      by_cases hq : q = k
      · rw [if_pos hq, hq, ← h]; exact (look_none_iff _).2 hk.1
      · rw [if_neg hq, if_neg (fun h2 => hq (h2.symm.trans h))]
    · rw [if_neg h, look_cons, ih hk.2]
      by_cases hq : q = k
      · rw [if_pos hq, if_pos hq, if_neg (fun h2 => h (h2.trans hq))]
      · rw [if_neg hq, if_neg hq]
theorem look_dirSet (d : Dir) (c : Nat) (k : ByteArray) (v : Nat) (q : ByteArray) : look (dirSet d c k v) q = if q = k then some v else look d q := by
  induction d with
  | nil =>
    rw [dirSet_nil, look_cons]
    by_cases h : q = k
    · rw [if_pos h, if_pos h.symm]
    · rw [if_neg h, if_neg (fun h2 => h h2.symm)]
  | cons e d ih =>
    rw [dirSet_cons, look_cons]
    by_cases h : e.1 = k
    · rw [if_pos h, look_cons]
      by_cases hq : q = k
      · rw [if_pos hq, if_pos hq.symm]
      · rw [if_neg hq, if_neg (fun h2 => hq h2.symm), if_neg (fun h2 => hq (h2.symm.trans h))]
    · rw [if_neg h, look_cons, ih]
      by_cases hq : q = k
      · rw [if_pos hq, if_neg (fun h2 => h (h2.trans hq))]
        rw [if_pos hq]
      · rw [if_neg hq, if_neg hq]
theorem dirSet_len (d : Dir) (c : Nat) (k : ByteArray) (v : Nat) : (dirSet d c k v).length ≤ d.length + 1 := by
  unfold dirSet; split <;> simp
theorem dirSet_new {d : Dir} {k : ByteArray} (h : look d k = none) (c v : Nat) : dirSet d c k v = d ++ [(k, v, c)] ∧ clkSet d c k = c + 1 := by
  have h' : lookAt d k = none := by
    rcases look_cases d k with ⟨h1, _⟩ | ⟨j, e, h1, _, _, h5⟩
    · exact h1
    · rw [h5] at h; cases h
  unfold dirSet clkSet
  rw [h']
  exact ⟨rfl, rfl⟩
theorem dirSet_old (c : Nat) (k : ByteArray) (v : Nat) : ∀ (d : Dir), (look d k).isSome = true → (dirSet d c k v).map (·.1) = d.map (·.1) ∧ (dirSet d c k v).map (·.2.2) = d.map (·.2.2) ∧ clkSet d c k = c
  | [], h => by cases h
  | e :: d, h => by
    rw [dirSet_cons, clkSet_cons]
    rw [look_cons] at h
    by_cases he : e.1 = k
    · rw [if_pos he, if_pos he]; simp [he]
    · rw [if_neg he] at h
      rw [if_neg he, if_neg he]
      obtain ⟨h1, h2, h3⟩ := dirSet_old c k v d h
      exact ⟨by simp [h1], by simp [h2], h3⟩
theorem dirSet_mem {d : Dir} (hk : (d.map (·.1)).Nodup) {c : Nat} {k : ByteArray} {v : Nat} {x : ByteArray × Nat × Nat} (h : x ∈ dirSet d c k v) : (x ∈ d ∧ x.1 ≠ k) ∨ (x.1 = k ∧ x.2.1 = v) := by
  induction d with
  | nil => rw [dirSet_nil, List.mem_singleton] at h; subst h; exact .inr ⟨rfl, rfl⟩
  | cons e d ih =>
    simp only [List.map_cons, List.nodup_cons, List.mem_map, not_exists, not_and] at hk
    rw [dirSet_cons] at h
    by_cases he : e.1 = k
    · rw [if_pos he, List.mem_cons] at h
      rcases h with rfl | h
      · exact .inr ⟨rfl, rfl⟩
      · exact .inl ⟨List.mem_cons_of_mem _ h, fun hx => hk.1 x h (hx.trans he.symm)⟩
    · rw [if_neg he, List.mem_cons] at h
      rcases h with rfl | h
      · exact .inl ⟨List.mem_cons_self .., he⟩
      · rcases ih hk.2 h with ⟨h1, h2⟩ | h1
        · exact .inl ⟨List.mem_cons_of_mem _ h1, h2⟩
        · exact .inr h1
theorem DirGood.set {d : Dir} {c F n : Nat} (h : DirGood d c F n) {k : ByteArray} (hk : mayB k = true) {v : Nat} (hv : v < F) (hi : ∀ e ∈ d, e.2.1 = v → e.1 = k) : DirGood (dirSet d c k v) (clkSet d c k) F (n + 1) := by
  have hmem := fun x (hx : x ∈ dirSet d c k v) => dirSet_mem h.keys hx
  have hm : (dirSet d c k v).length ≤ n + 1 := Nat.le_trans (dirSet_len _ _ _ _) (by have := h.many; omega)
  have hmay : ∀ e ∈ dirSet d c k v, mayB e.1 = true := fun e he => by
    rcases hmem e he with ⟨h1, _⟩ | ⟨h1, _⟩
    · exact h.may e h1
    · rw [h1]; exact hk
  have hfile : ∀ e ∈ dirSet d c k v, e.2.1 < F := fun e he => by
    rcases hmem e he with ⟨h1, _⟩ | ⟨_, h1⟩
    · exact h.file e h1
    · rw [h1]; exact hv
  have hinj : ∀ e ∈ dirSet d c k v, ∀ e' ∈ dirSet d c k v, e.2.1 = e'.2.1 → e.1 = e'.1 := fun e he e' he' heq => by
    rcases hmem e he with ⟨h1, h2⟩ | ⟨h1, h2⟩ <;> rcases hmem e' he' with ⟨h3, h4⟩ | ⟨h3, h4⟩
    · exact h.inj e h1 e' h3 heq
    · exact absurd (hi e h1 (heq.trans h4)) h2
    · exact absurd (hi e' h3 (heq.symm.trans h2)) h4
    · rw [h1, h3]
  cases hl : look d k with
  | none =>
    obtain ⟨e1, e2⟩ := dirSet_new hl c v
    rw [e2]
    refine ⟨fun e he => ?_, ?_, ?_, hmay, hfile, hinj, hm⟩
    · rw [e1, List.mem_append, List.mem_singleton] at he
      rcases he with he | rfl
      · have := h.born e he; omega
      · exact Nat.lt_succ_self c
    · rw [e1, List.map_append]
      refine List.nodup_append.2 ⟨h.once, by simp, fun a ha b hb => ?_⟩
      simp only [List.map_cons, List.map_nil, List.mem_singleton] at hb
      obtain ⟨e, he, rfl⟩ := List.mem_map.1 ha
      have := h.born e he
      omega
    · rw [e1, List.map_append]
      refine List.nodup_append.2 ⟨h.keys, by simp, fun a ha b hb => ?_⟩
      simp only [List.map_cons, List.map_nil, List.mem_singleton] at hb
      subst hb
      rintro rfl
      exact (look_none_iff _).1 hl ha
  | some u =>
    obtain ⟨e1, e2, e3⟩ := dirSet_old c k v d (by rw [hl]; rfl)
    rw [e3]
    refine ⟨fun e he => ?_, by rw [e2]; exact h.once, by rw [e1]; exact h.keys, hmay, hfile, hinj, hm⟩
    have : e.2.2 ∈ (dirSet d c k v).map (·.2.2) := List.mem_map_of_mem he
    rw [e2] at this
    obtain ⟨e', he', heq⟩ := List.mem_map.1 this
    rw [← heq]
    exact h.born e' he'
theorem turnDir_gone {d : Dir} {c F n : Nat} (h : DirGood d c F n) (g : ByteArray) : (if g ≠ ⟨#[]⟩ then dirDel d g else d) = dirDel d g := by
  by_cases hg : g = ⟨#[]⟩
  · rw [if_neg (fun h => h hg)]
    have : lookAt d g = none := by
      rcases look_cases d g with ⟨h1, _⟩ | ⟨j, e, _, h3, h4, _⟩
      · exact h1
      · exact absurd (h4.trans hg) (may_ne (h.may e (List.mem_of_getElem? h3)))
    unfold dirDel
    rw [this]
  · rw [if_pos hg]
theorem turnDir_eq {d : Dir} {c F n : Nat} (h : DirGood d c F n) (x : DC) :
    turnDir d c x = (if x.file < 0 then dirDel (dirDel d x.gone) x.name else dirSet (dirDel d x.gone) c x.name x.file.toNat) ∧ turnClk d c x = (if x.file < 0 then c else clkSet (dirDel d x.gone) c x.name) := by
  unfold turnDir turnClk
  rw [turnDir_gone h]
  exact ⟨rfl, rfl⟩
theorem DirGood.turn {d : Dir} {c F n : Nat} (h : DirGood d c F n) {x : DC} (hx : x.file < 0 ∨ (mayB x.name = true ∧ x.file.toNat < F ∧ ∀ e ∈ d, e.2.1 = x.file.toNat → e.1 = x.name ∨ e.1 = x.gone)) : DirGood (turnDir d c x) (turnClk d c x) F (n + 1) := by
  obtain ⟨e1, e2⟩ := turnDir_eq h x
  rw [e1, e2]
  by_cases hf : x.file < 0
  · rw [if_pos hf, if_pos hf]
    exact ((h.del _).del _).mono (Nat.le_refl _) (by omega)
  · rw [if_neg hf, if_neg hf]
    rcases hx with h1 | ⟨h1, h2, h3⟩
    · exact absurd h1 hf
    · refine (h.del _).set h1 h2 fun e he hev => ?_
      rcases h3 e ((dirDel_sub _ _).subset he) hev with h4 | h4
      · exact h4
      · exfalso
        have h5 := look_dirDel h.keys x.gone e.1
        rw [if_pos h4, look_of (h.del x.gone).keys he] at h5
        cases h5
/-! sorted names -/
/-! states -/
structure DsOk (s : DS) (n : Nat) : Prop where
  f0 : -1 ≤ s.fuse
  f1 : s.fuse ≤ 9223372036854775807
  r0 : 0 ≤ s.room
  r1 : s.room ≤ 4194304
  files : s.files.length ≤ n
  changes : s.changes.length ≤ n
  replay : dirAt s s.changes.length = (s.names, s.nclock)
  dirs : ∀ j, j ≤ s.changes.length → DirGood (dirAt s j).1 (dirAt s j).2 s.files.length n
  sure : ∀ f ∈ s.files, f.sure ≤ f.b.length ∧ f.b.length ≤ 4194304
theorem dirAt_congr {s s' : DS} (h1 : s'.sured = s.sured) (h2 : s'.sclock = s.sclock) (h3 : s'.changes = s.changes) : ∀ j, dirAt s' j = dirAt s j
  | 0 => by unfold dirAt; rw [h1, h2]
  | j + 1 => by unfold dirAt; rw [h3, dirAt_congr h1 h2 h3 j]
theorem dirAt_front {s s' : DS} (h1 : s'.sured = s.sured) (h2 : s'.sclock = s.sclock) {x : DC} (h3 : s'.changes = s.changes ++ [x]) : ∀ j, j ≤ s.changes.length → dirAt s' j = dirAt s j
  | 0, _ => by unfold dirAt; rw [h1, h2]
  | j + 1, hj => by
    unfold dirAt
    rw [h3, List.getElem?_append_left (by omega), dirAt_front h1 h2 h3 j (by omega)]
theorem DsOk.good {s : DS} {n : Nat} (h : DsOk s n) : DirGood s.names s.nclock s.files.length n := by
  have := h.dirs _ (Nat.le_refl _)
  rw [h.replay] at this
  exact this
theorem DsOk.mono {s : DS} {n n' : Nat} (h : DsOk s n) (hn : n ≤ n') : DsOk s n' :=
  ⟨h.f0, h.f1, h.r0, h.r1, Nat.le_trans h.files hn, Nat.le_trans h.changes hn, h.replay, fun j hj => (h.dirs j hj).mono (Nat.le_refl _) hn, h.sure⟩
theorem DsOk.new {room : Int} (h0 : 0 ≤ room) (h1 : room ≤ 4194304) : DsOk (newS room) 0 :=
  ⟨by simp [newS], by simp [newS], h0, h1, Nat.le_refl _, Nat.le_refl _, rfl, fun j hj => by
    obtain rfl : j = 0 := Nat.le_zero.1 hj
    exact DirGood.nil _ _, fun f hf => by cases hf⟩
/-- only room, fuse and dead, or the files' bytes have turned -/
theorem DsOk.same {s s' : DS} {n : Nat} (h : DsOk s n) (f0 : -1 ≤ s'.fuse) (f1 : s'.fuse ≤ 9223372036854775807) (r0 : 0 ≤ s'.room) (r1 : s'.room ≤ 4194304) (e1 : s'.names = s.names) (e2 : s'.nclock = s.nclock) (e3 : s'.sured = s.sured) (e4 : s'.sclock = s.sclock) (e5 : s'.changes = s.changes)
    (hl : s'.files.length = s.files.length) (hs : ∀ f ∈ s'.files, f.sure ≤ f.b.length ∧ f.b.length ≤ 4194304) : DsOk s' n :=
  ⟨f0, f1, r0, r1, by rw [hl]; exact h.files, by rw [e5]; exact h.changes, by rw [e5, e1, e2, dirAt_congr e3 e4 e5]; exact h.replay, fun j hj => by rw [dirAt_congr e3 e4 e5, hl]; exact h.dirs j (by rw [← e5]; exact hj), hs⟩
theorem DsOk.lets {s : DS} {n : Nat} (h : DsOk s n) : DsOk (letsS s) n := by
  obtain ⟨l1, l2, l3, l4, l5, l6, l7⟩ := lets_files s
  refine h.same ?_ ?_ (by rw [l7]; exact h.r0) (by rw [l7]; exact h.r1) l2 l3 l4 l5 l6 (by rw [l1]) (by rw [l1]; exact h.sure)
  · have h0 := h.f0
    unfold letsS
    split
    · exact h0
    · split
      · exact h0
      · dsimp only; omega
  · have h1 := h.f1
    unfold letsS
    split
    · exact h1
    · split
      · exact h1
      · dsimp only; omega
theorem DsOk.turn {s : DS} {n : Nat} (h : DsOk s n) {x : DC} (hx : x.file < 0 ∨ (mayB x.name = true ∧ x.file.toNat < s.files.length ∧ ∀ e ∈ s.names, e.2.1 = x.file.toNat → e.1 = x.name ∨ e.1 = x.gone)) : DsOk (turnS s x) (n + 1) := by
  have hr : dirAt (turnS s x) (s.changes.length + 1) = (turnDir s.names s.nclock x, turnClk s.names s.nclock x) := by
    have e : (turnS s x).changes[s.changes.length]? = some x := by simp [turnS]
    have e2 : dirAt (turnS s x) s.changes.length = (s.names, s.nclock) := (dirAt_front (s := s) (s' := turnS s x) (x := x) rfl rfl rfl _ (Nat.le_refl _)).trans h.replay
    unfold dirAt
    rw [e, e2]
  refine ⟨h.f0, h.f1, h.r0, h.r1, Nat.le_trans h.files (Nat.le_succ _), ?_, ?_, fun j hj => ?_, h.sure⟩
  · have := h.changes; simp [turnS]; omega
  · have e : (turnS s x).changes.length = s.changes.length + 1 := by simp [turnS]
    rw [e, hr]; rfl
  · have e : (turnS s x).changes.length = s.changes.length + 1 := by simp [turnS]
    rw [e] at hj
    by_cases hj2 : j ≤ s.changes.length
    · rw [dirAt_front (s := s) (s' := turnS s x) (x := x) rfl rfl rfl j hj2]
      exact (h.dirs j hj2).mono (Nat.le_refl _) (Nat.le_succ _)
    · obtain rfl : j = s.changes.length + 1 := by omega
      rw [hr]
      exact h.good.turn hx
theorem DsOk.fileMore {s : DS} {n : Nat} (h : DsOk s n) : DsOk { s with files := s.files ++ [⟨[], 0⟩] } (n + 1) :=
  ⟨h.f0, h.f1, h.r0, h.r1, by have := h.files; simp; omega, Nat.le_trans h.changes (Nat.le_succ _), by rw [dirAt_congr (s := s) (s' := { s with files := s.files ++ [⟨[], 0⟩] }) rfl rfl rfl]; exact h.replay, fun j hj => by
    rw [dirAt_congr (s := s) (s' := { s with files := s.files ++ [⟨[], 0⟩] }) rfl rfl rfl]
    exact (h.dirs j hj).mono (by simp) (Nat.le_succ _), fun f hf => by
    simp only [List.mem_append, List.mem_singleton] at hf
    rcases hf with hf | rfl
    · exact h.sure f hf
    · simp⟩
theorem DsOk.create {s : DS} {n : Nat} (h : DsOk s n) (k : ByteArray) : DsOk (createS s k) (n + 2) := by
  unfold createS
  split
  · exact h.mono (by omega)
  · split
    · exact h.lets.mono (by omega)
    · rename_i h1 _
      have hk : mayB k = true := by
        have h2 : knownE s k = 7 := by
          apply Classical.byContradiction
          intro h3; exact h1 (.inl h3)
        unfold knownE at h2
        split at h2
        · cases h2
        · unfold foundE at h2
          split at h2
          · assumption
          · cases h2
      have hl := h.lets.fileMore
      obtain ⟨l1, l2, _⟩ := lets_files s
      rw [l1] at hl
      refine hl.turn (.inr ⟨hk, by simp, fun e he hev => ?_⟩)
      exfalso
      dsimp only at he hev
      rw [l2] at he
      have := h.good.file e he
      simp at hev
      omega
theorem knownE_zero {s : DS} {k : ByteArray} (h : knownE s k = 0) : s.dead = false ∧ mayB k = true ∧ (look s.names k).isSome = true := by
  unfold knownE at h
  split at h
  · cases h
  · rename_i hd
    unfold foundE at h
    split at h
    · rename_i hm
      split at h
      · rename_i hs
        exact ⟨by simpa using hd, hm, hs⟩
      · cases h
    · cases h
theorem DsOk.modify {s : DS} {n : Nat} (h : DsOk s n) (i : Nat) (f : DF → DF) (hf : ∀ x, s.files[i]? = some x → (f x).sure ≤ (f x).b.length ∧ (f x).b.length ≤ 4194304) : DsOk { s with files := s.files.modify i f } n := by
  refine h.same h.f0 h.f1 h.r0 h.r1 rfl rfl rfl rfl rfl (by simp) fun x hx => ?_
  obtain ⟨j, hj⟩ := List.mem_iff_getElem?.1 hx
  dsimp only at hj
  rw [List.getElem?_modify] at hj
  cases hy : s.files[j]? with
  | none => rw [hy] at hj; cases hj
  | some y =>
    rw [hy] at hj
    simp only [Option.map_eq_map, Option.map_some, Option.some.injEq] at hj
    subst hj
    by_cases hij : i = j
    · rw [if_pos hij]
      exact hf y (by rw [hij]; exact hy)
    · rw [if_neg hij]
      exact h.sure y (List.mem_of_getElem? hy)
theorem mem_le_sum {l : List Nat} {a : Nat} (h : a ∈ l) : a ≤ l.sum := by
  induction l with
  | nil => cases h
  | cons b l ih =>
    rw [List.sum_cons]
    rw [List.mem_cons] at h
    rcases h with rfl | h
    · omega
    · have := ih h; omega
theorem sum_le_mul {l : List Nat} {b : Nat} (h : ∀ a ∈ l, a ≤ b) : l.sum ≤ l.length * b := by
  induction l with
  | nil => simp
  | cons a l ih =>
    rw [List.sum_cons, List.length_cons, Nat.succ_mul]
    have := h a (List.mem_cons_self ..)
    have := ih (fun a ha => h a (List.mem_cons_of_mem _ ha))
    omega
theorem used_ge {s : DS} {k : ByteArray} {i : Nat} (h : look s.names k = some i) : lenAt s i ≤ usedN s := by
  obtain ⟨e, he, _, rfl⟩ := look_mem' h
  exact mem_le_sum (List.mem_map_of_mem (f := fun e => lenAt s e.2.1) he)
theorem lenAt_le {s : DS} {n : Nat} (h : DsOk s n) (i : Nat) : lenAt s i ≤ 4194304 := by
  unfold lenAt
  cases hy : s.files[i]? with
  | none => simp
  | some f => simpa using (h.sure f (List.mem_of_getElem? hy)).2
theorem used_le {s : DS} {n : Nat} (h : DsOk s n) : usedN s ≤ n * 4194304 := by
  have h1 : usedN s ≤ (s.names.map fun e => lenAt s e.2.1).length * 4194304 := sum_le_mul fun a ha => by
    obtain ⟨e, _, rfl⟩ := List.mem_map.1 ha
    exact lenAt_le h _
  rw [List.length_map] at h1
  have := h.good.many
  exact Nat.le_trans h1 (Nat.mul_le_mul_right _ this)
theorem DsOk.append {s : DS} {n : Nat} (h : DsOk s n) (k : ByteArray) (b : List UInt8) : DsOk (appendS s k b) n := by
  unfold appendS
  split
  · exact h
  · split
    · exact h.lets
    · rename_i h1 _
      have hk0 : knownE s k = 0 := Classical.byContradiction fun h3 => h1 (.inl h3)
      have hr : ¬ s.room - (usedN s : Int) < (b.length : Int) := fun h3 => h1 (.inr h3)
      obtain ⟨_, _, hs⟩ := knownE_zero hk0
      obtain ⟨i, hi⟩ := Option.isSome_iff_exists.1 hs
      rw [hi, Option.getD_some]
      obtain ⟨l1, _⟩ := lets_files s
      rw [← l1]
      refine h.lets.modify i _ fun x hx => ?_
      rw [l1] at hx
      have h2 := h.sure x (List.mem_of_getElem? hx)
      have h3 := used_ge hi
      have h4 : lenAt s i = x.b.length := by unfold lenAt; rw [hx]; rfl
      have h5 := h.r1
      simp only [List.length_append]
      omega
theorem DsOk.sync {s : DS} {n : Nat} (h : DsOk s n) (k : ByteArray) : DsOk (syncS s k) n := by
  unfold syncS
  split
  · exact h
  · split
    · exact h.lets
    · obtain ⟨l1, _⟩ := lets_files s
      rw [← l1]
      refine h.lets.modify _ _ fun x hx => ?_
      rw [l1] at hx
      exact ⟨Nat.le_refl _, (h.sure x (List.mem_of_getElem? hx)).2⟩
/-! what a crash leaves -/
end Go.Proofs.Herb
namespace Go.Proofs.Herb
open Go.RowKit Go.Sort
def lenF (fs : List DF) (i : Nat) : Nat := (fs[i]?.map (·.b.length)).getD 0
def usedD (fs : List DF) (d : Dir) : Nat := (d.map fun e => lenF fs e.2.1).sum
def lookLen (fs : List DF) (d : Dir) (k : ByteArray) : Nat := match look d k with
  | some i => lenF fs i
  | none => 0
theorem usedN_eq (s : DS) : usedN s = usedD s.files s.names := rfl
theorem usedD_cons (fs : List DF) (e : ByteArray × Nat × Nat) (d : Dir) : usedD fs (e :: d) = lenF fs e.2.1 + usedD fs d := by simp [usedD]
theorem lookLen_cons (fs : List DF) (e : ByteArray × Nat × Nat) (d : Dir) (k : ByteArray) : lookLen fs (e :: d) k = if e.1 = k then lenF fs e.2.1 else lookLen fs d k := by
  unfold lookLen
  rw [look_cons]
  by_cases h : e.1 = k
  · rw [if_pos h, if_pos h]
  · rw [if_neg h, if_neg h]
theorem used_del (fs : List DF) (k : ByteArray) : ∀ d : Dir, usedD fs (dirDel d k) + lookLen fs d k = usedD fs d
  | [] => rfl
  | e :: d => by
    have ih := used_del fs k d
    rw [dirDel_cons, lookLen_cons, usedD_cons]
    by_cases h : e.1 = k
    · rw [if_pos h, if_pos h]; omega
    · rw [if_neg h, if_neg h, usedD_cons]; omega
theorem used_set (fs : List DF) (c : Nat) (k : ByteArray) (v : Nat) : ∀ d : Dir, usedD fs (dirSet d c k v) + lookLen fs d k = usedD fs d + lenF fs v
  | [] => by simp [dirSet_nil, usedD, lookLen, look_nil]
  | e :: d => by
    have ih := used_set fs c k v d
    rw [dirSet_cons, lookLen_cons, usedD_cons]
    by_cases h : e.1 = k
    · rw [if_pos h, if_pos h, usedD_cons]; dsimp only; omega
    · rw [if_neg h, if_neg h, usedD_cons]; omega
theorem used_congr {fs fs' : List DF} : ∀ {d : Dir}, (∀ e ∈ d, lenF fs' e.2.1 = lenF fs e.2.1) → usedD fs' d = usedD fs d
  | [], _ => rfl
  | e :: d, h => by
    rw [usedD_cons, usedD_cons, h e (List.mem_cons_self ..), used_congr fun e he => h e (List.mem_cons_of_mem _ he)]
theorem lenF_modify (fs : List DF) (i j : Nat) (f : DF → DF) : lenF (fs.modify i f) j = if i = j then ((fs[j]?.map fun x => (f x).b.length).getD 0) else lenF fs j := by
  unfold lenF
  rw [List.getElem?_modify]
  cases fs[j]? with
  | none => split <;> rfl
  | some y =>
    simp only [Option.map_eq_map, Option.map_some, Option.getD_some]
    by_cases h : i = j
    · rw [if_pos h, if_pos h]
    · rw [if_neg h, if_neg h]
theorem used_one {fs fs' : List DF} {k : ByteArray} {i : Nat} : ∀ {d : Dir}, (d.map (·.1)).Nodup → look d k = some i → (∀ e ∈ d, e.1 ≠ k → lenF fs' e.2.1 = lenF fs e.2.1) → usedD fs' d + lenF fs i = usedD fs d + lenF fs' i
  | [], _, h, _ => by cases h
  | e :: d, hk, h, ho => by
    simp only [List.map_cons, List.nodup_cons, List.mem_map, not_exists, not_and] at hk
    rw [look_cons] at h
    rw [usedD_cons, usedD_cons]
    by_cases he : e.1 = k
    · rw [if_pos he] at h
      cases h
      have : usedD fs' d = usedD fs d := used_congr fun x hx => ho x (List.mem_cons_of_mem _ hx) fun hxk => hk.1 x hx (hxk.trans he.symm)
      omega
    · rw [if_neg he] at h
      have := used_one hk.2 h (fun x hx => ho x (List.mem_cons_of_mem _ hx))
      have := ho e (List.mem_cons_self ..) he
      omega
theorem lookLen_none {fs : List DF} {d : Dir} {k : ByteArray} (h : look d k = none) : lookLen fs d k = 0 := by unfold lookLen; rw [h]
theorem lookLen_del {fs : List DF} {d : Dir} (hk : (d.map (·.1)).Nodup) (k q : ByteArray) : lookLen fs (dirDel d k) q = if q = k then 0 else lookLen fs d q := by
  unfold lookLen
  rw [look_dirDel hk]
  by_cases h : q = k
  · rw [if_pos h, if_pos h]
  · rw [if_neg h, if_neg h]
/-! each call's bytes -/
theorem lets_used (s : DS) : usedN (letsS s) = usedN s := by
  obtain ⟨l1, l2, _⟩ := lets_files s
  rw [usedN_eq, usedN_eq, l1, l2]
theorem known_seven {s : DS} {k : ByteArray} (h : knownE s k = 7) : s.dead = false ∧ mayB k = true ∧ look s.names k = none := by
  unfold knownE at h
  split at h
  · cases h
  · rename_i hd
    unfold foundE at h
    split at h
    · rename_i hm
      split at h
      · cases h
      · rename_i hs
        exact ⟨by simpa using hd, hm, by simpa using hs⟩
    · cases h
theorem turn_used {s : DS} {n : Nat} (h : DsOk s n) {fs : List DF} (x : DC) (hne : x.name ≠ x.gone) :
    usedD fs (turnDir s.names s.nclock x) + lookLen fs s.names x.gone + lookLen fs s.names x.name = usedD fs s.names + (if x.file < 0 then 0 else lenF fs x.file.toNat) := by
  have hg := h.good
  rw [(turnDir_eq hg x).1]
  have h1 := used_del fs x.gone s.names
  have h4 := lookLen_del (fs := fs) hg.keys x.gone x.name
  rw [if_neg hne] at h4
  by_cases hf : x.file < 0
  · rw [if_pos hf, if_pos hf]
    have h2 := used_del fs x.name (dirDel s.names x.gone)
    omega
  · rw [if_neg hf, if_neg hf]
    have h3 := used_set fs s.nclock x.name x.file.toNat (dirDel s.names x.gone)
    omega
theorem create_used {s : DS} {n : Nat} (h : DsOk s n) (k : ByteArray) : usedN (createS s k) = usedN s := by
  unfold createS
  split
  · rfl
  · split
    · exact lets_used s
    · rename_i h1 _
      have h2 : knownE s k = 7 := Classical.byContradiction fun h3 => h1 (.inl h3)
      obtain ⟨_, hm, hn⟩ := known_seven h2
      obtain ⟨l1, l2, l3, _⟩ := lets_files s
      have hfo : usedD (s.files ++ [⟨[], 0⟩]) s.names = usedD s.files s.names := used_congr fun e he => by
        have := h.good.file e he
        unfold lenF
        rw [List.getElem?_append_left this]
      have ht := turn_used h (fs := s.files ++ [⟨[], 0⟩]) ⟨k, (s.files.length : Int), ⟨#[]⟩⟩ (may_ne hm)
      have hz : look s.names ⟨#[]⟩ = none := by
        cases hl : look s.names ⟨#[]⟩ with
        | none => rfl
        | some v =>
          obtain ⟨e, he, hk, _⟩ := look_mem' hl
          exact absurd hk (may_ne (h.good.may e he))
      dsimp only at ht
      rw [lookLen_none hz, lookLen_none hn, if_neg (by omega), hfo] at ht
      have hlast : lenF (s.files ++ [⟨[], 0⟩]) (Int.toNat (s.files.length : Int)) = 0 := by simp [lenF]
      rw [hlast] at ht
      show usedD (s.files ++ [⟨[], 0⟩]) (turnDir (letsS s).names (letsS s).nclock ⟨k, (s.files.length : Int), ⟨#[]⟩⟩) = _
      rw [l2, l3, usedN_eq]
      omega
theorem append_used {s : DS} {n : Nat} (h : DsOk s n) (k : ByteArray) (b : List UInt8) : usedN (appendS s k b) = if appendE s k b = 0 then usedN s + b.length else usedN s := by
  have hE : appendE s k b = if knownE s k ≠ 0 then knownE s k else if s.room - (usedN s : Int) < (b.length : Int) then 9 else letsE s := rfl
  have hS : appendS s k b = if knownE s k ≠ 0 ∨ s.room - (usedN s : Int) < (b.length : Int) then s else if letsE s ≠ 0 then letsS s else { letsS s with files := s.files.modify ((look s.names k).getD 0) fun f => ⟨f.b ++ b, f.sure⟩ } := rfl
  by_cases h1 : knownE s k = 0
  · rw [if_neg (fun h => h h1)] at hE
    by_cases h2 : s.room - (usedN s : Int) < (b.length : Int)
    · rw [if_pos h2] at hE
      rw [if_pos (.inr h2)] at hS
      rw [hE, hS, if_neg (by decide)]
    · rw [if_neg h2] at hE
      rw [if_neg (fun h => by rcases h with h | h; exact h h1; exact h2 h)] at hS
      by_cases h3 : letsE s = 0
      · rw [if_neg (fun h => h h3)] at hS
        rw [hE, if_pos h3, hS]
        obtain ⟨_, _, hs⟩ := knownE_zero h1
        obtain ⟨i, hi⟩ := Option.isSome_iff_exists.1 hs
        obtain ⟨l1, l2, _⟩ := lets_files s
        rw [usedN_eq, usedN_eq, hi, Option.getD_some]
        dsimp only
        rw [l2]
        have hu := used_one (fs := s.files) (fs' := s.files.modify i fun f => ⟨f.b ++ b, f.sure⟩) h.good.keys hi (fun e he hek => by
          rw [lenF_modify, if_neg]
          rintro rfl
          obtain ⟨e', he', hk', hv'⟩ := look_mem' hi
          exact hek ((h.good.inj e he e' he' hv'.symm).trans hk'))
        rw [lenF_modify, if_pos rfl] at hu
        obtain ⟨e', he', hk', hv'⟩ := look_mem' hi
        have hlt := h.good.file e' he'
        rw [hv'] at hlt
        have e1 : s.files[i]? = some s.files[i] := List.getElem?_eq_getElem hlt
        unfold lenF at hu
        rw [e1] at hu
        simp only [Option.map_some, Option.getD_some, List.length_append] at hu
        omega
      · rw [if_pos h3] at hS
        rw [hE, if_neg h3, hS]
        exact lets_used s
  · rw [if_pos h1] at hE
    rw [if_pos (.inl h1)] at hS
    rw [hE, if_neg h1, hS]
theorem sync_used {s : DS} (k : ByteArray) : usedN (syncS s k) = usedN s := by
  unfold syncS
  split
  · rfl
  · split
    · exact lets_used s
    · obtain ⟨l1, l2, _⟩ := lets_files s
      rw [usedN_eq, usedN_eq]
      dsimp only
      rw [l2]
      refine used_congr fun e _ => ?_
      rw [lenF_modify]
      split
      · unfold lenF; cases s.files[e.2.1]? <;> rfl
      · rfl
end Go.Proofs.Herb
namespace Go.Proofs.Herb
open Go.RowKit Go.Sort
/-- a file more, its bytes, made sure -/
def put1E (s : DS) (k : ByteArray) (b : List UInt8) : Int := if createE s k ≠ 0 then createE s k else if appendE (createS s k) k b ≠ 0 then appendE (createS s k) k b else syncE (appendS (createS s k) k b) k
def put1S (s : DS) (k : ByteArray) (b : List UInt8) : DS := if createE s k ≠ 0 then createS s k else if appendE (createS s k) k b ≠ 0 then appendS (createS s k) k b else syncS (appendS (createS s k) k b) k
def putE (s : DS) : List (ByteArray × List UInt8) → Int
  | [] => 0
  | x :: r => if put1E s x.1 x.2 ≠ 0 then put1E s x.1 x.2 else putE (put1S s x.1 x.2) r
def putS (s : DS) : List (ByteArray × List UInt8) → DS
  | [] => s
  | x :: r => if put1E s x.1 x.2 ≠ 0 then put1S s x.1 x.2 else putS (put1S s x.1 x.2) r
theorem DsOk.put1 {s : DS} {n : Nat} (h : DsOk s n) (k : ByteArray) (b : List UInt8) : DsOk (put1S s k b) (n + 2) := by
  unfold put1S
  split
  · exact h.create k
  · split
    · exact (h.create k).append k b
    · exact ((h.create k).append k b).sync k
theorem DsOk.put {n : Nat} : ∀ {s : DS} (_ : DsOk s n) (l : List (ByteArray × List UInt8)), DsOk (putS s l) (n + 2 * l.length)
  | s, h, [] => h
  | s, h, x :: r => by
    unfold putS
    split
    · exact (h.put1 x.1 x.2).mono (by rw [List.length_cons]; omega)
    · exact (DsOk.put (h.put1 x.1 x.2) r).mono (by rw [List.length_cons]; omega)
/-- no fuse, alive -/
structure FreeS (s : DS) : Prop where
  dead : s.dead = false
  fuse : s.fuse = -1
/-- a file of a name, all its bytes sure -/
def HasF (s : DS) (k : ByteArray) (b : List UInt8) : Prop := mayB k = true ∧ ∃ i, look s.names k = some i ∧ s.files[i]? = some ⟨b, b.length⟩
theorem HasF.known {s : DS} {k : ByteArray} {b : List UInt8} (h : HasF s k b) (hf : FreeS s) : knownE s k = 0 ∧ readL s k = b := by
  obtain ⟨hm, i, h1, h2⟩ := h
  have hk : knownE s k = 0 := by unfold knownE foundE; rw [hf.dead, hm, h1]; rfl
  refine ⟨hk, ?_⟩
  unfold readL fileL
  rw [if_pos hk, h1, Option.getD_some, h2]
  rfl
structure Put1 (s t : DS) (k : ByteArray) (b : List UInt8) : Prop where
  free : FreeS t
  many : t.names.length = s.names.length + 1
  has : HasF t k b
  keep : ∀ q c, HasF s q c → HasF t q c
  new : look s.names k = none
  only : ∀ q, (look t.names q).isSome = true → q = k ∨ (look s.names q).isSome = true
theorem put1_ok {s : DS} {n : Nat} {k : ByteArray} {b : List UInt8} (ok : DsOk s n) (hf : FreeS s) (h : put1E s k b = 0) : Put1 s (put1S s k b) k b := by
  have hl : letsS s = s := by unfold letsS; rw [if_pos hf.fuse]
  have he : letsE s = 0 := by unfold letsE; rw [if_neg (by rw [hf.fuse]; decide)]
  unfold put1E at h
  have c0 : createE s k = 0 := by
    by_cases q : createE s k = 0
    · exact q
    · rw [if_pos q] at h; exact absurd h q
  rw [if_neg (fun q => q c0)] at h
  have c1 : appendE (createS s k) k b = 0 := by
    by_cases q : appendE (createS s k) k b = 0
    · exact q
    · rw [if_pos q] at h; exact absurd h q
  rw [if_neg (fun q => q c1)] at h
  have e0 : put1S s k b = syncS (appendS (createS s k) k b) k := by unfold put1S; rw [if_neg (fun q => q c0), if_neg (fun q => q c1)]
  have hk7 : knownE s k = 7 ∧ s.names.length < 200 := by
    unfold createE at c0
    by_cases q : knownE s k = 0
    · rw [if_pos q] at c0; cases c0
    · rw [if_neg q] at c0
      by_cases q7 : knownE s k = 7
      · rw [if_neg (fun q => q q7)] at c0
        by_cases q2 : 200 ≤ s.names.length
        · rw [if_pos q2] at c0; cases c0
        · exact ⟨q7, by omega⟩
      · rw [if_pos q7] at c0; exact absurd c0 q
  obtain ⟨hm, hn⟩ : mayB k = true ∧ look s.names k = none := by
    have h7 := hk7.1
    unfold knownE foundE at h7
    rw [hf.dead] at h7
    cases hm : mayB k
    · rw [hm] at h7; simp at h7
    · refine ⟨rfl, ?_⟩
      cases hl : look s.names k with
      | none => rfl
      | some v => rw [hm, hl] at h7; simp at h7
  have hg := ok.good
  have hlt : s.names.length < 200 := hk7.2
  obtain ⟨F, hF⟩ : ∃ F, F = s.files.length := ⟨_, rfl⟩
  have hs1 : createS s k = turnS { s with files := s.files ++ [⟨[], 0⟩] } ⟨k, (s.files.length : Int), ⟨#[]⟩⟩ := by
    unfold createS
    rw [if_neg (by rintro (q | q); exact q hk7.1; omega), if_neg (fun q => q he), hl]
  have ht : turnDir s.names s.nclock ⟨k, (s.files.length : Int), ⟨#[]⟩⟩ = dirSet s.names s.nclock k s.files.length := by
    unfold turnDir
    dsimp only
    rw [if_neg (by omega), if_neg (by simp), Int.toNat_natCast]
  have hn1 : (createS s k).names = dirSet s.names s.nclock k F := by rw [hs1, hF]; exact ht
  have hf1 : (createS s k).files = s.files ++ [⟨[], 0⟩] := by rw [hs1]; rfl
  have hd1 : (createS s k).dead = false ∧ (createS s k).fuse = -1 := by rw [hs1]; exact ⟨hf.dead, hf.fuse⟩
  have hlk : ∀ q, look (createS s k).names q = if q = k then some F else look s.names q := fun q => by rw [hn1]; exact look_dirSet _ _ _ _ _
  have hlen : (createS s k).names.length = s.names.length + 1 := by
    rw [hn1]
    unfold dirSet
    rcases look_cases s.names k with ⟨h1, _⟩ | ⟨j, e, h1, h3, h4, h5⟩
    · rw [h1]; simp
    · rw [hn] at h5; cases h5
  obtain ⟨s1, es1⟩ : ∃ t, t = createS s k := ⟨_, rfl⟩
  rw [← es1] at c1 e0 h hn1 hf1 hd1 hlk hlen
  have hl1 : letsS s1 = s1 := by unfold letsS; rw [if_pos hd1.2]
  have he1 : letsE s1 = 0 := by unfold letsE; rw [if_neg (by rw [hd1.2]; decide)]
  have hkk : look s1.names k = some F := by rw [hlk, if_pos rfl]
  have hk1 : knownE s1 k = 0 := by unfold knownE foundE; rw [hd1.1, hm, hkk]; rfl
  have hr1 : ¬ (s1.room - (usedN s1 : Int) < (b.length : Int)) := fun q => by
    unfold appendE at c1
    rw [if_neg (fun h => h hk1), if_pos q] at c1
    cases c1
  have e1 : appendS s1 k b = { s1 with files := s1.files.modify F fun f => ⟨f.b ++ b, f.sure⟩ } := by
    unfold appendS
    rw [if_neg (by rintro (q | q); exact q hk1; exact hr1 q), if_neg (fun q => q he1), hl1, hkk]
    rfl
  have e2 : put1S s k b = { s1 with files := (s1.files.modify F fun f => ⟨f.b ++ b, f.sure⟩).modify F fun f => ⟨f.b, f.b.length⟩ } := by
    rw [e0, e1]
    obtain ⟨s2, es2⟩ : ∃ t, t = ({ s1 with files := s1.files.modify F fun f => ⟨f.b ++ b, f.sure⟩ } : DS) := ⟨_, rfl⟩
    rw [← es2]
    have a1 : knownE s2 k = 0 := by rw [es2]; exact hk1
    have a2 : letsE s2 = 0 := by rw [es2]; exact he1
    have a3 : letsS s2 = s2 := by rw [es2]; unfold letsS; rw [if_pos hd1.2]
    have a4 : look s2.names k = some F := by rw [es2]; exact hkk
    unfold syncS
    rw [if_neg (fun q => q a1), if_neg (fun q => q a2), a3, a4, es2]
    rfl
  have hfiles : (put1S s k b).files = s.files ++ [⟨b, b.length⟩] := by
    rw [e2]
    show (s1.files.modify F _).modify F _ = _
    rw [hf1, hF]
    apply List.ext_getElem?
    intro i
    rw [List.getElem?_modify, List.getElem?_modify]
    by_cases q : i < s.files.length
    · rw [List.getElem?_append_left q, List.getElem?_append_left q]
      rw [List.getElem?_eq_getElem q]
      simp [show ¬ s.files.length = i by omega]
    · rw [List.getElem?_append_right (by omega), List.getElem?_append_right (by omega)]
      by_cases q2 : i = s.files.length
      · subst q2; simp
      · have : i - s.files.length ≠ 0 := by omega
        obtain ⟨j, hj⟩ : ∃ j, i - s.files.length = j + 1 := ⟨i - s.files.length - 1, by omega⟩
        rw [hj]; simp
  have hnames : (put1S s k b).names = s1.names := by rw [e2]
  refine ⟨⟨by rw [e2]; exact hd1.1, by rw [e2]; exact hd1.2⟩, by rw [hnames]; exact hlen, ⟨hm, F, by rw [hnames]; exact hkk, ?_⟩, fun q c hq => ?_, hn, fun q hq => ?_⟩
  · rw [hfiles, hF]; simp
  · obtain ⟨h1, i, h2, h3⟩ := hq
    refine ⟨h1, i, ?_, ?_⟩
    · rw [hnames, hlk, if_neg (fun e => by rw [e, hn] at h2; cases h2)]; exact h2
    · rw [hfiles, List.getElem?_append_left (List.getElem?_eq_some_iff.1 h3).1]; exact h3
  · rw [hnames, hlk] at hq
    by_cases e : q = k
    · exact .inl e
    · rw [if_neg e] at hq; exact .inr hq
/-- what a disk has behind files that were written on it -/
structure PutOk (s t : DS) (l : List (ByteArray × List UInt8)) : Prop where
  free : FreeS t
  many : t.names.length = s.names.length + l.length
  has : ∀ x ∈ l, HasF t x.1 x.2
  keep : ∀ q c, HasF s q c → HasF t q c
  only : ∀ q, (look t.names q).isSome = true → (∃ x ∈ l, x.1 = q) ∨ (look s.names q).isSome = true
theorem put_ok : ∀ {l : List (ByteArray × List UInt8)} {s : DS} {n : Nat} (_ : DsOk s n) (_ : FreeS s) (_ : putE s l = 0), PutOk s (putS s l) l
  | [], s, n, ok, hf, h => ⟨hf, rfl, fun x hx => (by cases hx), fun _ _ h => h, fun _ h => .inr h⟩
  | x :: r, s, n, ok, hf, h => by
    unfold putE at h
    have c0 : put1E s x.1 x.2 = 0 := by
      by_cases q : put1E s x.1 x.2 = 0
      · exact q
      · rw [if_pos q] at h; exact absurd h q
    rw [if_neg (fun q => q c0)] at h
    have h1 := put1_ok ok hf c0
    have h2 := put_ok (ok.put1 x.1 x.2) h1.free h
    have e : putS s (x :: r) = putS (put1S s x.1 x.2) r := by
      show (if put1E s x.1 x.2 ≠ 0 then _ else _) = _
      rw [if_neg (fun q => q c0)]
    rw [e]
    refine ⟨h2.free, by rw [h2.many, h1.many, List.length_cons]; omega, fun y hy => ?_, fun q c hq => h2.keep q c (h1.keep q c hq), fun q hq => ?_⟩
    · rcases List.mem_cons.1 hy with rfl | hy
      · exact h2.keep _ _ h1.has
      · exact h2.has y hy
    · rcases h2.only q hq with ⟨y, hy, e⟩ | hq
      · exact .inl ⟨y, List.mem_cons_of_mem _ hy, e⟩
      · rcases h1.only q hq with e | hq
        · exact .inl ⟨x, List.mem_cons_self, e.symm⟩
        · exact .inr hq
end Go.Proofs.Herb
