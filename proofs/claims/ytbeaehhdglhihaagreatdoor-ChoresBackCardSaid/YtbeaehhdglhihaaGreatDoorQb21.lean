/- What a disk's states keep, and what a crash leaves: plain lemmas on directories and files. No condition. Files that are written on a disk, one behind the other, each made sure: what each call answers, and what the disk has behind them. Plain; for states as DsOk says. strconv.FormatUint at base ten: the contract, out of the shelf's small, numDigits and formatBase10 (laid for this program); the table of powers of ten; a file's name: its contract; two numbers make two names. For worlds in which the library's table of powers of ten reads as it was laid. A load of several cells that can be read, at an address inside of a row: laws. A region that draws its order, walked in a class of worlds that a letter tells. No program. A region that draws its order, whose last operations wait for all others: its head walked in a class of worlds, its tail in order. No program. A law of regions that draw their order: the last operations, each of which waits for all ahead of them, through others, may be walked behind the others, some of which may not be wanted. No program. A law of regions that draw their order: some operations in whatever order, some in a row, the others in whatever order. No program. -/
import Derived.Shelf.Strconv.Itoa3
import Derived.Lib.AppendIntMem
import Derived.Lib.SmallJoins
import Derived.Test.YtbeaehhdglhihaaGreatDoorProg
import Derived.Laws.Rows
import Derived.Test.YtbeaehhdglhihaaGreatDoorQb01
import Derived.Test.YtbeaehhdglhihaaGreatDoorQb02
import Derived.Test.YtbeaehhdglhihaaGreatDoorQb20
namespace Go.Proofs.Herb
open Go.RowKit Go.Sort
/-! directories -/
structure DirGood (d : Dir) (c F n : Nat) : Prop where
  born : ∀ e ∈ d, e.2.2 < c
  once : (d.map (·.2.2)).Nodup
  keys : (d.map (·.1)).Nodup
  may : ∀ e ∈ d, mayB e.1 = true
  file : ∀ e ∈ d, e.2.1 < F
  inj : ∀ e ∈ d, ∀ e' ∈ d, e.2.1 = e'.2.1 → e.1 = e'.1
  many : d.length ≤ n
theorem may_size {k : ByteArray} (h : mayB k = true) : 1 ≤ k.size ∧ k.size ≤ 24 := by
  unfold mayB at h
  rw [Bool.and_eq_true, decide_eq_true_iff, decide_eq_true_iff] at h
  exact h
theorem may_ne {k : ByteArray} (h : mayB k = true) : k ≠ ⟨#[]⟩ := by
  rintro rfl
  exact absurd h (by decide)
theorem DirGood.ok {d : Dir} {c F n : Nat} (h : DirGood d c F n) : DirOk d c F := ⟨h.born, h.once, h.file⟩
theorem DirGood.keysOk {d : Dir} {c F n : Nat} (h : DirGood d c F n) (hF : F ≤ 1000000000) (hn : n ≤ 1000000000) : DirKeys d c :=
  ⟨h.born, h.once, h.keys, fun e he => (may_size (h.may e he)).2, fun e he => by have := h.file e he; omega, by have := h.many; omega⟩
theorem DirGood.mono {d : Dir} {c F n F' n' : Nat} (h : DirGood d c F n) (hF : F ≤ F') (hn : n ≤ n') : DirGood d c F' n' :=
  ⟨h.born, h.once, h.keys, h.may, fun e he => Nat.lt_of_lt_of_le (h.file e he) hF, h.inj, Nat.le_trans h.many hn⟩
theorem DirGood.nil (F n : Nat) : DirGood [] 0 F n := ⟨by simp, by simp, by simp, by simp, by simp, by simp, by simp⟩
theorem DirGood.sub {d d' : Dir} {c F n : Nat} (h : DirGood d c F n) (hs : d'.Sublist d) : DirGood d' c F n :=
  ⟨fun e he => h.born e (hs.subset he), (hs.map _).nodup h.once, (hs.map _).nodup h.keys, fun e he => h.may e (hs.subset he), fun e he => h.file e (hs.subset he), fun e he e' he' => h.inj e (hs.subset he) e' (hs.subset he'), Nat.le_trans hs.length_le h.many⟩
theorem dirDel_sub (d : Dir) (k : ByteArray) : (dirDel d k).Sublist d := by
  unfold dirDel
  split
  · exact List.eraseIdx_sublist _ _
  · exact List.Sublist.refl _
theorem DirGood.del {d : Dir} {c F n : Nat} (h : DirGood d c F n) (k : ByteArray) : DirGood (dirDel d k) c F n := h.sub (dirDel_sub d k)
theorem lookAt_none_key {d : Dir} {k : ByteArray} (h : lookAt d k = none) : ∀ e ∈ d, e.1 ≠ k := by
  unfold lookAt at h
  rw [List.findIdx?_eq_none_iff] at h
  intro e he
  simpa using h e he
theorem look_mem' {d : Dir} {k : ByteArray} {v : Nat} (h : look d k = some v) : ∃ e ∈ d, e.1 = k ∧ e.2.1 = v := by
  rcases look_cases d k with ⟨_, h2⟩ | ⟨j, e, _, h3, h4, h5⟩
  · rw [h2] at h; cases h
  · rw [h5] at h; exact ⟨e, List.mem_of_getElem? h3, h4, Option.some.inj h⟩
theorem key_inj {d : Dir} (hk : (d.map (·.1)).Nodup) {e e' : ByteArray × Nat × Nat} (h : e ∈ d) (h' : e' ∈ d) (heq : e.1 = e'.1) : e = e' := by
  induction d with
  | nil => cases h
  | cons x d ih =>
    simp only [List.map_cons, List.nodup_cons, List.mem_map, not_exists, not_and] at hk
    simp only [List.mem_cons] at h h'
    rcases h with rfl | h <;> rcases h' with rfl | h'
    · rfl
    · exact absurd heq.symm (hk.1 e' h')
    · exact absurd heq (hk.1 e h)
    · exact ih hk.2 h h'
theorem look_of {d : Dir} (hk : (d.map (·.1)).Nodup) {e : ByteArray × Nat × Nat} (h : e ∈ d) : look d e.1 = some e.2.1 := by
  rcases look_cases d e.1 with ⟨h1, _⟩ | ⟨j, e', _, h3, h4, h5⟩
  · exact absurd rfl (lookAt_none_key h1 e h)
  · rw [h5, key_inj hk (List.mem_of_getElem? h3) h h4]
theorem look_isSome {d : Dir} (k : ByteArray) : (look d k).isSome = true ↔ k ∈ d.map (·.1) := by
  rcases look_cases d k with ⟨h1, h2⟩ | ⟨j, e, h1, h3, h4, h5⟩
  · rw [h2]
    simp only [Option.isSome_none, Bool.false_eq_true, List.mem_map, false_iff]
    rintro ⟨e, he, rfl⟩
    exact lookAt_none_key h1 e he rfl
  · rw [h5]
    simp only [Option.isSome_some, List.mem_map, true_iff]
    exact ⟨e, List.mem_of_getElem? h3, h4⟩
theorem look_none_iff {d : Dir} (k : ByteArray) : look d k = none ↔ k ∉ d.map (·.1) := by
  rw [← look_isSome]; cases look d k <;> simp
theorem look_cons (e : ByteArray × Nat × Nat) (d : Dir) (k : ByteArray) : look (e :: d) k = if e.1 = k then some e.2.1 else look d k := by
  unfold look
  rw [List.find?_cons]
  by_cases h : e.1 = k <;> simp [h]
theorem lookAt_cons (e : ByteArray × Nat × Nat) (d : Dir) (k : ByteArray) : lookAt (e :: d) k = if e.1 = k then some 0 else (lookAt d k).map (· + 1) := by
  unfold lookAt
  rw [List.findIdx?_cons]
  by_cases h : e.1 = k <;> simp [h]
theorem dirDel_cons (e : ByteArray × Nat × Nat) (d : Dir) (k : ByteArray) : dirDel (e :: d) k = if e.1 = k then d else e :: dirDel d k := by
  unfold dirDel
  rw [lookAt_cons]
  by_cases h : e.1 = k
  · simp [h]
  · rw [if_neg h, if_neg h]
    cases lookAt d k <;> rfl
theorem dirSet_cons (e : ByteArray × Nat × Nat) (d : Dir) (c : Nat) (k : ByteArray) (v : Nat) : dirSet (e :: d) c k v = if e.1 = k then (k, v, e.2.2) :: d else e :: dirSet d c k v := by
  unfold dirSet
  rw [lookAt_cons]
  by_cases h : e.1 = k
  · simp [h]
  · rw [if_neg h, if_neg h]
    cases lookAt d k <;> rfl
theorem clkSet_cons (e : ByteArray × Nat × Nat) (d : Dir) (c : Nat) (k : ByteArray) : clkSet (e :: d) c k = if e.1 = k then c else clkSet d c k := by
  unfold clkSet
  rw [lookAt_cons]
  by_cases h : e.1 = k
  · simp [h]
  · rw [if_neg h, if_neg h]
    cases lookAt d k <;> rfl
theorem dirSet_nil (c : Nat) (k : ByteArray) (v : Nat) : dirSet [] c k v = [(k, v, c)] := rfl
theorem look_nil (k : ByteArray) : look [] k = none := rfl
theorem look_dirDel {d : Dir} (hk : (d.map (·.1)).Nodup) (k q : ByteArray) : look (dirDel d k) q = if q = k then none else look d q := by
  induction d with
  | nil => simp [dirDel, lookAt, look_nil]
  | cons e d ih =>
    simp only [List.map_cons, List.nodup_cons] at hk
    rw [dirDel_cons, look_cons]
    by_cases h : e.1 = k
    · rw [if_pos h]
      by_cases hq : q = k
      · rw [if_pos hq, hq, ← h]; exact (look_none_iff _).2 hk.1
      · rw [if_neg hq, if_neg (fun h2 => hq (h2.symm.trans h))]
    · rw [if_neg h, look_cons, ih hk.2]
      by_cases hq : q = k
      · rw [if_pos hq, if_pos hq, if_neg (fun h2 => h (h2.trans hq))]
      · rw [if_neg hq, if_neg hq]
theorem look_dirSet (d : Dir) (c : Nat) (k : ByteArray) (v : Nat) (q : ByteArray) : look (dirSet d c k v) q = if q = k then some v else look d q := by
  induction d with
  | nil =>
    rw [dirSet_nil, look_cons]
    by_cases h : q = k
    · rw [if_pos h, if_pos h.symm]
    · rw [if_neg h, if_neg (fun h2 => h h2.symm)]
  | cons e d ih =>
    rw [dirSet_cons, look_cons]
    by_cases h : e.1 = k
    · rw [if_pos h, look_cons]
      by_cases hq : q = k
      · rw [if_pos hq, if_pos hq.symm]
      · rw [if_neg hq, if_neg (fun h2 => hq h2.symm), if_neg (fun h2 => hq (h2.symm.trans h))]
    · rw [if_neg h, look_cons, ih]
      by_cases hq : q = k
      · rw [if_pos hq, if_neg (fun h2 => h (h2.trans hq))]
        rw [if_pos hq]
      · rw [if_neg hq, if_neg hq]
theorem dirSet_len (d : Dir) (c : Nat) (k : ByteArray) (v : Nat) : (dirSet d c k v).length ≤ d.length + 1 := by
  unfold dirSet; split <;> simp
theorem dirSet_new {d : Dir} {k : ByteArray} (h : look d k = none) (c v : Nat) : dirSet d c k v = d ++ [(k, v, c)] ∧ clkSet d c k = c + 1 := by
  have h' : lookAt d k = none := by
    rcases look_cases d k with ⟨h1, _⟩ | ⟨j, e, h1, _, _, h5⟩
    · exact h1
    · rw [h5] at h; cases h
  unfold dirSet clkSet
  rw [h']
  exact ⟨rfl, rfl⟩
theorem dirSet_old (c : Nat) (k : ByteArray) (v : Nat) : ∀ (d : Dir), (look d k).isSome = true → (dirSet d c k v).map (·.1) = d.map (·.1) ∧ (dirSet d c k v).map (·.2.2) = d.map (·.2.2) ∧ clkSet d c k = c
  | [], h => by cases h
  | e :: d, h => by
    rw [dirSet_cons, clkSet_cons]
    rw [look_cons] at h
    by_cases he : e.1 = k
    · rw [if_pos he, if_pos he]; simp [he]
    · rw [if_neg he] at h
      rw [if_neg he, if_neg he]
      obtain ⟨h1, h2, h3⟩ := dirSet_old c k v d h
      exact ⟨by simp [h1], by simp [h2], h3⟩
theorem dirSet_mem {d : Dir} (hk : (d.map (·.1)).Nodup) {c : Nat} {k : ByteArray} {v : Nat} {x : ByteArray × Nat × Nat} (h : x ∈ dirSet d c k v) : (x ∈ d ∧ x.1 ≠ k) ∨ (x.1 = k ∧ x.2.1 = v) := by
  induction d with
  | nil => rw [dirSet_nil, List.mem_singleton] at h; subst h; exact .inr ⟨rfl, rfl⟩
  | cons e d ih =>
    simp only [List.map_cons, List.nodup_cons, List.mem_map, not_exists, not_and] at hk
    rw [dirSet_cons] at h
    by_cases he : e.1 = k
    · rw [if_pos he, List.mem_cons] at h
      rcases h with rfl | h
      · exact .inr ⟨rfl, rfl⟩
      · exact .inl ⟨List.mem_cons_of_mem _ h, fun hx => hk.1 x h (hx.trans he.symm)⟩
    · rw [if_neg he, List.mem_cons] at h
      rcases h with rfl | h
      · exact .inl ⟨List.mem_cons_self .., he⟩
      · rcases ih hk.2 h with ⟨h1, h2⟩ | h1
        · exact .inl ⟨List.mem_cons_of_mem _ h1, h2⟩
        · exact .inr h1
theorem DirGood.set {d : Dir} {c F n : Nat} (h : DirGood d c F n) {k : ByteArray} (hk : mayB k = true) {v : Nat} (hv : v < F) (hi : ∀ e ∈ d, e.2.1 = v → e.1 = k) : DirGood (dirSet d c k v) (clkSet d c k) F (n + 1) := by
  have hmem := fun x (hx : x ∈ dirSet d c k v) => dirSet_mem h.keys hx
  have hm : (dirSet d c k v).length ≤ n + 1 := Nat.le_trans (dirSet_len _ _ _ _) (by have := h.many; omega)
  have hmay : ∀ e ∈ dirSet d c k v, mayB e.1 = true := fun e he => by
    rcases hmem e he with ⟨h1, _⟩ | ⟨h1, _⟩
    · exact h.may e h1
    · rw [h1]; exact hk
  have hfile : ∀ e ∈ dirSet d c k v, e.2.1 < F := fun e he => by
    rcases hmem e he with ⟨h1, _⟩ | ⟨_, h1⟩
    · exact h.file e h1
    · rw [h1]; exact hv
  have hinj : ∀ e ∈ dirSet d c k v, ∀ e' ∈ dirSet d c k v, e.2.1 = e'.2.1 → e.1 = e'.1 := fun e he e' he' heq => by
    rcases hmem e he with ⟨h1, h2⟩ | ⟨h1, h2⟩ <;> rcases hmem e' he' with ⟨h3, h4⟩ | ⟨h3, h4⟩
    · exact h.inj e h1 e' h3 heq
    · exact absurd (hi e h1 (heq.trans h4)) h2
    · exact absurd (hi e' h3 (heq.symm.trans h2)) h4
    · rw [h1, h3]
  cases hl : look d k with
  | none =>
    obtain ⟨e1, e2⟩ := dirSet_new hl c v
    rw [e2]
    refine ⟨fun e he => ?_, ?_, ?_, hmay, hfile, hinj, hm⟩
    · rw [e1, List.mem_append, List.mem_singleton] at he
      rcases he with he | rfl
      · have := h.born e he; omega
      · exact Nat.lt_succ_self c
    · rw [e1, List.map_append]
      refine List.nodup_append.2 ⟨h.once, by simp, fun a ha b hb => ?_⟩
      simp only [List.map_cons, List.map_nil, List.mem_singleton] at hb
      obtain ⟨e, he, rfl⟩ := List.mem_map.1 ha
      have := h.born e he
      omega
    · rw [e1, List.map_append]
      refine List.nodup_append.2 ⟨h.keys, by simp, fun a ha b hb => ?_⟩
      simp only [List.map_cons, List.map_nil, List.mem_singleton] at hb
      subst hb
      rintro rfl
      exact (look_none_iff _).1 hl ha
  | some u =>
    obtain ⟨e1, e2, e3⟩ := dirSet_old c k v d (by rw [hl]; rfl)
    rw [e3]
    refine ⟨fun e he => ?_, by rw [e2]; exact h.once, by rw [e1]; exact h.keys, hmay, hfile, hinj, hm⟩
    have : e.2.2 ∈ (dirSet d c k v).map (·.2.2) := List.mem_map_of_mem he
    rw [e2] at this
    obtain ⟨e', he', heq⟩ := List.mem_map.1 this
    rw [← heq]
    exact h.born e' he'
theorem turnDir_gone {d : Dir} {c F n : Nat} (h : DirGood d c F n) (g : ByteArray) : (if g ≠ ⟨#[]⟩ then dirDel d g else d) = dirDel d g := by
  by_cases hg : g = ⟨#[]⟩
  · rw [if_neg (fun h => h hg)]
    have : lookAt d g = none := by
      rcases look_cases d g with ⟨h1, _⟩ | ⟨j, e, _, h3, h4, _⟩
      · exact h1
      · exact absurd (h4.trans hg) (may_ne (h.may e (List.mem_of_getElem? h3)))
    unfold dirDel
    rw [this]
  · rw [if_pos hg]
theorem turnDir_eq {d : Dir} {c F n : Nat} (h : DirGood d c F n) (x : DC) :
    turnDir d c x = (if x.file < 0 then dirDel (dirDel d x.gone) x.name else dirSet (dirDel d x.gone) c x.name x.file.toNat) ∧ turnClk d c x = (if x.file < 0 then c else clkSet (dirDel d x.gone) c x.name) := by
  unfold turnDir turnClk
  rw [turnDir_gone h]
  exact ⟨rfl, rfl⟩
theorem DirGood.turn {d : Dir} {c F n : Nat} (h : DirGood d c F n) {x : DC} (hx : x.file < 0 ∨ (mayB x.name = true ∧ x.file.toNat < F ∧ ∀ e ∈ d, e.2.1 = x.file.toNat → e.1 = x.name ∨ e.1 = x.gone)) : DirGood (turnDir d c x) (turnClk d c x) F (n + 1) := by
  obtain ⟨e1, e2⟩ := turnDir_eq h x
  rw [e1, e2]
  by_cases hf : x.file < 0
  · rw [if_pos hf, if_pos hf]
    exact ((h.del _).del _).mono (Nat.le_refl _) (by omega)
  · rw [if_neg hf, if_neg hf]
    rcases hx with h1 | ⟨h1, h2, h3⟩
    · exact absurd h1 hf
    · refine (h.del _).set h1 h2 fun e he hev => ?_
      rcases h3 e ((dirDel_sub _ _).subset he) hev with h4 | h4
      · exact h4
      · exfalso
        have h5 := look_dirDel h.keys x.gone e.1
        rw [if_pos h4, look_of (h.del x.gone).keys he] at h5
        cases h5
/-! sorted names -/
/-! states -/
structure DsOk (s : DS) (n : Nat) : Prop where
  f0 : -1 ≤ s.fuse
  f1 : s.fuse ≤ 9223372036854775807
  r0 : 0 ≤ s.room
  r1 : s.room ≤ 4194304
  files : s.files.length ≤ n
  changes : s.changes.length ≤ n
  replay : dirAt s s.changes.length = (s.names, s.nclock)
  dirs : ∀ j, j ≤ s.changes.length → DirGood (dirAt s j).1 (dirAt s j).2 s.files.length n
  sure : ∀ f ∈ s.files, f.sure ≤ f.b.length ∧ f.b.length ≤ 4194304
theorem dirAt_congr {s s' : DS} (h1 : s'.sured = s.sured) (h2 : s'.sclock = s.sclock) (h3 : s'.changes = s.changes) : ∀ j, dirAt s' j = dirAt s j
  | 0 => by unfold dirAt; rw [h1, h2]
  | j + 1 => by unfold dirAt; rw [h3, dirAt_congr h1 h2 h3 j]
theorem dirAt_front {s s' : DS} (h1 : s'.sured = s.sured) (h2 : s'.sclock = s.sclock) {x : DC} (h3 : s'.changes = s.changes ++ [x]) : ∀ j, j ≤ s.changes.length → dirAt s' j = dirAt s j
  | 0, _ => by unfold dirAt; rw [h1, h2]
  | j + 1, hj => by
    unfold dirAt
    rw [h3, List.getElem?_append_left (by omega), dirAt_front h1 h2 h3 j (by omega)]
theorem DsOk.good {s : DS} {n : Nat} (h : DsOk s n) : DirGood s.names s.nclock s.files.length n := by
  have := h.dirs _ (Nat.le_refl _)
  rw [h.replay] at this
  exact this
theorem DsOk.mono {s : DS} {n n' : Nat} (h : DsOk s n) (hn : n ≤ n') : DsOk s n' :=
  ⟨h.f0, h.f1, h.r0, h.r1, Nat.le_trans h.files hn, Nat.le_trans h.changes hn, h.replay, fun j hj => (h.dirs j hj).mono (Nat.le_refl _) hn, h.sure⟩
theorem DsOk.new {room : Int} (h0 : 0 ≤ room) (h1 : room ≤ 4194304) : DsOk (newS room) 0 :=
  ⟨by simp [newS], by simp [newS], h0, h1, Nat.le_refl _, Nat.le_refl _, rfl, fun j hj => by
    obtain rfl : j = 0 := Nat.le_zero.1 hj
    exact DirGood.nil _ _, fun f hf => by cases hf⟩
/-- only room, fuse and dead, or the files' bytes have turned -/
theorem DsOk.same {s s' : DS} {n : Nat} (h : DsOk s n) (f0 : -1 ≤ s'.fuse) (f1 : s'.fuse ≤ 9223372036854775807) (r0 : 0 ≤ s'.room) (r1 : s'.room ≤ 4194304) (e1 : s'.names = s.names) (e2 : s'.nclock = s.nclock) (e3 : s'.sured = s.sured) (e4 : s'.sclock = s.sclock) (e5 : s'.changes = s.changes)
    (hl : s'.files.length = s.files.length) (hs : ∀ f ∈ s'.files, f.sure ≤ f.b.length ∧ f.b.length ≤ 4194304) : DsOk s' n :=
  ⟨f0, f1, r0, r1, by rw [hl]; exact h.files, by rw [e5]; exact h.changes, by rw [e5, e1, e2, dirAt_congr e3 e4 e5]; exact h.replay, fun j hj => by rw [dirAt_congr e3 e4 e5, hl]; exact h.dirs j (by rw [← e5]; exact hj), hs⟩
theorem DsOk.lets {s : DS} {n : Nat} (h : DsOk s n) : DsOk (letsS s) n := by
  obtain ⟨l1, l2, l3, l4, l5, l6, l7⟩ := lets_files s
  refine h.same ?_ ?_ (by rw [l7]; exact h.r0) (by rw [l7]; exact h.r1) l2 l3 l4 l5 l6 (by rw [l1]) (by rw [l1]; exact h.sure)
  · have h0 := h.f0
    unfold letsS
    split
    · exact h0
    · split
      · exact h0
      · dsimp only; omega
  · have h1 := h.f1
    unfold letsS
    split
    · exact h1
    · split
      · exact h1
      · dsimp only; omega
theorem DsOk.turn {s : DS} {n : Nat} (h : DsOk s n) {x : DC} (hx : x.file < 0 ∨ (mayB x.name = true ∧ x.file.toNat < s.files.length ∧ ∀ e ∈ s.names, e.2.1 = x.file.toNat → e.1 = x.name ∨ e.1 = x.gone)) : DsOk (turnS s x) (n + 1) := by
  have hr : dirAt (turnS s x) (s.changes.length + 1) = (turnDir s.names s.nclock x, turnClk s.names s.nclock x) := by
    have e : (turnS s x).changes[s.changes.length]? = some x := by simp [turnS]
    have e2 : dirAt (turnS s x) s.changes.length = (s.names, s.nclock) := (dirAt_front (s := s) (s' := turnS s x) (x := x) rfl rfl rfl _ (Nat.le_refl _)).trans h.replay
    unfold dirAt
    rw [e, e2]
  refine ⟨h.f0, h.f1, h.r0, h.r1, Nat.le_trans h.files (Nat.le_succ _), ?_, ?_, fun j hj => ?_, h.sure⟩
  · have := h.changes; simp [turnS]; omega
  · have e : (turnS s x).changes.length = s.changes.length + 1 := by simp [turnS]
    rw [e, hr]; rfl
  · have e : (turnS s x).changes.length = s.changes.length + 1 := by simp [turnS]
    rw [e] at hj
    by_cases hj2 : j ≤ s.changes.length
    · rw [dirAt_front (s := s) (s' := turnS s x) (x := x) rfl rfl rfl j hj2]
      exact (h.dirs j hj2).mono (Nat.le_refl _) (Nat.le_succ _)
    · obtain rfl : j = s.changes.length + 1 := by omega
      rw [hr]
      exact h.good.turn hx
theorem DsOk.fileMore {s : DS} {n : Nat} (h : DsOk s n) : DsOk { s with files := s.files ++ [⟨[], 0⟩] } (n + 1) :=
  ⟨h.f0, h.f1, h.r0, h.r1, by have := h.files; simp; omega, Nat.le_trans h.changes (Nat.le_succ _), by rw [dirAt_congr (s := s) (s' := { s with files := s.files ++ [⟨[], 0⟩] }) rfl rfl rfl]; exact h.replay, fun j hj => by
    rw [dirAt_congr (s := s) (s' := { s with files := s.files ++ [⟨[], 0⟩] }) rfl rfl rfl]
    exact (h.dirs j hj).mono (by simp) (Nat.le_succ _), fun f hf => by
    simp only [List.mem_append, List.mem_singleton] at hf
    rcases hf with hf | rfl
    · exact h.sure f hf
    · simp⟩
theorem DsOk.create {s : DS} {n : Nat} (h : DsOk s n) (k : ByteArray) : DsOk (createS s k) (n + 2) := by
  unfold createS
  split
  · exact h.mono (by omega)
  · split
    · exact h.lets.mono (by omega)
    · rename_i h1 _
      have hk : mayB k = true := by
        have h2 : knownE s k = 7 := by
          apply Classical.byContradiction
          intro h3; exact h1 (.inl h3)
        unfold knownE at h2
        split at h2
        · cases h2
        · unfold foundE at h2
          split at h2
          · assumption
          · cases h2
      have hl := h.lets.fileMore
      obtain ⟨l1, l2, _⟩ := lets_files s
      rw [l1] at hl
      refine hl.turn (.inr ⟨hk, by simp, fun e he hev => ?_⟩)
      exfalso
      dsimp only at he hev
      rw [l2] at he
      have := h.good.file e he
      simp at hev
      omega
theorem knownE_zero {s : DS} {k : ByteArray} (h : knownE s k = 0) : s.dead = false ∧ mayB k = true ∧ (look s.names k).isSome = true := by
  unfold knownE at h
  split at h
  · cases h
  · rename_i hd
    unfold foundE at h
    split at h
    · rename_i hm
      split at h
      · rename_i hs
        exact ⟨by simpa using hd, hm, hs⟩
      · cases h
    · cases h
theorem DsOk.modify {s : DS} {n : Nat} (h : DsOk s n) (i : Nat) (f : DF → DF) (hf : ∀ x, s.files[i]? = some x → (f x).sure ≤ (f x).b.length ∧ (f x).b.length ≤ 4194304) : DsOk { s with files := s.files.modify i f } n := by
  refine h.same h.f0 h.f1 h.r0 h.r1 rfl rfl rfl rfl rfl (by simp) fun x hx => ?_
  obtain ⟨j, hj⟩ := List.mem_iff_getElem?.1 hx
  dsimp only at hj
  rw [List.getElem?_modify] at hj
  cases hy : s.files[j]? with
  | none => rw [hy] at hj; cases hj
  | some y =>
    rw [hy] at hj
    simp only [Option.map_eq_map, Option.map_some, Option.some.injEq] at hj
    subst hj
    by_cases hij : i = j
    · rw [if_pos hij]
      exact hf y (by rw [hij]; exact hy)
    · rw [if_neg hij]
      exact h.sure y (List.mem_of_getElem? hy)
theorem mem_le_sum {l : List Nat} {a : Nat} (h : a ∈ l) : a ≤ l.sum := by
  induction l with
  | nil => cases h
  | cons b l ih =>
    rw [List.sum_cons]
    rw [List.mem_cons] at h
    rcases h with rfl | h
    · omega
    · have := ih h; omega
theorem sum_le_mul {l : List Nat} {b : Nat} (h : ∀ a ∈ l, a ≤ b) : l.sum ≤ l.length * b := by
  induction l with
  | nil => simp
  | cons a l ih =>
    rw [List.sum_cons, List.length_cons, Nat.succ_mul]
    have := h a (List.mem_cons_self ..)
    have := ih (fun a ha => h a (List.mem_cons_of_mem _ ha))
    omega
theorem used_ge {s : DS} {k : ByteArray} {i : Nat} (h : look s.names k = some i) : lenAt s i ≤ usedN s := by
  obtain ⟨e, he, _, rfl⟩ := look_mem' h
  exact mem_le_sum (List.mem_map_of_mem (f := fun e => lenAt s e.2.1) he)
theorem lenAt_le {s : DS} {n : Nat} (h : DsOk s n) (i : Nat) : lenAt s i ≤ 4194304 := by
  unfold lenAt
  cases hy : s.files[i]? with
  | none => simp
  | some f => simpa using (h.sure f (List.mem_of_getElem? hy)).2
theorem used_le {s : DS} {n : Nat} (h : DsOk s n) : usedN s ≤ n * 4194304 := by
  have h1 : usedN s ≤ (s.names.map fun e => lenAt s e.2.1).length * 4194304 := sum_le_mul fun a ha => by
    obtain ⟨e, _, rfl⟩ := List.mem_map.1 ha
    exact lenAt_le h _
  rw [List.length_map] at h1
  have := h.good.many
  exact Nat.le_trans h1 (Nat.mul_le_mul_right _ this)
theorem DsOk.append {s : DS} {n : Nat} (h : DsOk s n) (k : ByteArray) (b : List UInt8) : DsOk (appendS s k b) n := by
  unfold appendS
  split
  · exact h
  · split
    · exact h.lets
    · rename_i h1 _
      have hk0 : knownE s k = 0 := Classical.byContradiction fun h3 => h1 (.inl h3)
      have hr : ¬ s.room - (usedN s : Int) < (b.length : Int) := fun h3 => h1 (.inr h3)
      obtain ⟨_, _, hs⟩ := knownE_zero hk0
      obtain ⟨i, hi⟩ := Option.isSome_iff_exists.1 hs
      rw [hi, Option.getD_some]
      obtain ⟨l1, _⟩ := lets_files s
      rw [← l1]
      refine h.lets.modify i _ fun x hx => ?_
      rw [l1] at hx
      have h2 := h.sure x (List.mem_of_getElem? hx)
      have h3 := used_ge hi
      have h4 : lenAt s i = x.b.length := by unfold lenAt; rw [hx]; rfl
      have h5 := h.r1
      simp only [List.length_append]
      omega
theorem DsOk.sync {s : DS} {n : Nat} (h : DsOk s n) (k : ByteArray) : DsOk (syncS s k) n := by
  unfold syncS
  split
  · exact h
  · split
    · exact h.lets
    · obtain ⟨l1, _⟩ := lets_files s
      rw [← l1]
      refine h.lets.modify _ _ fun x hx => ?_
      rw [l1] at hx
      exact ⟨Nat.le_refl _, (h.sure x (List.mem_of_getElem? hx)).2⟩
/-! what a crash leaves -/
end Go.Proofs.Herb
namespace Go.Proofs.Herb
open Go.RowKit Go.Sort
/-- a file more, its bytes, made sure -/
def put1E (s : DS) (k : ByteArray) (b : List UInt8) : Int := if createE s k ≠ 0 then createE s k else if appendE (createS s k) k b ≠ 0 then appendE (createS s k) k b else syncE (appendS (createS s k) k b) k
def put1S (s : DS) (k : ByteArray) (b : List UInt8) : DS := if createE s k ≠ 0 then createS s k else if appendE (createS s k) k b ≠ 0 then appendS (createS s k) k b else syncS (appendS (createS s k) k b) k
def putE (s : DS) : List (ByteArray × List UInt8) → Int
  | [] => 0
  | x :: r => if put1E s x.1 x.2 ≠ 0 then put1E s x.1 x.2 else putE (put1S s x.1 x.2) r
def putS (s : DS) : List (ByteArray × List UInt8) → DS
  | [] => s
  | x :: r => if put1E s x.1 x.2 ≠ 0 then put1S s x.1 x.2 else putS (put1S s x.1 x.2) r
theorem DsOk.put1 {s : DS} {n : Nat} (h : DsOk s n) (k : ByteArray) (b : List UInt8) : DsOk (put1S s k b) (n + 2) := by
  unfold put1S
  split
  · exact h.create k
  · split
    · exact (h.create k).append k b
    · exact ((h.create k).append k b).sync k
theorem DsOk.put {n : Nat} : ∀ {s : DS} (_ : DsOk s n) (l : List (ByteArray × List UInt8)), DsOk (putS s l) (n + 2 * l.length)
  | s, h, [] => h
  | s, h, x :: r => by
    unfold putS
    split
    · exact (h.put1 x.1 x.2).mono (by rw [List.length_cons]; omega)
    · exact (DsOk.put (h.put1 x.1 x.2) r).mono (by rw [List.length_cons]; omega)
/-- no fuse, alive -/
structure FreeS (s : DS) : Prop where
  dead : s.dead = false
  fuse : s.fuse = -1
/-- a file of a name, all its bytes sure -/
def HasF (s : DS) (k : ByteArray) (b : List UInt8) : Prop := mayB k = true ∧ ∃ i, look s.names k = some i ∧ s.files[i]? = some ⟨b, b.length⟩
theorem HasF.known {s : DS} {k : ByteArray} {b : List UInt8} (h : HasF s k b) (hf : FreeS s) : knownE s k = 0 ∧ readL s k = b := by
  obtain ⟨hm, i, h1, h2⟩ := h
  have hk : knownE s k = 0 := by unfold knownE foundE; rw [hf.dead, hm, h1]; rfl
  refine ⟨hk, ?_⟩
  unfold readL fileL
  rw [if_pos hk, h1, Option.getD_some, h2]
  rfl
structure Put1 (s t : DS) (k : ByteArray) (b : List UInt8) : Prop where
  free : FreeS t
  many : t.names.length = s.names.length + 1
  has : HasF t k b
  keep : ∀ q c, HasF s q c → HasF t q c
  new : look s.names k = none
  only : ∀ q, (look t.names q).isSome = true → q = k ∨ (look s.names q).isSome = true
theorem put1_ok {s : DS} {n : Nat} {k : ByteArray} {b : List UInt8} (ok : DsOk s n) (hf : FreeS s) (h : put1E s k b = 0) : Put1 s (put1S s k b) k b := by
  have hl : letsS s = s := by unfold letsS; rw [if_pos hf.fuse]
  have he : letsE s = 0 := by unfold letsE; rw [if_neg (by rw [hf.fuse]; decide)]
  unfold put1E at h
  have c0 : createE s k = 0 := by
    by_cases q : createE s k = 0
    · exact q
    · rw [if_pos q] at h; exact absurd h q
  rw [if_neg (fun q => q c0)] at h
  have c1 : appendE (createS s k) k b = 0 := by
    by_cases q : appendE (createS s k) k b = 0
    · exact q
    · rw [if_pos q] at h; exact absurd h q
  rw [if_neg (fun q => q c1)] at h
  have e0 : put1S s k b = syncS (appendS (createS s k) k b) k := by unfold put1S; rw [if_neg (fun q => q c0), if_neg (fun q => q c1)]
  have hk7 : knownE s k = 7 ∧ s.names.length < 200 := by
    unfold createE at c0
    by_cases q : knownE s k = 0
    · rw [if_pos q] at c0; cases c0
    · rw [if_neg q] at c0
      by_cases q7 : knownE s k = 7
      · rw [if_neg (fun q => q q7)] at c0
        by_cases q2 : 200 ≤ s.names.length
        · rw [if_pos q2] at c0; cases c0
        · exact ⟨q7, by omega⟩
      · rw [if_pos q7] at c0; exact absurd c0 q
  obtain ⟨hm, hn⟩ : mayB k = true ∧ look s.names k = none := by
    have h7 := hk7.1
    unfold knownE foundE at h7
    rw [hf.dead] at h7
    cases hm : mayB k
    · rw [hm] at h7; simp at h7
    · refine ⟨rfl, ?_⟩
      cases hl : look s.names k with
      | none => rfl
      | some v => rw [hm, hl] at h7; simp at h7
  have hg := ok.good
  have hlt : s.names.length < 200 := hk7.2
  obtain ⟨F, hF⟩ : ∃ F, F = s.files.length := ⟨_, rfl⟩
  have hs1 : createS s k = turnS { s with files := s.files ++ [⟨[], 0⟩] } ⟨k, (s.files.length : Int), ⟨#[]⟩⟩ := by
    unfold createS
    rw [if_neg (by rintro (q | q); exact q hk7.1; omega), if_neg (fun q => q he), hl]
  have ht : turnDir s.names s.nclock ⟨k, (s.files.length : Int), ⟨#[]⟩⟩ = dirSet s.names s.nclock k s.files.length := by
    unfold turnDir
    dsimp only
    rw [if_neg (by omega), if_neg (by simp), Int.toNat_natCast]
  have hn1 : (createS s k).names = dirSet s.names s.nclock k F := by rw [hs1, hF]; exact ht
  have hf1 : (createS s k).files = s.files ++ [⟨[], 0⟩] := by rw [hs1]; rfl
  have hd1 : (createS s k).dead = false ∧ (createS s k).fuse = -1 := by rw [hs1]; exact ⟨hf.dead, hf.fuse⟩
  have hlk : ∀ q, look (createS s k).names q = if q = k then some F else look s.names q := fun q => by rw [hn1]; exact look_dirSet _ _ _ _ _
  have hlen : (createS s k).names.length = s.names.length + 1 := by
    rw [hn1]
    unfold dirSet
    rcases look_cases s.names k with ⟨h1, _⟩ | ⟨j, e, h1, h3, h4, h5⟩
    · rw [h1]; simp
    · rw [hn] at h5; cases h5
  obtain ⟨s1, es1⟩ : ∃ t, t = createS s k := ⟨_, rfl⟩
  rw [← es1] at c1 e0 h hn1 hf1 hd1 hlk hlen
  have hl1 : letsS s1 = s1 := by unfold letsS; rw [if_pos hd1.2]
  have he1 : letsE s1 = 0 := by unfold letsE; rw [if_neg (by rw [hd1.2]; decide)]
  have hkk : look s1.names k = some F := by rw [hlk, if_pos rfl]
  have hk1 : knownE s1 k = 0 := by unfold knownE foundE; rw [hd1.1, hm, hkk]; rfl
  have hr1 : ¬ (s1.room - (usedN s1 : Int) < (b.length : Int)) := fun q => by
    unfold appendE at c1
    rw [if_neg (fun h => h hk1), if_pos q] at c1
    cases c1
  have e1 : appendS s1 k b = { s1 with files := s1.files.modify F fun f => ⟨f.b ++ b, f.sure⟩ } := by
    unfold appendS
    rw [if_neg (by rintro (q | q); exact q hk1; exact hr1 q), if_neg (fun q => q he1), hl1, hkk]
    rfl
  have e2 : put1S s k b = { s1 with files := (s1.files.modify F fun f => ⟨f.b ++ b, f.sure⟩).modify F fun f => ⟨f.b, f.b.length⟩ } := by
    rw [e0, e1]
    obtain ⟨s2, es2⟩ : ∃ t, t = ({ s1 with files := s1.files.modify F fun f => ⟨f.b ++ b, f.sure⟩ } : DS) := ⟨_, rfl⟩
    rw [← es2]
    have a1 : knownE s2 k = 0 := by rw [es2]; exact hk1
    have a2 : letsE s2 = 0 := by rw [es2]; exact he1
    have a3 : letsS s2 = s2 := by rw [es2]; unfold letsS; rw [if_pos hd1.2]
    have a4 : look s2.names k = some F := by rw [es2]; exact hkk
    unfold syncS
    rw [if_neg (fun q => q a1), if_neg (fun q => q a2), a3, a4, es2]
    rfl
  have hfiles : (put1S s k b).files = s.files ++ [⟨b, b.length⟩] := by
    rw [e2]
    show (s1.files.modify F _).modify F _ = _
    rw [hf1, hF]
    apply List.ext_getElem?
    intro i
    rw [List.getElem?_modify, List.getElem?_modify]
    by_cases q : i < s.files.length
    · rw [List.getElem?_append_left q, List.getElem?_append_left q]
      rw [List.getElem?_eq_getElem q]
      simp [show ¬ s.files.length = i by omega]
    · rw [List.getElem?_append_right (by omega), List.getElem?_append_right (by omega)]
      by_cases q2 : i = s.files.length
      · subst q2; simp
      · have : i - s.files.length ≠ 0 := by omega
        obtain ⟨j, hj⟩ : ∃ j, i - s.files.length = j + 1 := ⟨i - s.files.length - 1, by omega⟩
        rw [hj]; simp
  have hnames : (put1S s k b).names = s1.names := by rw [e2]
  refine ⟨⟨by rw [e2]; exact hd1.1, by rw [e2]; exact hd1.2⟩, by rw [hnames]; exact hlen, ⟨hm, F, by rw [hnames]; exact hkk, ?_⟩, fun q c hq => ?_, hn, fun q hq => ?_⟩
  · rw [hfiles, hF]; simp
  · obtain ⟨h1, i, h2, h3⟩ := hq
    refine ⟨h1, i, ?_, ?_⟩
    · rw [hnames, hlk, if_neg (fun e => by rw [e, hn] at h2; cases h2)]; exact h2
    · rw [hfiles, List.getElem?_append_left (List.getElem?_eq_some_iff.1 h3).1]; exact h3
  · rw [hnames, hlk] at hq
    by_cases e : q = k
    · exact .inl e
    · rw [if_neg e] at hq; exact .inr hq
/-- what a disk has behind files that were written on it -/
structure PutOk (s t : DS) (l : List (ByteArray × List UInt8)) : Prop where
  free : FreeS t
  many : t.names.length = s.names.length + l.length
  has : ∀ x ∈ l, HasF t x.1 x.2
  keep : ∀ q c, HasF s q c → HasF t q c
  only : ∀ q, (look t.names q).isSome = true → (∃ x ∈ l, x.1 = q) ∨ (look s.names q).isSome = true
theorem put_ok : ∀ {l : List (ByteArray × List UInt8)} {s : DS} {n : Nat} (_ : DsOk s n) (_ : FreeS s) (_ : putE s l = 0), PutOk s (putS s l) l
  | [], s, n, ok, hf, h => ⟨hf, rfl, fun x hx => (by cases hx), fun _ _ h => h, fun _ h => .inr h⟩
  | x :: r, s, n, ok, hf, h => by
    unfold putE at h
    have c0 : put1E s x.1 x.2 = 0 := by
      by_cases q : put1E s x.1 x.2 = 0
      · exact q
      · rw [if_pos q] at h; exact absurd h q
    rw [if_neg (fun q => q c0)] at h
    have h1 := put1_ok ok hf c0
    have h2 := put_ok (ok.put1 x.1 x.2) h1.free h
    have e : putS s (x :: r) = putS (put1S s x.1 x.2) r := by
      show (if put1E s x.1 x.2 ≠ 0 then _ else _) = _
      rw [if_neg (fun q => q c0)]
    rw [e]
    refine ⟨h2.free, by rw [h2.many, h1.many, List.length_cons]; omega, fun y hy => ?_, fun q c hq => h2.keep q c (h1.keep q c hq), fun q hq => ?_⟩
    · rcases List.mem_cons.1 hy with rfl | hy
      · exact h2.keep _ _ h1.has
      · exact h2.has y hy
    · rcases h2.only q hq with ⟨y, hy, e⟩ | hq
      · exact .inl ⟨y, List.mem_cons_of_mem _ hy, e⟩
      · rcases h1.only q hq with e | hq
        · exact .inl ⟨x, List.mem_cons_self, e.symm⟩
        · exact .inr hq
end Go.Proofs.Herb
namespace Go.Proofs.Herb
open Go.RowKit Go.Shelf Go.Lib Go.Sort
def numLay_ren : Go.Shelf.Ren := ⟨fun | 283 => 171 | 284 => 172 | 285 => 173 | 129 => 196 | 317 => 205 | 318 => 206 | n => n, fun | 3 => 3 | 9 => 9 | 4 => 4 | 0 => 0 | 5 => 5 | 53 => 22 | 37 => 75 | 212 => 259 | 51 => 52 | 46 => 202 | n => n, fun | 17 => 0 | n => n⟩
theorem lay283 : Go.Proofs.Lays.n283 Tryz.prog numLay_ren := {
  mixed := by kernel_rfl
  f283 := Tryz.func171.trans (congrArg some (by kernel_rfl))
  t3 := Tryz.underlying3
  a3 := Tryz.isAgg3
  z3 := Tryz.sizeOf3
  v3 := Tryz.zeroValue3
  t4 := Tryz.underlying4
  a4 := Tryz.isAgg4
  z4 := Tryz.sizeOf4
  v4 := Tryz.zeroValue4
  t9 := Tryz.underlying9
  a9 := Tryz.isAgg9
  z9 := Tryz.sizeOf9
  v9 := Tryz.zeroValue9 }
theorem lay284 : Go.Proofs.LaysM.n284 Tryz.prog numLay_ren := {
  mixed := by kernel_rfl
  f129 := Tryz.func196.trans (congrArg some (by kernel_rfl))
  f284 := Tryz.func172.trans (congrArg some (by kernel_rfl))
  f317 := Tryz.func205.trans (congrArg some (by kernel_rfl))
  f318 := Tryz.func206.trans (congrArg some (by kernel_rfl))
  t0 := Tryz.underlying0
  a0 := Tryz.isAgg0
  z0 := Tryz.sizeOf0
  v0 := Tryz.zeroValue0
  t3 := Tryz.underlying3
  a3 := Tryz.isAgg3
  z3 := Tryz.sizeOf3
  v3 := Tryz.zeroValue3
  t4 := Tryz.underlying4
  a4 := Tryz.isAgg4
  z4 := Tryz.sizeOf4
  v4 := Tryz.zeroValue4
  t5 := Tryz.underlying5
  a5 := Tryz.isAgg5
  z5 := Tryz.sizeOf5
  v5 := Tryz.zeroValue5
  t9 := Tryz.underlying9
  a9 := Tryz.isAgg9
  z9 := Tryz.sizeOf9
  v9 := Tryz.zeroValue9
  t46 := Tryz.underlying202
  a46 := Tryz.isAgg202
  z46 := Tryz.sizeOf202
  v46 := Tryz.zeroValue202
  t53 := Tryz.underlying22
  a53 := Tryz.isAgg22
  z53 := Tryz.sizeOf22
  v53 := Tryz.zeroValue22
  t212 := Tryz.underlying259
  a212 := Tryz.isAgg259
  z212 := Tryz.sizeOf259
  v212 := Tryz.zeroValue259
  g17 := by kernel_rfl
  i0 := by kernel_rfl
  i3 := by kernel_rfl
  i4 := by kernel_rfl
  i5 := by kernel_rfl
  i9 := by kernel_rfl
  i46 := by kernel_rfl
  i53 := by kernel_rfl
  i212 := by kernel_rfl
  m17 := by kernel_rfl }
theorem lay285 : Go.Proofs.Lays.n285 Tryz.prog numLay_ren := {
  mixed := by kernel_rfl
  f285 := Tryz.func173.trans (congrArg some (by kernel_rfl))
  t0 := Tryz.underlying0
  a0 := Tryz.isAgg0
  z0 := Tryz.sizeOf0
  v0 := Tryz.zeroValue0
  t3 := Tryz.underlying3
  a3 := Tryz.isAgg3
  z3 := Tryz.sizeOf3
  v3 := Tryz.zeroValue3
  t4 := Tryz.underlying4
  a4 := Tryz.isAgg4
  z4 := Tryz.sizeOf4
  v4 := Tryz.zeroValue4
  t5 := Tryz.underlying5
  a5 := Tryz.isAgg5
  z5 := Tryz.sizeOf5
  v5 := Tryz.zeroValue5
  t9 := Tryz.underlying9
  a9 := Tryz.isAgg9
  z9 := Tryz.sizeOf9
  v9 := Tryz.zeroValue9
  t37 := Tryz.underlying75
  a37 := Tryz.isAgg75
  z37 := Tryz.sizeOf75
  v37 := Tryz.zeroValue75
  t51 := Tryz.underlying52
  a51 := Tryz.isAgg52
  z51 := Tryz.sizeOf52
  v51 := Tryz.zeroValue52
  t53 := Tryz.underlying22
  a53 := Tryz.isAgg22
  z53 := Tryz.sizeOf22
  v53 := Tryz.zeroValue22 }
/-- the library's table of powers of ten reads as it was laid -/
def Pow10 (w : World) : Prop := Lib.TabIs Tryz.prog w "internal/strconv.uint64pow10" .u64 Lib.pow10Tab
theorem gPow10 : Tryz.prog.globalNamed "internal/strconv.uint64pow10" = some 0 := by kernel_rfl
theorem Pow10.below {w w' : World} {B : Nat} (h : Pow10 w) (hb : Below B w w') (hB : w.heap.size ≤ B) : Pow10 w' := Go.Joins.tab_stays gPow10 h hb hB
theorem Pow10.on {w w' : World} {B : Nat} (h : Pow10 w) (hb : Below B w w') (hB : 0 < B) : Pow10 w' := by
  unfold Pow10 Lib.TabIs World.var? at *
  rw [gPow10] at *
  simp only [Option.bind_some] at *
  rw [hb.block _ hB]
  exact h
theorem small_any (i : Nat) (h : i < 100) (w : World) : Calls Tryz.prog 171 #[.int .i64 (i : Int)] w fun e w' => e = .returned (.string ⟨(Lib.decDigits i).toArray⟩) ∧ w' = w := Any.internal_strconv_small lay283 i h w
theorem numDigits_any (u : Nat) (h1 : 1 ≤ u) (h2 : u < 18446744073709551616) (w : World) (ht : Pow10 w) : Calls Tryz.prog 172 #[.int .u64 (u : Int)] w fun e w' => e = .returned (.int .i64 ((Lib.nDigits u : Nat) : Int)) ∧ w' = w := Any.internal_strconv_numDigits lay284 u h1 h2 w ht
theorem nDigits_le (u : Nat) (h1 : 1 ≤ u) (h2 : u < 18446744073709551616) : Lib.nDigits u ≤ 20 := by have := Lib.numDigits_eq u h1 h2; split at this <;> omega
set_option maxRecDepth 100000 in
set_option maxHeartbeats 6400000 in
theorem fmtU_any (u : Nat) (hu : u < 18446744073709551616) (w : World) (ht : Pow10 w) :
    Calls Tryz.prog 137 #[.int .u64 (u : Int), .int .i64 10] w fun e w' => e = .returned (.string ⟨(Lib.decDigits u).toArray⟩) ∧ Below w.heap.size w w' := by
  by_cases h100 : u < 100
  · have b0 : decide ((u : Int) < 100) = true := by simp; omega
    go_enter Tryz.func137, Tryz.ntmps137
    go_wp2_with (go_at_call 171; refine (small_any u h100 _).mono ?_; rintro e w' ⟨rfl, rfl⟩)
    go_ret
    exact ⟨rfl, Below.refl _ _⟩
  · have b0 : decide ((u : Int) < 100) = false := by simp; omega
    have hu1 : 1 ≤ u := by omega
    have hnd := nDigits_le u hu1 hu
    have hH0 := Lib.holds_zero0 w 216 (Lib.nDigits u) (by omega)
    have hlt := Lib.lt_pow_nDigits u
    have HND := hid (decDigits_length u)
    obtain ⟨ND, hN⟩ : ∃ N, N = Lib.nDigits u := ⟨_, rfl⟩
    rw [← hN] at hnd hH0 hlt
    have hal : Tryz.prog.arrayLen 216 = 24 := by kernel_rfl
    have hfmt := Any.internal_strconv_formatBase10 lay285 w.heap.size 0 24 u (Array.replicate ND 0) (w.alloc (.cells Lib.zeros24 216)) hH0 (by rw [Array.size_replicate]; exact hlt) hu (by rw [Array.size_replicate]; omega)
    rw [Array.size_replicate] at hfmt
    have HF := hid (show Calls Tryz.prog 173 #[.slice (some ⟨w.heap.size, 0, none⟩) ND 24, .int .u64 (u : Int)] (w.alloc (.cells Lib.zeros24 216)) _ from hfmt)
    have hnu := numDigits_any u hu1 hu (w.alloc (.cells Lib.zeros24 216)) (Lib.tabIs_alloc ht _)
    rw [← hN] at hnu
    have HNu := hid hnu
    have HH0 := hid hH0
    have HN := hid hN
    clear hH0 hfmt hal ht hnu hN
    go_enter Tryz.func137, Tryz.ntmps137
    go_wp2_with fail
    refine HNu.out.mono ?_
    rintro e w' ⟨rfl, rfl⟩
    have hal : Tryz.prog.arrayLen 216 = 24 := by kernel_rfl
    have hel : Tryz.prog.elem 216 = 5 := by kernel_rfl
    have hsl1 : ∀ W, (Instr.sliceAt 216 (.pointer (some ⟨w.heap.size, 0, none⟩)) none (some (.int .i64 (ND : Int))) none).run Tryz.prog W = .ok (.slice (some ⟨w.heap.size, 0, none⟩) ND 24) W := fun W => by
      rw [run_sliceAt_array_h W 216 ⟨w.heap.size, 0, none⟩ (by kernel_rfl) .i64 (ND : Int) (by omega) (by rw [hal]; omega)]
      rw [hal, hel, Tryz.sizeOf5]
      simp [Result.andThen, slicedAt, Lib.add_plain]
    clear hal hel
    go_wp2_with fail
    refine HF.out.mono ?_
    rintro e w' ⟨rfl, k, v', dk, rfl, hFm⟩
    have hsz : dk.size = ND := by rw [hFm.size]
    have hFm' : FmtInv (Lib.nDigits u) u 0 v' dk := by rw [← HN.out]; exact hFm
    have hcv : (convert 75 9 (.slice (some ⟨w.heap.size, 0, none⟩) ND 24)).run Tryz.prog ((putRow (fun (b : UInt8) => Value.int .u8 (b.toNat : Int)) (w.alloc (.cells Lib.zeros24 216)) w.heap.size 0 dk).drewN k) = .ok (.string ⟨(Lib.decDigits u).toArray⟩) ((putRow (fun (b : UInt8) => Value.int .u8 (b.toNat : Int)) (w.alloc (.cells Lib.zeros24 216)) w.heap.size 0 dk).drewN k) := by
      have h := run_convert_bytes_back (P := Tryz.prog) ((putRow (fun (b : UInt8) => Value.int .u8 (b.toNat : Int)) (w.alloc (.cells Lib.zeros24 216)) w.heap.size 0 dk).drewN k) 75 9 5 ⟨w.heap.size, 0, none⟩ 24 (Lib.decDigits u) Tryz.underlying75 Tryz.underlying5 Tryz.underlying9 (fun j hj => by
        rw [Lib.row_is_numeral hFm' j hj, Lib.add_plain, World.cell?_drewN]
        exact cell?_putRow (fun (b : UInt8) => Value.int .u8 (b.toNat : Int)) _ w.heap.size 0 _ dk HH0.out (by rw [hsz, Array.size_replicate]) j (by rw [hsz, HN.out, ← Lib.decDigits_length]; exact hj))
      rw [Lib.decDigits_length, ← HN.out] at h
      exact h
    obtain ⟨os, eo⟩ := Lib.fin_at w (.cells Lib.zeros24 216) dk k 0
    have HB := hid (show Below w.heap.size w ((putRow (fun (b : UInt8) => Value.int .u8 (b.toNat : Int)) (w.alloc (.cells Lib.zeros24 216)) w.heap.size 0 dk).drewN k) by rw [eo]; exact Lib.below_grow _ w (Nat.le_refl _) k os)
    clear eo hFm hFm' hsz
    go_wp2
    go_ret
    exact ⟨rfl, HB.out⟩
theorem dec_len (u : Nat) (h : u < 18446744073709551616) : 1 ≤ (Lib.decDigits u).length ∧ (Lib.decDigits u).length ≤ 20 := by
  by_cases h0 : u < 10
  · rw [Lib.decDigits_one h0]; simp
  · rw [Lib.decDigits_length]
    refine ⟨?_, nDigits_le u (by omega) h⟩
    rcases Nat.eq_zero_or_pos (Lib.nDigits u) with q | q
    · have := Lib.lt_pow_nDigits u
      rw [q] at this
      omega
    · exact q
/-- a table's file -/
def nmU (u : Nat) : ByteArray := ⟨(116 :: 45 :: Lib.decDigits u).toArray⟩
theorem nm_size (u : Nat) (h : u < 18446744073709551616) : 3 ≤ (nmU u).size ∧ (nmU u).size ≤ 22 := by
  have := dec_len u h
  show 3 ≤ (116 :: 45 :: Lib.decDigits u).toArray.size ∧ (116 :: 45 :: Lib.decDigits u).toArray.size ≤ 22
  simp
  omega
theorem nm_max (u : Nat) (h : u < 18446744073709551616) : (nmU u).size ≤ maxLen := by have := (nm_size u h).2; unfold maxLen; omega
set_option maxRecDepth 100000 in
set_option maxHeartbeats 1000000 in
theorem fmtP_any (u : Nat) (hu : u < 18446744073709551616) (w : World) (ht : Pow10 w) :
    Calls Tryz.prog 86 #[.int .u64 (u : Int), .int .i64 10] w fun e w' => e = .returned (.string ⟨(Lib.decDigits u).toArray⟩) ∧ Below w.heap.size w w' := by
  have H := hid (fmtU_any u hu w ht)
  clear ht
  go_enter Tryz.func86, Tryz.ntmps86
  go_wp2_with (go_at_call 137; refine H.out.mono ?_; rintro e w1 ⟨rfl, hb⟩)
  go_ret
  exact ⟨rfl, hb⟩
set_option maxRecDepth 100000 in
set_option maxHeartbeats 1000000 in
theorem name_any (u : Nat) (hu : u < 18446744073709551616) (w : World) (ht : Pow10 w) :
    Calls Tryz.prog 35 #[.int .u64 (u : Int)] w fun e w' => e = .returned (.string (nmU u)) ∧ Below w.heap.size w w' := by
  have H := hid (fmtP_any u hu w ht)
  have hl := dec_len u hu
  obtain ⟨S, hS⟩ : ∃ S : ByteArray, S = ⟨(Lib.decDigits u).toArray⟩ := ⟨_, rfl⟩
  have hSz : S.size ≤ 20 := by rw [hS]; show (Lib.decDigits u).toArray.size ≤ 20; simp; omega
  have hN : (⟨#[116, 45]⟩ ++ S : ByteArray) = nmU u := by
    rw [hS]
    unfold nmU
    apply ByteArray.ext
    rw [ByteArray.data_append]
    simp
  have HN := hid hN
  have HS := hid hS
  clear ht hN hS
  go_enter Tryz.func35, Tryz.ntmps35
  go_wp2_with (go_at_call 86; refine H.out.mono ?_; rintro e w1 ⟨rfl, hb⟩; rw [← HS.out])
  go_ret
  exact ⟨by rw [← HN.out]; rfl, hb⟩
end Go.Proofs.Herb
namespace Go.Proofs.Herb
section
variable {P : Program}
theorem run_loadVar_rd (w : World) (b off : Nat) (ty : TypeId) (cs : List Value) (d : TypeDesc) (hr : ∀ (j : Nat) (u : Value), cs[j]? = some u → w.cell? ⟨b, off + j, none⟩ = some u)
    (hu : P.underlying ty = some d) (hd : (match d with | .struct _ | .array _ _ => true | _ => false) = true) (hi : (P.info? ty).map (·.size) = some cs.length) :
    (loadVar ty ⟨b, off, none⟩).run P w = .ok (.agg cs.toArray) w := by
  have hl : (loadCells ⟨b, off, none⟩ cs.length).run P w = .ok cs.toArray w :=
    run_loadCells_list (P := P) w ⟨b, off, none⟩ cs (fun j v hv => by
      have hadd : (⟨b, off, none⟩ : Addr).add j = ⟨b, off + j, none⟩ := by unfold Addr.add; split <;> simp_all
      rw [hadd]
      exact hr j v hv)
  cases hq : P.info? ty with
  | none => simp [hq] at hi
  | some i =>
    have hs : i.size = cs.length := by simpa [hq] using hi
    have hagg : (isAgg ty).run P w = .ok true w := by
      unfold isAgg
      rw [Sem.run_bind, run_underlying hu w]
      cases d <;> simp_all
    simp [loadVar, Sem.run_bind, hagg, sizeOf, typeInfo, hq, hs, hl]
theorem wp_load_rd {o : Oper} {a : Act} {w : World} {K : Act → World → Prop} {Q : Exit → Act → World → Prop} (ty : TypeId) (x : Operand) (ho : o.op = .load ty x)
    (b off : Nat) (hx : a.eval x = .pointer (some ⟨b, off, none⟩)) (cs : List Value) (d : TypeDesc) (hr : ∀ (j : Nat) (u : Value), cs[j]? = some u → w.cell? ⟨b, off + j, none⟩ = some u)
    (hu : P.underlying ty = some d) (hd : (match d with | .struct _ | .array _ _ => true | _ => false) = true) (hi : (P.info? ty).map (·.size) = some cs.length)
    (h : K (a.put o.dst (.agg cs.toArray)) w) : o.wp P a w K Q := by
  unfold Oper.wp execOp
  simp only [ho, hx, Instr.loadAt, Instr.sureAddr, Sem.run_bind, Sem.run_pure, Result.andThen_ok, run_loadVar_rd w b off ty cs d hr hu hd hi]
  exact h
theorem wpList_load_rd {ops : Array Oper} {rest : List Oper} {o : Oper} {a : Act} {w : World} {Q : Exit → Act → World → Prop} (hgd : o.guard = none) (ty : TypeId) (x : Operand) (ho : o.op = .load ty x)
    (b off : Nat) (hx : a.eval x = .pointer (some ⟨b, off, none⟩)) (cs : List Value) (d : TypeDesc) (hr : ∀ (j : Nat) (u : Value), cs[j]? = some u → w.cell? ⟨b, off + j, none⟩ = some u)
    (hu : P.underlying ty = some d) (hd : (match d with | .struct _ | .array _ _ => true | _ => false) = true) (hi : (P.info? ty).map (·.size) = some cs.length)
    (h : wpList P ops Q rest (a.put o.dst (.agg cs.toArray)) w) : wpList P ops Q (o :: rest) a w :=
  wpList_plain hgd fun _ hK => wp_load_rd ty x ho b off hx cs d hr hu hd hi (hK _ _ h)
end
end Go.Proofs.Herb
namespace Go.Proofs.Herb
open Go.RowKit
/-- a region that draws its order, in a class of worlds that is told by a letter -/
theorem region_quiet_d {P : Program} {T : Type} {D : T → World} {id : Nat} {Q : Exit → Act → World → Prop} {a : Act} {w : World} {l : List Oper} (hm : P.follows .mixedOrders = true) (hB : Region.lexB .any l.toArray = true) (x0 : T) (hx0 : { w with drawn := w.drawn + 1 } = D x0)
    (h : wpQuiet P l.toArray (fun w' => ∃ x, w' = D x) (fun a' => ∀ x, Q .normal a' (D x)) l a) : (Code.region id l.toArray true).wp P Q a w :=
  region_quiet_c (C := fun w' => ∃ x, w' = D x) hm hB ⟨x0, hx0⟩ (by
    have e : (fun a' => ∀ x, Q .normal a' (D x)) = fun a' => ∀ w', (∃ x, w' = D x) → Q .normal a' w' := by
      funext a'
      exact propext ⟨fun h w' ⟨x, hx⟩ => hx ▸ h x, fun h x => h _ ⟨x, rfl⟩⟩
    rw [e] at h
    exact h)
theorem class_d (w : World) : ∃ (T : Type) (D : T → World), (∀ x, Below w.heap.size w (D x)) ∧ ∀ w', Below w.heap.size w w' → ∃ x, w' = D x :=
  ⟨{ w' // Below w.heap.size w w' }, Subtype.val, fun x => x.2, fun w' h => ⟨⟨w', h⟩, rfl⟩⟩
theorem calls_d {P : Program} {w : World} {T : Type} {D : T → World} (h1 : ∀ x, Below w.heap.size w (D x)) (h2 : ∀ w', Below w.heap.size w w' → ∃ x, w' = D x) {f : Nat} {vs : Array Value} {v : Value}
    (hf : ∀ w', Below w.heap.size w w' → Calls P f vs w' fun e w'' => e = .returned v ∧ Below w'.heap.size w' w'') (x : T) : Calls P f vs (D x) fun e w'' => e = .returned v ∧ ∃ y, w'' = D y := by
  refine (hf _ (h1 x)).mono ?_
  rintro e w'' ⟨k1, k2⟩
  exact ⟨k1, h2 _ ((h1 x).trans (k2.mono (h1 x).size))⟩
end Go.Proofs.Herb
namespace Go.Proofs.Herb
open Go.RowKit
end Go.Proofs.Herb
namespace Go.Proofs.Herb
open Go.RowKit
section
variable {P : Program} {md : Region.Mode} {Q : Exit → Act → World → Prop} {R : Act → World → Prop} {ops : Array Oper}
def tlB2 (md : Region.Mode) (l1 l2 : List Oper) : Bool :=
  l1.all (fun o => match o.guard with | none => true | some (j, _) => decide (j < l1.length)) &&
    l2.all (fun o => (o.after.any fun e => Region.binds md e && (decide (l1.length ≤ e.on) && decide (e.on < l1.length + l2.length))) || (List.range l1.length).all fun k => (o.after.any fun e => Region.binds md e && e.on == k) || (List.range l1.length).any fun j => decide (k < j) && ((l1[j]?).map fun oj => oj.after.any fun e => Region.binds md e && e.on == k).getD false) &&
    (List.range l1.length).all fun j => ((l1[j]?).map (fun o => o.after.all fun e => !Region.binds md e || decide (e.on < j))).getD true
/-- what is listed waits for nothing that is not -/
def ClosedL (md : Region.Mode) (l1 : List Oper) (lh : Array Bool) : Prop := ∀ j o, l1[j]? = some o → lh.getD j true = true → ∀ e ∈ o.after, Region.binds md e = true → lh.getD e.on true = true
theorem wpAny_split2 {l1 l2 : List Oper} (hB : tlB2 md l1 l2 = true)
    (hR : ∀ a w, R a w → wpAny P md (l1 ++ l2).toArray Q l2.length (Array.replicate l1.length true ++ Array.replicate l2.length false) a w) :
    ∀ (f : Nat) (lh : Array Bool) (a : Act) (w : World), lh.size = l1.length → ClosedL md l1 lh → wpAny P md l1.toArray (headQ R Q) f lh a w → wpAny P md (l1 ++ l2).toArray Q (f + l2.length) (lh ++ Array.replicate l2.length false) a w := by
  simp only [tlB2, Bool.and_eq_true, List.all_eq_true, Bool.or_eq_true (Array.any _ _), List.mem_range] at hB
  obtain ⟨⟨hg, hT⟩, hA⟩ := hB
  have hA' : ∀ j o, l1[j]? = some o → ∀ e ∈ o.after, Region.binds md e = true → e.on < j := by
    intro j o ho e he hb
    have h := hA j (List.getElem?_eq_some_iff.1 ho).1
    rw [ho] at h
    simp only [Option.map_some, Option.getD_some, Array.all_eq_true_iff_forall_mem] at h
    have h2 := h e he
    rw [hb] at h2
    simpa using h2
  have hall : ∀ lh : Array Bool, lh.size = l1.length → Region.ready md l1.toArray lh = [] → lh = Array.replicate l1.length true := by
    intro lh hs hr
    have key : ∀ j, j < l1.length → lh.getD j true = true := by
      intro j
      induction j using Nat.strongRecOn with
      | _ j ih =>
        intro hj
        cases hc : lh.getD j true with
        | true => rfl
        | false =>
          exfalso
          have hm : j ∈ Region.ready md l1.toArray lh := mem_ready.2 ⟨hc, l1[j], by simp [hj], fun e he hb => by
            have hlt := hA' j _ (List.getElem?_eq_getElem hj) e he hb
            have h1 := ih e.on hlt (by omega)
            have h2 : e.on < lh.size := by omega
            simpa [Array.getD, h2] using h1⟩
          rw [hr] at hm
          cases hm
    apply Array.ext
    · simpa using hs
    · intro i h1 h2
      have := key i (by omega)
      simpa [Array.getD, h1] using this
  have hend : ∀ (f : Nat) (lh : Array Bool) (a : Act) (w : World), lh.size = l1.length → Region.ready md l1.toArray lh = [] → R a w → wpAny P md (l1 ++ l2).toArray Q (f + l2.length) (lh ++ Array.replicate l2.length false) a w := by
    intro f lh a w hs hr h
    rw [hall lh hs hr]
    exact wpAny_le (hR a w h) f
  intro f
  induction f with
  | zero => intro lh a w hs _ h; exact hend 0 lh a w hs h.1 h.2
  | succ f ih =>
    intro lh a w hs hcl h
    by_cases hr : Region.ready md l1.toArray lh = []
    · exact hend (f + 1) lh a w hs hr (h.1 hr)
    · obtain ⟨k, hk⟩ := List.exists_mem_of_ne_nil _ hr
      obtain ⟨hk1, ok, hok, _⟩ := mem_ready.1 hk
      have hkl : k < l1.length := by simpa using (Array.getElem?_eq_some_iff.1 hok).1
      have hks : lh[k]? = some false := by
        have h2 : k < lh.size := by omega
        simp [Array.getD, h2] at hk1
        simp [h2, hk1]
      have hmem : ∀ i, i ∈ Region.ready md (l1 ++ l2).toArray (lh ++ Array.replicate l2.length false) → i < l1.length ∧ i ∈ Region.ready md l1.toArray lh := by
        intro i hi
        obtain ⟨h1, o, ho, h3⟩ := mem_ready.1 hi
        by_cases hil : i < l1.length
        · have ho1 : l1[i]? = some o := by
            have : (l1 ++ l2)[i]? = some o := by simpa using ho
            rwa [List.getElem?_append_left hil] at this
          refine ⟨hil, mem_ready.2 ⟨?_, o, by simpa using ho1, fun e he hb => ?_⟩⟩
          · have h2 : i < lh.size := by omega
            simpa [Array.getD_eq_getD_getElem?, Array.getElem?_append_left h2] using h1
          · have hlt := hA' i o ho1 e he hb
            have h2 : e.on < lh.size := by omega
            have h4 := h3 e he hb
            simpa [Array.getD_eq_getD_getElem?, Array.getElem?_append_left h2] using h4
        · exfalso
          have ho2 : o ∈ l2 := by
            have : (l1 ++ l2)[i]? = some o := by simpa using ho
            rw [List.getElem?_append_right (by omega)] at this
            exact List.mem_of_getElem? this
          have hT2 := hT o ho2
          rcases hT2 with hT2 | hT2
          · simp only [Array.any_eq_true', Bool.and_eq_true, decide_eq_true_eq] at hT2
            obtain ⟨e, he, hb, hlo, hhi⟩ := hT2
            have h5 := h3 e he hb
            have h2 : ¬ e.on < lh.size := by omega
            have h6 : (lh ++ Array.replicate l2.length false)[e.on]? = some false := by
              rw [Array.getElem?_append_right (by omega), Array.getElem?_replicate, if_pos (by omega)]
            simp [Array.getD_eq_getD_getElem?, h6] at h5
          have key : ∀ d k, k + d = l1.length → k < l1.length → lh.getD k true = true := by
            intro d
            induction d using Nat.strongRecOn with
            | _ d ih =>
              intro k hkd hkl
              have h4 := hT2 k hkl
              simp only [List.any_eq_true, List.mem_range, Array.any_eq_true', Bool.and_eq_true, beq_iff_eq, decide_eq_true_eq] at h4
              rcases h4 with ⟨e, he, hb, hon⟩ | ⟨j, hj, hkj, h5⟩
              · have h5 := h3 e he hb
                rw [hon] at h5
                have h2 : k < lh.size := by omega
                simpa [Array.getD_eq_getD_getElem?, Array.getElem?_append_left h2, h2] using h5
              · rw [List.getElem?_eq_getElem hj] at h5
                simp only [Option.map_some, Option.getD_some, Array.any_eq_true', Bool.and_eq_true, beq_iff_eq] at h5
                obtain ⟨e, he, hb, hon⟩ := h5
                have h6 := ih (l1.length - j) (by omega) j (by omega) hj
                have h7 := hcl j _ (List.getElem?_eq_getElem hj) h6 e he hb
                rw [hon] at h7
                exact h7
          have h8 := key (l1.length - k) k (by omega) hkl
          have h2 : k < lh.size := by omega
          simp [Array.getD_eq_getD_getElem?, hks] at h8
      rw [show f + 1 + l2.length = (f + l2.length) + 1 from by omega]
      refine ⟨fun hn => ?_, fun i hi => ?_⟩
      · exfalso
        have : k ∈ Region.ready md (l1 ++ l2).toArray (lh ++ Array.replicate l2.length false) := by
          obtain ⟨_, o, ho, h3⟩ := mem_ready.1 hk
          have ho1 : l1[k]? = some o := by simpa using ho
          have h2 : k < lh.size := by omega
          refine mem_ready.2 ⟨by simp [Array.getD_eq_getD_getElem?, Array.getElem?_append_left h2, hks], o, by simp [List.getElem?_append_left hkl, ho1], fun e he hb => ?_⟩
          have hlt := hA' k o ho1 e he hb
          have h6 : e.on < lh.size := by omega
          have h4 := h3 e he hb
          simpa [Array.getD_eq_getD_getElem?, Array.getElem?_append_left h6] using h4
        rw [hn] at this
        cases this
      · obtain ⟨hil, hi2⟩ := hmem i hi
        have hw := h.2 i hi2
        have hl : (l1 ++ l2).toArray[i]? = l1.toArray[i]? := by simp [List.getElem?_append_left hil]
        have hgi : ∀ o, l1.toArray[i]? = some o → Region.wanted o (yielded (l1 ++ l2).toArray a.tmps) = Region.wanted o (yielded l1.toArray a.tmps) := fun o ho => by
          have hm : o ∈ l1 := List.mem_of_getElem? (by simpa using ho)
          have h9 := hg o hm
          unfold Region.wanted
          cases hgo : o.guard with
          | none => rfl
          | some x =>
            obtain ⟨j, want⟩ := x
            rw [hgo] at h9
            simp only [decide_eq_true_eq] at h9
            have e : (l1 ++ l2).toArray[j]? = l1.toArray[j]? := by simp [List.getElem?_append_left h9]
            simp only [yielded, e]
        have hcl2 : ClosedL md l1 (lh.setIfInBounds i true) := by
          intro j oj hoj hlj e he hb
          have hjl : j < l1.length := (List.getElem?_eq_some_iff.1 hoj).1
          have hon := hA' j oj hoj e he hb
          have hd : lh.getD e.on true = true := by
            by_cases hji : j = i
            · subst hji
              obtain ⟨_, o', ho', h3⟩ := mem_ready.1 hi2
              have : o' = oj := by
                have h1 : l1[j]? = some o' := by simpa using ho'
                rw [hoj] at h1
                exact (Option.some.inj h1).symm
              subst this
              have h5 := h3 e he hb
              simp only [Array.getD_eq_getD_getElem?] at h5 ⊢
              cases hh : lh[e.on]? with
              | none => rw [hh] at h5; cases h5
              | some v => rw [hh] at h5; exact h5
            · refine hcl j oj hoj ?_ e he hb
              simpa [Array.getD_eq_getD_getElem?, Array.getElem?_setIfInBounds_ne (Ne.symm hji)] using hlj
          by_cases hei : e.on = i
          · subst hei
            simp [Array.getD_eq_getD_getElem?, Array.getElem?_setIfInBounds]
            split <;> simp
          · simpa [Array.getD_eq_getD_getElem?, Array.getElem?_setIfInBounds_ne (Ne.symm hei)] using hd
        have hset : (lh ++ Array.replicate l2.length false).setIfInBounds i true = lh.setIfInBounds i true ++ Array.replicate l2.length false := by
          rw [Array.setIfInBounds_append_left (by omega)]
        unfold wpOp at hw ⊢
        rw [hl]
        rw [hset]
        cases ho : l1.toArray[i]? with
        | none => rw [ho] at hw; exact ih _ _ _ (by simpa using hs) hcl2 hw
        | some o =>
          rw [ho] at hw
          have hgo := hgi o ho
          simp only [hgo] at hw ⊢
          by_cases hwd : Region.wanted o (yielded l1.toArray a.tmps) = true
          · simp only [hwd, if_true] at hw ⊢
            rcases hw with hw | ⟨hw1, hw2⟩
            · exact .inl (Oper.wp_mono (fun a' w' h' => ih _ _ _ (by simpa using hs) hcl2 h') (wp_headQ hw))
            · exact .inr ⟨hw1, hw2⟩
          · simp only [hwd] at hw ⊢
            exact ih _ _ _ (by simpa using hs) hcl2 hw
def splitB2 (l : List Oper) (n : Nat) : Bool :=
  tlB2 .any (l.take n) (l.drop n) && Region.seqB .any (l.take n ++ l.drop n).toArray (l.drop n).length (l.take n).length (Array.replicate (l.take n).length true ++ Array.replicate (l.drop n).length false)
theorem region_last {C : World → Prop} {id : Nat} {a : Act} {w : World} {l : List Oper} (n : Nat) (hm : P.follows .mixedOrders = true) (hB : splitB2 l n = true) (hL : Region.lexB .any (l.take n).toArray = true) (hC : C { w with drawn := w.drawn + 1 })
    (h : wpQuiet P (l.take n).toArray C (fun a' => ∀ w', C w' → wpList P l.toArray Q (l.drop n) a' w') (l.take n) a) : (Code.region id l.toArray true).wp P Q a w := by
  simp only [splitB2, Bool.and_eq_true] at hB
  obtain ⟨h1, h2⟩ := hB
  have hl : l.take n ++ l.drop n = l := List.take_append_drop n l
  simp only [Region.lexB, Bool.and_eq_true] at hL
  have hq := wpAnyQ_lex (P := P) (C := C) (md := .any) hL.1 (l.take n) 0 (Array.replicate (l.take n).length false) a (by simp) (by simpa using hL.2) h
  have h3 := wpAny_of_quiet (Q' := headQ (fun a w => wpList P l.toArray Q (l.drop n) a w) Q) (fun a w hw' h => h w hw') _ _ _ _ hC hq
  have hcl : ClosedL .any (l.take n) (Array.replicate (l.take n).length false) := by
    intro j o ho hj
    have : j < (l.take n).length := (List.getElem?_eq_some_iff.1 ho).1
    simp [Array.getD_eq_getD_getElem?, Array.getElem?_replicate] at hj
    rw [List.length_take] at this
    rw [if_pos (by omega)] at hj
    cases hj
  have h4 := wpAny_split2 (P := P) (Q := Q) h1 (R := fun a w => wpList P l.toArray Q (l.drop n) a w) (fun a w hw => by
    refine wpAny_of_seq (l.drop n) (l.take n).length _ a w (fun j => ?_) h2 (by rw [hl]; exact hw)
    simp only [List.getElem?_toArray]
    rw [List.getElem?_append_right (by omega)]
    congr 1
    omega) _ _ a { w with drawn := w.drawn + 1 } (by simp) hcl h3
  refine wp_region_any hm ?_
  rw [hl] at h4
  have e1 : l.toArray.size = (l.take n).length + (l.drop n).length := by rw [← List.length_append, hl]; simp
  rw [e1]
  have e2 : Array.replicate ((l.take n).length + (l.drop n).length) false = Array.replicate (l.take n).length false ++ Array.replicate (l.drop n).length false := by simp
  rw [e2]
  exact h4
/-- .. in a class of worlds that is told by a letter -/
theorem region_last_d {T : Type} {D : T → World} {id : Nat} {a : Act} {w : World} {l : List Oper} (n : Nat) (hm : P.follows .mixedOrders = true) (hB : splitB2 l n = true) (hL : Region.lexB .any (l.take n).toArray = true) (x0 : T) (hx0 : { w with drawn := w.drawn + 1 } = D x0)
    (h : wpQuiet P (l.take n).toArray (fun w' => ∃ x, w' = D x) (fun a' => ∀ x, wpList P l.toArray Q (l.drop n) a' (D x)) (l.take n) a) : (Code.region id l.toArray true).wp P Q a w :=
  region_last (C := fun w' => ∃ x, w' = D x) n hm hB hL ⟨x0, hx0⟩ (by
    have e : (fun a' => ∀ x, wpList P l.toArray Q (l.drop n) a' (D x)) = fun a' => ∀ w', (∃ x, w' = D x) → wpList P l.toArray Q (l.drop n) a' w' := by
      funext a'
      exact propext ⟨fun h w' ⟨x, hx⟩ => hx ▸ h x, fun h x => h _ ⟨x, rfl⟩⟩
    rw [e] at h
    exact h)
end
end Go.Proofs.Herb
namespace Go.Proofs.Herb
open Go.RowKit
section
variable {P : Program} {md : Region.Mode} {Q : Exit → Act → World → Prop} {R : Act → World → Prop} {ops : Array Oper}
/-- some operations in a row, then others in whatever order -/
def midB (md : Region.Mode) (ops : Array Oper) : Nat → Nat → Nat → Array Bool → Bool
  | 0, p, k, listed => Region.lexFrom md ops p k listed
  | m + 1, p, k, listed => decide (Region.ready md ops listed = [k]) && midB md ops m p (k + 1) (listed.setIfInBounds k true)
theorem wpOp_headQ {i : Nat} {K : Act → World → Prop} {a : Act} {w : World} (h : wpOp P ops (headQ R Q) i K a w) : wpOp P ops Q i K a w := by
  unfold wpOp at h ⊢
  cases ho : ops[i]? with
  | none => rw [ho] at h; exact h
  | some o =>
    rw [ho] at h
    simp only at h ⊢
    split at h
    · rename_i hw
      rw [if_pos hw]
      rcases h with h | h
      · exact .inl (wp_headQ h)
      · exact .inr h
    · rename_i hw
      rw [if_neg hw]
      exact h
theorem wpAny_mid (hs : Region.noSelect ops = true) : ∀ (mid post : List Oper) (k : Nat) (listed : Array Bool) (a : Act) (w : World), (∀ j, j < mid.length → mid[j]? = ops[k + j]?) → (∀ j, post[j]? = ops[k + mid.length + j]?) →
    midB md ops mid.length post.length k listed = true → wpList P ops (headQ (fun a' w' => wpQuiet P ops (fun x => x = w') (fun a'' => Q .normal a'' w') post a') Q) mid a w → wpAny P md ops Q (mid.length + post.length) listed a w
  | [], post, k, listed, a, w, _, hp, hB, h => by
    rw [List.length_nil, Nat.zero_add]
    exact wpAny_of_quiet (C := fun x => x = w) (fun a'' w'' hw h => by subst hw; exact h) _ _ _ _ rfl (wpAnyQ_lex hs post k listed a (by simpa using hp) hB h)
  | o :: mid, post, k, listed, a, w, hm, hp, hB, h => by
    have h0 : ops[k]? = some o := by simpa using (hm 0 (by simp)).symm
    simp only [List.length_cons, midB, Bool.and_eq_true, decide_eq_true_eq] at hB
    rw [List.length_cons, show mid.length + 1 + post.length = mid.length + post.length + 1 from by omega]
    refine ⟨fun h1 => (by rw [hB.1] at h1; cases h1), fun i hi => ?_⟩
    rw [hB.1] at hi
    have hik : i = k := by simpa using hi
    subst hik
    refine wpOp_headQ (R := fun a' w' => wpQuiet P ops (fun x => x = w') (fun a'' => Q .normal a'' w') post a') ?_
    have hw : wpOp P ops (headQ (fun a' w' => wpQuiet P ops (fun x => x = w') (fun a'' => Q .normal a'' w') post a') Q) i (wpList P ops (headQ (fun a' w' => wpQuiet P ops (fun x => x = w') (fun a'' => Q .normal a'' w') post a') Q) mid) a w := by unfold wpOp; simp only [h0]; exact h
    exact wpOp_mono (fun a' w' h' => wpAny_mid hs mid post (i + 1) _ a' w' (fun j hj => by have := hm (j + 1) (by simpa using hj); simpa [Nat.add_assoc, Nat.add_comm 1 j] using this) (fun j => by have := hp j; rw [this]; congr 1; simp only [List.length_cons]; omega) hB.2 h') hw
def splitB3 (l : List Oper) (n m : Nat) : Bool :=
  tlB2 .any (l.take n) (l.drop n) && Region.noSelect l.toArray && midB .any (l.take n ++ l.drop n).toArray ((l.drop n).take m).length ((l.drop n).drop m).length (l.take n).length (Array.replicate (l.take n).length true ++ Array.replicate (l.drop n).length false)
/-- .. some operations, in whatever order; some in a row; the others in whatever order -/
theorem region_mid {C : World → Prop} {id : Nat} {a : Act} {w : World} {l : List Oper} (n m : Nat) (hm : P.follows .mixedOrders = true) (hB : splitB3 l n m = true) (hL : Region.lexB .any (l.take n).toArray = true) (hC : C { w with drawn := w.drawn + 1 })
    (h : wpQuiet P (l.take n).toArray C (fun a' => ∀ w', C w' → wpList P l.toArray (headQ (fun a' w' => wpQuiet P l.toArray (fun x => x = w') (fun a'' => Q .normal a'' w') ((l.drop n).drop m) a') Q) ((l.drop n).take m) a' w') (l.take n) a) : (Code.region id l.toArray true).wp P Q a w := by
  simp only [splitB3, Bool.and_eq_true] at hB
  obtain ⟨⟨h1, hns⟩, h2⟩ := hB
  have hl : l.take n ++ l.drop n = l := List.take_append_drop n l
  simp only [Region.lexB, Bool.and_eq_true] at hL
  have hq := wpAnyQ_lex (P := P) (C := C) (md := .any) hL.1 (l.take n) 0 (Array.replicate (l.take n).length false) a (by simp) (by simpa using hL.2) h
  have h3 := wpAny_of_quiet (Q' := headQ (fun a w => wpList P l.toArray (headQ (fun a' w' => wpQuiet P l.toArray (fun x => x = w') (fun a'' => Q .normal a'' w') ((l.drop n).drop m) a') Q) ((l.drop n).take m) a w) Q) (fun a w hw' h => h w hw') _ _ _ _ hC hq
  have hcl : ClosedL .any (l.take n) (Array.replicate (l.take n).length false) := by
    intro j o ho hj
    have : j < (l.take n).length := (List.getElem?_eq_some_iff.1 ho).1
    simp [Array.getD_eq_getD_getElem?, Array.getElem?_replicate] at hj
    rw [List.length_take] at this
    rw [if_pos (by omega)] at hj
    cases hj
  have hlen : ((l.drop n).take m).length + ((l.drop n).drop m).length = (l.drop n).length := by rw [← List.length_append, List.take_append_drop]
  have h4 := wpAny_split2 (P := P) (Q := Q) h1 (R := fun a w => wpList P l.toArray (headQ (fun a' w' => wpQuiet P l.toArray (fun x => x = w') (fun a'' => Q .normal a'' w') ((l.drop n).drop m) a') Q) ((l.drop n).take m) a w) (fun a w hw => by
    rw [hl] at h2 ⊢
    rw [← hlen] at h2 ⊢
    refine wpAny_mid hns _ _ (l.take n).length _ a w (fun j hj => ?_) (fun j => ?_) h2 hw
    · simp only [List.getElem?_toArray]
      rw [List.getElem?_take_of_lt (by rw [List.length_take] at hj; omega), List.getElem?_drop, List.length_take]
      have : j < (l.drop n).length := by omega
      rw [List.length_drop] at this
      congr 1
      omega
    · simp only [List.getElem?_toArray]
      rw [List.getElem?_drop, List.getElem?_drop]
      by_cases hn : n ≤ l.length
      · by_cases hmm : m ≤ l.length - n
        · congr 1
          rw [List.length_take, List.length_take, List.length_drop]
          omega
        · rw [List.getElem?_eq_none (by omega), List.getElem?_eq_none (by rw [List.length_take, List.length_take, List.length_drop]; omega)]
      · rw [List.getElem?_eq_none (by omega), List.getElem?_eq_none (by rw [List.length_take, List.length_take, List.length_drop]; omega)]) _ _ a { w with drawn := w.drawn + 1 } (by simp) hcl h3
  refine wp_region_any hm ?_
  rw [hl] at h4
  have e1 : l.toArray.size = (l.take n).length + (l.drop n).length := by rw [← List.length_append, hl]; simp
  rw [e1]
  have e2 : Array.replicate ((l.take n).length + (l.drop n).length) false = Array.replicate (l.take n).length false ++ Array.replicate (l.drop n).length false := by simp
  rw [e2]
  exact h4
/-- .. in a class of worlds that is told by a letter -/
theorem region_mid_d {T : Type} {D : T → World} {id : Nat} {a : Act} {w : World} {l : List Oper} (n m : Nat) (hm : P.follows .mixedOrders = true) (hB : splitB3 l n m = true) (hL : Region.lexB .any (l.take n).toArray = true) (x0 : T) (hx0 : { w with drawn := w.drawn + 1 } = D x0)
    (h : wpQuiet P (l.take n).toArray (fun w' => ∃ x, w' = D x) (fun a' => ∀ x, wpList P l.toArray (headQ (fun a' w' => wpQuiet P l.toArray (fun x => x = w') (fun a'' => Q .normal a'' w') ((l.drop n).drop m) a') Q) ((l.drop n).take m) a' (D x)) (l.take n) a) : (Code.region id l.toArray true).wp P Q a w :=
  region_mid (C := fun w' => ∃ x, w' = D x) n m hm hB hL ⟨x0, hx0⟩ (by
    have e : (fun a' => ∀ x, wpList P l.toArray (headQ (fun a' w' => wpQuiet P l.toArray (fun x => x = w') (fun a'' => Q .normal a'' w') ((l.drop n).drop m) a') Q) ((l.drop n).take m) a' (D x)) = fun a' => ∀ w', (∃ x, w' = D x) → wpList P l.toArray (headQ (fun a' w' => wpQuiet P l.toArray (fun x => x = w') (fun a'' => Q .normal a'' w') ((l.drop n).drop m) a') Q) ((l.drop n).take m) a' w' := by
      funext a'
      exact propext ⟨fun h w' ⟨x, hx⟩ => hx ▸ h x, fun h x => h _ ⟨x, rfl⟩⟩
    rw [e] at h
    exact h)
end
end Go.Proofs.Herb
