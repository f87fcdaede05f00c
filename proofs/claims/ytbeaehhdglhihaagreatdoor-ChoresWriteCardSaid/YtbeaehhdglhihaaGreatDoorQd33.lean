/- A directory's entries in order, as the reference holds them: plain. No condition. The disk and the reference's disk, side by side: plain. For states as DsOk says. -/
import Derived.Sort.Walk0
import Derived.Test.YtbeaehhdglhihaaGreatDoorQd30
import Derived.Test.YtbeaehhdglhihaaGreatDoorQd31
import Derived.Test.YtbeaehhdglhihaaGreatDoorQd32
namespace Go.Proofs.Herb
open Go.RowKit Go.Sort
/-- the entries of a directory, in order -/
def entsOf (d : Dir) : List Ent := (sortedK d).map fun l => (ofL l, (look d (ofL l)).getD 0)
def RisE (l : List Ent) : Prop := l.Pairwise fun a b => keyL a.1 < keyL b.1
theorem ltB_eq (a b : ByteArray) : ltB a b = decide (keyL a < keyL b) := by
  unfold ltB keyL
  rw [bytesLess_eq, ByteArray.toList_eq, ByteArray.toList_eq]
theorem sortK_rises {d : Dir} (h : (d.map (·.1)).Nodup) : (sortedK d).Pairwise (· < ·) := by
  have tr : ∀ a b c : List UInt8, leB a b = true → leB b c = true → leB a c = true := fun a b c h1 h2 => by simp only [leB, decide_eq_true_eq] at *; exact List.le_trans h1 h2
  have tot : ∀ a b : List UInt8, (leB a b || leB b a) = true := fun a b => by simp only [leB, Bool.or_eq_true, decide_eq_true_eq]; exact List.le_total a b
  have h1 : (sortedK d).Pairwise (fun a b => leB a b = true) := List.pairwise_mergeSort tr tot _
  have h2 : (sortedK d).Nodup := by
    refine (sortedK_perm d).nodup_iff.2 ?_
    have := nodup_keyL h
    rw [List.map_map] at this
    exact this
  rw [List.nodup_iff_pairwise_ne] at h2
  refine List.Pairwise.imp₂ ?_ h1 h2
  intro a b hab hne
  simp only [leB, decide_eq_true_eq] at hab
  by_cases h : a < b
  · exact h
  · exact absurd (List.le_antisymm hab (List.not_lt.1 h)) hne
theorem entsOf_rises {d : Dir} (h : (d.map (·.1)).Nodup) : RisE (entsOf d) := by
  unfold RisE entsOf
  rw [List.pairwise_map]
  exact (sortK_rises h).imp fun {a b} hab => hab
theorem mem_entsOf {d : Dir} {e : Ent} : e ∈ entsOf d ↔ look d e.1 = some e.2 := by
  unfold entsOf
  rw [List.mem_map]
  constructor
  · rintro ⟨l, hl, rfl⟩
    have h1 : ofL l ∈ (sortedK d).map ofL := List.mem_map.2 ⟨l, hl, rfl⟩
    have h2 := mem_sortedK.1 h1
    obtain ⟨v, hv⟩ := Option.isSome_iff_exists.1 h2
    dsimp only
    rw [hv]; rfl
  · intro h
    have h1 : e.1 ∈ (sortedK d).map ofL := mem_sortedK.2 (by rw [h]; rfl)
    obtain ⟨l, hl, he⟩ := List.mem_map.1 h1
    refine ⟨l, hl, ?_⟩
    rw [he, h]; rfl
theorem entsOf_len (d : Dir) : (entsOf d).length = d.length := by
  unfold entsOf
  rw [List.length_map, sortedK_len]
theorem RisE.nodup {l : List Ent} (h : RisE l) : l.Nodup := by
  rw [List.nodup_iff_pairwise_ne]
  exact h.imp fun {a b} hab e => by rw [e] at hab; exact absurd hab (List.lt_irrefl _)
theorem RisE.one {l : List Ent} (h : RisE l) {a b : Ent} (ha : a ∈ l) (hb : b ∈ l) (hk : a.1 = b.1) : a = b := by
  obtain ⟨i, hi, rfl⟩ := List.mem_iff_getElem.1 ha
  obtain ⟨j, hj, rfl⟩ := List.mem_iff_getElem.1 hb
  unfold RisE at h
  rw [List.pairwise_iff_getElem] at h
  rcases Nat.lt_trichotomy i j with q | q | q
  · have := h i j hi hj q
    rw [hk] at this
    exact absurd this (List.lt_irrefl _)
  · subst q; rfl
  · have := h j i hj hi q
    rw [hk] at this
    exact absurd this (List.lt_irrefl _)
/-- two lists that rise and have the same entries -/
theorem rises_eq : ∀ {l k : List Ent}, RisE l → RisE k → (∀ e, e ∈ l ↔ e ∈ k) → l = k
  | [], [], _, _, _ => rfl
  | [], b :: k, _, _, h => by have := (h b).2 (by simp); cases this
  | a :: l, [], _, _, h => by have := (h a).1 (by simp); cases this
  | a :: l, b :: k, hl, hk, h => by
    have hl' := List.pairwise_cons.1 hl
    have hk' := List.pairwise_cons.1 hk
    have hab : a = b := by
      rcases List.mem_cons.1 ((h a).1 (by simp)) with e | e
      · exact e
      · rcases List.mem_cons.1 ((h b).2 (by simp)) with e' | e'
        · exact e'.symm
        · exact absurd (List.lt_trans (hk'.1 a e) (hl'.1 b e')) (List.lt_irrefl _)
    subst hab
    congr 1
    refine rises_eq hl'.2 hk'.2 fun e => ?_
    constructor
    · intro he
      rcases List.mem_cons.1 ((h e).1 (List.mem_cons_of_mem _ he)) with q | q
      · rw [q] at he; exact absurd (hl'.1 a he) (List.lt_irrefl _)
      · exact q
    · intro he
      rcases List.mem_cons.1 ((h e).2 (List.mem_cons_of_mem _ he)) with q | q
      · rw [q] at he; exact absurd (hk'.1 a he) (List.lt_irrefl _)
      · exact q
theorem lookR_mem {l : List Ent} (h : RisE l) {e : Ent} (he : e ∈ l) : lookR l e.1 = some e.2 := by
  unfold lookR
  cases hf : l.find? fun x => decide (x.1 = e.1) with
  | none =>
    have := List.find?_eq_none.1 hf e he
    simp at this
  | some x =>
    have h1 := List.find?_some hf
    have h2 := List.mem_of_find?_eq_some hf
    have h3 : x = e := h.one h2 he (by simpa using h1)
    rw [h3]; rfl
theorem lookR_not {l : List Ent} {k : ByteArray} (h : ∀ e ∈ l, e.1 ≠ k) : lookR l k = none := by
  unfold lookR
  rw [List.find?_eq_none.2 fun e he => by simpa using h e he]
  rfl
theorem lookR_ents {d : Dir} (h : (d.map (·.1)).Nodup) (k : ByteArray) : lookR (entsOf d) k = look d k := by
  cases hl : look d k with
  | none =>
    refine lookR_not fun e he hek => ?_
    have := mem_entsOf.1 he
    rw [hek, hl] at this
    cases this
  | some v => exact lookR_mem (entsOf_rises h) (e := (k, v)) (mem_entsOf.2 hl)
/-- what holds behind some entries -/
structure WithI (l : List Ent) (k : ByteArray) (f : Nat) (out : List Ent) (put : Bool) : Prop where
  rise : RisE out
  low : put = false → ∀ e ∈ l, e.1 ≠ k → keyL e.1 < keyL k
  high : put = true → ∃ e ∈ l, keyL k < keyL e.1
  mem : ∀ e, e ∈ out ↔ (put = true ∧ e = (k, f)) ∨ (e ∈ l ∧ e.1 ≠ k)
theorem foldW_inv (k : ByteArray) (f : Nat) : ∀ (n : Nat) (l : List Ent), l.length = n → RisE l → WithI l k f (foldW l k f).1 (foldW l k f).2
  | 0, l, hn, _ => by
    obtain rfl := List.eq_nil_of_length_eq_zero hn
    refine ⟨List.Pairwise.nil, ?_, ?_, fun e => ?_⟩
    · intro _ e he; cases he
    · intro h; cases h
    · constructor
      · intro h; cases h
      · intro h; rcases h with ⟨h, _⟩ | ⟨h, _⟩ <;> cases h
  | n + 1, l, hn, hl => by
    obtain ⟨l', x, rfl⟩ : ∃ l' x, l = l' ++ [x] := ⟨l.dropLast, l.getLast (by intro e; rw [e] at hn; cases hn), (List.dropLast_concat_getLast _).symm⟩
    have hl2 := List.pairwise_append.1 hl
    have ih := foldW_inv k f n l' (by simpa using hn) hl2.1
    have hlt : ∀ e ∈ l', keyL e.1 < keyL x.1 := fun e he => hl2.2.2 e he x (by simp)
    rw [foldW_snoc]
    generalize foldW l' k f = acc at ih
    obtain ⟨out, put⟩ := acc
    dsimp only at ih
    unfold stepW
    dsimp only
    by_cases hx : x.1 = k
    · rw [if_pos hx]
      refine ⟨ih.rise, fun hp e he hek => ?_, fun hp => ?_, fun e => ?_⟩
      · rcases List.mem_append.1 he with he | he
        · exact ih.low hp e he hek
        · rw [List.mem_singleton.1 he] at hek; exact absurd hx hek
      · obtain ⟨e, he, h⟩ := ih.high hp
        exact ⟨e, List.mem_append_left _ he, h⟩
      · rw [ih.mem e]
        refine or_congr Iff.rfl ⟨fun h => ⟨List.mem_append_left _ h.1, h.2⟩, fun h => ⟨?_, h.2⟩⟩
        rcases List.mem_append.1 h.1 with h1 | h1
        · exact h1
        · rw [List.mem_singleton.1 h1] at h; exact absurd hx h.2
    · rw [if_neg hx]
      by_cases hc : put = false ∧ ltB x.1 k = false
      · rw [if_pos hc]
        obtain ⟨hp, hb⟩ := hc
        have hkx : keyL k < keyL x.1 := by
          rw [ltB_eq, decide_eq_false_iff_not, List.not_lt] at hb
          by_cases h : keyL k < keyL x.1
          · exact h
          · exact absurd (keyL_inj (List.le_antisymm (List.not_lt.1 h) hb)) hx
        refine ⟨?_, fun h => (by cases h), fun _ => ⟨x, by simp, hkx⟩, fun e => ?_⟩
        · have hall : ∀ e ∈ out, keyL e.1 < keyL k := fun e he => by
            rcases (ih.mem e).1 he with ⟨h, _⟩ | ⟨h1, h2⟩
            · rw [hp] at h; cases h
            · exact ih.low hp e h1 h2
          show List.Pairwise _ _
          rw [List.append_assoc]
          refine List.pairwise_append.2 ⟨ih.rise, ?_, fun a ha b hb => ?_⟩
          · refine List.pairwise_cons.2 ⟨fun b hb => ?_, List.pairwise_singleton _ _⟩
            rw [List.mem_singleton.1 hb]; exact hkx
          · rcases List.mem_cons.1 hb with rfl | hb
            · exact hall a ha
            · rw [List.mem_singleton.1 hb]; exact List.lt_trans (hall a ha) hkx
        · simp only [List.mem_append, List.mem_singleton]
          rw [ih.mem e, hp]
          constructor
          · rintro (((⟨h, _⟩ | ⟨h1, h2⟩) | h) | h)
            · cases h
            · exact .inr ⟨.inl h1, h2⟩
            · exact .inl ⟨trivial, h⟩
            · exact .inr ⟨.inr h, by rw [h]; exact hx⟩
          · rintro (⟨_, h⟩ | ⟨h1 | h1, h2⟩)
            · exact .inl (.inr h)
            · exact .inl (.inl (.inr ⟨h1, h2⟩))
            · exact .inr h1
      · rw [if_neg hc]
        have hall : ∀ e ∈ out, keyL e.1 < keyL x.1 := fun e he => by
          rcases (ih.mem e).1 he with ⟨h, he2⟩ | ⟨h1, h2⟩
          · obtain ⟨y, hy, h3⟩ := ih.high h
            rw [he2]
            exact List.lt_trans h3 (hlt y hy)
          · exact hlt e h1
        refine ⟨?_, fun hp e he hek => ?_, fun hp => ?_, fun e => ?_⟩
        · refine List.pairwise_append.2 ⟨ih.rise, List.pairwise_singleton _ _, fun a ha b hb => ?_⟩
          rw [List.mem_singleton.1 hb]
          exact hall a ha
        · rcases List.mem_append.1 he with he | he
          · exact ih.low hp e he hek
          · rw [List.mem_singleton.1 he]
            have : ltB x.1 k = true := by
              cases h : ltB x.1 k with
              | true => rfl
              | false => exact absurd ⟨hp, h⟩ hc
            rw [ltB_eq, decide_eq_true_eq] at this
            exact this
        · obtain ⟨e, he, h⟩ := ih.high hp
          exact ⟨e, List.mem_append_left _ he, h⟩
        · simp only [List.mem_append, List.mem_singleton]
          rw [ih.mem e]
          constructor
          · rintro ((h | ⟨h1, h2⟩) | h)
            · exact .inl h
            · exact .inr ⟨.inl h1, h2⟩
            · exact .inr ⟨.inr h, by rw [h]; exact hx⟩
          · rintro (h | ⟨h1 | h1, h2⟩)
            · exact .inl (.inl h)
            · exact .inl (.inr ⟨h1, h2⟩)
            · exact .inr h1
theorem with_rises {l : List Ent} (h : RisE l) (k : ByteArray) (f : Nat) : RisE (withR l k f) ∧ ∀ e, e ∈ withR l k f ↔ e = (k, f) ∨ (e ∈ l ∧ e.1 ≠ k) := by
  have I := foldW_inv k f _ l rfl h
  unfold withR
  split
  · rename_i hp
    refine ⟨I.rise, fun e => ?_⟩
    rw [I.mem e, hp]
    simp
  · rename_i hp
    have hp : (foldW l k f).2 = false := by simpa using hp
    refine ⟨List.pairwise_append.2 ⟨I.rise, List.pairwise_singleton _ _, fun a ha b hb => ?_⟩, fun e => ?_⟩
    · rw [List.mem_singleton.1 hb]
      rcases (I.mem a).1 ha with ⟨h, _⟩ | ⟨h1, h2⟩
      · rw [hp] at h; cases h
      · exact I.low hp a h1 h2
    · rw [List.mem_append, I.mem e, hp, List.mem_singleton]
      constructor
      · rintro ((⟨h, _⟩ | h) | h)
        · cases h
        · exact .inr h
        · exact .inl h
      · rintro (h | h)
        · exact .inr h
        · exact .inl (.inr h)
theorem with_ents {d : Dir} (h : (d.map (·.1)).Nodup) (c : Nat) (k : ByteArray) (v : Nat) (h' : ((dirSet d c k v).map (·.1)).Nodup) : withR (entsOf d) k v = entsOf (dirSet d c k v) := by
  obtain ⟨h1, h2⟩ := with_rises (entsOf_rises h) k v
  refine rises_eq h1 (entsOf_rises h') fun e => ?_
  rw [h2, mem_entsOf, mem_entsOf, look_dirSet]
  by_cases hk : e.1 = k
  · rw [if_pos hk]
    constructor
    · rintro (h | h)
      · rw [h]
      · exact absurd hk h.2
    · intro h
      have := Option.some.inj h
      exact .inl (Prod.ext hk this.symm)
  · rw [if_neg hk]
    constructor
    · rintro (h | h)
      · rw [h] at hk; exact absurd rfl hk
      · exact h.1
    · intro h
      exact .inr ⟨h, hk⟩
theorem entsOf_perm {d : Dir} (h : (d.map (·.1)).Nodup) : (entsOf d).Perm (d.map fun e => (e.1, e.2.1)) := by
  refine (List.perm_ext_iff_of_nodup (entsOf_rises h).nodup ?_).2 fun e => ?_
  · refine (List.nodup_iff_pairwise_ne).2 ?_
    have := (List.nodup_iff_pairwise_ne).1 h
    rw [List.pairwise_map] at this ⊢
    refine this.imp ?_
    intro a b hab e
    exact hab (Prod.ext_iff.1 e).1
  · rw [mem_entsOf, List.mem_map]
    constructor
    · intro hl
      obtain ⟨x, hx, h1, h2⟩ := look_mem' hl
      exact ⟨x, hx, Prod.ext h1 h2⟩
    · rintro ⟨x, hx, rfl⟩
      exact look_of h hx
end Go.Proofs.Herb
namespace Go.Proofs.Herb
open Go.RowKit Go.Sort
structure Sim (s : DS) (r : RS) : Prop where
  room : r.room = s.room
  left : r.left = s.fuse
  dead : r.dead = s.dead
  files : r.files = s.files
  plen : r.past.length = s.changes.length + 1
  past : ∀ j, j ≤ s.changes.length → r.past[j]? = some (entsOf (dirAt s j).1)
variable {s : DS} {r : RS} {n : Nat}
theorem Sim.now (h : Sim s r) (ok : DsOk s n) : nowR r = entsOf s.names := by
  unfold nowR
  rw [h.plen, Nat.add_sub_cancel, h.past _ (Nat.le_refl _), ok.replay]
  rfl
theorem Sim.lookR (h : Sim s r) (ok : DsOk s n) (k : ByteArray) : lookR (nowR r) k = look s.names k := by
  rw [h.now ok, lookR_ents ok.good.keys]
theorem Sim.at_ (h : Sim s r) (ok : DsOk s n) (k : ByteArray) : atR r k = (look s.names k).getD 0 := by
  unfold atR; rw [h.lookR ok]
theorem Sim.lookI (h : Sim s r) (ok : DsOk s n) (k : ByteArray) : lookI (nowR r) k < 0 ↔ (look s.names k).isSome = false := by
  unfold Herb.lookI
  rw [h.lookR ok]
  cases look s.names k with
  | none => simp
  | some v => simp
theorem known_cases (s : DS) (k : ByteArray) : s.dead = true ∧ knownE s k = 10 ∨ s.dead = false ∧ mayB k = false ∧ knownE s k = 1 ∨ s.dead = false ∧ mayB k = true ∧ (look s.names k).isSome = false ∧ knownE s k = 7 ∨ s.dead = false ∧ mayB k = true ∧ (look s.names k).isSome = true ∧ knownE s k = 0 := by
  unfold knownE foundE
  cases s.dead <;> cases mayB k <;> cases (look s.names k).isSome <;> simp
/-- what call and look say, in each case -/
theorem Sim.cases (h : Sim s r) (ok : DsOk s n) (k : ByteArray) :
    callR r k = 10 ∧ knownE s k = 10 ∨ callR r k = 1 ∧ knownE s k = 1 ∨ callR r k = 0 ∧ mayB k = true ∧ Herb.lookI (nowR r) k < 0 ∧ ¬ 0 ≤ Herb.lookI (nowR r) k ∧ knownE s k = 7 ∨ callR r k = 0 ∧ mayB k = true ∧ ¬ Herb.lookI (nowR r) k < 0 ∧ 0 ≤ Herb.lookI (nowR r) k ∧ knownE s k = 0 := by
  have hl := h.lookI ok k
  unfold callR
  rw [h.dead]
  rcases known_cases s k with ⟨e1, e2⟩ | ⟨e1, e2, e3⟩ | ⟨e1, e2, e3, e4⟩ | ⟨e1, e2, e3, e4⟩
  · rw [e1]; exact .inl ⟨rfl, e2⟩
  · rw [e1, e2]; exact .inr (.inl ⟨rfl, e3⟩)
  · rw [e1, e2]
    have := hl.2 e3
    exact .inr (.inr (.inl ⟨rfl, rfl, this, by omega, e4⟩))
  · rw [e1, e2]
    have : ¬ Herb.lookI (nowR r) k < 0 := fun q => by rw [hl.1 q] at e3; cases e3
    exact .inr (.inr (.inr ⟨rfl, rfl, this, by omega, e4⟩))
theorem Sim.known (h : Sim s r) (ok : DsOk s n) (k : ByteArray) : knownRE r k = knownE s k := by
  unfold knownRE
  rcases h.cases ok k with ⟨e1, e2⟩ | ⟨e1, e2⟩ | ⟨e1, _, e2, _, e3⟩ | ⟨e1, _, e2, _, e3⟩
  · simp [e1, e2]
  · simp [e1, e2]
  · simp [e1, e2, e3]
  · simp [e1, e2, e3]
theorem Sim.burnE (h : Sim s r) : burnE r = letsE s := by
  unfold Herb.burnE letsE; rw [h.left]
theorem Sim.burn (h : Sim s r) (ok : DsOk s n) : Sim (letsS s) (burnS r) := by
  obtain ⟨l1, l2, l3, l4, l5, l6, l7⟩ := lets_files s
  have hd : ∀ j, dirAt (letsS s) j = dirAt s j := dirAt_congr l4 l5 l6
  have h0 := ok.f0
  refine ⟨?_, ?_, ?_, by rw [burnS_files, l1, h.files], by rw [burnS_past, l6]; exact h.plen, fun j hj => by rw [l6] at hj; rw [burnS_past, hd, h.past j hj]⟩
  · rw [l7]; unfold burnS; split; exact h.room; split <;> exact h.room
  · unfold burnS letsS
    rw [h.left]
    by_cases q : s.fuse = 0
    · rw [if_pos q, if_neg (by omega), if_pos q]
    · rw [if_neg q]
      by_cases q2 : s.fuse = -1
      · rw [if_neg (by omega), if_pos q2]; exact h.left
      · rw [if_pos (by omega), if_neg q2, if_neg q]
  · unfold burnS letsS
    rw [h.left]
    by_cases q : s.fuse = 0
    · rw [if_pos q, if_neg (by omega), if_pos q]
    · rw [if_neg q]
      by_cases q2 : s.fuse = -1
      · rw [if_neg (by omega), if_pos q2]; exact h.dead
      · rw [if_pos (by omega), if_neg q2, if_neg q]; exact h.dead
theorem Sim.turn (h : Sim s r) (ok : DsOk s n) (x : DC) {l : List Ent} (hl : l = entsOf (turnDir s.names s.nclock x)) : Sim (turnS s x) { r with past := r.past ++ [l] } := by
  refine ⟨h.room, h.left, h.dead, h.files, by simp [turnS, h.plen], fun j hj => ?_⟩
  have e : (turnS s x).changes.length = s.changes.length + 1 := by simp [turnS]
  rw [e] at hj
  by_cases hj2 : j ≤ s.changes.length
  · rw [dirAt_front (s := s) (s' := turnS s x) (x := x) rfl rfl rfl j hj2]
    dsimp only
    rw [List.getElem?_append_left (by rw [h.plen]; omega)]
    exact h.past j hj2
  · obtain rfl : j = s.changes.length + 1 := by omega
    have e1 : (turnS s x).changes[s.changes.length]? = some x := by simp [turnS]
    have e2 : dirAt (turnS s x) s.changes.length = (s.names, s.nclock) := (dirAt_front (s := s) (s' := turnS s x) (x := x) rfl rfl rfl _ (Nat.le_refl _)).trans ok.replay
    have e3 : dirAt (turnS s x) (s.changes.length + 1) = (turnDir s.names s.nclock x, turnClk s.names s.nclock x) := by
      rw [dirAt, e1, e2]
    rw [e3, ← hl, ← h.plen]
    simp
theorem Sim.withFiles (h : Sim s r) {fs : List DF} : Sim { s with files := fs } { r with files := fs } :=
  ⟨h.room, h.left, h.dead, rfl, h.plen, fun j hj => by rw [dirAt_congr (s := s) (s' := { s with files := fs }) rfl rfl rfl]; exact h.past j hj⟩
theorem Sim.new {room : Int} : Sim (newS room) ⟨room, -1, false, [], [[]]⟩ :=
  ⟨rfl, rfl, rfl, rfl, rfl, fun j hj => by
    obtain rfl : j = 0 := Nat.le_zero.1 hj
    have e : entsOf [] = [] := List.eq_nil_of_length_eq_zero (entsOf_len [])
    show some [] = some (entsOf [])
    rw [e]⟩
theorem Sim.fuse (h : Sim s r) (v : Int) : Sim (fuseS s v) (fuseR r v) := by
  unfold fuseS fuseR
  split
  · exact h
  · exact ⟨h.room, rfl, h.dead, h.files, h.plen, fun j hj => by rw [dirAt_congr (s := s) (s' := { s with fuse := v }) rfl rfl rfl]; exact h.past j hj⟩
theorem Sim.createE (h : Sim s r) (ok : DsOk s n) (k : ByteArray) : createRE r k = createE s k := by
  unfold createRE Herb.createE
  have hn : (nowR r).length = s.names.length := by rw [h.now ok, entsOf_len]
  rw [hn, h.burnE]
  rcases h.cases ok k with ⟨e1, e2⟩ | ⟨e1, e2⟩ | ⟨e1, _, _, e2, e3⟩ | ⟨e1, _, _, e2, e3⟩
  · simp [e1, e2]
  · simp [e1, e2]
  · simp [e1, e2, e3]
  · simp [e1, e2, e3]
theorem Sim.create (h : Sim s r) (ok : DsOk s n) (k : ByteArray) : Sim (createS s k) (createR r k) := by
  unfold createR createS
  have hn : (nowR r).length = s.names.length := by rw [h.now ok, entsOf_len]
  rw [hn, h.burnE]
  rcases h.cases ok k with ⟨e1, e2⟩ | ⟨e1, e2⟩ | ⟨e1, em, _, e2, e3⟩ | ⟨e1, _, _, e2, e3⟩
  · simp only [e1, e2]; exact h
  · simp only [e1, e2]; exact h
  · rw [e1, e3, if_neg (fun q : (0 : Int) ≠ 0 => q rfl), if_neg e2]
    by_cases q : 200 ≤ s.names.length
    · rw [if_pos q, if_pos (.inr q)]; exact h
    · rw [if_neg q, if_neg (show ¬ ((7 : Int) ≠ 7 ∨ 200 ≤ s.names.length) by rintro (q2 | q2); exact q2 rfl; exact q q2)]
      by_cases q2 : letsE s = 0
      · rw [if_neg (fun q : letsE s ≠ 0 => q q2), if_neg (fun q : letsE s ≠ 0 => q q2)]
        obtain ⟨l1, l2, l3, l4, l5, l6, l7⟩ := lets_files s
        have hb := h.burn ok
        have e5 : newF r = { burnS r with files := s.files ++ [⟨[], 0⟩] } := by unfold newF; rw [burnS_files, h.files]
        have e6 : ({ letsS s with files := s.files ++ [⟨[], 0⟩] } : DS) = { letsS s with files := (letsS s).files ++ [⟨[], 0⟩] } := by rw [l1]
        rw [e5]
        refine (hb.withFiles (fs := s.files ++ [⟨[], 0⟩])).turn (n := n + 1) (by rw [e6]; exact ok.lets.fileMore) ⟨k, (s.files.length : Int), ⟨#[]⟩⟩ ?_
        dsimp only
        rw [l2, l3, h.now ok, h.files]
        unfold turnDir
        rw [if_neg (by dsimp only; omega), if_neg (by intro q; exact q rfl)]
        dsimp only
        have e7 : ((s.files.length : Int)).toNat = s.files.length := by omega
        rw [e7]
        refine with_ents ok.good.keys _ _ _ ?_
        have hg := (ok.good.mono (Nat.le_succ s.files.length) (Nat.le_refl n)).set em (v := s.files.length) (Nat.lt_succ_self _) (fun e he hev => by have := ok.good.file e he; omega)
        exact hg.keys
      · rw [if_pos (show letsE s ≠ 0 from q2), if_pos (show letsE s ≠ 0 from q2)]; exact h.burn ok
  · rw [e1, e3, if_neg (fun q : (0 : Int) ≠ 0 => q rfl), if_pos e2, if_pos (.inl (by decide : (0 : Int) ≠ 7))]; exact h
theorem Sim.used (h : Sim s r) (ok : DsOk s n) : usedR r = usedN s := by
  unfold usedR usedL
  rw [h.now ok, h.files, usedN_eq]
  unfold usedD
  have hp := ((entsOf_perm ok.good.keys).map fun e : Ent => lenF s.files e.2).sum_nat
  rw [hp, List.map_map]
  rfl
theorem Sim.appendE (h : Sim s r) (ok : DsOk s n) (k : ByteArray) (b : List UInt8) : appendRE r k b = appendE s k b := by
  unfold appendRE Herb.appendE
  rw [h.known ok, h.used ok, h.burnE, h.room]
  by_cases q : knownE s k = 0
  · simp only [q, ne_eq, not_true_eq_false, if_false]
    by_cases q2 : s.room < (usedN s : Int) + (b.length : Int)
    · rw [if_pos q2, if_pos (by omega)]
    · rw [if_neg q2, if_neg (by omega)]
  · rw [if_pos q, if_pos q]
theorem Sim.append (h : Sim s r) (ok : DsOk s n) (k : ByteArray) (b : List UInt8) : Sim (appendS s k b) (appendR r k b) := by
  unfold appendR appendS
  rw [h.known ok, h.used ok, h.burnE, h.room]
  by_cases q : knownE s k = 0
  · rw [if_neg (show ¬ (knownE s k ≠ 0) from fun h => h q)]
    by_cases q2 : s.room < (usedN s : Int) + (b.length : Int)
    · rw [if_pos q2, if_pos (show knownE s k ≠ 0 ∨ s.room - (usedN s : Int) < (b.length : Int) from .inr (by omega))]; exact h
    · rw [if_neg q2, if_neg (show ¬ (knownE s k ≠ 0 ∨ s.room - (usedN s : Int) < (b.length : Int)) by rintro (q3 | q3); exact q3 q; omega)]
      by_cases q4 : letsE s = 0
      · rw [if_neg (show ¬ (letsE s ≠ 0) from fun h => h q4), if_neg (show ¬ (letsE s ≠ 0) from fun h => h q4), h.at_ ok, h.files]
        exact (h.burn ok).withFiles
      · rw [if_pos (show letsE s ≠ 0 from q4), if_pos (show letsE s ≠ 0 from q4)]; exact h.burn ok
  · rw [if_pos (show knownE s k ≠ 0 from q), if_pos (show knownE s k ≠ 0 ∨ s.room - (usedN s : Int) < (b.length : Int) from .inl q)]; exact h
theorem Sim.syncE (h : Sim s r) (ok : DsOk s n) (k : ByteArray) : syncRE r k = syncE s k := by
  unfold syncRE Herb.syncE
  rw [h.known ok, h.burnE]
theorem Sim.sync (h : Sim s r) (ok : DsOk s n) (k : ByteArray) : Sim (syncS s k) (syncR r k) := by
  unfold syncR syncS
  rw [h.known ok, h.burnE, h.at_ ok, h.files]
  by_cases q : knownE s k = 0
  · rw [if_neg (show ¬ (knownE s k ≠ 0) from fun h => h q), if_neg (show ¬ (knownE s k ≠ 0) from fun h => h q)]
    by_cases q4 : letsE s = 0
    · rw [if_neg (show ¬ (letsE s ≠ 0) from fun h => h q4), if_neg (show ¬ (letsE s ≠ 0) from fun h => h q4)]
      exact (h.burn ok).withFiles
    · rw [if_pos (show letsE s ≠ 0 from q4), if_pos (show letsE s ≠ 0 from q4)]; exact h.burn ok
  · rw [if_pos (show knownE s k ≠ 0 from q), if_pos (show knownE s k ≠ 0 from q)]; exact h
theorem Sim.readL (h : Sim s r) (ok : DsOk s n) (k : ByteArray) : readRL r k = readL s k := by
  unfold readRL Herb.readL fileL
  rw [h.known ok, h.at_ ok, h.files]
theorem Sim.looseE (h : Sim s r) (ok : DsOk s n) (k : ByteArray) : looseRE r k = foundE s k := by
  unfold looseRE foundE
  have hl := h.lookI ok k
  cases mayB k
  · rfl
  · cases hs : (look s.names k).isSome
    · simp only [if_true]; rw [if_pos (hl.2 hs)]; rfl
    · simp only [if_true]; rw [if_neg (fun q => by rw [hl.1 q] at hs; cases hs)]
end Go.Proofs.Herb
