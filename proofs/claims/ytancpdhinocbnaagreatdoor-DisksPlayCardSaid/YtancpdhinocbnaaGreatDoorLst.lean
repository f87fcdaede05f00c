/- The contract of the disk's List. For a disk as DiskAt says. -/
import Derived.Test.YtancpdhinocbnaaGreatDoorLay
import Derived.Sort.KeysCollected
namespace Go.Proofs.Herb
open Go.RowKit Go.Sort
def keyL (k : ByteArray) : List UInt8 := k.data.toList
def ofL (l : List UInt8) : ByteArray := ⟨l.toArray⟩
theorem ofL_keyL (k : ByteArray) : ofL (keyL k) = k := rfl
theorem keyL_ofL (l : List UInt8) : keyL (ofL l) = l := rfl
def sortedK (d : Dir) : List (List UInt8) := (d.map fun e => keyL e.1).mergeSort leB
structure DirKeys (d : Dir) (c : Nat) : Prop where
  born : ∀ e ∈ d, e.2.2 < c
  once : (d.map (·.2.2)).Nodup
  keys : (d.map (·.1)).Nodup
  size : ∀ e ∈ d, e.1.size ≤ 24
  file : ∀ e ∈ d, e.2.1 ≤ 9223372036854775807
  many : d.length ≤ 1000000000
theorem enc_fit {d : Dir} {c : Nat} (h : DirKeys d c) : Go.WideElems.Fit Tryz.prog 9 (plainElem (H := Unit) Tryz.prog 3) (encDir d) c ∧ (((encDir d).toList.map (Go.WideElems.rg Tryz.prog 9 (plainElem (H := Unit) Tryz.prog 3))).map fun p => strOf p.1) = d.map fun e => keyL e.1 := by
  have hrd : ∀ e ∈ d, Go.WideElems.rd Tryz.prog 9 (plainElem (H := Unit) Tryz.prog 3) (encE e) = some (.string (keyL e.1), .lit (.int .i64 (e.2.1 : Int))) := by
    intro e he
    unfold Go.WideElems.rd encE
    dsimp only
    rw [Go.WideMaps.keyOf_string_mk Tryz.underlying9 (by have := h.size e he; unfold maxLen; omega), plainElem_int Tryz.underlying3 (by have := h.file e he; simp only [Lit.wf, show IntKind.i64.min = -9223372036854775808 from rfl, show IntKind.i64.max = 9223372036854775807 from rfl, Bool.and_eq_true, decide_eq_true_eq]; omega)]
    rfl
  refine ⟨⟨?_, ⟨?_, ?_, ?_⟩, ?_⟩, ?_⟩
  · rw [len_enc]; have := h.many; unfold maxLen; omega
  · intro x hx
    obtain ⟨e, he, rfl⟩ := enc_mem hx
    exact h.born e he
  · rw [enc_born]; exact h.once
  · have e1 : (encDir d).toList.map (·.key) = (d.map (·.1)).map Value.string := by simp [encDir, encE, Function.comp_def]
    rw [e1]
    exact List.Pairwise.map _ (fun a b hab e => hab (by cases e; rfl)) h.keys
  · intro x hx
    obtain ⟨e, he, rfl⟩ := enc_mem hx
    exact ⟨_, hrd e he⟩
  · have e1 : (encDir d).toList = d.map encE := by simp [encDir]
    rw [e1, List.map_map, List.map_map]
    refine List.map_congr_left fun e he => ?_
    simp only [Function.comp_apply]
    unfold Go.WideElems.rg
    rw [hrd e he]
    rfl
theorem enc_owns {w : World} {M : Nat} {d : Dir} {c : Nat} (hb : w.heap[M]? = some (.map (encDir d) c)) (h : DirKeys d c) : ∃ D : DataW Unit, w.ownsMap Tryz.prog 9 (plainElem (H := Unit) Tryz.prog 3) M d.length D ∧ (strKeys D).Perm (d.map fun e => keyL e.1) ∧ Maps.size D = d.length := by
  obtain ⟨F, hk⟩ := enc_fit h
  refine ⟨_, ⟨encDir d, c, hb, F, by rw [len_enc]; exact Nat.le_refl _, rfl⟩, ?_, ?_⟩
  · show List.Perm (List.map _ _) _
    rw [← hk]
    exact (Go.WideShapes.sorted_perm _).map _
  · show List.length _ = _
    rw [length_sorted]; simp [len_enc]
set_option maxRecDepth 100000 in
set_option maxHeartbeats 1600000 in
theorem list_any (m : DM) (s : DS) (w : World) (h : DiskAt w m s) (hd : DirKeys s.names s.nclock) :
    Calls Tryz.prog 23 #[.pointer (some ⟨m.D, 0, none⟩)] w fun e w' => ∃ q, e = .returned (.slice q (sortedK s.names).length (sortedK s.names).length) ∧ Fr w' w.heap.size 9 1 (.slice q (sortedK s.names).length (sortedK s.names).length) (sortedK s.names).length ((sortedK s.names).map encStr) ∧ Below w.heap.size w w' := by
  obtain ⟨D, hown, hperm, hsz⟩ := enc_owns h.names hd
  obtain ⟨_, _, _, _, c4, _, _⟩ := h.cells
  have hmany := hd.many
  have H := hid h
  have Hown := hid hown
  have Hperm := hid hperm
  have Hsz := hid hsz
  clear h hd hown hperm hsz
  go_enter Tryz.func23, Tryz.ntmps23
  go_wp2_with (first
    | (go_at_call 27; refine (there_any m s _ H.out).mono ?_; rintro e w' ⟨rfl, rfl⟩)
    | (go_at_call 72; refine (keys_any _ _).mono ?_; rintro e w' ⟨rfl, rfl⟩)
    | (go_at_call 71; refine (sorted_any m.M s.names.length D _ w Hown.out (by rw [Hsz.out]; unfold maxLen; omega) (by rw [Hsz.out]; omega)).mono ?_; rintro e w1 ⟨v, ss, rfl, hS, hrow, hnil, hb⟩; obtain ⟨q, c, rfl, hqc, hcm, hqn⟩ := own_shape hrow; have HS := hid hS; have Hrow := hid hrow; have Hnil := hid hnil; have Hb := hid hb; clear hS hrow hnil hb)
    | (go_at_call 70; refine (clip_strings q _ c w1 hqc hcm).mono ?_; rintro e w2 ⟨rfl, rfl⟩))
  go_ret
  have e1 : sortedK s.names = ss.mergeSort leB := (mergeSort_of_perm (HS.out.trans Hperm.out)).symm
  have e2 : (sortedK s.names).length = ss.length := by rw [e1]; exact List.length_mergeSort _
  rw [e2]
  refine ⟨q, rfl, ?_, ((Below.refl _ _).alloc (Nat.le_refl _) _).trans (Hb.out.mono (by simp))⟩
  rw [e1]
  exact (Fr.of_own Hrow.out).clip.mono (by simp)
end Go.Proofs.Herb
