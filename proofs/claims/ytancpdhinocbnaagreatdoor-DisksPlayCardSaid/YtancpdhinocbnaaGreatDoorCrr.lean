/- What is read of a crash's disk: plain. No condition. -/
import Derived.Test.YtancpdhinocbnaaGreatDoorUse
namespace Go.Proofs.Herb
open Go.RowKit Go.Sort
theorem crashL_may {s : DS} {n : Nat} (h : DsOk s n) (dir : Int) {k : ByteArray} (hk : k ∈ crashL s dir) : mayB k = true := by
  obtain ⟨v, hv⟩ := Option.isSome_iff_exists.1 ((crashL_in k).1 hk)
  obtain ⟨e, he, rfl, _⟩ := look_mem' hv
  exact (h.crashGood dir).may e he
theorem crash_read {s : DS} {n : Nat} (h : DsOk s n) (dir : Int) (fl : List Int) {i : Nat} {k : ByteArray} (hi : (crashL s dir)[i]? = some k) :
    knownE (crashS s dir fl) k = 0 ∧ readL (crashS s dir fl) k = (crashF s fl (crashD s dir) i k).b ∧ look (crashS s dir fl).names k = some i ∧ (crashS s dir fl).files[i]? = some (crashF s fl (crashD s dir) i k) := by
  obtain ⟨_, _, _, h4, h5, _, _, h8, _⟩ := crashT_facts h dir fl
  have hl : look (crashS s dir fl).names k = some i := h5 i k hi
  have hd : (crashS s dir fl).dead = false := h8
  have hm := crashL_may h dir (List.mem_of_getElem? hi)
  have hf : (crashS s dir fl).files[i]? = some (crashF s fl (crashD s dir) i k) := by
    show (crashT s dir fl).files[i]? = _
    rw [h4, List.getElem?_mapIdx, hi]; rfl
  have hk : knownE (crashS s dir fl) k = 0 := by
    unfold knownE foundE
    rw [hd, hm, hl]; rfl
  refine ⟨hk, ?_, hl, hf⟩
  unfold readL fileL
  rw [if_pos hk, hl, Option.getD_some, hf]; rfl
theorem crash_flags {s : DS} {n : Nat} (h : DsOk s n) (dir : Int) (fl : List Int) : (crashS s dir fl).changes = [] ∧ (crashS s dir fl).dead = false ∧ (crashS s dir fl).fuse = -1 ∧ (crashS s dir fl).room = s.room := by
  obtain ⟨_, _, _, _, _, h6, h7, h8, h9⟩ := crashT_facts h dir fl
  exact ⟨h9, h8, h7, h6⟩
theorem sortedK_mem {s : DS} {k : ByteArray} {i : Nat} (h : ((sortedK s.names).map ofL)[i]? = some k) : (look s.names k).isSome = true := mem_sortedK.1 (List.mem_of_getElem? h)
/-- a file as a name leads to it -/
def fileAt (s : DS) (k : ByteArray) : DF := (s.files[(look s.names k).getD 0]?).getD ⟨[], 0⟩
theorem fileAt_b (s : DS) (k : ByteArray) : fileL s k = (fileAt s k).b := by
  unfold fileL fileAt
  cases s.files[(look s.names k).getD 0]? <;> rfl
theorem crashF_at {s : DS} {fl : List Int} {i : Nat} {k : ByteArray} : crashF s fl s.names i k = ⟨(fileAt s k).b.take (keepAt fl i (fileAt s k)), keepAt fl i (fileAt s k)⟩ := rfl
theorem fileAt_ok {s : DS} {n : Nat} (h : DsOk s n) (k : ByteArray) : (fileAt s k).sure ≤ (fileAt s k).b.length ∧ (fileAt s k).b.length ≤ 4194304 := by
  unfold fileAt
  cases hf : s.files[(look s.names k).getD 0]? with
  | none => simp
  | some f => simpa using h.sure f (List.mem_of_getElem? hf)
theorem keep_all {fl : List Int} {i : Nat} {f : DF} (h : f.sure ≤ f.b.length) (hn : ∃ n, fl[i]? = some n ∧ (f.b.length : Int) ≤ n) : keepAt fl i f = f.b.length := by
  obtain ⟨n, h1, h2⟩ := hn
  have e : keepAt fl i f = f.sure + (withinI n ((f.b.length : Int) - (f.sure : Int))).toNat := by
    unfold keepAt
    rw [h1]
  rw [e]
  unfold withinI
  omega
theorem keep_sure {fl : List Int} {i : Nat} {f : DF} (h : f.sure = f.b.length) : keepAt fl i f = f.b.length := by
  obtain ⟨h1, h2⟩ := keepAt_le (fl := fl) (i := i) (f := f) (by omega)
  omega
theorem sorted_at {s : DS} {n : Nat} (h : DsOk s n) (hd : s.dead = false) {k : ByteArray} (hk : k ∈ (sortedK s.names).map ofL) : knownE s k = 0 ∧ readL s k = (fileAt s k).b := by
  have hs := mem_sortedK.1 hk
  obtain ⟨v, hv⟩ := Option.isSome_iff_exists.1 hs
  obtain ⟨e, he, rfl, _⟩ := look_mem' hv
  have hm := h.good.may e he
  have hk0 : knownE s e.1 = 0 := by
    unfold knownE foundE
    rw [hd, hm, hs]; rfl
  refine ⟨hk0, ?_⟩
  unfold readL
  rw [if_pos hk0, fileAt_b]
/-- two disks with the same names, and bytes -/
def SameS (s t : DS) : Prop := sortedK s.names = sortedK t.names ∧ ∀ k, k ∈ (sortedK s.names).map ofL → knownE s k = 0 ∧ knownE t k = 0 ∧ readL s k = readL t k
/-- a crash behind which all is there, and each file has the bytes that are sure, or all -/
theorem crash_same {s : DS} {n : Nat} (h : DsOk s n) (hd : s.dead = false) (dir : Int) (fl : List Int) (hD : crashD s dir = s.names) (hk : ∀ (i : Nat) k, ((sortedK s.names).map ofL)[i]? = some k → keepAt fl i (fileAt s k) = (fileAt s k).b.length) :
    SameS (crashS s dir fl) s := by
  have hs := crash_sorted h dir fl
  rw [hD] at hs
  refine ⟨hs, fun k hkm => ?_⟩
  rw [hs] at hkm
  obtain ⟨h1, h2⟩ := sorted_at h hd hkm
  obtain ⟨i, hi⟩ := List.mem_iff_getElem?.1 hkm
  obtain ⟨h3, h4, _⟩ := crash_read h dir fl (i := i) (k := k) (by unfold crashL; rw [hD]; exact hi)
  refine ⟨h3, h1, ?_⟩
  rw [h4, h2, hD, crashF_at, hk i k hi, List.take_length]
end Go.Proofs.Herb
