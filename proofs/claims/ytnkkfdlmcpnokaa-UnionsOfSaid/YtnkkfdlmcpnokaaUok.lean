
/- slices.Sorted(maps.Keys(all)) at the map of keys: every key once, rising. -/
import Derived.Test.YtnkkfdlmcpnokaaUbw
import Derived.Test.YtnkkfdlmcpnokaaUnd
import Derived.Sort.KeysCollected
namespace Go.Proofs.Herb
open Go.RowKit Go.Sort
def RK : Value → Option (DataW Unit × List MemPlace) := fun _ => some (.lit (.bool true), [])
theorem mEnt_fit {υ : Type} {ev : υ → Value} {l : List (ByteArray × υ)} (hk : NodupK l) (hs : ∀ x ∈ l, x.1.size ≤ maxLen) (hm : l.length ≤ maxLen) :
    Go.WideElems.Fit Try.prog 9 RK (mEnt ekS ev 0 l).toArray l.length ∧ (((mEnt ekS ev 0 l).toArray.toList.map (Go.WideElems.rg Try.prog 9 RK)).map fun p => strOf p.1) = l.map fun e => keyB e.1 := by
  have hrd : ∀ (i : Nat) (hi : i < l.length), Go.WideElems.rd Try.prog 9 RK { key := ekS l[i].1, val := ev l[i].2, born := i } = some (.string (keyB l[i].1), .lit (.bool true)) := by
    intro i hi
    unfold Go.WideElems.rd
    dsimp only
    rw [Go.WideMaps.keyOf_string_mk Try.underlying9 (hs _ (List.getElem_mem hi))]
    rfl
  refine ⟨⟨?_, ⟨?_, ?_, ?_⟩, ?_⟩, ?_⟩
  · simp [mEnt_len]; exact hm
  · intro x hx
    obtain ⟨i, hi, rfl⟩ := mEnt_mem (by simpa using hx)
    exact hi
  · have h1 := mEnt_born (ek := ekS) (ev := ev) l
    have h2 : ((mEnt ekS ev 0 l).toArray.toList.map (·.born)) = List.range l.length := by simpa using h1
    rw [h2]
    exact List.nodup_range
  · have e1 : (mEnt ekS ev 0 l).toArray.toList.map (·.key) = (l.map (·.1)).map Value.string := by
      apply List.ext_getElem?
      intro i
      by_cases hi : i < l.length
      · simp [mEnt_get hi, hi, ekS]
      · have : ¬ i < (mEnt ekS ev 0 l).length := by rw [mEnt_len]; exact hi
        simp [hi, this]
    rw [e1]
    exact List.Pairwise.map _ (fun a b hab e => hab (by cases e; rfl)) hk
  · intro x hx
    obtain ⟨i, hi, rfl⟩ := mEnt_mem (by simpa using hx)
    exact ⟨_, hrd i hi⟩
  · rw [List.map_map]
    apply List.ext_getElem?
    intro i
    by_cases hi : i < l.length
    · have h1 := mEnt_get (ek := ekS) (ev := ev) (n := 0) hi
      rw [Nat.zero_add] at h1
      simp only [List.getElem?_map, h1, Option.map_some, Function.comp_apply]
      unfold Go.WideElems.rg
      rw [hrd i hi]
      simp [hi, strOf]
    · have : ¬ i < (mEnt ekS ev 0 l).length := by rw [mEnt_len]; exact hi
      simp [hi, this]
theorem mEnt_owns {υ : Type} {ev : υ → Value} {w : World} {M : Nat} {l : List (ByteArray × υ)} (hb : MapAt w M ekS ev l) (hk : NodupK l) (hs : ∀ x ∈ l, x.1.size ≤ maxLen) (hm : l.length ≤ maxLen) :
    ∃ D : DataW Unit, w.ownsMap Try.prog 9 RK M l.length D ∧ (strKeys D).Perm (l.map fun e => keyB e.1) ∧ Maps.size D = l.length := by
  obtain ⟨F, hkk⟩ := mEnt_fit (ev := ev) hk hs hm
  refine ⟨_, ⟨(mEnt ekS ev 0 l).toArray, l.length, hb, F, by simp [mEnt_len], rfl⟩, ?_, ?_⟩
  · show List.Perm (List.map _ _) _
    rw [← hkk]
    exact (Go.WideShapes.sorted_perm _).map _
  · show List.length _ = _
    rw [length_sorted]; simp [mEnt_len]
/-- sorted keys, each once: rising -/
theorem keys_rise {ss : List (List UInt8)} {K : List ByteArray} (hp : ss.Perm (K.map keyB)) (hn : K.Nodup) : (ss.mergeSort fun x y => decide (x ≤ y)).map encStr = strs (nmS K) ∧ (nmS K).length = ss.length := by
  obtain ⟨zs, hzs⟩ : ∃ zs, zs = ss.mergeSort fun x y => decide (x ≤ y) := ⟨_, rfl⟩
  have hs : zs.Pairwise fun a b => bL b a = false := by rw [hzs]; exact sort_le _
  have hpz : zs.Perm (K.map keyB) := by rw [hzs]; exact (List.mergeSort_perm _ _).trans hp
  have hnz : zs.Nodup := hpz.nodup_iff.2 (List.Pairwise.map _ (fun a b hab e => hab (ba_eq e)) hn)
  have e1 : zs.map (fun l : List UInt8 => (⟨l.toArray⟩ : ByteArray)) = nmS K := by
    refine strict_nm ?_ fun y => ?_
    · unfold StrictS
      rw [List.pairwise_map]
      refine (hs.and hnz).imp fun {a b} h => ?_
      exact bl_total h.1 (fun e => h.2 e.symm)
    · rw [List.mem_map]
      constructor
      · rintro ⟨z, hz, rfl⟩
        obtain ⟨k, hk, rfl⟩ := List.mem_map.1 (hpz.mem_iff.1 hz)
        exact hk
      · intro hy
        exact ⟨keyB y, hpz.mem_iff.2 (List.mem_map_of_mem hy), rfl⟩
  rw [← hzs]
  refine ⟨?_, ?_⟩
  · rw [← e1]
    unfold strs
    rw [List.map_map]
    rfl
  · rw [← e1, List.length_map, hzs, List.length_mergeSort]
theorem outer_any (M : Nat) (t : List KyE) (base : Nat) (w : World) (h : KyAt base w M t) (hk : NodupK (kyTop t)) (hs : ∀ x ∈ t, x.key.size ≤ maxLen) (hm : t.length ≤ 4000000) :
    Calls Try.prog 22 #[.func (.func 37) #[] #[.pointer (some ⟨w.heap.size, 0, none⟩)]] (w.alloc (.cells #[.map (some M)] 45)) fun e w' => ∃ (q : Option Addr) (c : Nat), e = .returned (.slice q (nmS (t.map (·.key))).length c) ∧
      Rd w' q (strs (nmS (t.map (·.key)))) ∧ RowKit.Below w.heap.size w w' := by
  have hkt : (kyTop t).map (fun e => keyB e.1) = (t.map (·.key)).map keyB := by simp [kyTop]
  have hln : (kyTop t).length = t.length := by simp [kyTop]
  obtain ⟨D, ho, hp, hsz⟩ := mEnt_owns (ev := evK) h.top hk (fun x hx => by
    obtain ⟨y, hy, rfl⟩ := List.mem_map.1 hx
    exact hs y hy) (by rw [hln]; unfold maxLen; omega)
  rw [hkt] at hp
  have hnd : (t.map (·.key)).Nodup := by
    have : (kyTop t).map (·.1) = t.map (·.key) := by simp [kyTop]
    rw [← this]; exact hk
  refine (sorted_any M _ D RK w ho (by rw [hsz, hln]; unfold maxLen; omega) (by rw [hsz, hln]; omega)).mono ?_
  rintro e w' ⟨v, ss, rfl, h1, h2, _, h4⟩
  obtain ⟨e1, e2⟩ := keys_rise (h1.trans hp) hnd
  obtain ⟨q, c, rfl, hc1, hc2, _⟩ := own_shape h2
  refine ⟨q, c, by rw [e2], ?_, ((RowKit.Below.refl _ _).alloc (Nat.le_refl _) _).trans (h4.mono (by simp))⟩
  have h5 := (Fr.of_own h2).rd
  rw [e1] at h5
  exact h5
end Go.Proofs.Herb
