
/- slices.Sort, Compact at texts and slices.Sorted(maps.Keys(m)) at the map of keys: the shelf's contracts, laid here in plain words; what a sorted, compacted list of texts is: plain. -/
import Derived.Test.YtnkkfdlmcpnokaaUks
import Derived.Test.YtnkkfdlmcpnokaaAps
import Derived.Shelf.SlIter.Nil
import Derived.Shelf.SortM.Plain
import Derived.Shelf.SortM.SortNone
import Derived.Ground.GgzProg
import Derived.Ground.SlgmProg
import Derived.Shelf.Lay
import Derived.Shelf.Slices.CompactS
import Derived.Shelf.Slices.Cells
import Derived.Sort.KeysCollected
namespace Go.Proofs.Herb
open Go.RowKit Go.Shelf
def laysLay_ren : Go.Shelf.Ren := ⟨fun | 194 => 43 | n => n, fun | 31 => 28 | 9 => 9 | 3 => 3 | 4 => 4 | 0 => 0 | n => n, fun | n => n⟩
theorem laysLay : Go.Proofs.Lays.n194 Try.prog laysLay_ren := {
  mixed := by kernel_rfl
  f194 := Try.func43.trans (congrArg some (by kernel_rfl))
  t0 := Try.underlying0
  a0 := Try.isAgg0
  z0 := Try.sizeOf0
  v0 := Try.zeroValue0
  t3 := Try.underlying3
  a3 := Try.isAgg3
  z3 := Try.sizeOf3
  v3 := Try.zeroValue3
  t4 := Try.underlying4
  a4 := Try.isAgg4
  z4 := Try.sizeOf4
  v4 := Try.zeroValue4
  t9 := Try.underlying9
  a9 := Try.isAgg9
  z9 := Try.sizeOf9
  v9 := Try.zeroValue9
  t31 := Try.underlying28
  a31 := Try.isAgg28
  z31 := Try.sizeOf28
  v31 := Try.zeroValue28 }
theorem compact_empty (a : Option Addr) (cap : Nat) (w : World) :
    Calls Try.prog 43 #[.slice a 0 cap] w fun e w' => e = .returned (.slice a 0 cap) ∧ w' = w := Any.slices_Compact_string_empty laysLay a cap w
theorem compact_cells (b off n c : Nat) (Sx : Nat → ByteArray) (w : World) (hbig : n ≤ 9223372036854775807) (hcap : n ≤ c) (hc : ∀ i, i < n → w.cell? ⟨b, off + i, none⟩ = some (.string (Sx i))) (hf : ∀ j, j < n → w.frozen? ⟨b, off + j, none⟩ = false) :
    Calls Try.prog 43 #[.slice (some ⟨b, off, none⟩) n c] w fun e w' => e = .returned (.slice (some ⟨b, off, none⟩) (Lib.compact (Lib.strsOf Sx n)).length c) ∧ ∃ q, w' = (w.drewN q).setCells b off ((Lib.compact (Lib.strsOf Sx n) ++ List.replicate (n - (Lib.compact (Lib.strsOf Sx n)).length) []).map Go.Proofs.encStr) := Any.slices_Compact_string_cells laysLay b off n c Sx w hbig hcap hc hf
theorem infoStr : (Try.prog.info? 9).map (fun i => (i.zero, i.size, i.bytes)) = some (some (.string ⟨#[]⟩), 1, 16) := by kernel_rfl
theorem below_setCells {b0 b : Nat} {A : World} (hb : b0 ≤ b) : ∀ (vs : List Value) (o : Nat) (W : World), Below b0 A W → Below b0 A (W.setCells b o vs)
  | [], _, _, h => h
  | v :: r, o, _, h => below_setCells hb r (o + 1) _ (h.setCell (p := ⟨b, o, none⟩) hb v)
theorem rd_new2 {w : World} {cs : List Value} {e : TypeId} {g : Nat} (h : g = w.heap.size) : Rd (w.alloc (.cells cs.toArray e)) (some ⟨g, 0, none⟩) cs := by subst h; exact Rd.new w cs e
/-- a list of texts, as cells -/
def strV (l : List UInt8) : Value := .string ⟨l.toArray⟩
section
open Go.RowKit Go.Maps Go.Sort Go.Shelf
def keysLay_ren : Go.Shelf.Ren := ⟨fun | 7 => 23 | 10 => 37 | n => n, fun | 23 => 45 | 26 => 9 | 3 => 58 | 28 => 54 | 0 => 0 | 27 => 53 | 33 => 48 | 4 => 4 | n => n, fun | n => n⟩
theorem keysLay : Go.Proofs.SlLaysZ.n7 Try.prog keysLay_ren := {
  mixed := by kernel_rfl
  f7 := ⟨Try.f23.name, by decide, Try.func23.trans (congrArg some (by kernel_rfl))⟩
  f10 := ⟨Try.f37.name, by decide, Try.func37.trans (congrArg some (by kernel_rfl))⟩
  t0 := Try.underlying0
  a0 := Try.isAgg0
  z0 := Try.sizeOf0
  v0 := Try.zeroValue0
  t4 := Try.underlying4
  a4 := Try.isAgg4
  z4 := Try.sizeOf4
  v4 := Try.zeroValue4
  t23 := Try.underlying45
  a23 := Try.isAgg45
  z23 := Try.sizeOf45
  v23 := Try.zeroValue45
  t26 := Try.underlying9
  a26 := Try.isAgg9
  z26 := Try.sizeOf9
  v26 := Try.zeroValue9
  t27 := Try.underlying53
  a27 := Try.isAgg53
  z27 := Try.sizeOf53
  v27 := Try.zeroValue53
  t28 := Try.underlying54
  a28 := Try.isAgg54
  z28 := Try.sizeOf54
  v28 := Try.zeroValue54
  t33 := Try.underlying48
  a33 := Try.isAgg48
  z33 := Try.sizeOf48
  v33 := Try.zeroValue48 }
def sortedLay_ren : Go.Shelf.Ren := ⟨fun | 6 => 22 | 8 => 35 | 9 => 36 | 11 => 45 | 13 => 47 | 12 => 46 | 23 => 60 | 24 => 61 | 14 => 52 | 15 => 53 | 16 => 54 | 17 => 55 | 18 => 56 | 19 => 57 | 20 => 33 | 21 => 58 | 22 => 59 | 25 => 64 | 26 => 65 | 27 => 66 | 28 => 67 | 29 => 68 | 30 => 44 | 31 => 78 | n => n, fun | 26 => 9 | 28 => 54 | 24 => 28 | 0 => 0 | 3 => 3 | 37 => 77 | 48 => 38 | 50 => 39 | 4 => 4 | 40 => 97 | 39 => 96 | 45 => 49 | 5 => 5 | 9 => 9 | 51 => 106 | 55 => 110 | 57 => 118 | 58 => 119 | 33 => 48 | n => n, fun | n => n⟩
theorem sortedLay : Go.Proofs.SlLaysZ.n6 Try.prog sortedLay_ren := {
  mixed := by kernel_rfl
  f6 := ⟨Try.f22.name, by decide, Try.func22.trans (congrArg some (by kernel_rfl))⟩
  f8 := ⟨Try.f35.name, by decide, Try.func35.trans (congrArg some (by kernel_rfl))⟩
  f11 := ⟨Try.f45.name, by decide, Try.func45.trans (congrArg some (by kernel_rfl))⟩
  t0 := Try.underlying0
  a0 := Try.isAgg0
  z0 := Try.sizeOf0
  v0 := Try.zeroValue0
  t24 := Try.underlying28
  a24 := Try.isAgg28
  z24 := Try.sizeOf28
  v24 := Try.zeroValue28
  t26 := Try.underlying9
  a26 := Try.isAgg9
  z26 := Try.sizeOf9
  v26 := Try.zeroValue9
  t28 := Try.underlying54
  a28 := Try.isAgg54
  z28 := Try.sizeOf54
  v28 := Try.zeroValue54
  i26 := by kernel_rfl }
def sortLay_ren : Go.Shelf.Ren := ⟨fun | 6 => 36 | 8 => 47 | 9 => 46 | 19 => 60 | 20 => 61 | 21 => 52 | 22 => 53 | 23 => 54 | 24 => 55 | 25 => 56 | 26 => 57 | 27 => 33 | 28 => 58 | 29 => 59 | 36 => 64 | 31 => 65 | 32 => 66 | 37 => 67 | 38 => 68 | 39 => 44 | 41 => 78 | n => n, fun | 27 => 28 | 29 => 9 | 3 => 3 | 32 => 77 | 26 => 28 | 0 => 0 | 44 => 38 | 46 => 39 | 4 => 4 | 36 => 97 | 35 => 96 | 41 => 49 | 5 => 5 | 9 => 9 | 53 => 106 | 57 => 110 | 63 => 118 | 64 => 119 | n => n, fun | n => n⟩
theorem sortLay : Go.Proofs.SlLaysM.n6 Try.prog sortLay_ren := {
  mixed := by kernel_rfl
  f6 := ⟨Try.f36.name, by decide, Try.func36.trans (congrArg some (by kernel_rfl))⟩
  f8 := Try.func47.trans (congrArg some (by kernel_rfl))
  f9 := ⟨Try.f46.name, by decide, Try.func46.trans (congrArg some (by kernel_rfl))⟩
  f19 := Try.func60.trans (congrArg some (by kernel_rfl))
  f20 := Try.func61.trans (congrArg some (by kernel_rfl))
  f21 := ⟨Try.f52.name, by decide, Try.func52.trans (congrArg some (by kernel_rfl))⟩
  f22 := ⟨Try.f53.name, by decide, Try.func53.trans (congrArg some (by kernel_rfl))⟩
  f23 := ⟨Try.f54.name, by decide, Try.func54.trans (congrArg some (by kernel_rfl))⟩
  f24 := ⟨Try.f55.name, by decide, Try.func55.trans (congrArg some (by kernel_rfl))⟩
  f25 := ⟨Try.f56.name, by decide, Try.func56.trans (congrArg some (by kernel_rfl))⟩
  f26 := ⟨Try.f57.name, by decide, Try.func57.trans (congrArg some (by kernel_rfl))⟩
  f27 := ⟨Try.f33.name, by decide, Try.func33.trans (congrArg some (by kernel_rfl))⟩
  f28 := ⟨Try.f58.name, by decide, Try.func58.trans (congrArg some (by kernel_rfl))⟩
  f29 := ⟨Try.f59.name, by decide, Try.func59.trans (congrArg some (by kernel_rfl))⟩
  f31 := Try.func65.trans (congrArg some (by kernel_rfl))
  f32 := Try.func66.trans (congrArg some (by kernel_rfl))
  f36 := ⟨Try.f64.name, by decide, Try.func64.trans (congrArg some (by kernel_rfl))⟩
  f37 := ⟨Try.f67.name, by decide, Try.func67.trans (congrArg some (by kernel_rfl))⟩
  f38 := ⟨Try.f68.name, by decide, Try.func68.trans (congrArg some (by kernel_rfl))⟩
  f39 := ⟨Try.f44.name, by decide, Try.func44.trans (congrArg some (by kernel_rfl))⟩
  f41 := ⟨Try.f78.name, by decide, Try.func78.trans (congrArg some (by kernel_rfl))⟩
  t0 := Try.underlying0
  a0 := Try.isAgg0
  z0 := Try.sizeOf0
  v0 := Try.zeroValue0
  t3 := Try.underlying3
  a3 := Try.isAgg3
  z3 := Try.sizeOf3
  v3 := Try.zeroValue3
  t4 := Try.underlying4
  a4 := Try.isAgg4
  z4 := Try.sizeOf4
  v4 := Try.zeroValue4
  t5 := Try.underlying5
  a5 := Try.isAgg5
  z5 := Try.sizeOf5
  v5 := Try.zeroValue5
  t9 := Try.underlying9
  a9 := Try.isAgg9
  z9 := Try.sizeOf9
  v9 := Try.zeroValue9
  t26 := Try.underlying28
  a26 := Try.isAgg28
  z26 := Try.sizeOf28
  v26 := Try.zeroValue28
  t27 := Try.underlying28
  a27 := Try.isAgg28
  z27 := Try.sizeOf28
  v27 := Try.zeroValue28
  t29 := Try.underlying9
  a29 := Try.isAgg9
  z29 := Try.sizeOf9
  v29 := Try.zeroValue9
  t32 := Try.underlying77
  a32 := Try.isAgg77
  z32 := Try.sizeOf77
  v32 := Try.zeroValue77
  t35 := Try.underlying96
  a35 := Try.isAgg96
  z35 := Try.sizeOf96
  v35 := Try.zeroValue96
  t36 := Try.underlying97
  a36 := Try.isAgg97
  z36 := Try.sizeOf97
  v36 := Try.zeroValue97
  t41 := Try.underlying49
  a41 := Try.isAgg49
  z41 := Try.sizeOf49
  v41 := Try.zeroValue49
  t44 := Try.underlying38
  a44 := Try.isAgg38
  z44 := Try.sizeOf38
  v44 := Try.zeroValue38
  t46 := Try.underlying39
  a46 := Try.isAgg39
  z46 := Try.sizeOf39
  v46 := Try.zeroValue39
  t53 := Try.underlying106
  a53 := Try.isAgg106
  z53 := Try.sizeOf106
  v53 := Try.zeroValue106
  t57 := Try.underlying110
  a57 := Try.isAgg110
  z57 := Try.sizeOf110
  v57 := Try.zeroValue110
  t63 := Try.underlying118
  a63 := Try.isAgg118
  z63 := Try.sizeOf118
  v63 := Try.zeroValue118
  t64 := Try.underlying119
  a64 := Try.isAgg119
  z64 := Try.sizeOf119
  v64 := Try.zeroValue119 }

theorem sortsIn (m : Nat) : AnyZ.SortsIn Try.prog sortedLay_ren Fence.wide m :=
  ⟨fun blk off cap ss W hH hblk hsz => callsIn_wide.2 (AnyM.slices_Sort_string sortLay blk off cap ss W hH hblk hsz),
   fun p cap W => callsIn_wide.2 (AnyM.slices_Sort_string_none sortLay p cap W)⟩
theorem keys_any (mb : Option Nat) (w : World) : Calls Try.prog 23 #[.map mb] w fun e w' => e = .returned (.func (.func 37) #[] #[.pointer (some ⟨w.heap.size, 0, none⟩)]) ∧ w' = w.alloc (.cells #[.map mb] 45) :=
  callsIn_wide.1 (AnyZ.keys_in keysLay Fence.wide 5 trivial rfl mb w)
set_option maxHeartbeats 1000000 in
theorem sorted_any (b nn : Nat) (D0 : DataW Unit) (R : Value → Option (DataW Unit × List MemPlace)) (w : World) (hown : w.ownsMap Try.prog 9 R b nn D0) (hmax : Maps.size D0 ≤ maxLen) (hbytes : Maps.size D0 * 16 ≤ 140737488355328) :
    Calls Try.prog 22 #[.func (.func 37) #[] #[.pointer (some ⟨w.heap.size, 0, none⟩)]] (w.alloc (.cells #[.map (some b)] 45)) fun e w' => ∃ (v : Value) (ss : List (List UInt8)), e = .returned v ∧ ss.Perm (strKeys D0) ∧
      w'.ownsRow (w.alloc (.cells #[.map (some b)] 45)).heap.size 9 1 v ss.length ((ss.mergeSort (fun x y => decide (x ≤ y))).map encStr) ∧ (v = .slice none 0 0 ↔ ss = []) ∧ Below (w.alloc (.cells #[.map (some b)] 45)).heap.size (w.alloc (.cells #[.map (some b)] 45)) w' := by
  have hbl := hown.lt
  have hseq : SeqGives Fence.wide 2 Try.prog 37 #[.pointer (some ⟨w.heap.size, 0, none⟩)] encStr (fun ss => ss.Perm (strKeys D0)) (Maps.size D0) (w.alloc (.cells #[.map (some b)] 45)) :=
    AnyZ.keys_gives (ρ := keysLay_ren) { keysLay with } Fence.wide _ trivial rfl (by omega) w.heap.size b nn D0 _ (by simp) (by simp) (by
      obtain ⟨es, clock, hb, Ft, hs, hD⟩ := hown
      exact ⟨es, clock, (Below.heap_alloc _ _ b hbl).trans hb, Ft, hs, hD⟩)
  exact callsIn_wide.1 (AnyZ.sorted_in sortedLay Fence.wide 5 trivial trivial trivial trivial rfl (by omega) (sortsIn _) (enters_of Try.func36 (by kernel_rfl) rfl) 37 #[.pointer (some ⟨w.heap.size, 0, none⟩)] trivial (enters_of Try.func37 (by kernel_rfl) rfl) _ _ hmax hbytes _ hseq)
end
/-! plain: a sorted list, compacted -/
theorem le_bL (x y : List UInt8) : decide (x ≤ y) = !bL y x := by
  rw [show bL y x = decide (y < x) from bytesLess_eq y x, Bool.eq_iff_iff]
  simp
theorem sort_le (zs : List (List UInt8)) : (zs.mergeSort fun x y => decide (x ≤ y)).Pairwise fun a b => bL b a = false := by
  have h := List.pairwise_mergeSort (le := fun x y : List UInt8 => decide (x ≤ y)) (fun a b c h1 h2 => by
    rw [le_bL] at *
    simp only [Bool.not_eq_true'] at *
    by_cases e : bL c a = true
    · by_cases e2 : bL c b = true
      · rw [e2] at h2; cases h2
      · by_cases e3 : b = c
        · subst e3; rw [e] at h1; cases h1
        · have := bl_total (by simpa using e2) (fun e' => e3 e'.symm)
          rw [bl_trans this e] at h1; cases h1
    · simpa using e) (fun a b => by
    rw [le_bL, le_bL]
    cases h1 : bL b a with
    | false => rfl
    | true => rw [bl_asymm h1]; rfl) zs
  refine h.imp fun {a b} hab => ?_
  rw [le_bL] at hab
  simpa using hab
theorem compact_facts (zs : List (List UInt8)) (h : zs.Pairwise fun a b => bL b a = false) : ∀ m, m ≤ zs.length →
    (∀ y, y ∈ Lib.compactUpTo zs.toArray m ↔ ∃ j, j < m ∧ zs[j]? = some y) ∧ (Lib.compactUpTo zs.toArray m).Pairwise (fun a b => bL a b = true)
  | 0, _ => by simp [Lib.compactUpTo]
  | m + 1, hm => by
    obtain ⟨h1, h2⟩ := compact_facts zs h m (by omega)
    have hlt : m < zs.length := by omega
    have hdm : zs.toArray[m]! = zs[m] := by rw [getElem!_pos zs.toArray m (by simpa using hlt)]; simp
    rw [Lib.compactUpTo_succ]
    have hk : Lib.keeps zs.toArray m = true ∨ (0 < m ∧ zs[m]? = zs[m - 1]?) := by
      unfold Lib.keeps
      by_cases h0 : m = 0
      · subst h0; left; simp
      · by_cases he : zs[m] = zs[m - 1]
        · right
          refine ⟨by omega, ?_⟩
          rw [List.getElem?_eq_getElem hlt, List.getElem?_eq_getElem (by omega), he]
        · left
          have h3 : zs.toArray[m - 1]! = zs[m - 1] := by rw [getElem!_pos zs.toArray (m - 1) (by simp; omega)]; simp
          simp [hdm, h3, he]
    by_cases hkp : Lib.keeps zs.toArray m = true
    · rw [if_pos hkp, hdm]
      constructor
      · intro y
        rw [List.mem_append, h1, List.mem_singleton]
        constructor
        · rintro (⟨j, hj, e⟩ | rfl)
          · exact ⟨j, by omega, e⟩
          · exact ⟨m, by omega, List.getElem?_eq_getElem hlt⟩
        · rintro ⟨j, hj, e⟩
          by_cases hjm : j = m
          · subst hjm
            rw [List.getElem?_eq_getElem hlt] at e
            exact .inr (Option.some.inj e).symm
          · exact .inl ⟨j, by omega, e⟩
      · rw [List.pairwise_append]
        refine ⟨h2, List.pairwise_singleton _ _, fun a ha b hb => ?_⟩
        obtain rfl := List.mem_singleton.1 hb
        obtain ⟨j, hj, e⟩ := (h1 a).1 ha
        have hjl : j < zs.length := by omega
        rw [List.getElem?_eq_getElem hjl] at e
        obtain rfl := Option.some.inj e
        -- zs[j] ≤ zs[m-1] < zs[m]
        have hp := List.pairwise_iff_getElem.1 h
        have hm0 : 0 < m := by omega
        have hle : bL zs[m] zs[m - 1] = false := hp (m - 1) m (by omega) hlt (by omega)
        have hne : zs[m - 1] ≠ zs[m] := fun e => by
          unfold Lib.keeps at hkp
          have h3 : zs.toArray[m - 1]! = zs[m - 1] := by rw [getElem!_pos zs.toArray (m - 1) (by simp; omega)]; simp
          simp [hdm, h3, e] at hkp
          omega
        have hlt2 : bL zs[m - 1] zs[m] = true := bl_total hle (fun e => hne e.symm)
        by_cases hjm : j = m - 1
        · subst hjm; exact hlt2
        · have hle2 : bL zs[m - 1] zs[j] = false := hp j (m - 1) hjl (by omega) (by omega)
          by_cases e2 : zs[m - 1] = zs[j]
          · rw [← e2]; exact hlt2
          · exact bl_trans (bl_total hle2 e2) hlt2
    · rw [if_neg hkp, List.append_nil]
      obtain ⟨hm0, he⟩ := hk.resolve_left hkp
      refine ⟨fun y => (h1 y).trans ⟨?_, ?_⟩, h2⟩
      · rintro ⟨j, hj, e⟩; exact ⟨j, by omega, e⟩
      · rintro ⟨j, hj, e⟩
        by_cases hjm : j = m
        · subst hjm
          exact ⟨j - 1, by omega, by rw [← he]; exact e⟩
        · exact ⟨j, by omega, e⟩
def keyB (k : ByteArray) : List UInt8 := k.data.toList
def strs (ks : List ByteArray) : List Value := ks.map Value.string
theorem strV_key (k : ByteArray) : strV (keyB k) = .string k := rfl
/-- sorted and compacted: each text once, rising -/
theorem names_nm (K : List ByteArray) : (Lib.compact ((K.map keyB).mergeSort fun x y => decide (x ≤ y))).map strV = strs (nmS K) := by
  obtain ⟨zs, hzs⟩ : ∃ zs, zs = (K.map keyB).mergeSort fun x y => decide (x ≤ y) := ⟨_, rfl⟩
  rw [← hzs]
  have hs : zs.Pairwise fun a b => bL b a = false := by rw [hzs]; exact sort_le _
  obtain ⟨h1, h2⟩ := compact_facts zs hs zs.length (Nat.le_refl _)
  change ∀ y, y ∈ Lib.compact zs ↔ _ at h1
  change (Lib.compact zs).Pairwise _ at h2
  have hm : ∀ y, y ∈ Lib.compact zs ↔ y ∈ K.map keyB := fun y => by
    rw [h1, ← (List.mergeSort_perm (K.map keyB) fun x y => decide (x ≤ y)).mem_iff, ← hzs, List.mem_iff_getElem?]
    constructor
    · rintro ⟨j, _, e⟩; exact ⟨j, e⟩
    · rintro ⟨j, e⟩; exact ⟨j, (List.getElem?_eq_some_iff.1 e).1, e⟩
  have hn : (Lib.compact zs).map (fun l : List UInt8 => (⟨l.toArray⟩ : ByteArray)) = nmS K := by
    refine strict_nm ?_ fun y => ?_
    · unfold StrictS
      rw [List.pairwise_map]
      exact h2.imp fun {a b} h => h
    · rw [List.mem_map]
      constructor
      · rintro ⟨l, hl, rfl⟩
        obtain ⟨k, hk, rfl⟩ := List.mem_map.1 ((hm l).1 hl)
        exact hk
      · intro hy
        exact ⟨keyB y, (hm _).2 (List.mem_map_of_mem hy), rfl⟩
  rw [← hn]
  unfold strs
  rw [List.map_map]
  rfl
end Go.Proofs.Herb
