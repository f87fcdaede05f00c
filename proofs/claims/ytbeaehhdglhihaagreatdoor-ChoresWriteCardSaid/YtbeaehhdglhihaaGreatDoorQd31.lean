/- The reference's directory (a list of entries): look, without, with, may. For lists that can be read. The reference's with: an entry more, in its place. For lists that can be read. How the reference's disk lies in memory; the contracts of now, call, burn, SetRoom, Fuse and New. For a disk as RefAt says. The contracts of the reference's call, burn, SetRoom and Fuse. For a disk as RefAt says. A directory is put behind the others: what then holds. No program's step. The contract of the reference's SyncDir. For a disk as RefAt says. The contract of the reference's Remove. For a disk as RefAt says. (printed by gen_rrm.py) A file is put behind the others: what then holds. No program's step. The contract of the reference's Create. For a disk as RefAt says. (printed by gen_rcr.py) How many bytes a disk's names lead to: plain lemmas. No condition. -/
import Derived.WalkLawsBesides
import Derived.BigQuiet
import Derived.Test.YtbeaehhdglhihaaGreatDoorQd09
import Derived.Test.YtbeaehhdglhihaaGreatDoorQd27
import Derived.Test.YtbeaehhdglhihaaGreatDoorQd30
namespace Go.Proofs.Herb
open Go.RowKit
abbrev Ent := ByteArray × Nat
def eCells (l : List Ent) : List Value := l.flatMap fun e => [.string e.1, .int .i64 (e.2 : Int)]
theorem eCells_append (l k : List Ent) : eCells (l ++ k) = eCells l ++ eCells k := by simp [eCells]
theorem eCells_at : ∀ (l : List Ent) (j : Nat) (e : Ent), l[j]? = some e → (eCells l)[j * 2]? = some (.string e.1) ∧ (eCells l)[j * 2 + 1]? = some (.int .i64 (e.2 : Int))
  | [], _, _, h => by simp at h
  | y :: l, 0, e, h => by
    simp only [List.getElem?_cons_zero, Option.some.injEq] at h
    subst h
    exact ⟨rfl, rfl⟩
  | y :: l, j + 1, e, h => by
    have h2 := eCells_at l j e (by simpa using h)
    have e1 : eCells (y :: l) = .string y.1 :: .int .i64 (y.2 : Int) :: eCells l := rfl
    rw [e1, show (j + 1) * 2 = j * 2 + 1 + 1 from by omega]
    simpa using h2
theorem ent_at {w : World} {q : Option Addr} {l : List Ent} {j : Nat} (h : Rd w q (eCells l)) (hj : j < l.length) :
    ∃ b off, q = some ⟨b, off, none⟩ ∧ b < w.heap.size ∧ w.cell? ⟨b, off + j * 2, none⟩ = some (.string l[j].1) ∧ w.cell? ⟨b, off + j * 2 + 1, none⟩ = some (.int .i64 (l[j].2 : Int)) := by
  obtain ⟨h1, h2⟩ := eCells_at l j _ (List.getElem?_eq_getElem hj)
  rcases h with h0 | ⟨b, off, hq, hr⟩
  · rw [h0] at h1; simp at h1
  · have c1 := hr _ _ h1
    exact ⟨b, off, hq, World.block_lt_of_cell? w _ c1, c1, by have := hr _ _ h2; rwa [← Nat.add_assoc] at this⟩
def lookR (l : List Ent) (k : ByteArray) : Option Nat := (l.find? fun e => decide (e.1 = k)).map (·.2)
def lookI (l : List Ent) (k : ByteArray) : Int := match lookR l k with
  | some v => (v : Int)
  | none => -1
theorem lookR_skip {l : List Ent} {k : ByteArray} {j : Nat} (hj : j < l.length) (h : ∀ e ∈ l.take j, e.1 ≠ k) (he : l[j].1 = k) : lookI l k = (l[j].2 : Int) := by
  have : lookR l k = some l[j].2 := by
    have h0 : l.find? (fun e => decide (e.1 = k)) = some l[j] := by
      have h1 : l.find? (fun e => decide (e.1 = k)) = (l.take j ++ l.drop j).find? (fun e => decide (e.1 = k)) := by rw [List.take_append_drop]
      rw [h1, List.find?_append, List.find?_eq_none.2 (fun e he' => by simpa using h e he'), List.drop_eq_getElem_cons hj, List.find?_cons]
      simp [he]
    unfold lookR
    rw [h0]; rfl
  unfold lookI; rw [this]
theorem lookR_none {l : List Ent} {k : ByteArray} (h : ∀ e ∈ l, e.1 ≠ k) : lookI l k = -1 := by
  have : lookR l k = none := by
    unfold lookR
    rw [List.find?_eq_none.2 (fun e he' => by simpa using h e he')]; rfl
  unfold lookI; rw [this]
theorem infoEnt : (Tryz.prog.info? 154).map (fun i => (i.zero, i.size, i.bytes)) = some (some (.agg #[.string ⟨#[]⟩, .int .i64 0]), 2, 24) := by kernel_rfl
set_option maxRecDepth 100000 in
set_option maxHeartbeats 800000 in
theorem lookR_any (q : Option Addr) (n c : Nat) (l : List Ent) (k : ByteArray) (w : World) (hn : l.length = n) (hm : n ≤ 1000000000) (hr : Rd w q (eCells l)) :
    Calls Tryz.prog 99 #[.slice q n c, .string k] w fun e w' => e = .returned (.int .i64 (lookI l k)) ∧ w = w' := by
  have Hn := hid hn
  have Hr := hid hr
  clear hn hr
  go_enter Tryz.func99, Tryz.ntmps99
  go_wp2_with fail
  go_loop [5] (fun i => ∃ j : Nat, j ≤ n ∧ i = .int .i64 j ∧ ∀ e ∈ l.take j, e.1 ≠ k) (fun i => n - (intOf i).toNat)
  case atStart => exact ⟨0, Nat.zero_le _, rfl, by simp⟩
  case round =>
    obtain ⟨j, hj, rfl, hk⟩ := hrel
    have HK := hid hk
    clear hk
    by_cases hlt : j < n
    · have hjl : j < l.length := by rw [Hn.out]; exact hlt
      obtain ⟨b, off, rfl, _, c0, c1⟩ := ent_at Hr.out hjl
      obtain ⟨p, hp⟩ : ∃ p, p = l[j].1 := ⟨_, rfl⟩
      obtain ⟨v, hv⟩ : ∃ v, v = l[j].2 := ⟨_, rfl⟩
      rw [← hp] at c0
      rw [← hv] at c1
      have HP := hid hp
      have HV := hid hv
      have i0 : (0 : Int) ≤ (j : Int) := by omega
      have i1 : (j : Int) < (n : Int) := by omega
      clear hp hv
      by_cases hpk : p = k
      · have hbb := seq hpk
        have hlk := lookR_skip hjl HK.out (by rw [← HP.out]; exact hpk)
        rw [← HV.out] at hlk
        have HLk := hid hlk
        clear hlk hpk
        go_wp2_with fail
        go_ret
        exact ⟨by rw [HLk.out]; rfl, rfl⟩
      · have hbb := sne hpk
        have hnx : ∀ e ∈ l.take (j + 1), e.1 ≠ k := by
          intro e he
          rw [List.take_succ_eq_append_getElem hjl, List.mem_append] at he
          rcases he with he | he
          · exact HK.out e he
          · rcases List.mem_singleton.1 he with rfl
            rw [← HP.out]; exact hpk
        have HX := hid hnx
        clear hnx hpk
        go_wp2_with fail
        go_round
        case rel => exact ⟨j + 1, by omega, by go_num, HX.out⟩
        case measure => simp [intOf]; omega
    · have hnx : ∀ e ∈ l, e.1 ≠ k := by
        have := HK.out
        rwa [List.take_of_length_le (by rw [Hn.out]; omega)] at this
      have HX := hid (lookR_none hnx)
      clear hnx
      go_wp2_with fail
      go_ret
      exact ⟨by rw [HX.out]; rfl, rfl⟩
theorem mayR_any (k : ByteArray) (hk : k.size ≤ maxLen) (w : World) :
    Calls Tryz.prog 105 #[.string k] w fun e w' => e = .returned (.bool (mayB k)) ∧ w = w' := by
  unfold maxLen at hk
  by_cases h1 : k = ⟨#[]⟩
  · subst h1
    go_enter Tryz.func105, Tryz.ntmps105
    go_wp2
    go_ret
    exact ⟨rfl, rfl⟩
  · have hne := toList_ne h1
    have h0 : 1 ≤ k.size := by
      rcases Nat.eq_zero_or_pos k.size with h | h
      · exfalso; apply h1; obtain ⟨d⟩ := k; congr 1; exact Array.eq_empty_of_size_eq_zero h
      · exact h
    by_cases h2 : k.size ≤ 24
    · go_enter Tryz.func105, Tryz.ntmps105
      go_wp2
      go_ret
      exact ⟨by simp [mayB, h0, h2]; omega, rfl⟩
    · go_enter Tryz.func105, Tryz.ntmps105
      go_wp2
      go_ret
      exact ⟨by simp [mayB, h0, h2]; omega, rfl⟩
end Go.Proofs.Herb
namespace Go.Proofs.Herb
open Go.RowKit
def ltB (a b : ByteArray) : Bool := Op.bytesLess a.toList b.toList
def stepW (k : ByteArray) (f : Nat) (acc : List Ent × Bool) (e : Ent) : List Ent × Bool :=
  if e.1 = k then acc else if acc.2 = false ∧ ltB e.1 k = false then (acc.1 ++ [(k, f)] ++ [e], true) else (acc.1 ++ [e], acc.2)
def foldW (l : List Ent) (k : ByteArray) (f : Nat) : List Ent × Bool := l.foldl (stepW k f) ([], false)
def withR (l : List Ent) (k : ByteArray) (f : Nat) : List Ent := if (foldW l k f).2 = true then (foldW l k f).1 else (foldW l k f).1 ++ [(k, f)]
theorem foldW_snoc (l : List Ent) (k : ByteArray) (f : Nat) (e : Ent) : foldW (l ++ [e]) k f = stepW k f (foldW l k f) e := by simp [foldW]
def restW (b : Bool) : Nat := if b = true then 0 else 1
theorem stepW_len (k : ByteArray) (f : Nat) (acc : List Ent × Bool) (e : Ent) : (stepW k f acc e).1.length + restW (stepW k f acc e).2 ≤ acc.1.length + restW acc.2 + 1 := by
  unfold stepW
  split
  · omega
  · split
    · rename_i h; rw [h.1]; simp [restW]
    · simp; omega
theorem foldW_len : ∀ (l : List Ent) (k : ByteArray) (f : Nat) (acc : List Ent × Bool), (l.foldl (stepW k f) acc).1.length + restW (l.foldl (stepW k f) acc).2 ≤ acc.1.length + restW acc.2 + l.length
  | [], _, _, acc => by simp
  | e :: l, k, f, acc => by
    rw [List.foldl_cons]
    have h1 := foldW_len l k f (stepW k f acc e)
    have h2 := stepW_len k f acc e
    rw [List.length_cons]
    omega
set_option maxRecDepth 100000 in
set_option maxHeartbeats 1600000 in
theorem withR_any (q : Option Addr) (n c : Nat) (l : List Ent) (k : ByteArray) (f : Nat) (w : World) (hn : l.length = n) (hm : n ≤ 1000000000) (hr : Rd w q (eCells l)) :
    Calls Tryz.prog 102 #[.slice q n c, .string k, .int .i64 (f : Int)] w fun e w' => ∃ v, e = .returned v ∧ w'.ownsRow w.heap.size 154 2 v (withR l k f).length (eCells (withR l k f)) ∧ Below w.heap.size w w' := by
  have Hn := hid hn
  have Hr := hid hr
  clear hn hr
  go_enter Tryz.func102, Tryz.ntmps102
  go_wp2_with fail
  go_loopw [7, 8, 9] (fun v b i wr => ∃ j : Nat, j ≤ n ∧ i = .int .i64 j ∧ b = .bool (foldW (l.take j) k f).2 ∧ wr.ownsRow w.heap.size 154 2 v (foldW (l.take j) k f).1.length (eCells (foldW (l.take j) k f).1) ∧ Below w.heap.size w wr) (fun _ _ i _ => n - (intOf i).toNat)
  case atStart => exact ⟨0, Nat.zero_le _, rfl, rfl, World.ownsRow_nil _ _ _ _, Below.refl _ _⟩
  case round =>
    obtain ⟨j, hj, rfl, rfl, hown, hb⟩ := hrel
    have HB := hid hb
    have hlen : (foldW (l.take j) k f).1.length ≤ j + 1 := by
      have h1 := foldW_len (l.take j) k f ([], false)
      rw [List.length_take] at h1
      simp [restW] at h1
      unfold foldW
      omega
    obtain ⟨A, hA⟩ : ∃ A, A = (foldW (l.take j) k f).1 := ⟨_, rfl⟩
    obtain ⟨B, hBB⟩ : ∃ B, B = (foldW (l.take j) k f).2 := ⟨_, rfl⟩
    rw [← hA] at hown hlen
    rw [← hBB]
    have hfw : foldW (l.take j) k f = (A, B) := by rw [hA, hBB]
    obtain ⟨N, hN⟩ : ∃ N, N = A.length := ⟨_, rfl⟩
    rw [← hN] at hown hlen
    obtain ⟨q2, c2, rfl, _, _, _⟩ := own_shape hown
    have HO := hid hown
    have HFW := hid hfw
    have HN := hid hN
    have hNl : N ≤ j + 1 := hlen
    clear hown hb hA hBB hN hfw hlen
    by_cases hlt : j < n
    · have hjl : j < l.length := by rw [Hn.out]; exact hlt
      obtain ⟨b, off, rfl, hbw, c0, c1⟩ := ent_at Hr.out hjl
      have hst : foldW (l.take (j + 1)) k f = stepW k f (A, B) l[j] := by rw [List.take_succ_eq_append_getElem hjl, foldW_snoc, HFW.out]
      obtain ⟨E, hE⟩ : ∃ e, e = l[j] := ⟨_, rfl⟩
      rw [← hE] at c0 c1 hst
      obtain ⟨p, x⟩ := E
      dsimp only at c0 c1
      have hcell := fun w' (hB : Below w.heap.size w w') => And.intro ((hB.cell (p := ⟨b, off + j * 2, none⟩) hbw).trans c0) ((hB.cell (p := ⟨b, off + j * 2 + 1, none⟩) hbw).trans c1)
      have HE := hid hcell
      clear hcell hbw c0 c1
      obtain ⟨c0, c1⟩ := HE.out wr HB.out
      have i0 : (0 : Int) ≤ (j : Int) := by omega
      have i1 : (j : Int) < (n : Int) := by omega
      clear hE
      by_cases hpk : p = k
      · have hbb := seq hpk
        have hs : foldW (l.take (j + 1)) k f = (A, B) := by rw [hst]; unfold stepW; rw [if_pos hpk]
        have HS := hid hs
        clear hpk hst hs
        go_wp2_with fail
        go_roundw
        case rel => exact ⟨j + 1, by omega, by go_num, by rw [HS.out], by rw [HS.out, ← HN.out]; exact HO.out, HB.out⟩
        case measure => simp [intOf]; omega
      · have hbb := sne hpk
        obtain ⟨T, hT⟩ : ∃ T, T = ltB p k := ⟨_, rfl⟩
        have hlt2 : Op.bytesLess p.toList k.toList = T := by rw [hT]; rfl
        by_cases hc : B = false ∧ T = false
        · obtain ⟨rfl, rfl⟩ := hc
          have hs : foldW (l.take (j + 1)) k f = (A ++ [(k, f)] ++ [(p, x)], true) := by rw [hst]; unfold stepW; rw [if_neg hpk, if_pos ⟨rfl, hT.symm⟩]
          have HS := hid hs
          clear hpk hst hs hT
          go_wp2_with (first | (refine wpList_append_rd rfl (.tmp 34) (.tmp 38) 148 rfl w.heap.size 154 _ 2 24 Tryz.underlying148 infoEnt rfl (by decide) (.slice q2 N c2) N (eCells A) rfl (own_below HO.out ((Below.refl wr.heap.size wr).alloc (Nat.le_refl _) _)) (some ⟨wr.heap.size, 0, none⟩) 1 1 [.string k, .int .i64 (f : Int)] rfl (fun h => by cases h) rfl (Rd.new _ _ _) (by simp [Value.oneCell']) (by unfold maxLen; omega) (by omega) (by simp; have := HB.out.size; omega) ?_; intro v3 w3 hown3 hg3 _; have HG := hid ((HB.out.alloc HB.out.size _).grown hg3 (by simp; have := HB.out.size; omega) (fun k hk => (HO.out.lt k hk).1)); obtain ⟨q3, c3, rfl, _, _, _⟩ := own_shape hown3; have HW := hid hown3; obtain ⟨c0, c1⟩ := HE.out w3 HG.out; clear hg3 hown3) | (refine wpList_append_rd rfl (.tmp 40) (.tmp 45) 148 rfl w.heap.size 154 _ 2 24 Tryz.underlying148 infoEnt rfl (by decide) (.slice q3 (N + 1) c3) (N + 1) (eCells A ++ [.string k, .int .i64 (f : Int)]) rfl (own_below HW.out ((Below.refl w3.heap.size w3).alloc (Nat.le_refl _) _)) (some ⟨w3.heap.size, 0, none⟩) 1 1 [.string p, .int .i64 (x : Int)] rfl (fun h => by cases h) rfl (Rd.new _ _ _) (by simp [Value.oneCell']) (by unfold maxLen; omega) (by omega) (by simp; have := HG.out.size; omega) ?_; intro v4 w4 hown4 hg4 _))
          have hg := (HG.out.alloc HG.out.size _).grown hg4 (by simp; have := HG.out.size; omega) (fun k hk => (HW.out.lt k hk).1)
          have HG4 := hid hg
          have HW4 := hid hown4
          clear hg hg4 hown4
          go_roundw
          case rel => exact ⟨j + 1, by omega, by go_num, by rw [HS.out], by rw [HS.out]; dsimp only; rw [List.length_append, List.length_append, eCells_append, eCells_append, ← HN.out]; exact HW4.out, HG4.out⟩
          case measure => simp [intOf]; omega
        · have hs : foldW (l.take (j + 1)) k f = (A ++ [(p, x)], B) := by rw [hst]; unfold stepW; rw [if_neg hpk, if_neg (by rw [← hT]; exact hc)]
          have HS := hid hs
          clear hpk hst hs hT
          cases B <;> cases T
          · exact absurd ⟨rfl, rfl⟩ hc
          all_goals
            clear hc
            go_wp2_with (refine wpList_append_rd rfl (.tmp 40) (.tmp 45) 148 rfl w.heap.size 154 _ 2 24 Tryz.underlying148 infoEnt rfl (by decide) (.slice q2 N c2) N (eCells A) rfl (own_below HO.out ((Below.refl wr.heap.size wr).alloc (Nat.le_refl _) _)) (some ⟨wr.heap.size, 0, none⟩) 1 1 [.string p, .int .i64 (x : Int)] rfl (fun h => by cases h) rfl (Rd.new _ _ _) (by simp [Value.oneCell']) (by unfold maxLen; omega) (by omega) (by simp; have := HB.out.size; omega) ?_; intro v3 w3 hown3 hg3 _)
            have hg := (HB.out.alloc HB.out.size _).grown hg3 (by simp; have := HB.out.size; omega) (fun k hk => (HO.out.lt k hk).1)
            have HG := hid hg
            have HW := hid hown3
            clear hg hg3 hown3
            go_roundw
            case rel => exact ⟨j + 1, by omega, by go_num, by rw [HS.out], by rw [HS.out]; dsimp only; rw [List.length_append, eCells_append, ← HN.out]; exact HW.out, HG.out⟩
            case measure => simp [intOf]; omega
    · have hfl : foldW l k f = (A, B) := by rw [← HFW.out, List.take_of_length_le (by rw [Hn.out]; omega)]
      cases B with
      | true =>
        have hw : withR l k f = A := by unfold withR; rw [hfl, if_pos rfl]
        have HWR := hid hw
        clear hfl hw
        go_wp2_with fail
        go_ret
        exact ⟨_, rfl, by rw [HWR.out, ← HN.out]; exact HO.out, HB.out⟩
      | false =>
        have hw : withR l k f = A ++ [(k, f)] := by unfold withR; rw [hfl, if_neg (show ¬ (false = true) by decide)]
        have HWR := hid hw
        clear hfl hw
        go_wp2_with (refine wpList_append_rd rfl (.tmp 49) (.tmp 53) 148 rfl w.heap.size 154 _ 2 24 Tryz.underlying148 infoEnt rfl (by decide) (.slice q2 N c2) N (eCells A) rfl (own_below HO.out ((Below.refl wr.heap.size wr).alloc (Nat.le_refl _) _)) (some ⟨wr.heap.size, 0, none⟩) 1 1 [.string k, .int .i64 (f : Int)] rfl (fun h => by cases h) rfl (Rd.new _ _ _) (by simp [Value.oneCell']) (by unfold maxLen; omega) (by omega) (by simp; have := HB.out.size; omega) ?_; intro v3 w3 hown3 hg3 _)
        have hg := (HB.out.alloc HB.out.size _).grown hg3 (by simp; have := HB.out.size; omega) (fun k hk => (HO.out.lt k hk).1)
        have HG := hid hg
        have HW := hid hown3
        clear hg hg3 hown3
        go_ret
        exact ⟨_, rfl, by rw [HWR.out, List.length_append, eCells_append, ← HN.out]; exact HW.out, HG.out⟩
end Go.Proofs.Herb
namespace Go.Proofs.Herb
open Go.RowKit
/-- the reference's disk, as it is told -/
structure RS where
  room : Int
  left : Int
  dead : Bool
  files : List DF
  past : List (List Ent)
/-- where it lies -/
structure RM where
  D : Nat
  fv : Value
  pv : Value
  bs : List Value
  es : List Value
def RM.fp (m : RM) : List Nat := m.D :: (m.fv.ownBlock.toList ++ m.pv.ownBlock.toList)
/-- a slice that is never written again -/
def SlU (w : World) (U : Nat → Prop) (fp : List Nat) (v : Value) (n : Nat) (xs : List Value) : Prop :=
  ∃ q c, v = .slice q n c ∧ n ≤ c ∧ c ≤ maxLen ∧ (q = none → c = 0) ∧ (xs = [] ∨ ∃ b off, q = some ⟨b, off, none⟩ ∧ U b ∧ b ∉ fp ∧ ∀ j u, xs[j]? = some u → w.cell? ⟨b, off + j, none⟩ = some u)
structure RefAt (w : World) (U : Nat → Prop) (m : RM) (r : RS) : Prop where
  disk : w.heap[m.D]? = some (.cells #[.int .i64 r.room, .int .i64 r.left, .bool r.dead, m.fv, m.pv] 130 (0, 0))
  files : w.ownsRow 0 151 2 m.fv r.files.length (dfCells m.bs r.files)
  flen : m.bs.length = r.files.length
  bytes : ∀ (i : Nat) v f, m.bs[i]? = some v → r.files[i]? = some f → SlU w U m.fp v f.b.length (f.b.map bv)
  past : w.ownsRow 0 148 1 m.pv r.past.length m.es
  elen : m.es.length = r.past.length
  ents : ∀ (i : Nat) v l, m.es[i]? = some v → r.past[i]? = some l → SlU w U m.fp v l.length (eCells l)
  nodup : m.fp.Nodup
  us : ∀ k, k ∈ m.fp → U k
  low : ∀ k, U k → k < w.heap.size
theorem SlU.keep {w w' : World} {U U' : Nat → Prop} {fp fp' : List Nat} {v : Value} {n : Nat} {xs : List Value} (h : SlU w U fp v n xs) (hU : ∀ k, U k → U' k) (hk : ∀ k, U k → k ∉ fp → w'.heap[k]? = w.heap[k]?) (hf : ∀ k, U k → k ∈ fp' → k ∈ fp) : SlU w' U' fp' v n xs := by
  obtain ⟨q, c, h1, h2, h3, h4, h5⟩ := h
  refine ⟨q, c, h1, h2, h3, h4, h5.imp id ?_⟩
  rintro ⟨b, off, e1, e2, e3, e4⟩
  exact ⟨b, off, e1, hU b e2, fun h => e3 (hf b e2 h), fun j u hj => (World.cell?_of_block (hk b e2 e3)).trans (e4 j u hj)⟩
theorem SlU.rd {w : World} {U : Nat → Prop} {fp : List Nat} {v : Value} {n : Nat} {xs : List Value} (h : SlU w U fp v n xs) : ∃ q c, v = .slice q n c ∧ n ≤ c ∧ c ≤ maxLen ∧ (q = none → c = 0) ∧ Rd w q xs := by
  obtain ⟨q, c, h1, h2, h3, h4, h5⟩ := h
  refine ⟨q, c, h1, h2, h3, h4, h5.imp id ?_⟩
  rintro ⟨b, off, e1, _, _, e4⟩
  exact ⟨b, off, e1, e4⟩
theorem own_cellk {w : World} {base : Nat} {e : TypeId} {k : Nat} {v : Value} {n i : Nat} {xs : List Value} (h : w.ownsRow base e k v n xs) (hi : i < n * k) :
    ∃ g c u, v = .slice (some ⟨g, 0, none⟩) n c ∧ xs[i]? = some u ∧ w.cell? ⟨g, i, none⟩ = some u ∧ n ≤ c ∧ c ≤ maxLen := by
  obtain ⟨h1, h2⟩ := h
  rcases h2 with ⟨_, h0⟩ | ⟨g, cap, cur, hv, _, hg, hn, hm, _, ht⟩
  · rw [h0] at hi; omega
  · have hx : i < xs.length := by omega
    refine ⟨g, cap, xs[i], hv, List.getElem?_eq_getElem hx, ?_, hn, hm⟩
    rw [cell_of_row w g i _ _ _ hg]
    have h3 : xs[i]? = (cur.toList.take (n * k))[i]? := by rw [ht]
    rw [List.getElem?_take_of_lt hi, List.getElem?_eq_getElem hx] at h3
    simpa using h3.symm
theorem RefAt.keep {w w' : World} {U : Nat → Prop} {m : RM} {r : RS} (h : RefAt w U m r) (hk : ∀ k, U k → w'.heap[k]? = w.heap[k]?) : RefAt w' U m r := by
  have hfv : ∀ g, m.fv.ownBlock = some g → U g := fun g hg => h.us g (by simp [RM.fp, hg])
  have hpv : ∀ g, m.pv.ownBlock = some g → U g := fun g hg => h.us g (by simp [RM.fp, hg])
  refine ⟨(hk _ (h.us _ (by simp [RM.fp]))).trans h.disk, own_keep h.files (fun g hg => hk g (hfv g hg)), h.flen, fun i v f h1 h2 => (h.bytes i v f h1 h2).keep (fun _ h => h) (fun k hu _ => hk k hu) (fun _ _ h => h),
    own_keep h.past (fun g hg => hk g (hpv g hg)), h.elen, fun i v l h1 h2 => (h.ents i v l h1 h2).keep (fun _ h => h) (fun k hu _ => hk k hu) (fun _ _ h => h), h.nodup, h.us, fun k hu => ?_⟩
  have h1 := h.low k hu
  have h2 := hk k hu
  rw [Array.getElem?_eq_getElem h1] at h2
  exact (Array.getElem?_eq_some_iff.1 h2).1
theorem RefAt.below {w w' : World} {U : Nat → Prop} {m : RM} {r : RS} (h : RefAt w U m r) (hb : Below w.heap.size w w') : RefAt w' U m r := h.keep fun k hu => hb.block k (h.low k hu)
/-- what a call of the reference may have turned -/
structure RMod (U : Nat → Prop) (w w' : World) : Prop where
  os : w'.os = w.os
  tape : w'.tape = w.tape
  output : w'.output = w.output
  size : w.heap.size ≤ w'.heap.size
  block : ∀ k, k < w.heap.size → ¬ U k → w'.heap[k]? = w.heap[k]?
def upU (U : Nat → Prop) (w w' : World) : Nat → Prop := fun k => U k ∨ (w.heap.size ≤ k ∧ k < w'.heap.size)
theorem RMod.refl (U : Nat → Prop) (w : World) : RMod U w w := ⟨rfl, rfl, rfl, Nat.le_refl _, fun _ _ _ => rfl⟩
theorem RMod.of_below {w w' : World} (U : Nat → Prop) (hb : Below w.heap.size w w') : RMod U w w' := ⟨hb.os, hb.tape, hb.output, hb.size, fun k hk _ => hb.block k hk⟩
theorem RMod.trans {U : Nat → Prop} {w w1 w2 : World} (h : RMod U w w1) (k : RMod (upU U w w1) w1 w2) : RMod U w w2 :=
  ⟨k.os.trans h.os, k.tape.trans h.tape, k.output.trans h.output, Nat.le_trans h.size k.size, fun i hi hn => (k.block i (Nat.lt_of_lt_of_le hi h.size) (fun e => by rcases e with e | e; exact hn e; omega)).trans (h.block i hi hn)⟩
theorem upU_trans {U : Nat → Prop} {w w1 w2 : World} (h1 : w.heap.size ≤ w1.heap.size) (h2 : w1.heap.size ≤ w2.heap.size) : ∀ k, upU (upU U w w1) w1 w2 k ↔ upU U w w2 k := by
  intro k
  unfold upU
  constructor
  · rintro ((h | h) | h)
    · exact .inl h
    · exact .inr ⟨h.1, by omega⟩
    · exact .inr ⟨by omega, h.2⟩
  · rintro (h | h)
    · exact .inl (.inl h)
    · by_cases hk : k < w1.heap.size
      · exact .inl (.inr ⟨h.1, hk⟩)
      · exact .inr ⟨by omega, h.2⟩
theorem RefAt.up {w : World} {U U' : Nat → Prop} {m : RM} {r : RS} (h : RefAt w U m r) (hU : ∀ k, U k → U' k) (hl : ∀ k, U' k → k < w.heap.size) : RefAt w U' m r :=
  ⟨h.disk, h.files, h.flen, fun i v f h1 h2 => (h.bytes i v f h1 h2).keep hU (fun _ _ _ => rfl) (fun _ _ h => h), h.past, h.elen, fun i v l h1 h2 => (h.ents i v l h1 h2).keep hU (fun _ _ _ => rfl) (fun _ _ h => h), h.nodup, fun k hk => hU k (h.us k hk), hl⟩
theorem RefAt.cells {w : World} {U : Nat → Prop} {m : RM} {r : RS} (h : RefAt w U m r) :
    w.cell? ⟨m.D, 0, none⟩ = some (.int .i64 r.room) ∧ w.cell? ⟨m.D, 1, none⟩ = some (.int .i64 r.left) ∧ w.cell? ⟨m.D, 2, none⟩ = some (.bool r.dead) ∧ w.cell? ⟨m.D, 3, none⟩ = some m.fv ∧ w.cell? ⟨m.D, 4, none⟩ = some m.pv :=
  ⟨cell_of_row w m.D 0 _ _ _ h.disk, cell_of_row w m.D 1 _ _ _ h.disk, cell_of_row w m.D 2 _ _ _ h.disk, cell_of_row w m.D 3 _ _ _ h.disk, cell_of_row w m.D 4 _ _ _ h.disk⟩
theorem RefAt.free {w : World} {U : Nat → Prop} {m : RM} {r : RS} (h : RefAt w U m r) (i : Nat) : w.frozen? ⟨m.D, i, none⟩ = false := frozen_of_row _ _ _ _ _ h.disk
/-- the directory -/
def nowR (r : RS) : List Ent := (r.past[r.past.length - 1]?).getD []
set_option maxRecDepth 100000 in
set_option maxHeartbeats 800000 in
theorem nowR_any (U : Nat → Prop) (m : RM) (r : RS) (w : World) (h : RefAt w U m r) (hp : 0 < r.past.length) :
    Calls Tryz.prog 100 #[.pointer (some ⟨m.D, 0, none⟩)] w fun e w' => ∃ v, e = .returned v ∧ m.es[r.past.length - 1]? = some v ∧ SlU w' U m.fp v (nowR r).length (eCells (nowR r)) ∧ Below w.heap.size w w' := by
  have hlt : r.past.length - 1 < m.es.length := by rw [h.elen]; omega
  obtain ⟨v, hv⟩ : ∃ v, m.es[r.past.length - 1]? = some v := ⟨_, List.getElem?_eq_getElem hlt⟩
  have hl : r.past[r.past.length - 1]? = some (nowR r) := by unfold nowR; rw [List.getElem?_eq_getElem (by omega)]; rfl
  have hs := h.ents _ v _ hv hl
  obtain ⟨N, hN⟩ : ∃ N, N = r.past.length - 1 := ⟨_, rfl⟩
  obtain ⟨g, c, u, hpv, hu, hc, hn1, hn2⟩ := own_cellk h.past (i := N) (by omega)
  unfold maxLen at hn2
  rw [← hN, hu] at hv
  cases hv
  obtain ⟨_, _, _, _, d4⟩ := h.cells
  rw [hpv] at d4
  obtain ⟨q, cq, rfl, hs'⟩ : ∃ q cq, v = .slice q (nowR r).length cq ∧ True := by obtain ⟨q, cq, e, _⟩ := hs; exact ⟨q, cq, e, trivial⟩
  have H := hid h
  have HS := hid hs
  have HU := hid hu
  obtain ⟨P, hP⟩ : ∃ P, P = r.past.length := ⟨_, rfl⟩
  have hPN : P = N + 1 := by omega
  rw [← hP] at d4
  have i0 : (0 : Int) ≤ (N : Int) := by omega
  have i1 : (N : Int) < (P : Int) := by omega
  have w1 : IntKind.i64.wrap ((P : Int) - 1) = (N : Int) := by rw [IntKind.wrap_i64]; omega
  obtain ⟨L, hL⟩ : ∃ L, L = (nowR r).length := ⟨_, rfl⟩
  rw [← hL] at hc
  rw [← hN]
  clear hn1 hn2 h hs hu hpv hl hs' hlt hp hN hP hPN
  go_enter Tryz.func100, Tryz.ntmps100
  go_wp2
  go_quiet (fail)
  go_wp2
  go_ret
  rename_i nq _
  have hB := below_drewN (Below.refl w.heap.size w) nq
  exact ⟨_, rfl, HU.out, HS.out.keep (fun _ h => h) (fun k hk _ => hB.block k (H.out.low k hk)) (fun _ _ h => h), hB⟩
end Go.Proofs.Herb
namespace Go.Proofs.Herb
open Go.RowKit
theorem RefAt.turnD {w w' : World} {U : Nat → Prop} {m : RM} {r : RS} (h : RefAt w U m r) (room left : Int) (dead : Bool)
    (hD : w'.heap[m.D]? = some (.cells #[.int .i64 room, .int .i64 left, .bool dead, m.fv, m.pv] 130 (0, 0))) (hk : ∀ k, k ≠ m.D → w'.heap[k]? = w.heap[k]?) (hs : w'.heap.size = w.heap.size) :
    RefAt w' U m { r with room := room, left := left, dead := dead } := by
  have hfv : ∀ g, m.fv.ownBlock = some g → g ≠ m.D := fun g hg e => by
    have := h.nodup; rw [RM.fp, hg, e] at this; simp at this
  have hpv : ∀ g, m.pv.ownBlock = some g → g ≠ m.D := fun g hg e => by
    have := h.nodup; rw [RM.fp, hg, e] at this; simp at this
  have hf : ∀ k, k ∉ m.fp → k ≠ m.D := fun k hn e => hn (by simp [RM.fp, e])
  exact ⟨hD, own_keep h.files (fun g hg => hk g (hfv g hg)), h.flen, fun i v f h1 h2 => (h.bytes i v f h1 h2).keep (fun _ h => h) (fun k _ hn => hk k (hf k hn)) (fun _ _ h => h),
    own_keep h.past (fun g hg => hk g (hpv g hg)), h.elen, fun i v l h1 h2 => (h.ents i v l h1 h2).keep (fun _ h => h) (fun k _ hn => hk k (hf k hn)) (fun _ _ h => h), h.nodup, h.us, fun k hu => hs ▸ h.low k hu⟩
theorem RMod.one {w w' : World} {U : Nat → Prop} {m : RM} {r : RS} (h : RefAt w U m r) (hk : ∀ k, k ≠ m.D → w'.heap[k]? = w.heap[k]?) (hs : w'.heap.size = w.heap.size) (h1 : w'.os = w.os) (h2 : w'.tape = w.tape) (h3 : w'.output = w.output) : RMod U w w' :=
  ⟨h1, h2, h3, by omega, fun k _ hn => hk k (fun e => hn (h.us k (by simp [RM.fp, e])))⟩
/-- what call says -/
def callR (r : RS) (k : ByteArray) : Int := if r.dead then 10 else if mayB k then 0 else 1
set_option maxHeartbeats 400000 in
theorem callR_any (U : Nat → Prop) (m : RM) (r : RS) (k : ByteArray) (hk : k.size ≤ maxLen) (w : World) (h : RefAt w U m r) :
    Calls Tryz.prog 98 #[.pointer (some ⟨m.D, 0, none⟩), .string k] w fun e w' => e = .returned (.int .i64 (callR r k)) ∧ w = w' := by
  obtain ⟨_, _, c2, _, _⟩ := h.cells
  clear h
  have hE : callR r k = if r.dead then 10 else if mayB k then 0 else 1 := rfl
  cases hd : r.dead
  · rw [hd] at c2 hE
    cases hm : mayB k
    · rw [hm] at hE
      have hE := hid hE
      go_enter Tryz.func98, Tryz.ntmps98
      go_wp2_with (go_at_call 105; refine (mayR_any k hk w).mono ?_; rintro e w1 ⟨rfl, rfl⟩; rw [hm])
      go_ret
      exact ⟨by rw [hE.out]; rfl, rfl⟩
    · rw [hm] at hE
      have hE := hid hE
      go_enter Tryz.func98, Tryz.ntmps98
      go_wp2_with (go_at_call 105; refine (mayR_any k hk w).mono ?_; rintro e w1 ⟨rfl, rfl⟩; rw [hm])
      go_ret
      exact ⟨by rw [hE.out]; rfl, rfl⟩
  · rw [hd] at c2 hE
    have hE := hid hE
    go_enter Tryz.func98, Tryz.ntmps98
    go_wp2_with fail
    go_ret
    exact ⟨rfl, rfl⟩
def burnE (r : RS) : Int := if r.left = 0 then 10 else 0
def burnS (r : RS) : RS := if r.left = 0 then { r with dead := true } else if 0 < r.left then { r with left := r.left - 1 } else r
set_option maxHeartbeats 800000 in
theorem burnR_any (U : Nat → Prop) (m : RM) (r : RS) (w : World) (h : RefAt w U m r) (h1 : -1 ≤ r.left) (h2 : r.left ≤ 9223372036854775807) :
    Calls Tryz.prog 101 #[.pointer (some ⟨m.D, 0, none⟩)] w fun e w' => e = .returned (.int .i64 (burnE r)) ∧ RefAt w' U m (burnS r) ∧ RMod U w w' ∧ w'.heap.size = w.heap.size := by
  obtain ⟨_, c1, c2, _, _⟩ := h.cells
  have f1 := h.free 1
  have f2 := h.free 2
  have H := hid h
  clear h
  by_cases q2 : r.left = 0
  · have Q2 := hid q2
    rw [q2] at c1
    clear q2
    go_enter Tryz.func101, Tryz.ntmps101
    go_wp2
    go_ret
    refine ⟨by unfold burnE; rw [Q2.out]; rfl, ?_, RMod.one H.out (fun k hk => heap_setCell_other _ _ _ _ hk) (by simp) rfl rfl rfl, by simp⟩
    unfold burnS
    rw [if_pos Q2.out]
    exact H.out.turnD r.room r.left true (heap_setCell_same _ _ _ _ _ _ H.out.disk) (fun k hk => heap_setCell_other _ _ _ _ hk) (by simp)
  · have b2 : (r.left == 0) = false := by simpa using q2
    have Q2 := hid q2
    by_cases q3 : 0 < r.left
    · have b3 : decide (0 < r.left) = true := by simpa using q3
      have Q3 := hid q3
      clear q2
      go_enter Tryz.func101, Tryz.ntmps101
      go_wp2
      go_ret
      refine ⟨by unfold burnE; rw [if_neg Q2.out]; rfl, ?_, RMod.one H.out (fun k hk => heap_setCell_other _ _ _ _ hk) (by simp) rfl rfl rfl, by simp⟩
      unfold burnS
      rw [if_neg Q2.out, if_pos Q3.out]
      exact H.out.turnD r.room (r.left - 1) r.dead (heap_setCell_same _ _ _ _ _ _ H.out.disk) (fun k hk => heap_setCell_other _ _ _ _ hk) (by simp)
    · have b3 : decide (0 < r.left) = false := by simpa using q3
      have Q3 := hid q3
      clear q2 q3
      go_enter Tryz.func101, Tryz.ntmps101
      go_wp2
      go_ret
      exact ⟨by unfold burnE; rw [if_neg Q2.out]; rfl, by unfold burnS; rw [if_neg Q2.out, if_neg (Int.not_lt.2 Q3.out)]; exact H.out, RMod.refl _ _, rfl⟩
def fuseR (r : RS) (n : Int) : RS := if n < 0 then r else { r with left := n }
set_option maxHeartbeats 800000 in
theorem fuseR_any (U : Nat → Prop) (m : RM) (r : RS) (n : Int) (w : World) (h : RefAt w U m r) :
    Calls Tryz.prog 29 #[.pointer (some ⟨m.D, 0, none⟩), .int .i64 n] w fun e w' => e = .returned (.int .i64 (fuseE n)) ∧ RefAt w' U m (fuseR r n) ∧ RMod U w w' ∧ w'.heap.size = w.heap.size := by
  obtain ⟨_, c1, _, _, _⟩ := h.cells
  have f1 := h.free 1
  have H := hid h
  clear h
  by_cases h1 : n < 0
  · have b1 : decide (n < 0) = true := by simpa using h1
    have hE : Hid (fuseE n = 1 ∧ fuseR r n = r) := hid ⟨if_pos h1, if_pos h1⟩
    clear h1
    go_enter Tryz.func29, Tryz.ntmps29
    go_wp2_with fail
    go_ret
    exact ⟨by rw [hE.out.1]; rfl, by rw [hE.out.2]; exact H.out, RMod.refl _ _, rfl⟩
  · have b1 : decide (n < 0) = false := by simpa using h1
    have hE : Hid (fuseE n = 0 ∧ fuseR r n = { r with left := n }) := hid ⟨if_neg h1, if_neg h1⟩
    clear h1
    go_enter Tryz.func29, Tryz.ntmps29
    go_wp2_with fail
    go_ret
    exact ⟨by rw [hE.out.1]; rfl, by rw [hE.out.2]; exact H.out.turnD r.room n r.dead (heap_setCell_same _ _ _ _ _ _ H.out.disk) (fun k hk => heap_setCell_other _ _ _ _ hk) (by simp), RMod.one H.out (fun k hk => heap_setCell_other _ _ _ _ hk) (by simp) rfl rfl rfl, by simp⟩
end Go.Proofs.Herb
namespace Go.Proofs.Herb
open Go.RowKit
theorem setPv_fin (U : Nat → Prop) (m : RM) (r : RS) (es' : List Value) (past' : List (List Ent)) (wc wa w1 : World) (v : Value)
    (D : RefAt wc U m r) (hel : es'.length = past'.length) (hx : ∀ (i : Nat) u e, es'[i]? = some u → past'[i]? = some e → SlU wc U m.fp u e.length (eCells e)) (hB : Below wc.heap.size wc wa) (hg : wa.grownBy w1 m.pv.ownBlock)
    (hown : w1.ownsRow 0 148 1 v past'.length es')
    (hat : v.ownBlock = m.pv.ownBlock ∨ v.ownBlock = some wa.heap.size) :
    RefAt (w1.setCell ⟨m.D, 4, none⟩ v) (upU U wc (w1.setCell ⟨m.D, 4, none⟩ v)) { m with pv := v, es := es' } { r with past := past' } ∧ RMod U wc (w1.setCell ⟨m.D, 4, none⟩ v) := by
  have hfD : ∀ g, m.fv.ownBlock = some g → g ≠ m.D := fun g hg e => by
    have := D.nodup; rw [RM.fp, hg, e] at this; simp at this
  have hpD : ∀ g, m.pv.ownBlock = some g → g ≠ m.D := fun g hg e => by
    have := D.nodup; rw [RM.fp, hg, e] at this; simp at this
  have hfp : ∀ g, m.fv.ownBlock = some g → m.pv.ownBlock ≠ some g := fun g hg e => by
    have := D.nodup; rw [RM.fp, hg, e] at this; simp at this
  have hUD := D.us m.D (by simp [RM.fp])
  have hDl := D.low _ hUD
  have hs1 : wc.heap.size ≤ wa.heap.size := hB.size
  have hs2 : wa.heap.size ≤ w1.heap.size := hg.size
  have hk1 : ∀ k, k < wc.heap.size → m.pv.ownBlock ≠ some k → w1.heap[k]? = wc.heap[k]? := fun k hk hn => (hg.block k (by omega) (fun e => hn e.symm)).trans (hB.block k hk)
  have hk2 : ∀ k, k < wc.heap.size → m.pv.ownBlock ≠ some k → k ≠ m.D → (w1.setCell ⟨m.D, 4, none⟩ v).heap[k]? = wc.heap[k]? := fun k hk hn hd => (heap_setCell_other _ _ _ _ hd).trans (hk1 k hk hn)
  have hz : (w1.setCell ⟨m.D, 4, none⟩ v).heap.size = w1.heap.size := by simp
  have hvD : ∀ g, v.ownBlock = some g → g ≠ m.D := fun g hgo e => by
    rcases hat with h | h
    · exact hpD g (h.symm.trans hgo) e
    · rw [h] at hgo; have := Option.some.inj hgo; omega
  have hpne : m.pv.ownBlock ≠ some m.D := fun e => hpD _ e rfl
  have hUl : ∀ k, U k → upU U wc (w1.setCell ⟨m.D, 4, none⟩ v) k := fun k h => .inl h
  have hf' : ∀ k, U k → k ∈ ({ m with pv := v, es := es' } : RM).fp → k ∈ m.fp := by
    intro k hu hk
    have hkl := D.low k hu
    simp only [RM.fp, List.mem_cons, List.mem_append, Option.mem_toList] at hk ⊢
    rcases hk with h | h | h
    · exact .inl h
    · exact .inr (.inl h)
    · rcases hat with e | e
      · exact .inr (.inr (e ▸ h))
      · exfalso; rw [e] at h; have := Option.some.inj h; omega
  have hks : ∀ k, U k → k ∉ m.fp → (w1.setCell ⟨m.D, 4, none⟩ v).heap[k]? = wc.heap[k]? := fun k hu hn =>
    hk2 k (D.low k hu) (fun e => hn (by simp [RM.fp, e])) (fun e => hn (by simp [RM.fp, e]))
  refine ⟨⟨heap_setCell_same _ _ _ _ _ _ ((hk1 _ hDl hpne).trans D.disk), own_keep D.files (fun g hgo => hk2 g (D.low g (D.us g (by simp [RM.fp, hgo]))) (hfp g hgo) (hfD g hgo)), D.flen,
    fun i u f h1 h2 => (D.bytes i u f h1 h2).keep hUl hks hf', own_keep hown fun g hgo => heap_setCell_other _ _ _ _ (hvD g hgo), hel, fun i u e h1 h2 => (hx i u e h1 h2).keep hUl hks hf', ?_, ?_, ?_⟩, ?_⟩
  · have hn := D.nodup
    unfold RM.fp at hn ⊢
    dsimp only
    rcases hat with e | e
    · rw [e]; exact hn
    · rw [e]
      have h1 : ∀ k, k ∈ m.D :: m.fv.ownBlock.toList → k ≠ wa.heap.size := fun k hk e2 => by
        have hu : U k := D.us k (by simp only [RM.fp, List.mem_cons, List.mem_append] at hk ⊢; rcases hk with h | h; exact .inl h; exact .inr (.inl h))
        have := D.low k hu; omega
      cases hfv : m.fv.ownBlock with
      | none => simp [hfv] at h1 ⊢; exact h1
      | some g =>
        have := hfD g hfv
        simp [hfv] at h1 ⊢
        exact ⟨⟨fun e => this e.symm, h1.1⟩, h1.2⟩
  · intro k hk
    simp only [RM.fp, List.mem_cons, List.mem_append, Option.mem_toList] at hk
    rcases hk with h | h | h
    · exact .inl (h ▸ hUD)
    · exact .inl (D.us k (by simp [RM.fp, h]))
    · rcases hat with e | e
      · exact .inl (D.us k (by simp [RM.fp, e ▸ h]))
      · rw [e] at h
        have := Option.some.inj h
        refine .inr ⟨by omega, ?_⟩
        rw [hz]
        rcases hown.2 with ⟨e0, _⟩ | ⟨g, cap, cur, hv, _, hgg, _⟩
        · rw [e0] at e; cases e
        · rw [hv] at e; have h3 : g = wa.heap.size := Option.some.inj e
          have := lt_of_block hgg; omega
  · intro k hk
    rcases hk with h | h
    · have := D.low k h; rw [hz]; omega
    · exact h.2
  · exact ⟨hg.os.trans hB.os, hg.tape.trans hB.tape, hg.output.trans hB.output, by rw [hz]; omega, fun k hk hn => hk2 k hk (fun e => hn (D.us k (by simp [RM.fp, e]))) (fun e => hn (e ▸ hUD))⟩
theorem push_ents {w : World} {U : Nat → Prop} {m : RM} {r : RS} (D : RefAt w U m r) {l : List Ent} {x : Value} (hx : SlU w U m.fp x l.length (eCells l)) :
    ∀ (i : Nat) u e, (m.es ++ [x])[i]? = some u → (r.past ++ [l])[i]? = some e → SlU w U m.fp u e.length (eCells e) := by
  intro i u e h1 h2
  by_cases hi : i < m.es.length
  · rw [List.getElem?_append_left hi] at h1
    rw [List.getElem?_append_left (by rw [← D.elen]; exact hi)] at h2
    exact D.ents i u e h1 h2
  · rw [List.getElem?_append_right (by omega)] at h1
    rw [List.getElem?_append_right (by have := D.elen; omega)] at h2
    rw [D.elen] at h1
    have hz : i - r.past.length = 0 := by
      have := (List.getElem?_eq_some_iff.1 h1).1; simp at this; omega
    rw [hz] at h1 h2
    simp at h1 h2
    subst h1 h2
    exact hx
end Go.Proofs.Herb
namespace Go.Proofs.Herb
open Go.RowKit
theorem slU_own {w : World} {U : Nat → Prop} {fp : List Nat} {B : Nat} {e : TypeId} {k : Nat} {v : Value} {n : Nat} {xs : List Value} (h : w.ownsRow B e k v n xs) (hU : ∀ g, B ≤ g → g < w.heap.size → U g) (hf : ∀ g, g ∈ fp → g < B) : SlU w U fp v n xs := by
  obtain ⟨h1, h2⟩ := h
  rcases h2 with ⟨hv, h0⟩ | ⟨g, cap, cur, hv, hb, hg, hn, hm, _, ht⟩
  · subst h0
    exact ⟨none, 0, hv, by omega, by unfold maxLen; omega, fun _ => rfl, .inl (List.eq_nil_of_length_eq_zero (by omega))⟩
  · refine ⟨some ⟨g, 0, none⟩, cap, hv, hn, hm, (fun h => nomatch h), .inr ⟨g, 0, rfl, hU g hb (lt_of_block hg), fun hk => by have := hf g hk; omega, fun j u hj => ?_⟩⟩
    have hj1 : j < xs.length := (List.getElem?_eq_some_iff.1 hj).1
    rw [Nat.zero_add, cell_of_row w g j _ _ _ hg, ← hj]
    have h3 : xs[j]? = (cur.toList.take (n * k))[j]? := by rw [ht]
    rw [h3, List.getElem?_take_of_lt (by omega)]
    simp
theorem own_one (w : World) (x : Value) (e : TypeId) : (w.alloc (.cells #[x] e)).ownsRow 0 e 1 (.slice (some ⟨w.heap.size, 0, none⟩) 1 1) 1 [x] :=
  ⟨rfl, .inr ⟨w.heap.size, 1, #[x], rfl, Nat.zero_le _, heap_alloc_new w _, Nat.le_refl _, by unfold maxLen; omega, rfl, rfl⟩⟩
theorem RMod.seq {U : Nat → Prop} {w w1 w2 : World} (h : RMod U w w1) (k : RMod U w1 w2) : RMod U w w2 :=
  ⟨k.os.trans h.os, k.tape.trans h.tape, k.output.trans h.output, Nat.le_trans h.size k.size, fun i hi hn => (k.block i (Nat.lt_of_lt_of_le hi h.size) hn).trans (h.block i hi hn)⟩
theorem RefAt.upMore {w w1 w' : World} {U : Nat → Prop} {m : RM} {r : RS} (h : RefAt w' (upU U w1 w') m r) (hs : w.heap.size ≤ w1.heap.size) : RefAt w' (upU U w w') m r :=
  h.up (fun k hk => by rcases hk with hk | hk; exact .inl hk; exact .inr ⟨by omega, hk.2⟩) (fun k hk => by
    rcases hk with hk | hk
    · exact h.low k (.inl hk)
    · exact hk.2)
theorem burnS_past (r : RS) : (burnS r).past = r.past := by unfold burnS; split; rfl; split <;> rfl
theorem burnS_files (r : RS) : (burnS r).files = r.files := by unfold burnS; split; rfl; split <;> rfl
theorem RefAt.upSame {w w' : World} {U : Nat → Prop} {m : RM} {r : RS} (h : RefAt w' U m r) : RefAt w' (upU U w w') m r :=
  h.up (fun _ h => .inl h) (fun k hk => by rcases hk with hk | hk; exact h.low k hk; exact hk.2)
end Go.Proofs.Herb
namespace Go.Proofs.Herb
open Go.RowKit
theorem infoEnts : (Tryz.prog.info? 148).map (fun i => (i.zero, i.size, i.bytes)) = some (some (.slice none 0 0), 1, 24) := by kernel_rfl
theorem push_done (U : Nat → Prop) (m : RM) (r : RS) (l : List Ent) (x v : Value) (w w1 w3 wa w5 : World) (D1 : RefAt w1 U m r) (M1 : RMod U w w1) (hB3 : Below w1.heap.size w1 w3)
    (hx : SlU w3 (upU U w w3) m.fp x l.length (eCells l)) (hB : Below w3.heap.size w3 wa) (hg : wa.grownBy w5 m.pv.ownBlock)
    (hown : w5.ownsRow 0 148 1 v (r.past.length + 1) (m.es ++ [x])) (hat : v.ownBlock = m.pv.ownBlock ∨ v.ownBlock = some wa.heap.size) :
    RefAt (w5.setCell ⟨m.D, 4, none⟩ v) (upU U w (w5.setCell ⟨m.D, 4, none⟩ v)) { m with pv := v, es := m.es ++ [x] } { r with past := r.past ++ [l] } ∧ RMod U w (w5.setCell ⟨m.D, 4, none⟩ v) := by
  have M3 := M1.seq (RMod.of_below U hB3)
  have D3 : RefAt w3 (upU U w w3) m r := (D1.below hB3).upSame
  have hF := setPv_fin (upU U w w3) m r (m.es ++ [x]) (r.past ++ [l]) w3 wa w5 v D3 (by simp [D1.elen]) (push_ents D3 hx) hB hg (by simpa using hown) hat
  refine ⟨hF.1.up (fun k hk => (upU_trans M3.size hF.2.size k).1 hk) (fun k hk => ?_), M3.trans hF.2⟩
  exact hF.1.low k ((upU_trans M3.size hF.2.size k).2 hk)
theorem burnE_or {r : RS} (h : burnE r ≠ 0) : burnE r = 10 := by unfold burnE at h ⊢; split at h <;> simp_all
end Go.Proofs.Herb
namespace Go.Proofs.Herb
open Go.RowKit
theorem setFv_fin (U : Nat → Prop) (m : RM) (r : RS) (bs' : List Value) (files' : List DF) (wc wa w1 : World) (v : Value)
    (D : RefAt wc U m r) (hel : bs'.length = files'.length) (hx : ∀ (i : Nat) u f, bs'[i]? = some u → files'[i]? = some f → SlU wc U m.fp u f.b.length (f.b.map bv)) (hB : Below wc.heap.size wc wa) (hg : wa.grownBy w1 m.fv.ownBlock)
    (hown : w1.ownsRow 0 151 2 v files'.length (dfCells bs' files'))
    (hat : v.ownBlock = m.fv.ownBlock ∨ v.ownBlock = some wa.heap.size) :
    RefAt (w1.setCell ⟨m.D, 3, none⟩ v) (upU U wc (w1.setCell ⟨m.D, 3, none⟩ v)) { m with fv := v, bs := bs' } { r with files := files' } ∧ RMod U wc (w1.setCell ⟨m.D, 3, none⟩ v) := by
  have hfD : ∀ g, m.fv.ownBlock = some g → g ≠ m.D := fun g hg e => by
    have := D.nodup; rw [RM.fp, hg, e] at this; simp at this
  have hpD : ∀ g, m.pv.ownBlock = some g → g ≠ m.D := fun g hg e => by
    have := D.nodup; rw [RM.fp, hg, e] at this; simp at this
  have hfp : ∀ g, m.fv.ownBlock = some g → m.pv.ownBlock ≠ some g := fun g hg e => by
    have := D.nodup; rw [RM.fp, hg, e] at this; simp at this
  have hUD := D.us m.D (by simp [RM.fp])
  have hDl := D.low _ hUD
  have hs1 : wc.heap.size ≤ wa.heap.size := hB.size
  have hs2 : wa.heap.size ≤ w1.heap.size := hg.size
  have hk1 : ∀ k, k < wc.heap.size → m.fv.ownBlock ≠ some k → w1.heap[k]? = wc.heap[k]? := fun k hk hn => (hg.block k (by omega) (fun e => hn e.symm)).trans (hB.block k hk)
  have hk2 : ∀ k, k < wc.heap.size → m.fv.ownBlock ≠ some k → k ≠ m.D → (w1.setCell ⟨m.D, 3, none⟩ v).heap[k]? = wc.heap[k]? := fun k hk hn hd => (heap_setCell_other _ _ _ _ hd).trans (hk1 k hk hn)
  have hz : (w1.setCell ⟨m.D, 3, none⟩ v).heap.size = w1.heap.size := by simp
  have hvD : ∀ g, v.ownBlock = some g → g ≠ m.D := fun g hgo e => by
    rcases hat with h | h
    · exact hfD g (h.symm.trans hgo) e
    · rw [h] at hgo; have := Option.some.inj hgo; omega
  have hpne : m.fv.ownBlock ≠ some m.D := fun e => hfD _ e rfl
  have hUl : ∀ k, U k → upU U wc (w1.setCell ⟨m.D, 3, none⟩ v) k := fun k h => .inl h
  have hf' : ∀ k, U k → k ∈ ({ m with fv := v, bs := bs' } : RM).fp → k ∈ m.fp := by
    intro k hu hk
    have hkl := D.low k hu
    simp only [RM.fp, List.mem_cons, List.mem_append, Option.mem_toList] at hk ⊢
    rcases hk with h | h | h
    · exact .inl h
    · rcases hat with e | e
      · exact .inr (.inl (e ▸ h))
      · exfalso; rw [e] at h; have := Option.some.inj h; omega
    · exact .inr (.inr h)
  have hks : ∀ k, U k → k ∉ m.fp → (w1.setCell ⟨m.D, 3, none⟩ v).heap[k]? = wc.heap[k]? := fun k hu hn =>
    hk2 k (D.low k hu) (fun e => hn (by simp [RM.fp, e])) (fun e => hn (by simp [RM.fp, e]))
  have hpf : ∀ g, m.pv.ownBlock = some g → m.fv.ownBlock ≠ some g := fun g hg e => hfp g e hg
  refine ⟨⟨heap_setCell_same _ _ _ _ _ _ ((hk1 _ hDl hpne).trans D.disk), own_keep hown fun g hgo => heap_setCell_other _ _ _ _ (hvD g hgo), hel, fun i u e h1 h2 => (hx i u e h1 h2).keep hUl hks hf',
    own_keep D.past (fun g hgo => hk2 g (D.low g (D.us g (by simp [RM.fp, hgo]))) (hpf g hgo) (hpD g hgo)), D.elen,
    fun i u f h1 h2 => (D.ents i u f h1 h2).keep hUl hks hf', ?_, ?_, ?_⟩, ?_⟩
  · have hn := D.nodup
    unfold RM.fp at hn ⊢
    dsimp only
    rcases hat with e | e
    · rw [e]; exact hn
    · rw [e]
      have h1 : ∀ k, k ∈ m.D :: m.pv.ownBlock.toList → k ≠ wa.heap.size := fun k hk e2 => by
        have hu : U k := D.us k (by simp only [RM.fp, List.mem_cons, List.mem_append] at hk ⊢; rcases hk with h | h; exact .inl h; exact .inr (.inr h))
        have := D.low k hu; omega
      cases hpv : m.pv.ownBlock with
      | none => simp [hpv] at h1 ⊢; exact h1
      | some g =>
        have := hpD g hpv
        simp [hpv] at h1 ⊢
        exact ⟨⟨h1.1, fun e => this e.symm⟩, fun e => h1.2 e.symm⟩
  · intro k hk
    simp only [RM.fp, List.mem_cons, List.mem_append, Option.mem_toList] at hk
    rcases hk with h | h | h
    · exact .inl (h ▸ hUD)
    · rcases hat with e | e
      · exact .inl (D.us k (by simp [RM.fp, e ▸ h]))
      · rw [e] at h
        have := Option.some.inj h
        refine .inr ⟨by omega, ?_⟩
        rw [hz]
        rcases hown.2 with ⟨e0, _⟩ | ⟨g, cap, cur, hv, _, hgg, _⟩
        · rw [e0] at e; cases e
        · rw [hv] at e; have h3 : g = wa.heap.size := Option.some.inj e
          have := lt_of_block hgg; omega
    · exact .inl (D.us k (by simp [RM.fp, h]))
  · intro k hk
    rcases hk with h | h
    · have := D.low k h; rw [hz]; omega
    · exact h.2
  · exact ⟨hg.os.trans hB.os, hg.tape.trans hB.tape, hg.output.trans hB.output, by rw [hz]; omega, fun k hk hn => hk2 k hk (fun e => hn (D.us k (by simp [RM.fp, e]))) (fun e => hn (e ▸ hUD))⟩
theorem push_bytes {w : World} {U : Nat → Prop} {m : RM} {r : RS} (D : RefAt w U m r) {f : DF} {x : Value} (hx : SlU w U m.fp x f.b.length (f.b.map bv)) :
    ∀ (i : Nat) u e, (m.bs ++ [x])[i]? = some u → (r.files ++ [f])[i]? = some e → SlU w U m.fp u e.b.length (e.b.map bv) := by
  intro i u e h1 h2
  by_cases hi : i < m.bs.length
  · rw [List.getElem?_append_left hi] at h1
    rw [List.getElem?_append_left (by rw [← D.flen]; exact hi)] at h2
    exact D.bytes i u e h1 h2
  · rw [List.getElem?_append_right (by omega)] at h1
    rw [List.getElem?_append_right (by have := D.flen; omega)] at h2
    rw [D.flen] at h1
    have hz : i - r.files.length = 0 := by
      have := (List.getElem?_eq_some_iff.1 h1).1; simp at this; omega
    rw [hz] at h1 h2
    simp at h1 h2
    subst h1 h2
    exact hx
end Go.Proofs.Herb
namespace Go.Proofs.Herb
open Go.RowKit
theorem infoFile : (Tryz.prog.info? 151).map (fun i => (i.zero, i.size, i.bytes)) = some (some (.agg #[.slice none 0 0, .int .i64 0]), 2, 32) := by kernel_rfl
def newF (r : RS) : RS := { burnS r with files := (burnS r).files ++ [⟨[], 0⟩] }
def createRE (r : RS) (k : ByteArray) : Int := if callR r k ≠ 0 then callR r k else if 0 ≤ lookI (nowR r) k then 8 else if 200 ≤ (nowR r).length then 3 else burnE r
def createR (r : RS) (k : ByteArray) : RS := if callR r k ≠ 0 then r else if 0 ≤ lookI (nowR r) k then r else if 200 ≤ (nowR r).length then r else if burnE r ≠ 0 then burnS r else { newF r with past := (newF r).past ++ [withR (nowR r) k r.files.length] }
theorem nowR_newF (r : RS) : nowR (newF r) = nowR r := by unfold nowR newF; rw [burnS_past]
theorem file_done (U : Nat → Prop) (m : RM) (r : RS) (f : DF) (x v : Value) (w w1 wa w5 : World) (D1 : RefAt w1 U m r) (M1 : RMod U w w1)
    (hx : SlU w1 U m.fp x f.b.length (f.b.map bv)) (hB : Below w1.heap.size w1 wa) (hg : wa.grownBy w5 m.fv.ownBlock)
    (hown : w5.ownsRow 0 151 2 v (r.files.length + 1) (dfCells m.bs r.files ++ [x, .int .i64 (f.sure : Int)])) (hat : v.ownBlock = m.fv.ownBlock ∨ v.ownBlock = some wa.heap.size) :
    RefAt (w5.setCell ⟨m.D, 3, none⟩ v) (upU U w (w5.setCell ⟨m.D, 3, none⟩ v)) { m with fv := v, bs := m.bs ++ [x] } { r with files := r.files ++ [f] } ∧ RMod U w (w5.setCell ⟨m.D, 3, none⟩ v) := by
  have hF := setFv_fin U m r (m.bs ++ [x]) (r.files ++ [f]) w1 wa w5 v D1 (by simp [D1.flen]) (push_bytes D1 hx) hB hg (by rw [dfCells_append _ _ _ _ D1.flen]; simpa using hown) hat
  exact ⟨hF.1.upMore M1.size, M1.seq hF.2⟩
set_option maxRecDepth 100000 in
set_option maxHeartbeats 3200000 in
theorem createR_any (U : Nat → Prop) (m : RM) (r : RS) (k : ByteArray) (hk : k.size ≤ maxLen) (w : World) (h : RefAt w U m r) (hp : 0 < r.past.length) (hp2 : r.past.length ≤ 1000000) (hfl : r.files.length ≤ 1000000) (hln : (nowR r).length ≤ 1000000) (h1 : -1 ≤ r.left) (h2 : r.left ≤ 9223372036854775807) :
    Calls Tryz.prog 43 #[.pointer (some ⟨m.D, 0, none⟩), .string k] w fun e w' => ∃ m', e = .returned (.int .i64 (createRE r k)) ∧ RefAt w' (upU U w w') m' (createR r k) ∧ m'.D = m.D ∧ RMod U w w' := by
  have hE : createRE r k = if callR r k ≠ 0 then callR r k else if 0 ≤ lookI (nowR r) k then 8 else if 200 ≤ (nowR r).length then 3 else burnE r := rfl
  have hS : createR r k = if callR r k ≠ 0 then r else if 0 ≤ lookI (nowR r) k then r else if 200 ≤ (nowR r).length then r else if burnE r ≠ 0 then burnS r else { newF r with past := (newF r).past ++ [withR (nowR r) k r.files.length] } := rfl
  have H := hid h
  clear h
  by_cases q1 : callR r k = 0
  · simp only [q1, ne_eq, not_true_eq_false, if_false] at hE hS
    have Q1 := hid q1
    clear q1
    by_cases q2 : 0 ≤ lookI (nowR r) k
    · rw [if_pos q2] at hE hS
      have b2 : decide (0 ≤ lookI (nowR r) k) = true := by simpa using q2
      have hE := hid hE
      have hS := hid hS
      clear q2
      go_enter Tryz.func43, Tryz.ntmps43
      go_wp2_with (first | (go_at_call 98; refine (callR_any U m r k hk w H.out).mono ?_; rintro e w1 ⟨rfl, rfl⟩; rw [Q1.out]) | (go_at_call 100; with_reducible refine (nowR_any U m r w H.out hp).mono ?_; rintro e w2 ⟨v, rfl, _, hs, hB⟩; obtain ⟨q, c, rfl, _, _, _, hrd⟩ := hs.rd; have hrd := hid hrd; have hB := hid hB; have hD2 := hid (H.out.below hB.out); clear hs) | (go_at_call 99; refine (lookR_any q _ c (nowR r) k _ rfl (by omega) hrd.out).mono ?_; rintro e w3 ⟨rfl, rfl⟩))
      go_ret
      exact ⟨m, by rw [hE.out]; rfl, by rw [hS.out]; exact hD2.out.upSame, rfl, RMod.of_below U hB.out⟩
    · rw [if_neg q2] at hE hS
      have b2 : decide (0 ≤ lookI (nowR r) k) = false := by simpa using q2
      clear q2
      by_cases q3 : 200 ≤ (nowR r).length
      · rw [if_pos q3] at hE hS
        have b3 : decide ((200 : Int) ≤ ((nowR r).length : Int)) = true := by simp; omega
        have hE := hid hE
        have hS := hid hS
        clear q3
        go_enter Tryz.func43, Tryz.ntmps43
        go_wp2_with (first | (go_at_call 98; refine (callR_any U m r k hk w H.out).mono ?_; rintro e w1 ⟨rfl, rfl⟩; rw [Q1.out]) | (go_at_call 100; with_reducible refine (nowR_any U m r w H.out hp).mono ?_; rintro e w2 ⟨v, rfl, _, hs, hB⟩; obtain ⟨q, c, rfl, _, _, _, hrd⟩ := hs.rd; have hrd := hid hrd; have hB := hid hB; have hD2 := hid (H.out.below hB.out); clear hs) | (go_at_call 99; refine (lookR_any q _ c (nowR r) k _ rfl (by omega) hrd.out).mono ?_; rintro e w3 ⟨rfl, rfl⟩) | (go_at_call 100; with_reducible refine (nowR_any U m r _ hD2.out hp).mono ?_; rintro e w3 ⟨v, rfl, _, hs, hB3⟩; obtain ⟨q3, c3, rfl, _, _, _, _⟩ := hs.rd; have hB3 := hid hB3; have hD3 := hid (hD2.out.below hB3.out); clear hs))
        go_ret
        exact ⟨m, by rw [hE.out]; rfl, by rw [hS.out]; exact hD3.out.upSame, rfl, (RMod.of_below U hB.out).seq (RMod.of_below U hB3.out)⟩
      · rw [if_neg q3] at hE hS
        have b3 : decide ((200 : Int) ≤ ((nowR r).length : Int)) = false := by simp; omega
        clear q3
        by_cases q4 : burnE r = 0
        · rw [if_neg (fun h => h q4)] at hS
          rw [q4] at hE
          have hE := hid hE
          have hS := hid hS
          have Q3 := hid q4
          have hfne : Hid (some m.D ≠ m.fv.ownBlock) := hid (fun e => by have := H.out.nodup; rw [RM.fp, ← e] at this; simp at this)
          have hfb : (burnS r).files.length ≤ 1000000 := by rw [burnS_files]; exact hfl
          clear q4
          go_enter Tryz.func43, Tryz.ntmps43
          go_upto_region 12 with (first | (go_at_call 98; refine (callR_any U m r k hk w H.out).mono ?_; rintro e w1 ⟨rfl, rfl⟩; rw [Q1.out]) | (go_at_call 100; with_reducible refine (nowR_any U m r w H.out hp).mono ?_; rintro e w2 ⟨v, rfl, _, hs, hB⟩; obtain ⟨q, c, rfl, _, _, _, hrd⟩ := hs.rd; have hrd := hid hrd; have hB := hid hB; have hD2 := hid (H.out.below hB.out); clear hs) | (go_at_call 99; refine (lookR_any q _ c (nowR r) k _ rfl (by omega) hrd.out).mono ?_; rintro e w3 ⟨rfl, rfl⟩) | (go_at_call 100; with_reducible refine (nowR_any U m r _ hD2.out hp).mono ?_; rintro e w3 ⟨v, rfl, _, hs, hB3⟩; obtain ⟨q3, c3, rfl, _, _, _, _⟩ := hs.rd; have hB3 := hid hB3; have hD3 := hid (hD2.out.below hB3.out); clear hs) | (go_at_call 101; refine (burnR_any U m r _ hD3.out h1 h2).mono ?_; rintro e w4 ⟨rfl, hD1, hM1, hz1⟩; rw [Q3.out]; have hD1 := hid hD1; have hM1 := hid hM1; clear hz1; have hbA := (Below.refl w4.heap.size w4).alloc (Nat.le_refl _) (.cells #[.slice none 0 0, .int .i64 0] 151); have DA := hD1.out.below hbA; have dA3 := DA.cells.2.2.2.1; have d43 := hD1.out.cells.2.2.2.1; have DA := hid DA; have hbA := hid hbA) | (refine wpList_append_at rfl (.tmp 30) (.tmp 32) 128 rfl 0 151 _ 2 32 Tryz.underlying128 infoFile rfl (by decide) m.fv (burnS r).files.length (dfCells m.bs (burnS r).files) rfl DA.out.files (some ⟨w4.heap.size, 0, none⟩) 1 1 [.slice none 0 0, .int .i64 0] rfl (fun h => by cases h) rfl (Rd.new _ _ _) (by simp [Value.oneCell']) (by unfold maxLen; omega) (by omega) (by simp) ?_; intro v5 w5 hown5 hg5 hat5; obtain ⟨q5, k5, rfl, _, _, _⟩ := own_shape hown5; have hlo := (hg5.block m.D (lt_of_block DA.out.disk) hfne.out).trans DA.out.disk; have e5 := cell_of_row _ m.D 3 _ _ _ hlo; have f5 := frozen_of_row _ m.D 3 _ _ hlo; have hown5 := hid hown5; have hg5 := hid hg5; have hat5 := hid hat5; clear hlo))
          have M := ((RMod.of_below U hB.out).seq (RMod.of_below U hB3.out)).seq hM1.out
          have HF := file_done U m (burnS r) ⟨[], 0⟩ (.slice none 0 0) (.slice q5 ((burnS r).files.length + 1) k5) w w4 _ w5 hD1.out M ⟨none, 0, rfl, Nat.le_refl _, by unfold maxLen; omega, fun _ => rfl, .inl rfl⟩ hbA.out hg5.out hown5.out hat5.out
          obtain ⟨w6, hw6⟩ : ∃ w6, w6 = w5.setCell ⟨m.D, 3, none⟩ (.slice q5 ((burnS r).files.length + 1) k5) := ⟨_, rfl⟩
          rw [← hw6] at HF ⊢
          obtain ⟨P, hP⟩ : ∃ P, P = (burnS r).files.length + 1 := ⟨_, rfl⟩
          rw [← hP] at HF
          have hPL : P = r.files.length + 1 := by rw [hP, burnS_files]
          have w1 : IntKind.i64.wrap ((P : Int) - 1) = (r.files.length : Int) := by rw [IntKind.wrap_i64]; omega
          have w2 : IntKind.i64.wrap (r.files.length : Int) = (r.files.length : Int) := by rw [IntKind.wrap_i64]; omega
          obtain ⟨V, hV⟩ : ∃ V, V = upU U w w6 := ⟨_, rfl⟩
          rw [← hV] at HF
          have R6 : RefAt w6 V { m with fv := .slice q5 P k5, bs := m.bs ++ [.slice none 0 0] } (newF r) := HF.1
          have M6 := HF.2
          have c4 : w6.cell? ⟨m.D, 4, none⟩ = some m.pv := R6.cells.2.2.2.2
          have c3 : w6.cell? ⟨m.D, 3, none⟩ = some (.slice q5 P k5) := R6.cells.2.2.2.1
          have R6 := hid R6
          have M6 := hid M6
          have hV := hid hV
          clear HF hw6 hP M
          have hpb : Hid (0 < (newF r).past.length) := hid (by show 0 < (burnS r).past.length; rw [burnS_past]; exact hp)
          refine wp_region_split (S := fun w' => w'.cell? ⟨m.D, 4, none⟩ = some m.pv ∧ w'.cell? ⟨m.D, 3, none⟩ = some (.slice q5 P k5)) 17 (by kernel_rfl) (by kernel_rfl) ⟨c4, c3⟩ (fun hHeld => ?_)
          simp only [List.take_succ_cons, List.take_zero, List.drop_succ_cons, List.drop_zero]
          refine take_held (v := ?_) 0 rfl (by kernel_rfl) (by kernel_rfl) (by kernel_rfl) (fun _ _ _ h => h) (Or.inl ⟨by rfl, ?_⟩) (by assumption) ?_
          rotate_left
          · intro wS hSw
            obtain ⟨s0, s1⟩ := hSw
            go_simp
            try with_reducible rfl
          simp only [Act.put, List.setIfInBounds_toArray, List.set_cons_zero, List.set_cons_succ]
          refine take_held (v := ?_) 1 rfl (by kernel_rfl) (by kernel_rfl) (by kernel_rfl) (fun _ _ _ h => h) (Or.inl ⟨by rfl, ?_⟩) (by assumption) ?_
          rotate_left
          · intro wS hSw
            obtain ⟨s0, s1⟩ := hSw
            go_simp
            try with_reducible rfl
          simp only [Act.put, List.setIfInBounds_toArray, List.set_cons_zero, List.set_cons_succ]
          refine take_held (v := ?_) 2 rfl (by kernel_rfl) (by kernel_rfl) (by kernel_rfl) (fun _ _ _ h => h) (Or.inl ⟨by rfl, ?_⟩) (by assumption) ?_
          rotate_left
          · intro wS hSw
            obtain ⟨s0, s1⟩ := hSw
            go_simp
            try with_reducible rfl
          simp only [Act.put, List.setIfInBounds_toArray, List.set_cons_zero, List.set_cons_succ]
          refine take_held (v := ?_) 3 rfl (by kernel_rfl) (by kernel_rfl) (by kernel_rfl) (fun _ _ _ h => h) (Or.inl ⟨by rfl, ?_⟩) (by assumption) ?_
          rotate_left
          · intro wS hSw
            obtain ⟨s0, s1⟩ := hSw
            go_simp
            try with_reducible rfl
          simp only [Act.put, List.setIfInBounds_toArray, List.set_cons_zero, List.set_cons_succ]
          refine take_held (v := ?_) 4 rfl (by kernel_rfl) (by kernel_rfl) (by kernel_rfl) (fun _ _ _ h => h) (Or.inl ⟨by rfl, ?_⟩) (by assumption) ?_
          rotate_left
          · intro wS hSw
            obtain ⟨s0, s1⟩ := hSw
            go_simp
            try with_reducible rfl
          simp only [Act.put, List.setIfInBounds_toArray, List.set_cons_zero, List.set_cons_succ]
          refine take_held (v := ?_) 5 rfl (by kernel_rfl) (by kernel_rfl) (by kernel_rfl) (fun _ _ _ h => h) (Or.inl ⟨by rfl, ?_⟩) (by assumption) ?_
          rotate_left
          · intro wS hSw
            obtain ⟨s0, s1⟩ := hSw
            go_simp
            try with_reducible rfl
          simp only [Act.put, List.setIfInBounds_toArray, List.set_cons_zero, List.set_cons_succ]
          refine take_held (v := ?_) 7 rfl (by kernel_rfl) (by kernel_rfl) (by kernel_rfl) (fun _ _ _ h => h) (Or.inl ⟨by rfl, ?_⟩) (by assumption) ?_
          rotate_left
          · intro wS hSw
            obtain ⟨s0, s1⟩ := hSw
            go_simp
            try with_reducible rfl
          simp only [Act.put, List.setIfInBounds_toArray, List.set_cons_zero, List.set_cons_succ]
          refine take_held (v := ?_) 8 rfl (by kernel_rfl) (by kernel_rfl) (by kernel_rfl) (fun _ _ _ h => h) (Or.inl ⟨by rfl, ?_⟩) (by assumption) ?_
          rotate_left
          · intro wS hSw
            obtain ⟨s0, s1⟩ := hSw
            go_simp
            try with_reducible rfl
          simp only [Act.put, List.setIfInBounds_toArray, List.set_cons_zero, List.set_cons_succ]
          refine take_held (v := ?_) 9 rfl (by kernel_rfl) (by kernel_rfl) (by kernel_rfl) (fun _ _ _ h => h) (Or.inl ⟨by rfl, ?_⟩) (by assumption) ?_
          rotate_left
          · intro wS hSw
            obtain ⟨s0, s1⟩ := hSw
            go_simp
            try with_reducible rfl
          simp only [Act.put, List.setIfInBounds_toArray, List.set_cons_zero, List.set_cons_succ]
          refine take_held (v := ?_) 10 rfl (by kernel_rfl) (by kernel_rfl) (by kernel_rfl) (fun _ _ _ h => h) (Or.inl ⟨by rfl, ?_⟩) (by assumption) ?_
          rotate_left
          · intro wS hSw
            obtain ⟨s0, s1⟩ := hSw
            go_simp
            try with_reducible rfl
          simp only [Act.put, List.setIfInBounds_toArray, List.set_cons_zero, List.set_cons_succ]
          refine take_held (v := ?_) 11 rfl (by kernel_rfl) (by kernel_rfl) (by kernel_rfl) (fun _ _ _ h => h) (Or.inl ⟨by rfl, ?_⟩) (by assumption) ?_
          rotate_left
          · intro wS hSw
            obtain ⟨s0, s1⟩ := hSw
            go_simp
            try with_reducible rfl
          simp only [Act.put, List.setIfInBounds_toArray, List.set_cons_zero, List.set_cons_succ]
          refine take_held (v := ?_) 12 rfl (by kernel_rfl) (by kernel_rfl) (by kernel_rfl) (fun _ _ _ h => h) (Or.inl ⟨by rfl, ?_⟩) (by assumption) ?_
          rotate_left
          · intro wS hSw
            obtain ⟨s0, s1⟩ := hSw
            go_simp
            try with_reducible rfl
          simp only [Act.put, List.setIfInBounds_toArray, List.set_cons_zero, List.set_cons_succ]
          refine take_held (v := ?_) 13 rfl (by kernel_rfl) (by kernel_rfl) (by kernel_rfl) (fun _ _ _ h => h) (Or.inl ⟨by rfl, ?_⟩) (by assumption) ?_
          rotate_left
          · intro wS hSw
            obtain ⟨s0, s1⟩ := hSw
            go_simp
            try with_reducible rfl
          simp only [Act.put, List.setIfInBounds_toArray, List.set_cons_zero, List.set_cons_succ]
          refine wpAnyH_ready (rs := [6]) (by kernel_rfl) (by simp) ?_
          refine cons_held 6 rfl (fun K hK => ?_) AllReadyH.nil
          go_simp
          refine (nowR_any V _ (newF r) w6.drew (R6.out.below (Below.refl _ _).drew) hpb.out).mono ?_
          rintro e w7 ⟨v7, rfl, _, hs7, hB7⟩
          have hB7 : Below w6.heap.size w6 w7 := (Below.refl _ _).drew.trans hB7
          rw [nowR_newF] at hs7
          obtain ⟨q7, k7, rfl, _, _, _, hrd7⟩ := hs7.rd
          have HB7 := hid hB7
          have Hrd7 := hid hrd7
          have D7 := hid (R6.out.below HB7.out)
          have c74 : w7.cell? ⟨m.D, 4, none⟩ = some m.pv := D7.out.cells.2.2.2.2
          have c73 : w7.cell? ⟨m.D, 3, none⟩ = some (.slice q5 P k5) := D7.out.cells.2.2.2.1
          refine hK.out _ _ ⟨c74, c73⟩ (fun hHeld2 => ?_)
          clear hK K hs7 hB7 hrd7
          refine wpAnyH_ready (rs := [14]) (by kernel_rfl) (by simp) ?_
          refine cons_held 14 rfl (fun K hK => ?_) AllReadyH.nil
          go_simp
          refine (withR_any q7 _ k7 (nowR r) k r.files.length w7 rfl (by omega) Hrd7.out).mono ?_
          rintro e w8 ⟨v8, rfl, hown8, hB8⟩
          obtain ⟨q8, k8, rfl, _, _, _⟩ := own_shape hown8
          have HB8 := hid hB8
          have Hown8 := hid hown8
          have D8 := hid (D7.out.below HB8.out)
          have c84 : w8.cell? ⟨m.D, 4, none⟩ = some m.pv := D8.out.cells.2.2.2.2
          have c83 : w8.cell? ⟨m.D, 3, none⟩ = some (.slice q5 P k5) := D8.out.cells.2.2.2.1
          refine hK.out _ _ ⟨c84, c83⟩ (fun hHeld3 => ?_)
          clear hK K hown8 hB8
          refine wpAnyH_ready (rs := [15]) (by kernel_rfl) (by simp) ?_
          refine cons_held 15 rfl (fun K hK => ?_) AllReadyH.nil
          go_simp
          have hbB : Below w8.heap.size w8 (w8.alloc (.cells #[.slice q8 (withR (nowR r) k r.files.length).length k8] 148)) := (Below.refl _ _).alloc (Nat.le_refl _) _
          have DB := hid (D8.out.below hbB)
          have cB4 : (w8.alloc (.cells #[.slice q8 (withR (nowR r) k r.files.length).length k8] 148)).cell? ⟨m.D, 4, none⟩ = some m.pv := DB.out.cells.2.2.2.2
          have cB3 : (w8.alloc (.cells #[.slice q8 (withR (nowR r) k r.files.length).length k8] 148)).cell? ⟨m.D, 3, none⟩ = some (.slice q5 P k5) := DB.out.cells.2.2.2.1
          have HbB := hid hbB
          refine hK.out _ _ ⟨cB4, cB3⟩ (fun hHeld4 => ?_)
          clear hK K hbB
          refine wpAnyH_ready (rs := [16]) (by kernel_rfl) (by simp) ?_
          refine cons_held 16 rfl (fun K hK => ?_) AllReadyH.nil
          have hpl : (newF r).past.length ≤ 1000000 := by show (burnS r).past.length ≤ 1000000; rw [burnS_past]; exact hp2
          refine step_append_at rfl (.tmp 40) (.tmp 51) 127 rfl 0 148 _ 1 24 Tryz.underlying127 infoEnts rfl (by decide) m.pv (newF r).past.length m.es rfl DB.out.past (some ⟨w8.heap.size, 0, none⟩) 1 1 [.slice q8 (withR (nowR r) k r.files.length).length k8] rfl (fun h => by cases h) rfl (Rd.new _ _ _) (by simp [Value.oneCell']) (by unfold maxLen; omega) (by omega) (by simp) ?_
          intro v9 w9 hown9 hg9 hat9
          have hpne : some m.D ≠ m.pv.ownBlock := fun e => by
            have := H.out.nodup; rw [RM.fp, ← e] at this; simp at this
          have hlo := (hg9.block m.D (lt_of_block DB.out.disk) hpne).trans DB.out.disk
          have e94 := cell_of_row _ m.D 4 _ _ _ hlo
          have e93 := cell_of_row _ m.D 3 _ _ _ hlo
          have g94 := frozen_of_row _ m.D 4 _ _ hlo
          have hB68 := HB7.out.trans (HB8.out.mono HB7.out.size)
          have hx8 : SlU w8 (upU V w6 w8) ({ m with fv := .slice q5 P k5, bs := m.bs ++ [.slice none 0 0] } : RM).fp (.slice q8 (withR (nowR r) k r.files.length).length k8) (withR (nowR r) k r.files.length).length (eCells (withR (nowR r) k r.files.length)) :=
            slU_own Hown8.out (fun g h1 h2 => .inr ⟨by have := HB7.out.size; omega, h2⟩) (fun g hg => D7.out.low g (D7.out.us g hg))
          have HG := push_done V _ (newF r) (withR (nowR r) k r.files.length) _ v9 w6 w6 w8 _ w9 R6.out (RMod.refl _ _) hB68 hx8 HbB.out hg9 hown9 hat9
          obtain ⟨q9, k9, rfl, _, _, _⟩ := own_shape hown9
          have HG := hid HG
          refine hK.out _ _ ⟨e94, e93⟩ (fun hHeld5 => ?_)
          clear hK K hown9 hg9 hat9 hlo hx8
          simp only [Act.put, List.setIfInBounds_toArray, List.set_cons_zero, List.set_cons_succ]
          refine wpAnyH_done (by kernel_rfl) ?_ _
          rw [headQ_normal]
          go_wp2
          go_ret
          have hV := hV.out
          subst hV
          refine ⟨rfl, { m with fv := .slice q5 P k5, bs := m.bs ++ [.slice none 0 0], pv := .slice q9 ((newF r).past.length + 1) k9, es := m.es ++ [.slice q8 (withR (nowR r) k r.files.length).length k8] }, ?_, rfl, M6.out.trans HG.out.2⟩
          refine HG.out.1.up (fun j hj => (upU_trans M6.out.size HG.out.2.size j).1 hj) (fun j hj => ?_)
          exact HG.out.1.low j ((upU_trans M6.out.size HG.out.2.size j).2 hj)
        · rw [if_pos q4] at hS
          rw [burnE_or q4] at hE
          have hE := hid hE
          have hS := hid hS
          have Q3 := hid (burnE_or q4)
          clear q4
          go_enter Tryz.func43, Tryz.ntmps43
          go_wp2_with (first | (go_at_call 98; refine (callR_any U m r k hk w H.out).mono ?_; rintro e w1 ⟨rfl, rfl⟩; rw [Q1.out]) | (go_at_call 100; with_reducible refine (nowR_any U m r w H.out hp).mono ?_; rintro e w2 ⟨v, rfl, _, hs, hB⟩; obtain ⟨q, c, rfl, _, _, _, hrd⟩ := hs.rd; have hrd := hid hrd; have hB := hid hB; have hD2 := hid (H.out.below hB.out); clear hs) | (go_at_call 99; refine (lookR_any q _ c (nowR r) k _ rfl (by omega) hrd.out).mono ?_; rintro e w3 ⟨rfl, rfl⟩) | (go_at_call 100; with_reducible refine (nowR_any U m r _ hD2.out hp).mono ?_; rintro e w3 ⟨v, rfl, _, hs, hB3⟩; obtain ⟨q3, c3, rfl, _, _, _, _⟩ := hs.rd; have hB3 := hid hB3; have hD3 := hid (hD2.out.below hB3.out); clear hs) | (go_at_call 101; refine (burnR_any U m r _ hD3.out h1 h2).mono ?_; rintro e w4 ⟨rfl, hD1, hM1, hz1⟩; rw [Q3.out]; have hD1 := hid hD1; have hM1 := hid hM1; clear hz1))
          go_ret
          exact ⟨m, by rw [hE.out]; rfl, by rw [hS.out]; exact hD1.out.upSame, rfl, ((RMod.of_below U hB.out).seq (RMod.of_below U hB3.out)).seq hM1.out⟩
  · rw [if_pos q1] at hE hS
    have b1 : (callR r k != 0) = true := by simpa using q1
    have hE := hid hE
    have hS := hid hS
    clear q1
    go_enter Tryz.func43, Tryz.ntmps43
    go_wp2_with (go_at_call 98; refine (callR_any U m r k hk w H.out).mono ?_; rintro e w1 ⟨rfl, rfl⟩)
    go_ret
    exact ⟨m, by rw [hE.out]; rfl, by rw [hS.out]; exact H.out.upSame, rfl, RMod.refl _ _⟩
end Go.Proofs.Herb
namespace Go.Proofs.Herb
open Go.RowKit Go.Sort
def lenF (fs : List DF) (i : Nat) : Nat := (fs[i]?.map (·.b.length)).getD 0
def usedD (fs : List DF) (d : Dir) : Nat := (d.map fun e => lenF fs e.2.1).sum
theorem usedN_eq (s : DS) : usedN s = usedD s.files s.names := rfl
/-! each call's bytes -/
end Go.Proofs.Herb
