/- The contract of the disk's Sync. For a disk as DiskAt says. The contracts of within, and of slices.Clip at strings. The contract of the disk's List: the shelf's contracts on slices.Sorted(maps.Keys(m)), laid here in plain words, and the walk. For a disk as DiskAt says. The contract of the disk's List. For a disk as DiskAt says. The contract of the disk's Crash. For a disk as DiskAt says. -/
import Derived.StillTailTactics
import Derived.Shelf.SlIter.Nil
import Derived.Shelf.SortM.Plain
import Derived.Shelf.SortM.SortNone
import Derived.Ground.GgzProg
import Derived.Ground.SlgmProg
import Derived.Sort.KeysCollected
import Derived.Deep.RegionHeld3
import Derived.Shelf.SlMaps.Clone
import Derived.Test.YtbeaehhdglhihaaGreatDoorQd09
import Derived.Test.YtbeaehhdglhihaaGreatDoorQd28
namespace Go.Proofs.Herb
open Go.RowKit
theorem fCells_sure : ∀ (bs : List Value) (fs : List DF) (i : Nat) (f : DF), bs.length = fs.length → dfCells bs (fs.set i f) = (dfCells bs fs).set (i * 2 + 1) (.int .i64 (f.sure : Int))
  | [], [], _, _, _ => by simp [dfCells]
  | b :: bs, g :: fs, 0, f, _ => by simp [dfCells]
  | b :: bs, g :: fs, i + 1, f, hl => by
    have := fCells_sure bs fs i f (by simpa using hl)
    have e : (i + 1) * 2 + 1 = (i * 2 + 1) + 1 + 1 := by omega
    rw [e]
    simp only [List.set_cons_succ, dfCells, this]
  | [], _ :: _, _, _, h => by cases h
  | _ :: _, [], _, _, h => by cases h
theorem DiskAt.fv_own {w : World} {m : DM} {s : DS} (h : DiskAt w m s) {g : Nat} (hg : m.fv.ownBlock = some g) :
    g ≠ m.D ∧ g ≠ m.M ∧ g ≠ m.S ∧ (∀ g', m.cv.ownBlock = some g' → g' ≠ g) ∧ (∀ (i : Nat) v g', m.bs[i]? = some v → v.ownBlock = some g' → g' ≠ g) := by
  obtain ⟨n1, n2, n3, hf, hc, hb⟩ := h.notD
  obtain ⟨a1, a2, a3⟩ := hf g hg
  have hnd := h.nodup
  rw [DM.fp_eq] at hnd
  simp only [List.nodup_append, List.mem_append, ne_eq] at hnd
  refine ⟨a1, a2, a3, fun g' hg' e => ?_, fun i v g' hv hg' e => ?_⟩
  · subst e; exact hnd.2.1.2.2 g' (by simp [hg]) g' (.inl (by simp [hg'])) rfl
  · subst e; exact hnd.2.1.2.2 g' (by simp [hg]) g' (.inr (List.mem_filterMap.2 ⟨v, List.mem_of_getElem? hv, hg'⟩)) rfl
theorem DiskAt.setSure {w : World} {m : DM} {s : DS} (h : DiskAt w m s) {i : Nat} (hi : i < s.files.length) {g c : Nat} (n : Nat)
    (hfv : m.fv = .slice (some ⟨g, 0, none⟩) s.files.length c) :
    DiskAt (w.setCell ⟨g, i * 2 + 1, none⟩ (.int .i64 (n : Int))) m { s with files := s.files.set i ⟨(s.files[i]).b, n⟩ } := by
  have hgo : m.fv.ownBlock = some g := by rw [hfv]; rfl
  obtain ⟨a1, a2, a3, hc, hb⟩ := h.fv_own hgo
  have hk : ∀ k, k ≠ g → (w.setCell ⟨g, i * 2 + 1, none⟩ (.int .i64 (n : Int))).heap[k]? = w.heap[k]? := fun k hk => heap_setCell_other _ _ _ _ hk
  refine ⟨(hk _ (Ne.symm a1)).trans h.disk, (hk _ (Ne.symm a2)).trans h.names, (hk _ (Ne.symm a3)).trans h.sured, ?_, by simp [h.len], ?_, own_keep h.changes (fun g' hg' => hk g' (hc g' hg')), h.nodup⟩
  · dsimp only
    rw [List.length_set, fCells_sure m.bs s.files i _ h.len, hfv]
    refine own_setCell ?_ _ _
    rw [← hfv]
    exact h.files
  · intro j u f hu hff
    dsimp only at hff
    have hbx := h.bytes j u
    by_cases hj : i = j
    · subst hj
      rw [List.getElem?_set_self hi] at hff
      cases hff
      exact own_keep (hbx s.files[i] hu (List.getElem?_eq_getElem hi)) (fun g' hg' => hk g' (hb i u g' hu hg'))
    · rw [List.getElem?_set_ne hj] at hff
      exact own_keep (hbx f hu hff) (fun g' hg' => hk g' (hb j u g' hu hg'))
theorem Mod.at_ {w : World} {m : DM} {g : Nat} (hg : g ∈ m.fp) (j : Nat) (v : Value) : Mod m.fp m.fp w (w.setCell ⟨g, j, none⟩ v) :=
  ⟨rfl, rfl, rfl, by simp, fun k _ hn => heap_setCell_other _ _ _ _ (fun e => hn (by rw [e]; exact hg)), fun _ h => .inl h⟩
def syncE (s : DS) (k : ByteArray) : Int := if knownE s k ≠ 0 then knownE s k else letsE s
def syncS (s : DS) (k : ByteArray) : DS :=
  if knownE s k ≠ 0 then s else if letsE s ≠ 0 then letsS s else { letsS s with files := s.files.modify ((look s.names k).getD 0) fun f => ⟨f.b, f.b.length⟩ }
set_option maxRecDepth 100000 in
set_option maxHeartbeats 1600000 in
theorem sync_any (m : DM) (s : DS) (k : ByteArray) (hk : k.size ≤ maxLen) (w : World) (h : DiskAt w m s) (hd : DirOk s.names s.nclock s.files.length) (h1 : -1 ≤ s.fuse) (h2 : s.fuse ≤ 9223372036854775807) :
    Calls Tryz.prog 37 #[.pointer (some ⟨m.D, 0, none⟩), .string k] w fun e w' => e = .returned (.int .i64 (syncE s k)) ∧ DiskAt w' m (syncS s k) ∧ Mod m.fp m.fp w w' := by
  have hE : syncE s k = if knownE s k ≠ 0 then knownE s k else letsE s := rfl
  have hS : syncS s k = if knownE s k ≠ 0 then s else if letsE s ≠ 0 then letsS s else { letsS s with files := s.files.modify ((look s.names k).getD 0) fun f => ⟨f.b, f.b.length⟩ } := rfl
  by_cases q : knownE s k = 0
  · obtain ⟨i, hi, hkn, hil⟩ := known_ok q hd
    simp only [q, ne_eq, not_true_eq_false, if_false] at hE hS
    have Q := hid q
    have Hkn := hid hkn
    have H := hid h
    clear q hkn h hd
    by_cases q3 : letsE s = 0
    · rw [q3, if_neg (fun h => h rfl), hi, Option.getD_some] at hS
      rw [q3] at hE
      have hE := hid hE
      have hS := hid hS
      have Q3 := hid q3
      clear q3 hi
      go_enter Tryz.func37, Tryz.ntmps37
      go_upto_region 7 with (first
        | (go_at_call 84; refine (known_any m s k hk _ H.out).mono ?_; rintro e w' ⟨rfl, rfl⟩; rw [Q.out, Hkn.out]; dsimp only)
        | (go_at_call 58; refine (lets_any m s _ H.out h1 h2).mono ?_; rintro e w1 ⟨rfl, hD1, hM1⟩; rw [Q3.out]; have hD1 := hid hD1; have hM1 := hid hM1; dsimp only))
      obtain ⟨l1, _⟩ := lets_files s
      have hil1 : i < (letsS s).files.length := by rw [l1]; exact hil
      have hfl : (letsS s).files.length = s.files.length := by rw [l1]
      have i1 : (i : Int) < (s.files.length : Int) := by omega
      have i0 : (0 : Int) ≤ (i : Int) := by omega
      refine wp_region_still_tail 14 (by kernel_rfl) (by kernel_rfl) ?_
      simp only [List.take_succ_cons, List.take_zero, List.drop_succ_cons, List.drop_zero]
      change wpStill Tryz.prog _ w1.drew (fun a' => wpList _ _ _ _ a' w1.drew) _ _
      obtain ⟨w6, hw6, hB6⟩ : ∃ w6, w1.drew = w6 ∧ Below w1.heap.size w1 w6 := ⟨_, rfl, (Below.refl _ _).drew⟩
      rw [hw6]
      have hD6 := hD1.out.below hB6
      have HM6 := hid (hM1.out.trans (Mod.of_below m.fp hB6))
      clear hw6 hB6
      obtain ⟨g, cf, q0, k0, hfv, hc1, hbi, hk1, hk2, hqn, hce, hsu, _, hfr, hgl⟩ := hD6.file hil1
      have d3 := hD6.cells.2.2.2.1
      rw [hfv] at d3
      simp only [l1] at d3 hc1 hk1 hce hbi hsu
      have f3 := hfr (i * 2 + 1)
      have HD6 := hid hD6
      have HFv := hid hfv
      obtain ⟨nb, hnb⟩ : ∃ nb, nb = (s.files[i]).b.length := ⟨_, rfl⟩
      rw [← hnb] at hk1 hce
      have HNb := hid hnb
      clear hbi hfv hD6 hnb hfr
      still_step
      still_step
      still_step
      still_step
      still_step
      still_step
      still_step
      still_step
      still_step
      still_step
      still_step
      still_step
      still_step
      still_step
      refine wpStill_nil ?_
      go_wp2
      go_ret
      have hF := HD6.out.setSure hil1 nb HFv.out
      refine ⟨by rw [hE.out]; rfl, ?_, HM6.out.trans (Mod.at_ (mem_fp_f (by rw [HFv.out]; rfl)) _ _)⟩
      rw [hS.out, modify_set hil]
      simp only [l1] at hF
      rw [HNb.out] at hF ⊢
      exact hF
    · have q4 : letsE s = 10 := by unfold letsE at q3 ⊢; split at q3 <;> simp_all
      rw [if_pos q3] at hS
      rw [q4] at hE
      have Q3 := hid q4
      have hE := hid hE
      have hS := hid hS
      clear q3 q4
      go_enter Tryz.func37, Tryz.ntmps37
      go_wp2_with (first
        | (go_at_call 84; refine (known_any m s k hk _ H.out).mono ?_; rintro e w' ⟨rfl, rfl⟩; rw [Q.out, Hkn.out])
        | (go_at_call 58; refine (lets_any m s _ H.out h1 h2).mono ?_; rintro e w1 ⟨rfl, hD1, hM1⟩; rw [Q3.out]; have hD1 := hid hD1; have hM1 := hid hM1))
      go_ret
      exact ⟨by rw [hE.out]; rfl, by rw [hS.out]; exact hD1.out, hM1.out⟩
  · rw [if_pos q] at hE
    rw [if_pos q] at hS
    have b1 : (knownE s k != 0) = true := by simpa using q
    have hE := hid hE
    have hS := hid hS
    have H := hid h
    clear h q
    go_enter Tryz.func37, Tryz.ntmps37
    go_wp2_with (go_at_call 84; refine (known_any m s k hk w H.out).mono ?_; rintro e w' ⟨rfl, rfl⟩)
    go_ret
    exact ⟨by rw [hE.out]; rfl, by rw [hS.out]; exact H.out, Mod.refl _ _⟩
end Go.Proofs.Herb
namespace Go.Proofs.Herb
open Go.RowKit
def withinI (n most : Int) : Int := min (max n 0) most
set_option maxHeartbeats 400000 in
theorem clip_strings (a : Option Addr) (n c : Nat) (w : World) (hn : n ≤ c) (_hc : c ≤ maxLen) :
    Calls Tryz.prog 67 #[.slice a n c] w fun e w' => e = .returned (.slice a n n) ∧ w = w' := by
  unfold maxLen at _hc
  go_enter Tryz.func67, Tryz.ntmps67
  go_wp2
  go_ret
  exact ⟨rfl, rfl⟩
end Go.Proofs.Herb
namespace Go.Proofs.Herb
open Go.RowKit Go.Maps Go.Sort Go.Shelf
def keysLay_ren : Go.Shelf.Ren := ⟨fun | 7 => 69 | 10 => 116 | n => n, fun | 23 => 98 | 26 => 9 | 3 => 3 | 28 => 118 | 0 => 0 | 27 => 117 | 33 => 155 | 4 => 4 | n => n, fun | n => n⟩
theorem keysLay : Go.Proofs.SlLaysZ.n7 Tryz.prog keysLay_ren := {
  mixed := by kernel_rfl
  f7 := ⟨Tryz.f69.name, by decide, Tryz.func69.trans (congrArg some (by kernel_rfl))⟩
  f10 := ⟨Tryz.f116.name, by decide, Tryz.func116.trans (congrArg some (by kernel_rfl))⟩
  t0 := Tryz.underlying0
  a0 := Tryz.isAgg0
  z0 := Tryz.sizeOf0
  v0 := Tryz.zeroValue0
  t4 := Tryz.underlying4
  a4 := Tryz.isAgg4
  z4 := Tryz.sizeOf4
  v4 := Tryz.zeroValue4
  t23 := Tryz.underlying98
  a23 := Tryz.isAgg98
  z23 := Tryz.sizeOf98
  v23 := Tryz.zeroValue98
  t26 := Tryz.underlying9
  a26 := Tryz.isAgg9
  z26 := Tryz.sizeOf9
  v26 := Tryz.zeroValue9
  t27 := Tryz.underlying117
  a27 := Tryz.isAgg117
  z27 := Tryz.sizeOf117
  v27 := Tryz.zeroValue117
  t28 := Tryz.underlying118
  a28 := Tryz.isAgg118
  z28 := Tryz.sizeOf118
  v28 := Tryz.zeroValue118
  t33 := Tryz.underlying155
  a33 := Tryz.isAgg155
  z33 := Tryz.sizeOf155
  v33 := Tryz.zeroValue155 }
def sortedLay_ren : Go.Shelf.Ren := ⟨fun | 6 => 68 | 8 => 114 | 9 => 115 | 11 => 152 | 13 => 154 | 12 => 153 | 23 => 195 | 24 => 196 | 14 => 186 | 15 => 187 | 16 => 188 | 17 => 189 | 18 => 190 | 19 => 191 | 20 => 192 | 21 => 193 | 22 => 194 | 25 => 215 | 26 => 216 | 27 => 217 | 28 => 218 | 29 => 219 | 30 => 157 | 31 => 227 | n => n, fun | 26 => 9 | 28 => 118 | 24 => 55 | 0 => 0 | 3 => 3 | 37 => 202 | 48 => 52 | 50 => 22 | 4 => 4 | 40 => 239 | 39 => 238 | 45 => 166 | 5 => 5 | 9 => 9 | 51 => 270 | 55 => 274 | 57 => 280 | 58 => 281 | 33 => 155 | n => n, fun | n => n⟩
theorem sortedLay : Go.Proofs.SlLaysZ.n6 Tryz.prog sortedLay_ren := {
  mixed := by kernel_rfl
  f6 := ⟨Tryz.f68.name, by decide, Tryz.func68.trans (congrArg some (by kernel_rfl))⟩
  f8 := ⟨Tryz.f114.name, by decide, Tryz.func114.trans (congrArg some (by kernel_rfl))⟩
  f11 := ⟨Tryz.f152.name, by decide, Tryz.func152.trans (congrArg some (by kernel_rfl))⟩
  t0 := Tryz.underlying0
  a0 := Tryz.isAgg0
  z0 := Tryz.sizeOf0
  v0 := Tryz.zeroValue0
  t24 := Tryz.underlying55
  a24 := Tryz.isAgg55
  z24 := Tryz.sizeOf55
  v24 := Tryz.zeroValue55
  t26 := Tryz.underlying9
  a26 := Tryz.isAgg9
  z26 := Tryz.sizeOf9
  v26 := Tryz.zeroValue9
  t28 := Tryz.underlying118
  a28 := Tryz.isAgg118
  z28 := Tryz.sizeOf118
  v28 := Tryz.zeroValue118
  i26 := by kernel_rfl }
def sortLay_ren : Go.Shelf.Ren := ⟨fun | 6 => 115 | 8 => 154 | 9 => 153 | 19 => 195 | 20 => 196 | 21 => 186 | 22 => 187 | 23 => 188 | 24 => 189 | 25 => 190 | 26 => 191 | 27 => 192 | 28 => 193 | 29 => 194 | 36 => 215 | 31 => 216 | 32 => 217 | 37 => 218 | 38 => 219 | 39 => 157 | 41 => 227 | n => n, fun | 27 => 55 | 29 => 9 | 3 => 3 | 32 => 202 | 26 => 55 | 0 => 0 | 44 => 52 | 46 => 22 | 4 => 4 | 36 => 239 | 35 => 238 | 41 => 166 | 5 => 5 | 9 => 9 | 53 => 270 | 57 => 274 | 63 => 280 | 64 => 281 | n => n, fun | n => n⟩
theorem sortLay : Go.Proofs.SlLaysM.n6 Tryz.prog sortLay_ren := {
  mixed := by kernel_rfl
  f6 := ⟨Tryz.f115.name, by decide, Tryz.func115.trans (congrArg some (by kernel_rfl))⟩
  f8 := Tryz.func154.trans (congrArg some (by kernel_rfl))
  f9 := ⟨Tryz.f153.name, by decide, Tryz.func153.trans (congrArg some (by kernel_rfl))⟩
  f19 := Tryz.func195.trans (congrArg some (by kernel_rfl))
  f20 := Tryz.func196.trans (congrArg some (by kernel_rfl))
  f21 := ⟨Tryz.f186.name, by decide, Tryz.func186.trans (congrArg some (by kernel_rfl))⟩
  f22 := ⟨Tryz.f187.name, by decide, Tryz.func187.trans (congrArg some (by kernel_rfl))⟩
  f23 := ⟨Tryz.f188.name, by decide, Tryz.func188.trans (congrArg some (by kernel_rfl))⟩
  f24 := ⟨Tryz.f189.name, by decide, Tryz.func189.trans (congrArg some (by kernel_rfl))⟩
  f25 := ⟨Tryz.f190.name, by decide, Tryz.func190.trans (congrArg some (by kernel_rfl))⟩
  f26 := ⟨Tryz.f191.name, by decide, Tryz.func191.trans (congrArg some (by kernel_rfl))⟩
  f27 := ⟨Tryz.f192.name, by decide, Tryz.func192.trans (congrArg some (by kernel_rfl))⟩
  f28 := ⟨Tryz.f193.name, by decide, Tryz.func193.trans (congrArg some (by kernel_rfl))⟩
  f29 := ⟨Tryz.f194.name, by decide, Tryz.func194.trans (congrArg some (by kernel_rfl))⟩
  f31 := Tryz.func216.trans (congrArg some (by kernel_rfl))
  f32 := Tryz.func217.trans (congrArg some (by kernel_rfl))
  f36 := ⟨Tryz.f215.name, by decide, Tryz.func215.trans (congrArg some (by kernel_rfl))⟩
  f37 := ⟨Tryz.f218.name, by decide, Tryz.func218.trans (congrArg some (by kernel_rfl))⟩
  f38 := ⟨Tryz.f219.name, by decide, Tryz.func219.trans (congrArg some (by kernel_rfl))⟩
  f39 := ⟨Tryz.f157.name, by decide, Tryz.func157.trans (congrArg some (by kernel_rfl))⟩
  f41 := ⟨Tryz.f227.name, by decide, Tryz.func227.trans (congrArg some (by kernel_rfl))⟩
  t0 := Tryz.underlying0
  a0 := Tryz.isAgg0
  z0 := Tryz.sizeOf0
  v0 := Tryz.zeroValue0
  t3 := Tryz.underlying3
  a3 := Tryz.isAgg3
  z3 := Tryz.sizeOf3
  v3 := Tryz.zeroValue3
  t4 := Tryz.underlying4
  a4 := Tryz.isAgg4
  z4 := Tryz.sizeOf4
  v4 := Tryz.zeroValue4
  t5 := Tryz.underlying5
  a5 := Tryz.isAgg5
  z5 := Tryz.sizeOf5
  v5 := Tryz.zeroValue5
  t9 := Tryz.underlying9
  a9 := Tryz.isAgg9
  z9 := Tryz.sizeOf9
  v9 := Tryz.zeroValue9
  t26 := Tryz.underlying55
  a26 := Tryz.isAgg55
  z26 := Tryz.sizeOf55
  v26 := Tryz.zeroValue55
  t27 := Tryz.underlying55
  a27 := Tryz.isAgg55
  z27 := Tryz.sizeOf55
  v27 := Tryz.zeroValue55
  t29 := Tryz.underlying9
  a29 := Tryz.isAgg9
  z29 := Tryz.sizeOf9
  v29 := Tryz.zeroValue9
  t32 := Tryz.underlying202
  a32 := Tryz.isAgg202
  z32 := Tryz.sizeOf202
  v32 := Tryz.zeroValue202
  t35 := Tryz.underlying238
  a35 := Tryz.isAgg238
  z35 := Tryz.sizeOf238
  v35 := Tryz.zeroValue238
  t36 := Tryz.underlying239
  a36 := Tryz.isAgg239
  z36 := Tryz.sizeOf239
  v36 := Tryz.zeroValue239
  t41 := Tryz.underlying166
  a41 := Tryz.isAgg166
  z41 := Tryz.sizeOf166
  v41 := Tryz.zeroValue166
  t44 := Tryz.underlying52
  a44 := Tryz.isAgg52
  z44 := Tryz.sizeOf52
  v44 := Tryz.zeroValue52
  t46 := Tryz.underlying22
  a46 := Tryz.isAgg22
  z46 := Tryz.sizeOf22
  v46 := Tryz.zeroValue22
  t53 := Tryz.underlying270
  a53 := Tryz.isAgg270
  z53 := Tryz.sizeOf270
  v53 := Tryz.zeroValue270
  t57 := Tryz.underlying274
  a57 := Tryz.isAgg274
  z57 := Tryz.sizeOf274
  v57 := Tryz.zeroValue274
  t63 := Tryz.underlying280
  a63 := Tryz.isAgg280
  z63 := Tryz.sizeOf280
  v63 := Tryz.zeroValue280
  t64 := Tryz.underlying281
  a64 := Tryz.isAgg281
  z64 := Tryz.sizeOf281
  v64 := Tryz.zeroValue281 }

theorem sortsIn (m : Nat) : AnyZ.SortsIn Tryz.prog sortedLay_ren Fence.wide m :=
  ⟨fun blk off cap ss W hH hblk hsz => callsIn_wide.2 (AnyM.slices_Sort_string sortLay blk off cap ss W hH hblk hsz),
   fun p cap W => callsIn_wide.2 (AnyM.slices_Sort_string_none sortLay p cap W)⟩
theorem keys_any (mb : Option Nat) (w : World) : Calls Tryz.prog 69 #[.map mb] w fun e w' => e = .returned (.func (.func 116) #[] #[.pointer (some ⟨w.heap.size, 0, none⟩)]) ∧ w' = w.alloc (.cells #[.map mb] 98) :=
  callsIn_wide.1 (AnyZ.keys_in keysLay Fence.wide 5 trivial rfl mb w)
set_option maxHeartbeats 1000000 in
theorem sorted_any (b nn : Nat) (D0 : DataW Unit) (R : Value → Option (DataW Unit × List MemPlace)) (w : World) (hown : w.ownsMap Tryz.prog 9 R b nn D0) (hmax : Maps.size D0 ≤ maxLen) (hbytes : Maps.size D0 * 16 ≤ 140737488355328) :
    Calls Tryz.prog 68 #[.func (.func 116) #[] #[.pointer (some ⟨w.heap.size, 0, none⟩)]] (w.alloc (.cells #[.map (some b)] 98)) fun e w' => ∃ (v : Value) (ss : List (List UInt8)), e = .returned v ∧ ss.Perm (strKeys D0) ∧
      w'.ownsRow (w.alloc (.cells #[.map (some b)] 98)).heap.size 9 1 v ss.length ((ss.mergeSort (fun x y => decide (x ≤ y))).map encStr) ∧ (v = .slice none 0 0 ↔ ss = []) ∧ Below (w.alloc (.cells #[.map (some b)] 98)).heap.size (w.alloc (.cells #[.map (some b)] 98)) w' := by
  have hbl := hown.lt
  have hseq : SeqGives Fence.wide 2 Tryz.prog 116 #[.pointer (some ⟨w.heap.size, 0, none⟩)] encStr (fun ss => ss.Perm (strKeys D0)) (Maps.size D0) (w.alloc (.cells #[.map (some b)] 98)) :=
    AnyZ.keys_gives (ρ := keysLay_ren) { keysLay with } Fence.wide _ trivial rfl (by omega) w.heap.size b nn D0 _ (by simp) (by simp) (by
      obtain ⟨es, clock, hb, Ft, hs, hD⟩ := hown
      exact ⟨es, clock, (Below.heap_alloc _ _ b hbl).trans hb, Ft, hs, hD⟩)
  exact callsIn_wide.1 (AnyZ.sorted_in sortedLay Fence.wide 5 trivial trivial trivial trivial rfl (by omega) (sortsIn _) (enters_of Tryz.func115 (by kernel_rfl) rfl) 116 #[.pointer (some ⟨w.heap.size, 0, none⟩)] trivial (enters_of Tryz.func116 (by kernel_rfl) rfl) _ _ hmax hbytes _ hseq)
end Go.Proofs.Herb
namespace Go.Proofs.Herb
open Go.RowKit Go.Sort
def keyL (k : ByteArray) : List UInt8 := k.data.toList
def ofL (l : List UInt8) : ByteArray := ⟨l.toArray⟩
theorem ofL_keyL (k : ByteArray) : ofL (keyL k) = k := rfl
def sortedK (d : Dir) : List (List UInt8) := (d.map fun e => keyL e.1).mergeSort leB
structure DirKeys (d : Dir) (c : Nat) : Prop where
  born : ∀ e ∈ d, e.2.2 < c
  once : (d.map (·.2.2)).Nodup
  keys : (d.map (·.1)).Nodup
  size : ∀ e ∈ d, e.1.size ≤ 24
  file : ∀ e ∈ d, e.2.1 ≤ 9223372036854775807
  many : d.length ≤ 1000000000
theorem enc_fit {d : Dir} {c : Nat} (h : DirKeys d c) : Go.WideElems.Fit Tryz.prog 9 (plainElem (H := Unit) Tryz.prog 3) (encDir d) c ∧ (((encDir d).toList.map (Go.WideElems.rg Tryz.prog 9 (plainElem (H := Unit) Tryz.prog 3))).map fun p => strOf p.1) = d.map fun e => keyL e.1 := by
  have hrd : ∀ e ∈ d, Go.WideElems.rd Tryz.prog 9 (plainElem (H := Unit) Tryz.prog 3) (encE e) = some (.string (keyL e.1), .lit (.int .i64 (e.2.1 : Int))) := by
    intro e he
    unfold Go.WideElems.rd encE
    dsimp only
    rw [Go.WideMaps.keyOf_string_mk Tryz.underlying9 (by have := h.size e he; unfold maxLen; omega), plainElem_int Tryz.underlying3 (by have := h.file e he; simp only [Lit.wf, show IntKind.i64.min = -9223372036854775808 from rfl, show IntKind.i64.max = 9223372036854775807 from rfl, Bool.and_eq_true, decide_eq_true_eq]; omega)]
    rfl
  refine ⟨⟨?_, ⟨?_, ?_, ?_⟩, ?_⟩, ?_⟩
  · rw [len_enc]; have := h.many; unfold maxLen; omega
  · intro x hx
    obtain ⟨e, he, rfl⟩ := enc_mem hx
    exact h.born e he
  · rw [enc_born]; exact h.once
  · have e1 : (encDir d).toList.map (·.key) = (d.map (·.1)).map Value.string := by simp [encDir, encE, Function.comp_def]
    rw [e1]
    exact List.Pairwise.map _ (fun a b hab e => hab (by cases e; rfl)) h.keys
  · intro x hx
    obtain ⟨e, he, rfl⟩ := enc_mem hx
    exact ⟨_, hrd e he⟩
  · have e1 : (encDir d).toList = d.map encE := by simp [encDir]
    rw [e1, List.map_map, List.map_map]
    refine List.map_congr_left fun e he => ?_
    simp only [Function.comp_apply]
    unfold Go.WideElems.rg
    rw [hrd e he]
    rfl
theorem enc_owns {w : World} {M : Nat} {d : Dir} {c : Nat} (hb : w.heap[M]? = some (.map (encDir d) c)) (h : DirKeys d c) : ∃ D : DataW Unit, w.ownsMap Tryz.prog 9 (plainElem (H := Unit) Tryz.prog 3) M d.length D ∧ (strKeys D).Perm (d.map fun e => keyL e.1) ∧ Maps.size D = d.length := by
  obtain ⟨F, hk⟩ := enc_fit h
  refine ⟨_, ⟨encDir d, c, hb, F, by rw [len_enc]; exact Nat.le_refl _, rfl⟩, ?_, ?_⟩
  · show List.Perm (List.map _ _) _
    rw [← hk]
    exact (Go.WideShapes.sorted_perm _).map _
  · show List.length _ = _
    rw [length_sorted]; simp [len_enc]
set_option maxRecDepth 100000 in
set_option maxHeartbeats 1600000 in
theorem list_any (m : DM) (s : DS) (w : World) (h : DiskAt w m s) (hd : DirKeys s.names s.nclock) :
    Calls Tryz.prog 21 #[.pointer (some ⟨m.D, 0, none⟩)] w fun e w' => ∃ q, e = .returned (.slice q (sortedK s.names).length (sortedK s.names).length) ∧ Fr w' w.heap.size 9 1 (.slice q (sortedK s.names).length (sortedK s.names).length) (sortedK s.names).length ((sortedK s.names).map encStr) ∧ Below w.heap.size w w' := by
  obtain ⟨D, hown, hperm, hsz⟩ := enc_owns h.names hd
  obtain ⟨_, _, _, _, c4, _, _⟩ := h.cells
  have hmany := hd.many
  have H := hid h
  have Hown := hid hown
  have Hperm := hid hperm
  have Hsz := hid hsz
  clear h hd hown hperm hsz
  go_enter Tryz.func21, Tryz.ntmps21
  go_wp2_with (first
    | (go_at_call 60; refine (there_any m s _ H.out).mono ?_; rintro e w' ⟨rfl, rfl⟩)
    | (go_at_call 69; refine (keys_any _ _).mono ?_; rintro e w' ⟨rfl, rfl⟩)
    | (go_at_call 68; refine (sorted_any m.M s.names.length D _ w Hown.out (by rw [Hsz.out]; unfold maxLen; omega) (by rw [Hsz.out]; omega)).mono ?_; rintro e w1 ⟨v, ss, rfl, hS, hrow, hnil, hb⟩; obtain ⟨q, c, rfl, hqc, hcm, hqn⟩ := own_shape hrow; have HS := hid hS; have Hrow := hid hrow; have Hnil := hid hnil; have Hb := hid hb; clear hS hrow hnil hb)
    | (go_at_call 67; refine (clip_strings q _ c w1 hqc hcm).mono ?_; rintro e w2 ⟨rfl, rfl⟩))
  go_ret
  have e1 : sortedK s.names = ss.mergeSort leB := (mergeSort_of_perm (HS.out.trans Hperm.out)).symm
  have e2 : (sortedK s.names).length = ss.length := by rw [e1]; exact List.length_mergeSort _
  rw [e2]
  refine ⟨q, rfl, ?_, ((Below.refl _ _).alloc (Nat.le_refl _) _).trans (Hb.out.mono (by simp))⟩
  rw [e1]
  exact (Fr.of_own Hrow.out).clip.mono (by simp)
end Go.Proofs.Herb
namespace Go.Proofs.Herb
open Go.RowKit
/-! what a crash leaves -/
def dirAt (s : DS) : Nat → Dir × Nat
  | 0 => (s.sured, s.sclock)
  | j + 1 => match s.changes[j]? with
    | some x => (turnDir (dirAt s j).1 (dirAt s j).2 x, turnClk (dirAt s j).1 (dirAt s j).2 x)
    | none => dirAt s j
def keepAt (fl : List Int) (i : Nat) (f : DF) : Nat := f.sure + match fl[i]? with
  | some n => (withinI n ((f.b.length : Int) - (f.sure : Int))).toNat
  | none => 0
structure CrashSt (w wc : World) (dir : Int) (fa : Option Addr) (fn fc : Nat) (mo : DM) (t : DS) : Prop where
  at_ : DiskAt wc mo t
  below : Below w.heap.size w wc
  loss : wc.heap[w.heap.size]? = some (.cells #[.int .i64 dir, .slice fa fn fc] 49 (0, 0))
  fp : ∀ k ∈ mo.fp, w.heap.size < k
theorem CrashSt.below' {w wc wd : World} {dir : Int} {fa : Option Addr} {fn fc : Nat} {mo : DM} {t : DS} (C : CrashSt w wc dir fa fn fc mo t) (h : Below wc.heap.size wc wd) : CrashSt w wd dir fa fn fc mo t :=
  ⟨C.at_.below h, C.below.trans (h.mono C.below.size), (h.block _ (lt_of_block C.loss)).trans C.loss, C.fp⟩
theorem cCells_at : ∀ (l : List DC) (j : Nat) (x : DC), l[j]? = some x → (cCells l)[j * 3]? = some (.string x.name) ∧ (cCells l)[j * 3 + 1]? = some (.int .i64 x.file) ∧ (cCells l)[j * 3 + 2]? = some (.string x.gone)
  | [], _, _, h => by simp at h
  | y :: l, 0, x, h => by
    simp only [List.getElem?_cons_zero, Option.some.injEq] at h
    subst h
    exact ⟨rfl, rfl, rfl⟩
  | y :: l, j + 1, x, h => by
    have h2 := cCells_at l j x (by simpa using h)
    have e : cCells (y :: l) = .string y.name :: .int .i64 y.file :: .string y.gone :: cCells l := rfl
    rw [e, show (j + 1) * 3 = j * 3 + 1 + 1 + 1 from by omega]
    simpa using h2
theorem DiskAt.change {w : World} {m : DM} {s : DS} (h : DiskAt w m s) {j : Nat} {x : DC} (hj : s.changes[j]? = some x) :
    ∃ g c, m.cv = .slice (some ⟨g, 0, none⟩) s.changes.length c ∧ w.cell? ⟨g, j * 3, none⟩ = some (.string x.name) ∧ w.cell? ⟨g, j * 3 + 1, none⟩ = some (.int .i64 x.file) ∧ w.cell? ⟨g, j * 3 + 2, none⟩ = some (.string x.gone) := by
  obtain ⟨hl, hx⟩ := h.changes
  rcases hx with ⟨_, h0⟩ | ⟨g, cap, cur, hv, _, hg, hnc, hcm, hcs, ht⟩
  · have := (List.getElem?_eq_some_iff.1 hj).1; omega
  · have hc : ∀ j v, (cCells s.changes)[j]? = some v → w.cell? ⟨g, j, none⟩ = some v := by
      intro j v hj
      rw [cell_of_row w g j _ _ _ hg]
      rw [← ht] at hj
      rw [List.getElem?_take] at hj
      split at hj
      · simpa using hj
      · cases hj
    obtain ⟨a1, a2, a3⟩ := cCells_at _ _ _ hj
    exact ⟨g, cap, hv, hc _ _ a1, hc _ _ a2, hc _ _ a3⟩
theorem CrashSt.turn {w wc wd : World} {dir : Int} {fa : Option Addr} {fn fc : Nat} {mo : DM} {t : DS} (C : CrashSt w wc dir fa fn fc mo t) {d : Dir} {c : Nat} (O : OneMap wc wd mo.M d c) : CrashSt w wd dir fa fn fc mo { t with names := d, nclock := c } := by
  have hM : w.heap.size < mo.M := C.fp _ (by simp [DM.fp])
  refine ⟨C.at_.turnM O, C.below.trans ((O.mod (m := mo)).below C.below.size (fun k hk => Nat.le_of_lt (C.fp k hk))), (O.other _ (lt_of_block C.loss) (by omega)).trans C.loss, C.fp⟩
theorem CrashSt.mod {w wc we : World} {dir : Int} {fa : Option Addr} {fn fc : Nat} {mo mo2 : DM} {t t2 : DS} (C : CrashSt w wc dir fa fn fc mo t) (hd : DiskAt we mo2 t2) (hm : Mod mo.fp mo2.fp wc we) : CrashSt w we dir fa fn fc mo2 t2 :=
  ⟨hd, C.below.trans (hm.below C.below.size (fun k hk => Nat.le_of_lt (C.fp k hk))), (hm.block _ (lt_of_block C.loss) (fun h => by have := C.fp _ h; omega)).trans C.loss, fun k hk => by
    rcases hm.grow k hk with h | h
    · exact C.fp k h
    · have := lt_of_block C.loss; omega⟩
theorem sortedK_len (d : Dir) : (sortedK d).length = d.length := by unfold sortedK; rw [List.length_mergeSort, List.length_map]
end Go.Proofs.Herb
