/- What the reference's disk says and becomes: the calls' answers, plain. No condition. The contracts of the reference's New, Used, List and held. For a disk as RefAt says. The contract of the reference's Read. For a disk as RefAt says. (printed by gen_rap.py) -/
import Derived.Test.YtbeaehhdglhihaaGreatDoorQd31
namespace Go.Proofs.Herb
open Go.RowKit
def atR (r : RS) (k : ByteArray) : Nat := (lookR (nowR r) k).getD 0
def usedL (fs : List DF) (l : List Ent) : Nat := (l.map fun e => lenF fs e.2).sum
def usedR (r : RS) : Nat := usedL r.files (nowR r)
def knownRE (r : RS) (k : ByteArray) : Int := if callR r k ≠ 0 then callR r k else if lookI (nowR r) k < 0 then 7 else 0
def appendRE (r : RS) (k : ByteArray) (b : List UInt8) : Int := if knownRE r k ≠ 0 then knownRE r k else if r.room < (usedR r : Int) + (b.length : Int) then 9 else burnE r
def appendR (r : RS) (k : ByteArray) (b : List UInt8) : RS :=
  if knownRE r k ≠ 0 then r else if r.room < (usedR r : Int) + (b.length : Int) then r else if burnE r ≠ 0 then burnS r else { burnS r with files := r.files.modify (atR r k) fun f => ⟨f.b ++ b, f.sure⟩ }
def syncRE (r : RS) (k : ByteArray) : Int := if knownRE r k ≠ 0 then knownRE r k else burnE r
def syncR (r : RS) (k : ByteArray) : RS :=
  if knownRE r k ≠ 0 then r else if burnE r ≠ 0 then burnS r else { burnS r with files := r.files.modify (atR r k) fun f => ⟨f.b, f.b.length⟩ }
def readRL (r : RS) (k : ByteArray) : List UInt8 := if knownRE r k = 0 then ((r.files[atR r k]?).map (·.b)).getD [] else []
def looseRE (r : RS) (k : ByteArray) : Int := if mayB k then (if lookI (nowR r) k < 0 then 7 else 0) else 1
theorem lookI_nat (l : List Ent) (k : ByteArray) : lookI l k = -1 ∨ lookI l k = (((lookR l k).getD 0 : Nat) : Int) ∧ (lookR l k).isSome = true := by
  unfold lookI
  cases lookR l k with
  | none => exact .inl rfl
  | some v => exact .inr ⟨rfl, rfl⟩
end Go.Proofs.Herb
namespace Go.Proofs.Herb
open Go.RowKit
/-- what the walks want of a state -/
structure RGood (r : RS) : Prop where
  p0 : 0 < r.past.length
  p1 : r.past.length ≤ 1000000
  f1 : r.files.length ≤ 1000000
  n1 : (nowR r).length ≤ 1000000
  l1 : -1 ≤ r.left
  l2 : r.left ≤ 9223372036854775807
  r0 : 0 ≤ r.room
  r1 : r.room ≤ 4194304
  ats : ∀ e ∈ nowR r, e.2 < r.files.length
  sure : ∀ f ∈ r.files, f.sure ≤ f.b.length ∧ f.b.length ≤ 4194304
theorem RefAt.file {w : World} {U : Nat → Prop} {m : RM} {r : RS} (h : RefAt w U m r) {i : Nat} (hi : i < r.files.length) :
    ∃ g c q k cs, m.fv = .slice (some ⟨g, 0, none⟩) r.files.length c ∧ r.files.length ≤ c ∧ c ≤ maxLen ∧ m.bs[i]? = some (.slice q (r.files[i]).b.length k) ∧ (r.files[i]).b.length ≤ k ∧ k ≤ maxLen ∧ (q = none → k = 0) ∧
      w.cell? ⟨g, i * 2, none⟩ = some (.slice q (r.files[i]).b.length k) ∧ w.cell? ⟨g, i * 2 + 1, none⟩ = some (.int .i64 ((r.files[i]).sure : Int)) ∧
      SlU w U m.fp (.slice q (r.files[i]).b.length k) (r.files[i]).b.length ((r.files[i]).b.map bv) ∧ Rd w q ((r.files[i]).b.map bv) ∧ (∀ j, w.frozen? ⟨g, j, none⟩ = false) ∧ w.heap[g]? = some (.cells cs 151 (0, 0)) := by
  have hb : i < m.bs.length := by rw [h.flen]; exact hi
  have hof := h.bytes i m.bs[i] r.files[i] (List.getElem?_eq_getElem hb) (List.getElem?_eq_getElem hi)
  obtain ⟨q, k, e1, e2, e3, e4, hrd⟩ := hof.rd
  rw [e1] at hof
  obtain ⟨hl, hx⟩ := h.files
  rcases hx with ⟨_, h0⟩ | ⟨g, cap, cur, hv, _, hg, hnc, hcm, hcs, ht⟩
  · omega
  · have hc : ∀ j v, (dfCells m.bs r.files)[j]? = some v → w.cell? ⟨g, j, none⟩ = some v := by
      intro j v hj
      rw [cell_of_row w g j _ _ _ hg]
      rw [← ht] at hj
      rw [List.getElem?_take] at hj
      split at hj
      · simpa using hj
      · cases hj
    have hf := dfCells_at m.bs r.files i h.flen
    refine ⟨g, cap, q, k, cur, hv, hnc, hcm, by rw [List.getElem?_eq_getElem hb, e1], e2, e3, e4, hc _ _ ?_, hc _ _ ?_, hof, hrd, fun j => frozen_of_row w g j _ _ hg, hg⟩
    · rw [Nat.mul_comm, hf.1, List.getElem?_eq_getElem hb, e1]
    · rw [Nat.mul_comm, hf.2, List.getElem?_eq_getElem hi]; rfl
theorem usedL_snoc (fs : List DF) (l : List Ent) (e : Ent) : usedL fs (l ++ [e]) = usedL fs l + lenF fs e.2 := by simp [usedL]
theorem usedL_le {fs : List DF} (hf : ∀ f ∈ fs, f.b.length ≤ 4194304) : ∀ l : List Ent, usedL fs l ≤ l.length * 4194304
  | [] => by simp [usedL]
  | e :: l => by
    have ih := usedL_le hf l
    have h1 : lenF fs e.2 ≤ 4194304 := by
      unfold lenF
      cases hy : fs[e.2]? with
      | none => simp
      | some f => simpa using hf f (List.mem_of_getElem? hy)
    have h2 : usedL fs (e :: l) = lenF fs e.2 + usedL fs l := by simp [usedL]
    rw [h2, List.length_cons, Nat.succ_mul]
    omega
set_option maxRecDepth 100000 in
set_option maxHeartbeats 1600000 in
theorem usedR_any (U : Nat → Prop) (m : RM) (r : RS) (w : World) (h : RefAt w U m r) (hg : RGood r) :
    Calls Tryz.prog 103 #[.pointer (some ⟨m.D, 0, none⟩)] w fun e w' => e = .returned (.int .i64 (usedR r : Int)) ∧ Below w.heap.size w w' := by
  have hU : usedR r = usedL r.files (nowR r) := rfl
  have HU := hid hU
  obtain ⟨l, hl⟩ : ∃ l, l = nowR r := ⟨_, rfl⟩
  obtain ⟨n, hn⟩ : ∃ n, n = l.length := ⟨_, rfl⟩
  have Hl := hid hl
  have Hn := hid hn
  have hn1 : n ≤ 1000000 := by rw [hn, hl]; exact hg.n1
  have H := hid h
  have HG := hid hg
  clear h hg hl hn hU
  go_enter Tryz.func103, Tryz.ntmps103
  go_wp2_with (go_at_call 100; refine (nowR_any U m r w H.out HG.out.p0).mono ?_; rintro e w2 ⟨v, rfl, _, hs, hB⟩; rw [← Hl.out] at hs; obtain ⟨q, c, rfl, hc1, hc2, hq0, hrd⟩ := hs.rd; rw [← Hn.out] at hc1 ⊢; have hrd := hid hrd; have hB := hid hB; have hD2 := hid (H.out.below hB.out); clear hs)
  go_loopw [3, 5] (fun s i wr => ∃ j : Nat, j ≤ n ∧ i = .int .i64 j ∧ s = .int .i64 (usedL r.files (l.take j) : Int) ∧ Below w2.heap.size w2 wr) (fun _ i _ => n - (intOf i).toNat)
  case atStart => exact ⟨0, Nat.zero_le _, rfl, rfl, Below.refl _ _⟩
  case round =>
    obtain ⟨j, hj, rfl, rfl, hb⟩ := hrel
    by_cases hlt : j < n
    · have hjl : j < l.length := by rw [← Hn.out]; exact hlt
      obtain ⟨b, off, rfl, _, _, c1⟩ := ent_at (hrd.out.below hb) hjl
      have hD := hD2.out.below hb
      have hm : l[j] ∈ nowR r := by rw [← Hl.out]; exact List.getElem_mem hjl
      have hat := HG.out.ats _ hm
      obtain ⟨g, cf, q0, k0, cs, hfv, hf1, hf2, _, hk1, hk2, _, hce, _, _, _, _, _⟩ := hD.file hat
      have d3 := hD.cells.2.2.2.1
      rw [hfv] at d3
      obtain ⟨x, hx⟩ : ∃ x, x = l[j].2 := ⟨_, rfl⟩
      have hlen := (HG.out.sure _ (List.getElem_mem hat)).2
      have hlf : lenF r.files l[j].2 = (r.files[l[j].2]).b.length := by unfold lenF; rw [List.getElem?_eq_getElem hat]; rfl
      obtain ⟨N, hN⟩ : ∃ N, N = (r.files[l[j].2]).b.length := ⟨_, rfl⟩
      rw [← hN] at hce hk1 hlen hlf
      have hst : usedL r.files (l.take (j + 1)) = usedL r.files (l.take j) + N := by
        rw [List.take_succ_eq_append_getElem hjl, usedL_snoc, hlf]
      rw [← hx] at c1 hce hat
      have hbd := usedL_le (fs := r.files) (fun f hf => (HG.out.sure f hf).2) (l.take j)
      rw [List.length_take] at hbd
      obtain ⟨F, hF⟩ : ∃ F, F = r.files.length := ⟨_, rfl⟩
      rw [← hF] at d3 hat hf1
      obtain ⟨Sm, hSm⟩ : ∃ Sm, Sm = usedL r.files (l.take j) := ⟨_, rfl⟩
      rw [← hSm] at hst hbd ⊢
      have hsb : Sm ≤ 1000000 * 4194304 := Nat.le_trans hbd (Nat.mul_le_mul_right _ (by omega))
      have HST := hid hst
      have i0 : (0 : Int) ≤ (j : Int) := by omega
      have i1 : (j : Int) < (n : Int) := by omega
      have i2 : (0 : Int) ≤ (x : Int) := by omega
      have i3 : (x : Int) < (F : Int) := by omega
      have w1 : IntKind.i64.wrap ((Sm : Int) + (N : Int)) = ((Sm + N : Nat) : Int) := by rw [IntKind.wrap_i64]; omega
      have HB := hid hb
      have hW : Hid (wr.heap.size = wr.heap.size) := hid rfl
      clear hb hD hm hfv hx hN hlf hst hF hSm hbd hsb hlt hlen
      go_wp2
      go_quiet (fail)
      go_wp2
      go_roundw
      case rel => exact ⟨j + 1, by omega, by go_num, by rw [HST.out, Int.natCast_add], by (rename_i nq _; exact below_drewN HB.out nq)⟩
      case measure => simp [intOf]; omega
    · have hjN : j = n := by omega
      have HB := hid hb
      go_wp2_with fail
      go_ret
      refine ⟨?_, hB.out.trans (HB.out.mono hB.out.size)⟩
      rw [HU.out, ← Hl.out, hjN, List.take_of_length_le (by rw [← Hn.out]; exact Nat.le_refl _)]
      rfl
def textE (l : List Ent) : List Value := l.map fun e => .string e.1
theorem infoText : (Tryz.prog.info? 9).map (fun i => (i.zero, i.size, i.bytes)) = some (some (.string ⟨#[]⟩), 1, 16) := by kernel_rfl
set_option maxRecDepth 100000 in
set_option maxHeartbeats 1600000 in
theorem listR_any (U : Nat → Prop) (m : RM) (r : RS) (w : World) (h : RefAt w U m r) (hg : RGood r) :
    Calls Tryz.prog 46 #[.pointer (some ⟨m.D, 0, none⟩)] w fun e w' => ∃ v, e = .returned v ∧ w'.ownsRow w.heap.size 9 1 v (nowR r).length (textE (nowR r)) ∧ Below w.heap.size w w' := by
  obtain ⟨l, hl⟩ : ∃ l, l = nowR r := ⟨_, rfl⟩
  obtain ⟨n, hn⟩ : ∃ n, n = l.length := ⟨_, rfl⟩
  have Hl := hid hl
  have Hn := hid hn
  have hn1 : n ≤ 1000000 := by rw [hn, hl]; exact hg.n1
  have H := hid h
  have HG := hid hg
  rw [← hl, ← hn]
  clear h hg hl hn
  go_enter Tryz.func46, Tryz.ntmps46
  go_wp2_with (go_at_call 100; refine (nowR_any U m r w H.out HG.out.p0).mono ?_; rintro e w2 ⟨v, rfl, _, hs, hB⟩; rw [← Hl.out] at hs; obtain ⟨q, c, rfl, hc1, hc2, hq0, hrd⟩ := hs.rd; rw [← Hn.out] at hc1 ⊢; have hrd := hid hrd; have hB := hid hB; clear hs)
  go_loopw [3, 5] (fun s i wr => ∃ j : Nat, j ≤ n ∧ i = .int .i64 j ∧ wr.ownsRow w2.heap.size 9 1 s j (textE (l.take j)) ∧ Below w2.heap.size w2 wr) (fun _ i _ => n - (intOf i).toNat)
  case atStart => exact ⟨0, Nat.zero_le _, rfl, World.ownsRow_nil _ _ _ _, Below.refl _ _⟩
  case round =>
    obtain ⟨j, hj, rfl, hown, hb⟩ := hrel
    obtain ⟨q2, c2, rfl, _, _, _⟩ := own_shape hown
    have HO := hid hown
    have HB := hid hb
    by_cases hlt : j < n
    · have hjl : j < l.length := by rw [← Hn.out]; exact hlt
      obtain ⟨b, off, rfl, _, c0, _⟩ := ent_at (hrd.out.below hb) hjl
      obtain ⟨p, hp⟩ : ∃ p, p = l[j].1 := ⟨_, rfl⟩
      have hst : textE (l.take (j + 1)) = textE (l.take j) ++ [.string p] := by
        unfold textE; rw [List.take_succ_eq_append_getElem hjl, hp, List.map_append]; rfl
      rw [← hp] at c0
      have HST := hid hst
      have i0 : (0 : Int) ≤ (j : Int) := by omega
      have i1 : (j : Int) < (n : Int) := by omega
      clear hown hb hp hst
      go_wp2_with (refine wpList_append_rd rfl (.tmp 14) (.tmp 20) 55 rfl w2.heap.size 9 _ 1 16 Tryz.underlying55 infoText rfl (by decide) (.slice q2 j c2) j (textE (l.take j)) rfl (own_below HO.out ((Below.refl wr.heap.size wr).alloc (Nat.le_refl _) _)) (some ⟨wr.heap.size, 0, none⟩) 1 1 [.string p] rfl (fun h => by cases h) rfl (Rd.new _ _ _) (by simp [Value.oneCell']) (by unfold maxLen; omega) (by omega) (by simp; have := HB.out.size; omega) ?_; intro v3 w3 hown3 hg3 _)
      have hg := (HB.out.alloc HB.out.size _).grown hg3 (by simp; have := HB.out.size; omega) (fun k hk => (HO.out.lt k hk).1)
      have HG2 := hid hg
      have HW := hid hown3
      clear hg hg3 hown3
      go_roundw
      case rel => exact ⟨j + 1, by omega, by go_num, by rw [HST.out]; exact HW.out, HG2.out⟩
      case measure => simp [intOf]; omega
    · have hjN : j = n := by omega
      have ho := HO.out
      rw [hjN, List.take_of_length_le (by rw [← Hn.out]; exact Nat.le_refl _)] at ho
      have HO := hid ho
      clear hown ho hb
      subst hjN
      go_wp2_with fail
      go_ret
      exact ⟨_, rfl, own_mono HO.out hB.out.size, hB.out.trans (HB.out.mono hB.out.size)⟩
def newRS (room : Int) : RS := ⟨room, -1, false, [], [[]]⟩
def newE (room : Int) : Int := if room < 0 ∨ 4194304 < room then 1 else 0
def newRM (n : Nat) : RM := ⟨n + 1, .slice none 0 0, .slice (some ⟨n, 0, none⟩) 1 1, [], [.slice none 0 0]⟩
set_option maxHeartbeats 800000 in
theorem newR_any (room : Int) (w : World) :
    Calls Tryz.prog 27 #[.int .i64 room] w fun e w' => Below w.heap.size w w' ∧
      ((newE room = 1 ∧ e = .returned (.tuple #[.pointer none, .int .i64 1])) ∨ (newE room = 0 ∧ e = .returned (.tuple #[.pointer (some ⟨(newRM w.heap.size).D, 0, none⟩), .int .i64 0]) ∧ RefAt w' (fun k => w.heap.size ≤ k ∧ k < w'.heap.size) (newRM w.heap.size) (newRS room))) := by
  by_cases h1 : room < 0
  · have b1 : decide (room < 0) = true := by simpa using h1
    have hE := hid (show newE room = 1 from if_pos (.inl h1))
    clear h1
    go_enter Tryz.func27, Tryz.ntmps27
    go_wp2_with fail
    go_ret2
    exact ⟨Below.refl _ _, .inl ⟨hE.out, rfl⟩⟩
  · have b1 : decide (room < 0) = false := by simpa using h1
    by_cases h2 : 4194304 < room
    · have b2 : decide (4194304 < room) = true := by simpa using h2
      have hE := hid (show newE room = 1 from if_pos (.inr h2))
      clear h1 h2
      go_enter Tryz.func27, Tryz.ntmps27
      go_wp2_with fail
      go_ret2
      exact ⟨Below.refl _ _, .inl ⟨hE.out, rfl⟩⟩
    · have b2 : decide (4194304 < room) = false := by simpa using h2
      have hE := hid (show newE room = 0 from if_neg (by omega))
      clear h1 h2
      go_enter Tryz.func27, Tryz.ntmps27
      go_wp2_with fail
      go_ret2
      have hB := ((Below.refl w.heap.size w).alloc (Nat.le_refl _) (.cells #[.slice none 0 0] 148)).alloc (by simp) (.cells #[.int .i64 room, .int .i64 (-1), .bool false, .slice none 0 0, .slice (some ⟨w.heap.size, 0, none⟩) 1 1] 130)
      refine ⟨hB, .inr ⟨hE.out, by simp [newRM], ?_⟩⟩
      have hD := heap_alloc_new (w.alloc (.cells #[.slice none 0 0] 148)) (.cells #[.int .i64 room, .int .i64 (-1), .bool false, .slice none 0 0, .slice (some ⟨w.heap.size, 0, none⟩) 1 1] 130)
      have hz : (w.alloc (.cells #[.slice none 0 0] 148)).heap.size = w.heap.size + 1 := by simp
      rw [hz] at hD
      refine ⟨hD, World.ownsRow_nil _ _ _ _, rfl, fun i v f h1 _ => by simp [newRM] at h1, ?_, rfl, fun i v l h1 h2 => ?_, by simp [newRM, RM.fp, Value.ownBlock], fun k hk => ?_, fun k hk => hk.2⟩
      · exact own_below (own_one w (.slice none 0 0) _) ((Below.refl _ _).alloc (Nat.le_refl _) _)
      · rcases i with _ | i
        · simp [newRM] at h1
          simp [newRS] at h2
          subst h1 h2
          exact ⟨none, 0, rfl, Nat.le_refl _, by unfold maxLen; omega, fun _ => rfl, .inl rfl⟩
        · simp [newRM] at h1
      · simp [newRM, RM.fp, Value.ownBlock] at hk ⊢
        rcases hk with rfl | rfl <;> omega
end Go.Proofs.Herb
namespace Go.Proofs.Herb
open Go.RowKit
theorem look_at {r : RS} {k : ByteArray} (hg : RGood r) (h : ¬ lookI (nowR r) k < 0) : ∃ i : Nat, lookI (nowR r) k = (i : Int) ∧ atR r k = i ∧ i < r.files.length := by
  rcases lookI_nat (nowR r) k with h1 | ⟨h1, h2⟩
  · rw [h1] at h; exact absurd (by decide) h
  · refine ⟨atR r k, h1, rfl, ?_⟩
    unfold atR
    unfold lookR at h2 ⊢
    cases hf : (nowR r).find? fun e => decide (e.1 = k) with
    | none => rw [hf] at h2; cases h2
    | some e => exact hg.ats e (List.mem_of_find?_eq_some hf)
theorem knownR_cases (r : RS) (k : ByteArray) : (callR r k ≠ 0 ∧ knownRE r k = callR r k) ∨ (callR r k = 0 ∧ lookI (nowR r) k < 0 ∧ knownRE r k = 7) ∨ (callR r k = 0 ∧ ¬ lookI (nowR r) k < 0 ∧ knownRE r k = 0) := by
  unfold knownRE
  by_cases q : callR r k = 0
  · rw [if_neg (show ¬ (callR r k ≠ 0) from fun h => h q)]
    by_cases q2 : lookI (nowR r) k < 0
    · exact .inr (.inl ⟨q, q2, if_pos q2⟩)
    · exact .inr (.inr ⟨q, q2, if_neg q2⟩)
  · exact .inl ⟨q, if_pos q⟩
set_option maxRecDepth 100000 in
set_option maxHeartbeats 1600000 in
theorem readR_any (U : Nat → Prop) (m : RM) (r : RS) (k : ByteArray) (hk : k.size ≤ maxLen) (w : World) (h : RefAt w U m r) (hg : RGood r) :
    Calls Tryz.prog 52 #[.pointer (some ⟨m.D, 0, none⟩), .string k] w fun e w' => ∃ v, e = .returned (.tuple #[v, .int .i64 (knownRE r k)]) ∧ w'.ownsRow w.heap.size 5 1 v (readRL r k).length ((readRL r k).map bv) ∧ Below w.heap.size w w' := by
  have H := hid h
  have HG := hid hg
  clear h hg
  rcases knownR_cases r k with ⟨q1, hE⟩ | ⟨q1, q2, hE⟩ | ⟨q1, q2, hE⟩
  · have hR : readRL r k = [] := by unfold readRL; rw [if_neg (by rw [hE]; exact q1)]
    rw [hE, hR]
    have b1 : (callR r k != 0) = true := by simpa using q1
    clear hE hR q1
    go_enter Tryz.func52, Tryz.ntmps52
    go_wp2_with (go_at_call 98; refine (callR_any U m r k hk w H.out).mono ?_; rintro e w1 ⟨rfl, rfl⟩)
    go_ret2
    exact ⟨_, rfl, World.ownsRow_nil _ _ _ _, Below.refl _ _⟩
  · have hR : readRL r k = [] := by unfold readRL; rw [if_neg (by rw [hE]; decide)]
    rw [hE, hR]
    have b2 : decide (lookI (nowR r) k < 0) = true := by simpa using q2
    have Q1 := hid q1
    clear hE hR q1 q2
    go_enter Tryz.func52, Tryz.ntmps52
    go_wp2_with (first | (go_at_call 98; refine (callR_any U m r k hk w H.out).mono ?_; rintro e w1 ⟨rfl, rfl⟩; rw [Q1.out]) | (go_at_call 100; with_reducible refine (nowR_any U m r w H.out HG.out.p0).mono ?_; rintro e w2 ⟨v, rfl, _, hs, hB⟩; obtain ⟨q, c, rfl, _, _, _, hrd⟩ := hs.rd; have hrd := hid hrd; have hB := hid hB; have hD2 := hid (H.out.below hB.out); clear hs) | (go_at_call 99; refine (lookR_any q _ c (nowR r) k _ rfl (by have := HG.out.n1; omega) hrd.out).mono ?_; rintro e w3 ⟨rfl, rfl⟩))
    go_ret2
    exact ⟨_, rfl, World.ownsRow_nil _ _ _ _, hB.out⟩
  · obtain ⟨i, hL, hat, hi⟩ := look_at HG.out q2
    have hR : readRL r k = (r.files[i]).b := by unfold readRL; rw [if_pos hE, hat, List.getElem?_eq_getElem hi]; rfl
    rw [hE, hR]
    have HL := hid hL
    have Q1 := hid q1
    have hbl := (HG.out.sure _ (List.getElem_mem hi)).2
    have b2 : decide ((i : Int) < 0) = false := by simp
    clear hE hR q1 q2 hL hat
    go_enter Tryz.func52, Tryz.ntmps52
    go_upto_region 7 with (first | (go_at_call 98; refine (callR_any U m r k hk w H.out).mono ?_; rintro e w1 ⟨rfl, rfl⟩; rw [Q1.out]) | (go_at_call 100; with_reducible refine (nowR_any U m r w H.out HG.out.p0).mono ?_; rintro e w2 ⟨v, rfl, _, hs, hB⟩; obtain ⟨q, c, rfl, _, _, _, hrd⟩ := hs.rd; have hrd := hid hrd; have hB := hid hB; have hD2 := hid (H.out.below hB.out); clear hs) | (go_at_call 99; refine (lookR_any q _ c (nowR r) k _ rfl (by have := HG.out.n1; omega) hrd.out).mono ?_; rintro e w3 ⟨rfl, rfl⟩; rw [HL.out]))
    obtain ⟨g, cf, q0, k0, cs, hfv, hf1, hf2, _, hk1, hk2, hq0, hce, _, _, hrb, _, _⟩ := hD2.out.file hi
    have d3 := hD2.out.cells.2.2.2.1
    rw [hfv] at d3
    obtain ⟨b, hb⟩ : ∃ b, b = (r.files[i]).b := ⟨_, rfl⟩
    obtain ⟨N, hN⟩ : ∃ N, N = b.length := ⟨_, rfl⟩
    rw [← hb, ← hN] at hce hk1
    rw [← hb] at hrb hbl
    rw [← hN] at hbl
    have HBd := hid hb
    obtain ⟨P, hP⟩ : ∃ P, P = r.files.length := ⟨_, rfl⟩
    rw [← hP] at d3 hi hf1
    have i0 : (0 : Int) ≤ (i : Int) := by omega
    have i1 : (i : Int) < (P : Int) := by omega
    have HRB := hid hrb
    have HQ0 := hid hq0
    have HN := hid hN
    clear hfv hb hN hP hrb hq0
    go_wp2_with (refine wpList_append_rd rfl (.const (.slice none 0 0)) (.tmp 27) 75 rfl w2.heap.size 5 (.int .u8 0) 1 1 Tryz.underlying75 infoU8 rfl (by decide) (.slice none 0 0) 0 [] rfl (World.ownsRow_nil _ _ _ _) q0 N k0 (b.map bv) rfl HQ0.out (by simp [HN.out]) HRB.out bv_one (by unfold maxLen; omega) (by omega) (Nat.le_refl _) ?_; intro v5 w5 hown5 hg5 _; rw [Nat.zero_add, List.nil_append] at hown5; have hown5 := hid hown5; have hg5 := hid hg5)
    go_ret2
    exact ⟨_, rfl, by rw [← HBd.out, ← HN.out]; exact own_mono hown5.out hB.out.size, hB.out.grown hg5.out hB.out.size (fun k hk => nomatch hk)⟩
end Go.Proofs.Herb
