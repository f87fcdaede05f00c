/- The contracts of the laws' has, changes and played. For disks as DiskAt says. -/
import Derived.Test.YtobgcapekongbaaLw4
namespace Go.Proofs.Herb
open Go.RowKit Go.Sort
set_option maxRecDepth 100000 in
set_option maxHeartbeats 800000 in
theorem has_true (m : DM) (s : DS) (n : Nat) (k : ByteArray) (l : List UInt8) (w : World) (h : DiskAt w m s) (o : DsOk s n) (hk : knownE s k = 0) (hr : readL s k = l) (hl : l ≠ []) :
    Calls Try.prog 36 #[.pointer (some ⟨m.D, 0, none⟩), .string k, .string ⟨l.toArray⟩] w fun e w' => e = .returned (.bool true) ∧ Below w.heap.size w w' := by
  have hks := knownE_size hk
  have H := hid h
  have O := hid o
  have HK := hid hk
  have HR := hid hr
  have HL := hid hl
  clear h o hk hr hl
  go_enter Try.func36, Try.ntmps36
  go_wp2_with fail
  with_reducible refine (read_clip m s k hks w H.out O.out.good.ok O.out.bytes).mono ?_
  rintro e w1 ⟨q, rfl, hF, hB⟩
  rw [HK.out, HR.out]
  rw [HR.out] at hF
  have hrd := hF.rd
  obtain ⟨bb, oo, rfl, hc0⟩ := hrd.cell (k := 0) (by have := List.length_pos_iff.2 HL.out; simpa using this)
  have hconv := run_convert_bytes_back (P := Try.prog) w1 40 9 5 ⟨bb, oo, none⟩ l.length l Try.underlying40 Try.underlying5 Try.underlying9 (fun j hj => by
    obtain ⟨b', o', e, hh⟩ := hrd.cell (k := j) (by simpa using hj)
    cases e
    rw [Addr.add_mid, hh, List.getElem_map]; rfl)
  have HB := hid hB
  clear hB hF hrd hc0
  go_wp2
  go_ret
  exact ⟨by simp, HB.out⟩
/-- a call of a disk, as an act says -/
def actE (s : DS) (v : ActV) : Int := match v.what % 11 with
  | 0 => createE s v.a
  | 1 => appendE s v.a v.data
  | 2 => syncE s v.a
  | 3 => renameE s v.a v.b
  | 4 => removeE s v.a
  | 5 => syncDirE s
  | _ => 0
def actS (s : DS) (v : ActV) : DS := match v.what % 11 with
  | 0 => createS s v.a
  | 1 => appendS s v.a v.data
  | 2 => syncS s v.a
  | 3 => renameS s v.a v.b
  | 4 => removeS s v.a
  | 5 => syncDirT s
  | _ => s
theorem DsOk.act {s : DS} {n : Nat} (h : DsOk s n) (v : ActV) : DsOk (actS s v) (n + 2) := by
  unfold actS
  split
  · exact h.create _
  · exact (h.append _ _).mono (by omega)
  · exact (h.sync _).mono (by omega)
  · exact (h.rename _ _).mono (by omega)
  · exact (h.remove _).mono (by omega)
  · exact h.syncDir.mono (by omega)
  · exact h.mono (by omega)
theorem act_case (s : DS) (v : ActV) :
    (v.what % 11 = 0 → actE s v = createE s v.a ∧ actS s v = createS s v.a) ∧ (v.what % 11 = 1 → actE s v = appendE s v.a v.data ∧ actS s v = appendS s v.a v.data) ∧ (v.what % 11 = 2 → actE s v = syncE s v.a ∧ actS s v = syncS s v.a) ∧
    (v.what % 11 = 3 → actE s v = renameE s v.a v.b ∧ actS s v = renameS s v.a v.b) ∧ (v.what % 11 = 4 → actE s v = removeE s v.a ∧ actS s v = removeS s v.a) ∧ (v.what % 11 = 5 → actE s v = syncDirE s ∧ actS s v = syncDirT s) ∧ (6 ≤ v.what % 11 → actE s v = 0 ∧ actS s v = s) := by
  unfold actE actS
  generalize v.what % 11 = K
  refine ⟨?_, ?_, ?_, ?_, ?_, ?_, ?_⟩
  · rintro rfl; exact ⟨rfl, rfl⟩
  · rintro rfl; exact ⟨rfl, rfl⟩
  · rintro rfl; exact ⟨rfl, rfl⟩
  · rintro rfl; exact ⟨rfl, rfl⟩
  · rintro rfl; exact ⟨rfl, rfl⟩
  · rintro rfl; exact ⟨rfl, rfl⟩
  · intro h
    obtain ⟨k, rfl⟩ : ∃ k, K = k + 6 := ⟨K - 6, by omega⟩
    exact ⟨rfl, rfl⟩
theorem rem_yes {k : Nat} {c : Int} (h : (((k : Int) % 11) == c) = true) : ((k % 11 : Nat) : Int) = c := by
  have := beq_iff_eq.1 h; omega
theorem rem_no {k : Nat} {c : Int} (h : (((k : Int) % 11) == c) = false) : ((k % 11 : Nat) : Int) ≠ c := by
  have := beq_eq_false_iff_ne.1 h; omega
set_option maxRecDepth 100000 in
set_option maxHeartbeats 1600000 in
theorem changes_any (m : DM) (s : DS) (n : Nat) (v : ActV) (w : World) (h : DiskAt w m s) (o : DsOk s n) (hn : n ≤ 1000000000) (hv : ActOk w v) (hfp : v.data ≠ [] → ∀ b off, v.dq = some ⟨b, off, none⟩ → b ∉ m.fp) :
    Calls Try.prog 25 #[.pointer (some ⟨m.D, 0, none⟩), .agg #[.int .u8 (v.what : Int), .string v.a, .string v.b, .int .i64 v.n, .slice v.dq v.dn v.dc, .int .i64 v.dir, .slice v.fq v.fn v.fc]] w
      fun e w' => ∃ m', e = .returned (.tuple #[.int .i64 (actE s v), .bool (decide (v.what % 11 < 6))]) ∧ DiskAt w' m' (actS s v) ∧ m'.D = m.D ∧ Mod m.fp m'.fp w w' := by
  have hw := hv.what
  have H := hid h
  have O := hid o
  have HV := hid hv
  have HFp := hid hfp
  have HA := hid ((Below.refl w.heap.size w).alloc (Nat.le_refl _) (.cells #[.int .u8 (v.what : Int), .string v.a, .string v.b, .int .i64 v.n, .slice v.dq v.dn v.dc, .int .i64 v.dir, .slice v.fq v.fn v.fc] 54))
  clear h o hv hfp
  go_enter Try.func25, Try.ntmps25
  go_wp2_with fail
  · have hk : v.what % 11 = 0 := by have := rem_yes (k := v.what) (c := 0) (by assumption); omega
    have hc := hid ((act_case s v).1 hk)
    refine (create_any m s v.a _ (H.out.below HA.out) HV.out.a O.out.f0 O.out.f1 (Nat.le_trans O.out.files hn) (Nat.le_trans O.out.changes hn) (Nat.le_trans O.out.good.many hn)).mono ?_
    rintro e w1 ⟨m', rfl, hD1, hDm, hM1⟩
    have HD1 := hid hD1
    have HM1 := hid hM1
    have HDm := hid hDm
    clear hD1 hM1 hDm
    go_wp2_with fail
    go_ret2
    exact ⟨m', by rw [hc.out.1, hk]; rfl, by rw [hc.out.2]; exact HD1.out, HDm.out, (Mod.of_below m.fp HA.out).trans HM1.out⟩
  · have hk : v.what % 11 = 1 := by have := rem_yes (k := v.what) (c := 1) (by assumption); omega
    have hc := hid ((act_case s v).2.1 hk)
    refine (append_any m s v.a HV.out.a v.dq v.dn v.dc v.data _ (H.out.below HA.out) O.out.good.ok (Nat.le_trans (used_le O.out) (by omega)) O.out.f0 O.out.f1 O.out.r0 O.out.r1 HV.out.d0 HV.out.d1 HV.out.d2 (HV.out.d3.below HA.out) HV.out.d4 HFp.out (fun f hf => Nat.le_trans (O.out.bytes f hf) (by decide))).mono ?_
    rintro e w1 ⟨m', rfl, hD1, hDm, hM1⟩
    have HD1 := hid hD1
    have HM1 := hid hM1
    have HDm := hid hDm
    clear hD1 hM1 hDm
    go_wp2_with fail
    go_ret2
    exact ⟨m', by rw [hc.out.1, hk]; rfl, by rw [hc.out.2]; exact HD1.out, HDm.out, (Mod.of_below m.fp HA.out).trans HM1.out⟩
  · have hk : v.what % 11 = 2 := by have := rem_yes (k := v.what) (c := 2) (by assumption); omega
    have hc := hid ((act_case s v).2.2.1 hk)
    refine (sync_any m s v.a HV.out.a _ (H.out.below HA.out) O.out.good.ok O.out.f0 O.out.f1).mono ?_
    rintro e w1 ⟨rfl, hD1, hM1⟩
    have HD1 := hid hD1
    have HM1 := hid hM1
    clear hD1 hM1
    go_wp2_with fail
    go_ret2
    exact ⟨m, by rw [hc.out.1, hk]; rfl, by rw [hc.out.2]; exact HD1.out, rfl, (Mod.of_below m.fp HA.out).trans HM1.out⟩
  · have hk : v.what % 11 = 3 := by have := rem_yes (k := v.what) (c := 3) (by assumption); omega
    have hc := hid ((act_case s v).2.2.2.1 hk)
    refine (rename_any m s v.a v.b HV.out.a HV.out.b _ (H.out.below HA.out) O.out.f0 O.out.f1 (Nat.le_trans O.out.changes hn)).mono ?_
    rintro e w1 ⟨m', rfl, hD1, hDm, hM1⟩
    have HD1 := hid hD1
    have HM1 := hid hM1
    have HDm := hid hDm
    clear hD1 hM1 hDm
    go_wp2_with fail
    go_ret2
    exact ⟨m', by rw [hc.out.1, hk]; rfl, by rw [hc.out.2]; exact HD1.out, HDm.out, (Mod.of_below m.fp HA.out).trans HM1.out⟩
  · have hk : v.what % 11 = 4 := by have := rem_yes (k := v.what) (c := 4) (by assumption); omega
    have hc := hid ((act_case s v).2.2.2.2.1 hk)
    refine (remove_any m s v.a HV.out.a _ (H.out.below HA.out) O.out.f0 O.out.f1 (Nat.le_trans O.out.changes hn)).mono ?_
    rintro e w1 ⟨m', rfl, hD1, hDm, hM1⟩
    have HD1 := hid hD1
    have HM1 := hid hM1
    have HDm := hid hDm
    clear hD1 hM1 hDm
    go_wp2_with fail
    go_ret2
    exact ⟨m', by rw [hc.out.1, hk]; rfl, by rw [hc.out.2]; exact HD1.out, HDm.out, (Mod.of_below m.fp HA.out).trans HM1.out⟩
  · have hk : v.what % 11 = 5 := by have := rem_yes (k := v.what) (c := 5) (by assumption); omega
    have hc := hid ((act_case s v).2.2.2.2.2.1 hk)
    refine (syncDir_any m s _ (H.out.below HA.out) O.out.f0 O.out.f1).mono ?_
    rintro e w1 ⟨m', rfl, hD1, hDm, hM1⟩
    have HD1 := hid hD1
    have HM1 := hid hM1
    have HDm := hid hDm
    clear hD1 hM1 hDm
    go_wp2_with fail
    go_ret2
    exact ⟨m', by rw [hc.out.1, hk]; rfl, by rw [hc.out.2]; exact HD1.out, HDm.out, (Mod.of_below m.fp HA.out).trans HM1.out⟩
  · have k0 := rem_no (k := v.what) (c := 0) (by assumption)
    have k1 := rem_no (k := v.what) (c := 1) (by assumption)
    have k2 := rem_no (k := v.what) (c := 2) (by assumption)
    have k3 := rem_no (k := v.what) (c := 3) (by assumption)
    have k4 := rem_no (k := v.what) (c := 4) (by assumption)
    have k5 := rem_no (k := v.what) (c := 5) (by assumption)
    have hk : 6 ≤ v.what % 11 := by omega
    obtain ⟨e1, e2⟩ := (act_case s v).2.2.2.2.2.2 hk
    go_ret2
    exact ⟨m, by rw [e1, decide_eq_false (by omega)]; rfl, by rw [e2]; exact H.out.below HA.out, rfl, Mod.of_below m.fp HA.out⟩
end Go.Proofs.Herb
