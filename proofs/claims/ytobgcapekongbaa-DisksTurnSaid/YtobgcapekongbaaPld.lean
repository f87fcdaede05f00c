/- The contract of the law's played. For acts that can be read. -/
import Derived.Test.YtobgcapekongbaaLw5
import Derived.Test.YtobgcapekongbaaFrs
namespace Go.Proofs.Herb
open Go.RowKit Go.Sort
def playS (s : DS) (l : List ActV) : DS := l.foldl actS s
theorem playS_snoc (s : DS) (l : List ActV) (v : ActV) : playS s (l ++ [v]) = actS (playS s l) v := by simp [playS]
theorem DsOk.play {s : DS} {n : Nat} (h : DsOk s n) (l : List ActV) : DsOk (playS s l) (n + 2 * l.length) := by
  induction l generalizing s n with
  | nil => simpa [playS] using h
  | cons v l ih =>
    have := ih (h.act v)
    rw [List.length_cons, show n + 2 * (l.length + 1) = n + 2 + 2 * l.length by omega]
    exact this
/-- an act's cells -/
theorem ActsAt.cells {w : World} {a : Option Addr} {len : Nat} {l : List ActV} (h : ActsAt w a len l) {j : Nat} (hj : j < len) :
    ∃ b off v, a = some ⟨b, off, none⟩ ∧ l[j]? = some v ∧ ActOk w v ∧ b < w.heap.size ∧ ∀ (i : Nat) u, v.cells[i]? = some u → w.cell? ⟨b, off + (j * 7 + i), none⟩ = some u := by
  obtain ⟨h1, h2, h3⟩ := h
  have hjl : j < l.length := by omega
  rcases h3 with rfl | ⟨b, off, rfl, hc⟩
  · simp at hjl
  · have hv : l[j]? = some l[j] := List.getElem?_eq_getElem hjl
    refine ⟨b, off, l[j], rfl, hv, h2 _ (List.getElem_mem _), ?_, fun i u hu => hc j _ hv i u hu⟩
    exact World.block_lt_of_cell? w _ (hc j _ hv 0 _ rfl)
theorem ActOk.below {w w' : World} {v : ActV} (h : ActOk w v) (hb : Below w.heap.size w w') : ActOk w' v :=
  ⟨h.what, h.a, h.b, h.n0, h.n1, h.d0, h.d1, h.d2, h.d3.below hb, h.d4, h.i0, h.i1, h.f0, h.f1, h.f2, h.f3.below hb⟩
theorem ActsAt.below {w w' : World} {a : Option Addr} {len : Nat} {l : List ActV} (h : ActsAt w a len l) (hb : Below w.heap.size w w') : ActsAt w' a len l :=
  ⟨h.1, fun v hv => (h.2.1 v hv).below hb, h.2.2.imp id fun ⟨b, off, ha, hc⟩ => ⟨b, off, ha, fun i v hi j u hj => by
    have := hc i v hi j u hj
    rw [hb.cell (World.block_lt_of_cell? w _ this)]; exact this⟩⟩
theorem ActOk.apart {w : World} {v : ActV} (h : ActOk w v) {fp : List Nat} (hf : ∀ k, k ∈ fp → w.heap.size ≤ k) : v.data ≠ [] → ∀ b off, v.dq = some ⟨b, off, none⟩ → b ∉ fp := by
  intro hd b off hq hb
  have h1 := h.d3.lt hq (by simpa using List.length_pos_iff.2 hd)
  have := hf b hb
  omega
set_option maxRecDepth 100000 in
set_option maxHeartbeats 1600000 in
theorem played_any (room : Int) (hr0 : 0 ≤ room) (hr1 : room ≤ 4194304) (a : Option Addr) (len cap : Nat) (l : List ActV) (w : World) (h : ActsAt w a len l) (hlen : len ≤ 60) :
    Calls Try.prog 11 #[.int .i64 room, .slice a len cap] w
      fun e w' => ∃ m, e = .returned (.pointer (some ⟨m.D, 0, none⟩)) ∧ DiskAt w' m (playS (newS room) l) ∧ Below w.heap.size w w' ∧ ∀ k, k ∈ m.fp → w.heap.size ≤ k := by
  have HL := hid h
  have hll := h.1
  clear h
  go_enter Try.func11, Try.ntmps11
  go_wp2_with fail
  refine (new_any room hr0 hr1 w).mono ?_
  rintro e w1 ⟨rfl, hD0, hB0⟩
  obtain ⟨D, hDe⟩ : ∃ D, D = (newM w.heap.size).D := ⟨_, rfl⟩
  rw [← hDe]
  have HD0 := hid hD0
  have HB0 := hid hB0
  have HDe := hid hDe
  have Hll := hid hll
  clear hD0 hB0 hDe hll
  go_wp2_with fail
  go_loopw [7] (fun i wr => ∃ (j : Nat) (m : DM), i = .int .i64 j ∧ j ≤ len ∧ m.D = D ∧ DiskAt wr m (playS (newS room) (l.take j)) ∧ Below w.heap.size w wr ∧ (∀ k, k ∈ m.fp → w.heap.size ≤ k))
    (fun i _ => len - (intOf i).toNat)
  case atStart => exact ⟨0, newM w.heap.size, rfl, Nat.zero_le _, HDe.out.symm, HD0.out, HB0.out, newM_fresh _⟩
  case round =>
    obtain ⟨j, m, rfl, hj, hmD, hd, hb, hf⟩ := hrel
    subst hmD
    have HM := hid hd
    have HB := hid hb
    have HF := hid hf
    clear hd hb hf
    by_cases hlt : j < len
    · obtain ⟨b, off, v, rfl, hv, hok, hbl, hc⟩ := HL.out.cells hlt
      have i1 : (0 : Int) ≤ (j : Int) := by omega
      have i2 : (j : Int) < (len : Int) := by omega
      have hcc := fun (i : Nat) u (hu : v.cells[i]? = some u) => (HB.out.cell (p := ⟨b, off + (j * 7 + i), none⟩) hbl).trans (hc i u hu)
      have c0 : wr.cell? ⟨b, off + j * 7, none⟩ = _ := hcc 0 _ rfl
      have c1 : wr.cell? ⟨b, off + j * 7 + 1, none⟩ = _ := hcc 1 _ rfl
      have c2 : wr.cell? ⟨b, off + j * 7 + 2, none⟩ = _ := hcc 2 _ rfl
      have c3 : wr.cell? ⟨b, off + j * 7 + 3, none⟩ = _ := hcc 3 _ rfl
      have c4 : wr.cell? ⟨b, off + j * 7 + 4, none⟩ = _ := hcc 4 _ rfl
      have c5 : wr.cell? ⟨b, off + j * 7 + 5, none⟩ = _ := hcc 5 _ rfl
      have c6 : wr.cell? ⟨b, off + j * 7 + 6, none⟩ = _ := hcc 6 _ rfl
      have HV := hid hv
      have HOk := hid hok
      have hw := hok.what
      have HA := hid ((Below.refl wr.heap.size wr).alloc (Nat.le_refl _) (.cells #[.int .u8 (v.what : Int), .string v.a, .string v.b, .int .i64 v.n, .slice v.dq v.dn v.dc, .int .i64 v.dir, .slice v.fq v.fn v.fc] 54))
      have HO := hid ((DsOk.new hr0 hr1).play (l.take j))
      have hn : 0 + 2 * (l.take j).length ≤ 1000000000 := by rw [List.length_take, Hll.out]; omega
      have HW := hid (hok.below HB.out)
      have HFp := hid (hok.apart HF.out)
      obtain ⟨S, hS⟩ : ∃ S, S = playS (newS room) (l.take j) := ⟨_, rfl⟩
      have HS := hid hS
      rw [← hS] at HM HO
      have Hj := hid (show playS (newS room) (l.take (j + 1)) = actS S v by rw [List.take_succ_eq_append_getElem (by rw [Hll.out]; exact hlt), playS_snoc, ← hS]; congr 1; exact (List.getElem?_eq_some_iff.1 hv).2)
      clear hcc hc hv hok hS
      go_wp2_with fail
      · have hk : v.what % 11 = 0 := by have := rem_yes (k := v.what) (c := 0) (by assumption); omega
        have hc := hid ((act_case S v).1 hk).2
        refine (create_any m S v.a _ (HM.out.below HA.out) HW.out.a HO.out.f0 HO.out.f1 (Nat.le_trans HO.out.files hn) (Nat.le_trans HO.out.changes hn) (Nat.le_trans HO.out.good.many hn)).mono ?_
        rintro e w1 ⟨m', rfl, hD1, hDm, hM1⟩
        have HD1 := hid hD1
        have HMf := hid (((Mod.of_below m.fp HA.out).trans hM1).fresh (B := w.heap.size) HB.out.size HF.out)
        have HDm := hid hDm
        clear hD1 hM1 hDm
        go_wp2_with fail
        go_roundw
        case rel =>
          exact ⟨j + 1, m', by go_num, by omega, HDm.out, by rw [Hj.out, hc.out]; exact HD1.out, HB.out.trans HMf.out.2, HMf.out.1⟩
        case measure => simp [intOf]; omega
      · have hk : v.what % 11 = 1 := by have := rem_yes (k := v.what) (c := 1) (by assumption); omega
        have hc := hid ((act_case S v).2.1 hk).2
        refine (append_any m S v.a HW.out.a v.dq v.dn v.dc v.data _ (HM.out.below HA.out) HO.out.good.ok (Nat.le_trans (used_le HO.out) (by omega)) HO.out.f0 HO.out.f1 HO.out.r0 HO.out.r1 HW.out.d0 HW.out.d1 HW.out.d2 (HW.out.d3.below HA.out) HW.out.d4 HFp.out (fun f hf => Nat.le_trans (HO.out.bytes f hf) (by decide))).mono ?_
        rintro e w1 ⟨m', rfl, hD1, hDm, hM1⟩
        have HD1 := hid hD1
        have HMf := hid (((Mod.of_below m.fp HA.out).trans hM1).fresh (B := w.heap.size) HB.out.size HF.out)
        have HDm := hid hDm
        clear hD1 hM1 hDm
        go_wp2_with fail
        go_roundw
        case rel =>
          exact ⟨j + 1, m', by go_num, by omega, HDm.out, by rw [Hj.out, hc.out]; exact HD1.out, HB.out.trans HMf.out.2, HMf.out.1⟩
        case measure => simp [intOf]; omega
      · have hk : v.what % 11 = 2 := by have := rem_yes (k := v.what) (c := 2) (by assumption); omega
        have hc := hid ((act_case S v).2.2.1 hk).2
        refine (sync_any m S v.a HW.out.a _ (HM.out.below HA.out) HO.out.good.ok HO.out.f0 HO.out.f1).mono ?_
        rintro e w1 ⟨rfl, hD1, hM1⟩
        have HD1 := hid hD1
        have HMf := hid (((Mod.of_below m.fp HA.out).trans hM1).fresh (B := w.heap.size) HB.out.size HF.out)
        clear hD1 hM1
        go_wp2_with fail
        go_roundw
        case rel =>
          exact ⟨j + 1, m, by go_num, by omega, rfl, by rw [Hj.out, hc.out]; exact HD1.out, HB.out.trans HMf.out.2, HMf.out.1⟩
        case measure => simp [intOf]; omega
      · have hk : v.what % 11 = 3 := by have := rem_yes (k := v.what) (c := 3) (by assumption); omega
        have hc := hid ((act_case S v).2.2.2.1 hk).2
        refine (rename_any m S v.a v.b HW.out.a HW.out.b _ (HM.out.below HA.out) HO.out.f0 HO.out.f1 (Nat.le_trans HO.out.changes hn)).mono ?_
        rintro e w1 ⟨m', rfl, hD1, hDm, hM1⟩
        have HD1 := hid hD1
        have HMf := hid (((Mod.of_below m.fp HA.out).trans hM1).fresh (B := w.heap.size) HB.out.size HF.out)
        have HDm := hid hDm
        clear hD1 hM1 hDm
        go_wp2_with fail
        go_roundw
        case rel =>
          exact ⟨j + 1, m', by go_num, by omega, HDm.out, by rw [Hj.out, hc.out]; exact HD1.out, HB.out.trans HMf.out.2, HMf.out.1⟩
        case measure => simp [intOf]; omega
      · have hk : v.what % 11 = 4 := by have := rem_yes (k := v.what) (c := 4) (by assumption); omega
        have hc := hid ((act_case S v).2.2.2.2.1 hk).2
        refine (remove_any m S v.a HW.out.a _ (HM.out.below HA.out) HO.out.f0 HO.out.f1 (Nat.le_trans HO.out.changes hn)).mono ?_
        rintro e w1 ⟨m', rfl, hD1, hDm, hM1⟩
        have HD1 := hid hD1
        have HMf := hid (((Mod.of_below m.fp HA.out).trans hM1).fresh (B := w.heap.size) HB.out.size HF.out)
        have HDm := hid hDm
        clear hD1 hM1 hDm
        go_wp2_with fail
        go_roundw
        case rel =>
          exact ⟨j + 1, m', by go_num, by omega, HDm.out, by rw [Hj.out, hc.out]; exact HD1.out, HB.out.trans HMf.out.2, HMf.out.1⟩
        case measure => simp [intOf]; omega
      · have hk : v.what % 11 = 5 := by have := rem_yes (k := v.what) (c := 5) (by assumption); omega
        have hc := hid ((act_case S v).2.2.2.2.2.1 hk).2
        refine (syncDir_any m S _ (HM.out.below HA.out) HO.out.f0 HO.out.f1).mono ?_
        rintro e w1 ⟨m', rfl, hD1, hDm, hM1⟩
        have HD1 := hid hD1
        have HMf := hid (((Mod.of_below m.fp HA.out).trans hM1).fresh (B := w.heap.size) HB.out.size HF.out)
        have HDm := hid hDm
        clear hD1 hM1 hDm
        go_wp2_with fail
        go_roundw
        case rel =>
          exact ⟨j + 1, m', by go_num, by omega, HDm.out, by rw [Hj.out, hc.out]; exact HD1.out, HB.out.trans HMf.out.2, HMf.out.1⟩
        case measure => simp [intOf]; omega
      · have k0 := rem_no (k := v.what) (c := 0) (by assumption)
        have k1 := rem_no (k := v.what) (c := 1) (by assumption)
        have k2 := rem_no (k := v.what) (c := 2) (by assumption)
        have k3 := rem_no (k := v.what) (c := 3) (by assumption)
        have k4 := rem_no (k := v.what) (c := 4) (by assumption)
        have k5 := rem_no (k := v.what) (c := 5) (by assumption)
        have hk : 6 ≤ v.what % 11 := by omega
        have hc := hid ((act_case S v).2.2.2.2.2.2 hk).2
        have HMf := hid ((Mod.of_below m.fp HA.out).fresh (B := w.heap.size) HB.out.size HF.out)
        go_roundw
        case rel =>
          exact ⟨j + 1, m, by go_num, by omega, rfl, by rw [Hj.out, hc.out]; exact HM.out.below HA.out, HB.out.trans HMf.out.2, HMf.out.1⟩
        case measure => simp [intOf]; omega
    · obtain rfl : j = len := by omega
      go_wp2
      go_ret
      exact ⟨m, rfl, by have := HM.out; rw [List.take_of_length_le (by rw [Hll.out]; exact Nat.le_refl _)] at this; exact this, HB.out, HF.out⟩
end Go.Proofs.Herb
