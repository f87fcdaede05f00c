/- The contract of DisksFull: it answers true. For acts that can be read. -/
import Derived.Test.YtobgcapekongbaaSurP
import Derived.Test.YtobgcapekongbaaSur
import Derived.BigQuiet
namespace Go.Proofs.Herb
open Go.RowKit Go.Sort
theorem used_act {s : DS} {n : Nat} (h : DsOk s n) (v : ActV) (hu : (usedN s : Int) ≤ s.room) : (usedN (actS s v) : Int) ≤ s.room := by
  obtain ⟨c0, c1, c2, c3, c4, c5, c6⟩ := act_case s v
  have key : v.what % 11 = 0 ∨ v.what % 11 = 1 ∨ v.what % 11 = 2 ∨ v.what % 11 = 3 ∨ v.what % 11 = 4 ∨ v.what % 11 = 5 ∨ 6 ≤ v.what % 11 := by omega
  rcases key with h' | h' | h' | h' | h' | h' | h'
  · rw [(c0 h').2, create_used h]; exact hu
  · rw [(c1 h').2, append_used h]
    split
    · rename_i h0
      unfold appendE at h0
      split at h0
      · rename_i h1; exact absurd h0 h1
      · split at h0
        · cases h0
        · omega
    · exact hu
  · rw [(c2 h').2, sync_used]; exact hu
  · rw [(c3 h').2]; have := rename_used h v.a v.b; omega
  · rw [(c4 h').2]; have := remove_used h v.a; omega
  · rw [(c5 h').2, syncDir_used]; exact hu
  · rw [(c6 h').2]; exact hu
theorem turnS_room (s : DS) (x : DC) : (turnS s x).room = s.room := rfl
theorem room_act {s : DS} (hf : Free s) (v : ActV) : (actS s v).room = s.room := by
  unfold actS
  split
  · unfold createS; rw [hf.letsS]
    split
    · rfl
    · split <;> rfl
  · unfold appendS; rw [hf.letsS]
    split
    · rfl
    · split <;> rfl
  · unfold syncS; rw [hf.letsS]
    split
    · rfl
    · split <;> rfl
  · unfold renameS; rw [hf.letsS]
    split
    · rfl
    · split
      · rfl
      · split <;> rfl
  · unfold removeS; rw [hf.letsS]
    split
    · rfl
    · split <;> rfl
  · unfold syncDirT; rw [hf.letsS]
    split
    · rfl
    · split <;> rfl
  · rfl
/-- what an append says of the room -/
theorem append_says {s : DS} {n : Nat} (h : DsOk s n) {v : ActV} (hk : v.what % 11 = 1) :
    (actE s v = 0 ∧ usedN (actS s v) = usedN s + v.data.length) ∨ (actE s v = 9 ∧ s.room < (usedN s : Int) + (v.data.length : Int) ∧ usedN (actS s v) = usedN s) ∨ (actE s v ≠ 0 ∧ actE s v ≠ 9 ∧ usedN (actS s v) = usedN s) := by
  obtain ⟨_, c1, _⟩ := act_case s v
  rw [(c1 hk).1, (c1 hk).2, append_used h]
  by_cases h0 : appendE s v.a v.data = 0
  · rw [if_pos h0]; exact .inl ⟨h0, rfl⟩
  · rw [if_neg h0]
    by_cases h9 : appendE s v.a v.data = 9
    · refine .inr (.inl ⟨h9, ?_, rfl⟩)
      unfold appendE at h9
      have kk : knownE s v.a ≠ 9 := by
        unfold knownE foundE
        split
        · decide
        · split
          · split <;> decide
          · decide
      have kl : letsE s ≠ 9 := by unfold letsE; split <;> decide
      split at h9
      · exact absurd h9 kk
      · split at h9
        · omega
        · exact absurd h9 kl
    · exact .inr (.inr ⟨h0, h9, rfl⟩)
/-! all removed -/
def removeAll (s : DS) (l : List ByteArray) : DS := l.foldl removeS s
theorem removeAll_snoc (s : DS) (l : List ByteArray) (k : ByteArray) : removeAll s (l ++ [k]) = removeS (removeAll s l) k := by simp [removeAll]
theorem remove_free {s : DS} {n : Nat} (h : DsOk s n) (hf : Free s) {k : ByteArray} (hk : knownE s k = 0) : removeE s k = 0 ∧ Free (removeS s k) ∧ ∀ q, look (removeS s k).names q = if q = k then none else look s.names q := by
  have e1 : removeE s k = 0 := by unfold removeE; rw [hk, hf.letsE]; rfl
  have e2 : removeS s k = turnS s ⟨k, -1, ⟨#[]⟩⟩ := by unfold removeS; rw [hk, hf.letsE, hf.letsS]; rfl
  refine ⟨e1, by rw [e2]; exact ⟨hf.dead, hf.fuse⟩, fun q => ?_⟩
  rw [e2]
  show look (turnDir s.names s.nclock ⟨k, -1, ⟨#[]⟩⟩) q = _
  rw [look_turnDir h.good]
  dsimp only
  by_cases hq : q = k
  · rw [if_pos hq, if_pos hq, if_pos (by decide)]
  · rw [if_neg hq, if_neg hq]
    by_cases hg : q = ⟨#[]⟩
    · rw [if_pos hg, hg]
      cases hl : look s.names ⟨#[]⟩ with
      | none => rfl
      | some v =>
        obtain ⟨e, he, hke, _⟩ := look_mem' hl
        exact absurd hke (may_ne (h.good.may e he))
    · rw [if_neg hg]
theorem removeAll_facts : ∀ (l : List ByteArray) {s : DS} {n : Nat}, DsOk s n → Free s → l.Nodup → (∀ k ∈ l, (look s.names k).isSome = true) →
    DsOk (removeAll s l) (n + l.length) ∧ Free (removeAll s l) ∧ (∀ q, q ∈ l → look (removeAll s l).names q = none) ∧ (∀ q, q ∉ l → look (removeAll s l).names q = look s.names q)
  | [], s, n, h, hf, _, _ => ⟨h, hf, (fun q hq => by cases hq), fun q _ => rfl⟩
  | k :: l, s, n, h, hf, hn, hl => by
    rw [List.nodup_cons] at hn
    have hk0 := (sorted_at h hf.dead (mem_sortedK.2 (hl k (List.mem_cons_self ..)))).1
    obtain ⟨_, f1, hlk⟩ := remove_free h hf hk0
    obtain ⟨o2, f2, hl2, hl3⟩ := removeAll_facts l (h.remove k) f1 hn.2 (fun q hq => by
      have hqk : q ≠ k := by rintro rfl; exact hn.1 hq
      rw [hlk, if_neg hqk]; exact hl q (List.mem_cons_of_mem _ hq))
    refine ⟨by rw [List.length_cons, show n + (l.length + 1) = n + 1 + l.length by omega]; exact o2, f2, fun q hq => ?_, fun q hq => ?_⟩
    · show look (removeAll (removeS s k) l).names q = _
      by_cases h1 : q ∈ l
      · exact hl2 q h1
      · rw [hl3 q h1, hlk]
        rw [List.mem_cons] at hq
        rcases hq with hq | hq
        · rw [if_pos hq]
        · exact absurd hq h1
    · show look (removeAll (removeS s k) l).names q = _
      rw [List.mem_cons, not_or] at hq
      rw [hl3 q hq.2, hlk, if_neg hq.1]
theorem removeAll_nil {s : DS} {n : Nat} (h : DsOk s n) (hf : Free s) : (removeAll s ((sortedK s.names).map ofL)).names = [] := by
  obtain ⟨o, _, hl, hl2⟩ := removeAll_facts ((sortedK s.names).map ofL) h hf (nodup_sortedK h.good.keys) (fun k hk => mem_sortedK.1 hk)
  have hnone : ∀ q, look (removeAll s ((sortedK s.names).map ofL)).names q = none := fun q => by
    by_cases hq : q ∈ (sortedK s.names).map ofL
    · exact hl q hq
    · rw [hl2 q hq]
      rw [mem_sortedK] at hq
      cases hlq : look s.names q with
      | none => rfl
      | some v => rw [hlq] at hq; exact absurd rfl hq
  cases hd : (removeAll s ((sortedK s.names).map ofL)).names with
  | nil => rfl
  | cons e d =>
    have := hnone e.1
    rw [hd, look_cons, if_pos rfl] at this
    cases this
theorem region_quiet_at {P : Program} {C : World → Prop} {id : Nat} {Q : Exit → Act → World → Prop} {a : Act} {w : World} {l : List Oper} (hm : P.follows .mixedOrders = true) (hB : Region.lexB .any l.toArray = true) (hC : C { w with drawn := w.drawn + 1 })
    (h : wpQuiet P l.toArray C (fun a' => ∀ w', C w' → Q .normal a' w') l a) : (Code.region id l.toArray true).wp P Q a w :=
  wp_region_quiet (C := C) hm hB hC (by simpa using h)
set_option maxRecDepth 100000 in
set_option maxHeartbeats 6400000 in
theorem disksFull_small (a : Option Addr) (len cap : Nat) (l : List ActV) (n : Nat) (hn : n < 256) (w : World) (h : ActsAt w a len l) (hsz : ∀ v ∈ l, v.dn ≤ 140737488351232) (hlen : len ≤ 40) :
    Calls Try.prog 7 #[.int .u8 (n : Int), .slice a len cap] w fun e w' => e = .returned (.bool true) ∧ Below w.heap.size w w' := by
  have H := hid h
  have HSz := hid hsz
  have b1 : decide ((40 : Int) < (len : Int)) = false := by simp; omega
  clear hsz
  obtain ⟨M, hM⟩ : ∃ M : Nat, M = n % 201 := ⟨_, rfl⟩
  have hM200 : M ≤ 200 := by omega
  have HMM := hid hM
  clear h
  go_enter Try.func7, Try.ntmps7
  go_wp2_with fail
  rw [show ((n : Int) % 201) = (M : Int) by omega]
  clear hM
  refine (new_any (M : Int) (by omega) (by omega) w).mono ?_
  rintro e w1 ⟨rfl, hD1, hB1⟩
  obtain ⟨m1, hm1⟩ : ∃ m, m = newM w.heap.size := ⟨_, rfl⟩
  have hf1 : ∀ k, k ∈ m1.fp → w.heap.size ≤ k := by rw [hm1]; exact newM_fresh _
  rw [← hm1] at hD1 ⊢
  have HD1 := hid hD1
  have HB1 := hid hB1
  have HF1 := hid hf1
  obtain ⟨D, hDe⟩ : ∃ D, D = m1.D := ⟨_, rfl⟩
  rw [← hDe]
  have HDe := hid hDe
  clear hD1 hB1 hm1 hf1 hDe
  go_wp2_with fail
  go_loopw [8] (fun i wr => ∃ (j : Nat) (m : DM) (S : DS), i = .int .i64 j ∧ j ≤ len ∧ m.D = D ∧ DiskAt wr m S ∧ DsOk S (2 * j) ∧ Free S ∧ S.room = (M : Int) ∧ usedN S ≤ M ∧ Below w.heap.size w wr ∧ (∀ k, k ∈ m.fp → w.heap.size ≤ k)) (fun i _ => len - (intOf i).toNat)
  case atStart => exact ⟨0, m1, newS (M : Int), rfl, Nat.zero_le _, HDe.out.symm, HD1.out, DsOk.new (by omega) (by omega), Free.new _, rfl, Nat.zero_le _, HB1.out, HF1.out⟩
  case round =>
    obtain ⟨j, m, S, rfl, hj, hmD, hd, ho, hfr, hrm, hus, hb, hf⟩ := hrel
    subst hmD
    have HM := hid hd
    have O := hid ho
    have F := hid hfr
    have HRm := hid hrm
    have HB := hid hb
    have HF := hid hf
    clear hd ho hfr hrm hb hf
    by_cases hlt : j < len
    · obtain ⟨b, off, v, rfl, hv, hok, hbl, hc⟩ := H.out.cells hlt
      have i1 : (0 : Int) ≤ (j : Int) := by omega
      have i2 : (j : Int) < (len : Int) := by omega
      have hcc := fun (w' : World) (hB : Below w.heap.size w w') (i : Nat) u (hu : v.cells[i]? = some u) => (hB.cell (p := ⟨b, off + (j * 7 + i), none⟩) hbl).trans (hc i u hu)
      have HCC := hid hcc
      have HV := hid hok
      have hw := hok.what
      have hdn := HSz.out v (List.mem_of_getElem? hv)
      have O2 := hid (O.out.act v)
      have F2 := hid (F.out.act v)
      have HR2 := hid ((room_act F.out v).trans HRm.out)
      have hu2 : usedN (actS S v) ≤ M := by have := used_act O.out v (by rw [HRm.out]; omega); rw [HRm.out] at this; omega
      clear hcc hc hv hok
      go_wp2_with fail
      refine (used_any m S wr HM.out O.out.good.ok (by omega)).mono ?_
      rintro e w2 ⟨rfl, hB2⟩
      have HM := hid (HM.out.below hB2)
      have HB := hid (below_on HB.out (Nat.le_refl _) hB2)
      clear hB2
      have c0 : w2.cell? ⟨b, off + j * 7, none⟩ = _ := HCC.out w2 HB.out 0 _ rfl
      have c1 : w2.cell? ⟨b, off + j * 7 + 1, none⟩ = _ := HCC.out w2 HB.out 1 _ rfl
      have c2 : w2.cell? ⟨b, off + j * 7 + 2, none⟩ = _ := HCC.out w2 HB.out 2 _ rfl
      have c3 : w2.cell? ⟨b, off + j * 7 + 3, none⟩ = _ := HCC.out w2 HB.out 3 _ rfl
      have c4 : w2.cell? ⟨b, off + j * 7 + 4, none⟩ = _ := HCC.out w2 HB.out 4 _ rfl
      have c5 : w2.cell? ⟨b, off + j * 7 + 5, none⟩ = _ := HCC.out w2 HB.out 5 _ rfl
      have c6 : w2.cell? ⟨b, off + j * 7 + 6, none⟩ = _ := HCC.out w2 HB.out 6 _ rfl
      go_wp2_with fail
      refine (changes_any m S (2 * j) v w2 HM.out O.out (by omega) (HV.out.below HB.out) (HV.out.apart HF.out)).mono ?_
      rintro e w3 ⟨m', rfl, hd3, hD3, hm3⟩
      have HM3 := hid hd3
      have hfr := hm3.fresh (B := w.heap.size) HB.out.size HF.out
      have HF3 := hid hfr.1
      have HB3 := hid (HB.out.trans hfr.2)
      have HD3 := hid hD3
      clear hd3 hm3 hfr hD3 c0 c1 c2 c3 c4 c5 c6
      go_wp2_with fail
      rw [← HD3.out]
      refine (used_any m' (actS S v) w3 HM3.out O2.out.good.ok (by omega)).mono ?_
      rintro e w4 ⟨rfl, hB4⟩
      rw [HD3.out]
      have HM4 := hid (HM3.out.below hB4)
      have HB4 := hid (below_on HB3.out (Nat.le_refl _) hB4)
      clear hB4 HM3
      have t1 : decide ((M : Int) < (usedN (actS S v) : Int)) = false := by simp; omega
      have c0 : w4.cell? ⟨b, off + j * 7, none⟩ = _ := HCC.out w4 HB4.out 0 _ rfl
      have fin : ∀ w', Below w4.heap.size w4 w' → Hid (∃ (j_1 : Nat) (m_1 : DM) (S_1 : DS), Value.int .i64 ((j : Int) + 1) = .int .i64 (j_1 : Int) ∧ j_1 ≤ len ∧ m_1.D = m.D ∧ DiskAt w' m_1 S_1 ∧ DsOk S_1 (2 * j_1) ∧ Free S_1 ∧ S_1.room = (M : Int) ∧ usedN S_1 ≤ M ∧ Below w.heap.size w w' ∧ (∀ k, k ∈ m_1.fp → w.heap.size ≤ k)) := fun w' hB' =>
        hid ⟨j + 1, m', actS S v, by go_num, by omega, HD3.out, HM4.out.below hB', by rw [show 2 * (j + 1) = 2 * j + 2 by omega]; exact O2.out, F2.out, HR2.out, hu2, below_on HB4.out (Nat.le_refl _) hB', HF3.out⟩
      have FIN := hid fin
      clear fin
      by_cases hk6 : v.what % 11 < 6
      · rw [decide_eq_true hk6]
        by_cases hk1 : v.what % 11 = 1
        · have r1 : ((v.what : Int) % 11 == 1) = true := by simp; omega
          have hsays := append_says O.out hk1
          rw [HRm.out] at hsays
          obtain ⟨E, hE⟩ : ∃ E, E = actE S v := ⟨_, rfl⟩
          obtain ⟨U, hU⟩ : ∃ U, U = usedN S := ⟨_, rfl⟩
          obtain ⟨V, hV⟩ : ∃ V, V = usedN (actS S v) := ⟨_, rfl⟩
          rw [← hE, ← hU, ← hV] at hsays
          rw [HV.out.d0] at hsays
          have HSA : Hid (∀ w', Below w4.heap.size w4 w' → w'.cell? ⟨b, off + j * 7 + 4, none⟩ = some (.slice v.dq v.dn v.dc)) := hid fun w' hB' => HCC.out w' (below_on HB4.out (Nat.le_refl _) hB') 4 _ rfl
          rw [← hE, ← hU, ← hV]
          rw [← hV] at hu2 t1
          rw [← hU] at hus
          have HVV := hid hV
          have hwr : IntKind.i64.wrap ((U : Int) + (v.dn : Int)) = (U : Int) + (v.dn : Int) := by rw [IntKind.wrap_i64]; omega
          clear hE hU hV
          obtain ⟨CC, hCC⟩ : ∃ C : World → Prop, C = fun w' => Below w4.heap.size w4 w' := ⟨_, rfl⟩
          have CD : CC { w4 with drawn := w4.drawn + 1 } := by rw [hCC]; exact (Below.refl _ _).drew
          have HCC2 : Hid (∀ w', CC w' → Below w4.heap.size w4 w') := hid (by rw [hCC]; exact fun _ h => h)
          have HSA2 : Hid (∀ w', CC w' → w'.cell? ⟨b, off + j * 7 + 4, none⟩ = some (.slice v.dq v.dn v.dc)) := hid fun w' h => HSA.out w' (HCC2.out w' h)
          have USED : Hid (∀ w', CC w' → Calls Try.prog 28 #[.pointer (some ⟨m.D, 0, none⟩)] w' fun e w'' => e = .returned (.int .i64 (V : Int)) ∧ CC w'') := hid fun w' h => by
            have hb := HCC2.out w' h
            rw [← HD3.out]
            refine (used_any m' (actS S v) w' (HM4.out.below hb) O2.out.good.ok (by rw [← HVV.out]; omega)).mono ?_
            rintro e w5 ⟨rfl, hB5⟩
            rw [← HVV.out, hCC]
            exact ⟨rfl, below_on hb (Nat.le_refl _) hB5⟩
          clear hCC HSA
          rcases hsays with ⟨e1, e2⟩ | ⟨e1, e2, e3⟩ | ⟨e1, e2, e3⟩
          · have q0 : (E == 0) = true := by simp [e1]
            have q9 : (E == 9) = false := by simp [e1]
            have q0' : (E != 0) = false := by simp [e1]
            clear e1
            have q1 : ((V : Int) != (U : Int) + (v.dn : Int)) = false := by simp; omega
            clear e2 hk1
            go_upto_region 15 with fail
            refine region_quiet_at (C := CC) (by kernel_rfl) (by kernel_rfl) CD ?_
            repeat (go_big_quiet_step ((intro hw'; first | (with_reducible exact rfl) | (have hc := HSA2.out _ hw'; go_simp; with_reducible exact rfl) | (go_at_call 28; exact USED.out _ hw'))))
            refine wpQuiet_nil ?_
            intro w5 hw5
            have HW5 := hid (HCC2.out w5 hw5)
            clear hw5
            go_wp2_with fail
            go_roundw
            case rel => exact (FIN.out w5 HW5.out).out
            case measure => simp [intOf]; omega
          · have q0 : (E == 0) = false := by simp [e1]
            have q9 : (E == 9) = true := by simp [e1]
            have q0' : (E != 0) = true := by simp [e1]
            have q9' : (E != 9) = false := by simp [e1]
            clear e1
            have q1 : decide ((U : Int) + (v.dn : Int) ≤ (M : Int)) = false := by simp; omega
            have q2 : ((V : Int) != (U : Int)) = false := by simp; omega
            clear e2 e3 hk1
            go_upto_region 15 with fail
            refine region_quiet_at (C := CC) (by kernel_rfl) (by kernel_rfl) CD ?_
            repeat (go_big_quiet_step ((intro hw'; first | (with_reducible exact rfl) | (have hc := HSA2.out _ hw'; go_simp; with_reducible exact rfl) | (go_at_call 28; exact USED.out _ hw'))))
            refine wpQuiet_nil ?_
            intro w5 hw5
            have HW5 := hid (HCC2.out w5 hw5)
            clear hw5
            go_wp2_with fail
            go_roundw
            case rel => exact (FIN.out w5 HW5.out).out
            case measure => simp [intOf]; omega
          · have q0 : (E == 0) = false := by simpa using e1
            have q9 : (E == 9) = false := by simpa using e2
            have q0' : (E != 0) = true := by simpa using e1
            have q9' : (E != 9) = true := by simpa using e2
            have q2 : ((V : Int) != (U : Int)) = false := by simp; omega
            clear e1 e2 e3 hk1
            go_upto_region 15 with fail
            refine region_quiet_at (C := CC) (by kernel_rfl) (by kernel_rfl) CD ?_
            repeat (go_big_quiet_step ((intro hw'; first | (with_reducible exact rfl) | (have hc := HSA2.out _ hw'; go_simp; with_reducible exact rfl) | (go_at_call 28; exact USED.out _ hw'))))
            refine wpQuiet_nil ?_
            intro w5 hw5
            have HW5 := hid (HCC2.out w5 hw5)
            clear hw5
            go_wp2_with fail
            go_roundw
            case rel => exact (FIN.out w5 HW5.out).out
            case measure => simp [intOf]; omega
        · have r1 : ((v.what : Int) % 11 == 1) = false := by simp; omega
          go_wp2_with fail
          go_roundw
          case rel => exact (FIN.out w4 (Below.refl _ _)).out
          case measure => simp [intOf]; omega
      · rw [decide_eq_false hk6]
        go_wp2_with fail
        go_roundw
        case rel => exact (FIN.out w4 (Below.refl _ _)).out
        case measure => simp [intOf]; omega
    · have hjN : j = len := by omega
      obtain ⟨N, hN⟩ : ∃ N, N = (sortedK S.names).length := ⟨_, rfl⟩
      have hN80 : N ≤ 80 := by rw [hN]; exact Nat.le_trans (sorted_many O.out) (by omega)
      have HN := hid hN
      clear hN
      go_wp2_with fail
      refine (list_any m S wr HM.out (keysOf O.out (by omega))).mono ?_
      rintro e w8 ⟨q8, rfl, hF8, hB5⟩
      rw [← HN.out] at hF8 ⊢
      have hq8 : ∀ nb off, q8 = some ⟨nb, off, none⟩ → nb ∉ m.fp ∧ w.heap.size ≤ nb := fun nb off e => ⟨fun h => by
        have h1 := HM.out.lt nb h
        have h2 := fr_base hF8 e
        omega, Nat.le_trans HB.out.size (fr_base hF8 e)⟩
      have HF8 := hid hF8.rd
      have HQ8 := hid hq8
      have HM := hid (HM.out.below hB5)
      have HB := hid (below_on HB.out (Nat.le_refl _) hB5)
      clear hB5 hF8 hq8
      obtain ⟨NL, hNL⟩ : ∃ NL, NL = (sortedK S.names).map ofL := ⟨_, rfl⟩
      have hNLn : NL.length = N := by rw [hNL, List.length_map, ← HN.out]
      have hNd : NL.Nodup := by rw [hNL]; exact nodup_sortedK O.out.good.keys
      have HNL := hid hNL
      have HNLn := hid hNLn
      have HNd := hid hNd
      clear hNL hNLn hNd
      obtain ⟨D, hDe⟩ : ∃ D, D = m.D := ⟨_, rfl⟩
      rw [← hDe]
      have HDe := hid hDe
      clear hDe
      go_wp2_with fail
      go_loopw [13] (fun i wr => ∃ (k : Nat) (m2 : DM), i = .int .i64 k ∧ k ≤ N ∧ m2.D = D ∧ DiskAt wr m2 (removeAll S (NL.take k)) ∧ Below w.heap.size w wr ∧ (∀ k, k ∈ m2.fp → w.heap.size ≤ k) ∧ Rd wr q8 ((sortedK S.names).map encStr) ∧ (∀ nb off, q8 = some ⟨nb, off, none⟩ → nb ∉ m2.fp)) (fun i _ => N - (intOf i).toNat)
      case atStart => exact ⟨0, m, rfl, Nat.zero_le _, HDe.out.symm, HM.out, HB.out, HF.out, HF8.out, fun nb off e => (HQ8.out nb off e).1⟩
      case round =>
        obtain ⟨k, m2, rfl, hk, hmD, hd, hb, hf, hq, hqn⟩ := hrel
        subst hmD
        have HD := hid hd
        have HB := hid hb
        have HF := hid hf
        have HQ := hid hq
        have HQn := hid hqn
        clear hd hb hf hq hqn
        obtain ⟨ox, fx, lx, ly⟩ := removeAll_facts (NL.take k) O.out F.out ((List.take_sublist _ _).nodup HNd.out) (fun q hq => mem_sortedK.1 (by rw [← HNL.out]; exact List.mem_of_mem_take hq))
        have OX := hid ox
        have FX := hid fx
        have LY := hid ly
        have htk : (NL.take k).length ≤ 80 := by rw [List.length_take]; omega
        clear ox fx lx ly
        by_cases hlt2 : k < N
        · obtain ⟨b1, o1, kk, rfl, hc1, hkk⟩ := names_at HQ.out (by rw [← HN.out]; exact hlt2)
          rw [← HNL.out] at hkk
          have i1 : (0 : Int) ≤ (k : Int) := by omega
          have i2 : (k : Int) < (N : Int) := by omega
          have hnt : kk ∉ NL.take k := by
            intro hm
            obtain ⟨i, hi⟩ := List.mem_iff_getElem?.1 hm
            have hik : i < k := by have := (List.getElem?_eq_some_iff.1 hi).1; rw [List.length_take] at this; omega
            rw [List.getElem?_take_of_lt hik] at hi
            have h1 := (List.getElem?_eq_some_iff.1 hi)
            have h2 := (List.getElem?_eq_some_iff.1 hkk)
            have := (List.getElem_inj HNd.out).1 (h1.2.trans h2.2.symm)
            omega
          have hkm : kk ∈ (sortedK (removeAll S (NL.take k)).names).map ofL := by
            rw [mem_sortedK, LY.out kk hnt, ← mem_sortedK, ← HNL.out]
            exact List.mem_of_getElem? hkk
          have hk0 := (sorted_at OX.out FX.out.dead hkm).1
          have hks := knownE_size hk0
          have hrm := (remove_free OX.out FX.out hk0).1
          have HKK := hid hkk
          have HRm2 := hid hrm
          clear hkk hkm hk0 hnt hrm
          go_wp2_with fail
          refine (remove_any m2 (removeAll S (NL.take k)) kk hks wr HD.out OX.out.f0 OX.out.f1 (Nat.le_trans OX.out.changes (by omega))).mono ?_
          rintro e w9 ⟨m3, rfl, hd9, hD9, hm9⟩
          rw [HRm2.out]
          have HD9 := hid hd9
          have HM9 := hid hm9
          have hfr := hm9.fresh (B := w.heap.size) HB.out.size HF.out
          have HFr := hid hfr
          have hlq : ∀ nb off, some (⟨b1, o1, none⟩ : Addr) = some ⟨nb, off, none⟩ → nb ∉ m3.fp := fun nb off e h => by
            rcases hm9.grow nb h with g | g
            · exact HQn.out nb off e g
            · have : b1 < wr.heap.size := World.block_lt_of_cell? wr _ hc1
              cases e
              omega
          have HLq := hid hlq
          have HDD := hid hD9
          clear hd9 hm9 hfr hlq hD9
          go_wp2_with fail
          go_roundw
          case rel =>
            refine ⟨k + 1, m3, by go_num, by omega, HDD.out, ?_, HB.out.trans HFr.out.2, HFr.out.1, HQ.out.mod HM9.out HQn.out, HLq.out⟩
            rw [List.take_succ_eq_append_getElem (by rw [HNLn.out]; exact hlt2), removeAll_snoc, (List.getElem?_eq_some_iff.1 HKK.out).2]
            exact HD9.out
          case measure => simp [intOf]; omega
        · have hkN : k = N := by omega
          have hd := HD.out
          have hox := OX.out
          rw [hkN, List.take_of_length_le (by rw [HNLn.out]; exact Nat.le_refl _), HNL.out] at hd hox
          have hz := removeAll_nil O.out F.out
          have HD := hid hd
          have OX := hid hox
          obtain ⟨Z, hZ⟩ : ∃ Z, Z = removeAll S ((sortedK S.names).map ofL) := ⟨_, rfl⟩
          have hlN : ((sortedK S.names).map ofL).length ≤ 80 := by rw [← HNL.out, HNLn.out]; exact hN80
          rw [← hZ] at HD OX hz
          have hu0 : usedN Z = 0 := by unfold usedN; rw [hz]; rfl
          have hs0 : (sortedK Z.names).length = 0 := by rw [sortedK_len, hz]; rfl
          have HU := hid hu0
          have HS0 := hid hs0
          clear hd hox hz hZ hu0 hs0 HQ LY FX
          go_wp2_with fail
          refine (used_any m2 Z wr HD.out OX.out.good.ok (by rw [HU.out]; decide)).mono ?_
          rintro e w9 ⟨rfl, hB9⟩
          rw [HU.out]
          have HD := hid (HD.out.below hB9)
          have HB := hid (below_on HB.out (Nat.le_refl _) hB9)
          clear hB9
          go_wp2_with fail
          refine (list_any m2 Z w9 HD.out (keysOf OX.out (by omega))).mono ?_
          rintro e w10 ⟨q10, rfl, _, hB10⟩
          rw [HS0.out]
          have HB := hid (below_on HB.out (Nat.le_refl _) hB10)
          clear hB10
          go_wp2_with fail
          refine (lives4_any w10).mono ?_
          rintro e w12 ⟨rfl, hB5⟩
          go_wp2_with fail
          go_ret
          exact ⟨rfl, below_on HB.out (Nat.le_refl _) hB5⟩
set_option maxRecDepth 100000 in
theorem disksFull_any (a : Option Addr) (len cap : Nat) (l : List ActV) (n : Nat) (hn : n < 256) (w : World) (h : ActsAt w a len l) (hsz : ∀ v ∈ l, v.dn ≤ 140737488351232) (hlen' : len ≤ 9223372036854775807) :
    Calls Try.prog 7 #[.int .u8 (n : Int), .slice a len cap] w fun e w' => e = .returned (.bool true) ∧ Below w.heap.size w w' := by
  by_cases hlen : len ≤ 40
  · exact disksFull_small a len cap l n hn w h hsz hlen
  · have b1 : decide ((40 : Int) < (len : Int)) = true := by simp; omega
    clear h hlen hsz
    go_enter Try.func7, Try.ntmps7
    go_wp2_with fail
    refine (lives4_any _).mono ?_
    rintro e w12 ⟨rfl, hB5⟩
    go_wp2_with fail
    go_ret
    exact ⟨rfl, hB5⟩
end Go.Proofs.Herb
