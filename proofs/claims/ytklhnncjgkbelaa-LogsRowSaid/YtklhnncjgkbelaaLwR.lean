/- The contract of LogsRow: it answers true. For records that can be read. -/
import Derived.Test.YtklhnncjgkbelaaSame
import Derived.Test.YtklhnncjgkbelaaRowS
import Derived.Test.YtklhnncjgkbelaaOpR
import Derived.BigQuiet
namespace Go.Proofs.Herb
open Go.RowKit Go.Sort
theorem RowsAt.rd {w : World} {a : Option Addr} {len : Nat} {ls : List (List UInt8)} (h : RowsAt w a len ls) : RdRows w a ls := fun i l hl => by
  rcases h.2 with rfl | ⟨b, off, ha, hc⟩
  · simp at hl
  · obtain ⟨q, c, h1, _, _, h4, _⟩ := hc i l hl
    exact ⟨b, off, q, c, ha, h1, h4⟩
theorem infoInt3 : (Try.prog.info? 3).map (fun i => (i.zero, i.size, i.bytes)) = some (some (.int .i64 0), 1, 8) := by kernel_rfl
theorem below_onR {B : Nat} {a w w' : World} (h : Below B a w) (hB : B ≤ a.heap.size) (k : Below w.heap.size w w') : Below B a w' := h.trans (k.mono (Nat.le_trans hB h.size))
theorem region_quiet_atR {P : Program} {C : World → Prop} {id : Nat} {Q : Exit → Act → World → Prop} {a : Act} {w : World} {l : List Oper} (hm : P.follows .mixedOrders = true) (hB : Region.lexB .any l.toArray = true) (hC : C { w with drawn := w.drawn + 1 })
    (h : wpQuiet P l.toArray C (fun a' => ∀ w', C w' → Q .normal a' w') l a) : (Code.region id l.toArray true).wp P Q a w :=
  wp_region_quiet (C := C) hm hB hC (by simpa using h)
/-- how many bytes are sure behind so many records -/
def sureN (ls : List (List UInt8)) (n j : Nat) : Nat := if n < j then (logB (ls.take n)).length else 0
/-- where the records end -/
def endV (ls : List (List UInt8)) (i : Nat) : Value := .int .i64 ((logB (ls.take (i + 1))).length : Int)
theorem endV_snoc (ls : List (List UInt8)) (j : Nat) : (List.range (j + 1)).map (endV ls) = (List.range j).map (endV ls) ++ [endV ls j] := by rw [List.range_succ, List.map_append]; rfl
theorem sureN_le {ls : List (List UInt8)} {n j : Nat} (hj : j ≤ ls.length) : sureN ls n j ≤ (logB (ls.take j)).length := by
  unfold sureN; split
  · exact logB_le (by omega) hj
  · omega
set_option maxRecDepth 100000 in
set_option maxHeartbeats 800000 in
theorem few_any (a : Option Addr) (len cap : Nat) (ls : List (List UInt8)) (w : World) (h : RowsAt w a len ls) (hs : ∀ l ∈ ls, l.length ≤ 140737488351232) (hlen : len ≤ 9223372036854775807) :
    Calls Try.prog 20 #[.slice a len cap] w fun e w' => e = .returned (.bool (decide (fewN ls < 20000))) ∧ w = w' := by
  have H := hid h
  have HS := hid hs
  have HL := hid h.1
  clear h hs
  go_enter Try.func20, Try.ntmps20
  go_wp2_with fail
  go_loop [3, 4] (fun n i => ∃ j F : Nat, j ≤ len ∧ i = .int .i64 j ∧ n = .int .i64 F ∧ F = fewN (ls.take j) ∧ F ≤ 140737488371300) (fun _ i => len - (intOf i).toNat)
  case atStart => exact ⟨0, 0, Nat.zero_le _, rfl, rfl, rfl, by decide⟩
  case round =>
    obtain ⟨j, F, hj, rfl, rfl, hF, hFb⟩ := hrel
    have HF := hid hF
    clear hF
    by_cases hlt : j < len
    · by_cases hn : F < 20000
      · obtain ⟨b, off, q, c, l, rfl, hl, hc, _, _, _, _⟩ := H.out.at_ hlt
        have hll := HS.out l (List.mem_of_getElem? hl)
        have hjl : j < ls.length := by rw [HL.out]; exact hlt
        have hlj : ls[j] = l := (List.getElem?_eq_some_iff.1 hl).2
        have hft := fewN_take hjl
        rw [hlj, ← HF.out] at hft
        obtain ⟨L, hL⟩ : ∃ L, L = l.length := ⟨_, rfl⟩
        rw [← hL] at hc hll hft
        have HT := hid hft
        have i0 : (0 : Int) ≤ (j : Int) := by omega
        have i1 : (j : Int) < (len : Int) := by omega
        have d1 : decide ((F : Int) < 20000) = true := by simp; omega
        clear hl hlj hft hL hjl
        go_wp2_with fail
        go_round
        case rel => exact ⟨j + 1, F + L + 20, by omega, by go_num, by go_num, by rw [HT.out], by omega⟩
        case measure => simp [intOf]; omega
      · have d1 : decide ((F : Int) < 20000) = false := by simp; omega
        have hd : decide (fewN ls < 20000) = false := by
          have := fewN_take_le (ls := ls) j
          rw [← HF.out] at this
          simp; omega
        have HD := hid hd
        clear hd
        go_wp2_with fail
        go_ret
        exact ⟨by rw [HD.out]; rfl, rfl⟩
    · have hd : decide (fewN ls < 20000) = decide ((F : Int) < 20000) := by
        have := HF.out
        rw [List.take_of_length_le (by rw [HL.out]; omega)] at this
        rw [← this, Bool.eq_iff_iff, decide_eq_true_iff, decide_eq_true_iff]; omega
      have HD := hid hd
      clear hd
      go_wp2_with fail
      go_ret
      exact ⟨by rw [HD.out]; rfl, rfl⟩
/-- what is told of a beginning of the records' bytes -/
theorem row_told {ls : List (List UInt8)} (hbig : ∀ l ∈ ls, l.length ≤ 65536) {t K : Nat} (ht : t ≤ ls.length) (h1 : (logB (ls.take t)).length ≤ K) (h2 : K ≤ (logB ls).length) (h3 : t < ls.length → K < (logB (ls.take (t + 1))).length) :
    allL (rowS ((logB ls).take K) K) kA = ls.take t ∧ allW (rowS ((logB ls).take K) K) kA = ((K : Int) == ((logB (ls.take t)).length : Int)) := by
  have h4 := recs_cut ls hbig t K ht h1 h3
  have h5 := recs_logB _ (ls.take t) rfl (fun l hl => hbig l (List.mem_of_mem_take hl))
  have hk : ((logB ls).take K).length = K := by rw [List.length_take]; omega
  unfold allL allW
  rw [row_read, row_known, h4, h5.1, h5.2, hk]
  refine ⟨rfl, ?_⟩
  rw [Bool.eq_iff_iff]
  simp
  omega
theorem ends_step {w5 w6 : World} {m4 : DM} {S : DS} {v v3 : Value} {o : Obj} (HD : DiskAt w5 m4 S) (hna : ∀ g, v.ownBlock = some g → g ∉ m4.fp) (hg : (w5.alloc o).grownBy w6 v.ownBlock) (hat : v3.ownBlock = v.ownBlock ∨ v3.ownBlock = some (w5.alloc o).heap.size) :
    DiskAt w6 m4 S ∧ ∀ g, v3.ownBlock = some g → g ∉ m4.fp := by
  have h1 := HD.below ((Below.refl w5.heap.size w5).alloc (Nat.le_refl _) o)
  refine ⟨h1.keep fun k hk => hg.block k (h1.lt k hk) (fun e => hna k e.symm hk), fun g hg3 => ?_⟩
  rcases hat with h | h
  · rw [h] at hg3; exact hna g hg3
  · rw [h] at hg3
    cases hg3
    intro hm
    have := h1.lt _ hm
    omega
set_option maxRecDepth 100000 in
set_option maxHeartbeats 6400000 in
theorem logsRow_main (a : Option Addr) (len cap : Nat) (ls : List (List UInt8)) (n1 n2 : Nat) (hn1 : n1 < 256) (hn2 : n2 < 65536) (w : World) (h : RowsAt w a len ls) (hs : ∀ l ∈ ls, l.length ≤ 140737488351232) (hcap : len ≤ cap) (hfew : fewN ls < 20000) :
    Calls Try.prog 6 #[.slice a len cap, .int .u8 (n1 : Int), .int .u16 (n2 : Int)] w fun e w' => e = .returned (.bool true) ∧ Below w.heap.size w w' := by
  have hlen : len ≤ 1000 := by have := fewN_len ls; rw [h.1] at this; omega
  have hbig : ∀ l ∈ ls, l.length ≤ 65536 := fun l hl => by have := fewN_mem hl; omega
  have hB : ∀ k, k ≤ len → (logB (ls.take k)).length ≤ 400000 := fun k hk => by
    have h1 := logB_len ls k (by rw [h.1]; exact hk)
    have h2 := fewN_take_le (ls := ls) k
    omega
  obtain ⟨NN, hNN⟩ : ∃ N, N = n1 % (len + 1) := ⟨_, rfl⟩
  have hNl : NN ≤ len := by have := Nat.mod_lt n1 (show 0 < len + 1 by omega); omega
  have HL := hid h.1
  have H := hid h
  have HBig := hid hbig
  have HB := hid hB
  have HNN := hid hNN
  have hff : decide (fewN ls < 20000) = true := by simpa using hfew
  have HFF := hid hff
  have HS := hid hs
  clear h hbig hB hNN hff hs hfew
  go_enter Try.func6, Try.ntmps6
  go_wp2_with fail
  refine (few_any a len cap ls w H.out HS.out (by omega)).mono ?_
  rintro e w' ⟨rfl, rfl⟩
  rw [HFF.out]
  go_wp2_with fail
  refine (mk_any 1048576 none 0 0 [] w rfl (Nat.le_refl _) (by unfold maxLen; decide) (.inl rfl) (fun _ => rfl) (by decide) (by decide)).mono ?_
  rintro e w1 ⟨m1, rfl, hD1, hF1, hB1⟩
  have HD1 := hid hD1
  have HF1 := hid hF1
  have HB1 := hid hB1
  clear hD1 hF1 hB1
  go_wp2_with fail
  refine (syncDir_ok m1 (oneS 1048576 []) w1 HD1.out (by simp [oneS]) (by simp [oneS]) rfl rfl).mono ?_
  rintro e w2 ⟨n, rfl, hD2, hM2⟩
  rw [row_start] at hD2
  obtain ⟨m2, hm2, hmD⟩ : ∃ m2, m2 = ({ m1 with S := n, cv := .slice none 0 0 } : DM) ∧ m1.D = m2.D := ⟨_, rfl, rfl⟩
  rw [← hm2] at hD2 hM2
  rw [hmD]
  have hfr := hM2.fresh (B := w.heap.size) HB1.out.size HF1.out
  have HD2 := hid hD2
  have HF2 := hid hfr.1
  have HB2 := hid (HB1.out.trans hfr.2)
  obtain ⟨D, hDe⟩ : ∃ D, D = m2.D := ⟨_, rfl⟩
  rw [← hDe]
  have HDe := hid hDe
  clear hD2 hM2 hm2 hmD hfr hDe HD1 HF1 HB1
  go_wp2_with fail
  rw [show ((n1 : Int) % ((len : Int) + 1)) = (NN : Int) from by rw [HNN.out]; simp]
  go_loopw [9, 10] (fun v i wr => ∃ (j : Nat) (m : DM), i = .int .i64 j ∧ j ≤ len ∧ m.D = D ∧ DiskAt wr m (rowS (logB (ls.take j)) (sureN ls NN j)) ∧ Below w.heap.size w wr ∧ (∀ k, k ∈ m.fp → w.heap.size ≤ k) ∧
    wr.ownsRow w.heap.size 3 1 v j ((List.range j).map (endV ls)) ∧ (∀ g, v.ownBlock = some g → g ∉ m.fp)) (fun _ i _ => len - (intOf i).toNat)
  case atStart => exact ⟨0, m2, rfl, Nat.zero_le _, HDe.out.symm, by simpa [logB, sureN] using HD2.out, HB2.out, HF2.out, World.ownsRow_nil _ _ _ _, fun g hg => by cases hg⟩
  case round =>
    obtain ⟨j, m, rfl, hj, hmD, hd, hb, hf, hown, hna⟩ := hrel
    subst hmD
    have HD := hid hd
    have HBl := hid hb
    have HF := hid hf
    have HO := hid hown
    have HNA := hid hna
    clear hd hb hf hown hna
    obtain ⟨qe, ce, rfl, hce, hcem, hqe⟩ := own_shape HO.out
    have hjs : j ≤ ls.length := by rw [HL.out]; exact hj
    have hBj := HB.out j hj
    by_cases hlt : j < len
    · obtain ⟨b, off, q, c, l, rfl, hl, hc0, hlc, hcm, hrd, hqn⟩ := H.out.at_ hlt
      have hll := HBig.out l (List.mem_of_getElem? hl)
      have hjl : j < ls.length := by rw [HL.out]; exact hlt
      have hlj : ls[j] = l := (List.getElem?_eq_some_iff.1 hl).2
      have hBs := HB.out (j + 1) hlt
      have hbk := logB_take hjl
      rw [hlj] at hbk
      obtain ⟨B, hBe⟩ : ∃ B, B = logB (ls.take j) := ⟨_, rfl⟩
      obtain ⟨B2, hB2e⟩ : ∃ B, B = logB (ls.take (j + 1)) := ⟨_, rfl⟩
      have HDx := HD.out
      rw [← hBe] at HDx hBj hbk
      rw [← hB2e] at hbk hBs
      have HD := hid HDx
      have hadd := fun n => row_add B l n hll (by rw [hbk, List.length_append] at hBs; omega)
      rw [← hbk] at hadd
      have HADD := hid hadd
      have hsle := sureN_le (ls := ls) (n := NN) hjs
      rw [← hBe] at hsle
      obtain ⟨L, hLe⟩ : ∃ L, L = l.length := ⟨_, rfl⟩
      rw [← hLe] at hc0 hlc
      have hcell := fun w' (hB : Below w.heap.size w w') => And.intro ((hB.cell (p := ⟨b, off + j, none⟩) (World.block_lt_of_cell? w _ hc0)).trans hc0) (hrd.below hB)
      have HCell := hid hcell
      have HLe := hid hLe
      have HBe := hid hBe
      have HB2e := hid hB2e
      have i0 : (0 : Int) ≤ (j : Int) := by omega
      have i1 : (j : Int) < (len : Int) := by omega
      have HBsz := hid hBs
      have hend : [Value.int .i64 (B2.length : Int)] = [endV ls j] := by rw [hB2e]; rfl
      have HEnd := hid hend
      have hq := fun w' (hB : Below w.heap.size w w') => (HCell.out w' hB).1
      clear HDx hl hlj hbk hBe hB2e hadd hrd hLe hjl hend hjs hc0 hcell
      by_cases hjn : j = NN
      · have e1 : ((j : Int) == (NN : Int)) = true := by simp; omega
        have hs1 : sureN ls NN (j + 1) = B.length := by unfold sureN; rw [if_pos (by omega), ← hjn, HBe.out]
        have HS1 := hid hs1
        clear hs1 hjn hsle hq
        go_wp2_with fail
        refine (sync_any m (rowS B (sureN ls NN j)) kA (by unfold maxLen; decide) wr HD.out (row_okS _ (by omega)).dir (by simp [rowS]) (by simp [rowS])).mono ?_
        rintro e w3 ⟨rfl, hD3, hM3⟩
        rw [(row_sync _ _).1]
        rw [(row_sync _ _).2] at hD3
        have hfr := hM3.fresh (B := w.heap.size) HBl.out.size HF.out
        have HD := hid hD3
        have HBl := hid (HBl.out.trans hfr.2)
        have HO := hid (own_keep HO.out fun g hg => hM3.block g (own_lt HO.out hg) (HNA.out g hg))
        obtain ⟨SU, hSU⟩ : ∃ n, n = B.length := ⟨_, rfl⟩
        have hc := (HCell.out w3 HBl.out).1
        rw [← hSU] at HD HS1
        have HSU := hid hSU
        clear hD3 hM3 hfr hSU
        go_wp2_with fail
        refine (add_any m (rowS B SU) kA (by unfold maxLen; decide) q L c l w3 HD.out (row_okS _ (by omega)) HLe.out.symm hlc hcm (HCell.out w3 HBl.out).2 hqn).mono ?_
        rintro e w4 ⟨m4, rfl, hD4, hmD4, hM4⟩
        rw [(HADD.out SU).1]
        rw [(HADD.out SU).2] at hD4
        have hfr := hM4.fresh (B := w.heap.size) HBl.out.size HF.out
        have HD4 := hid hD4
        have HF4 := hid hfr.1
        have HBl := hid (HBl.out.trans hfr.2)
        have HNA4 := hid (show ∀ g, (Value.slice qe j ce).ownBlock = some g → g ∉ m4.fp from fun g hg hm => by
          rcases hM4.grow g hm with h | h
          · exact HNA.out g hg h
          · have := own_lt HO.out hg; omega)
        have HO := hid (own_keep HO.out fun g hg => hM4.block g (own_lt HO.out hg) (HNA.out g hg))
        have HmD := hid hmD4
        clear hD4 hM4 hfr hmD4 hc HD HF HNA
        go_wp2_with fail
        rw [← HmD.out]
        refine (used_any m4 (rowS B2 SU) w4 HD4.out (row_okS _ (by omega)).dir (by rw [row_used]; omega)).mono ?_
        rintro e w5 ⟨rfl, hB5⟩
        rw [row_used, HmD.out]
        have HD4 := hid (HD4.out.below hB5)
        have HBl := hid (below_onR HBl.out (Nat.le_refl _) hB5)
        have HO := hid (own_below HO.out hB5)
        clear hB5
        go_wp2_with (refine wpList_append_at rfl (.tmp 62) (.tmp 65) 44 rfl w.heap.size 3 _ 1 8 Try.underlying44 infoInt3 rfl (by decide) (.slice qe j ce) j ((List.range j).map (endV ls)) rfl (own_below HO.out ((Below.refl w5.heap.size w5).alloc (Nat.le_refl _) _)) (some ⟨w5.heap.size, 0, none⟩) 1 1 [.int .i64 (B2.length : Int)] rfl (fun h => by cases h) rfl (Rd.new _ _ _) (by simp [Value.oneCell']) (by unfold maxLen; omega) (by omega) (by simp; have := HBl.out.size; omega) ?_; intro v3 w6 hown3 hg3 hat3)
        obtain ⟨hd6, hna6⟩ := ends_step HD4.out HNA4.out hg3 hat3
        rw [HEnd.out, ← endV_snoc] at hown3
        have hb6 : Below w.heap.size w w6 := (HBl.out.alloc HBl.out.size _).grown hg3 (by simp; have := HBl.out.size; omega) (fun k hk => (HO.out.lt k hk).1)
        go_roundw
        case rel => exact ⟨j + 1, m4, by go_num, by omega, HmD.out, by rw [HS1.out, ← HB2e.out]; exact hd6, hb6, HF4.out, hown3, hna6⟩
        case measure => simp [intOf]; omega
      · have e1 : ((j : Int) == (NN : Int)) = false := by simp; omega
        have hs1 : sureN ls NN (j + 1) = sureN ls NN j := by unfold sureN; by_cases h : NN < j; rw [if_pos h, if_pos (by omega)]; rw [if_neg h, if_neg (by omega)]
        obtain ⟨SU, hSU⟩ : ∃ n, n = sureN ls NN j := ⟨_, rfl⟩
        rw [← hSU] at hs1 HD
        have HS1 := hid hs1
        obtain ⟨w3, rfl⟩ : ∃ w3, w3 = wr := ⟨_, rfl⟩
        have hc := hq w3 HBl.out
        clear hs1 hjn hsle hSU hq
        go_wp2_with fail
        refine (add_any m (rowS B SU) kA (by unfold maxLen; decide) q L c l w3 HD.out (row_okS _ (by omega)) HLe.out.symm hlc hcm (HCell.out w3 HBl.out).2 hqn).mono ?_
        rintro e w4 ⟨m4, rfl, hD4, hmD4, hM4⟩
        rw [(HADD.out SU).1]
        rw [(HADD.out SU).2] at hD4
        have hfr := hM4.fresh (B := w.heap.size) HBl.out.size HF.out
        have HD4 := hid hD4
        have HF4 := hid hfr.1
        have HBl := hid (HBl.out.trans hfr.2)
        have HNA4 := hid (show ∀ g, (Value.slice qe j ce).ownBlock = some g → g ∉ m4.fp from fun g hg hm => by
          rcases hM4.grow g hm with h | h
          · exact HNA.out g hg h
          · have := own_lt HO.out hg; omega)
        have HO := hid (own_keep HO.out fun g hg => hM4.block g (own_lt HO.out hg) (HNA.out g hg))
        have HmD := hid hmD4
        clear hD4 hM4 hfr hmD4 hc HD HF HNA
        go_wp2_with fail
        rw [← HmD.out]
        refine (used_any m4 (rowS B2 SU) w4 HD4.out (row_okS _ (by omega)).dir (by rw [row_used]; omega)).mono ?_
        rintro e w5 ⟨rfl, hB5⟩
        rw [row_used, HmD.out]
        have HD4 := hid (HD4.out.below hB5)
        have HBl := hid (below_onR HBl.out (Nat.le_refl _) hB5)
        have HO := hid (own_below HO.out hB5)
        clear hB5
        go_wp2_with (refine wpList_append_at rfl (.tmp 62) (.tmp 65) 44 rfl w.heap.size 3 _ 1 8 Try.underlying44 infoInt3 rfl (by decide) (.slice qe j ce) j ((List.range j).map (endV ls)) rfl (own_below HO.out ((Below.refl w5.heap.size w5).alloc (Nat.le_refl _) _)) (some ⟨w5.heap.size, 0, none⟩) 1 1 [.int .i64 (B2.length : Int)] rfl (fun h => by cases h) rfl (Rd.new _ _ _) (by simp [Value.oneCell']) (by unfold maxLen; omega) (by omega) (by simp; have := HBl.out.size; omega) ?_; intro v3 w6 hown3 hg3 hat3)
        obtain ⟨hd6, hna6⟩ := ends_step HD4.out HNA4.out hg3 hat3
        rw [HEnd.out, ← endV_snoc] at hown3
        have hb6 : Below w.heap.size w w6 := (HBl.out.alloc HBl.out.size _).grown hg3 (by simp; have := HBl.out.size; omega) (fun k hk => (HO.out.lt k hk).1)
        go_roundw
        case rel => exact ⟨j + 1, m4, by go_num, by omega, HmD.out, by rw [HS1.out, ← HB2e.out]; exact hd6, hb6, HF4.out, hown3, hna6⟩
        case measure => simp [intOf]; omega
    · have hd := HD.out
      have ho := HO.out
      have hjN : j = len := by omega
      rw [hjN, List.take_of_length_le (by rw [HL.out]; exact Nat.le_refl _)] at hd
      rw [hjN] at ho
      obtain ⟨BL, hBL⟩ : ∃ B, B = logB ls := ⟨_, rfl⟩
      obtain ⟨SN, hSNe⟩ : ∃ n, n = (logB (ls.take NN)).length := ⟨_, rfl⟩
      have hSN : SN ≤ BL.length := by rw [hSNe, hBL]; exact (logB_pre ls NN (by rw [HL.out]; exact hNl)).length_le
      have hBLl : BL.length ≤ 400000 := by have := HB.out len (Nat.le_refl _); rw [List.take_of_length_le (by rw [HL.out]; exact Nat.le_refl _)] at this; rw [hBL]; exact this
      have hBLm : BL.length ≤ 4194304 := by omega
      have ha1 : allL (rowS BL SN) kA = ls ∧ allW (rowS BL SN) kA = true := by
        have h5 := recs_logB _ ls rfl HBig.out
        rw [← hBL] at h5
        unfold allL allW
        rw [row_read, row_known, h5.1, h5.2]
        exact ⟨rfl, by simp⟩
      rw [← hBL] at hd
      obtain ⟨be, oe, hqo⟩ : ∃ be oe, ∀ i, i < len → qe = some ⟨be, oe, none⟩ := by
        by_cases h0 : len = 0
        · exact ⟨0, 0, fun i hi => by omega⟩
        · obtain ⟨b', o', hq, _⟩ := (Fr.of_own ho).rd.cell (k := 0) (by simp; omega)
          exact ⟨b', o', fun _ _ => hq⟩
      have HA1 := hid ha1
      have HBL := hid hBL
      have HSN := hid hSNe
      have HO := hid ho
      have hna := HNA.out
      rw [hjN] at hna ⊢
      have HNA := hid hna
      clear hna
      clear ho ha1 hBL hSNe hjs hBj hjN
      by_cases hNL : NN = len
      · have e1 : ((NN : Int) == (len : Int)) = true := by simp; omega
        have hse : BL.length = SN := by rw [HSN.out, hNL, List.take_of_length_le (by rw [HL.out]; exact Nat.le_refl _), ← HBL.out]
        have HSE := hid hse
        have HD := hid hd
        clear hse hd hNL
        go_wp2_with fail
        refine (sync_any m (rowS BL (sureN ls NN len)) kA (by unfold maxLen; decide) wr HD.out (row_okS _ (by omega)).dir (by simp [rowS]) (by simp [rowS])).mono ?_
        rintro e wA ⟨rfl, hD3, hM3⟩
        rw [(row_sync _ _).1]
        rw [(row_sync _ _).2, HSE.out] at hD3
        have hfr := hM3.fresh (B := w.heap.size) HBl.out.size HF.out
        have HD := hid hD3
        have HBl := hid (HBl.out.trans hfr.2)
        have HO := hid (own_keep HO.out fun g hg => hM3.block g (own_lt HO.out hg) (HNA.out g hg))
        clear hD3 hM3 hfr HNA
        go_wp2_with fail
        refine (all_any m (rowS BL SN) kA (by unfold maxLen; decide) wA HD.out (row_okS _ (by omega)).dir (by intro f hf; simp only [rowS, List.mem_singleton] at hf; subst hf; show BL.length ≤ _; omega)).mono ?_
        rintro e w6 ⟨v, rfl, hv, hb6⟩
        rw [HA1.out.2, row_known]
        rw [HA1.out.1] at hv
        obtain ⟨q1, c1, rfl, hc1, hm1, hz1, hr1⟩ := hv.rd
        rw [HL.out] at hc1 ⊢
        have R1 := hid hr1
        have HD := hid (HD.out.below hb6)
        have HO := hid (own_below HO.out hb6)
        have HBl := hid (below_onR HBl.out (Nat.le_refl _) hb6)
        clear hv hr1 hb6 hz1
        go_wp2_with fail
        refine (same_records a q1 len cap c1 ls w6 HL.out (by omega) (fun l hl => Nat.le_trans (HBig.out l hl) (by decide)) (H.out.below HBl.out).rd R1.out).mono ?_
        rintro e w7 ⟨rfl, hb7⟩
        have HD := hid (HD.out.below hb7)
        have HO := hid (own_below HO.out hb7)
        have HBl := hid (below_onR HBl.out (Nat.le_refl _) hb7)
        clear hb7 R1
        go_wp2_with fail
        refine (crash_any m (rowS BL SN) 0 (some ⟨w7.heap.size, 0, none⟩) 1 1 [(n2 : Int)] (w7.alloc (.cells #[.int .i64 (n2 : Int)] 3)) (HD.out.below ((Below.refl _ _).alloc (Nat.le_refl _) _)) rfl (Rd.new w7 [.int .i64 (n2 : Int)] 3) (by simp [rowS]) ((row_ok hSN hBLm).crashOk (by decide) _ _)).mono ?_
        rintro e w8 ⟨mc, rfl, hX, hB8, hfx⟩
        rw [row_crash] at hX
        obtain ⟨K, hK⟩ : ∃ K, K = keepAt [(n2 : Int)] 0 ⟨BL, SN⟩ := ⟨_, rfl⟩
        have hK1 : SN ≤ K := by rw [hK]; exact (keepAt_le (f := ⟨BL, SN⟩) hSN).1
        have hK2 : K ≤ BL.length := by rw [hK]; exact (keepAt_le (f := ⟨BL, SN⟩) hSN).2
        rw [← hK] at hX
        obtain ⟨PB, hPB⟩ : ∃ P, P = BL.take K := ⟨_, rfl⟩
        have hPBl : PB.length = K := by rw [hPB, List.length_take]; omega
        rw [← hPB] at hX
        have hb8 : Below w7.heap.size w7 w8 := ((Below.refl w7.heap.size w7).alloc (Nat.le_refl _) _).trans (hB8.mono (by simp))
        have HX := hid hX
        have HBl := hid (below_onR HBl.out (Nat.le_refl _) hb8)
        have HO := hid (own_below HO.out hb8)
        have HEC : Hid (∀ i, i < len → ∀ w', Below w8.heap.size w8 w' → w'.cell? ⟨be, oe + i, none⟩ = some (.int .i64 ((logB (ls.take (i + 1))).length : Int))) := hid fun i hi w' hB => by
          obtain ⟨b', o', hq, hlt', hc'⟩ := (Fr.of_own HO.out).rd.cellB hB (k := i) (by simpa using hi)
          rw [hqo i hi] at hq
          cases hq
          rw [hc', List.getElem_map, List.getElem_range]; rfl
        have HPBl := hid hPBl
        have USED0 : Hid (∀ w', Below w8.heap.size w8 w' → Calls Try.prog 17 #[.pointer (some ⟨mc.D, 0, none⟩)] w' fun e w'' => e = .returned (.int .i64 (K : Int)) ∧ Below w'.heap.size w' w'') := hid fun w' hB => by
          refine (used_any mc (rowS PB K) w' (HX.out.below hB) (row_okS _ (by rw [HPBl.out]; omega)).dir (by rw [row_used, HPBl.out]; omega)).mono ?_
          rintro e w'' ⟨rfl, hB''⟩
          rw [row_used, HPBl.out]
          exact ⟨rfl, hB''⟩
        clear hX hB8 hfx hK hb8 hPBl HD HF
        go_wp2_with fail
        go_loopw [16] (fun i wr => ∃ t : Nat, i = .int .i64 t ∧ t ≤ len ∧ Below w8.heap.size w8 wr ∧ (logB (ls.take t)).length ≤ K) (fun i _ => len - (intOf i).toNat)
        case atStart => exact ⟨0, rfl, Nat.zero_le _, Below.refl _ _, Nat.zero_le _⟩
        case round =>
          obtain ⟨t, rfl, ht, hbr, hkt⟩ := hrel
          have HBr := hid hbr
          have HKt := hid hkt
          clear hbr hkt
          by_cases htl : t < len
          · obtain rfl := hqo t htl
            have cE := HEC.out t htl wr HBr.out
            obtain ⟨X, hX⟩ : ∃ n, n = (logB (ls.take (t + 1))).length := ⟨_, rfl⟩
            rw [← hX] at cE
            have i0 : (0 : Int) ≤ (t : Int) := by omega
            have i1 : (t : Int) < (len : Int) := by omega
            have d1 : decide ((t : Int) < (len : Int)) = true := by simp; omega
            by_cases hXK : X ≤ K
            · have d2 : decide ((X : Int) ≤ (K : Int)) = true := by simp; omega
              have HKX := hid (show (logB (ls.take (t + 1))).length ≤ K by rw [← hX]; exact hXK)
              clear hX
              have hX0 := fun w' (hB : Below w8.heap.size w8 w') => USED0.out w' hB
              obtain ⟨CC, hCC⟩ : ∃ C : World → Prop, C = fun w' => Below wr.heap.size wr w' := ⟨_, rfl⟩
              have CD : CC { wr with drawn := wr.drawn + 1 } := by rw [hCC]; exact (Below.refl _ _).drew
              have HCC2 : Hid (∀ w', CC w' → Below wr.heap.size wr w') := hid (by rw [hCC]; exact fun _ h => h)
              have HSA2 : Hid (∀ w', CC w' → ∀ u, wr.cell? ⟨be, oe + t, none⟩ = some u → w'.cell? ⟨be, oe + t, none⟩ = some u) := hid fun w' h u hu => ((HCC2.out w' h).cell (World.block_lt_of_cell? wr _ hu)).trans hu
              have USED : Hid (∀ w', CC w' → Calls Try.prog 17 #[.pointer (some ⟨mc.D, 0, none⟩)] w' fun e w'' => e = .returned (.int .i64 (K : Int)) ∧ CC w'') := hid fun w' h => by
                have hb := HCC2.out w' h
                refine (hX0 w' (below_onR HBr.out (Nat.le_refl _) hb)).mono ?_
                rintro e w5 ⟨rfl, hB5⟩
                rw [hCC]
                exact ⟨rfl, below_onR hb (Nat.le_refl _) hB5⟩
              clear hCC hX0
              go_upto_region 23 with fail
              refine region_quiet_atR (C := CC) (by kernel_rfl) (by kernel_rfl) CD ?_
              repeat (go_big_quiet_step ((intro hw'; first | (with_reducible exact rfl) | (have hc := HSA2.out _ hw' _ cE; go_simp; with_reducible exact rfl) | (go_at_call 17; exact USED.out _ hw'))))
              refine wpQuiet_nil ?_
              intro w9 hw9
              have HW9 := hid (below_onR HBr.out (Nat.le_refl _) (HCC2.out w9 hw9))
              clear hw9
              go_wp2_with fail
              go_roundw
              case rel => exact ⟨t + 1, by go_num, by omega, HW9.out, HKX.out⟩
              case measure => simp [intOf]; omega
            · have d2 : decide ((X : Int) ≤ (K : Int)) = false := by simp; omega
              have HK3 : Hid (t < ls.length → K < (logB (ls.take (t + 1))).length) := hid fun _ => by rw [← hX]; omega
              clear hX
              have hX0 := fun w' (hB : Below w8.heap.size w8 w') => USED0.out w' hB
              obtain ⟨CC, hCC⟩ : ∃ C : World → Prop, C = fun w' => Below wr.heap.size wr w' := ⟨_, rfl⟩
              have CD : CC { wr with drawn := wr.drawn + 1 } := by rw [hCC]; exact (Below.refl _ _).drew
              have HCC2 : Hid (∀ w', CC w' → Below wr.heap.size wr w') := hid (by rw [hCC]; exact fun _ h => h)
              have HSA2 : Hid (∀ w', CC w' → ∀ u, wr.cell? ⟨be, oe + t, none⟩ = some u → w'.cell? ⟨be, oe + t, none⟩ = some u) := hid fun w' h u hu => ((HCC2.out w' h).cell (World.block_lt_of_cell? wr _ hu)).trans hu
              have USED : Hid (∀ w', CC w' → Calls Try.prog 17 #[.pointer (some ⟨mc.D, 0, none⟩)] w' fun e w'' => e = .returned (.int .i64 (K : Int)) ∧ CC w'') := hid fun w' h => by
                have hb := HCC2.out w' h
                refine (hX0 w' (below_onR HBr.out (Nat.le_refl _) hb)).mono ?_
                rintro e w5 ⟨rfl, hB5⟩
                rw [hCC]
                exact ⟨rfl, below_onR hb (Nat.le_refl _) hB5⟩
              clear hCC hX0
              go_upto_region 23 with fail
              refine region_quiet_atR (C := CC) (by kernel_rfl) (by kernel_rfl) CD ?_
              repeat (go_big_quiet_step ((intro hw'; first | (with_reducible exact rfl) | (have hc := HSA2.out _ hw' _ cE; go_simp; with_reducible exact rfl) | (go_at_call 17; exact USED.out _ hw'))))
              refine wpQuiet_nil ?_
              intro w9 hw9
              have HW9 := hid (below_onR HBr.out (Nat.le_refl _) (HCC2.out w9 hw9))
              clear hw9
              have htold := row_told HBig.out (t := t) (K := K) (by rw [HL.out]; exact ht) HKt.out (by rw [← HBL.out]; exact hK2) HK3.out
              rw [← HBL.out, ← hPB] at htold
              have hNt : NN ≤ t := by
                rcases Nat.lt_or_ge t NN with h | h
                · have h1 := HK3.out (by rw [HL.out]; omega)
                  have h2 := logB_le (ls := ls) (i := t + 1) (k := NN) (by omega) (by rw [HL.out]; exact hNl)
                  have h3 := HSN.out
                  omega
                · exact h
              have htl : (ls.take t).length = t := by rw [List.length_take, HL.out]; omega
              obtain ⟨Et, hEt⟩ : ∃ n, n = (logB (ls.take t)).length := ⟨_, rfl⟩
              rw [← hEt] at htold
              have HTold := hid htold
              have HTL := hid htl
              have HEt := hid hEt
              have e3 : decide ((t : Int) < (NN : Int)) = false := by simp; omega
              have e3n : ¬ t < NN := by omega
              have i2 : t ≤ cap := by omega
              have hPBl := HPBl.out
              have HBl := hid (below_onR HBl.out (Nat.le_refl _) HW9.out)
              have HXw := hid HW9.out
              clear htold htl hEt hNt
              go_wp2_with fail
              refine (all_any mc (rowS PB K) kA (by unfold maxLen; decide) w9 (HX.out.below HW9.out) (row_okS K (by omega)).dir (by intro f hf; simp only [rowS, List.mem_singleton] at hf; subst hf; show PB.length ≤ _; omega)).mono ?_
              rintro e w10 ⟨v, rfl, hv, hb10⟩
              rw [HTold.out.2, row_known]
              rw [HTold.out.1] at hv
              obtain ⟨q2, c2, rfl, hc2, hm2, hz2, hr2⟩ := hv.rd
              rw [HTL.out] at hc2 ⊢
              have R2 := hid hr2
              have HBl := hid (below_onR HBl.out (Nat.le_refl _) hb10)
              have HXw := hid (HXw.out.trans (hb10.mono HXw.out.size))
              clear hv hr2 hb10 hz2
              have R3 : Hid (RdRows w10 a (ls.take t)) := by
                have := (H.out.below HBl.out).rd
                rw [← List.take_append_drop t ls] at this
                exact hid this.take
              go_wp2_with fail
              refine (same_records q2 a t c2 cap (ls.take t) w10 HTL.out (by omega) (fun l hl => Nat.le_trans (HBig.out l (List.mem_of_mem_take hl)) (by decide)) R2.out R3.out).mono ?_
              rintro e w11 ⟨rfl, hb11⟩
              by_cases ht0 : t = 0
              · have e4 : decide ((0 : Int) < (t : Int)) = false := by simp; omega
                have e4n : ¬ 0 < t := by omega
                have hE0 : Et = 0 := by rw [HEt.out, ht0]; rfl
                obtain ⟨WB, hWB⟩ : ∃ W : Bool, W = ((K : Int) == (Et : Int)) := ⟨_, rfl⟩
                rw [← hWB]
                rw [hE0] at hWB
                have e5 : ((K : Int) == 0) = WB := hWB.symm
                have e5n : (K == 0) = WB := by rw [hWB, Bool.eq_iff_iff]; simp
                clear hE0 ht0 hWB
                have HBl := hid (below_onR HBl.out (Nat.le_refl _) hb11)
                have HXw := hid (HXw.out.trans (hb11.mono (HXw.out.size)))
                clear hb11
                cases WB
                all_goals
                  go_wp2_with (first
                    | (go_at_call 17; (with_reducible refine (USED0.out w11 HXw.out).mono ?_); rintro e w12 ⟨rfl, hB12⟩)
                    | (go_at_call 7; (with_reducible refine (lives_any w12).mono ?_); rintro e w13 ⟨rfl, hB13⟩))
                  go_ret
                  exact ⟨rfl, below_onR (below_onR HBl.out (Nat.le_refl _) hB12) (Nat.le_refl _) hB13⟩
              · obtain ⟨t', rfl⟩ : ∃ t', t = t' + 1 := ⟨t - 1, by omega⟩
                have e4 : decide ((0 : Int) < ((t' + 1 : Nat) : Int)) = true := by simp
                have e4n : 0 < t' + 1 := by omega
                have hsub : ((t' + 1 : Nat) : Int) - 1 = (t' : Int) := by omega
                have j0 : (0 : Int) ≤ (t' : Int) := by omega
                have j1 : (t' : Int) < (len : Int) := by omega
                have cE := HEC.out t' (by omega) w11 (HXw.out.trans (hb11.mono HXw.out.size))
                rw [← HEt.out] at cE
                obtain ⟨WB, hWB⟩ : ∃ W : Bool, W = ((K : Int) == (Et : Int)) := ⟨_, rfl⟩
                rw [← hWB]
                have e5 : ((K : Int) == (Et : Int)) = WB := hWB.symm
                have e5n : (K == Et) = WB := by rw [hWB, Bool.eq_iff_iff]; simp; omega
                clear ht0 hWB
                have HBl := hid (below_onR HBl.out (Nat.le_refl _) hb11)
                have HXw := hid (HXw.out.trans (hb11.mono (HXw.out.size)))
                clear hb11
                cases WB
                all_goals
                  go_wp2_with (first
                    | (go_at_call 17; (with_reducible refine (USED0.out w11 HXw.out).mono ?_); rintro e w12 ⟨rfl, hB12⟩)
                    | (go_at_call 7; (with_reducible refine (lives_any w12).mono ?_); rintro e w13 ⟨rfl, hB13⟩))
                  go_ret
                  exact ⟨rfl, below_onR (below_onR HBl.out (Nat.le_refl _) hB12) (Nat.le_refl _) hB13⟩
          · have d1 : decide ((t : Int) < (len : Int)) = false := by simp; omega
            have HK3 : Hid (t < ls.length → K < (logB (ls.take (t + 1))).length) := hid fun h => by rw [HL.out] at h; omega
            have cE : True := trivial
            have hX0 := fun w' (hB : Below w8.heap.size w8 w') => USED0.out w' hB
            obtain ⟨CC, hCC⟩ : ∃ C : World → Prop, C = fun w' => Below wr.heap.size wr w' := ⟨_, rfl⟩
            have CD : CC { wr with drawn := wr.drawn + 1 } := by rw [hCC]; exact (Below.refl _ _).drew
            have HCC2 : Hid (∀ w', CC w' → Below wr.heap.size wr w') := hid (by rw [hCC]; exact fun _ h => h)
            have USED : Hid (∀ w', CC w' → Calls Try.prog 17 #[.pointer (some ⟨mc.D, 0, none⟩)] w' fun e w'' => e = .returned (.int .i64 (K : Int)) ∧ CC w'') := hid fun w' h => by
              have hb := HCC2.out w' h
              refine (hX0 w' (below_onR HBr.out (Nat.le_refl _) hb)).mono ?_
              rintro e w5 ⟨rfl, hB5⟩
              rw [hCC]
              exact ⟨rfl, below_onR hb (Nat.le_refl _) hB5⟩
            clear hCC hX0
            go_upto_region 23 with fail
            refine region_quiet_atR (C := CC) (by kernel_rfl) (by kernel_rfl) CD ?_
            repeat (go_big_quiet_step ((intro hw'; first | (with_reducible exact rfl) | (go_at_call 17; exact USED.out _ hw'))))
            refine wpQuiet_nil ?_
            intro w9 hw9
            have HW9 := hid (below_onR HBr.out (Nat.le_refl _) (HCC2.out w9 hw9))
            clear hw9
            have htold := row_told HBig.out (t := t) (K := K) (by rw [HL.out]; exact ht) HKt.out (by rw [← HBL.out]; exact hK2) HK3.out
            rw [← HBL.out, ← hPB] at htold
            have hNt : NN ≤ t := by
              rcases Nat.lt_or_ge t NN with h | h
              · have h1 := HK3.out (by rw [HL.out]; omega)
                have h2 := logB_le (ls := ls) (i := t + 1) (k := NN) (by omega) (by rw [HL.out]; exact hNl)
                have h3 := HSN.out
                omega
              · exact h
            have htl : (ls.take t).length = t := by rw [List.length_take, HL.out]; omega
            obtain ⟨Et, hEt⟩ : ∃ n, n = (logB (ls.take t)).length := ⟨_, rfl⟩
            rw [← hEt] at htold
            have HTold := hid htold
            have HTL := hid htl
            have HEt := hid hEt
            have e3 : decide ((t : Int) < (NN : Int)) = false := by simp; omega
            have e3n : ¬ t < NN := by omega
            have i2 : t ≤ cap := by omega
            have hPBl := HPBl.out
            have HBl := hid (below_onR HBl.out (Nat.le_refl _) HW9.out)
            have HXw := hid HW9.out
            clear htold htl hEt hNt
            go_wp2_with fail
            refine (all_any mc (rowS PB K) kA (by unfold maxLen; decide) w9 (HX.out.below HW9.out) (row_okS K (by omega)).dir (by intro f hf; simp only [rowS, List.mem_singleton] at hf; subst hf; show PB.length ≤ _; omega)).mono ?_
            rintro e w10 ⟨v, rfl, hv, hb10⟩
            rw [HTold.out.2, row_known]
            rw [HTold.out.1] at hv
            obtain ⟨q2, c2, rfl, hc2, hm2, hz2, hr2⟩ := hv.rd
            rw [HTL.out] at hc2 ⊢
            have R2 := hid hr2
            have HBl := hid (below_onR HBl.out (Nat.le_refl _) hb10)
            have HXw := hid (HXw.out.trans (hb10.mono HXw.out.size))
            clear hv hr2 hb10 hz2
            have R3 : Hid (RdRows w10 a (ls.take t)) := by
              have := (H.out.below HBl.out).rd
              rw [← List.take_append_drop t ls] at this
              exact hid this.take
            go_wp2_with fail
            refine (same_records q2 a t c2 cap (ls.take t) w10 HTL.out (by omega) (fun l hl => Nat.le_trans (HBig.out l (List.mem_of_mem_take hl)) (by decide)) R2.out R3.out).mono ?_
            rintro e w11 ⟨rfl, hb11⟩
            by_cases ht0 : t = 0
            · have e4 : decide ((0 : Int) < (t : Int)) = false := by simp; omega
              have e4n : ¬ 0 < t := by omega
              have hE0 : Et = 0 := by rw [HEt.out, ht0]; rfl
              obtain ⟨WB, hWB⟩ : ∃ W : Bool, W = ((K : Int) == (Et : Int)) := ⟨_, rfl⟩
              rw [← hWB]
              rw [hE0] at hWB
              have e5 : ((K : Int) == 0) = WB := hWB.symm
              have e5n : (K == 0) = WB := by rw [hWB, Bool.eq_iff_iff]; simp
              clear hE0 ht0 hWB
              have HBl := hid (below_onR HBl.out (Nat.le_refl _) hb11)
              have HXw := hid (HXw.out.trans (hb11.mono (HXw.out.size)))
              clear hb11
              cases WB
              all_goals
                go_wp2_with (first
                  | (go_at_call 17; (with_reducible refine (USED0.out w11 HXw.out).mono ?_); rintro e w12 ⟨rfl, hB12⟩)
                  | (go_at_call 7; (with_reducible refine (lives_any w12).mono ?_); rintro e w13 ⟨rfl, hB13⟩))
                go_ret
                exact ⟨rfl, below_onR (below_onR HBl.out (Nat.le_refl _) hB12) (Nat.le_refl _) hB13⟩
            · obtain ⟨t', rfl⟩ : ∃ t', t = t' + 1 := ⟨t - 1, by omega⟩
              have e4 : decide ((0 : Int) < ((t' + 1 : Nat) : Int)) = true := by simp
              have e4n : 0 < t' + 1 := by omega
              have hsub : ((t' + 1 : Nat) : Int) - 1 = (t' : Int) := by omega
              have j0 : (0 : Int) ≤ (t' : Int) := by omega
              have j1 : (t' : Int) < (len : Int) := by omega
              obtain rfl := hqo t' (by omega)
              have cE := HEC.out t' (by omega) w11 (HXw.out.trans (hb11.mono HXw.out.size))
              rw [← HEt.out] at cE
              obtain ⟨WB, hWB⟩ : ∃ W : Bool, W = ((K : Int) == (Et : Int)) := ⟨_, rfl⟩
              rw [← hWB]
              have e5 : ((K : Int) == (Et : Int)) = WB := hWB.symm
              have e5n : (K == Et) = WB := by rw [hWB, Bool.eq_iff_iff]; simp; omega
              clear ht0 hWB
              have HBl := hid (below_onR HBl.out (Nat.le_refl _) hb11)
              have HXw := hid (HXw.out.trans (hb11.mono (HXw.out.size)))
              clear hb11
              cases WB
              all_goals
                go_wp2_with (first
                  | (go_at_call 17; (with_reducible refine (USED0.out w11 HXw.out).mono ?_); rintro e w12 ⟨rfl, hB12⟩)
                  | (go_at_call 7; (with_reducible refine (lives_any w12).mono ?_); rintro e w13 ⟨rfl, hB13⟩))
                go_ret
                exact ⟨rfl, below_onR (below_onR HBl.out (Nat.le_refl _) hB12) (Nat.le_refl _) hB13⟩
      · have e1 : ((NN : Int) == (len : Int)) = false := by simp; omega
        have hse : sureN ls NN len = SN := by unfold sureN; rw [if_pos (by omega), HSN.out]
        rw [hse] at hd
        have HD := hid hd
        obtain ⟨wA, rfl⟩ : ∃ wA, wA = wr := ⟨_, rfl⟩
        clear hse hd hNL HNA
        go_wp2_with fail
        refine (all_any m (rowS BL SN) kA (by unfold maxLen; decide) wA HD.out (row_okS _ (by omega)).dir (by intro f hf; simp only [rowS, List.mem_singleton] at hf; subst hf; show BL.length ≤ _; omega)).mono ?_
        rintro e w6 ⟨v, rfl, hv, hb6⟩
        rw [HA1.out.2, row_known]
        rw [HA1.out.1] at hv
        obtain ⟨q1, c1, rfl, hc1, hm1, hz1, hr1⟩ := hv.rd
        rw [HL.out] at hc1 ⊢
        have R1 := hid hr1
        have HD := hid (HD.out.below hb6)
        have HO := hid (own_below HO.out hb6)
        have HBl := hid (below_onR HBl.out (Nat.le_refl _) hb6)
        clear hv hr1 hb6 hz1
        go_wp2_with fail
        refine (same_records a q1 len cap c1 ls w6 HL.out (by omega) (fun l hl => Nat.le_trans (HBig.out l hl) (by decide)) (H.out.below HBl.out).rd R1.out).mono ?_
        rintro e w7 ⟨rfl, hb7⟩
        have HD := hid (HD.out.below hb7)
        have HO := hid (own_below HO.out hb7)
        have HBl := hid (below_onR HBl.out (Nat.le_refl _) hb7)
        clear hb7 R1
        go_wp2_with fail
        refine (crash_any m (rowS BL SN) 0 (some ⟨w7.heap.size, 0, none⟩) 1 1 [(n2 : Int)] (w7.alloc (.cells #[.int .i64 (n2 : Int)] 3)) (HD.out.below ((Below.refl _ _).alloc (Nat.le_refl _) _)) rfl (Rd.new w7 [.int .i64 (n2 : Int)] 3) (by simp [rowS]) ((row_ok hSN hBLm).crashOk (by decide) _ _)).mono ?_
        rintro e w8 ⟨mc, rfl, hX, hB8, hfx⟩
        rw [row_crash] at hX
        obtain ⟨K, hK⟩ : ∃ K, K = keepAt [(n2 : Int)] 0 ⟨BL, SN⟩ := ⟨_, rfl⟩
        have hK1 : SN ≤ K := by rw [hK]; exact (keepAt_le (f := ⟨BL, SN⟩) hSN).1
        have hK2 : K ≤ BL.length := by rw [hK]; exact (keepAt_le (f := ⟨BL, SN⟩) hSN).2
        rw [← hK] at hX
        obtain ⟨PB, hPB⟩ : ∃ P, P = BL.take K := ⟨_, rfl⟩
        have hPBl : PB.length = K := by rw [hPB, List.length_take]; omega
        rw [← hPB] at hX
        have hb8 : Below w7.heap.size w7 w8 := ((Below.refl w7.heap.size w7).alloc (Nat.le_refl _) _).trans (hB8.mono (by simp))
        have HX := hid hX
        have HBl := hid (below_onR HBl.out (Nat.le_refl _) hb8)
        have HO := hid (own_below HO.out hb8)
        have HEC : Hid (∀ i, i < len → ∀ w', Below w8.heap.size w8 w' → w'.cell? ⟨be, oe + i, none⟩ = some (.int .i64 ((logB (ls.take (i + 1))).length : Int))) := hid fun i hi w' hB => by
          obtain ⟨b', o', hq, hlt', hc'⟩ := (Fr.of_own HO.out).rd.cellB hB (k := i) (by simpa using hi)
          rw [hqo i hi] at hq
          cases hq
          rw [hc', List.getElem_map, List.getElem_range]; rfl
        have HPBl := hid hPBl
        have USED0 : Hid (∀ w', Below w8.heap.size w8 w' → Calls Try.prog 17 #[.pointer (some ⟨mc.D, 0, none⟩)] w' fun e w'' => e = .returned (.int .i64 (K : Int)) ∧ Below w'.heap.size w' w'') := hid fun w' hB => by
          refine (used_any mc (rowS PB K) w' (HX.out.below hB) (row_okS _ (by rw [HPBl.out]; omega)).dir (by rw [row_used, HPBl.out]; omega)).mono ?_
          rintro e w'' ⟨rfl, hB''⟩
          rw [row_used, HPBl.out]
          exact ⟨rfl, hB''⟩
        clear hX hB8 hfx hK hb8 hPBl HD HF
        go_wp2_with fail
        go_loopw [16] (fun i wr => ∃ t : Nat, i = .int .i64 t ∧ t ≤ len ∧ Below w8.heap.size w8 wr ∧ (logB (ls.take t)).length ≤ K) (fun i _ => len - (intOf i).toNat)
        case atStart => exact ⟨0, rfl, Nat.zero_le _, Below.refl _ _, Nat.zero_le _⟩
        case round =>
          obtain ⟨t, rfl, ht, hbr, hkt⟩ := hrel
          have HBr := hid hbr
          have HKt := hid hkt
          clear hbr hkt
          by_cases htl : t < len
          · obtain rfl := hqo t htl
            have cE := HEC.out t htl wr HBr.out
            obtain ⟨X, hX⟩ : ∃ n, n = (logB (ls.take (t + 1))).length := ⟨_, rfl⟩
            rw [← hX] at cE
            have i0 : (0 : Int) ≤ (t : Int) := by omega
            have i1 : (t : Int) < (len : Int) := by omega
            have d1 : decide ((t : Int) < (len : Int)) = true := by simp; omega
            by_cases hXK : X ≤ K
            · have d2 : decide ((X : Int) ≤ (K : Int)) = true := by simp; omega
              have HKX := hid (show (logB (ls.take (t + 1))).length ≤ K by rw [← hX]; exact hXK)
              clear hX
              have hX0 := fun w' (hB : Below w8.heap.size w8 w') => USED0.out w' hB
              obtain ⟨CC, hCC⟩ : ∃ C : World → Prop, C = fun w' => Below wr.heap.size wr w' := ⟨_, rfl⟩
              have CD : CC { wr with drawn := wr.drawn + 1 } := by rw [hCC]; exact (Below.refl _ _).drew
              have HCC2 : Hid (∀ w', CC w' → Below wr.heap.size wr w') := hid (by rw [hCC]; exact fun _ h => h)
              have HSA2 : Hid (∀ w', CC w' → ∀ u, wr.cell? ⟨be, oe + t, none⟩ = some u → w'.cell? ⟨be, oe + t, none⟩ = some u) := hid fun w' h u hu => ((HCC2.out w' h).cell (World.block_lt_of_cell? wr _ hu)).trans hu
              have USED : Hid (∀ w', CC w' → Calls Try.prog 17 #[.pointer (some ⟨mc.D, 0, none⟩)] w' fun e w'' => e = .returned (.int .i64 (K : Int)) ∧ CC w'') := hid fun w' h => by
                have hb := HCC2.out w' h
                refine (hX0 w' (below_onR HBr.out (Nat.le_refl _) hb)).mono ?_
                rintro e w5 ⟨rfl, hB5⟩
                rw [hCC]
                exact ⟨rfl, below_onR hb (Nat.le_refl _) hB5⟩
              clear hCC hX0
              go_upto_region 23 with fail
              refine region_quiet_atR (C := CC) (by kernel_rfl) (by kernel_rfl) CD ?_
              repeat (go_big_quiet_step ((intro hw'; first | (with_reducible exact rfl) | (have hc := HSA2.out _ hw' _ cE; go_simp; with_reducible exact rfl) | (go_at_call 17; exact USED.out _ hw'))))
              refine wpQuiet_nil ?_
              intro w9 hw9
              have HW9 := hid (below_onR HBr.out (Nat.le_refl _) (HCC2.out w9 hw9))
              clear hw9
              go_wp2_with fail
              go_roundw
              case rel => exact ⟨t + 1, by go_num, by omega, HW9.out, HKX.out⟩
              case measure => simp [intOf]; omega
            · have d2 : decide ((X : Int) ≤ (K : Int)) = false := by simp; omega
              have HK3 : Hid (t < ls.length → K < (logB (ls.take (t + 1))).length) := hid fun _ => by rw [← hX]; omega
              clear hX
              have hX0 := fun w' (hB : Below w8.heap.size w8 w') => USED0.out w' hB
              obtain ⟨CC, hCC⟩ : ∃ C : World → Prop, C = fun w' => Below wr.heap.size wr w' := ⟨_, rfl⟩
              have CD : CC { wr with drawn := wr.drawn + 1 } := by rw [hCC]; exact (Below.refl _ _).drew
              have HCC2 : Hid (∀ w', CC w' → Below wr.heap.size wr w') := hid (by rw [hCC]; exact fun _ h => h)
              have HSA2 : Hid (∀ w', CC w' → ∀ u, wr.cell? ⟨be, oe + t, none⟩ = some u → w'.cell? ⟨be, oe + t, none⟩ = some u) := hid fun w' h u hu => ((HCC2.out w' h).cell (World.block_lt_of_cell? wr _ hu)).trans hu
              have USED : Hid (∀ w', CC w' → Calls Try.prog 17 #[.pointer (some ⟨mc.D, 0, none⟩)] w' fun e w'' => e = .returned (.int .i64 (K : Int)) ∧ CC w'') := hid fun w' h => by
                have hb := HCC2.out w' h
                refine (hX0 w' (below_onR HBr.out (Nat.le_refl _) hb)).mono ?_
                rintro e w5 ⟨rfl, hB5⟩
                rw [hCC]
                exact ⟨rfl, below_onR hb (Nat.le_refl _) hB5⟩
              clear hCC hX0
              go_upto_region 23 with fail
              refine region_quiet_atR (C := CC) (by kernel_rfl) (by kernel_rfl) CD ?_
              repeat (go_big_quiet_step ((intro hw'; first | (with_reducible exact rfl) | (have hc := HSA2.out _ hw' _ cE; go_simp; with_reducible exact rfl) | (go_at_call 17; exact USED.out _ hw'))))
              refine wpQuiet_nil ?_
              intro w9 hw9
              have HW9 := hid (below_onR HBr.out (Nat.le_refl _) (HCC2.out w9 hw9))
              clear hw9
              have htold := row_told HBig.out (t := t) (K := K) (by rw [HL.out]; exact ht) HKt.out (by rw [← HBL.out]; exact hK2) HK3.out
              rw [← HBL.out, ← hPB] at htold
              have hNt : NN ≤ t := by
                rcases Nat.lt_or_ge t NN with h | h
                · have h1 := HK3.out (by rw [HL.out]; omega)
                  have h2 := logB_le (ls := ls) (i := t + 1) (k := NN) (by omega) (by rw [HL.out]; exact hNl)
                  have h3 := HSN.out
                  omega
                · exact h
              have htl : (ls.take t).length = t := by rw [List.length_take, HL.out]; omega
              obtain ⟨Et, hEt⟩ : ∃ n, n = (logB (ls.take t)).length := ⟨_, rfl⟩
              rw [← hEt] at htold
              have HTold := hid htold
              have HTL := hid htl
              have HEt := hid hEt
              have e3 : decide ((t : Int) < (NN : Int)) = false := by simp; omega
              have e3n : ¬ t < NN := by omega
              have i2 : t ≤ cap := by omega
              have hPBl := HPBl.out
              have HBl := hid (below_onR HBl.out (Nat.le_refl _) HW9.out)
              have HXw := hid HW9.out
              clear htold htl hEt hNt
              go_wp2_with fail
              refine (all_any mc (rowS PB K) kA (by unfold maxLen; decide) w9 (HX.out.below HW9.out) (row_okS K (by omega)).dir (by intro f hf; simp only [rowS, List.mem_singleton] at hf; subst hf; show PB.length ≤ _; omega)).mono ?_
              rintro e w10 ⟨v, rfl, hv, hb10⟩
              rw [HTold.out.2, row_known]
              rw [HTold.out.1] at hv
              obtain ⟨q2, c2, rfl, hc2, hm2, hz2, hr2⟩ := hv.rd
              rw [HTL.out] at hc2 ⊢
              have R2 := hid hr2
              have HBl := hid (below_onR HBl.out (Nat.le_refl _) hb10)
              have HXw := hid (HXw.out.trans (hb10.mono HXw.out.size))
              clear hv hr2 hb10 hz2
              have R3 : Hid (RdRows w10 a (ls.take t)) := by
                have := (H.out.below HBl.out).rd
                rw [← List.take_append_drop t ls] at this
                exact hid this.take
              go_wp2_with fail
              refine (same_records q2 a t c2 cap (ls.take t) w10 HTL.out (by omega) (fun l hl => Nat.le_trans (HBig.out l (List.mem_of_mem_take hl)) (by decide)) R2.out R3.out).mono ?_
              rintro e w11 ⟨rfl, hb11⟩
              by_cases ht0 : t = 0
              · have e4 : decide ((0 : Int) < (t : Int)) = false := by simp; omega
                have e4n : ¬ 0 < t := by omega
                have hE0 : Et = 0 := by rw [HEt.out, ht0]; rfl
                obtain ⟨WB, hWB⟩ : ∃ W : Bool, W = ((K : Int) == (Et : Int)) := ⟨_, rfl⟩
                rw [← hWB]
                rw [hE0] at hWB
                have e5 : ((K : Int) == 0) = WB := hWB.symm
                have e5n : (K == 0) = WB := by rw [hWB, Bool.eq_iff_iff]; simp
                clear hE0 ht0 hWB
                have HBl := hid (below_onR HBl.out (Nat.le_refl _) hb11)
                have HXw := hid (HXw.out.trans (hb11.mono (HXw.out.size)))
                clear hb11
                cases WB
                all_goals
                  go_wp2_with (first
                    | (go_at_call 17; (with_reducible refine (USED0.out w11 HXw.out).mono ?_); rintro e w12 ⟨rfl, hB12⟩)
                    | (go_at_call 7; (with_reducible refine (lives_any w12).mono ?_); rintro e w13 ⟨rfl, hB13⟩))
                  go_ret
                  exact ⟨rfl, below_onR (below_onR HBl.out (Nat.le_refl _) hB12) (Nat.le_refl _) hB13⟩
              · obtain ⟨t', rfl⟩ : ∃ t', t = t' + 1 := ⟨t - 1, by omega⟩
                have e4 : decide ((0 : Int) < ((t' + 1 : Nat) : Int)) = true := by simp
                have e4n : 0 < t' + 1 := by omega
                have hsub : ((t' + 1 : Nat) : Int) - 1 = (t' : Int) := by omega
                have j0 : (0 : Int) ≤ (t' : Int) := by omega
                have j1 : (t' : Int) < (len : Int) := by omega
                have cE := HEC.out t' (by omega) w11 (HXw.out.trans (hb11.mono HXw.out.size))
                rw [← HEt.out] at cE
                obtain ⟨WB, hWB⟩ : ∃ W : Bool, W = ((K : Int) == (Et : Int)) := ⟨_, rfl⟩
                rw [← hWB]
                have e5 : ((K : Int) == (Et : Int)) = WB := hWB.symm
                have e5n : (K == Et) = WB := by rw [hWB, Bool.eq_iff_iff]; simp; omega
                clear ht0 hWB
                have HBl := hid (below_onR HBl.out (Nat.le_refl _) hb11)
                have HXw := hid (HXw.out.trans (hb11.mono (HXw.out.size)))
                clear hb11
                cases WB
                all_goals
                  go_wp2_with (first
                    | (go_at_call 17; (with_reducible refine (USED0.out w11 HXw.out).mono ?_); rintro e w12 ⟨rfl, hB12⟩)
                    | (go_at_call 7; (with_reducible refine (lives_any w12).mono ?_); rintro e w13 ⟨rfl, hB13⟩))
                  go_ret
                  exact ⟨rfl, below_onR (below_onR HBl.out (Nat.le_refl _) hB12) (Nat.le_refl _) hB13⟩
          · have d1 : decide ((t : Int) < (len : Int)) = false := by simp; omega
            have HK3 : Hid (t < ls.length → K < (logB (ls.take (t + 1))).length) := hid fun h => by rw [HL.out] at h; omega
            have cE : True := trivial
            have hX0 := fun w' (hB : Below w8.heap.size w8 w') => USED0.out w' hB
            obtain ⟨CC, hCC⟩ : ∃ C : World → Prop, C = fun w' => Below wr.heap.size wr w' := ⟨_, rfl⟩
            have CD : CC { wr with drawn := wr.drawn + 1 } := by rw [hCC]; exact (Below.refl _ _).drew
            have HCC2 : Hid (∀ w', CC w' → Below wr.heap.size wr w') := hid (by rw [hCC]; exact fun _ h => h)
            have USED : Hid (∀ w', CC w' → Calls Try.prog 17 #[.pointer (some ⟨mc.D, 0, none⟩)] w' fun e w'' => e = .returned (.int .i64 (K : Int)) ∧ CC w'') := hid fun w' h => by
              have hb := HCC2.out w' h
              refine (hX0 w' (below_onR HBr.out (Nat.le_refl _) hb)).mono ?_
              rintro e w5 ⟨rfl, hB5⟩
              rw [hCC]
              exact ⟨rfl, below_onR hb (Nat.le_refl _) hB5⟩
            clear hCC hX0
            go_upto_region 23 with fail
            refine region_quiet_atR (C := CC) (by kernel_rfl) (by kernel_rfl) CD ?_
            repeat (go_big_quiet_step ((intro hw'; first | (with_reducible exact rfl) | (go_at_call 17; exact USED.out _ hw'))))
            refine wpQuiet_nil ?_
            intro w9 hw9
            have HW9 := hid (below_onR HBr.out (Nat.le_refl _) (HCC2.out w9 hw9))
            clear hw9
            have htold := row_told HBig.out (t := t) (K := K) (by rw [HL.out]; exact ht) HKt.out (by rw [← HBL.out]; exact hK2) HK3.out
            rw [← HBL.out, ← hPB] at htold
            have hNt : NN ≤ t := by
              rcases Nat.lt_or_ge t NN with h | h
              · have h1 := HK3.out (by rw [HL.out]; omega)
                have h2 := logB_le (ls := ls) (i := t + 1) (k := NN) (by omega) (by rw [HL.out]; exact hNl)
                have h3 := HSN.out
                omega
              · exact h
            have htl : (ls.take t).length = t := by rw [List.length_take, HL.out]; omega
            obtain ⟨Et, hEt⟩ : ∃ n, n = (logB (ls.take t)).length := ⟨_, rfl⟩
            rw [← hEt] at htold
            have HTold := hid htold
            have HTL := hid htl
            have HEt := hid hEt
            have e3 : decide ((t : Int) < (NN : Int)) = false := by simp; omega
            have e3n : ¬ t < NN := by omega
            have i2 : t ≤ cap := by omega
            have hPBl := HPBl.out
            have HBl := hid (below_onR HBl.out (Nat.le_refl _) HW9.out)
            have HXw := hid HW9.out
            clear htold htl hEt hNt
            go_wp2_with fail
            refine (all_any mc (rowS PB K) kA (by unfold maxLen; decide) w9 (HX.out.below HW9.out) (row_okS K (by omega)).dir (by intro f hf; simp only [rowS, List.mem_singleton] at hf; subst hf; show PB.length ≤ _; omega)).mono ?_
            rintro e w10 ⟨v, rfl, hv, hb10⟩
            rw [HTold.out.2, row_known]
            rw [HTold.out.1] at hv
            obtain ⟨q2, c2, rfl, hc2, hm2, hz2, hr2⟩ := hv.rd
            rw [HTL.out] at hc2 ⊢
            have R2 := hid hr2
            have HBl := hid (below_onR HBl.out (Nat.le_refl _) hb10)
            have HXw := hid (HXw.out.trans (hb10.mono HXw.out.size))
            clear hv hr2 hb10 hz2
            have R3 : Hid (RdRows w10 a (ls.take t)) := by
              have := (H.out.below HBl.out).rd
              rw [← List.take_append_drop t ls] at this
              exact hid this.take
            go_wp2_with fail
            refine (same_records q2 a t c2 cap (ls.take t) w10 HTL.out (by omega) (fun l hl => Nat.le_trans (HBig.out l (List.mem_of_mem_take hl)) (by decide)) R2.out R3.out).mono ?_
            rintro e w11 ⟨rfl, hb11⟩
            by_cases ht0 : t = 0
            · have e4 : decide ((0 : Int) < (t : Int)) = false := by simp; omega
              have e4n : ¬ 0 < t := by omega
              have hE0 : Et = 0 := by rw [HEt.out, ht0]; rfl
              obtain ⟨WB, hWB⟩ : ∃ W : Bool, W = ((K : Int) == (Et : Int)) := ⟨_, rfl⟩
              rw [← hWB]
              rw [hE0] at hWB
              have e5 : ((K : Int) == 0) = WB := hWB.symm
              have e5n : (K == 0) = WB := by rw [hWB, Bool.eq_iff_iff]; simp
              clear hE0 ht0 hWB
              have HBl := hid (below_onR HBl.out (Nat.le_refl _) hb11)
              have HXw := hid (HXw.out.trans (hb11.mono (HXw.out.size)))
              clear hb11
              cases WB
              all_goals
                go_wp2_with (first
                  | (go_at_call 17; (with_reducible refine (USED0.out w11 HXw.out).mono ?_); rintro e w12 ⟨rfl, hB12⟩)
                  | (go_at_call 7; (with_reducible refine (lives_any w12).mono ?_); rintro e w13 ⟨rfl, hB13⟩))
                go_ret
                exact ⟨rfl, below_onR (below_onR HBl.out (Nat.le_refl _) hB12) (Nat.le_refl _) hB13⟩
            · obtain ⟨t', rfl⟩ : ∃ t', t = t' + 1 := ⟨t - 1, by omega⟩
              have e4 : decide ((0 : Int) < ((t' + 1 : Nat) : Int)) = true := by simp
              have e4n : 0 < t' + 1 := by omega
              have hsub : ((t' + 1 : Nat) : Int) - 1 = (t' : Int) := by omega
              have j0 : (0 : Int) ≤ (t' : Int) := by omega
              have j1 : (t' : Int) < (len : Int) := by omega
              obtain rfl := hqo t' (by omega)
              have cE := HEC.out t' (by omega) w11 (HXw.out.trans (hb11.mono HXw.out.size))
              rw [← HEt.out] at cE
              obtain ⟨WB, hWB⟩ : ∃ W : Bool, W = ((K : Int) == (Et : Int)) := ⟨_, rfl⟩
              rw [← hWB]
              have e5 : ((K : Int) == (Et : Int)) = WB := hWB.symm
              have e5n : (K == Et) = WB := by rw [hWB, Bool.eq_iff_iff]; simp; omega
              clear ht0 hWB
              have HBl := hid (below_onR HBl.out (Nat.le_refl _) hb11)
              have HXw := hid (HXw.out.trans (hb11.mono (HXw.out.size)))
              clear hb11
              cases WB
              all_goals
                go_wp2_with (first
                  | (go_at_call 17; (with_reducible refine (USED0.out w11 HXw.out).mono ?_); rintro e w12 ⟨rfl, hB12⟩)
                  | (go_at_call 7; (with_reducible refine (lives_any w12).mono ?_); rintro e w13 ⟨rfl, hB13⟩))
                go_ret
                exact ⟨rfl, below_onR (below_onR HBl.out (Nat.le_refl _) hB12) (Nat.le_refl _) hB13⟩
set_option maxRecDepth 100000 in
set_option maxHeartbeats 800000 in
theorem logsRow_any (a : Option Addr) (len cap : Nat) (ls : List (List UInt8)) (n1 n2 : Nat) (hn1 : n1 < 256) (hn2 : n2 < 65536) (w : World) (h : RowsAt w a len ls) (hs : ∀ l ∈ ls, l.length ≤ 140737488351232) (hcap : len ≤ cap) (hcapm : cap ≤ maxLen) :
    Calls Try.prog 6 #[.slice a len cap, .int .u8 (n1 : Int), .int .u16 (n2 : Int)] w fun e w' => e = .returned (.bool true) ∧ Below w.heap.size w w' := by
  by_cases hfew : fewN ls < 20000
  · exact logsRow_main a len cap ls n1 n2 hn1 hn2 w h hs hcap hfew
  · have hff : decide (fewN ls < 20000) = false := by simpa using hfew
    have HFF := hid hff
    have H := hid h
    have HS := hid hs
    have hlm : len ≤ 9223372036854775807 := by unfold maxLen at hcapm; omega
    clear h hs hff hfew
    go_enter Try.func6, Try.ntmps6
    go_wp2_with fail
    refine (few_any a len cap ls w H.out HS.out hlm).mono ?_
    rintro e w' ⟨rfl, rfl⟩
    rw [HFF.out]
    go_wp2_with fail
    refine (lives_any w).mono ?_
    rintro e w1 ⟨rfl, hB⟩
    go_wp2_with fail
    go_ret
    exact ⟨rfl, hB⟩
end Go.Proofs.Herb
