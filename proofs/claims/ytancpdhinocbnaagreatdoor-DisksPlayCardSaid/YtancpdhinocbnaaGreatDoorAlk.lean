/- The contract of the law's alike (chapter 04): it answers true. For a disk and the reference's disk side by side of one state, in worlds where strconv's table of powers of ten reads as it was laid. -/
import Derived.Test.YtancpdhinocbnaaGreatDoorTwe
import Derived.Test.YtancpdhinocbnaaGreatDoorLw4
import Derived.Test.YtancpdhinocbnaaGreatDoorBky
namespace Go.Proofs.Herb
open Go.RowKit Go.Sort
/-- the names that are asked -/
def askL (s : DS) (A : ByteArray) : List ByteArray := (sortedK s.names).map ofL ++ [A]
theorem askL_len (s : DS) (A : ByteArray) : (askL s A).length = (sortedK s.names).length + 1 := by simp [askL]
theorem encStr_ofL (l : List UInt8) : encStr l = .string (ofL l) := rfl
theorem askL_cells (s : DS) (A : ByteArray) : (askL s A).map Value.string = (sortedK s.names).map encStr ++ [.string A] := by
  unfold askL
  rw [List.map_append, List.map_map]
  rfl
theorem textE_ents (d : Dir) : textE (entsOf d) = (sortedK d).map encStr := by
  unfold textE entsOf
  rw [List.map_map]
  rfl
theorem ask_size {s : DS} {n : Nat} (h : DsOk s n) {A : ByteArray} (hA : A.size ≤ maxLen) : ∀ K ∈ askL s A, K.size ≤ maxLen := by
  intro K hK
  rcases List.mem_append.1 hK with hk | hk
  · obtain ⟨v, hv⟩ := Option.isSome_iff_exists.1 (mem_sortedK.1 hk)
    obtain ⟨e, he, rfl, _⟩ := look_mem' hv
    have := (may_size (h.good.may e he)).2
    unfold maxLen; omega
  · rw [List.mem_singleton.1 hk]; exact hA
theorem ShsOk.up {w : World} {lo hi hi' : Nat} {hs : List Sh} (h : ShsOk w lo hi hs) (hl : hi ≤ hi') : ShsOk w lo hi' hs := ⟨h.row, h.lo, fun s hs g hg => Nat.lt_of_lt_of_le (h.hi s hs g hg) hl, h.ap⟩
theorem strs_one (l : List ByteArray) : ∀ u ∈ l.map Value.string, u.oneCell' = true := by
  intro u hu
  obtain ⟨x, _, rfl⟩ := List.mem_map.1 hu
  rfl
theorem encs_one (l : List (List UInt8)) : ∀ u ∈ l.map encStr, u.oneCell' = true := by
  intro u hu
  obtain ⟨x, _, rfl⟩ := List.mem_map.1 hu
  rfl
theorem infoBook : (Tryz.prog.info? 84).map (·.size) = some 1 := by kernel_rfl
theorem fr_none {w : World} {base : Nat} {e : TypeId} {k : Nat} {q : Option Addr} {n c : Nat} {xs : List Value} (h : Fr w base e k (.slice q n c) n xs) : q = none → c = 0 := by
  rintro rfl
  rcases h.2 with ⟨e1, _⟩ | ⟨g, cap, cur, e1, _⟩
  · cases e1; rfl
  · cases e1
/-- where the loop of alike stands -/
structure AlkI (w wN : World) (Kb k : Nat) (ss : List Sh) (wr : World) : Prop where
  len : ss.length = k
  book : BookAt wr Kb w.heap.size ss
  shs : ShsOk wr wN.heap.size wr.heap.size ss
  kp : KpB wN wr
  below : Below w.heap.size w wr
theorem AlkI.step {w wN wr w8 w9 : World} {Kb k n : Nat} {ss : List Sh} {q : Option Addr} {m : Nat} {xs : List Value} (h : AlkI w wN Kb k ss wr) (hb : Below wr.heap.size wr w8) (hf : Fr w8 wr.heap.size 5 1 (.slice q n n) n xs)
    (h1 : BookAt w9 Kb w.heap.size (ss ++ [⟨q, n, n, 106, 5, .int .u8 (m : Int)⟩])) (h2 : KpB w8 w9) (h3 : Below w.heap.size w8 w9) : AlkI w wN Kb (k + 1) (ss ++ [⟨q, n, n, 106, 5, .int .u8 (m : Int)⟩]) w9 := by
  have hr := ShRow.of_fr (s := ⟨q, n, n, 106, 5, .int .u8 (m : Int)⟩) hf (.inl ⟨rfl, rfl, m, rfl⟩)
  have hk := KpB.of_below hb
  refine ⟨by rw [List.length_append, h.len]; rfl, h1, ?_, (h.kp.trans hk).trans h2, h.below.trans ((hb.mono h.below.size).trans h3)⟩
  exact (((h.shs.kpB hk).append (ShsOk.one hr.1 hr.2) hb.size h.kp.1).kpB h2).up h2.1
set_option maxRecDepth 100000 in
set_option maxHeartbeats 4000000 in
theorem alike_any {I : Nat → Prop} {w0 w : World} {md : DM} {s : DS} {mr : RM} {n : Nat} (T : Two I w0 w md s mr s n) (hn : n ≤ 900000) (A : ByteArray) (hA : A.size ≤ maxLen) (ht : Pow10 w) :
    Calls Tryz.prog 11 #[.pointer (some ⟨md.D, 0, none⟩), .pointer (some ⟨mr.D, 0, none⟩), .string A] w fun e w' => e = .returned (.bool true) ∧ Below w.heap.size w w' := by
  have hkk := T.okd.good.keysOk (Nat.le_trans T.okd.files (by omega : n ≤ 1000000000)) (by omega)
  have hm := sorted_many T.okd
  obtain ⟨N, hN⟩ : ∃ N, N = (sortedK s.names).length := ⟨_, rfl⟩
  rw [← hN] at hm
  have hN9 : N ≤ 900000 := by omega
  have hlen := sortedK_len s.names
  obtain ⟨Z, hZ⟩ : ∃ Z : Int, Hid (Z = (usedN s : Int)) := ⟨_, hid rfl⟩
  obtain ⟨C, hC⟩ : ∃ C : Int, Hid (C = (s.changes.length : Int)) := ⟨_, hid rfl⟩
  obtain ⟨DD, hDD⟩ : ∃ D : Bool, Hid (D = s.dead) := ⟨_, hid rfl⟩
  have HT := hid T
  have HP := hid ht
  have HK := hid hkk
  have HN := hid hN
  have HA := hid hA
  have Hlen := hid hlen
  have hz1 : (Z != Z) = false := by simp
  have hz2 : (C != C) = false := by simp
  have hz3 : (DD != DD) = false := by simp
  clear T ht hkk hN hm hA hlen
  go_enter Tryz.func11, Tryz.ntmps11
  go_wp2_with fail
  (with_reducible refine (list_any md s w HT.out.disk HK.out).mono ?_)
  rintro e w1 ⟨q1, rfl, hF1, hB1⟩
  rw [← HN.out] at hF1 ⊢
  have HF1 := hid hF1
  have HB1 := hid hB1
  clear hF1 hB1
  go_wp2_with fail
  (with_reducible refine ((HT.out.below' HB1.out).listR hn).mono ?_)
  rintro e w2 ⟨v2, rfl, ho2, hB2⟩
  rw [textE_ents, ← Hlen.out, ← HN.out] at ho2
  obtain ⟨q2, c2, rfl, _, _, _⟩ := own_shape ho2
  have HO2 := hid ho2
  have HB12 := hid hB2
  have ez2 := hB2.size
  have HB2 := hid (HB1.out.trans (hB2.mono HB1.out.size))
  clear ho2 hB2
  go_wp2_with fail
  (with_reducible refine (sameTexts_true q1 q2 N N c2 (sortedK s.names) w2 HN.out.symm (by omega) (HF1.out.rd.below HB12.out) (Fr.of_own HO2.out).rd).mono ?_)
  rintro e w3 ⟨rfl, hB3⟩
  have HF3 := hid ((HF1.out.below HB12.out).below hB3)
  have ez3 := hB3.size
  have HB3 := hid (HB2.out.trans (hB3.mono HB2.out.size))
  clear hB3 HO2 HB12
  go_wp2_with fail
  (with_reducible refine ((HT.out.below' HB3.out).usedD hn).mono ?_)
  rintro e w4 ⟨rfl, hB4⟩
  rw [← hZ.out]
  have HF4 := hid (HF3.out.below hB4)
  have ez4 := hB4.size
  have HB4 := hid (HB3.out.trans (hB4.mono HB3.out.size))
  clear hB4 HF3
  go_wp2_with fail
  (with_reducible refine ((HT.out.below' HB4.out).usedR hn).mono ?_)
  rintro e w5 ⟨rfl, hB5⟩
  rw [← hZ.out]
  have HF5 := hid (HF4.out.below hB5)
  have ez5 := hB5.size
  have HB5 := hid (HB4.out.trans (hB5.mono HB4.out.size))
  clear hB5 HF4
  go_wp2_with fail
  (with_reducible refine (dir_any md s w5 (HT.out.below' HB5.out).disk).mono ?_)
  rintro e w6 ⟨rfl, rfl⟩
  rw [← hC.out]
  go_wp2_with fail
  (with_reducible refine ((HT.out.below' HB5.out).dirR hn).mono ?_)
  rintro e w6 ⟨rfl, rfl⟩
  rw [← hC.out]
  go_wp2_with fail
  (with_reducible refine (blown_any md s w5 (HT.out.below' HB5.out).disk).mono ?_)
  rintro e w6 ⟨rfl, rfl⟩
  rw [← hDD.out]
  go_wp2_with fail
  (with_reducible refine ((HT.out.below' HB5.out).blownR).mono ?_)
  rintro e w6 ⟨rfl, rfl⟩
  rw [← hDD.out]
  obtain ⟨Kb, hKb⟩ : ∃ x, x = w5.heap.size := ⟨_, rfl⟩
  obtain ⟨w6, hw6⟩ : ∃ x, x = (w5.alloc (.cells #[.slice none 0 0] 84)).setRow w5.heap.size #[.slice none 0 0] := ⟨_, rfl⟩
  have hb6 : Below w5.heap.size w5 w6 := by rw [hw6]; exact below_setRow ((Below.refl _ _).alloc (Nat.le_refl _) _) (Nat.le_refl _) _
  have hk6 : w6.heap[Kb]? = some (.cells #[.slice none 0 0] 84 (0, 0)) := by rw [hw6, hKb]; exact setRow_heap _ _ _ _ _ _ (heap_alloc_new _ _)
  have HBk6 := hid (show BookAt w6 Kb w.heap.size [] from ⟨none, 0, hk6, World.ownsRow_nil _ _ _ _⟩)
  have HW6 := hid hw6
  have HKb := hid hKb
  have ez6 := hb6.size
  have HB6 := hid (HB5.out.trans (hb6.mono HB5.out.size))
  have HF6 := hid (HF5.out.below hb6)
  have hKl : w.heap.size ≤ Kb := by have := HB5.out.size; omega
  clear hb6 hk6 hw6 hKb
  go_upto_region 5 with (refine wpList_store_block rfl 84 _ _ rfl _ _ _ _ rfl rfl (heap_alloc_new _ _) rfl infoBook (by simp [Value.oneCell']) ?_)
  rw [← HW6.out, ← HKb.out]
  have hSz := hid (ask_size HT.out.okd HA.out)
  have HQ1 := hid (fr_none HF6.out)
  have HOne := hid (encs_one (sortedK s.names))
  have HXl := hid (show ((sortedK s.names).map encStr).length = N by rw [List.length_map, HN.out])
  obtain ⟨i0, hi, hz0, hz1', hz2'⟩ := info_parts infoText
  go_wp2_with (first
    | (refine wpList_append_rd rfl (.const (.slice none 0 0)) (.tmp 48) 62 rfl w6.heap.size 9 _ 1 16 Tryz.underlying62 infoText rfl (by decide) (.slice none 0 0) 0 [] rfl (World.ownsRow_nil _ _ _ _) q1 N N ((sortedK s.names).map encStr) rfl HQ1.out (by rw [Nat.mul_one]; exact HXl.out) HF6.out.rd HOne.out (by unfold maxLen; omega) (by omega) (Nat.le_refl _) ?_; intro v7 w7 hown7 hg7 _; rw [Nat.zero_add, List.nil_append] at hown7; obtain ⟨q7, c7, rfl, _, _, _⟩ := own_shape hown7; have hb7 := hid ((Below.refl w6.heap.size w6).grown hg7 (Nat.le_refl _) (fun k hk => nomatch hk)); have hown7 := hid hown7; clear hg7)
    | (refine wpList_append_rd rfl (.tmp 49) (.tmp 51) 62 rfl w6.heap.size 9 _ 1 16 Tryz.underlying62 infoText rfl (by decide) (.slice q7 N c7) N ((sortedK s.names).map encStr) rfl (own_below hown7.out ((Below.refl w7.heap.size w7).alloc (Nat.le_refl _) _)) (some ⟨w7.heap.size, 0, none⟩) 1 1 [.string A] rfl (fun h => by cases h) rfl (Rd.new _ _ _) (by simp [Value.oneCell']) (by unfold maxLen; omega) (by omega) (by simp; have := hb7.out.size; omega) ?_; intro v8 w8 hown8 hg8 _; obtain ⟨q8, c8, rfl, _, _, _⟩ := own_shape hown8; have hb8 := hid ((hb7.out.alloc hb7.out.size _).grown hg8 (by simp; have := hb7.out.size; omega) (fun k hk => (hown7.out.lt k hk).1)); have hown8 := hid hown8; clear hg8))
  have HB8 := hid (HB6.out.trans (hb8.out.mono HB6.out.size))
  have HBk8 := hid (HBk6.out.below hb8.out)
  have HF8 := hid (HF6.out.below hb8.out)
  have hnm := Fr.of_own hown8.out
  rw [← askL_cells] at hnm
  have HNm := hid hnm
  have HAl := hid (show (askL s A).length = N + 1 by rw [askL_len, HN.out])
  have hs1 := HB1.out.size
  have hg1 := (show ∀ g, q1.map (·.block) = some g → g < w1.heap.size from fun g hg => ((ShRow.of_fr (s := ⟨q1, N, N, 108, 9, .string ⟨#[]⟩⟩) HF1.out (.inr ⟨rfl, rfl, _, rfl⟩)).2 g hg).2)
  clear hnm HF6 HF5 HOne HXl HQ1 hi hz0 hz1' hz2' HBk6 HB6 HB5 HB4 HB3 HB2
  have HSt := hid (show AlkI w w8 Kb 0 [] w8 from ⟨rfl, HBk8.out, ShsOk.nil _ _ _, KpB.refl _, HB8.out⟩)
  go_loopw [10] (fun i wr => ∃ (k : Nat) (ss : List Sh), k ≤ N + 1 ∧ i = .int .i64 (k : Int) ∧ AlkI w w8 Kb k ss wr) (fun i _ => N + 1 - (intOf i).toNat)
  case atStart => exact ⟨0, [], Nat.zero_le _, rfl, HSt.out⟩
  case round =>
    obtain ⟨k, ss, hk, rfl, hI⟩ := hrel
    have HI := hid hI
    have hlen := hI.len
    have HbI := hid hI.below
    have hsz := hI.below.size
    clear hI
    by_cases hlt : k < N + 1
    · obtain ⟨K, hK⟩ : ∃ K, K = (askL s A)[k]'(by rw [HAl.out]; exact hlt) := ⟨_, rfl⟩
      have hKs : K.size ≤ maxLen := hSz.out K (by rw [hK]; exact List.getElem_mem _)
      have HNr := hid (HNm.out.kpB HI.out.kp (by decide) (by decide))
      obtain ⟨nb, no, e8, hc⟩ := HNr.out.rd.cell (k := k) (by rw [List.length_map, HAl.out]; exact hlt)
      rw [List.getElem_map, ← hK] at hc
      subst e8
      have i0 : (0 : Int) ≤ (k : Int) := by omega
      have i1 : (k : Int) < (N : Int) + 1 := by omega
      obtain ⟨R, hR⟩ : ∃ R, Hid (R = readL s K) := ⟨_, hid rfl⟩
      obtain ⟨rn, hrn⟩ : ∃ rn, Hid (rn = R.length) := ⟨_, hid rfl⟩
      have hrn2 : rn ≤ 4194304 := by rw [hrn.out, hR.out]; exact readL_le HT.out.okd K
      obtain ⟨E1, hE1⟩ : ∃ E : Int, Hid (E = knownE s K) := ⟨_, hid rfl⟩
      obtain ⟨E2, hE2⟩ : ∃ E : Int, Hid (E = foundE s K) := ⟨_, hid rfl⟩
      obtain ⟨E3, hE3⟩ : ∃ E : Int, Hid (E = looseN s K) := ⟨_, hid rfl⟩
      have z1 : (E1 != E1) = false := by simp
      have z2 : (E2 != E2) = false := by simp
      have z3 : (E3 != E3) = false := by simp
      clear hK
      go_wp2_with fail
      (with_reducible refine (read_clip md s K hKs wr (HT.out.disk.below HbI.out) HT.out.okd.good.ok HT.out.okd.bytes).mono ?_)
      rintro e w10 ⟨q10, rfl, hF10, hB10⟩
      rw [← hR.out, ← hrn.out] at hF10 ⊢
      rw [← hE1.out]
      have hc10 := (hB10.cell (World.block_lt_of_cell? wr _ hc)).trans hc
      have HF10 := hid hF10
      have HC10 := hid hB10
      have HB10 := hid (HbI.out.trans (hB10.mono hsz))
      clear hF10 hB10 hc
      go_wp2_with fail
      (with_reducible refine ((HT.out.below' HB10.out).readR hn K hKs).mono ?_)
      rintro e w11 ⟨v11, rfl, ho11, hB11⟩
      rw [← hR.out, ← hrn.out] at ho11
      rw [← hE1.out]
      obtain ⟨q11, c11, rfl, _, _, _⟩ := own_shape ho11
      have hc11 := (hB11.cell (World.block_lt_of_cell? w10 _ hc10)).trans hc10
      have HO11 := hid (Fr.of_own ho11).rd
      have HF11 := hid (HF10.out.below hB11)
      have HC11 := hid (HC10.out.trans (hB11.mono HC10.out.size))
      have HB11 := hid (HB10.out.trans (hB11.mono HB10.out.size))
      clear ho11 hB11 hc10 HC10 HF10
      go_wp2_with fail
      (with_reducible refine ((HT.out.below' HB11.out).looseD K hKs).mono ?_)
      rintro e w12 ⟨rfl, hB12⟩
      rw [← hE2.out, ← hE3.out]
      have hc12 := (hB12.cell (World.block_lt_of_cell? w11 _ hc11)).trans hc11
      have HO12 := hid (HO11.out.below hB12)
      have HF12 := hid (HF11.out.below hB12)
      have HC12 := hid (HC11.out.trans (hB12.mono HC11.out.size))
      have HB12 := hid (HB11.out.trans (hB12.mono HB11.out.size))
      clear hB12 hc11 HC11 HF11 HO11
      go_wp2_with fail
      (with_reducible refine ((HT.out.below' HB12.out).looseR hn K hKs).mono ?_)
      rintro e w13 ⟨rfl, hB13⟩
      rw [← hE2.out, ← hE3.out]
      have HO13 := hid (HO12.out.below hB13)
      have HF13 := hid (HF12.out.below hB13)
      have HC13 := hid (HC12.out.trans (hB13.mono HC12.out.size))
      have HB13 := hid (HB12.out.trans (hB13.mono HB12.out.size))
      clear hB13 hc12 HC12 HF12 HO12
      go_wp2_with fail
      (with_reducible refine (sameBytes_true q10 q11 rn rn c11 R w13 hrn.out.symm (by omega) HF13.out.rd HO13.out).mono ?_)
      rintro e w14 ⟨rfl, hB14⟩
      have HF14 := hid (HF13.out.below hB14)
      have HC14 := hid (HC13.out.trans (hB14.mono HC13.out.size))
      have HB14 := hid (HB13.out.trans (hB14.mono HB13.out.size))
      clear hB14 HC13 HF13 HO13
      have HBy := hid (bytes_any Kb w.heap.size ss q10 rn rn w14 (HI.out.book.below HC14.out) (by omega) hKl (by have := HB14.out.size; omega) (HP.out.below HB14.out (Nat.le_refl _)))
      go_wp2_with fail
      (with_reducible refine (HBy.out).mono ?_)
      rintro e w15 ⟨rfl, m, h1, h2, h3⟩
      have HN15 := hid (HI.out.step HC14.out HF14.out h1 h2 h3)
      clear h1 h2 h3 HBy
      go_wp2
      go_roundw
      case rel => exact ⟨k + 1, _, by omega, by go_num, HN15.out⟩
      case measure => simp [intOf]; omega
    · obtain rfl : k = N + 1 := by omega
      have HTx := hid (texts_any Kb w.heap.size ss q1 N N wr HI.out.book (by omega) hKl hsz (HP.out.below HbI.out (Nat.le_refl _)))
      go_wp2_with fail
      (with_reducible refine (HTx.out).mono ?_)
      rintro e w10 ⟨rfl, S, h1, h2, h3⟩
      have hf1 := HF8.out.kpB (HI.out.kp.trans h2) (by decide) (by decide)
      have hr := ShRow.of_fr (s := ⟨q1, N, N, 108, 9, .string S⟩) hf1 (.inr ⟨rfl, rfl, S, rfl⟩)
      have hs8 : w1.heap.size ≤ w8.heap.size := by have := hb8.out.size; omega
      have hss := (HI.out.shs.kpB h2).snoc (lo := w.heap.size) hr.1 (fun g hg => ⟨(hr.2 g hg).1, Nat.lt_of_lt_of_le (hg1 g hg) hs8⟩) HB8.out.size HI.out.kp.1
      have HAp := hid (apart_any Kb w.heap.size _ w.heap.size wr.heap.size w10 h1 hss (Nat.le_refl _) (by have := h2.1; omega) (by rw [List.length_append, hlen]; show N + 1 + 1 ≤ 1000000; omega))
      have HB10 := hid (HbI.out.trans h3)
      clear h1 h2 h3 HTx hf1 hr hss
      go_wp2_with fail
      (with_reducible refine (HAp.out).mono ?_)
      rintro e w11 ⟨rfl, hb11⟩
      have HB11 := hid (HB10.out.trans hb11)
      clear hb11 HAp
      go_wp2
      go_ret
      exact ⟨rfl, HB11.out⟩
end Go.Proofs.Herb
