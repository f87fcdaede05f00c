/- The law TablesParts. For facts that can be read. Printed by gen_par.py. -/
import Derived.Test.YtljdlilcpcokhaaBam
import Derived.Test.YtljdlilcpcokhaaGpp
import Derived.Test.YtljdlilcpcokhaaOth
import Derived.ChangeKeysEq
namespace Go.Proofs.Herb
open Go.RowKit
attribute [local go_sem] Oper.semAt_some
theorem eqlZero (w : World) : (binOp .eql 29 (.agg #[.int .u64 0, .int .u64 0, .string ⟨#[]⟩, .string ⟨#[]⟩, .int .u64 0, .int .u64 0, .int .u32 0, .int .u32 0]) (.agg #[.int .u64 0, .int .u64 0, .string ⟨#[]⟩, .string ⟨#[]⟩, .int .u64 0, .int .u64 0, .int .u32 0, .int .u32 0])).run Try.prog w = .ok (.bool true) w :=
  eqlProps w _ _ rfl ⟨⟨0, 0, ⟨#[]⟩, ⟨#[]⟩, 0, 0, 0, 0⟩, rfl⟩
/-- a region that draws its order, in a class of worlds that is told by a letter -/
theorem region_quiet_d {P : Program} {T : Type} {D : T → World} {id : Nat} {Q : Exit → Act → World → Prop} {a : Act} {w : World} {l : List Oper} (hm : P.follows .mixedOrders = true) (hB : Region.lexB .any l.toArray = true) (x0 : T) (hx0 : { w with drawn := w.drawn + 1 } = D x0)
    (h : wpQuiet P l.toArray (fun w' => ∃ x, w' = D x) (fun a' => ∀ x, Q .normal a' (D x)) l a) : (Code.region id l.toArray true).wp P Q a w :=
  region_quiet_c (C := fun w' => ∃ x, w' = D x) hm hB ⟨x0, hx0⟩ (by
    have e : (fun a' => ∀ x, Q .normal a' (D x)) = fun a' => ∀ w', (∃ x, w' = D x) → Q .normal a' w' := by
      funext a'
      exact propext ⟨fun h w' ⟨x, hx⟩ => hx ▸ h x, fun h x => h _ ⟨x, rfl⟩⟩
    rw [e] at h
    exact h)
theorem class_d (w : World) : ∃ (T : Type) (D : T → World), (∀ x, Below w.heap.size w (D x)) ∧ ∀ w', Below w.heap.size w w' → ∃ x, w' = D x :=
  ⟨{ w' // Below w.heap.size w w' }, Subtype.val, fun x => x.2, fun w' h => ⟨⟨w', h⟩, rfl⟩⟩
theorem calls_d {P : Program} {w : World} {T : Type} {D : T → World} (h1 : ∀ x, Below w.heap.size w (D x)) (h2 : ∀ w', Below w.heap.size w w' → ∃ x, w' = D x) {f : Nat} {vs : Array Value} {v : Value}
    (hf : ∀ w', Below w.heap.size w w' → Calls P f vs w' fun e w'' => e = .returned v ∧ Below w'.heap.size w' w'') (x : T) : Calls P f vs (D x) fun e w'' => e = .returned v ∧ ∃ y, w'' = D y := by
  refine (hf _ (h1 x)).mono ?_
  rintro e w'' ⟨k1, k2⟩
  exact ⟨k1, h2 _ ((h1 x).trans (k2.mono (h1 x).size))⟩
set_option maxRecDepth 100000 in
set_option maxHeartbeats 4000000 in
theorem partsLaw_any (line : Nat) (q : Option Addr) (n c : Nat) (l : List Fact) (w : World) (hn : l.length = n) (hm : n ≤ 9223372036854775807) (hr : Rd w q (fCells l)) (ho : ∀ f ∈ l, f.Ok) (hs : ∀ f ∈ l, f.key.size ≤ 140737488355328 ∧ f.val.size ≤ 140737488355328) :
    Calls Try.prog 6 #[.int .u64 (line : Int), .slice q n c] w fun e w' => e = .returned (.bool true) ∧ Below w.heap.size w w' := by
  have HG := hid (great_any q n c l w hn hm hr hs)
  have Hn := hid hn
  have Hr := hid hr
  have Ho := hid ho
  clear hn hr ho hs
  go_enter Try.func6, Try.ntmps6
  go_wp2_with fail
  refine HG.out.mono ?_
  rintro e w1 ⟨b, rfl, hb, hB1⟩
  have HB1 := hid hB1
  have Hb := hid hb
  have hs1 := hB1.size
  clear HG hB1 hb
  cases b with
  | true =>
    go_wp2_with fail
    refine (lives_any w1).mono ?_
    rintro e w2 ⟨rfl, hb2⟩
    have HB2 := hid (HB1.out.trans (hb2.mono hs1))
    clear hb2
    go_wp2
    go_ret
    exact ⟨rfl, HB2.out⟩
  | false =>
    have hk1 : n ≤ 6000 := great_small Hn.out (fun h => by have := Hb.out.2 h; cases this)
    by_cases h : GoodF line l ∧ 0 < l.length
    · by_cases hl : (tabB line l).length ≤ 65536
      · go_wp2_with fail
        refine (build_ok line q n c l w1 Hn.out hk1 (Hr.out.below HB1.out) Ho.out h hl).mono ?_
        rintro e w3 ⟨p3, rfl, hfr, hb3⟩
        have hs3 := hb3.size
        have HB3 := hid (HB1.out.trans (hb3.mono hs1))
        have r3 := hfr.rd
        obtain ⟨arr3, harr⟩ : ∃ x, x = (propsF line l).cells.toArray := ⟨_, rfl⟩
        rw [← harr]
        obtain ⟨h8, h1⟩ := props_cells8 (propsF line l)
        rw [← harr] at h8 h1
        have H8 := hid (show zProps.size = arr3.size by rw [h8]; rfl)
        have infoP8 := hid (show (Try.prog.info? 29).map (·.size) = some arr3.size by rw [h8]; exact infoProps)
        have H1 := hid h1
        clear h8 h1 harr hfr
        obtain ⟨P, hP⟩ : ∃ x, x = w3.heap.size := ⟨_, rfl⟩
        obtain ⟨w4, hw4⟩ : ∃ x, x = (w3.alloc (.cells zProps 29)).setRow w3.heap.size arr3 := ⟨_, rfl⟩
        have hb4 : Below w3.heap.size w3 w4 := by rw [hw4]; exact below_setRow ((Below.refl _ _).alloc (Nat.le_refl _) _) (Nat.le_refl _) _
        unfold zProps at hw4
        have HB4 := hid (HB3.out.trans (hb4.mono (by omega)))
        have hs4 := hb4.size
        have r4 := r3.below hb4
        have HW4 := hid hw4
        have HP := hid hP
        clear hb3 hb4 hw4 hP r3
        have hT := tab_len line l
        obtain ⟨bp, op, rfl, -⟩ := r4.cell (k := 0) (by rw [List.length_map]; omega)
        obtain ⟨T, hTe⟩ : ∃ T, T = (tabB line l).length := ⟨_, rfl⟩
        have hpt : ∀ (i : Nat) (hi : i < 3) (W : World), Below w4.heap.size w4 W → Calls Try.prog 12 #[.slice (some ⟨bp, op, none⟩) T T, .int .i64 (i : Int)] W fun e w' => (∃ q', e = .returned (.tuple #[.slice q' (((partsB line l)[i]?).getD []).length (T - partAt l i), .bool true]) ∧ Rd w' q' ((((partsB line l)[i]?).getD []).map bv)) ∧ Below W.heap.size W w' := by
          intro i hi W hb
          obtain ⟨k1, k2, k3⟩ := tab_parts line l hl i hi
          have hle : partAt l i + (((partsB line l)[i]?).getD []).length ≤ T - 40 := by
            have e0 : (outB l ++ idxB l).length = (outB l).length + (idxB l).length := List.length_append
            have e1 : (outB l ++ idxB l ++ filB l).length = (outB l).length + (idxB l).length + (filB l).length := by rw [List.length_append, List.length_append]
            rcases (show i = 0 ∨ i = 1 ∨ i = 2 by omega) with rfl | rfl | rfl
            · show (outB l).length + (idxB l).length ≤ _; omega
            · show (outB l ++ idxB l).length + (filB l).length ≤ _; omega
            · show (outB l ++ idxB l ++ filB l).length + (tailB2 line l).length ≤ _; omega
          have h := part_any (some ⟨bp, op, none⟩) T T i (T - 36 + 8 * i) (tabB line l) W hTe.symm (by omega) (by omega) (Nat.le_refl _) (by unfold maxLen; omega) hi rfl (by rw [hTe, k1, k2, ← hTe]; exact hle) (r4.below hb)
          rw [hTe, k1, k2, k3, ← hTe] at h
          exact h
        obtain ⟨IL, hIL⟩ : ∃ x, x = (idxB l).length := ⟨_, rfl⟩
        obtain ⟨FL, hFL⟩ : ∃ x, x = (filB l).length := ⟨_, rfl⟩
        obtain ⟨TL, hTL⟩ : ∃ x, x = (tailB2 line l).length := ⟨_, rfl⟩
        obtain ⟨OL, hOL⟩ : ∃ x, x = (outB l).length := ⟨_, rfl⟩
        obtain ⟨CI, hCI⟩ : ∃ x, x = T - partAt l 0 := ⟨_, rfl⟩
        obtain ⟨CF, hCF⟩ : ∃ x, x = T - partAt l 1 := ⟨_, rfl⟩
        obtain ⟨CT, hCT⟩ : ∃ x, x = T - partAt l 2 := ⟨_, rfl⟩
        have P0 : ∀ W, Below w4.heap.size w4 W → Calls Try.prog 12 #[.slice (some ⟨bp, op, none⟩) T T, .int .i64 0] W fun e w' => (∃ q', e = .returned (.tuple #[.slice q' IL CI, .bool true]) ∧ Rd w' q' ((idxB l).map bv)) ∧ Below W.heap.size W w' := by
          rw [hIL, hCI]; exact fun W hb => hpt 0 (by decide) W hb
        have P1 : ∀ W, Below w4.heap.size w4 W → Calls Try.prog 12 #[.slice (some ⟨bp, op, none⟩) T T, .int .i64 1] W fun e w' => (∃ q', e = .returned (.tuple #[.slice q' FL CF, .bool true]) ∧ Rd w' q' ((filB l).map bv)) ∧ Below W.heap.size W w' := by
          rw [hFL, hCF]; exact fun W hb => hpt 1 (by decide) W hb
        have P2 : ∀ W, Below w4.heap.size w4 W → Calls Try.prog 12 #[.slice (some ⟨bp, op, none⟩) T T, .int .i64 2] W fun e w' => (∃ q', e = .returned (.tuple #[.slice q' TL CT, .bool true]) ∧ Rd w' q' ((tailB2 line l).map bv)) ∧ Below W.heap.size W w' := by
          rw [hTL, hCT]; exact fun W hb => hpt 2 (by decide) W hb
        have e0 : (outB l ++ idxB l).length = (outB l).length + (idxB l).length := List.length_append
        have e1 : (outB l ++ idxB l ++ filB l).length = (outB l).length + (idxB l).length + (filB l).length := by rw [List.length_append, List.length_append]
        have hci : IL ≤ CI ∧ CI ≤ T ∧ IL ≤ 65536 := by rw [hCI]; show _ ≤ T - (outB l).length ∧ T - (outB l).length ≤ T ∧ _; omega
        have hcf : FL ≤ CF ∧ CF ≤ T ∧ FL ≤ 65536 := by rw [hCF]; show _ ≤ T - (outB l ++ idxB l).length ∧ T - (outB l ++ idxB l).length ≤ T ∧ _; omega
        have hct : TL ≤ CT ∧ CT ≤ T ∧ TL ≤ 65536 := by rw [hCT]; show _ ≤ T - (outB l ++ idxB l ++ filB l).length ∧ T - (outB l ++ idxB l ++ filB l).length ≤ T ∧ _; omega
        rw [← hTe] at hl ⊢
        rw [← hIL, ← hFL, ← hTL, ← hOL] at hT
        have HTe := hid hTe
        have HT := hid hT
        have HIL := hid hIL
        have HFL := hid hFL
        have HTL := hid hTL
        have HOL := hid hOL
        have h40 : 40 ≤ T := by omega
        obtain ⟨TF, hTF⟩ : ∃ x, x = T - 40 := ⟨_, rfl⟩
        have s1 : IntKind.i64.wrap ((T : Int) - 40) = (TF : Int) := by rw [IntWalk.i64_in _ (by omega)]; omega
        have s2 : T - TF = 40 := by omega
        have i0 : (0 : Int) ≤ (TF : Int) := by omega
        have i1 : (TF : Int) ≤ (T : Int) := by omega
        have i2 : T ≠ TF := by omega
        obtain ⟨FT, hFT⟩ : ∃ x, x = footB line l := ⟨_, rfl⟩
        have hfr : Rd w4 (some ⟨bp, op + TF, none⟩) (FT.map bv) := by
          have h := r4.drop TF
          rw [← List.map_drop, hTF, hTe, footB_drop, ← hFT] at h
          rw [hTF, hTe]
          exact h
        have hfl : FT.length = 40 := by rw [hFT]; exact footB_len line l
        obtain ⟨C1, hC1⟩ : ∃ x, x = (crcMore 0 (filB l)).toNat := ⟨_, rfl⟩
        obtain ⟨C2, hC2⟩ : ∃ x, x = (crcMore 0 (tailB2 line l)).toNat := ⟨_, rfl⟩
        obtain ⟨C3, hC3⟩ : ∃ x, x = (crcMore 0 (foot0 line l)).toNat := ⟨_, rfl⟩
        have c1 : C1 < 4294967296 := by rw [hC1]; exact UInt32.toNat_lt _
        have c2 : C2 < 4294967296 := by rw [hC2]; exact UInt32.toNat_lt _
        have c3 : C3 < 4294967296 := by rw [hC3]; exact UInt32.toNat_lt _
        have n28 : num4 (FT.drop 28) 0 = C1 := by rw [hFT, hC1]; exact footB_28 line l
        have n32 : num4 (FT.drop 32) 0 = C2 := by rw [hFT, hC2]; exact footB_32 line l
        have n36 : num4 (FT.drop 36) 0 = C3 := by rw [hFT, hC3]; exact footB_36 line l
        have t36 : FT.take 36 = foot0 line l := by rw [hFT]; exact footB_take36 line l
        have t4 : FT.take 4 = [84, 66, 76, 49] := by rw [hFT]; exact footB_take4 line l
        have N28 := hid n28
        have N32 := hid n32
        have N36 := hid n36
        have T36 := hid t36
        have T4 := hid t4
        have HC1 := hid hC1
        have HC2 := hid hC2
        have HC3 := hid hC3
        have HFl := hid hfl
        have HFr := hid hfr
        have HTF := hid hTF
        clear n28 n32 n36 t36 t4 hC1 hC2 hC3 hfl hfr hTF hFT
        have HP0 := hid P0
        have HP1 := hid P1
        have HP2 := hid P2
        have R4 := hid r4
        clear hpt hTe r4 hT hIL hFL hTL hOL hCI hCF hCT P0 P1 P2 e0 e1
        go_upto_region 6 with (refine wpList_store_block rfl 29 _ _ rfl _ _ _ _ rfl rfl (heap_alloc_new _ _) H8.out infoP8.out H1.out ?_)
        rw [← HW4.out, ← HP.out]
        clear HW4 HP
        go_wp2_with fail
        (with_reducible refine (HP0.out w4 (Below.refl _ _)).mono ?_)
        rintro e w5 ⟨⟨qi, rfl, ri⟩, hb5⟩
        have HB5 := hid (hb5)
        have HRi := hid ri
        clear hb5 ri HP0
        go_wp2_with fail
        (with_reducible refine (HP1.out w5 HB5.out).mono ?_)
        rintro e w6 ⟨⟨qf, rfl, rf⟩, hb6⟩
        have HB6 := hid (HB5.out.trans (hb6.mono HB5.out.size))
        have HRi6 := hid (HRi.out.below hb6)
        have HRf := hid rf
        clear hb6 rf HP1
        go_wp2_with fail
        (with_reducible refine (HP2.out w6 HB6.out).mono ?_)
        rintro e w7 ⟨⟨qt, rfl, rt⟩, hb7⟩
        have HB7 := hid (HB6.out.trans (hb7.mono HB6.out.size))
        have HRi7 := hid (HRi6.out.below hb7)
        have HRf7 := hid (HRf.out.below hb7)
        have HRt := hid rt
        have hs7 := HB7.out.size
        have d6 : decide ((65536 : Int) < (T : Int)) = false := by simp; omega
        clear hb7 rt HP2 HRi HRf HRi6 HB5 HB6
        go_upto_region 12 with (fail)
        obtain ⟨TD, D, hD1, hD2⟩ := class_d w7
        have hcall : ∀ {f : Nat} {vs : Array Value} {v : Value}, (∀ w', Below w7.heap.size w7 w' → Calls Try.prog f vs w' fun e w'' => e = .returned v ∧ Below w'.heap.size w' w'') → ∀ x, Calls Try.prog f vs (D x) fun e w'' => e = .returned v ∧ ∃ y, w'' = D y := fun hf x => calls_d hD1 hD2 hf x
        have hft : ∀ w', Below w7.heap.size w7 w' → Rd w' (some ⟨bp, op + TF, none⟩) (FT.map bv) := fun w' hb => (HFr.out.below HB7.out).below hb
        have HN28 := hid (hcall (fun w' hb => numL_any (some ⟨bp, op + TF + 28, none⟩) 12 12 (FT.drop 28) w' (by rw [List.length_drop, HFl.out]) (by decide) (by rw [List.map_drop]; exact (hft w' hb).drop 28)))
        have HN32 := hid (hcall (fun w' hb => numL_any (some ⟨bp, op + TF + 32, none⟩) 8 8 (FT.drop 32) w' (by rw [List.length_drop, HFl.out]) (by decide) (by rw [List.map_drop]; exact (hft w' hb).drop 32)))
        have HN36 := hid (hcall (fun w' hb => numL_any (some ⟨bp, op + TF + 36, none⟩) 4 4 (FT.drop 36) w' (by rw [List.length_drop, HFl.out]) (by decide) (by rw [List.map_drop]; exact (hft w' hb).drop 36)))
        have HS1 := hid (hcall (fun w' hb => of_any qf FL CF (filB l) w' HFL.out.symm (by omega) (HRf7.out.below hb)))
        have HS2 := hid (hcall (fun w' hb => of_any qt TL CT (tailB2 line l) w' HTL.out.symm (by omega) (HRt.out.below hb)))
        have HS3 := hid (hcall (fun w' hb => of_any (some ⟨bp, op + TF, none⟩) 36 40 (foot0 line l) w' (foot0_len line l) (by decide) (by have h := (hft w' hb).take 36; rw [← List.map_take, T36.out] at h; exact h)))
        rw [N28.out] at HN28
        rw [N32.out] at HN32
        rw [N36.out] at HN36
        rw [← HC1.out] at HS1
        rw [← HC2.out] at HS2
        rw [← HC3.out] at HS3
        have hcv : ∀ x, (convert 26 9 (.slice (some ⟨bp, op + TF, none⟩) 4 40)).run Try.prog (D x) = .ok (.string ⟨#[84, 66, 76, 49]⟩) (D x) := fun x =>
          convB (D x) (some ⟨bp, op + TF, none⟩) 4 40 [84, 66, 76, 49] rfl (by have h2 := (hft _ (hD1 x)).take 4; rw [← List.map_take, T4.out] at h2; exact h2)
        have m1 : (C1 : Int) % 4294967296 = (C1 : Int) := by omega
        have m2 : (C2 : Int) % 4294967296 = (C2 : Int) := by omega
        have m3 : (C3 : Int) % 4294967296 = (C3 : Int) := by omega
        obtain ⟨x0, hx0⟩ := hD2 { w7 with drawn := w7.drawn + 1 } (Below.refl _ _).drew
        have HD1 := hid hD1
        haveI : Nonempty TD := ⟨x0⟩
        clear hcall hft hD1 hD2
        refine region_quiet_d (D := D) (by kernel_rfl) (by kernel_rfl) x0 hx0 ?_
        repeat (go_big_quiet_step (first | (go_at_call 14; first | (with_reducible exact HN28.out _) | (with_reducible exact HN32.out _) | (with_reducible exact HN36.out _)) | (go_at_call 15; first | (with_reducible exact HS1.out _) | (with_reducible exact HS2.out _) | (with_reducible exact HS3.out _))))
        refine wpQuiet_nil ?_
        intro x
        as_aux_lemma =>
        obtain ⟨w8, hw8⟩ : ∃ y, y = D x := ⟨_, rfl⟩
        have HB78 := hid (show Below w7.heap.size w7 w8 from hw8 ▸ HD1.out x)
        rw [← hw8]
        have HB8 := hid (HB7.out.trans (HB78.out.mono hs7))
        have hs8 := HB8.out.size
        have HTab := hid (R4.out.below HB8.out)
        have HW8 := hid (show Below w.heap.size w w8 from HB4.out.trans (HB8.out.mono HB4.out.size))
        have HRi8 := hid (HRi7.out.below HB78.out)
        have HIb := hid (idx_blk h Ho.out (by rw [← HTe.out]; exact hl))
        have HCh := hid (fun (i : Nat) (hi : i < (idxI l).length) => chunk_all h Ho.out (by rw [← HTe.out]; exact hl) hi)
        clear hw8 HN28 HN32 HN36 HS1 HS2 HS3 hcv m1 m2 m3 c1 c2 c3 HC1 HC2 HC3 N28 N32 N36 T36 T4 HFr HFl HRf7 HRt HRi7 HB78 HD1 s1 s2 i0 i1 i2 d6
        go_wp2_with fail
        refine (bget_any qi IL CI (idxB l) w8 HIL.out.symm hci.1 (by unfold maxLen; omega) (by omega) HRi8.out).mono ?_
        rintro e w9 ⟨hb9, hcase⟩
        rcases hcase with ⟨hno, -⟩ | ⟨li, hli, qx, rfl, hrx⟩
        · exact absurd ⟨_, HIb.out⟩ hno
        obtain rfl : li = idxI l := blk_one HIb.out hli
        obtain ⟨R, hR⟩ : ∃ R, R = (idxI l).length := ⟨_, rfl⟩
        rw [← hR]
        have HR := hid hR
        have HB9 := hid (HB8.out.trans (hb9.mono hs8))
        have HTop := hid hrx
        have HTab9 := hid (HTab.out.below hb9)
        have HW9 := hid (HW8.out.trans (hb9.mono HW8.out.size))
        clear hb9 hrx hR hli HRi8 HTab HW8 HB8
        obtain ⟨bt, ot, rfl⟩ : ∃ bt ot, qx = some ⟨bt, ot, none⟩ := by
          obtain ⟨b, o, e, -⟩ := item_at HTop.out (j := 0) HIb.out.1.1
          exact ⟨b, o, e⟩
        have HRs := hid (show R ≤ 65536 by rw [HR.out]; exact (blk_short HIb.out).2)
        go_wp2_with fail
        go_loopw [17, 18, 19] (fun a nn i wr => ∃ k : Nat, k ≤ R ∧ a = .int .i64 (atF l k : Int) ∧ nn = .int .i64 (fromF l k : Int) ∧ i = .int .i64 (k : Int) ∧ Below w9.heap.size w9 wr) (fun _ _ i _ => R - (intOf i).toNat)
        case atStart => exact ⟨0, Nat.zero_le _, by rw [atF_zero]; rfl, by rw [fromF_zero]; rfl, rfl, Below.refl _ _⟩
        case round =>
          obtain ⟨k, hk, rfl, rfl, rfl, hbr⟩ := hrel
          have HBr := hid hbr
          have hsr := hbr.size
          clear hbr
          by_cases hlt : k < R
          · as_aux_lemma =>
            have hkR : k < (idxI l).length := by rw [← HR.out]; exact hlt
            obtain ⟨S, m, xs, K, V, hc⟩ := HCh.out k hkR
            obtain ⟨b', o', e', -, t0, t1⟩ := item_at (HTop.out.below HBr.out) hkR
            cases e'
            have he : (idxI l)[k] = ⟨K, V⟩ := by
              have h1 := hc.idx
              rw [List.getElem?_eq_getElem hkR] at h1
              exact Option.some.inj h1
            rw [he] at t0 t1
            obtain ⟨A, hA⟩ : ∃ x, x = atF l k := ⟨_, rfl⟩
            obtain ⟨N, hN⟩ : ∃ x, x = fromF l k := ⟨_, rfl⟩
            rw [← hA, ← hN] at hc ⊢
            have HA := hid hA
            have HN := hid hN
            have hAS : A + S ≤ T - 40 := by
              have h1 := hc.inn
              have h2 := HT.out
              have h3 := HTe.out
              rw [← HOL.out] at h1
              omega
            have hvl : V.size = (vput A).length + (vput S).length := by rw [← size_toList, hc.val, List.length_append]
            have hv1 := vput_len A
            have hv2 := vput_len S
            obtain ⟨TA, hTA⟩ : ∃ x, x = (vput A).length := ⟨_, rfl⟩
            obtain ⟨TS, hTS⟩ : ∃ x, x = (vput S).length := ⟨_, rfl⟩
            obtain ⟨VS, hVS⟩ : ∃ x, x = V.size := ⟨_, rfl⟩
            rw [← hTA] at hv1 hvl
            rw [← hTS] at hv2 hvl
            rw [← hVS] at hvl
            have HTA := hid hTA
            have HTS := hid hTS
            have HVS := hid hVS
            have HC := hid hc
            have HNz := hid (show N + m ≤ n by have := hc.fits; rw [Hn.out] at this; exact this)
            have hm0 := hc.pos
            have HVl := hid hvl
            clear hA hN hc he hTA hTS hVS hvl
            have i4 : (0 : Int) ≤ (k : Int) := by omega
            have i5 : (k : Int) < (R : Int) := by omega
            obtain ⟨c1, wa, cv1, rd1, hba, hc1⟩ := convS wr V
            have t0a := t0
            have t1a := t1
            rw [← HVS.out] at cv1 hc1
            have HRd1 := hid rd1
            have HBa := hid (HBr.out.trans (hba.mono hsr))
            have hsa := hba.size
            clear rd1 hba
            go_wp2_with fail
            refine (vget_any (some ⟨wr.heap.size, 0, none⟩) VS c1 V.data.toList wa (by rw [size_toList, HVS.out]) (by have := HVl.out; omega) HRd1.out).mono ?_
            rintro e wb ⟨rfl, hbb⟩
            rw [HC.out.val, getV_put A _ (by omega), ← HTA.out]
            have HBb := hid (HBa.out.trans (hbb.mono HBa.out.size))
            obtain ⟨b', o', e', -, t0, t1⟩ := item_at (HTop.out.below HBb.out) hkR
            cases e'
            have he : (idxI l)[k] = ⟨K, V⟩ := by
              have h1 := HC.out.idx
              rw [List.getElem?_eq_getElem hkR] at h1
              exact Option.some.inj h1
            rw [he] at t0 t1
            have HE := hid he
            obtain ⟨c2, wc, cv2, rd2, hbc, hc2⟩ := convS wb V
            rw [← HVS.out] at cv2 hc2
            have HRd2 := hid rd2
            have HBc := hid (HBb.out.trans (hbc.mono HBb.out.size))
            have i6 : (0 : Int) ≤ (TA : Int) := by omega
            have i7 : (TA : Int) ≤ (VS : Int) := by have := HVl.out; omega
            have i8 : c2 ≠ TA := by have := HVl.out; omega
            clear cv1 hbb rd2 hbc he HRd1 HBa t0a t1a
            go_wp2_with fail
            refine (vget_any (some ⟨wb.heap.size, TA, none⟩) (VS - TA) (c2 - TA) (vput S) wc (by have := HVl.out; have := HTS.out; omega) (by have := HVl.out; omega) (by
              have h1 := HRd2.out.drop TA
              rw [← List.map_drop, HC.out.val, HTA.out, List.drop_left, Nat.zero_add] at h1
              rw [HTA.out]
              exact h1)).mono ?_
            rintro e wd ⟨rfl, hbd⟩
            have hgv := getV_put S [] (by omega)
            rw [List.append_nil] at hgv
            rw [hgv, ← HTS.out]
            have HBd := hid (HBc.out.trans (hbd.mono HBc.out.size))
            clear hgv hbd HRd2 cv2 t0 t1 i6 i7 i8
            obtain ⟨b', o', e', -, t0, t1⟩ := item_at (HTop.out.below HBd.out) hkR
            cases e'
            rw [HE.out] at t0 t1
            have i6 : IntKind.i64.wrap ((TA : Int) + (TS : Int)) = (VS : Int) := by have := HVl.out; rw [IntWalk.i64_in _ (by omega)]; omega
            have i7 : ((V.size : Nat) : Int) = (VS : Int) := by rw [HVS.out]
            have i8 : (A : Int) % 18446744073709551616 = (A : Int) := by omega
            obtain ⟨TA', hTA'⟩ : ∃ x, x = T - A := ⟨_, rfl⟩
            have i9 : IntKind.i64.wrap ((T : Int) - (A : Int)) = (TA' : Int) := by rw [IntWalk.i64_in _ (by omega)]; omega
            have i10 : (TA' : Int) % 18446744073709551616 = (TA' : Int) := by omega
            have i11 : decide ((TA' : Int) < (S : Int)) = false := by simp; omega
            go_upto_region 26 with (fail)
            clear i6 i7 i8 i9 i10 i11 hTA'
            obtain ⟨AS, hAS2⟩ : ∃ x, x = A + S := ⟨_, rfl⟩
            have i6 : IntKind.i64.wrap (S : Int) = (S : Int) := IntWalk.i64_in _ (by omega)
            have i7 : IntKind.i64.wrap ((A : Int) + (S : Int)) = (AS : Int) := by rw [IntWalk.i64_in _ (by omega)]; omega
            have i8 : (0 : Int) ≤ (A : Int) := by omega
            have i9 : (A : Int) ≤ (AS : Int) := by omega
            have i10 : (AS : Int) ≤ (T : Int) := by omega
            have i11 : AS - A = S := by omega
            have i12 : T ≠ A := by omega
            go_wp2_with fail
            refine (bget_any (some ⟨bp, op + A, none⟩) S (T - A) (bAll xs) wd HC.out.len (by omega) (by unfold maxLen; omega) (by omega) (by
              have h1 := ((HTab9.out.below HBd.out).drop A).take S
              rw [← List.map_drop, ← List.map_take, HC.out.cut] at h1
              exact h1)).mono ?_
            rintro e we ⟨hbe, hcase⟩
            rcases hcase with ⟨hno, -⟩ | ⟨li, hli, qy, rfl, hry⟩
            · exact absurd ⟨_, HC.out.blk⟩ hno
            obtain rfl : li = xs := blk_one HC.out.blk hli
            rw [HC.out.many]
            obtain ⟨by0, oy, rfl⟩ : ∃ b o, qy = some ⟨b, o, none⟩ := by
              obtain ⟨b, o, e, -⟩ := item_at hry (j := 0) (by rw [HC.out.many]; exact hm0)
              exact ⟨b, o, e⟩
            have HBe := hid (HBd.out.trans (hbe.mono HBd.out.size))
            have HXs := hid hry
            clear hbe hry hli t0 t1 i6 i7 i8 i9 i10 i11 i12
            obtain ⟨M1, hM1⟩ : ∃ x, x = m - 1 := ⟨_, rfl⟩
            obtain ⟨b', o', e', -, t0, -⟩ := item_at (HTop.out.below HBe.out) hkR
            cases e'
            rw [HE.out] at t0
            obtain ⟨b', o', e', -, z0, -⟩ := item_at HXs.out (j := M1) (by rw [HC.out.many]; omega)
            cases e'
            have hz : (li[M1]'(by rw [HC.out.many]; omega)).key = K := by
              have h1 := HC.out.last (by rw [HC.out.many]; omega)
              simp only [hM1]
              exact h1
            rw [hz] at z0
            have i6 : IntKind.i64.wrap ((m : Int) - 1) = (M1 : Int) := by have := HNz.out; rw [IntWalk.i64_in _ (by omega)]; omega
            have i7 : (0 : Int) ≤ (M1 : Int) := by omega
            have i8 : (M1 : Int) < (m : Int) := by omega
            have i9 : ((m : Int) == 0) = false := by simp; omega
            clear hz hM1
            go_upto_region 27 with (fail)
            go_quiet (fail)
            as_aux_lemma =>
            obtain ⟨wf, hwf⟩ : ∃ x, x = we.drewN nq := ⟨_, rfl⟩
            rw [← hwf]
            have HBf := hid (show Below w9.heap.size w9 wf by rw [hwf]; exact below_drewN HBe.out nq)
            have HXf := hid (show Rd wf (some ⟨by0, oy, none⟩) (iCells li) from HXs.out.below (show Below we.heap.size we wf by rw [hwf]; exact below_drewN (Below.refl _ _) nq))
            clear hwf t0 z0 i6 i7 i8 i9 HBe HXs HBb HBc HBd
            go_wp2_with fail
            go_loopw [18, 28, 29] (fun nn sz kk wg => ∃ j : Nat, j ≤ m ∧ nn = .int .i64 ((N + j : Nat) : Int) ∧ sz = .int .i64 (sumS (szAt (itemsF l)) N j : Int) ∧ kk = .int .i64 (j : Int) ∧ Below wf.heap.size wf wg) (fun _ _ kk _ => m - (intOf kk).toNat)
            case atStart => exact ⟨0, Nat.zero_le _, by rw [Nat.add_zero], rfl, rfl, Below.refl _ _⟩
            case round =>
              obtain ⟨j, hj, rfl, rfl, rfl, hbg⟩ := hrel
              have HBg := hid hbg
              have hsg := hbg.size
              clear hbg
              obtain ⟨NJ, hNJ⟩ : ∃ x, x = N + j := ⟨_, rfl⟩
              obtain ⟨SZ, hSZ⟩ : ∃ x, x = sumS (szAt (itemsF l)) N j := ⟨_, rfl⟩
              rw [← hNJ, ← hSZ]
              have HSZ := hid hSZ
              have HNJ := hid hNJ
              clear hSZ
              by_cases hlt2 : j < m
              · as_aux_lemma =>
                have hNl : NJ < l.length := by have := HNz.out; have := Hn.out; omega
                have hsz1 := HC.out.less j hlt2
                rw [← HSZ.out] at hsz1
                obtain ⟨f, hf⟩ : ∃ f, f = l[NJ] := ⟨_, rfl⟩
                have hit : li[j]? = some (itemF f) := by
                  rw [HC.out.item j hlt2, ← hNJ, List.getElem?_eq_getElem hNl, ← hf]
                  rfl
                have hjl : j < li.length := by rw [HC.out.many]; exact hlt2
                have hit2 : li[j] = itemF f := by
                  rw [List.getElem?_eq_getElem hjl] at hit
                  exact Option.some.inj hit
                have hfo : f.Ok := by rw [hf]; exact Ho.out _ (List.getElem_mem hNl)
                obtain ⟨_, hmay, -⟩ := h.1 NJ hNl
                rw [← hf] at hmay
                have hit3 : itemF f ∈ itemsF l := by unfold itemsF; rw [hf]; exact List.mem_map.2 ⟨_, List.getElem_mem hNl, rfl⟩
                obtain ⟨hks, hvs⟩ := good_items h.1 _ hit3
                have hss : sumS (szAt (itemsF l)) N (j + 1) = SZ + (itemF f).key.size + (itemF f).val.size := by
                  rw [sumS, ← HSZ.out, ← hNJ, szAt_get (show NJ < (itemsF l).length by rw [itemsF_len]; exact hNl)]
                  have e : (itemsF l)[NJ]'(by rw [itemsF_len]; exact hNl) = itemF f := by simp [itemsF, hf]
                  rw [e]; omega
                obtain ⟨b', o', e', _, hfa⟩ := fact_at (Hr.out.below (HW9.out.trans ((HBf.out.trans (HBg.out.mono HBf.out.size)).mono HW9.out.size))) hNl
                rw [← hf] at hfa
                subst e'
                have HPut := hid (fun W => kput_ok f hfo W hmay)
                have HSS := hid hss
                have HIt := hid hit2
                have HKs := hid hks
                have HFo := hid hfo
                have HF := hid hf
                clear hit hit2 hit3 hmay hss hf hks hfo hNJ
                obtain ⟨x0, x1, x2, x3, x4, x5⟩ := hfa
                have i4 : (0 : Int) ≤ (NJ : Int) := by omega
                have i5 : (NJ : Int) < (n : Int) := by have := Hn.out; omega
                have i6 : (j : Int) < (m : Int) := by omega
                have i7 : decide ((n : Int) ≤ (NJ : Int)) = false := by simp; have := Hn.out; omega
                go_wp2_with fail
                refine (HPut.out _).mono ?_
                rintro e wh ⟨qk, rfl, hfr, hbh⟩
                obtain ⟨KL, hKL⟩ : ∃ x, x = (kput f).length := ⟨_, rfl⟩
                obtain ⟨VL, hVL⟩ : ∃ x, x = f.val.size := ⟨_, rfl⟩
                obtain ⟨KS, hKS⟩ : ∃ x, x = (itemF f).key := ⟨_, rfl⟩
                have hke : KS = ⟨(kput f).toArray⟩ := hKS
                have hkz : (itemF f).key.size = KL := by rw [hKL]; unfold itemF; simp [ByteArray.size]
                have hvz : (itemF f).val.size = VL := by rw [hVL]; rfl
                have hss := HSS.out
                rw [hkz, hvz] at hss
                have hks := HKs.out
                rw [hkz] at hks
                rw [hvz] at hvs
                rw [← hKL] at hfr ⊢
                have hcv : ∀ k, (convert 26 9 (.slice qk KL KL)).run Try.prog (wh.drewN k) = .ok (.string KS) (wh.drewN k) := fun k => by
                  rw [hke]
                  exact convB (wh.drewN k) qk KL KL (kput f) hKL.symm (hfr.rd.below (below_drewN (Below.refl _ _) k))
                have HBh := hid (HBg.out.trans (hbh.mono hsg))
                obtain ⟨b2, o2, e2, -, t0, t1⟩ := item_at (HXf.out.below HBh.out) (j := j) (by rw [HC.out.many]; exact hlt2)
                cases e2
                rw [HIt.out] at t0 t1
                rw [← hKS] at t0
                have t2 : wh.cell? ⟨by0, oy + j * 2 + 1, none⟩ = some (.string f.val) := t1
                obtain ⟨b3, o3, e3, _, hfa⟩ := fact_at (Hr.out.below (HW9.out.trans ((HBf.out.trans (HBh.out.mono HBf.out.size)).mono HW9.out.size))) hNl
                cases e3
                rw [← HF.out] at hfa
                have z5 := hfa.c5
                have i8 : decide ((512 : Int) ≤ (SZ : Int)) = false := by simp; omega
                obtain ⟨SK, hSK⟩ : ∃ x, x = SZ + KL := ⟨_, rfl⟩
                obtain ⟨SV, hSV⟩ : ∃ x, x = SK + VL := ⟨_, rfl⟩
                have i9 : IntKind.i64.wrap ((SZ : Int) + (KL : Int)) = (SK : Int) := by rw [IntWalk.i64_in _ (by omega)]; omega
                have i10 : IntKind.i64.wrap ((SK : Int) + (VL : Int)) = (SV : Int) := by rw [IntWalk.i64_in _ (by omega)]; omega
                have i11 : ((f.val.size : Nat) : Int) = (VL : Int) := by rw [hVL]
                have hss2 : sumS (szAt (itemsF l)) N (j + 1) = SV := by rw [hss]; omega
                have HBh2 := hid (show ∀ nq, Below wf.heap.size wf (wh.drewN nq) from fun nq => below_drewN HBh.out nq)
                have HSS2 := hid hss2
                clear hfa t1 x0 x1 x2 x3 x4 x5 hss hss2 hke hkz hvz hKS hKL hVL hfr hbh HPut HSS HIt HKs HFo
                go_upto_region 36 with (fail)
                go_quiet (fail)
                have hNz := HNz.out
                go_wp2_with fail
                exact ⟨⟨j + 1, by omega, congrArg (Value.int .i64) (by have := HNJ.out; omega), congrArg (Value.int .i64) (by rw [HSS2.out]; omega), by go_num, HBh2.out nq⟩, by simp [intOf]; omega⟩
              · as_aux_lemma =>
                obtain rfl : j = m := by omega
                have hfull := HC.out.full
                rw [← HSZ.out] at hfull
                have hnx := HC.out.next
                have hnn := HC.out.nextN
                rw [← hNJ] at hnn
                have HBz := hid (HBf.out.trans (HBg.out.mono HBf.out.size))
                obtain ⟨R1, hR1⟩ : ∃ x, x = R - 1 := ⟨_, rfl⟩
                have i4 : IntKind.i64.wrap ((R : Int) - 1) = (R1 : Int) := by rw [IntWalk.i64_in _ (by have := HRs.out; omega)]; omega
                have i5 : IntKind.i64.wrap (S : Int) = (S : Int) := IntWalk.i64_in _ (by omega)
                have i6 : IntKind.i64.wrap ((A : Int) + (S : Int)) = (AS : Int) := by rw [IntWalk.i64_in _ (by omega)]; omega
                have hRs := HRs.out
                by_cases h5 : SZ < 512
                · have hkR1 : k + 1 = R := by
                    rcases hfull with h' | h'
                    · omega
                    · rw [← HR.out] at h'; exact h'
                  have d1 : decide ((SZ : Int) < 512) = true := by simp; omega
                  have d2 : decide ((k : Int) < (R1 : Int)) = false := by simp; omega
                  go_wp2_with fail
                  exact ⟨⟨k + 1, by omega, congrArg (Value.int .i64) (by rw [hnx]; omega), congrArg (Value.int .i64) (by rw [hnn]), by go_num, HBz.out⟩, by simp [intOf]; omega⟩
                · have d1 : decide ((SZ : Int) < 512) = false := by simp; omega
                  go_wp2_with fail
                  exact ⟨⟨k + 1, by omega, congrArg (Value.int .i64) (by rw [hnx]; omega), congrArg (Value.int .i64) (by rw [hnn]), by go_num, HBz.out⟩, by simp [intOf]; omega⟩
          · as_aux_lemma =>
            obtain rfl : k = R := by omega
            have e1 : atF l k = OL := by rw [HR.out, HOL.out]; exact atF_end l
            have e2 : fromF l k = n := by rw [HR.out, fromF_end]; exact Hn.out
            rw [e1, e2]
            have hsm := HT.out
            have hsm2 := HTe.out
            obtain ⟨X1, hX1⟩ : ∃ x, x = OL + IL := ⟨_, rfl⟩
            obtain ⟨X2, hX2⟩ : ∃ x, x = X1 + FL := ⟨_, rfl⟩
            obtain ⟨X3, hX3⟩ : ∃ x, x = X2 + TL := ⟨_, rfl⟩
            have i4 : IntKind.i64.wrap ((OL : Int) + (IL : Int)) = (X1 : Int) := by rw [IntWalk.i64_in _ (by omega)]; omega
            have i5 : IntKind.i64.wrap ((X1 : Int) + (FL : Int)) = (X2 : Int) := by rw [IntWalk.i64_in _ (by omega)]; omega
            have i6 : IntKind.i64.wrap ((X2 : Int) + (TL : Int)) = (X3 : Int) := by rw [IntWalk.i64_in _ (by omega)]; omega
            have i7 : IntKind.i64.wrap ((X3 : Int) + 40) = (T : Int) := by rw [IntWalk.i64_in _ (by omega)]; omega
            clear hsm hsm2 hX1 hX2 hX3
            go_wp2_with fail
            refine (lives_any wr).mono ?_
            rintro e w7 ⟨rfl, hb7⟩
            have HBq := hid (HW9.out.trans ((HBr.out.trans (hb7.mono hsr)).mono HW9.out.size))
            clear hb7
            go_wp2
            go_ret
            exact ⟨rfl, HBq.out⟩
      · go_wp2_with fail
        refine (build_big line q n c l w1 Hn.out hk1 (Hr.out.below HB1.out) Ho.out h (by omega)).mono ?_
        as_aux_lemma =>
        rintro e w3 ⟨rfl, hb3⟩
        have hs3 := hb3.size
        have HB3 := hid (HB1.out.trans (hb3.mono hs1))
        have hn3 := heap_alloc_new w3 (.cells zProps 29)
        obtain ⟨P, hP⟩ : ∃ x, x = w3.heap.size := ⟨_, rfl⟩
        obtain ⟨w4, hw4⟩ : ∃ x, x = (w3.alloc (.cells zProps 29)).setRow w3.heap.size zProps := ⟨_, rfl⟩
        have hb4 : Below w3.heap.size w3 w4 := by rw [hw4]; exact below_setRow ((Below.refl _ _).alloc (Nat.le_refl _) _) (Nat.le_refl _) _
        have hs4 := hb4.size
        have hr4 : w4.heap[P]? = some (.cells zProps 29 (0, 0)) := by rw [hw4, hP]; exact setRow_heap _ _ _ zProps _ _ hn3
        have HB4 := hid (HB3.out.trans (hb4.mono (by omega)))
        have hz1 := zProps1
        unfold zProps at hn3 hw4 hr4 hz1 ⊢
        have HN3 := hid hn3
        have HW4 := hid hw4
        have HP := hid hP
        clear hb3 hb4 hn3 hw4 hP
        go_upto_region 5 with (refine wpList_store_block rfl 29 _ _ rfl _ _ _ _ rfl rfl HN3.out rfl infoProps hz1 ?_)
        rw [← HW4.out, ← HP.out]
        clear HW4 HP
        have y0 : w4.cell? ⟨P, 0, none⟩ = some (.int .u64 0) := (cell_of_row _ P 0 _ _ _ hr4).trans rfl
        have y1 : w4.cell? ⟨P, 1, none⟩ = some (.int .u64 0) := (cell_of_row _ P 1 _ _ _ hr4).trans rfl
        have y2 : w4.cell? ⟨P, 2, none⟩ = some (.string ⟨#[]⟩) := (cell_of_row _ P 2 _ _ _ hr4).trans rfl
        have y3 : w4.cell? ⟨P, 3, none⟩ = some (.string ⟨#[]⟩) := (cell_of_row _ P 3 _ _ _ hr4).trans rfl
        have y4 : w4.cell? ⟨P, 4, none⟩ = some (.int .u64 0) := (cell_of_row _ P 4 _ _ _ hr4).trans rfl
        have y5 : w4.cell? ⟨P, 5, none⟩ = some (.int .u64 0) := (cell_of_row _ P 5 _ _ _ hr4).trans rfl
        have y6 : w4.cell? ⟨P, 6, none⟩ = some (.int .u32 0) := (cell_of_row _ P 6 _ _ _ hr4).trans rfl
        have y7 : w4.cell? ⟨P, 7, none⟩ = some (.int .u32 0) := (cell_of_row _ P 7 _ _ _ hr4).trans rfl
        have heq := eqlZero w4
        clear hr4
        go_wp2_with fail
        refine (lives_any w4).mono ?_
        rintro e w7 ⟨rfl, hb7⟩
        have HB7 := hid (HB4.out.trans (hb7.mono (by omega)))
        clear hb7
        go_wp2
        go_ret
        exact ⟨rfl, HB7.out⟩
    · go_wp2_with fail
      refine (build_no line q n c l w1 Hn.out hk1 (Hr.out.below HB1.out) Ho.out h).mono ?_
      as_aux_lemma =>
      rintro e w3 ⟨rfl, hb3⟩
      have hs3 := hb3.size
      have HB3 := hid (HB1.out.trans (hb3.mono hs1))
      have hn3 := heap_alloc_new w3 (.cells zProps 29)
      obtain ⟨P, hP⟩ : ∃ x, x = w3.heap.size := ⟨_, rfl⟩
      obtain ⟨w4, hw4⟩ : ∃ x, x = (w3.alloc (.cells zProps 29)).setRow w3.heap.size zProps := ⟨_, rfl⟩
      have hb4 : Below w3.heap.size w3 w4 := by rw [hw4]; exact below_setRow ((Below.refl _ _).alloc (Nat.le_refl _) _) (Nat.le_refl _) _
      have hs4 := hb4.size
      have hr4 : w4.heap[P]? = some (.cells zProps 29 (0, 0)) := by rw [hw4, hP]; exact setRow_heap _ _ _ zProps _ _ hn3
      have HB4 := hid (HB3.out.trans (hb4.mono (by omega)))
      have hz1 := zProps1
      unfold zProps at hn3 hw4 hr4 hz1 ⊢
      have HN3 := hid hn3
      have HW4 := hid hw4
      have HP := hid hP
      clear hb3 hb4 hn3 hw4 hP
      go_upto_region 5 with (refine wpList_store_block rfl 29 _ _ rfl _ _ _ _ rfl rfl HN3.out rfl infoProps hz1 ?_)
      rw [← HW4.out, ← HP.out]
      clear HW4 HP
      have y0 : w4.cell? ⟨P, 0, none⟩ = some (.int .u64 0) := (cell_of_row _ P 0 _ _ _ hr4).trans rfl
      have y1 : w4.cell? ⟨P, 1, none⟩ = some (.int .u64 0) := (cell_of_row _ P 1 _ _ _ hr4).trans rfl
      have y2 : w4.cell? ⟨P, 2, none⟩ = some (.string ⟨#[]⟩) := (cell_of_row _ P 2 _ _ _ hr4).trans rfl
      have y3 : w4.cell? ⟨P, 3, none⟩ = some (.string ⟨#[]⟩) := (cell_of_row _ P 3 _ _ _ hr4).trans rfl
      have y4 : w4.cell? ⟨P, 4, none⟩ = some (.int .u64 0) := (cell_of_row _ P 4 _ _ _ hr4).trans rfl
      have y5 : w4.cell? ⟨P, 5, none⟩ = some (.int .u64 0) := (cell_of_row _ P 5 _ _ _ hr4).trans rfl
      have y6 : w4.cell? ⟨P, 6, none⟩ = some (.int .u32 0) := (cell_of_row _ P 6 _ _ _ hr4).trans rfl
      have y7 : w4.cell? ⟨P, 7, none⟩ = some (.int .u32 0) := (cell_of_row _ P 7 _ _ _ hr4).trans rfl
      have heq := eqlZero w4
      clear hr4
      go_wp2_with fail
      refine (lives_any w4).mono ?_
      rintro e w7 ⟨rfl, hb7⟩
      have HB7 := hid (HB4.out.trans (hb7.mono (by omega)))
      clear hb7
      go_wp2
      go_ret
      exact ⟨rfl, HB7.out⟩
end Go.Proofs.Herb
