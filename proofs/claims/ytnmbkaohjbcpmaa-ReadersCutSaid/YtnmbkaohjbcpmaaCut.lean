/- ReadersCut's walk. -/
import Derived.Test.YtnmbkaohjbcpmaaLwv
namespace Go.Proofs.Herb
open Go.RowKit
theorem great_few {fs : List Fact} (h : ¬ 120000 < greatF fs) : fs.length ≤ 6000 := by
  have h2 := (great_len fs 0 (by unfold greatF at h; omega)).1
  omega
/-- bytes ahead of a table: none -/
theorem ahead_none {b more : List UInt8} {r : Rdr} (h : Opens b r) (hm : 0 < more.length) : ¬ ∃ r', Opens (more ++ b) r' := fun ⟨r', k⟩ => by
  have hl := h.len
  have hf : ∀ j, ftN (more ++ b) j = ftN b j := fun j => by
    unfold ftN
    rw [List.length_append, show more.length + b.length - 40 = more.length + (b.length - 40) by omega, List.drop_append, List.drop_of_length_le (by omega), List.nil_append, show more.length + (b.length - 40) - more.length = b.length - 40 by omega]
  have h2 := h.c2
  have k2 := k.c2
  rw [hf, hf, List.length_append] at k2
  omega
/-- a table without its first bytes: none -/
theorem cutb_none {b : List UInt8} {r : Rdr} {n : Nat} (h : Opens b r) (hn : 0 < n) : ¬ ∃ r', Opens (b.drop n) r' := fun ⟨r', k⟩ => by
  have hl := h.len
  have kl := k.len
  rw [List.length_drop] at kl
  have hf : ∀ j, ftN (b.drop n) j = ftN b j := fun j => by
    unfold ftN
    rw [List.length_drop, List.drop_drop, show n + (b.length - n - 40) = b.length - 40 by omega]
  have h2 := h.c2
  have k2 := k.c2
  rw [hf, hf, List.length_drop] at k2
  omega
theorem slice_bytes (b o m c T : Nat) (w : World) (hT : T ≤ m) (hc : m ≤ c) :
    (Instr.slice 24 (.slice (some ⟨b, o, none⟩) m c) (some (.int .i64 (T : Int))) none none).run Try.prog w = .ok (.slice (some ⟨b, if c = T then o else o + T, none⟩) (m - T) (c - T)) w := by
  have i0 : (0 : Int) ≤ (T : Int) := by omega
  have i1 : (T : Int) ≤ (m : Int) := by omega
  by_cases h : c = T
  · rw [if_pos h]
    subst h
    have : m = c := by omega
    subst this
    go_simp
  · rw [if_neg h]
    go_simp
set_option maxRecDepth 100000 in
set_option maxHeartbeats 4000000 in
theorem cut_any (line : Nat) (q : Option Addr) (n c : Nat) (l : List Fact) (mq : Option Addr) (m mc : Nat) (M : List UInt8) (w : World) (hn : l.length = n) (hnc : n ≤ c) (hm : c ≤ 9223372036854775807) (hr : Rd w q (fCells l)) (ho : ∀ f ∈ l, f.Ok) (hs : ∀ f ∈ l, f.key.size ≤ 140737488355328 ∧ f.val.size ≤ 140737488355328) (hM : M.length = m) (hrm : Rd w mq (M.map bv)) (hqm : mq = none → mc = 0) (hmc : m ≤ mc) (hmm : mc ≤ maxLen) :
    Calls Try.prog 6 #[.int .u64 (line : Int), .slice q n c, .slice mq m mc] w fun e w' => e = .returned (.bool true) ∧ Below w.heap.size w w' := by
  have HR := hid hr
  have Hn := hid hn
  have Ho := hid ho
  have Hs := hid hs
  have HM := hid hM
  have HRm := hid hrm
  have HQm := hid hqm
  have hmc2 : (m : Int) ≤ 9223372036854775807 := by unfold maxLen at hmm; omega
  clear hr hn ho hs hM hrm hqm
  go_enter Try.func6, Try.ntmps6
  go_wp2_with fail
  refine (great_any q n c l w Hn.out (by omega) HR.out Hs.out).mono ?_
  rintro e w2 ⟨g, rfl, hgr, hb2⟩
  have HB2 := hid hb2
  have HR2 := hid (HR.out.below hb2)
  have HRm2 := hid (HRm.out.below hb2)
  clear hb2
  cases g with
  | true =>
    clear hgr
    go_wp2_with (go_at_call 7; refine (lives_any _).mono ?_; rintro e w3 ⟨rfl, hb3⟩)
    go_ret
    exact ⟨rfl, HB2.out.trans (hb3.mono HB2.out.size)⟩
  | false =>
    have hfew := great_few (fs := l) (fun h => by have := hgr.2 h; cases this)
    rw [Hn.out] at hfew
    have HGr := hid hgr
    clear hgr
    by_cases hk : m ≤ 1000
    · have hkb : decide ((1000 : Int) < (m : Int)) = false := by simp; omega
      go_upto_region 3 with (fail)
      by_cases hgd : (GoodF line l ∧ 0 < l.length) ∧ (tabB line l).length ≤ 65536
      · have HGd := hid hgd
        have HBd := hid (build_ok line q n c l w2 Hn.out hfew HR2.out Ho.out hgd.1 hgd.2)
        have hOp := opens_tab hgd.1 Ho.out (by rw [Hn.out]; exact hfew) hgd.2
        have HOp := hid hOp
        obtain ⟨C, hC⟩ : ∃ C, Hid (C = (propsF line l).cells.toArray) := ⟨_, hid rfl⟩
        rw [← hC.out] at HBd
        have hst : ∀ W : World, (storeCells ⟨W.heap.size, 0, none⟩ C.toList).run Try.prog (W.alloc (.cells #[Value.int IntKind.u64 0, Value.int IntKind.u64 0, Value.string { data := #[] }, Value.string { data := #[] }, Value.int IntKind.u64 0, Value.int IntKind.u64 0, Value.int IntKind.u32 0, Value.int IntKind.u32 0] 27)) = .ok () (W.alloc (.cells C 27)) := fun W =>
          run_storeCells_new (P := Try.prog) W 27 _ C (by rw [hC.out]; exact infoProps8) (by rw [hC.out]; rfl) (by rw [hC.out]; simp [Props.cells, Value.oneCell'])
        have hCs : C.size = 8 := by rw [hC.out]; rfl
        have hTLl := hOp.len
        clear hgd hOp
        go_wp2_with fail
        refine HBd.out.mono ?_
        rintro e w3 ⟨p, rfl, hf3, hb3⟩
        obtain ⟨TL, hTL⟩ : ∃ n, Hid (n = (tabB line l).length) := ⟨_, hid rfl⟩
        rw [← hTL.out] at hf3 hTLl ⊢
        have HF3 := hid hf3
        have HB3 := hid (HB2.out.trans (hb3.mono HB2.out.size))
        have HRm3 := hid (HRm2.out.below hb3)
        clear hf3 hb3 HBd
        have hTLb : TL ≤ 65536 := by rw [hTL.out]; exact HGd.out.2
        go_upto_region 4 with (fail)
        obtain ⟨w4, hw4⟩ : ∃ x, x = w3.alloc (.cells C 27) := ⟨_, rfl⟩
        have hb4 : Below w3.heap.size w3 w4 := by rw [hw4]; exact (Below.refl _ _).alloc (Nat.le_refl _) _
        rw [← hw4]
        have HF4 := hid (HF3.out.below hb4)
        have HB4 := hid (HB3.out.trans (hb4.mono HB3.out.size))
        have HRm4 := hid (HRm3.out.below hb4)
        clear hw4 hb4 hst hCs
        obtain ⟨bp, op, rfl⟩ : ∃ bp op, p = some ⟨bp, op, none⟩ := by
          rcases HF4.out.rd with h | ⟨bp, op, h, -⟩
          · have h2 := congrArg List.length h
            rw [List.length_map, ← hTL.out] at h2
            simp at h2
            omega
          · exact ⟨bp, op, h⟩
        by_cases hm0 : m = 0
        · subst hm0
          go_wp2_with (go_at_call 7; refine (lives_any _).mono ?_; rintro e w5 ⟨rfl, hb5⟩)
          go_ret
          exact ⟨rfl, HB4.out.trans (hb5.mono HB4.out.size)⟩
        · have hm0' : ((m : Int) == 0) = false := by rw [beq_eq_false_iff_ne]; omega
          go_upto_region 6 with (fail)
          go_wp2_with (first
            | (refine app22 rfl (.const (.slice none 0 0)) (.tmp 39) rfl w4.heap.size none 0 0 [] rfl (own_nil22 _ _) mq m mc M rfl HQm.out HM.out HRm4.out (by omega) (Nat.le_refl _) ?_; intro q5 c5 w5 g5; rw [Nat.zero_add, List.nil_append] at g5; rw [Nat.zero_add]; have hs5 := g5.below.size; have G5 := hid g5; clear g5)
            | (refine app22 rfl (.tmp 40) (.tmp 41) rfl w4.heap.size q5 m c5 M rfl G5.out.own (some ⟨bp, op, none⟩) TL TL (tabB line l) rfl (fun h => by cases h) hTL.out.symm (HF4.out.below G5.out.below).rd (by omega) hs5 ?_; intro q6 c6 w6 g6; have G6 := hid g6; clear g6))
          refine (opn_any q6 (m + TL) c6 (M ++ tabB line l) w6 (by rw [List.length_append, HM.out, ← hTL.out]) G6.out.len (by omega) G6.out.nil G6.out.fr.rd).mono ?_
          rintro e w7 ⟨hb7, hcase⟩
          rcases hcase with ⟨-, rfl⟩ | ⟨r, R2, hr, -, -⟩
          rotate_left
          · exact absurd ⟨_, hr⟩ (ahead_none HOp.out (by rw [HM.out]; omega))
          have h47 := G5.out.below.trans (G6.out.below.trans (hb7.mono (Nat.le_trans hs5 G6.out.below.size)))
          have HB7 := hid (HB4.out.trans (h47.mono HB4.out.size))
          have HF7 := hid (HF4.out.rd.below h47)
          clear hb7 h47
          go_upto_region 10 with (fail)
          go_cut [13] (fun v13 wc => v13 = .int .i64 ((min m TL : Nat) : Int) ∧ wc = w7)
          case first =>
            by_cases hmt : m ≤ TL
            · have hmin : min m TL = m := Nat.min_eq_left hmt
              go_wp2
              go_meet
              case rel => exact ⟨by rw [hmin, Int.min_eq_left (by omega)], rfl⟩
            · have hmin : min m TL = TL := Nat.min_eq_right (by omega)
              go_wp2
              go_meet
              case rel => exact ⟨by rw [hmin, Int.min_eq_right (by omega)], rfl⟩
          case rest =>
            obtain ⟨rfl, rfl⟩ := hcut
            obtain ⟨T, hT⟩ : ∃ T, T = min m TL := ⟨_, rfl⟩
            rw [← hT]
            have hT0 : 0 < T := by rw [hT, Nat.lt_min]; omega
            have hT1 : T ≤ TL := by rw [hT]; exact Nat.min_le_right _ _
            have hsl := fun W => slice_bytes bp op TL TL T W hT1 (Nat.le_refl _)
            obtain ⟨qs, hqs⟩ : ∃ x : Addr, x = ⟨bp, if TL = T then op else op + T, none⟩ := ⟨_, rfl⟩
            rw [← hqs] at hsl
            have hrs : Rd wc (some qs) (((tabB line l).drop T).map bv) := by
              by_cases hck : TL = T
              · refine .inl ?_
                rw [List.drop_of_length_le (by rw [← hTL.out]; omega)]
                rfl
              · rw [hqs, if_neg hck, List.map_drop]
                exact HF7.out.drop _
            have HRs := hid hrs
            clear hqs hrs hT
            go_wp2_with fail
            refine (opn_any (some qs) (TL - T) (TL - T) ((tabB line l).drop T) wc (by rw [List.length_drop, ← hTL.out]) (Nat.le_refl _) (by omega) (fun h => by cases h) HRs.out).mono ?_
            rintro e w8 ⟨hb8, hcase⟩
            rcases hcase with ⟨-, rfl⟩ | ⟨r, R2, hr, -, -⟩
            rotate_left
            · exact absurd ⟨_, hr⟩ (cutb_none HOp.out hT0)
            have HB8 := hid (HB7.out.trans (hb8.mono HB7.out.size))
            clear hb8 hsl
            go_wp2_with (go_at_call 7; refine (lives_any _).mono ?_; rintro e w9 ⟨rfl, hb9⟩)
            go_ret
            exact ⟨rfl, HB8.out.trans (hb9.mono HB8.out.size)⟩
      · have HBd := hid (build_e line q n c l w2 Hn.out hfew HR2.out Ho.out)
        have hE : buildE line l ≠ 0 := fun h => hgd (buildE_zero.1 h)
        obtain ⟨E, hEe⟩ : ∃ e, e = buildE line l := ⟨_, rfl⟩
        rw [← hEe] at hE HBd
        have he : (E != 0) = true := by rw [bne_iff_ne]; exact hE
        clear hgd hE hEe
        go_wp2_with fail
        refine HBd.out.mono ?_
        rintro e w4 ⟨p, mm, dd, C, rfl, hCs, hC1, hb4⟩
        have HB4 := hid (HB2.out.trans (hb4.mono HB2.out.size))
        have hst : ∀ W : World, (storeCells ⟨W.heap.size, 0, none⟩ C.toList).run Try.prog (W.alloc (.cells #[Value.int IntKind.u64 0, Value.int IntKind.u64 0, Value.string { data := #[] }, Value.string { data := #[] }, Value.int IntKind.u64 0, Value.int IntKind.u64 0, Value.int IntKind.u32 0, Value.int IntKind.u32 0] 27)) = .ok () (W.alloc (.cells C 27)) := fun W =>
          run_storeCells_new (P := Try.prog) W 27 _ C (by rw [hCs]; exact infoProps8) (by rw [hCs]; rfl) (by rw [Array.all_eq_true_iff_forall_mem]; intro v hv; exact hC1 v (by simpa using hv))
        clear hb4 HBd hC1
        go_wp2_with (go_at_call 7; refine (lives_any _).mono ?_; rintro e w5 ⟨rfl, hb5⟩)
        go_ret
        exact ⟨rfl, HB4.out.trans ((((Below.refl w4.heap.size w4).alloc (Nat.le_refl _) _).trans (hb5.mono (by rw [World.size_alloc]; omega))).mono HB4.out.size)⟩
    · have hkb : decide ((1000 : Int) < (m : Int)) = true := by simp; omega
      go_wp2_with (go_at_call 7; refine (lives_any _).mono ?_; rintro e w3 ⟨rfl, hb3⟩)
      go_ret
      exact ⟨rfl, HB2.out.trans (hb3.mono HB2.out.size)⟩
end Go.Proofs.Herb
