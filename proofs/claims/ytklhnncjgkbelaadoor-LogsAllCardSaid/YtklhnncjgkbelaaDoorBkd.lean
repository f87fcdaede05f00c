/- The Book's Apart: the contract: sheets that share no row: it answers true. For a Book of the call's own that lies in memory as BookAt says. -/
import Derived.Test.YtklhnncjgkbelaaDoorBkc
namespace Go.Proofs.Herb
open Go.RowKit
attribute [local go_sem] Oper.semAt_some
theorem sh_cases {w : World} {s : Sh} {k : Nat} (h : ShRow w s k) : (s = ⟨none, 0, 0, s.m⟩ ∧ s.m < 256) ∨ ∃ g cur, s = ⟨some ⟨g, 0, none⟩, s.n, s.c, s.m⟩ ∧ s.n ≤ s.c ∧ s.c ≤ maxLen ∧ s.m < 256 ∧ w.heap[g]? = some (.cells cur 5 (0, 0)) ∧ s.c ≤ cur.size ∧ ∀ i, i < k → cur[i]? = some (.int .u8 (s.m : Int)) := by
  obtain ⟨q, n, c, m⟩ := s
  obtain ⟨h1, h2, h3, h4⟩ := h
  rcases h4 with ⟨e1, e2⟩ | ⟨g, cur, e1, e2, e3, e4⟩
  · dsimp only at e1 e2 h1
    subst e1; subst e2
    exact .inl ⟨by rw [Nat.le_zero.1 h1], h3⟩
  · dsimp only at e1
    subst e1
    exact .inr ⟨g, cur, rfl, h1, h2, h3, e2, e3, e4⟩
theorem sh_none (w : World) (m k : Nat) (hm : m < 256) : ShRow w ⟨none, 0, 0, m⟩ k := ⟨Nat.le_refl _, Nat.zero_le _, hm, .inl ⟨rfl, rfl⟩⟩
theorem paint_any (s : Sh) (w : World) (h : ShRow w s 0) :
    Calls Tryd.prog 88 #[s.agg] w fun e w' => e = .returned (.tuple #[]) ∧ ShRow w' s s.n ∧ w.grownBy w' s.blk := by
  rcases sh_cases h with ⟨e, hm⟩ | ⟨g, cur, e, h1, h2, h3, h4, h5, h6⟩
  · rw [e]
    exact (paint_none s.m w).mono fun _ _ ⟨a, b⟩ => ⟨a, sh_none _ _ _ hm, b⟩
  · rw [e]
    exact (paint_row g s.n s.c s.m cur w h4 h5 h1 h2).mono fun _ _ ⟨a, ⟨cur', b1, b2, b3⟩, c⟩ => ⟨a, ⟨h1, h2, h3, .inr ⟨g, cur', rfl, b1, b2, b3⟩⟩, c⟩
theorem spill_any (s : Sh) (w : World) (h : ShRow w s s.n) :
    Calls Tryd.prog 89 #[s.agg] w fun e w' => e = .returned (.tuple #[]) ∧ ShRow w' s s.c ∧ w.grownBy w' s.blk := by
  rcases sh_cases h with ⟨e, hm⟩ | ⟨g, cur, e, h1, h2, h3, h4, h5, h6⟩
  · rw [e]
    exact (spill_none s.m w).mono fun _ _ ⟨a, b⟩ => ⟨a, sh_none _ _ _ hm, b⟩
  · rw [e]
    exact (spill_row g s.n s.c s.m cur w h4 h5 h1 h2 h6).mono fun _ _ ⟨a, ⟨cur', b1, b2, b3⟩, c⟩ => ⟨a, ⟨h1, h2, h3, .inr ⟨g, cur', rfl, b1, b2, b3⟩⟩, c⟩
theorem clean_any (s : Sh) (w : World) (h : ShRow w s s.c) :
    Calls Tryd.prog 87 #[s.agg] w fun e w' => e = .returned (.bool true) ∧ w.grownBy w' none := by
  rcases sh_cases h with ⟨e, hm⟩ | ⟨g, cur, e, h1, h2, h3, h4, h5, h6⟩
  · rw [e]
    exact clean_none s.m w
  · rw [e]
    exact clean_row g s.n s.c s.m cur w h4 h5 h1 h2 h6
/-- where the three loops stand: so many cells of each sheet's row bear its mark, and the Book lies where it lay -/
structure BookI (W : World) (K R base : Nat) (ss : List Sh) (f : Nat → Sh → Nat) (w : World) : Prop where
  book : w.heap[K]? = W.heap[K]?
  row : w.heap[R]? = W.heap[R]?
  sh : ∀ (j : Nat) (h : j < ss.length), ShRow w ss[j] (f j ss[j])
  below : Below base W w
theorem BookI.step {W w w' : World} {K R base k : Nat} {ss : List Sh} {f f' : Nat → Sh → Nat} (h : BookI W K R base ss f w) (hk : k < ss.length) (hr : ShRow w' ss[k] (f' k ss[k])) (hg : w.grownBy w' ss[k].blk)
    (hf : ∀ j s, j ≠ k → f' j s = f j s) (hap : ss.Pairwise AheadS) (hlo : ∀ s ∈ ss, ∀ g, s.blk = some g → base ≤ g) (hbs : base ≤ W.heap.size) (hKl : K < W.heap.size) (hRl : R < W.heap.size) (hK : ss[k].blk ≠ some K) (hR : ss[k].blk ≠ some R) : BookI W K R base ss f' w' := by
  have hs := h.below.size
  refine ⟨(hg.block K (by omega) (fun e => hK e.symm)).trans h.book, (hg.block R (by omega) (fun e => hR e.symm)).trans h.row, fun j hj => ?_, h.below.grown hg (by omega) (fun g e => hlo _ (List.getElem_mem hk) g e)⟩
  by_cases e : j = k
  · subst e; exact hr
  · rw [hf j _ e]
    refine (h.sh j hj).kept hg (fun g hg' e' => ?_)
    rcases Nat.lt_or_ge j k with q | q
    · have := List.pairwise_iff_getElem.1 hap j k hj hk q g g hg' e'; omega
    · have := List.pairwise_iff_getElem.1 hap k j hk hj (by omega) g g e' hg'; omega
theorem m_paint (k : Nat) (q : Option Addr) (n c : Nat) (x : Int) (w : World) : (method (k + 1) 81 (.agg #[.slice q n c, .int .u8 x]) "herbarium/herbariumlaw01.paint").run Tryd.prog w = .ok (88, .agg #[.slice q n c, .int .u8 x]) w := by kernel_rfl
theorem m_spill (k : Nat) (q : Option Addr) (n c : Nat) (x : Int) (w : World) : (method (k + 1) 81 (.agg #[.slice q n c, .int .u8 x]) "herbarium/herbariumlaw01.spill").run Tryd.prog w = .ok (89, .agg #[.slice q n c, .int .u8 x]) w := by kernel_rfl
theorem m_clean (k : Nat) (q : Option Addr) (n c : Nat) (x : Int) (w : World) : (method (k + 1) 81 (.agg #[.slice q n c, .int .u8 x]) "herbarium/herbariumlaw01.clean").run Tryd.prog w = .ok (87, .agg #[.slice q n c, .int .u8 x]) w := by kernel_rfl
theorem sh_tag {w : World} {s : Sh} {k g : Nat} (h : ShRow w s k) (hg : s.blk = some g) : ∃ cur, w.heap[g]? = some (.cells cur 5 (0, 0)) := by
  rcases h.2.2.2 with ⟨e, _⟩ | ⟨g', cur, e1, e2, _⟩
  · unfold Sh.blk at hg; rw [e] at hg; cases hg
  · unfold Sh.blk at hg; rw [e1] at hg; cases hg; exact ⟨cur, e2⟩
theorem BookI.cells {W w : World} {K R base N c : Nat} {ss : List Sh} {f : Nat → Sh → Nat} {q : Option Addr} (h : BookI W K R base ss f w) (h1 : W.heap[K]? = some (.cells #[.slice q N c] 34 (0, 0))) (h2 : ∀ (k : Nat) (hk : k < ss.length), q = some ⟨R, 0, none⟩ ∧ W.cell? ⟨R, k, none⟩ = some ss[k].v) :
    w.cell? ⟨K, 0, none⟩ = some (.slice q N c) ∧ ∀ (k : Nat) (hk : k < ss.length), w.cell? ⟨R, k, none⟩ = some ss[k].v :=
  ⟨(cell_of_row _ _ 0 _ _ _ (h.book.trans h1)).trans rfl, fun k hk => (World.cell?_of_block (w := W) (a := ⟨R, k, none⟩) h.row).trans (h2 k hk).2⟩
set_option maxRecDepth 100000 in
set_option maxHeartbeats 2000000 in
theorem apart_any (K base : Nat) (ss : List Sh) (lo hi : Nat) (w : World) (h : BookAt w K base ss) (hs : ShsOk w lo hi ss) (hlo : base ≤ lo) (hbs : base ≤ w.heap.size) (hl : ss.length ≤ 1000000) :
    Calls Tryd.prog 12 #[.pointer (some ⟨K, 0, none⟩)] w fun e w' => e = .returned (.bool true) ∧ Below base w w' := by
  obtain ⟨q, c, h1, h2⟩ := h.row
  obtain ⟨N, hN⟩ : ∃ N, N = ss.length := ⟨_, rfl⟩
  rw [← hN] at h1 h2 hl
  have k0 : w.cell? ⟨K, 0, none⟩ = some (.slice q N c) := (cell_of_row _ _ 0 _ _ _ h1).trans rfl
  by_cases hbig : 250 < N
  · have d1 : decide ((250 : Int) < (N : Int)) = true := by simp; omega
    clear h h1 h2 hs hN
    go_enter Tryd.func12, Tryd.ntmps12
    go_wp2_with fail
    go_ret
    exact ⟨rfl, Below.refl _ _⟩
  · have d1 : decide ((250 : Int) < (N : Int)) = false := by simp; omega
    have hKl := (Array.getElem?_eq_some_iff.1 h1).1
    obtain ⟨R, hRl, hRt, hrow⟩ : ∃ R, R < w.heap.size ∧ (∀ s ∈ ss, s.blk ≠ some R) ∧ ∀ (k : Nat) (hk : k < ss.length), q = some ⟨R, 0, none⟩ ∧ w.cell? ⟨R, k, none⟩ = some ss[k].v := by
      rcases h2.2 with ⟨e, hn⟩ | ⟨g, cap, cur, e, hb, hh, -⟩
      · exact ⟨K, hKl, fun s hs' e' => (by obtain ⟨cur, hc⟩ := sh_tag (hs.row s hs') e'; rw [h1] at hc; cases hc), fun k hk => by omega⟩
      · have hgl := (Array.getElem?_eq_some_iff.1 hh).1
        cases e
        refine ⟨g, hgl, fun s hs' e' => (by obtain ⟨cur, hc⟩ := sh_tag (hs.row s hs') e'; rw [hh] at hc; cases hc), fun k hk => ⟨rfl, ?_⟩⟩
        obtain ⟨b, o, e3, hc⟩ := (Fr.of_own h2).rd.cell (k := k) (by rw [List.length_map]; exact hk)
        cases e3
        rw [Nat.zero_add] at hc
        rw [hc, List.getElem_map]
    have hKt : ∀ s ∈ ss, s.blk ≠ some K := fun s hs' e' => by obtain ⟨cur, hc⟩ := sh_tag (hs.row s hs') e'; rw [h1] at hc; cases hc
    have HStart := hid (show BookI w K R base ss (fun j s => if j < 0 then s.n else 0) w from ⟨rfl, rfl, fun j hj => by rw [if_neg (Nat.not_lt_zero _)]; exact hs.row _ (List.getElem_mem hj), Below.refl _ _⟩)
    have HLo := hid (show ∀ s ∈ ss, ∀ g, s.blk = some g → base ≤ g from fun s hs' g hg => Nat.le_trans hlo (hs.lo s hs' g hg))
    have HAp := hid hs.ap
    have HN := hid hN
    have H1 := hid h1
    have HRow := hid hrow
    have HKt := hid hKt
    have HRt := hid hRt
    clear h h1 h2 hs hN hrow hKt hRt
    go_enter Tryd.func12, Tryd.ntmps12
    have hm1 := m_paint
    have hm2 := m_spill
    have hm3 := m_clean
    go_wp2_with fail
    clear k0
    go_loopw [3] (fun i wr => ∃ k : Nat, k ≤ N ∧ i = .int .i64 (k : Int) ∧ BookI w K R base ss (fun j s => if j < k then s.n else 0) wr) (fun i _ => N - (intOf i).toNat)
    case atStart => exact ⟨0, Nat.zero_le _, rfl, HStart.out⟩
    case round =>
      obtain ⟨k, hk, rfl, hI⟩ := hrel
      have HI := hid hI
      obtain ⟨k0, kr⟩ := hI.cells H1.out HRow.out
      clear hI
      by_cases hlt : k < N
      · have hks : k < ss.length := by rw [← HN.out]; exact hlt
        have kk := kr k hks
        obtain ⟨s, hs⟩ : ∃ s, s = ss[k] := ⟨_, rfl⟩
        rw [← hs] at kk
        have hq := (HRow.out k hks).1
        subst hq
        have HSe := hid hs
        have HMem := hid (show s ∈ ss by rw [hs]; exact List.getElem_mem hks)
        clear hs kr
        have HP := hid (paint_any s wr (by have := HI.out.sh k hks; rw [if_neg (Nat.lt_irrefl _), ← HSe.out] at this; exact this))
        unfold Sh.v Sh.agg at kk
        unfold Sh.agg at HP
        have i0 : (0 : Int) ≤ (k : Int) := by omega
        have i1 : (k : Int) < (N : Int) := by omega
        go_wp2_with fail
        refine HP.out.mono ?_
        rintro e w2 ⟨rfl, hr2, hg2⟩
        have hI2 : BookI w K R base ss (fun j s => if j < k + 1 then s.n else 0) w2 := by
          have hb := HSe.out
          refine BookI.step HI.out hks (by rw [← hb, if_pos (Nat.lt_succ_self _)]; exact hr2) (by rw [← hb]; exact hg2) (fun j s hj => ?_) HAp.out HLo.out hbs hKl hRl (by rw [← hb]; exact HKt.out s HMem.out) (by rw [← hb]; exact HRt.out s HMem.out)
          by_cases q : j < k
          · rw [if_pos q, if_pos (by omega)]
          · rw [if_neg q, if_neg (by omega)]
        have HI2 := hid hI2
        clear hr2 hg2 hI2
        go_wp2
        go_roundw
        case rel => exact ⟨k + 1, by omega, by go_num, HI2.out⟩
        case measure => simp [intOf]; omega
      · obtain rfl : N = k := by omega
        clear kr
        have HI1 := hid (show BookI w K R base ss (fun j s => if j < 0 then s.c else s.n) wr from ⟨HI.out.book, HI.out.row, fun j hj => by rw [if_neg (Nat.not_lt_zero _)]; have := HI.out.sh j hj; rw [if_pos (by rw [HN.out]; exact hj)] at this; exact this, HI.out.below⟩)
        clear HI HStart
        go_wp2_with fail
        clear k0
        go_loopw [4] (fun i wr => ∃ k : Nat, k ≤ N ∧ i = .int .i64 (k : Int) ∧ BookI w K R base ss (fun j s => if j < k then s.c else s.n) wr) (fun i _ => N - (intOf i).toNat)
        case atStart => exact ⟨0, Nat.zero_le _, rfl, HI1.out⟩
        case round =>
          obtain ⟨k, hk, rfl, hI⟩ := hrel
          have HI := hid hI
          obtain ⟨k0, kr⟩ := hI.cells H1.out HRow.out
          clear hI
          by_cases hlt : k < N
          · have hks : k < ss.length := by rw [← HN.out]; exact hlt
            have kk := kr k hks
            obtain ⟨s, hs⟩ : ∃ s, s = ss[k] := ⟨_, rfl⟩
            rw [← hs] at kk
            have hq := (HRow.out k hks).1
            subst hq
            have HSe := hid hs
            have HMem := hid (show s ∈ ss by rw [hs]; exact List.getElem_mem hks)
            clear hs kr
            have HP := hid (spill_any s wr (by have := HI.out.sh k hks; rw [if_neg (Nat.lt_irrefl _), ← HSe.out] at this; exact this))
            unfold Sh.v Sh.agg at kk
            unfold Sh.agg at HP
            have i0 : (0 : Int) ≤ (k : Int) := by omega
            have i1 : (k : Int) < (N : Int) := by omega
            go_wp2_with fail
            refine HP.out.mono ?_
            rintro e w2 ⟨rfl, hr2, hg2⟩
            have hI2 : BookI w K R base ss (fun j s => if j < k + 1 then s.c else s.n) w2 := by
              have hb := HSe.out
              refine BookI.step HI.out hks (by rw [← hb, if_pos (Nat.lt_succ_self _)]; exact hr2) (by rw [← hb]; exact hg2) (fun j s hj => ?_) HAp.out HLo.out hbs hKl hRl (by rw [← hb]; exact HKt.out s HMem.out) (by rw [← hb]; exact HRt.out s HMem.out)
              by_cases q : j < k
              · rw [if_pos q, if_pos (by omega)]
              · rw [if_neg q, if_neg (by omega)]
            have HI2 := hid hI2
            clear hr2 hg2 hI2
            go_wp2
            go_roundw
            case rel => exact ⟨k + 1, by omega, by go_num, HI2.out⟩
            case measure => simp [intOf]; omega
          · obtain rfl : N = k := by omega
            clear kr
            have HI3 := hid (show BookI w K R base ss (fun _ s => s.c) wr from ⟨HI.out.book, HI.out.row, fun j hj => by have := HI.out.sh j hj; rw [if_pos (by rw [HN.out]; exact hj)] at this; exact this, HI.out.below⟩)
            clear HI HI1
            go_wp2_with fail
            clear k0
            go_loopw [5] (fun i wr => ∃ k : Nat, k ≤ N ∧ i = .int .i64 (k : Int) ∧ BookI w K R base ss (fun _ s => s.c) wr) (fun i _ => N - (intOf i).toNat)
            case atStart => exact ⟨0, Nat.zero_le _, rfl, HI3.out⟩
            case round =>
              obtain ⟨k, hk, rfl, hI⟩ := hrel
              have HI := hid hI
              obtain ⟨k0, kr⟩ := hI.cells H1.out HRow.out
              clear hI
              by_cases hlt : k < N
              · have hks : k < ss.length := by rw [← HN.out]; exact hlt
                have kk := kr k hks
                obtain ⟨s, hs⟩ : ∃ s, s = ss[k] := ⟨_, rfl⟩
                rw [← hs] at kk
                have hq := (HRow.out k hks).1
                subst hq
                have HSe := hid hs
                have HMem := hid (show s ∈ ss by rw [hs]; exact List.getElem_mem hks)
                clear hs kr
                have HP := hid (clean_any s wr (by have := HI.out.sh k hks; rw [← HSe.out] at this; exact this))
                unfold Sh.v Sh.agg at kk
                unfold Sh.agg at HP
                have i0 : (0 : Int) ≤ (k : Int) := by omega
                have i1 : (k : Int) < (N : Int) := by omega
                go_wp2_with fail
                refine HP.out.mono ?_
                rintro e w2 ⟨rfl, hg2⟩
                have hI2 : BookI w K R base ss (fun _ s => s.c) w2 := by
                  have hi := HI.out
                  have hsz := hi.below.size
                  exact ⟨(hg2.block K (by omega) (fun e => by cases e)).trans hi.book, (hg2.block R (by omega) (fun e => by cases e)).trans hi.row, fun j hj => (hi.sh j hj).kept hg2 (fun g _ e => by cases e), hi.below.grown hg2 (by omega) (fun g e => by cases e)⟩
                have HI2 := hid hI2
                clear hg2 hI2
                go_wp2
                go_roundw
                case rel => exact ⟨k + 1, by omega, by go_num, HI2.out⟩
                case measure => simp [intOf]; omega
              · obtain rfl : N = k := by omega
                clear kr
                go_wp2
                go_ret
                exact ⟨rfl, HI.out.below⟩
end Go.Proofs.Herb
