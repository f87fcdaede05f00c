
/- The laws' small functions of chapter 19: SameTexts, SameChanges (of the same), in, of, over. For slices that can be read. -/
import Derived.Test.YtnkkfdlmcpnokaaUof
import Derived.Deep.QuietTactic
import Derived.BigQuiet
import Derived.StillTailTactics
import Derived.BigRegion
namespace Go.Proofs.Herb
open Go.RowKit
theorem below_drewN {b : Nat} {A B : World} (h : Below b A B) (q : Nat) : Below b A (B.drewN q) := ⟨h.os, h.tape, h.output, h.size, h.block⟩
theorem rd_text {w : World} {q : Option Addr} {K : List ByteArray} (h : Rd w q (strs K)) {j : Nat} (hj : j < K.length) : ∃ b off, q = some ⟨b, off, none⟩ ∧ w.cell? ⟨b, off + j, none⟩ = some (.string K[j]) := by
  obtain ⟨b, off, e1, e2⟩ := h.cell (k := j) (by simp [strs]; exact hj)
  exact ⟨b, off, e1, e2.trans (by simp [strs])⟩
theorem cg_at {w : World} {q : Option Addr} {l : List Chg} (h : Rd w q (cgCells l)) {j : Nat} (hj : j < l.length) : ∃ b off, q = some ⟨b, off, none⟩ ∧ w.cell? ⟨b, off + j * 4, none⟩ = some (.string l[j].key) ∧ w.cell? ⟨b, off + j * 4 + 1, none⟩ = some (.int .u32 (l[j].valid : Int)) ∧ w.cell? ⟨b, off + j * 4 + 2, none⟩ = some (.int .u8 (l[j].kind : Int)) ∧ w.cell? ⟨b, off + j * 4 + 3, none⟩ = some (.string l[j].val) := by
  have hat : ∀ i, i < 4 → (cgCells l)[j * 4 + i]? = (l[j].cells)[i]? := by
    have h2 : ∀ (l : List Chg) (j : Nat) (hj : j < l.length) (i : Nat), i < 4 → (cgCells l)[j * 4 + i]? = (l[j].cells)[i]? := by
      intro l
      induction l with
      | nil => intro j hj; simp at hj
      | cons c l ih =>
        intro j hj i hi
        have e : cgCells (c :: l) = c.cells ++ cgCells l := by simp [cgCells]
        rw [e]
        have hc : c.cells.length = 4 := rfl
        cases j with
        | zero => rw [List.getElem?_append_left (by omega)]; simp
        | succ j =>
          rw [List.getElem?_append_right (by omega), hc, show (j + 1) * 4 + i - 4 = j * 4 + i by omega, ih j (by simpa using hj) i hi]
          simp
    exact h2 l j hj
  rcases h with hz | ⟨b, off, hq, hr⟩
  · have := hat 0 (by omega)
    rw [hz] at this
    simp [Chg.cells] at this
  · refine ⟨b, off, hq, ?_, ?_, ?_, ?_⟩
    · have := hr _ _ (hat 0 (by omega)); simpa using this
    · have := hr _ _ (hat 1 (by omega)); simpa [Nat.add_assoc] using this
    · have := hr _ _ (hat 2 (by omega)); simpa [Nat.add_assoc] using this
    · have := hr _ _ (hat 3 (by omega)); simpa [Nat.add_assoc] using this
set_option maxRecDepth 100000 in
set_option maxHeartbeats 1600000 in
theorem texts_same (q p : Option Addr) (n c d : Nat) (K : List ByteArray) (w : World) (hn : K.length = n) (hm : n ≤ 1000000) (h1 : Rd w q (strs K)) (h2 : Rd w p (strs K)) :
    Calls Try.prog 12 #[.slice q n c, .slice p n d] w fun e w' => e = .returned (.bool true) ∧ Below w.heap.size w w' := by
  have HN := hid hn
  have H1 := hid h1
  have H2 := hid h2
  clear hn h1 h2
  go_enter Try.func12, Try.ntmps12
  go_wp2
  go_loopw [5] (fun i wr => ∃ j : Nat, j ≤ n ∧ i = .int .i64 (j : Int) ∧ Hid (Below w.heap.size w wr)) (fun i _ => n - (intOf i).toNat)
  case atStart => exact ⟨0, Nat.zero_le _, rfl, Below.refl _ _⟩
  case round =>
    obtain ⟨j, hj, rfl, HB⟩ := hrel
    by_cases hlt : j < n
    · obtain ⟨b1, o1, rfl, g1⟩ := rd_text (H1.out.below HB.out) (j := j) (by rw [HN.out]; exact hlt)
      obtain ⟨b2, o2, rfl, g2⟩ := rd_text (H2.out.below HB.out) (j := j) (by rw [HN.out]; exact hlt)
      obtain ⟨k, hk⟩ : ∃ k, K[j]'(by rw [HN.out]; exact hlt) = k := ⟨_, rfl⟩
      rw [hk] at g1 g2
      clear hk
      have i0 : (0 : Int) ≤ (j : Int) := by omega
      have i1 : (j : Int) < (n : Int) := by omega
      go_upto_region 6 with fail
      go_quiet (fail)
      go_wp2
      go_roundw
      case rel => exact ⟨j + 1, by omega, by go_num, below_drewN HB.out _⟩
      case measure => simp [intOf]; omega
    · obtain rfl : j = n := by omega
      go_wp2
      go_ret
      exact ⟨rfl, HB.out⟩
theorem neqCg (c : Chg) (w : World) : (binOp .neq 44 (.agg #[.string c.key, .int .u32 (c.valid : Int), .int .u8 (c.kind : Int), .string c.val]) (.agg #[.string c.key, .int .u32 (c.valid : Int), .int .u8 (c.kind : Int), .string c.val])).run Try.prog w = .ok (.bool false) w := by
  go_simp
set_option maxRecDepth 100000 in
set_option maxHeartbeats 1600000 in
theorem chgs_same (q p : Option Addr) (n c d : Nat) (K : List Chg) (w : World) (hn : K.length = n) (hm : n ≤ 1000000) (h1 : Rd w q (cgCells K)) (h2 : Rd w p (cgCells K)) :
    Calls Try.prog 11 #[.slice q n c, .slice p n d] w fun e w' => e = .returned (.bool true) ∧ Below w.heap.size w w' := by
  have HN := hid hn
  have H1 := hid h1
  have H2 := hid h2
  clear hn h1 h2
  go_enter Try.func11, Try.ntmps11
  go_wp2
  go_loopw [5] (fun i wr => ∃ j : Nat, j ≤ n ∧ i = .int .i64 (j : Int) ∧ Hid (Below w.heap.size w wr)) (fun i _ => n - (intOf i).toNat)
  case atStart => exact ⟨0, Nat.zero_le _, rfl, Below.refl _ _⟩
  case round =>
    obtain ⟨j, hj, rfl, HB⟩ := hrel
    by_cases hlt : j < n
    · obtain ⟨b1, o1, rfl, g10, g11, g12, g13⟩ := cg_at (H1.out.below HB.out) (j := j) (by rw [HN.out]; exact hlt)
      obtain ⟨b2, o2, rfl, g20, g21, g22, g23⟩ := cg_at (H2.out.below HB.out) (j := j) (by rw [HN.out]; exact hlt)
      obtain ⟨k, hk⟩ : ∃ k, K[j]'(by rw [HN.out]; exact hlt) = k := ⟨_, rfl⟩
      rw [hk] at g10 g11 g12 g13 g20 g21 g22 g23
      clear hk
      have hne := neqCg k
      have i0 : (0 : Int) ≤ (j : Int) := by omega
      have i1 : (j : Int) < (n : Int) := by omega
      go_upto_region 6 with fail
      go_quiet (fail)
      go_wp2
      go_roundw
      case rel => exact ⟨j + 1, by omega, by go_num, below_drewN HB.out _⟩
      case measure => simp [intOf]; omega
    · obtain rfl : j = n := by omega
      go_wp2
      go_ret
      exact ⟨rfl, HB.out⟩
theorem inS_take {k : ByteArray} {K : List ByteArray} {j : Nat} (hj : j < K.length) : inS k (K.take (j + 1)) = (inS k (K.take j) || decide (K[j] = k)) := by
  unfold inS
  rw [List.take_succ_eq_append_getElem hj, List.any_append]
  simp
set_option maxRecDepth 100000 in
set_option maxHeartbeats 1600000 in
theorem in_any (q : Option Addr) (n c : Nat) (K : List ByteArray) (k : ByteArray) (w : World) (hn : K.length = n) (hm : n ≤ 1000000) (h1 : Rd w q (strs K)) :
    Calls Try.prog 16 #[.string k, .slice q n c] w fun e w' => e = .returned (.bool (inS k K)) ∧ w' = w := by
  have HN := hid hn
  have H1 := hid h1
  clear hn h1
  go_enter Try.func16, Try.ntmps16
  go_wp2
  go_loopw [5] (fun i wr => ∃ j : Nat, j ≤ n ∧ i = .int .i64 (j : Int) ∧ Hid (inS k (K.take j) = false) ∧ wr = w) (fun i _ => n - (intOf i).toNat)
  case atStart => exact ⟨0, Nat.zero_le _, rfl, rfl, rfl⟩
  case round =>
    obtain ⟨j, hj, rfl, HI, rfl⟩ := hrel
    by_cases hlt : j < n
    · have hjl : j < K.length := by rw [HN.out]; exact hlt
      obtain ⟨b1, o1, rfl, g1⟩ := rd_text H1.out (j := j) hjl
      have hit := inS_take (k := k) hjl
      rw [HI.out, Bool.false_or] at hit
      obtain ⟨x, hx⟩ : ∃ x, K[j] = x := ⟨_, rfl⟩
      rw [hx] at g1 hit
      by_cases he : x = k
      · have HE : Hid (inS k K = true) := by
          show _ = _
          rw [inS_iff, ← he, ← hx]
          exact List.getElem_mem _
        subst he
        clear hx hit
        go_wp2
        go_ret
        exact ⟨by rw [HE.out]; rfl, rfl⟩
      · have hne : (x.toList == k.toList) = false := beq_eq_false_iff_ne.2 fun e => he (ba_eq (by rw [← ByteArray.toList_eq, ← ByteArray.toList_eq]; exact e))
        rw [decide_eq_false he] at hit
        have HIT := hid hit
        clear hx hit he
        go_wp2
        go_roundw
        case rel => exact ⟨j + 1, by omega, by go_num, HIT, trivial⟩
        case measure => simp [intOf]; omega
    · obtain rfl : j = n := by omega
      have HE : Hid (inS k K = false) := by
        have := HI.out
        rw [← HN.out, List.take_length] at this
        exact this
      go_wp2
      go_ret
      exact ⟨by rw [HE.out]; rfl, rfl⟩
theorem infoFc : (Try.prog.info? 42).map (fun i => (i.zero, i.size, i.bytes)) = some (some (.agg #[.string ⟨#[]⟩, .int .u32 0, .int .u64 0, .int .u64 0, .int .u8 0, .string ⟨#[]⟩]), 6, 64) := by kernel_rfl
theorem ofK_take {l : List Fact} {k : ByteArray} {j : Nat} (hj : j < l.length) : ofK (l.take (j + 1)) k = ofK (l.take j) k ++ if l[j].key = k then [l[j]] else [] := by
  unfold ofK
  rw [List.take_succ_eq_append_getElem hj, List.filter_append]
  congr 1
  by_cases h : l[j].key = k <;> simp [h]
set_option maxRecDepth 100000 in
set_option maxHeartbeats 4000000 in
theorem ofK_any (q : Option Addr) (n c : Nat) (l : List Fact) (k : ByteArray) (w : World) (hn : l.length = n) (hm : n ≤ 400000) (h1 : Rd w q (fCells l)) :
    Calls Try.prog 15 #[.slice q n c, .string k] w fun e w' => ∃ q' c', e = .returned (.slice q' (ofK l k).length c') ∧ Rd w' q' (fCells (ofK l k)) ∧ Below w.heap.size w w' := by
  have HN := hid hn
  have H1 := hid h1
  clear hn h1
  go_enter Try.func15, Try.ntmps15
  go_wp2
  go_loopw [5, 6] (fun v i wr => ∃ j : Nat, j ≤ n ∧ i = .int .i64 (j : Int) ∧ Hid (wr.ownsRow w.heap.size 42 6 v (ofK (l.take j) k).length (fCells (ofK (l.take j) k))) ∧ Hid (Below w.heap.size w wr)) (fun _ i _ => n - (intOf i).toNat)
  case atStart => exact ⟨0, Nat.zero_le _, rfl, World.ownsRow_nil _ _ _ _, Below.refl _ _⟩
  case round =>
    obtain ⟨j, hj, rfl, HO, HB⟩ := hrel
    have hsw := HB.out.size
    obtain ⟨N, hNN⟩ : ∃ N, (ofK (l.take j) k).length = N := ⟨_, rfl⟩
    have hN1 : N ≤ 400000 := by
      have h1 : (ofK (l.take j) k).length ≤ (l.take j).length := List.length_filter_le _ _
      rw [List.length_take] at h1
      omega
    rw [hNN] at HO
    have HNN := hid hNN
    obtain ⟨qa, ca, rfl, ha1, ha2, ha3⟩ := own_shape HO.out
    clear hNN
    by_cases hlt : j < n
    · have hjl : j < l.length := by rw [HN.out]; exact hlt
      obtain ⟨b, off, rfl, hb, hf⟩ := fact_at (H1.out.below HB.out) (j := j) hjl
      have hst := ofK_take (k := k) hjl
      obtain ⟨f, hfe⟩ : ∃ f, l[j] = f := ⟨_, rfl⟩
      rw [hfe] at hf hst
      obtain ⟨c0, c1, c2, c3, c4, c5⟩ := hf
      have i0 : (0 : Int) ≤ (j : Int) := by omega
      have i1 : (j : Int) < (n : Int) := by omega
      clear hfe
      by_cases he : f.key = k
      · have HST : Hid (ofK (l.take (j + 1)) k = ofK (l.take j) k ++ [f]) := by show _ = _; rw [hst, if_pos he]
        have hbe : (f.key.toList == k.toList) = true := by rw [he]; exact beq_self_eq_true _
        obtain ⟨i9, hi9, hz0, hz1, hz2⟩ := info_parts infoFc
        clear hst he
        go_wp2_with (at_builtin; refine wpList_append_own _ rfl _ _ 22 rfl w.heap.size 42 i9 (.agg #[.string ⟨#[]⟩, .int .u32 0, .int .u64 0, .int .u64 0, .int .u8 0, .string ⟨#[]⟩]) 6 64 Try.underlying22 hi9 hz0 hz1 hz2 rfl (by decide) _ _ _ rfl (HO.out.alloc _) _ 1 1 [.string f.key, .int .u32 (f.valid : Int), .int .u64 (f.seq : Int), .int .u64 (f.line : Int), .int .u8 (f.kind : Int), .string f.val] rfl rfl (cells_new _ _ _) (by simp [Value.oneCell']) (by unfold maxLen; omega) (by omega) (by simp; omega) ?_; intro v' w8 hown' hgrow _; have HOW := hid hown'; have HGR := hid hgrow; clear hown' hgrow)
        have HB8 : Hid (Below w.heap.size w w8) := Below.grown' (HB.out.alloc hsw _) (HO.out.alloc _) HGR.out (by simp; omega)
        go_roundw
        case rel =>
          refine ⟨j + 1, by omega, by go_num, ?_, HB8⟩
          rw [HST.out]
          show w8.ownsRow _ _ _ _ _ _
          have e1 : (ofK (l.take j) k ++ [f]).length = N + 1 := by rw [List.length_append, HNN.out]; rfl
          have e2 : fCells (ofK (l.take j) k ++ [f]) = fCells (ofK (l.take j) k) ++ f.cells := by rw [fCells_append]; simp [fCells]
          rw [e1, e2]
          exact HOW.out
        case measure => simp [intOf]; omega
      · have HST : Hid (ofK (l.take (j + 1)) k = ofK (l.take j) k) := by show _ = _; rw [hst, if_neg he, List.append_nil]
        have hne : (f.key.toList == k.toList) = false := beq_eq_false_iff_ne.2 fun e => he (ba_eq (by rw [← ByteArray.toList_eq, ← ByteArray.toList_eq]; exact e))
        clear hst he
        go_wp2
        go_roundw
        case rel => exact ⟨j + 1, by omega, by go_num, by rw [HST.out, HNN.out]; exact HO, HB⟩
        case measure => simp [intOf]; omega
    · obtain rfl : j = n := by omega
      have e1 : l.take j = l := by rw [← HN.out]; exact List.take_length
      rw [e1] at HO HNN
      go_wp2
      go_ret
      refine ⟨qa, ca, by rw [HNN.out]; rfl, (Fr.of_own HO.out).rd, HB.out⟩
end Go.Proofs.Herb
