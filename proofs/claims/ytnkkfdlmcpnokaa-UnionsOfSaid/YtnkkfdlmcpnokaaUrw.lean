
/- The reference of chapters 17 and 19: Within, Same, has. For lists that can be read. -/
import Derived.Test.YtnkkfdlmcpnokaaUrf
namespace Go.Proofs.Herb
open Go.RowKit
theorem fV_some (f : Fact) : fV (some f) = .agg #[.string f.key, .int .u32 (f.valid : Int), .int .u64 (f.seq : Int), .int .u64 (f.line : Int), .int .u8 (f.kind : Int), .string f.val] := rfl
theorem fV_none : fV none = .agg #[.string ⟨#[]⟩, .int .u32 0, .int .u64 0, .int .u64 0, .int .u8 0, .string ⟨#[]⟩] := rfl
theorem findF_has {l : List Fact} {f : Fact} (h : f ∈ l) : ∃ x, findF l f.key f.valid = some x := by
  cases hf : findF l f.key f.valid with
  | some x => exact ⟨x, rfl⟩
  | none => exact absurd rfl (findF_none.1 hf f h rfl)
def wiP (a b : List Fact) (k : ByteArray) (f : Fact) : Bool := !decide (f.key = k) || decide (lookF b k f.valid = lookF a k f.valid)
theorem withinB_eq (a b : List Fact) (k : ByteArray) : withinB a b k = a.all (wiP a b k) := rfl
theorem all_take {p : Fact → Bool} {l : List Fact} {j : Nat} (hj : j < l.length) (h : (l.take j).all p = true) (hp : p l[j] = true) : (l.take (j + 1)).all p = true := by
  rw [List.take_succ_eq_append_getElem hj, List.all_append, h]
  simp [hp]
theorem all_no {p : Fact → Bool} {l : List Fact} {j : Nat} (hj : j < l.length) (hp : p l[j] = false) : l.all p = false := by
  rw [Bool.eq_false_iff]
  intro h
  rw [List.all_eq_true.1 h _ (List.getElem_mem hj)] at hp
  cases hp
set_option maxRecDepth 100000 in
set_option maxHeartbeats 4000000 in
theorem within_any (q p : Option Addr) (n c m d : Nat) (a b : List Fact) (k : ByteArray) (w : World) (hn : a.length = n) (hm : b.length = m) (bn : n ≤ 1000000) (bm : m ≤ 1000000) (hr : Rd w q (fCells a)) (hs : Rd w p (fCells b)) :
    Calls Try.prog 41 #[.slice q n c, .slice p m d, .string k] w fun e w' => e = .returned (.bool (withinB a b k)) ∧ Below w.heap.size w w' := by
  have HN := hid hn
  have HM := hid hm
  have HR := hid hr
  have HS := hid hs
  clear hn hm hr hs
  go_enter Try.func41, Try.ntmps41
  go_wp2
  go_loopw [7] (fun i wr => ∃ j : Nat, j ≤ n ∧ i = .int .i64 (j : Int) ∧ Hid ((a.take j).all (wiP a b k) = true) ∧ Hid (Below w.heap.size w wr)) (fun i _ => n - (intOf i).toNat)
  case atStart => exact ⟨0, Nat.zero_le _, rfl, rfl, Below.refl _ _⟩
  case round =>
    obtain ⟨j, hj, rfl, HF, HB⟩ := hrel
    by_cases hlt : j < n
    · have hjl : j < a.length := by rw [HN.out]; exact hlt
      obtain ⟨bb, off, rfl, hb, hf⟩ := fact_at (HR.out.below HB.out) (j := j) hjl
      obtain ⟨f, hfe⟩ : ∃ f, a[j] = f := ⟨_, rfl⟩
      have hfm : f ∈ a := by rw [← hfe]; exact List.getElem_mem _
      have hyes : wiP a b k f = true → Hid ((a.take (j + 1)).all (wiP a b k) = true) := fun h => all_take hjl HF.out (by rw [hfe]; exact h)
      have hno : wiP a b k f = false → Hid (withinB a b k = false) := fun h => all_no hjl (by rw [hfe]; exact h)
      rw [hfe] at hf
      have HY := hid hyes
      have HNO := hid hno
      obtain ⟨c0, c1, c2, c3, c4, c5⟩ := hf
      have i0 : (0 : Int) ≤ (j : Int) := by omega
      have i1 : (j : Int) < (n : Int) := by omega
      clear hfe hyes hno hjl
      by_cases he : f.key = k
      · have hbe : (f.key.toList == k.toList) = true := by rw [he]; exact eq_text _
        obtain ⟨x, hx⟩ := findF_has hfm
        rw [he] at hx
        have k1 := find_any (some ⟨bb, off, none⟩) n c a k f.valid wr HN.out bn (HR.out.below HB.out)
        rw [hx] at k1
        simp only [fV_some, Option.isSome_some] at k1
        have hk2 : ∀ W, Below wr.heap.size wr W → _ := fun W hW => find_any p m d b k f.valid W HM.out bm ((HS.out.below HB.out).below hW)
        have HX := hid hx
        have H2 := hid hk2
        have HE := hid he
        clear hx hk2 hfm he c2 c3 c4 c5
        go_upto_region 6 with (go_at_call 42; with_reducible refine k1.mono ?_; rintro e w2 ⟨rfl, b2⟩; have HB2 := hid b2; clear b2)
        obtain ⟨X, hX⟩ : ∃ X, X = w2.heap.size := ⟨_, rfl⟩
        have hx0 : (w2.alloc (.cells #[.string x.key, .int .u32 (x.valid : Int), .int .u64 (x.seq : Int), .int .u64 (x.line : Int), .int .u8 (x.kind : Int), .string x.val] 42)).heap[X]? = some (.cells #[.string x.key, .int .u32 (x.valid : Int), .int .u64 (x.seq : Int), .int .u64 (x.line : Int), .int .u8 (x.kind : Int), .string x.val] 42 (0, 0)) := by rw [hX]; exact World.alloc_heap_new _ _
        have hb3 := HB2.out.alloc HB2.out.size (.cells #[.string x.key, .int .u32 (x.valid : Int), .int .u64 (x.seq : Int), .int .u64 (x.line : Int), .int .u8 (x.kind : Int), .string x.val] 42)
        rw [← hX]
        generalize (w2.alloc (.cells #[.string x.key, .int .u32 (x.valid : Int), .int .u64 (x.seq : Int), .int .u64 (x.line : Int), .int .u8 (x.kind : Int), .string x.val] 42)) = W3 at hx0 hb3 ⊢
        have HB3 := hid hb3
        have e4 : W3.cell? ⟨X, 4, none⟩ = some (.int .u8 (x.kind : Int)) := by rw [cell_of_row _ _ _ _ _ _ hx0]; rfl
        have e5 : W3.cell? ⟨X, 5, none⟩ = some (.string x.val) := by rw [cell_of_row _ _ _ _ _ _ hx0]; rfl
        have hXl := lt_of_block hx0
        have k2 := H2.out W3 hb3
        have c1' : W3.cell? ⟨bb, off + j * 6 + 1, none⟩ = some (.int .u32 (f.valid : Int)) := (hb3.cell (p := ⟨bb, off + j * 6 + 1, none⟩) hb).trans c1
        clear hX hx0 hb3 c0 c1 hb HB2
        cases hy : findF b k f.valid with
        | none =>
          rw [hy] at k2
          simp only [fV_none, Option.isSome_none] at k2
          have HW := hid (HNO.out (by
            unfold wiP
            rw [decide_eq_true HE.out]
            unfold lookF
            rw [hy, HX.out]
            simp))
          clear hy
          go_wp2_with (go_at_call 42; with_reducible refine k2.mono ?_; rintro e w4 ⟨rfl, b4⟩; have HB4 := hid (HB3.out.trans (b4.mono HB3.out.size)); clear b4)
          go_ret
          refine ⟨by rw [HW.out]; rfl, ?_⟩
          exact (HB.out.trans (HB4.out.mono HB.out.size)).alloc (by have := HB.out.size; have := HB4.out.size; omega) _
        | some y =>
          rw [hy] at k2
          simp only [fV_some, Option.isSome_some] at k2
          go_upto_region 7 with (go_at_call 42; with_reducible refine k2.mono ?_; rintro e w4 ⟨rfl, b4⟩; have B34 := hid b4; have HB4 := hid (HB3.out.trans (b4.mono HB3.out.size)); clear b4)
          obtain ⟨Y, hY⟩ : ∃ Y, Y = w4.heap.size := ⟨_, rfl⟩
          have hy0 : (w4.alloc (.cells #[.string y.key, .int .u32 (y.valid : Int), .int .u64 (y.seq : Int), .int .u64 (y.line : Int), .int .u8 (y.kind : Int), .string y.val] 42)).heap[Y]? = some (.cells #[.string y.key, .int .u32 (y.valid : Int), .int .u64 (y.seq : Int), .int .u64 (y.line : Int), .int .u8 (y.kind : Int), .string y.val] 42 (0, 0)) := by rw [hY]; exact World.alloc_heap_new _ _
          have hb35 := B34.out.alloc B34.out.size (.cells #[.string y.key, .int .u32 (y.valid : Int), .int .u64 (y.seq : Int), .int .u64 (y.line : Int), .int .u8 (y.kind : Int), .string y.val] 42)
          have hb5 := HB4.out.alloc HB4.out.size (.cells #[.string y.key, .int .u32 (y.valid : Int), .int .u64 (y.seq : Int), .int .u64 (y.line : Int), .int .u8 (y.kind : Int), .string y.val] 42)
          rw [← hY]
          generalize (w4.alloc (.cells #[.string y.key, .int .u32 (y.valid : Int), .int .u64 (y.seq : Int), .int .u64 (y.line : Int), .int .u8 (y.kind : Int), .string y.val] 42)) = W5 at hy0 hb35 hb5 ⊢
          have HB5 := hid (HB.out.trans (hb5.mono HB.out.size))
          have g4 := (hb35.cell (p := ⟨X, 4, none⟩) hXl).trans e4
          have g5 := (hb35.cell (p := ⟨X, 5, none⟩) hXl).trans e5
          have k4 : W5.cell? ⟨Y, 4, none⟩ = some (.int .u8 (y.kind : Int)) := by rw [cell_of_row _ _ _ _ _ _ hy0]; rfl
          have k5 : W5.cell? ⟨Y, 5, none⟩ = some (.string y.val) := by rw [cell_of_row _ _ _ _ _ _ hy0]; rfl
          have hlk : wiP a b k f = decide ((y.kind, y.val) = (x.kind, x.val)) := by
            unfold wiP
            rw [decide_eq_true HE.out]
            unfold lookF
            rw [hy, HX.out]
            simp
          clear hY hy0 hb35 hb5 hy e4 e5 hXl c1'
          by_cases hkk : x.kind = y.kind
          · by_cases hvv : x.val = y.val
            · have HT := hid (HY.out (by rw [hlk, hkk, hvv]; simp))
              rw [hkk] at g4
              rw [hvv] at g5
              clear hlk hkk hvv
              go_wp2
              go_roundw
              case rel => exact ⟨j + 1, by omega, by go_num, HT.out, HB5⟩
              case measure => simp [intOf]; omega
            · have HW := hid (HNO.out (by rw [hlk, decide_eq_false]; intro e; exact hvv (congrArg (·.2) e).symm))
              have hne := ne_text hvv
              rw [hkk] at g4
              clear hlk hkk hvv
              go_wp2
              go_ret
              exact ⟨by rw [HW.out]; rfl, HB5.out⟩
          · have HW := hid (HNO.out (by rw [hlk, decide_eq_false]; intro e; exact hkk (congrArg (·.1) e).symm))
            have hk2 : ¬ ((x.kind : Int) = (y.kind : Int)) := by omega
            clear hlk hkk
            go_wp2
            go_ret
            exact ⟨by rw [HW.out]; rfl, HB5.out⟩
      · have hne := ne_text he
        have HT := hid (HY.out (by unfold wiP; rw [decide_eq_false he]; rfl))
        clear he
        go_wp2
        go_roundw
        case rel => exact ⟨j + 1, by omega, by go_num, HT.out, HB⟩
        case measure => simp [intOf]; omega
    · obtain rfl : j = n := by omega
      have HE : Hid (withinB a b k = true) := by
        have := HF.out
        rw [← HN.out, List.take_length] at this
        exact this
      go_wp2
      go_ret
      exact ⟨by rw [HE.out]; rfl, HB.out⟩
set_option maxHeartbeats 1000000 in
theorem same_any (q p : Option Addr) (n c m d : Nat) (a b : List Fact) (k : ByteArray) (w : World) (hn : a.length = n) (hm : b.length = m) (bn : n ≤ 1000000) (bm : m ≤ 1000000) (hr : Rd w q (fCells a)) (hs : Rd w p (fCells b)) :
    Calls Try.prog 28 #[.slice q n c, .slice p m d, .string k] w fun e w' => e = .returned (.bool (sameB a b k)) ∧ Below w.heap.size w w' := by
  have k1 := within_any q p n c m d a b k w hn hm bn bm hr hs
  have k2 : ∀ W, Below w.heap.size w W → _ := fun W hW => within_any p q m d n c b a k W hm hn bm bn (hs.below hW) (hr.below hW)
  have H2 := hid k2
  clear k2 hr hs
  cases h1 : withinB a b k with
  | false =>
    rw [h1] at k1
    have hsb : Hid (sameB a b k = false) := by show _ = _; unfold sameB; rw [h1]; rfl
    clear h1
    go_enter Try.func28, Try.ntmps28
    go_wp2_with (go_at_call 41; with_reducible refine k1.mono ?_; rintro e w2 ⟨rfl, b2⟩)
    go_ret
    exact ⟨by rw [hsb.out]; rfl, b2⟩
  | true =>
    rw [h1] at k1
    have hsb : Hid (sameB a b k = withinB b a k) := by show _ = _; unfold sameB; rw [h1]; rfl
    clear h1
    go_enter Try.func28, Try.ntmps28
    go_wp2_with (first
      | (go_at_call 41; with_reducible refine k1.mono ?_; rintro e w2 ⟨rfl, b2⟩; have k2 := H2.out w2 b2; have B2 := hid b2; clear b2 k1)
      | (go_at_call 41; with_reducible refine k2.mono ?_; rintro e w3 ⟨rfl, b3⟩))
    go_ret
    exact ⟨by rw [hsb.out]; rfl, B2.out.trans (b3.mono B2.out.size)⟩
end Go.Proofs.Herb
