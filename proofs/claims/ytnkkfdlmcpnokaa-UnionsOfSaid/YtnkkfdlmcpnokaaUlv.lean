
/- The laws' great and lives of chapter 19. -/
import Derived.Test.YtnkkfdlmcpnokaaUlw
namespace Go.Proofs.Herb
open Go.RowKit
theorem Great_any (q : Option Addr) (n c : Nat) (w : World) (hm : n ≤ maxLen) : Calls Try.prog 17 #[.slice q n c, .slice none 0 0] w fun e w' => e = .returned (.bool (decide (120 < n))) ∧ w' = w := by
  unfold maxLen at hm
  by_cases h : 120 < n
  · have h1 : (120 : Int) < (n : Int) := by omega
    go_enter Try.func17, Try.ntmps17
    go_wp2
    go_ret
    rw [decide_eq_true h]
    exact ⟨rfl, rfl⟩
  · have h1 : ¬ (120 : Int) < (n : Int) := by omega
    go_enter Try.func17, Try.ntmps17
    go_wp2
    go_ret
    exact ⟨by first | rfl | (rw [decide_eq_false h]; rfl), rfl⟩
set_option maxHeartbeats 1000000 in
theorem great_any (q : Nat → Option Addr) (n c : Nat → Nat) (w : World) (hm : ∀ i, i < 3 → n i ≤ maxLen) :
    Calls Try.prog 7 #[.agg #[.slice (q 0) (n 0) (c 0), .slice (q 1) (n 1) (c 1), .slice (q 2) (n 2) (c 2)]] w fun e w' => ∃ b, e = .returned (.bool b) ∧ (b = false → ∀ i, i < 3 → n i ≤ 120) ∧ Below w.heap.size w w' := by
  have g0 := hm 0 (by omega)
  have g1 := hm 1 (by omega)
  have g2 := hm 2 (by omega)
  have k0 := fun W => Great_any (q 0) (n 0) (c 0) W g0
  have k1 := fun W => Great_any (q 1) (n 1) (c 1) W g1
  have k2 := fun W => Great_any (q 2) (n 2) (c 2) W g2
  have hb : Below w.heap.size w (w.alloc (.cells #[.slice (q 0) (n 0) (c 0), .slice (q 1) (n 1) (c 1), .slice (q 2) (n 2) (c 2)] 24)) := (Below.refl _ _).alloc (Nat.le_refl _) _
  have HB := hid hb
  clear g0 g1 g2 hm hb
  by_cases h0 : 120 < n 0
  · simp only [decide_eq_true h0] at k0
    go_enter Try.func7, Try.ntmps7
    go_wp2_with (go_at_call 17; with_reducible refine (k0 _).mono ?_; rintro e w' ⟨rfl, rfl⟩)
    go_ret
    exact ⟨true, rfl, (fun h => by cases h), HB.out⟩
  · simp only [decide_eq_false h0] at k0
    by_cases h1 : 120 < n 1
    · simp only [decide_eq_true h1] at k1
      go_enter Try.func7, Try.ntmps7
      go_wp2_with (first | (go_at_call 17; with_reducible refine (k0 _).mono ?_; rintro e w' ⟨rfl, rfl⟩) | (go_at_call 17; with_reducible refine (k1 _).mono ?_; rintro e w' ⟨rfl, rfl⟩))
      go_ret
      exact ⟨true, rfl, (fun h => by cases h), HB.out⟩
    · simp only [decide_eq_false h1] at k1
      obtain ⟨b2, hb2⟩ : ∃ b, b = decide (120 < n 2) := ⟨_, rfl⟩
      simp only [← hb2] at k2
      have H2 := hid hb2
      clear hb2
      go_enter Try.func7, Try.ntmps7
      go_wp2_with (first | (go_at_call 17; with_reducible refine (k0 _).mono ?_; rintro e w' ⟨rfl, rfl⟩) | (go_at_call 17; with_reducible refine (k1 _).mono ?_; rintro e w' ⟨rfl, rfl⟩) | (go_at_call 17; with_reducible refine (k2 _).mono ?_; rintro e w' ⟨rfl, rfl⟩))
      go_ret
      refine ⟨b2, rfl, fun h i hi => ?_, HB.out⟩
      have h3 := H2.out
      rw [h] at h3
      have h4 : ¬ 120 < n 2 := of_decide_eq_false h3.symm
      rcases three hi with rfl | rfl | rfl <;> omega
def lvX : Fact := ⟨⟨#[97]⟩, 1, 0, 0, 0, ⟨#[120]⟩⟩
def lvZ : Fact := ⟨⟨#[97]⟩, 2, 0, 0, 0, ⟨#[122]⟩⟩
def lvY : Fact := ⟨⟨#[97]⟩, 1, 0, 0, 0, ⟨#[121]⟩⟩
def lvW : Fact := ⟨⟨#[97]⟩, 1, 0, 0, 0, ⟨#[119]⟩⟩
theorem lv1 : uChg [lvX] [lvX] [lvZ, lvY] = [⟨⟨#[97]⟩, 2, 0, ⟨#[122]⟩⟩, ⟨⟨#[97]⟩, 1, 0, ⟨#[121]⟩⟩] ∧ uClash [lvX] [lvX] [lvZ, lvY] = [] := ⟨by kernel_rfl, by kernel_rfl⟩
theorem lv2 : uChg [lvX] [lvW] [lvZ, lvY] = [] ∧ uClash [lvX] [lvW] [lvZ, lvY] = [⟨#[97]⟩] := ⟨by kernel_rfl, by kernel_rfl⟩
def th {α : Type} (a b c : α) : Nat → α
  | 0 => a
  | 1 => b
  | _ => c
theorem th3 {p : Nat → Prop} (h0 : p 0) (h1 : p 1) (h2 : p 2) : ∀ i, i < 3 → p i := fun i hi => by
  rcases three hi with rfl | rfl | rfl
  · exact h0
  · exact h1
  · exact h2
set_option maxRecDepth 100000 in
set_option maxHeartbeats 4000000 in
theorem lives_any (w : World) : Calls Try.prog 8 #[] w fun e w' => e = .returned (.bool true) ∧ Below w.heap.size w w' := by
  go_enter Try.func8, Try.ntmps8
  go_upto_region 3 with fail
  obtain ⟨X, hX⟩ : ∃ X, X = w.heap.size := ⟨_, rfl⟩
  have hw2 : Rd ((w.alloc (.cells #[.string ⟨#[97]⟩, .int .u32 1, .int .u64 0, .int .u64 0, .int .u8 0, .string ⟨#[120]⟩] 42)).alloc (.cells #[.string ⟨#[97]⟩, .int .u32 2, .int .u64 0, .int .u64 0, .int .u8 0, .string ⟨#[122]⟩, .string ⟨#[97]⟩, .int .u32 1, .int .u64 0, .int .u64 0, .int .u8 0, .string ⟨#[121]⟩] 42)) (some ⟨w.heap.size, 0, none⟩) (fCells [lvX]) ∧ Rd ((w.alloc (.cells #[.string ⟨#[97]⟩, .int .u32 1, .int .u64 0, .int .u64 0, .int .u8 0, .string ⟨#[120]⟩] 42)).alloc (.cells #[.string ⟨#[97]⟩, .int .u32 2, .int .u64 0, .int .u64 0, .int .u8 0, .string ⟨#[122]⟩, .string ⟨#[97]⟩, .int .u32 1, .int .u64 0, .int .u64 0, .int .u8 0, .string ⟨#[121]⟩] 42)) (some ⟨w.heap.size + 1, 0, none⟩) (fCells [lvZ, lvY]) ∧ Below w.heap.size w ((w.alloc (.cells #[.string ⟨#[97]⟩, .int .u32 1, .int .u64 0, .int .u64 0, .int .u8 0, .string ⟨#[120]⟩] 42)).alloc (.cells #[.string ⟨#[97]⟩, .int .u32 2, .int .u64 0, .int .u64 0, .int .u8 0, .string ⟨#[122]⟩, .string ⟨#[97]⟩, .int .u32 1, .int .u64 0, .int .u64 0, .int .u8 0, .string ⟨#[121]⟩] 42)) := by
    have h1 : Rd (w.alloc (.cells #[.string ⟨#[97]⟩, .int .u32 1, .int .u64 0, .int .u64 0, .int .u8 0, .string ⟨#[120]⟩] 42)) (some ⟨w.heap.size, 0, none⟩) (fCells [lvX]) := Rd.new w (fCells [lvX]) _
    have h2 := Rd.new (w.alloc (.cells #[.string ⟨#[97]⟩, .int .u32 1, .int .u64 0, .int .u64 0, .int .u8 0, .string ⟨#[120]⟩] 42)) (fCells [lvZ, lvY]) 42
    rw [World.size_alloc] at h2
    exact ⟨h1.alloc _, h2, ((Below.refl _ _).alloc (Nat.le_refl _) _).alloc (by simp) _⟩
  rw [← hX] at hw2 ⊢
  generalize ((w.alloc (.cells #[.string ⟨#[97]⟩, .int .u32 1, .int .u64 0, .int .u64 0, .int .u8 0, .string ⟨#[120]⟩] 42)).alloc (.cells #[.string ⟨#[97]⟩, .int .u32 2, .int .u64 0, .int .u64 0, .int .u8 0, .string ⟨#[122]⟩, .string ⟨#[97]⟩, .int .u32 1, .int .u64 0, .int .u64 0, .int .u8 0, .string ⟨#[121]⟩] 42)) = W2 at hw2 ⊢
  obtain ⟨rx, rz, hb2⟩ := hw2
  have HX := hid hX
  have hs2 := hb2.size
  clear hX
  have hno : ∀ (A B C : List Fact), (∀ f ∈ A ++ B ++ C, f.key.size ≤ maxLen) → ∀ i, i < 3 → ∀ f ∈ th A B C i, f.key.size ≤ maxLen := fun A B C h i hi f hf => by
    rcases three hi with rfl | rfl | rfl <;> exact h f (by simp only [th] at hf; simp [hf])
  have k1 := of_any (th (some ⟨X, 0, none⟩) (some ⟨X, 0, none⟩) (some ⟨X + 1, 0, none⟩)) (th 1 1 2) (th 1 1 2) (th [lvX] [lvX] [lvZ, lvY]) W2 (fun i hi => by rcases three hi with rfl | rfl | rfl <;> rfl) (fun i hi => by rcases three hi with rfl | rfl | rfl <;> simp [th]) (th3 rx rx rz) (hno _ _ _ (fun f hf => by simp at hf; rcases hf with rfl | rfl | rfl | rfl <;> decide))
  simp only [th, lv1.1, lv1.2, List.length_cons, List.length_nil, Nat.zero_add, Nat.reduceAdd] at k1
  have RX := hid rx
  have RZ := hid rz
  have HB2 := hid hb2
  clear rx rz hb2
  go_upto_region 4 with (go_at_call 9; with_reducible refine k1.mono ?_; rintro e W3 ⟨q1, q2, rfl, ra, rb, hb3⟩)
  have RA := hid ra
  have HB3 := hid hb3
  have rw4 : Rd (W3.alloc (.cells #[.string ⟨#[97]⟩, .int .u32 1, .int .u64 0, .int .u64 0, .int .u8 0, .string ⟨#[119]⟩] 42)) (some ⟨W3.heap.size, 0, none⟩) (fCells [lvW]) := Rd.new W3 (fCells [lvW]) _
  have hb4 : Below W3.heap.size W3 (W3.alloc (.cells #[.string ⟨#[97]⟩, .int .u32 1, .int .u64 0, .int .u64 0, .int .u8 0, .string ⟨#[119]⟩] 42)) := (Below.refl _ _).alloc (Nat.le_refl _) _
  have k2 := of_any (th (some ⟨X, 0, none⟩) (some ⟨W3.heap.size, 0, none⟩) (some ⟨X + 1, 0, none⟩)) (th 1 1 2) (th 1 1 2) (th [lvX] [lvW] [lvZ, lvY]) (W3.alloc (.cells #[.string ⟨#[97]⟩, .int .u32 1, .int .u64 0, .int .u64 0, .int .u8 0, .string ⟨#[119]⟩] 42)) (fun i hi => by rcases three hi with rfl | rfl | rfl <;> rfl) (fun i hi => by rcases three hi with rfl | rfl | rfl <;> simp [th]) (th3 ((RX.out.below hb3).below hb4) rw4 ((RZ.out.below hb3).below hb4)) (hno _ _ _ (fun f hf => by simp at hf; rcases hf with rfl | rfl | rfl | rfl <;> decide))
  simp only [th, lv2.1, lv2.2, List.length_cons, List.length_nil, Nat.zero_add] at k2
  have HB4 := hid hb4
  clear ra rb hb3 rw4 hb4 k1
  go_upto_region 5 with (go_at_call 9; with_reducible refine k2.mono ?_; rintro e W5 ⟨q3, q4, rfl, rc, rd, hb5⟩)
  have HB5 := hid hb5
  have RD5 := hid rd
  have hb6 : Below W5.heap.size W5 (W5.alloc (.cells #[.string ⟨#[97]⟩, .int .u32 2, .int .u8 0, .string ⟨#[122]⟩, .string ⟨#[97]⟩, .int .u32 1, .int .u8 0, .string ⟨#[121]⟩] 44)) := (Below.refl _ _).alloc (Nat.le_refl _) _
  have r6 : Rd (W5.alloc (.cells #[.string ⟨#[97]⟩, .int .u32 2, .int .u8 0, .string ⟨#[122]⟩, .string ⟨#[97]⟩, .int .u32 1, .int .u8 0, .string ⟨#[121]⟩] 44)) (some ⟨W5.heap.size, 0, none⟩) (cgCells [⟨⟨#[97]⟩, 2, 0, ⟨#[122]⟩⟩, ⟨⟨#[97]⟩, 1, 0, ⟨#[121]⟩⟩]) := Rd.new W5 (cgCells [⟨⟨#[97]⟩, 2, 0, ⟨#[122]⟩⟩, ⟨⟨#[97]⟩, 1, 0, ⟨#[121]⟩⟩]) _
  have k3 := chgs_same q1 (some ⟨W5.heap.size, 0, none⟩) 2 2 2 [⟨⟨#[97]⟩, 2, 0, ⟨#[122]⟩⟩, ⟨⟨#[97]⟩, 1, 0, ⟨#[121]⟩⟩] (W5.alloc (.cells #[.string ⟨#[97]⟩, .int .u32 2, .int .u8 0, .string ⟨#[122]⟩, .string ⟨#[97]⟩, .int .u32 1, .int .u8 0, .string ⟨#[121]⟩] 44)) rfl (by omega) (((RA.out.below HB4.out).below HB5.out).below hb6) r6
  have HB6 := hid hb6
  have k4 : ∀ W7, Below (W5.alloc (.cells #[.string ⟨#[97]⟩, .int .u32 2, .int .u8 0, .string ⟨#[122]⟩, .string ⟨#[97]⟩, .int .u32 1, .int .u8 0, .string ⟨#[121]⟩] 44)).heap.size (W5.alloc (.cells #[.string ⟨#[97]⟩, .int .u32 2, .int .u8 0, .string ⟨#[122]⟩, .string ⟨#[97]⟩, .int .u32 1, .int .u8 0, .string ⟨#[121]⟩] 44)) W7 → Calls Try.prog 12 #[.slice q4 1 1, .slice (some ⟨W7.heap.size, 0, none⟩) 1 1] (W7.alloc (.cells #[.string ⟨#[97]⟩] 9)) fun e w' => e = .returned (.bool true) ∧ Below (W7.alloc (.cells #[.string ⟨#[97]⟩] 9)).heap.size (W7.alloc (.cells #[.string ⟨#[97]⟩] 9)) w' := fun W7 hb7 => texts_same q4 (some ⟨W7.heap.size, 0, none⟩) 1 1 1 [⟨#[97]⟩] (W7.alloc (.cells #[.string ⟨#[97]⟩] 9)) rfl (by omega) (((RD5.out.below HB6.out).below hb7).alloc _) (Rd.new W7 (strs [⟨#[97]⟩]) _)
  clear rc rd hb5 r6 hb6 k2
  go_wp2_with (first
    | (go_at_call 11; with_reducible refine k3.mono ?_; rintro e W7 ⟨rfl, hb7⟩; have HB7 := hid hb7; clear hb7)
    | (go_at_call 12; with_reducible refine (k4 W7 HB7.out).mono ?_; rintro e W8 ⟨rfl, hb8⟩; have HB8 := hid hb8; clear hb8))
  go_ret
  refine ⟨rfl, ?_⟩
  have e2 := HB2.out.size
  have e3 := HB3.out.size
  have e5 := HB5.out.size
  have e7 := HB7.out.size
  have e8 := HB8.out.size
  simp only [World.size_alloc] at e5 e7 e8
  have h1 := (HB2.out.trans (HB3.out.mono (by rw [HX.out] at *; omega))).alloc (by rw [HX.out] at *; omega) (.cells #[.string ⟨#[97]⟩, .int .u32 1, .int .u64 0, .int .u64 0, .int .u8 0, .string ⟨#[119]⟩] 42)
  have h2 := (h1.trans (HB5.out.mono (by rw [HX.out] at *; simp; omega))).alloc (by rw [HX.out] at *; omega) (.cells #[.string ⟨#[97]⟩, .int .u32 2, .int .u8 0, .string ⟨#[122]⟩, .string ⟨#[97]⟩, .int .u32 1, .int .u8 0, .string ⟨#[121]⟩] 44)
  have h3 := (h2.trans (HB7.out.mono (by rw [HX.out] at *; simp; omega))).alloc (by rw [HX.out] at *; omega) (.cells #[.string ⟨#[97]⟩] 9)
  have h4 := h3.trans (HB8.out.mono (by rw [HX.out] at *; simp; omega))
  rw [HX.out] at h4
  exact h4
end Go.Proofs.Herb
