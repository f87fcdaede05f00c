/- The contract of the iterator of tables.chunks. For items that can be read. The order of facts is that of their keys' bytes: plain. The contracts of sums.Of, sums.More and sums.made: CRC-32C of a slice of bytes. For slices that can be read. -/
import Derived.Shelf.Abstract
import Derived.Shelf.RegionOpen
import Derived.OwnWalkIn
import Derived.TacticsInMore
import Derived.LoopNIn
import Derived.LoopIn
import Derived.IntWalk
import Derived.WalkLawsBesides
import Derived.WalkSpells
import Derived.Outline
import Derived.Deep.LoopGhost
import Derived.Deep.QuietTactic
import Derived.Deep.DeepCutAuto
import Derived.BigQuiet
import Derived.Test.YtbeaehhdglhihaaGreatDoorProg
import Derived.Test.YtbeaehhdglhihaaGreatDoorQd01
import Derived.Test.YtbeaehhdglhihaaGreatDoorQd04
namespace Go.Proofs.Herb
open Go.RowKit
attribute [local go_sem] Oper.semAt_some
def szAt (l : List Item) (i : Nat) : Nat := ((l[i]?).map fun x => x.key.size + x.val.size).getD 0
theorem szAt_get {l : List Item} {i : Nat} (h : i < l.length) : szAt l i = l[i].key.size + l[i].val.size := by unfold szAt; rw [List.getElem?_eq_getElem h]; rfl
/-- where chunks begin and end -/
def chF (sz : Nat → Nat) (n : Nat) : Nat → Nat → Nat → Nat → List (Nat × Nat)
  | 0, _, _, _ => []
  | f + 1, k, from_, many => if k < n then (if many + sz k < 512 ∧ k + 1 < n then chF sz n f (k + 1) from_ (many + sz k) else (from_, k + 1) :: chF sz n f (k + 1) (k + 1) 0) else []
def chunksOf (l : List Item) : List (Nat × Nat) := chF (szAt l) l.length l.length 0 0 0
theorem chunks_any (v : Value) (w : World) (hv : ∃ q n c, v = .slice q n c) :
    Calls Tryz.prog 128 #[v] w fun e w' => e = .returned (.func (.func 162) #[] #[.pointer (some ⟨w.heap.size, 0, none⟩)]) ∧ w' = w.alloc (.cells #[v] 136) := by
  obtain ⟨q, n, c, rfl⟩ := hv
  go_enter Tryz.func128, Tryz.ntmps128
  go_wp2
  go_ret
  exact ⟨rfl, rfl⟩
theorem rd_keep {A B : World} {b off : Nat} {xs : List Value} (h : Rd A (some ⟨b, off, none⟩) xs) (hk : KeepB b A B) : Rd B (some ⟨b, off, none⟩) xs := by
  rcases h with rfl | ⟨b', off', e, hc⟩
  · exact .inl rfl
  · cases e
    refine .inr ⟨_, _, rfl, fun j u hu => ?_⟩
    have h1 := hc j u hu
    have hl := World.block_lt_of_cell? A _ h1
    have h2 : B.heap[b]? = A.heap[b]? := by rw [Array.getElem?_eq_getElem hl]; exact hk _ (Array.getElem?_eq_getElem hl)
    exact (World.cell?_of_block (a := ⟨b, off + j, none⟩) h2).trans h1
/-- a chunk is one of these, behind those that have come -/
def ChGood (l : List Item) (pre : List (Nat × Nat)) (x : Nat × Nat) : Prop := x.1 < x.2 ∧ x.2 ≤ l.length ∧ ∃ rest, chunksOf l = pre ++ x :: rest
set_option maxRecDepth 100000 in
set_option maxHeartbeats 2000000 in
theorem chunks1_in (nn Bn b off c base n : Nat) (hnn : 1 ≤ nn) (l : List Item) (hn : l.length = n) (hm : n ≤ 100000) (hc : n ≤ c) (_hcm : c ≤ maxLen) (hks : ∀ x ∈ l, x.key.size + x.val.size ≤ 100000) :
    SeqGood Fence.wide nn Tryz.prog 162 #[.pointer (some ⟨Bn, 0, none⟩)] (fun x : Nat × Nat => #[.slice (some ⟨b, off + x.1 * 2, none⟩) (x.2 - x.1) (x.2 - x.1)]) (Only (fun _ => False)) (fun pre x _ => ChGood l pre x)
      (fun A B => KeepB Bn A B ∧ KeepB b A B) (fun xs => xs = chunksOf l) base (fun W => Boxed W Bn 136 (.slice (some ⟨b, off, none⟩) n c) ∧ Rd W (some ⟨b, off, none⟩) (iCells l)) := by
  intro lp J Jx W hb hOk hJ hJx hY h0
  have HY := hid hY
  have HJ := hid hJ
  have HOk := hid hOk
  have Hn := hid hn
  have Hks := hid hks
  unfold maxLen at _hcm
  clear hY hJ hJx hOk hb hn hks
  refine callsIn_of_wp Tryz.func162 rfl trivial ?_ rfl
  simp only [Tryz.ntmps162, List.size_toArray, List.length_cons, List.length_nil, Nat.reduceAdd, Nat.reduceSub, Array.replicate_succ, Array.replicate_zero, List.push_toArray, List.append_toArray, List.nil_append, List.cons_append]
  have cW := HOk.out.1.cell
  gi_wp2
  clear cW
  gi_loopw [3, 4, 9] (fun v3 v4 v9 wr => ∃ (f k from_ many : Nat) (pre : List (Nat × Nat)), v3 = .int .i64 (from_ : Int) ∧ v4 = .int .i64 (many : Int) ∧ v9 = .int .i64 (k : Int) ∧ k + f = n ∧ from_ ≤ k ∧ many ≤ 512 ∧ chunksOf l = pre ++ chF (szAt l) l.length f k from_ many ∧ J pre wr ∧
      Boxed wr Bn 136 (.slice (some ⟨b, off, none⟩) n c) ∧ Rd wr (some ⟨b, off, none⟩) (iCells l)) (fun _ _ v9 _ => n - (intOf v9).toNat)
  case atStart => exact ⟨n, 0, 0, 0, [], rfl, rfl, rfl, by omega, Nat.le_refl _, by omega, by unfold chunksOf; rw [Hn.out]; rfl, h0, HOk.out.1, HOk.out.2⟩
  case round =>
    obtain ⟨f, k, from_, many, pre, rfl, rfl, rfl, hkf, hfk, hmany, hch, hJp, hbox, hrd⟩ := hrel
    have Hch := hid hch
    have HJp := hid hJp
    have Hbox := hid hbox
    have Hrd := hid hrd
    have cB := hbox.cell
    clear hch hJp hbox hrd
    by_cases hlt : k < n
    · have hkl : k < l.length := by rw [Hn.out]; exact hlt
      obtain ⟨f, rfl⟩ : ∃ f', f = f' + 1 := ⟨f - 1, by omega⟩
      obtain ⟨b', off', e, hbq, c0, c1⟩ := item_at Hrd.out hkl
      cases e
      have hsz := Hks.out _ (List.getElem_mem hkl)
      have hszk := szAt_get hkl
      obtain ⟨key, hkey⟩ : ∃ x, x = l[k].key := ⟨_, rfl⟩
      obtain ⟨val, hval⟩ : ∃ x, x = l[k].val := ⟨_, rfl⟩
      rw [← hkey] at c0
      rw [← hval] at c1
      rw [← hkey, ← hval] at hsz hszk
      have i0 : (0 : Int) ≤ (k : Int) := by omega
      have i1 : (k : Int) < (n : Int) := by omega
      have Hszk := hid hszk
      clear hkey hval hszk
      have cB2 : (wr.alloc (.cells #[.string key, .string val] 141)).cell? ⟨Bn, 0, none⟩ = some (.slice (some ⟨b, off, none⟩) n c) := (Hbox.out.alloc _).cell
      have hBa : Below wr.heap.size wr (wr.alloc (.cells #[.string key, .string val] 141)) := (Below.refl _ _).alloc (Nat.le_refl _) _
      have HJa := hid (HJ.out _ _ _ HJp.out (Only.of_below hBa))
      have Hboxa := hid (Hbox.out.alloc (.cells #[.string key, .string val] 141))
      have Hrda := hid (Hrd.out.below hBa)
      clear hBa
      by_cases h5 : many + (key.size + val.size) < 512 ∧ k + 1 < n
      · have d1 : decide ((many : Int) + ((key.size : Int) + (val.size : Int)) < 512) = true := by simp; omega
        have d2 : decide ((k : Int) + 1 < (n : Int)) = true := by simp; omega
        have hst : chF (szAt l) l.length (f + 1) k from_ many = chF (szAt l) l.length f (k + 1) from_ (many + (key.size + val.size)) := by
          rw [chF, if_pos hkl, Hszk.out, if_pos ⟨h5.1, by rw [Hn.out]; exact h5.2⟩]
        have HST := hid hst
        have H5 := hid h5
        clear hst h5
        gi_wp2
        go_roundw
        case rel => exact ⟨f, k + 1, from_, many + (key.size + val.size), pre, rfl, by go_num, by go_num, by omega, by omega, by have := H5.out.1; omega, by rw [Hch.out, HST.out], HJa.out, Hboxa.out, Hrda.out⟩
        case measure => simp [intOf]; omega
      · have hst : chF (szAt l) l.length (f + 1) k from_ many = (from_, k + 1) :: chF (szAt l) l.length f (k + 1) (k + 1) 0 := by
          rw [chF, if_pos hkl, Hszk.out, if_neg (fun h => h5 ⟨h.1, by have := h.2; rw [Hn.out] at this; exact this⟩)]
        have hgood : ChGood l pre (from_, k + 1) := ⟨by show from_ < k + 1; omega, by show k + 1 ≤ _; omega, _, by rw [Hch.out, hst]⟩
        have HST := hid hst
        obtain ⟨fn, tmps, assign, body, hy, hR⟩ := HY.out pre (from_, k + 1) _ HJa.out hgood
        dsimp only at hy
        have HR := hid hR
        clear hst hgood hR
        by_cases h6 : many + (key.size + val.size) < 512
        · have d1 : decide ((many : Int) + ((key.size : Int) + (val.size : Int)) < 512) = true := by simp; omega
          have d2 : decide ((k : Int) + 1 < (n : Int)) = false := by simp; omega
          clear h5 h6
          gi_wp2
          refine HR.out.mono ?_
          rintro e W2 (⟨rfl, hJ2, hk1, hk2⟩ | ⟨rfl, hJ2⟩)
          · have hbox2 : Boxed W2 Bn 136 (.slice (some ⟨b, off, none⟩) n c) := hk1 _ Hboxa.out
            have hrd2 : Rd W2 (some ⟨b, off, none⟩) (iCells l) := rd_keep Hrda.out hk2
            have HJ2 := hid hJ2
            have Hbox2 := hid hbox2
            have Hrd2 := hid hrd2
            clear hJ2 hk1 hk2 hbox2 hrd2 hy HR
            gi_wp2
            go_roundw
            case rel => exact ⟨f, k + 1, k + 1, 0, pre ++ [(from_, k + 1)], by go_num, rfl, by go_num, by omega, by omega, by omega, by rw [Hch.out, HST.out]; simp, HJ2.out, Hbox2.out, Hrd2.out⟩
            case measure => simp [intOf]; omega
          · have HJ2 := hid hJ2
            clear hJ2 hy HR
            gi_wp2
            refine bodyPost_ret (results_none rfl _ _ _) rfl ?_
            exact ⟨⟨_, rfl⟩, .inr ⟨_, HJ2.out⟩⟩
        · have d1 : decide ((many : Int) + ((key.size : Int) + (val.size : Int)) < 512) = false := by simp; omega
          clear h5 h6
          gi_wp2
          refine HR.out.mono ?_
          rintro e W2 (⟨rfl, hJ2, hk1, hk2⟩ | ⟨rfl, hJ2⟩)
          · have hbox2 : Boxed W2 Bn 136 (.slice (some ⟨b, off, none⟩) n c) := hk1 _ Hboxa.out
            have hrd2 : Rd W2 (some ⟨b, off, none⟩) (iCells l) := rd_keep Hrda.out hk2
            have HJ2 := hid hJ2
            have Hbox2 := hid hbox2
            have Hrd2 := hid hrd2
            clear hJ2 hk1 hk2 hbox2 hrd2 hy HR
            gi_wp2
            go_roundw
            case rel => exact ⟨f, k + 1, k + 1, 0, pre ++ [(from_, k + 1)], by go_num, rfl, by go_num, by omega, by omega, by omega, by rw [Hch.out, HST.out]; simp, HJ2.out, Hbox2.out, Hrd2.out⟩
            case measure => simp [intOf]; omega
          · have HJ2 := hid hJ2
            clear hJ2 hy HR
            gi_wp2
            refine bodyPost_ret (results_none rfl _ _ _) rfl ?_
            exact ⟨⟨_, rfl⟩, .inr ⟨_, HJ2.out⟩⟩
    · obtain rfl : k = n := by omega
      obtain rfl : f = 0 := by omega
      gi_wp2
      refine ⟨rfl, _, results_none rfl _ _ _, ?_⟩
      exact ⟨⟨_, rfl⟩, .inl ⟨pre, by rw [Hch.out, chF, List.append_nil], HJp.out⟩⟩
end Go.Proofs.Herb
namespace Go.Proofs.Herb
open Go.RowKit
abbrev bL := Op.bytesLess
theorem bl_cons (x y : UInt8) (a b : List UInt8) : bL (x :: a) (y :: b) = true ↔ x < y ∨ (x = y ∧ bL a b = true) := by
  show (decide (x < y) || (x == y && Op.bytesLess a b)) = true ↔ _
  simp
theorem bl_irrefl : ∀ a : List UInt8, bL a a = false
  | [] => rfl
  | x :: a => by
    have h := bl_irrefl a
    rw [Bool.eq_false_iff]
    intro e
    rcases (bl_cons x x a a).1 e with h1 | ⟨_, h1⟩
    · exact absurd h1 (UInt8.lt_irrefl x)
    · rw [h] at h1; cases h1
theorem bl_trans : ∀ {a b c : List UInt8}, bL a b = true → bL b c = true → bL a c = true
  | _, [], _, h, _ => by simp [bL, Op.bytesLess] at h
  | _, _ :: _, [], _, h => by simp [bL, Op.bytesLess] at h
  | [], _ :: _, _ :: _, _, _ => rfl
  | x :: a, y :: b, z :: c, h1, h2 => by
    rw [bl_cons] at *
    rcases h1 with h1 | ⟨rfl, h1⟩
    · rcases h2 with h2 | ⟨rfl, _⟩
      · exact .inl (UInt8.lt_trans h1 h2)
      · exact .inl h1
    · rcases h2 with h2 | ⟨rfl, h2⟩
      · exact .inl h2
      · exact .inr ⟨rfl, bl_trans h1 h2⟩
theorem bl_total : ∀ {a b : List UInt8}, bL a b = false → a ≠ b → bL b a = true
  | [], [], _, h => absurd rfl h
  | [], _ :: _, h, _ => by simp [bL, Op.bytesLess] at h
  | _ :: _, [], _, _ => rfl
  | x :: a, y :: b, h, hne => by
    rw [bl_cons]
    have h1 : ¬ (x < y ∨ (x = y ∧ bL a b = true)) := fun e => by rw [(bl_cons x y a b).2 e] at h; cases h
    by_cases e : x = y
    · subst e
      refine .inr ⟨rfl, bl_total ?_ (fun e => hne (by rw [e]))⟩
      rw [Bool.eq_false_iff]; exact fun e => h1 (.inr ⟨rfl, e⟩)
    · left
      have h2 : ¬ x < y := fun e => h1 (.inl e)
      rcases UInt8.lt_or_lt_of_ne e with h3 | h3
      · exact absurd h3 h2
      · exact h3
theorem bl_asymm {a b : List UInt8} (h : bL a b = true) : bL b a = false := by
  rw [Bool.eq_false_iff]
  intro e
  have := bl_trans h e
  rw [bl_irrefl] at this
  cases this
theorem bl_prefix : ∀ (p a b : List UInt8), bL (p ++ a) (p ++ b) = bL a b
  | [], _, _ => rfl
  | x :: p, a, b => by
    rw [Bool.eq_iff_iff, List.cons_append, List.cons_append, bl_cons, bl_prefix p a b]
    constructor
    · rintro (h | ⟨_, h⟩)
      · exact absurd h (UInt8.lt_irrefl x)
      · exact h
    · exact fun h => .inr ⟨rfl, h⟩
/-- of lists of one length the beginnings decide -/
theorem bl_append : ∀ {p q : List UInt8} (a b : List UInt8), p.length = q.length → bL p q = true → bL (p ++ a) (q ++ b) = true
  | _, [], _, _, _, h => by simp [bL, Op.bytesLess] at h
  | [], _ :: _, _, _, h, _ => by cases h
  | x :: p, y :: q, a, b, hl, h => by
    rw [List.cons_append, List.cons_append, bl_cons]
    rcases (bl_cons x y p q).1 h with h | ⟨h1, h2⟩
    · exact .inl h
    · exact .inr ⟨h1, bl_append a b (by simpa using hl) h2⟩
theorem leS_of (a b : ByteArray) : leS a b = false ↔ bL b.data.toList a.data.toList = true := by
  unfold leS
  rw [ByteArray.toList_eq, ByteArray.toList_eq, Bool.or_eq_false_iff]
  constructor
  · rintro ⟨h1, h2⟩
    exact bl_total h1 (fun e => by rw [e] at h2; simp at h2)
  · intro h
    refine ⟨bl_asymm h, ?_⟩
    rw [beq_eq_false_iff_ne]
    intro e
    rw [e, show bL b.data.toList b.data.toList = false from bl_irrefl _] at h
    cases h
/-! a key's bytes with its end -/
theorem esc_cons (x : UInt8) (l : List UInt8) : esc (x :: l) = (if x = 0 then [0, 1] else [x]) ++ esc l := by simp [esc]
theorem esc_lt : ∀ (a b s t : List UInt8), bL a b = true → bL (esc a ++ [0, 0] ++ s) (esc b ++ [0, 0] ++ t) = true
  | _, [], _, _, h => by simp [bL, Op.bytesLess] at h
  | [], y :: b, s, t, _ => by
    rw [esc_cons]
    show bL (0 :: 0 :: s) _ = true
    by_cases e : y = 0
    · rw [if_pos e]
      show bL (0 :: 0 :: s) (0 :: 1 :: (esc b ++ [0, 0] ++ t)) = true
      rw [bl_cons, bl_cons]
      exact .inr ⟨rfl, .inl (by decide)⟩
    · rw [if_neg e]
      show bL (0 :: 0 :: s) (y :: (esc b ++ [0, 0] ++ t)) = true
      rw [bl_cons]
      exact .inl (UInt8.pos_iff_ne_zero.2 e)
  | x :: a, y :: b, s, t, h => by
    rw [esc_cons, esc_cons]
    rcases (bl_cons x y a b).1 h with h | ⟨rfl, h'⟩
    · have hy : y ≠ 0 := fun e => by subst e; exact absurd h (UInt8.not_lt_zero)
      rw [if_neg hy]
      by_cases e : x = 0
      · rw [if_pos e]
        show bL (0 :: 1 :: (esc a ++ [0, 0] ++ s)) (y :: (esc b ++ [0, 0] ++ t)) = true
        rw [bl_cons]
        exact .inl (UInt8.pos_iff_ne_zero.2 hy)
      · rw [if_neg e]
        show bL (x :: (esc a ++ [0, 0] ++ s)) (y :: (esc b ++ [0, 0] ++ t)) = true
        rw [bl_cons]
        exact .inl h
    · simp only [List.append_assoc]
      rw [bl_prefix]
      have := esc_lt a b s t h'
      simpa only [List.append_assoc] using this
/-! falling numbers -/
def beF (n many : Nat) : List UInt8 := (List.range many).map (fallB n many)
theorem beF_succ (n m : Nat) : beF n (m + 1) = UInt8.ofNat (255 - n / 2 ^ (8 * m) % 256) :: beF n m := by
  unfold beF
  rw [List.range_succ_eq_map, List.map_cons, List.map_map]
  congr 1
  apply List.map_congr_left
  intro i hi
  unfold fallB
  simp only [Function.comp]
  rw [show m + 1 - 1 - (i + 1) = m - 1 - i by omega]
theorem beF_len (n m : Nat) : (beF n m).length = m := by simp [beF]
theorem beF_lt : ∀ (m n k : Nat), k % 2 ^ (8 * m) < n % 2 ^ (8 * m) → bL (beF n m) (beF k m) = true
  | 0, n, k, h => by simp [Nat.mod_one] at h
  | m + 1, n, k, h => by
    have hp : (2 : Nat) ^ (8 * (m + 1)) = 2 ^ (8 * m) * 256 := by rw [show 8 * (m + 1) = 8 * m + 8 by omega, Nat.pow_add]
    have hpos : 0 < 2 ^ (8 * m) := Nat.pow_pos (by decide)
    rw [hp, Nat.mod_mul, Nat.mod_mul] at h
    rw [beF_succ, beF_succ, bl_cons]
    have hn := Nat.mod_lt (n / 2 ^ (8 * m)) (show 0 < 256 by decide)
    have hk := Nat.mod_lt (k / 2 ^ (8 * m)) (show 0 < 256 by decide)
    have hn1 := Nat.mod_lt n hpos
    have hk1 := Nat.mod_lt k hpos
    obtain ⟨P, hP⟩ : ∃ P, P = 2 ^ (8 * m) := ⟨_, rfl⟩
    obtain ⟨A, hA⟩ : ∃ A, A = n / 2 ^ (8 * m) % 256 := ⟨_, rfl⟩
    obtain ⟨C, hC⟩ : ∃ A, A = k / 2 ^ (8 * m) % 256 := ⟨_, rfl⟩
    rw [← hA] at hn h ⊢
    rw [← hC] at hk h ⊢
    rcases Nat.lt_trichotomy C A with h1 | h1 | h1
    · left
      rw [UInt8.lt_iff_toNat_lt]
      simp
      omega
    · subst h1
      exact .inr ⟨rfl, beF_lt m n k (by omega)⟩
    · exfalso
      have h2 : 2 ^ (8 * m) * (A + 1) ≤ 2 ^ (8 * m) * C := Nat.mul_le_mul_left _ h1
      rw [Nat.mul_add, Nat.mul_one] at h2
      omega
theorem tailB_be (v s k : Nat) : tailB v s k = beF v 4 ++ (beF s 8 ++ [UInt8.ofNat k]) := by unfold tailB beF; rw [List.append_assoc]
theorem cmpN_neg {a b : Nat} : cmpN a b < 0 ↔ a < b := by unfold cmpN; (repeat' split) <;> omega
theorem cmpN_zero {a b : Nat} : cmpN a b = 0 ↔ a = b := by unfold cmpN; (repeat' split) <;> omega
theorem cmpS_neg {a b : ByteArray} : cmpS a b < 0 ↔ bL a.data.toList b.data.toList = true := by
  unfold cmpS sLt
  rw [ByteArray.toList_eq, ByteArray.toList_eq]
  show (if bL _ _ = true then (-1 : Int) else _) < 0 ↔ _
  split
  · simp [*]
  · rename_i h
    constructor
    · intro h2; split at h2 <;> omega
    · intro h2; exact absurd h2 h
theorem cmpS_zero {a b : ByteArray} : cmpS a b = 0 ↔ a = b := by
  unfold cmpS sLt
  rw [ByteArray.toList_eq, ByteArray.toList_eq]
  split
  · rename_i h
    constructor
    · intro h2; omega
    · rintro rfl; rw [show Op.bytesLess a.data.toList a.data.toList = false from bl_irrefl _] at h; cases h
  · split
    · rename_i h
      have := eq_of_beq h
      exact ⟨fun _ => by
        cases a; cases b
        simp only [ByteArray.mk.injEq]
        exact Array.toList_inj.1 this, fun _ => rfl⟩
    · rename_i h
      constructor
      · intro h2; omega
      · rintro rfl; simp at h
theorem orZ_cons (x : Int) (l : List Int) : orZ (x :: l) = if x = 0 then orZ l else x := rfl
theorem kput_lt {f g : Fact} (of : f.Ok) (og : g.Ok) (hf : mayF f = true) (hg : mayF g = true) (h : cmpF f g < 0) : bL (kput f) (kput g) = true := by
  unfold cmpF at h
  unfold kput
  rw [orZ_cons] at h
  split at h
  · rename_i h0
    rw [cmpS_zero.1 h0, bl_prefix, tailB_be, tailB_be]
    obtain ⟨_, h32, h64, _⟩ := of
    obtain ⟨_, g32, g64, _⟩ := og
    rw [orZ_cons] at h
    split at h
    · rename_i h1
      rw [cmpN_zero.1 h1, bl_prefix]
      rw [orZ_cons] at h
      split at h
      · rename_i h2
        rw [cmpN_zero.1 h2, bl_prefix]
        rw [orZ_cons] at h
        split at h
        · exact absurd h (by simp [orZ])
        · have h3 := cmpN_neg.1 h
          unfold mayF at hf hg
          have k1 := (of_decide_eq_true hf).2.2.2
          have k2 := (of_decide_eq_true hg).2.2.2
          rw [bl_cons, UInt8.lt_iff_toNat_lt]
          left
          simp
          omega
      · have h3 := cmpN_neg.1 h
        refine bl_append _ _ (by rw [beF_len, beF_len]) (beF_lt 8 _ _ ?_)
        rw [Nat.mod_eq_of_lt (by omega), Nat.mod_eq_of_lt (by omega)]
        exact h3
    · have h3 := cmpN_neg.1 h
      refine bl_append _ _ (by rw [beF_len, beF_len]) (beF_lt 4 _ _ ?_)
      rw [Nat.mod_eq_of_lt (by omega), Nat.mod_eq_of_lt (by omega)]
      exact h3
  · exact esc_lt _ _ _ _ (cmpS_neg.1 h)
end Go.Proofs.Herb
namespace Go.Proofs.Herb
open Go.RowKit
theorem info262 : (Tryz.prog.info? 255).map (·.size) = some 256 := by kernel_rfl
theorem size_zero262 : Tryz.zeroCells255.size = 256 := by kernel_rfl
set_option maxRecDepth 100000 in
set_option maxHeartbeats 400000 in
theorem made_any (w : World) :
    Calls Tryz.prog 204 #[] w fun e w' => e = .returned (.agg crcTable) ∧ Below w.heap.size w w' := by
  go_enter Tryz.func204, Tryz.ntmps204
  go_wp2
  go_loopw [1, 2, 3, 8] (fun _ _ i _ wr => ∃ k : Nat, k ≤ 256 ∧ i = .int .i64 k ∧ ∃ cur, wr.heap[w.heap.size]? = some (.cells cur 255 (0, 0)) ∧ cur.size = 256 ∧ (∀ j, j < k → cur[j]? = some (crcTab j)) ∧ Below w.heap.size w wr)
    (fun _ _ i _ _ => 256 - (intOf i).toNat)
  case atStart => exact ⟨0, by omega, rfl, _, heap_alloc_new _ _, size_zero262, fun j hj => by omega, (Below.refl _ _).alloc (Nat.le_refl _) _⟩
  case round =>
    obtain ⟨k, hk, rfl, cur, hc, hs, ht, hb⟩ := hrel
    by_cases hlt : k < 256
    · have hcell : wr.cell? ⟨w.heap.size, k, none⟩ = some cur[k] := by rw [cell_of_row _ _ _ _ _ _ hc]; simp
      have hfr : wr.frozen? ⟨w.heap.size, k, none⟩ = false := frozen_of_row _ _ _ _ _ hc
      go_wp2
      go_loop [2, 8] (fun x i => ∃ j : Nat, j ≤ 8 ∧ i = .int .i64 j ∧ x = .int .u32 ((crcBits j (BitVec.ofNat 32 k)).toNat : Int))
         (fun _ i => 8 - (intOf i).toNat)
      case atStart => exact ⟨0, by omega, rfl, by simp [crcBits]; omega⟩
      case round => 
        obtain ⟨j, hj, rfl, rfl⟩ := hrel
        have e := crcBits_snoc j (BitVec.ofNat 32 k)
        have E := hid e
        clear e
        by_cases hjl : j < 8
        · go_wp2
          go_round
          case rel => exact ⟨j + 1, by omega, by go_num, by rw [E.out, ← crcBit_form]⟩
          case measure => simp [intOf]; omega
        · go_wp2
          obtain rfl : j = 8 := by omega
          clear hcell hfr E
          go_roundw
          case rel => 
            refine ⟨k + 1, by omega, by go_num, _, heap_setCell_same _ _ _ _ _ _ hc, by simp [hs], ?_, hb.setCell (Nat.le_refl _) _⟩
            intro i hi
            by_cases hik : i = k
            · subst hik; simp [hs, hlt, crcTab]
            · rw [Array.getElem?_setIfInBounds_ne (by omega)]; exact ht i (by omega)
          case measure => simp [intOf]; omega
    · obtain rfl : k = 256 := by omega
      obtain rfl := crcTable_of hs ht
      go_wp2_with (first | (refine wpList_load_row rfl 255 _ rfl _ rfl _ _ _ _ hc Tryz.underlying255 rfl (by rw [hs]; exact info262) ?_) | (refine wpList_store_block rfl 255 _ _ rfl _ _ _ _ rfl rfl hc hs (by rw [hs]; exact info262) crcTable_one ?_; rw [setRow_self _ _ _ _ _ hc]))
      exact bodyPost_ret (results_cell_row rfl _ _ _ _ _ _ _ rfl hc Tryz.underlying255 rfl (by rw [hs]; exact info262)) rfl ⟨rfl, hb⟩
set_option maxRecDepth 100000 in
set_option maxHeartbeats 400000 in
theorem more_any (s : BitVec 32) (a : Option Addr) (n c : Nat) (l : List UInt8) (w : World) (hn : l.length = n) (hm : n ≤ 4611686018427387904) (hr : Rd w a (l.map bv)) :
    Calls Tryz.prog 170 #[.int .u32 (s.toNat : Int), .slice a n c] w fun e w' => e = .returned (.int .u32 ((crcMore s l).toNat : Int)) ∧ Below w.heap.size w w' := by
  have hs := s.isLt
  have Hn := hid hn
  have Hr := hid hr
  clear hn hr
  go_enter Tryz.func170, Tryz.ntmps170
  go_wp2_with (first | (go_at_call 204; refine (made_any _).mono ?_; rintro e w1 ⟨rfl, hb1⟩; have hz := hb1.size; have hb1 := hid hb1) | (refine wpList_store_block rfl 255 _ _ rfl _ _ _ _ rfl rfl (heap_alloc_new _ _) (by rw [size_zero262, crcTable_size]) (by rw [crcTable_size]; exact info262) crcTable_one ?_))
  obtain ⟨w2, hw2⟩ : ∃ w2, (w1.alloc (.cells Tryz.zeroCells255 255)).setRow w1.heap.size crcTable = w2 := ⟨_, rfl⟩
  have hT : w2.heap[w1.heap.size]? = some (.cells crcTable 255 (0, 0)) := by rw [← hw2]; exact setRow_heap _ _ _ _ _ _ (heap_alloc_new _ _)
  have hB : Below w.heap.size w w2 := by rw [← hw2]; exact below_setRow (hb1.out.alloc hz _) hz _
  rw [hw2, crc_not_form]
  clear hb1 hw2
  have HB := hid hB
  have Hr2 := hid (Hr.out.below hB)
  have HT := hid hT
  clear hB hT Hr
  go_loop [6, 8, 14] (fun x _ i => ∃ k : Nat, k ≤ n ∧ i = .int .i64 k ∧ x = .int .u32 ((crcFold (~~~ s) (l.take k)).toNat : Int))
    (fun _ _ i => n - (intOf i).toNat)
  case atStart => exact ⟨0, by omega, rfl, rfl⟩
  case round =>
    obtain ⟨k, hk, rfl, rfl⟩ := hrel
    by_cases hlt : k < n
    · obtain ⟨b, off, rfl, hc⟩ := Hr2.out.cell (k := k) (by simp; have := Hn.out; omega)
      rw [List.getElem_map] at hc
      obtain ⟨q, hq⟩ : ∃ q, q = l[k]'(by have := Hn.out; omega) := ⟨_, rfl⟩
      rw [← hq] at hc
      unfold bv at hc
      have Hq := hid hq
      clear hq
      generalize hX : crcFold (~~~ s) (l.take k) = X
      have HX := hid hX
      clear hX
      have hidx := crc_idx_form X q
      have hTl := (X.setWidth 8 ^^^ q.toBitVec).isLt
      generalize hTe : (X.setWidth 8 ^^^ q.toBitVec).toNat = T at hidx hTl
      have HTe := hid hTe
      clear hTe
      have hTl : T < 256 := hTl
      have htc : w2.cell? ⟨w1.heap.size, T, none⟩ = some (.int .u32 ((crcBits 8 (BitVec.ofNat 32 T)).toNat : Int)) := by rw [cell_of_row _ _ _ _ _ _ HT.out]; exact crcTable_cell hTl
      have hbf := crc_byte_form X q T HTe.out.symm
      go_wp2
      go_round
      case rel =>
        refine ⟨k + 1, by omega, by go_num, ?_⟩
        rw [List.take_succ_eq_append_getElem (by have := Hn.out; omega), crcFold_snoc, HX.out, ← Hq.out]
      case measure => simp [intOf]; omega
    · go_wp2
      obtain rfl : k = n := by omega
      rw [crc_not_form]
      go_ret
      refine ⟨?_, HB.out⟩
      rw [List.take_of_length_le (by have := Hn.out; omega)]; rfl
set_option maxHeartbeats 400000 in
theorem of_any (a : Option Addr) (n c : Nat) (l : List UInt8) (w : World) (hn : l.length = n) (hm : n ≤ 4611686018427387904) (hr : Rd w a (l.map bv)) :
    Calls Tryz.prog 136 #[.slice a n c] w fun e w' => e = .returned (.int .u32 ((crcMore 0 l).toNat : Int)) ∧ Below w.heap.size w w' := by
  have Hn := hid hn
  clear hn
  go_enter Tryz.func136, Tryz.ntmps136
  go_wp2_with (go_at_call 170; refine (more_any 0 a n c l _ Hn.out hm hr).mono ?_; rintro e w1 ⟨rfl, hb1⟩)
  go_ret
  exact ⟨rfl, hb1⟩
end Go.Proofs.Herb
