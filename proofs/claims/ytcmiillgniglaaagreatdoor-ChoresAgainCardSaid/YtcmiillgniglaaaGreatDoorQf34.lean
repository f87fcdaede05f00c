/- slices.DeleteFunc at facts where all are gone; slices.Concat of tables and nothing. For rows of the call's own. -/
import Derived.Lib.AppendZerosOnto
import Derived.Test.YtcmiillgniglaaaGreatDoorQf33
namespace Go.Proofs.Herb
open Go.RowKit Go.Sort
theorem below_setCells24 {B : Nat} {a : World} (g : Nat) (hg : B ≤ g) : ∀ (vs : List Value) (o : Nat) {w : World}, Below B a w → Below B a (w.setCells g o vs)
  | [], _, _, h => h
  | v :: r, o, _, h => below_setCells24 g hg r (o + 1) (h.setCell (p := ⟨g, o, none⟩) hg v)
def zFactC : Array Value := #[.string ⟨#[]⟩, .int .u32 0, .int .u64 0, .int .u64 0, .int .u8 0, .string ⟨#[]⟩]
theorem zero_one (n : Nat) : ∀ v ∈ (Builtin.zeroCells zFactC n).toList, v.oneCell' = true := by
  intro v hv
  unfold Builtin.zeroCells at hv
  simp only [Array.toList_map, List.mem_map] at hv
  obtain ⟨i, _, rfl⟩ := hv
  have h6 : i % zFactC.size < 6 := Nat.mod_lt _ (by decide)
  have hs : zFactC.size = 6 := rfl
  rw [hs] at h6 ⊢
  generalize i % 6 = k at h6
  match k, h6 with
  | 0, _ => rfl
  | 1, _ => rfl
  | 2, _ => rfl
  | 3, _ => rfl
  | 4, _ => rfl
  | 5, _ => rfl
theorem run_clear_facts (w : World) (ty : TypeId) (g n c : Nat) (cur : Array Value) (hn : 0 < n) (hg : w.heap[g]? = some (.cells cur 50 (0, 0))) (hs : n * 6 ≤ cur.size) :
    (Builtin.clear_ #[23] ty #[.slice (some ⟨g, 0, none⟩) n c]).run Tryz.prog w = .ok (.tuple #[]) (w.setCells g 0 (Builtin.zeroCells zFactC n).toList) := by
  have hl : (Builtin.zeroCells zFactC n).toList.length = n * 6 := by unfold Builtin.zeroCells; simp [zFactC]
  have hst := run_storeCells_cells (P := Tryz.prog) g 0 (Builtin.zeroCells zFactC n).toList 0 w
    (fun j hj => by
      rw [hl] at hj
      rw [show 0 + 0 + j = j by omega, cell_of_row w g j _ _ _ hg, Array.getElem?_eq_getElem (by omega)]
      rfl)
    (fun j hj => frozen_of_row _ _ _ _ _ hg) (zero_one n)
  simp only [Nat.add_zero] at hst
  have hv : (zeroValue 50).run Tryz.prog w = .ok (.agg zFactC) w := by kernel_rfl
  have hzc : (Value.agg zFactC).cells = zFactC := rfl
  obtain ⟨m, rfl⟩ : ∃ m, n = m + 1 := ⟨n - 1, by omega⟩
  simp [Builtin.clear_, run_underlying Tryz.underlying23, hv, hzc, hst]
set_option maxRecDepth 100000 in
set_option maxHeartbeats 4000000 in
/-- all are gone -/
theorem delete_all (fn : FuncId) (cap : Value) (p : Fact → Bool) (base : Nat) (q : Option Addr) (n c : Nat) (l : List Fact) (w : World) (hn : l.length = n) (hn6 : n ≤ 1000000) (ho : w.ownsRow base 50 6 (.slice q n c) n (fCells l)) (hbw : base ≤ w.heap.size)
    (he : ∀ args W, (callFunc fn args).run Tryz.prog W = .ok (.enter fn args) W)
    (hp : ∀ f ∈ l, ∀ W, Below w.heap.size w W → Calls Tryz.prog fn #[.agg f.cells.toArray, cap] W fun e W' => e = .returned (.bool (p f)) ∧ Below W.heap.size W W') (hz : ∀ f ∈ l, p f = true) :
    Calls Tryz.prog 22 #[.slice q n c, .func (.func fn) #[] #[cap]] w fun e w' => ∃ q' c', e = .returned (.slice q' 0 c') ∧ Below base w w' := by
  have H := hid (indexF_any fn cap p q n c l w hn hn6 (Fr.of_own ho).rd he hp)
  have Hn := hid hn
  have HP := hid hp
  have Hz := hid hz
  by_cases h0 : n = 0
  · subst h0
    clear hp hz hn
    go_enter Tryz.func22, Tryz.ntmps22
    go_wp2_with fail
    refine H.out.mono ?_
    rintro e w2 ⟨r, rfl, hcase, hb2⟩
    have HB2 := hid (hb2.mono hbw)
    clear hb2
    rcases hcase with ⟨rfl, hf⟩ | ⟨k, hk, _⟩
    · clear hf
      go_wp2
      go_ret
      exact ⟨q, c, rfl, HB2.out⟩
    · have := Hn.out; omega
  · obtain ⟨g, cur, rfl, hgb, hgr, hnc, hsz⟩ : ∃ (g : Nat) (cur : Array Value), q = some ⟨g, 0, none⟩ ∧ base ≤ g ∧ w.heap[g]? = some (.cells cur 50 (0, 0)) ∧ n ≤ c ∧ n * 6 ≤ cur.size := by
      obtain ⟨_, h⟩ := (Fr.of_own ho)
      rcases h with ⟨_, h⟩ | ⟨g, cp, cur, hv, h1, h2, h3, h4, h5, _⟩
      · exact absurd h h0
      · injection hv with e1 _ e3
        subst e1
        subst e3
        refine ⟨g, cur, rfl, h1, h2, h3, Nat.le_trans (Nat.mul_le_mul_right 6 h3) h5⟩
    have hcm : c ≤ maxLen := by
      obtain ⟨_, _, e, _, h, _⟩ := own_shape ho
      cases e
      exact h
    have hrd := (Fr.of_own ho).rd
    have Hr := hid hrd
    have HG := hid hgr
    clear hrd ho hgr hp hz hn
    go_enter Tryz.func22, Tryz.ntmps22
    go_wp2_with fail
    refine H.out.mono ?_
    rintro e w2 ⟨r, rfl, hcase, hb2⟩
    have HB2 := hid hb2
    have hr0 : r = 0 := by
      rcases hcase with ⟨_, hf⟩ | ⟨k, hk, rfl, _, hf⟩
      · have hl : 0 < l.length := by have := Hn.out; omega
        have := hf l[0] (List.getElem_mem hl)
        rw [Hz.out _ (List.getElem_mem hl)] at this
        cases this
      · rcases Nat.eq_zero_or_pos k with e | e
        · rw [e]; rfl
        · have := hf 0 e
          rw [Hz.out _ (List.getElem_mem _)] at this
          cases this
    subst hr0
    clear hb2 hcase
    go_wp2_with fail
    go_loopw [5, 6, 7] (fun i j _ wr => i = .int .i64 0 ∧ ∃ k : Nat, j = .int .i64 (k : Int) ∧ 1 ≤ k ∧ k ≤ n ∧ Below w.heap.size w wr) (fun _ j _ _ => n - (intOf j).toNat)
    case atStart => exact ⟨rfl, 1, rfl, Nat.le_refl _, by omega, HB2.out⟩
    case round =>
      obtain ⟨rfl, k, rfl, hk1, hk2, hB⟩ := hrel
      have HB := hid hB
      clear hB
      by_cases hlt : k < n
      · have hkl : k < l.length := by rw [Hn.out]; exact hlt
        obtain ⟨b, off, eb, hbl, hfx⟩ := fact_at (Hr.out.below HB.out) hkl
        cases eb
        obtain ⟨x, hx⟩ : ∃ x, x = l[k] := ⟨_, rfl⟩
        rw [← hx] at hfx
        have hmem : x ∈ l := by rw [hx]; exact List.getElem_mem hkl
        have HC := hid (fun W hW => HP.out x hmem W hW)
        have HZ := hid (Hz.out x hmem)
        have i0 : (0 : Int) ≤ (k : Int) := by omega
        have i1 : (k : Int) < (n : Int) := by omega
        obtain ⟨key, valid, seq, fl, kind, val⟩ := x
        obtain ⟨a0, a1, a2, a3, a4, a5⟩ := hfx
        dsimp only at a0 a1 a2 a3 a4 a5
        rw [Nat.zero_add] at a0 a1 a2 a3 a4 a5
        rw [HZ.out] at HC
        unfold Fact.cells at HC
        dsimp only at HC
        clear hx hmem
        have hwa := HB.out.alloc HB.out.size (.cells #[.string key, .int .u32 (valid : Int), .int .u64 (seq : Int), .int .u64 (fl : Int), .int .u8 (kind : Int), .string val] 50)
        have HWa := hid hwa
        have HCa := hid (HC.out _ hwa)
        clear hwa
        go_wp2_with fail
        refine HCa.out.mono ?_
        rintro e w5 ⟨rfl, hb5⟩
        have HB5 := hid (HWa.out.trans (hb5.mono HWa.out.size))
        clear hb5 a0 a1 a2 a3 a4 a5
        go_wp2
        go_roundw
        case rel => exact ⟨rfl, k + 1, by go_num, by omega, by omega, HB5.out⟩
        case measure => simp [intOf]; omega
      · obtain rfl : k = n := by omega
        have hgk : wr.heap[g]? = some (.cells cur 50 (0, 0)) := (HB.out.block _ (lt_of_block HG.out)).trans HG.out
        have hcl : ∀ ty, (Builtin.clear_ #[23] ty #[.slice (some ⟨g, 0, none⟩) k c]).run Tryz.prog wr = .ok (.tuple #[]) (wr.setCells g 0 (Builtin.zeroCells zFactC k).toList) := fun ty => run_clear_facts wr ty g k c cur (by omega) hgk hsz
        have HB3 := hid (below_setCells24 g hgb (Builtin.zeroCells zFactC k).toList 0 (HB.out.mono hbw))
        clear hgk
        go_wp2_with fail
        go_ret
        exact ⟨_, c, rfl, HB3.out⟩
end Go.Proofs.Herb
