/- The contract of tables.names: the shelf's contract on slices.Compact, laid here in plain words, and the walk. For facts that can be read. -/
import Derived.Test.YtljdlilcpcokhaaDoorFct
import Derived.Test.YtljdlilcpcokhaaDoorAps
import Derived.Shelf.Lay
import Derived.Shelf.Slices.CompactS
import Derived.Shelf.Slices.Cells
namespace Go.Proofs.Herb
open Go.RowKit Go.Shelf
def laysLay_ren : Go.Shelf.Ren := ⟨fun | 194 => 48 | n => n, fun | 31 => 58 | 9 => 9 | 3 => 3 | 4 => 4 | 0 => 0 | n => n, fun | n => n⟩
theorem laysLay : Go.Proofs.Lays.n194 Tryd.prog laysLay_ren := {
  mixed := by kernel_rfl
  f194 := Tryd.func48.trans (congrArg some (by kernel_rfl))
  t0 := Tryd.underlying0
  a0 := Tryd.isAgg0
  z0 := Tryd.sizeOf0
  v0 := Tryd.zeroValue0
  t3 := Tryd.underlying3
  a3 := Tryd.isAgg3
  z3 := Tryd.sizeOf3
  v3 := Tryd.zeroValue3
  t4 := Tryd.underlying4
  a4 := Tryd.isAgg4
  z4 := Tryd.sizeOf4
  v4 := Tryd.zeroValue4
  t9 := Tryd.underlying9
  a9 := Tryd.isAgg9
  z9 := Tryd.sizeOf9
  v9 := Tryd.zeroValue9
  t31 := Tryd.underlying58
  a31 := Tryd.isAgg58
  z31 := Tryd.sizeOf58
  v31 := Tryd.zeroValue58 }
theorem compact_empty (a : Option Addr) (cap : Nat) (w : World) :
    Calls Tryd.prog 48 #[.slice a 0 cap] w fun e w' => e = .returned (.slice a 0 cap) ∧ w' = w := Any.slices_Compact_string_empty laysLay a cap w
theorem compact_cells (b off n c : Nat) (Sx : Nat → ByteArray) (w : World) (hbig : n ≤ 9223372036854775807) (hcap : n ≤ c) (hc : ∀ i, i < n → w.cell? ⟨b, off + i, none⟩ = some (.string (Sx i))) (hf : ∀ j, j < n → w.frozen? ⟨b, off + j, none⟩ = false) :
    Calls Tryd.prog 48 #[.slice (some ⟨b, off, none⟩) n c] w fun e w' => e = .returned (.slice (some ⟨b, off, none⟩) (Lib.compact (Lib.strsOf Sx n)).length c) ∧ ∃ q, w' = (w.drewN q).setCells b off ((Lib.compact (Lib.strsOf Sx n) ++ List.replicate (n - (Lib.compact (Lib.strsOf Sx n)).length) []).map Go.Proofs.encStr) := Any.slices_Compact_string_cells laysLay b off n c Sx w hbig hcap hc hf
theorem infoStr : (Tryd.prog.info? 9).map (fun i => (i.zero, i.size, i.bytes)) = some (some (.string ⟨#[]⟩), 1, 16) := by kernel_rfl
theorem below_setCells {b0 b : Nat} {A : World} (hb : b0 ≤ b) : ∀ (vs : List Value) (o : Nat) (W : World), Below b0 A W → Below b0 A (W.setCells b o vs)
  | [], _, _, h => h
  | v :: r, o, _, h => below_setCells hb r (o + 1) _ (h.setCell (p := ⟨b, o, none⟩) hb v)
theorem rd_new2 {w : World} {cs : List Value} {e : TypeId} {g : Nat} (h : g = w.heap.size) : Rd (w.alloc (.cells cs.toArray e)) (some ⟨g, 0, none⟩) cs := by subst h; exact Rd.new w cs e
/-- a list of texts, as cells -/
def strV (l : List UInt8) : Value := .string ⟨l.toArray⟩
/-- keys of facts, each run of them once -/
def namesF (fs : List Fact) : List (List UInt8) := Lib.compact (fs.map fun f => f.key.data.toList)
set_option maxRecDepth 100000 in
set_option maxHeartbeats 1000000 in
theorem names_any (q : Option Addr) (n c : Nat) (fs : List Fact) (w : World) (hn : fs.length = n) (h0 : 0 < n) (hm : n ≤ 6000) (hr : Rd w q (fCells fs)) :
    Calls Tryd.prog 20 #[.slice q n c] w fun e w' => ∃ p d, e = .returned (.slice p (namesF fs).length d) ∧ (namesF fs).length ≤ n ∧ Rd w' p ((namesF fs).map strV) ∧ Below w.heap.size w w' := by
  have Hn := hid hn
  have Hr := hid hr
  clear hn hr
  go_enter Tryd.func20, Tryd.ntmps20
  go_wp2_with fail
  go_loopw [2, 7] (fun v i wr => ∃ (k : Nat) (p : Option Addr) (d : Nat), k ≤ n ∧ i = .int .i64 (k : Int) ∧ v = .slice p k d ∧ wr.ownsRow w.heap.size 9 1 (.slice p k d) k ((fs.take k).map fun f => .string f.key) ∧ Below w.heap.size w wr) (fun _ i _ => n - (intOf i).toNat)
  case atStart => exact ⟨0, none, 0, Nat.zero_le _, rfl, rfl, World.ownsRow_nil _ _ _ _, Below.refl _ _⟩
  case round =>
    obtain ⟨k, p, d, hk, rfl, rfl, hown, hB⟩ := hrel
    have Hown := hid hown
    have HB := hid hB
    have hbs := hB.size
    clear hown hB
    by_cases hlt : k < n
    · have hkl : k < fs.length := by rw [Hn.out]; exact hlt
      obtain ⟨bq, off, rfl, hbq, hfa⟩ := fact_at (Hr.out.below HB.out) hkl
      obtain ⟨f, hf⟩ : ∃ f, f = fs[k] := ⟨_, rfl⟩
      rw [← hf] at hfa
      have Hf := hid hf
      clear hf
      obtain ⟨key, valid, seq, fl, kind, val⟩ := f
      obtain ⟨a0, a1, a2, a3, a4, a5⟩ := hfa
      dsimp only at a0 a1 a2 a3 a4 a5
      have i0 : (0 : Int) ≤ (k : Int) := by omega
      have i1 : (k : Int) < (n : Int) := by omega
      go_wp2_with (refine wpList_append_src rfl (.tmp 11) (.tmp 14) 58 58 rfl w.heap.size 9 (.string ⟨#[]⟩) 1 16 Tryd.underlying58 infoStr rfl (by decide) p k d _ rfl (own_below Hown.out (((Below.refl _ _).alloc (Nat.le_refl _) _).alloc (by simp) _)) _ 1 [.string key] rfl (src_rd (by decide) Tryd.underlying58 1 rfl (rd_new2 (by simp)) (by simp [Value.oneCell'])) (by unfold maxLen; omega) (by omega) (by simp; omega) ?_; intro q' c' w6 hown6 hg6 _; have P6 := hid (And.intro hown6 hg6); clear hown6 hg6)
      obtain ⟨hown6, hg6⟩ := P6.out
      go_roundw
      case rel =>
        refine ⟨k + 1, q', c', by omega, by go_num, rfl, ?_, ((HB.out.alloc hbs _).alloc (by simp; omega) _).grown hg6 (by simp; omega) (fun g hg => (Hown.out.lt g hg).1)⟩
        rw [List.take_succ_eq_append_getElem hkl, List.map_append, ← Hf.out]
        exact hown6
      case measure => simp [intOf]; omega
    · obtain rfl : k = n := by omega
      have htk : fs.take k = fs := List.take_of_length_le (by rw [Hn.out]; exact Nat.le_refl _)
      have hown := Hown.out
      rw [htk] at hown
      obtain ⟨_, c2, he, hcl, hcm, hrd, _⟩ := (Fr.of_own hown).shape
      rw [Value.slice.injEq] at he
      obtain ⟨rfl, _, rfl⟩ := he
      obtain ⟨b', off', rfl, _⟩ := hrd.cell (k := 0) (by rw [List.length_map, Hn.out]; exact h0)
      obtain ⟨Sx, hSx⟩ : ∃ Sx : Nat → ByteArray, Sx = fun i => ((fs[i]?).map (·.key)).getD ⟨#[]⟩ := ⟨_, rfl⟩
      have hSi : ∀ i, (h : i < fs.length) → Sx i = fs[i].key := fun i h => by rw [hSx]; simp [List.getElem?_eq_getElem h]
      have hcells : ∀ i, i < k → wr.cell? ⟨b', off' + i, none⟩ = some (.string (Sx i)) := fun i hi => by
        have hil : i < fs.length := by rw [Hn.out]; exact hi
        obtain ⟨b2, o2, e, h⟩ := hrd.cell (k := i) (by rw [List.length_map]; exact hil)
        cases e
        rw [h, hSi i hil]; simp
      have hstr : Lib.strsOf Sx k = fs.map fun f => f.key.data.toList := by
        unfold Lib.strsOf
        apply List.ext_getElem
        · simp [Hn.out]
        · intro i h1 h2
          simp only [List.length_map, List.length_range] at h1
          simp only [List.getElem_map, List.getElem_range]
          rw [hSi i (by rw [Hn.out]; exact h1)]
      have hfz : ∀ j, j < k → wr.frozen? ⟨b', off' + j, none⟩ = false := by
        intro j _
        rcases hown.2 with ⟨h, _⟩ | ⟨g, cap, cur, hv, _, hh, _⟩
        · cases h
        · rw [Value.slice.injEq] at hv
          obtain ⟨hv, _⟩ := hv
          cases hv
          exact frozen_of_row _ _ _ _ _ hh
      have hC := compact_cells b' off' k d Sx wr (by omega) hcl hcells hfz
      rw [hstr] at hC
      have hbw : w.heap.size ≤ b' := (hown.lt b' rfl).1
      have hNl : (namesF fs).length ≤ k := by
        have : (Lib.compact (fs.map fun f => f.key.data.toList)).length ≤ (fs.map fun f => f.key.data.toList).length := Lib.compact_length_le _
        rw [List.length_map, Hn.out] at this
        exact this
      have hsome : ∀ j, j < k → (wr.cell? ⟨b', off' + j, none⟩).isSome = true := fun j hj => by rw [hcells j hj]; rfl
      generalize hvs : (Lib.compact (fs.map fun f : Fact => f.key.data.toList) ++ List.replicate (k - (Lib.compact (fs.map fun f : Fact => f.key.data.toList)).length) []).map Go.Proofs.encStr = VS at hC
      have hvl : VS.length = k := by
        rw [← hvs]
        simp only [List.length_map, List.length_append, List.length_replicate]
        unfold namesF at hNl
        omega
      have hvg : ∀ j, j < (namesF fs).length → VS[j]? = ((namesF fs).map strV)[j]? := fun j hj => by
        rw [← hvs, List.getElem?_map, List.getElem?_append_left (by unfold namesF at hj; exact hj), List.getElem?_map]
        rfl
      have hC2 : Calls Tryd.prog 48 #[.slice (some ⟨b', off', none⟩) k d] wr fun e w' => e = .returned (.slice (some ⟨b', off', none⟩) (namesF fs).length d) ∧ ∃ q, w' = (wr.drewN q).setCells b' off' VS := hC
      obtain ⟨M, hM⟩ : ∃ M, M = (namesF fs).length := ⟨_, rfl⟩
      rw [← hM] at hC2 hNl hvg
      have HC := hid hC2
      have HS := hid hsome
      have HM := hid hM
      have HVL := hid hvl
      have HVG := hid hvg
      clear hC hC2 hsome hcells hstr hSi hSx hfz hrd hown htk hvs hvl hvg hM
      go_wp2_with fail
      refine HC.out.mono ?_
      rintro e w2 ⟨rfl, m, rfl⟩
      go_wp2_with fail
      go_ret
      refine ⟨_, _, by rw [← HM.out]; rfl, by rw [← HM.out]; exact hNl, .inr ⟨b', off', rfl, fun j u hu => ?_⟩, below_setCells hbw _ _ _ (below_drewN HB.out _)⟩
      have hj : j < M := by have := (List.getElem?_eq_some_iff.1 hu).1; rw [HM.out]; simpa using this
      have hjv : j < VS.length := by rw [HVL.out]; omega
      rw [World.cell?_setCells_in b' VS off' (wr.drewN m) (fun i hi => HS.out i (by rw [HVL.out] at hi; exact hi)) j hjv, ← hu, ← HVG.out j hj, List.getElem?_eq_getElem hjv]
end Go.Proofs.Herb
