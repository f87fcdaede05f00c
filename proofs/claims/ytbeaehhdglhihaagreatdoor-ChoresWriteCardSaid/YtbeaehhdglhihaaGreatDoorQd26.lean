/- The contract of the reference's Parts (chapter 24). For facts that can be read. How a disk lies in memory, and the laws of its directory (a map): look-up, update, delete. -/
import Derived.WalkLawsBesides
import Derived.WalkSpells
import Derived.Outline
import Derived.Deep.LoopGhost
import Derived.Deep.QuietTactic
import Derived.Deep.DeepCutAuto
import Derived.BigQuiet
import Derived.Test.YtbeaehhdglhihaaGreatDoorQd01
import Derived.Test.YtbeaehhdglhihaaGreatDoorQd21
import Derived.Test.YtbeaehhdglhihaaGreatDoorQd25
namespace Go.Proofs.Herb
open Go.RowKit Go.Sort
/-- the parts that are still to come where the reference stands at k, behind from_, having counted size -/
def gPt (l : List Fact) (k from_ size : Nat) : List (Nat × Nat) :=
  if from_ < k ∧ 2048 ≤ size ∧ (k = l.length ∨ keyAt l k ≠ keyAt l (k - 1)) then (from_, k) :: ptF l (l.length - k) k k 0 else ptF l (l.length - k) k from_ size
theorem gPt_step {l : List Fact} {k from_ size : Nat} (h : k < l.length) (hf : from_ ≤ k) : ptF l (l.length - k) k from_ size = gPt l (k + 1) from_ (size + facAt l k) := by
  have e : l.length - k = (l.length - (k + 1)) + 1 := by omega
  rw [e, ptF]
  unfold gPt
  by_cases q : 2048 ≤ size + facAt l k ∧ (k + 1 = l.length ∨ keyAt l (k + 1) ≠ keyAt l k)
  · rw [if_pos q, if_pos ⟨by omega, q.1, by rw [Nat.add_sub_cancel]; exact q.2⟩]
  · rw [if_neg q, if_neg (fun h => q ⟨h.2.1, by have := h.2.2; rw [Nat.add_sub_cancel] at this; exact this⟩)]
theorem gPt_no {l : List Fact} {k from_ size : Nat} (h : k < l.length) (hc : size < 2048 ∨ keyAt l k = keyAt l (k - 1)) : gPt l k from_ size = ptF l (l.length - k) k from_ size := by
  unfold gPt
  rw [if_neg (fun q => ?_)]
  rcases hc with hc | hc
  · omega
  · rcases q.2.2 with e | e
    · omega
    · exact e hc
theorem gPt_cut {l : List Fact} {k from_ size : Nat} (hf : from_ < k) (hs : 2048 ≤ size) (hk : keyAt l k ≠ keyAt l (k - 1)) : gPt l k from_ size = (from_, k) :: ptF l (l.length - k) k k 0 := by
  unfold gPt
  rw [if_pos ⟨hf, hs, .inr hk⟩]
theorem gPt_end {l : List Fact} {from_ size : Nat} : gPt l l.length from_ size = if from_ < l.length then [(from_, l.length)] else [] := by
  unfold gPt
  rw [Nat.sub_self, ptF, ptF]
  by_cases q : from_ < l.length
  · rw [if_pos q]
    split
    · rw [if_neg (Nat.lt_irrefl _)]
    · rfl
  · rw [if_neg q, if_neg (fun h => q h.1)]
/-- slices of facts, and where they lie -/
def PtV (w : World) (base : Nat) (l : List Fact) (vs : List Value) (pre : List (Nat × Nat)) : Prop :=
  vs.length = pre.length ∧ ∀ (i : Nat) (v : Value) (x : Nat × Nat), vs[i]? = some v → pre[i]? = some x → x.1 < x.2 ∧ x.2 ≤ l.length ∧ ∃ a c, v = .slice a (x.2 - x.1) c ∧ w.ownsRow base 65 6 (.slice a (x.2 - x.1) c) (x.2 - x.1) (fCells (subF l x))
theorem PtV.below {w w' : World} {base : Nat} {l : List Fact} {vs : List Value} {pre : List (Nat × Nat)} (h : PtV w base l vs pre) (hb : Below w.heap.size w w') : PtV w' base l vs pre :=
  ⟨h.1, fun i v x hv hx => by
    obtain ⟨h1, h2, a, c, h3, h4⟩ := h.2 i v x hv hx
    exact ⟨h1, h2, a, c, h3, own_below h4 hb⟩⟩
theorem PtV.other {w w' : World} {base : Nat} {l : List Fact} {vs : List Value} {pre : List (Nat × Nat)} {r : Option Nat} (h : PtV w base l vs pre) (hg : w.grownBy w' r) (hne : ∀ v ∈ vs, ∀ g, v.ownBlock = some g → some g ≠ r) : PtV w' base l vs pre :=
  ⟨h.1, fun i v x hv hx => by
    obtain ⟨h1, h2, a, c, h3, h4⟩ := h.2 i v x hv hx
    exact ⟨h1, h2, a, c, h3, own_other h4 hg fun g hgv => hne v (List.mem_of_getElem? hv) g (by rw [h3]; exact hgv)⟩⟩
theorem PtV.kinds {w w' : World} {base b2 : Nat} {l : List Fact} {vs : List Value} {pre : List (Nat × Nat)} {v2 : Value} {k2 n2 : Nat} {ys : List Value} {e2 : TypeId} (h : PtV w base l vs pre) (h2 : w.ownsRow b2 e2 k2 v2 n2 ys) (he : 65 ≠ e2) (hg : w.grownBy w' v2.ownBlock) : PtV w' base l vs pre :=
  ⟨h.1, fun i v x hv hx => by
    obtain ⟨h1, h3, a, c, h4, h5⟩ := h.2 i v x hv hx
    exact ⟨h1, h3, a, c, h4, own_kinds h5 h2 he hg⟩⟩
theorem PtV.snoc {w : World} {base : Nat} {l : List Fact} {vs : List Value} {pre : List (Nat × Nat)} {a : Option Addr} {c : Nat} {x : Nat × Nat} (h : PtV w base l vs pre) (h1 : x.1 < x.2) (h2 : x.2 ≤ l.length) (h3 : w.ownsRow base 65 6 (.slice a (x.2 - x.1) c) (x.2 - x.1) (fCells (subF l x))) : PtV w base l (vs ++ [.slice a (x.2 - x.1) c]) (pre ++ [x]) := by
  refine ⟨by rw [List.length_append, List.length_append, h.1]; rfl, fun i v y hv hy => ?_⟩
  by_cases hi : i < pre.length
  · rw [List.getElem?_append_left (by rw [h.1]; exact hi)] at hv
    rw [List.getElem?_append_left hi] at hy
    exact h.2 i v y hv hy
  · have hil := (List.getElem?_eq_some_iff.1 hy).1
    rw [List.length_append, List.length_singleton] at hil
    obtain rfl : i = pre.length := by omega
    rw [← h.1] at hv
    rw [List.getElem?_append_right (Nat.le_refl _)] at hv hy
    simp only [Nat.sub_self, List.getElem?_cons_zero, Option.some.injEq] at hv hy
    subst hv
    subst hy
    exact ⟨h1, h2, a, c, rfl, h3⟩
theorem PtV.lt {w : World} {base : Nat} {l : List Fact} {vs : List Value} {pre : List (Nat × Nat)} (h : PtV w base l vs pre) {v : Value} (hv : v ∈ vs) {g : Nat} (hg : v.ownBlock = some g) : g < w.heap.size := by
  obtain ⟨i, hi, rfl⟩ := List.mem_iff_getElem.1 hv
  have hip : i < pre.length := by rw [← h.1]; exact hi
  obtain ⟨-, -, a, c, h3, h4⟩ := h.2 i _ _ (List.getElem?_eq_getElem hi) (List.getElem?_eq_getElem hip)
  rw [h3] at hg
  exact (bown_lt h4 g hg).2
theorem subF_snoc {l : List Fact} {a k : Nat} (ha : a ≤ k) (hk : k < l.length) : subF l (a, k + 1) = subF l (a, k) ++ [l[k]] := by
  unfold subF
  rw [List.take_succ_eq_append_getElem hk, List.drop_append_of_le_length (by rw [List.length_take]; omega)]
theorem infoFactP : (Tryz.prog.info? 65).map (fun i => (i.zero, i.size, i.bytes)) = some (some (.agg #[.string ⟨#[]⟩, .int .u32 0, .int .u64 0, .int .u64 0, .int .u8 0, .string ⟨#[]⟩]), 6, 64) := by kernel_rfl
theorem infoSlF : (Tryz.prog.info? 23).map (fun i => (i.zero, i.size, i.bytes)) = some (some (.slice none 0 0), 1, 24) := by kernel_rfl
set_option maxRecDepth 100000 in
set_option maxHeartbeats 4000000 in
theorem ref_parts (q : Option Addr) (n c : Nat) (l : List Fact) (w : World) (hn : l.length = n) (hm : n ≤ 6000) (hr : Rd w q (fCells l)) (hz : ∀ f ∈ l, f.key.size ≤ 140737488355328 ∧ f.val.size ≤ 140737488355328) :
    Calls Tryz.prog 40 #[.slice q n c] w fun e w' => ∃ o oc vs, e = .returned (.slice o (partsI l).length oc) ∧ w'.ownsRow w.heap.size 23 1 (.slice o (partsI l).length oc) (partsI l).length vs ∧ PtV w' w.heap.size l vs (partsI l) ∧ Below w.heap.size w w' := by
  have Hn := hid hn
  have Hr := hid hr
  have Hz := hid hz
  clear hn hr hz
  go_enter Tryz.func40, Tryz.ntmps40
  go_wp2_with fail
  go_loopw [3, 4, 5, 6] (fun v3 v4 v5 i wr => ∃ (k from_ size M d oc NP : Nat) (p o : Option Addr) (vs : List Value) (pre : List (Nat × Nat)), k ≤ n ∧ from_ ≤ k ∧ (from_ < k ∨ size = 0) ∧ size ≤ k * 281474976710672 ∧ M = k - from_ ∧ i = .int .i64 (k : Int) ∧ v5 = .int .i64 (size : Int) ∧ v4 = .slice p M d ∧ v3 = .slice o NP oc ∧ NP = pre.length ∧ NP ≤ k ∧
    pre ++ gPt l k from_ size = partsI l ∧ wr.ownsRow w.heap.size 65 6 (.slice p M d) M (fCells (subF l (from_, k))) ∧ wr.ownsRow w.heap.size 23 1 (.slice o NP oc) NP vs ∧ PtV wr w.heap.size l vs pre ∧
    (∀ v ∈ vs, ∀ g, v.ownBlock = some g → some g ≠ (Value.slice p M d).ownBlock) ∧ Below w.heap.size w wr) (fun _ _ _ i _ => n - (intOf i).toNat)
  case atStart =>
    refine ⟨0, 0, 0, 0, 0, 0, 0, none, none, [], [], Nat.zero_le _, Nat.le_refl _, .inr rfl, Nat.zero_le _, rfl, rfl, rfl, rfl, rfl, rfl, Nat.le_refl _, ?_, World.ownsRow_nil _ _ _ _, World.ownsRow_nil _ _ _ _, ⟨rfl, by intro i v x h; cases h⟩, (by intro v h; cases h), Below.refl _ _⟩
    rw [List.nil_append]
    unfold gPt partsI
    rw [if_neg (fun h => absurd h.1 (Nat.lt_irrefl _)), Nat.sub_zero]
  case round =>
    obtain ⟨k, from_, size, M, d, oc, NP, p, o, vs, pre, hk, hfk, hfs, hsz, hM, rfl, rfl, rfl, rfl, hNP, hNPk, hpre, hown4, hown3, hch, hap, hB⟩ := hrel
    have HNP := hid hNP
    have HPre := hid hpre
    have HO4 := hid hown4
    have HO3 := hid hown3
    have HCh := hid hch
    have HAp := hid hap
    have HB := hid hB
    have HM := hid hM
    have hbs := hB.size
    have hMk : M ≤ k := by omega
    clear hNP hpre hown4 hown3 hch hap hB hM
    by_cases hlt : k < n
    · have hkl : k < l.length := by rw [Hn.out]; exact hlt
      obtain ⟨bq, off, rfl, -, hfa⟩ := fact_at (Hr.out.below HB.out) hkl
      obtain ⟨f, hf⟩ : ∃ f, f = l[k] := ⟨_, rfl⟩
      rw [← hf] at hfa
      have hfz := Hz.out _ (List.getElem_mem hkl)
      rw [← hf] at hfz
      obtain ⟨hfz1, hfz2⟩ := hfz
      have Hf := hid hf
      have HFac := hid (show facAt l k = f.key.size + f.val.size + 16 by rw [facAt_get hkl, hf]; rfl)
      have HKa := hid (show keyAt l k = some f.key by rw [keyAt_get hkl, hf])
      have HCells := hid (show ∀ W, Below w.heap.size w W → FactAt W bq (off + k * 6) f from fun W hb => by
        obtain ⟨_, _, e, -, h⟩ := fact_at (Hr.out.below hb) hkl
        cases e
        rw [Hf.out]
        exact h)
      have HCell1 := hid (show ∀ W, Below w.heap.size w W → ∀ j, j + 1 = k → ∃ g : ByteArray, keyAt l (k - 1) = some g ∧ W.cell? ⟨bq, off + j * 6, none⟩ = some (.string g) from fun W hb j hj => by
        have hj1 : j < l.length := by omega
        obtain ⟨_, _, e, -, h⟩ := fact_at (Hr.out.below hb) hj1
        cases e
        refine ⟨_, ?_, h.c0⟩
        rw [show k - 1 = j by omega, keyAt_get hj1])
      obtain ⟨key, valid, seq, fl, kind, val⟩ := f
      dsimp only at hfz1 hfz2 HFac HKa
      have i0 : (0 : Int) ≤ (k : Int) := by omega
      have i1 : (k : Int) < (n : Int) := by omega
      have hsz2 : size ≤ 1688849860264032000 := by omega
      clear hfa hf
      by_cases hs : 2048 ≤ size
      · have b0 : decide ((2048 : Int) ≤ (size : Int)) = true := by simp; omega
        have hfk2 : from_ < k := by omega
        obtain ⟨j, hj⟩ : ∃ j, j + 1 = k := ⟨k - 1, by omega⟩
        obtain ⟨g, hg, cj⟩ := HCell1.out wr HB.out j hj
        have c0 := (HCells.out wr HB.out).c0
        dsimp only at c0
        have j0 : (0 : Int) ≤ (j : Int) := by omega
        have j1 : (j : Int) < (n : Int) := by omega
        have wj : IntKind.i64.wrap ((k : Int) - 1) = (j : Int) := by rw [IntKind.wrap_i64]; omega
        by_cases hkk : key = g
        · have bk : (key.toList == g.toList) = true := by simp [hkk]
          have HPre2 := hid (show pre ++ ptF l (l.length - k) k from_ size = partsI l from by
            rw [← gPt_no (by rw [Hn.out]; exact hlt) (.inr (by rw [HKa.out, hg, hkk]))]
            exact HPre.out)
          clear hkk hg hj
          go_upto_region 7 with fail
          try simp only [List.append_eq, List.cons_append, List.nil_append]
          go_quiet (fail)
          obtain ⟨w6, hw6⟩ : ∃ w6, w6 = wr.drewN nq := ⟨_, rfl⟩
          have hbq : Below wr.heap.size wr w6 := by rw [hw6]; exact below_drewN (Below.refl _ _) nq
          rw [← hw6]
          have HB6 := hid (HB.out.trans (hbq.mono hbs))
          have HO46 := hid (own_below HO4.out hbq)
          have HO36 := hid (own_below HO3.out hbq)
          have HCh6 := hid (HCh.out.below hbq)
          have hs6 := HB6.out.size
          clear hbq
          clear HO4 HO3 HCh HB hw6 c0 cj wj b0 bk
          go_upto_region 11 with fail
          have hcs := HCells.out w6 HB6.out
          have c0 := hcs.c0
          have c1 := hcs.c1
          have c2 := hcs.c2
          have c3 := hcs.c3
          have c4 := hcs.c4
          have c5 := hcs.c5
          dsimp only at c0 c1 c2 c3 c4 c5
          have hA8 : Below w6.heap.size w6 (w6.alloc (.cells #[.string key, .int .u32 (valid : Int), .int .u64 (seq : Int), .int .u64 (fl : Int), .int .u8 (kind : Int), .string val] 65)) := (Below.refl _ _).alloc (Nat.le_refl _) _
          have HA8 := hid hA8
          have HSr8 := hid (src_rd (P := Tryz.prog) (size := 6) (by decide) (tx := 23) (e' := 65) Tryz.underlying23 (w := w6.alloc (.cells #[.string key, .int .u32 (valid : Int), .int .u64 (seq : Int), .int .u64 (fl : Int), .int .u8 (kind : Int), .string val] 65)) (ad := some ⟨w6.heap.size, 0, none⟩) (m := 1) 1 (news := [.string key, .int .u32 (valid : Int), .int .u64 (seq : Int), .int .u64 (fl : Int), .int .u8 (kind : Int), .string val]) rfl (Rd.new w6 [.string key, .int .u32 (valid : Int), .int .u64 (seq : Int), .int .u64 (fl : Int), .int .u8 (kind : Int), .string val] 65) (by simp [Value.oneCell']))
          have HO4a := hid (own_below HO46.out hA8)
          have HO3b := hid (own_below HO36.out hA8)
          have HChb := hid (HCh6.out.below hA8)
          have hN1 : M + 1 ≤ maxLen := by unfold maxLen; omega
          have hN2 : (M + 1) * 64 ≤ 140737488355328 := by omega
          have HN3 := hid (show w.heap.size ≤ (w6.alloc (.cells #[.string key, .int .u32 (valid : Int), .int .u64 (seq : Int), .int .u64 (fl : Int), .int .u8 (kind : Int), .string val] 65)).heap.size from (HB6.out.trans (hA8.mono HB6.out.size)).size)
          clear hcs hA8
          go_upto_region 12 with (refine wpList_append_src rfl (.tmp 33) (.tmp 38) 23 23 rfl w.heap.size 65 _ 6 64 Tryz.underlying23 infoFactP rfl (by decide) p M d _ rfl HO4a.out _ 1 [.string key, .int .u32 (valid : Int), .int .u64 (seq : Int), .int .u64 (fl : Int), .int .u8 (kind : Int), .string val] rfl HSr8.out hN1 hN2 HN3.out ?_; intro q9 c9 w9 g1 g2 g3; have G1 := hid g1; have G2 := hid g2; have G3 := hid g3; clear g1 g2 g3)
          have HB9 := hid (Below.grown' (HB6.out.trans (HA8.out.mono HB6.out.size)) HO4a.out G2.out HN3.out)
          clear c0 c1 c2 c3 c4 c5
          have hcs := HCells.out w9 HB9.out
          have c0 := hcs.c0
          have c5 := hcs.c5
          dsimp only at c0 c5
          clear hcs
          try simp only [List.append_eq, List.cons_append, List.nil_append]
          go_quiet (fail)
          obtain ⟨wz, hwz⟩ : ∃ x, x = w9.drewN nq := ⟨_, rfl⟩
          have hbz : Below w9.heap.size w9 wz := by rw [hwz]; exact below_drewN (Below.refl _ _) nq
          rw [← hwz]
          have HBz := hid hbz
          clear hwz hbz c0 c5
          go_wp2_with fail
          go_roundw
          case rel =>
            have hkl : k < l.length := by rw [Hn.out]; exact hlt
            refine ⟨k + 1, from_, size + (key.size + val.size + 16), M + 1, c9, oc, NP, q9, o, vs, pre, by omega, by omega, .inl (by omega), by omega, by have := HM.out; omega, by go_num, ?_, rfl, rfl, HNP.out, by omega, ?_, ?_, ?_, ?_, ?_, HB9.out.trans (HBz.out.mono HB9.out.size)⟩
            · congr 1
              omega
            · have h := HPre2.out
              rw [gPt_step hkl hfk, HFac.out] at h
              exact h
            · rw [subF_snoc hfk hkl, ← Hf.out, fCells_append]
              exact own_below G1.out HBz.out
            · exact own_below (own_kinds HO3b.out HO4a.out (by decide) G2.out) HBz.out
            · exact (HChb.out.other G2.out HAp.out).below HBz.out
            · intro v hv g hg
              rcases G3.out with h | ⟨g3, h, hlg⟩
              · have h5 := HAp.out v hv g hg
                rw [h]
                first | exact h5 | (cases p <;> exact h5)
              · rw [h]
                have h1 := HChb.out.lt hv hg
                intro e
                cases e
                exact absurd (Nat.lt_of_lt_of_le h1 hlg) (Nat.lt_irrefl _)
          case measure => simp [intOf]; omega
        · have bk : (key.toList == g.toList) = false := by
            rw [beq_eq_false_iff_ne]
            exact fun e => hkk (ba_ext e)
          have HPre2 := hid (show (pre ++ [(from_, k)]) ++ ptF l (l.length - k) k k 0 = partsI l from by
            rw [List.append_assoc, List.singleton_append, ← gPt_cut (size := size) hfk2 hs (by rw [HKa.out, hg]; exact fun e => hkk (Option.some.inj e))]
            exact HPre.out)
          clear hkk hg hj
          go_upto_region 7 with fail
          try simp only [List.append_eq, List.cons_append, List.nil_append]
          go_quiet (fail)
          obtain ⟨w6, hw6⟩ : ∃ w6, w6 = wr.drewN nq := ⟨_, rfl⟩
          have hbq : Below wr.heap.size wr w6 := by rw [hw6]; exact below_drewN (Below.refl _ _) nq
          rw [← hw6]
          have HB6 := hid (HB.out.trans (hbq.mono hbs))
          have HO46 := hid (own_below HO4.out hbq)
          have HO36 := hid (own_below HO3.out hbq)
          have HCh6 := hid (HCh.out.below hbq)
          have hs6 := HB6.out.size
          clear hbq
          have HSr2 := hid (src_rd (P := Tryz.prog) (size := 1) (by decide) (tx := 83) (e' := 23) Tryz.underlying83 (w := w6.alloc (.cells #[.slice p M d] 23)) (ad := some ⟨w6.heap.size, 0, none⟩) (m := 1) 1 (news := [.slice p M d]) rfl (Rd.new w6 [.slice p M d] 23) (by simp [Value.oneCell']))
          have hA6 : Below w6.heap.size w6 (w6.alloc (.cells #[.slice p M d] 23)) := (Below.refl _ _).alloc (Nat.le_refl _) _
          have HA6 := hid hA6
          have HO3a := hid (own_below HO36.out hA6)
          have hM1 : NP + 1 ≤ maxLen := by unfold maxLen; omega
          have hM2 : (NP + 1) * 24 ≤ 140737488355328 := by omega
          have HM3 := hid (show w.heap.size ≤ (w6.alloc (.cells #[.slice p M d] 23)).heap.size from (HB6.out.trans (hA6.mono HB6.out.size)).size)
          clear HO4 HO3 HCh HB hw6 hA6 c0 cj wj b0 bk
          go_upto_region 9 with (refine wpList_append_src rfl (.tmp 29) (.tmp 31) 83 83 rfl w.heap.size 23 (.slice none 0 0) 1 24 Tryz.underlying83 infoSlF rfl (by decide) o NP oc _ rfl HO3a.out _ 1 [.slice p M d] rfl HSr2.out hM1 hM2 HM3.out ?_; intro q7 c7 w7 k1 k2 k3; have K1 := hid k1; have K2 := hid k2; clear k1 k2 k3)
          have hmk : (from_, k).2 - (from_, k).1 = M := HM.out.symm
          have hown7 : w7.ownsRow w.heap.size 65 6 (.slice p M d) M (fCells (subF l (from_, k))) := own_kinds (own_below HO46.out HA6.out) HO3a.out (by decide) K2.out
          have hch7 : PtV w7 w.heap.size l vs pre := (HCh6.out.below HA6.out).kinds HO3a.out (by decide) K2.out
          have hsn := hch7.snoc (a := p) (c := d) (x := (from_, k)) hfk2 (show k ≤ l.length by rw [Hn.out]; omega) (by rw [hmk]; exact hown7)
          rw [hmk] at hsn
          have HCh7 := hid hsn
          have HB7 := hid (Below.grown' (HB6.out.trans (HA6.out.mono HB6.out.size)) HO3a.out K2.out HM3.out)
          have HO37 := hid K1.out
          have HO47 := hid (show w7.ownsRow w.heap.size 65 6 (.slice none 0 0) 0 (fCells (subF l (k, k))) from by unfold subF; rw [List.drop_of_length_le (by rw [List.length_take]; exact Nat.min_le_left _ _)]; exact World.ownsRow_nil _ _ _ _)
          have HAp7 := hid (show ∀ v ∈ vs ++ [.slice p M d], ∀ g, v.ownBlock = some g → some g ≠ (Value.slice none 0 0).ownBlock from fun v _ g _ h => by cases h)
          have HNP7 := hid (show NP + 1 = (pre ++ [(from_, k)]).length by rw [List.length_append, ← HNP.out]; rfl)
          clear hmk hown7 hch7 hsn K1 K2 HO3a HSr2 HM3 HO36 HO46 HCh6 HB6 HA6 hM1 hM2 hs6
          have hs7 := HB7.out.size
          obtain ⟨NP2, hNP2⟩ : ∃ x, x = NP + 1 := ⟨_, rfl⟩
          rw [← hNP2] at HO37 HNP7 ⊢
          have hNP2k : NP2 ≤ k + 1 := by omega
          clear hNP2
          go_upto_region 11 with fail
          have hcs := HCells.out w7 HB7.out
          have c0 := hcs.c0
          have c1 := hcs.c1
          have c2 := hcs.c2
          have c3 := hcs.c3
          have c4 := hcs.c4
          have c5 := hcs.c5
          dsimp only at c0 c1 c2 c3 c4 c5
          have hA8 : Below w7.heap.size w7 (w7.alloc (.cells #[.string key, .int .u32 (valid : Int), .int .u64 (seq : Int), .int .u64 (fl : Int), .int .u8 (kind : Int), .string val] 65)) := (Below.refl _ _).alloc (Nat.le_refl _) _
          have HA8 := hid hA8
          have HSr8 := hid (src_rd (P := Tryz.prog) (size := 6) (by decide) (tx := 23) (e' := 65) Tryz.underlying23 (w := w7.alloc (.cells #[.string key, .int .u32 (valid : Int), .int .u64 (seq : Int), .int .u64 (fl : Int), .int .u8 (kind : Int), .string val] 65)) (ad := some ⟨w7.heap.size, 0, none⟩) (m := 1) 1 (news := [.string key, .int .u32 (valid : Int), .int .u64 (seq : Int), .int .u64 (fl : Int), .int .u8 (kind : Int), .string val]) rfl (Rd.new w7 [.string key, .int .u32 (valid : Int), .int .u64 (seq : Int), .int .u64 (fl : Int), .int .u8 (kind : Int), .string val] 65) (by simp [Value.oneCell']))
          have HO4a := hid (own_below HO47.out hA8)
          have HO3b := hid (own_below HO37.out hA8)
          have HChb := hid (HCh7.out.below hA8)
          have hN1 : 0 + 1 ≤ maxLen := by unfold maxLen; omega
          have hN2 : (0 + 1) * 64 ≤ 140737488355328 := by omega
          have HN3 := hid (show w.heap.size ≤ (w7.alloc (.cells #[.string key, .int .u32 (valid : Int), .int .u64 (seq : Int), .int .u64 (fl : Int), .int .u8 (kind : Int), .string val] 65)).heap.size from (HB7.out.trans (hA8.mono HB7.out.size)).size)
          clear hcs hA8
          go_upto_region 12 with (refine wpList_append_src rfl (.tmp 33) (.tmp 38) 23 23 rfl w.heap.size 65 _ 6 64 Tryz.underlying23 infoFactP rfl (by decide) none 0 0 _ rfl HO4a.out _ 1 [.string key, .int .u32 (valid : Int), .int .u64 (seq : Int), .int .u64 (fl : Int), .int .u8 (kind : Int), .string val] rfl HSr8.out hN1 hN2 HN3.out ?_; intro q9 c9 w9 g1 g2 g3; have G1 := hid g1; have G2 := hid g2; have G3 := hid g3; clear g1 g2 g3)
          have HB9 := hid (Below.grown' (HB7.out.trans (HA8.out.mono HB7.out.size)) HO4a.out G2.out HN3.out)
          clear c0 c1 c2 c3 c4 c5
          have hcs := HCells.out w9 HB9.out
          have c0 := hcs.c0
          have c5 := hcs.c5
          dsimp only at c0 c5
          clear hcs
          try simp only [List.append_eq, List.cons_append, List.nil_append]
          go_quiet (fail)
          obtain ⟨wz, hwz⟩ : ∃ x, x = w9.drewN nq := ⟨_, rfl⟩
          have hbz : Below w9.heap.size w9 wz := by rw [hwz]; exact below_drewN (Below.refl _ _) nq
          rw [← hwz]
          have HBz := hid hbz
          clear hwz hbz c0 c5
          go_wp2_with fail
          go_roundw
          case rel =>
            have hkl : k < l.length := by rw [Hn.out]; exact hlt
            refine ⟨k + 1, k, 0 + (key.size + val.size + 16), 0 + 1, c9, c7, NP2, q9, q7, (vs ++ [.slice p M d]), (pre ++ [(from_, k)]), by omega, by omega, .inl (by omega), by omega, by have := HM.out; omega, by go_num, ?_, rfl, rfl, HNP7.out, by omega, ?_, ?_, ?_, ?_, ?_, HB9.out.trans (HBz.out.mono HB9.out.size)⟩
            · congr 1
              omega
            · have h := HPre2.out
              rw [gPt_step hkl (Nat.le_refl k), HFac.out] at h
              exact h
            · rw [subF_snoc (Nat.le_refl k) hkl, ← Hf.out, fCells_append]
              exact own_below G1.out HBz.out
            · exact own_below (own_kinds HO3b.out HO4a.out (by decide) G2.out) HBz.out
            · exact (HChb.out.other G2.out HAp7.out).below HBz.out
            · intro v hv g hg
              rcases G3.out with h | ⟨g3, h, hlg⟩
              · have h5 := HAp7.out v hv g hg
                rw [h]
                first | exact h5 | (cases q9 <;> exact h5)
              · rw [h]
                have h1 := HChb.out.lt hv hg
                intro e
                cases e
                exact absurd (Nat.lt_of_lt_of_le h1 hlg) (Nat.lt_irrefl _)
          case measure => simp [intOf]; omega
      · have b0 : decide ((2048 : Int) ≤ (size : Int)) = false := by simp; omega
        have HPre2 := hid (show pre ++ ptF l (l.length - k) k from_ size = partsI l from by
          rw [← gPt_no (by rw [Hn.out]; exact hlt) (.inl (by omega))]
          exact HPre.out)
        go_upto_region 7 with fail
        try simp only [List.append_eq, List.cons_append, List.nil_append]
        go_quiet (fail)
        obtain ⟨w6, hw6⟩ : ∃ w6, w6 = wr.drewN nq := ⟨_, rfl⟩
        have hbq : Below wr.heap.size wr w6 := by rw [hw6]; exact below_drewN (Below.refl _ _) nq
        rw [← hw6]
        have HB6 := hid (HB.out.trans (hbq.mono hbs))
        have HO46 := hid (own_below HO4.out hbq)
        have HO36 := hid (own_below HO3.out hbq)
        have HCh6 := hid (HCh.out.below hbq)
        have hs6 := HB6.out.size
        clear hbq
        clear HO4 HO3 HCh HB hw6 b0
        go_upto_region 11 with fail
        have hcs := HCells.out w6 HB6.out
        have c0 := hcs.c0
        have c1 := hcs.c1
        have c2 := hcs.c2
        have c3 := hcs.c3
        have c4 := hcs.c4
        have c5 := hcs.c5
        dsimp only at c0 c1 c2 c3 c4 c5
        have hA8 : Below w6.heap.size w6 (w6.alloc (.cells #[.string key, .int .u32 (valid : Int), .int .u64 (seq : Int), .int .u64 (fl : Int), .int .u8 (kind : Int), .string val] 65)) := (Below.refl _ _).alloc (Nat.le_refl _) _
        have HA8 := hid hA8
        have HSr8 := hid (src_rd (P := Tryz.prog) (size := 6) (by decide) (tx := 23) (e' := 65) Tryz.underlying23 (w := w6.alloc (.cells #[.string key, .int .u32 (valid : Int), .int .u64 (seq : Int), .int .u64 (fl : Int), .int .u8 (kind : Int), .string val] 65)) (ad := some ⟨w6.heap.size, 0, none⟩) (m := 1) 1 (news := [.string key, .int .u32 (valid : Int), .int .u64 (seq : Int), .int .u64 (fl : Int), .int .u8 (kind : Int), .string val]) rfl (Rd.new w6 [.string key, .int .u32 (valid : Int), .int .u64 (seq : Int), .int .u64 (fl : Int), .int .u8 (kind : Int), .string val] 65) (by simp [Value.oneCell']))
        have HO4a := hid (own_below HO46.out hA8)
        have HO3b := hid (own_below HO36.out hA8)
        have HChb := hid (HCh6.out.below hA8)
        have hN1 : M + 1 ≤ maxLen := by unfold maxLen; omega
        have hN2 : (M + 1) * 64 ≤ 140737488355328 := by omega
        have HN3 := hid (show w.heap.size ≤ (w6.alloc (.cells #[.string key, .int .u32 (valid : Int), .int .u64 (seq : Int), .int .u64 (fl : Int), .int .u8 (kind : Int), .string val] 65)).heap.size from (HB6.out.trans (hA8.mono HB6.out.size)).size)
        clear hcs hA8
        go_upto_region 12 with (refine wpList_append_src rfl (.tmp 33) (.tmp 38) 23 23 rfl w.heap.size 65 _ 6 64 Tryz.underlying23 infoFactP rfl (by decide) p M d _ rfl HO4a.out _ 1 [.string key, .int .u32 (valid : Int), .int .u64 (seq : Int), .int .u64 (fl : Int), .int .u8 (kind : Int), .string val] rfl HSr8.out hN1 hN2 HN3.out ?_; intro q9 c9 w9 g1 g2 g3; have G1 := hid g1; have G2 := hid g2; have G3 := hid g3; clear g1 g2 g3)
        have HB9 := hid (Below.grown' (HB6.out.trans (HA8.out.mono HB6.out.size)) HO4a.out G2.out HN3.out)
        clear c0 c1 c2 c3 c4 c5
        have hcs := HCells.out w9 HB9.out
        have c0 := hcs.c0
        have c5 := hcs.c5
        dsimp only at c0 c5
        clear hcs
        try simp only [List.append_eq, List.cons_append, List.nil_append]
        go_quiet (fail)
        obtain ⟨wz, hwz⟩ : ∃ x, x = w9.drewN nq := ⟨_, rfl⟩
        have hbz : Below w9.heap.size w9 wz := by rw [hwz]; exact below_drewN (Below.refl _ _) nq
        rw [← hwz]
        have HBz := hid hbz
        clear hwz hbz c0 c5
        go_wp2_with fail
        go_roundw
        case rel =>
          have hkl : k < l.length := by rw [Hn.out]; exact hlt
          refine ⟨k + 1, from_, size + (key.size + val.size + 16), M + 1, c9, oc, NP, q9, o, vs, pre, by omega, by omega, .inl (by omega), by omega, by have := HM.out; omega, by go_num, ?_, rfl, rfl, HNP.out, by omega, ?_, ?_, ?_, ?_, ?_, HB9.out.trans (HBz.out.mono HB9.out.size)⟩
          · congr 1
            omega
          · have h := HPre2.out
            rw [gPt_step hkl hfk, HFac.out] at h
            exact h
          · rw [subF_snoc hfk hkl, ← Hf.out, fCells_append]
            exact own_below G1.out HBz.out
          · exact own_below (own_kinds HO3b.out HO4a.out (by decide) G2.out) HBz.out
          · exact (HChb.out.other G2.out HAp.out).below HBz.out
          · intro v hv g hg
            rcases G3.out with h | ⟨g3, h, hlg⟩
            · have h5 := HAp.out v hv g hg
              rw [h]
              first | exact h5 | (cases p <;> exact h5)
            · rw [h]
              have h1 := HChb.out.lt hv hg
              intro e
              cases e
              exact absurd (Nat.lt_of_lt_of_le h1 hlg) (Nat.lt_irrefl _)
        case measure => simp [intOf]; omega
    · obtain rfl : k = n := by omega
      have hend := HPre.out
      rw [show gPt l k from_ size = if from_ < k then [(from_, k)] else [] from by have := @gPt_end l from_ size; rw [Hn.out] at this; exact this] at hend
      by_cases hM0 : M = 0
      · have b0 : decide ((0 : Int) < (M : Int)) = false := by simp; omega
        rw [if_neg (by have := HM.out; omega), List.append_nil] at hend
        have HEnd := hid hend
        clear hend b0
        subst hM0
        go_wp2
        go_ret
        rw [← HEnd.out, ← HNP.out]
        exact ⟨o, oc, vs, rfl, HO3.out, HCh.out, HB.out⟩
      · have b0 : decide ((0 : Int) < (M : Int)) = true := by simp; omega
        have hfk2 : from_ < k := by have := HM.out; omega
        rw [if_pos hfk2] at hend
        have HSr2 := hid (src_rd (P := Tryz.prog) (size := 1) (by decide) (tx := 83) (e' := 23) Tryz.underlying83 (w := wr.alloc (.cells #[.slice p M d] 23)) (ad := some ⟨wr.heap.size, 0, none⟩) (m := 1) 1 (news := [.slice p M d]) rfl (Rd.new wr [.slice p M d] 23) (by simp [Value.oneCell']))
        have hA6 : Below wr.heap.size wr (wr.alloc (.cells #[.slice p M d] 23)) := (Below.refl _ _).alloc (Nat.le_refl _) _
        have HA6 := hid hA6
        have HO3a := hid (own_below HO3.out hA6)
        have hM1 : NP + 1 ≤ maxLen := by unfold maxLen; omega
        have hM2 : (NP + 1) * 24 ≤ 140737488355328 := by omega
        have HM3 := hid (show w.heap.size ≤ (wr.alloc (.cells #[.slice p M d] 23)).heap.size from (HB.out.trans (hA6.mono HB.out.size)).size)
        have HEnd := hid hend
        have hMp : 0 < M := by omega
        clear hA6 hM0 hend
        go_wp2_with (refine wpList_append_src rfl (.tmp 59) (.tmp 61) 83 83 rfl w.heap.size 23 (.slice none 0 0) 1 24 Tryz.underlying83 infoSlF rfl (by decide) o NP oc _ rfl HO3a.out _ 1 [.slice p M d] rfl HSr2.out hM1 hM2 HM3.out ?_; intro q7 c7 w7 k1 k2 k3; have K1 := hid k1; have K2 := hid k2; clear k1 k2 k3)
        have hmk : (from_, k).2 - (from_, k).1 = M := HM.out.symm
        have hown7 : w7.ownsRow w.heap.size 65 6 (.slice p M d) M (fCells (subF l (from_, k))) := own_kinds (own_below HO4.out HA6.out) HO3a.out (by decide) K2.out
        have hch7 : PtV w7 w.heap.size l vs pre := (HCh.out.below HA6.out).kinds HO3a.out (by decide) K2.out
        have hsn := hch7.snoc (a := p) (c := d) (x := (from_, k)) hfk2 (show k ≤ l.length by rw [Hn.out]; exact Nat.le_refl _) (by rw [hmk]; exact hown7)
        rw [hmk] at hsn
        have HB7 := hid (Below.grown' (HB.out.trans (HA6.out.mono HB.out.size)) HO3a.out K2.out HM3.out)
        have hlen : (partsI l).length = NP + 1 := by rw [← HEnd.out, List.length_append, ← HNP.out]; rfl
        go_ret
        rw [hlen, ← HEnd.out]
        exact ⟨q7, c7, _, rfl, K1.out, hsn, HB7.out⟩
end Go.Proofs.Herb
namespace Go.Proofs.Herb
open Go.RowKit
/-! a disk, as it is told -/
structure DF where
  b : List UInt8
  sure : Nat
structure DC where
  name : ByteArray
  file : Int
  gone : ByteArray
abbrev Dir := List (ByteArray × Nat × Nat)
structure DS where
  room : Int
  fuse : Int
  dead : Bool
  files : List DF
  names : Dir
  nclock : Nat
  sured : Dir
  sclock : Nat
  changes : List DC
/-- where it lies -/
structure DM where
  D : Nat
  M : Nat
  S : Nat
  fv : Value
  cv : Value
  bs : List Value
def encE (e : ByteArray × Nat × Nat) : MapEntry := { key := .string e.1, val := .int .i64 (e.2.1 : Int), born := e.2.2 }
def encDir (d : Dir) : Array MapEntry := (d.map encE).toArray
def dfCells : List Value → List DF → List Value
  | v :: vs, f :: fs => v :: .int .i64 (f.sure : Int) :: dfCells vs fs
  | _, _ => []
def cCells (l : List DC) : List Value := l.flatMap fun c => [.string c.name, .int .i64 c.file, .string c.gone]
def DM.fp (m : DM) : List Nat := m.D :: m.M :: m.S :: (m.fv.ownBlock.toList ++ (m.cv.ownBlock.toList ++ m.bs.filterMap Value.ownBlock))
structure DiskAt (w : World) (m : DM) (s : DS) : Prop where
  disk : w.heap[m.D]? = some (.cells #[.int .i64 s.room, .int .i64 s.fuse, .bool s.dead, m.fv, .map (some m.M), .map (some m.S), m.cv] 103 (0, 0))
  names : w.heap[m.M]? = some (.map (encDir s.names) s.nclock)
  sured : w.heap[m.S]? = some (.map (encDir s.sured) s.sclock)
  files : w.ownsRow 0 109 2 m.fv s.files.length (dfCells m.bs s.files)
  len : m.bs.length = s.files.length
  bytes : ∀ (i : Nat) (v : Value) (f : DF), m.bs[i]? = some v → s.files[i]? = some f → w.ownsRow 0 5 1 v f.b.length (f.b.map bv)
  changes : w.ownsRow 0 106 3 m.cv s.changes.length (cCells s.changes)
  nodup : m.fp.Nodup
/-- what a call may have turned -/
structure Mod (fp fp' : List Nat) (w w' : World) : Prop where
  os : w'.os = w.os
  tape : w'.tape = w.tape
  output : w'.output = w.output
  size : w.heap.size ≤ w'.heap.size
  block : ∀ k, k < w.heap.size → k ∉ fp → w'.heap[k]? = w.heap[k]?
  grow : ∀ k, k ∈ fp' → k ∈ fp ∨ w.heap.size ≤ k
theorem own_keep {w w' : World} {base : Nat} {e : TypeId} {k : Nat} {v : Value} {n : Nat} {xs : List Value} (h : w.ownsRow base e k v n xs) (hb : ∀ g, v.ownBlock = some g → w'.heap[g]? = w.heap[g]?) : w'.ownsRow base e k v n xs := by
  obtain ⟨h1, h2⟩ := h
  refine ⟨h1, ?_⟩
  rcases h2 with h2 | ⟨g, cap, cur, rfl, hg, hh, r⟩
  · exact .inl h2
  · exact .inr ⟨g, cap, cur, rfl, hg, (hb g rfl).trans hh, r⟩
theorem own_lt {w : World} {base : Nat} {e : TypeId} {k : Nat} {v : Value} {n : Nat} {xs : List Value} (h : w.ownsRow base e k v n xs) {g : Nat} (hg : v.ownBlock = some g) : g < w.heap.size := (h.lt g hg).2
theorem mem_fp_f {m : DM} {g : Nat} (h : m.fv.ownBlock = some g) : g ∈ m.fp := by simp [DM.fp, h]
theorem mem_fp_c {m : DM} {g : Nat} (h : m.cv.ownBlock = some g) : g ∈ m.fp := by simp [DM.fp, h]
theorem mem_fp_b {m : DM} {g i : Nat} {v : Value} (h : m.bs[i]? = some v) (hv : v.ownBlock = some g) : g ∈ m.fp := by
  simp only [DM.fp, List.mem_cons, List.mem_append, List.mem_filterMap]
  exact .inr (.inr (.inr (.inr (.inr ⟨v, List.mem_of_getElem? h, hv⟩))))
theorem DiskAt.keep {w w' : World} {m : DM} {s : DS} (h : DiskAt w m s) (hk : ∀ k, k ∈ m.fp → w'.heap[k]? = w.heap[k]?) : DiskAt w' m s :=
  ⟨(hk _ (by simp [DM.fp])).trans h.disk, (hk _ (by simp [DM.fp])).trans h.names, (hk _ (by simp [DM.fp])).trans h.sured,
   own_keep h.files (fun g hg => hk g (mem_fp_f hg)), h.len, fun i v f hv hf => own_keep (h.bytes i v f hv hf) (fun g hg => hk g (mem_fp_b hv hg)),
   own_keep h.changes (fun g hg => hk g (mem_fp_c hg)), h.nodup⟩
theorem DiskAt.lt {w : World} {m : DM} {s : DS} (h : DiskAt w m s) : ∀ k, k ∈ m.fp → k < w.heap.size := by
  intro k hk
  simp only [DM.fp, List.mem_cons, List.mem_append, List.mem_filterMap, Option.mem_toList] at hk
  rcases hk with rfl | rfl | rfl | hk | hk | ⟨v, hv, hk⟩
  · exact lt_of_block h.disk
  · exact lt_of_block h.names
  · exact lt_of_block h.sured
  · exact own_lt h.files hk
  · exact own_lt h.changes hk
  · obtain ⟨i, hi⟩ := List.mem_iff_getElem?.1 hv
    have hil : i < s.files.length := by rw [← h.len]; exact (List.getElem?_eq_some_iff.1 hi).1
    exact own_lt (h.bytes i v _ hi (List.getElem?_eq_getElem hil)) hk
theorem DiskAt.below {w w' : World} {m : DM} {s : DS} (h : DiskAt w m s) (hb : Below w.heap.size w w') : DiskAt w' m s := h.keep fun k hk => hb.block k (h.lt k hk)
theorem Mod.refl (fp : List Nat) (w : World) : Mod fp fp w w := ⟨rfl, rfl, rfl, Nat.le_refl _, fun _ _ _ => rfl, fun _ h => .inl h⟩
theorem Mod.of_below {w w' : World} (fp : List Nat) (hb : Below w.heap.size w w') : Mod fp fp w w' := ⟨hb.os, hb.tape, hb.output, hb.size, fun k hk _ => hb.block k hk, fun _ h => .inl h⟩
theorem Mod.trans {a b c : List Nat} {w w1 w2 : World} (h : Mod a b w w1) (k : Mod b c w1 w2) : Mod a c w w2 :=
  ⟨k.os.trans h.os, k.tape.trans h.tape, k.output.trans h.output, Nat.le_trans h.size k.size,
   fun i hi hn => (k.block i (Nat.lt_of_lt_of_le hi h.size) (fun e => by rcases h.grow i e with g | g; exact hn g; omega)).trans (h.block i hi hn),
   fun i hi => by
     rcases k.grow i hi with g | g
     · exact h.grow i g
     · right; have := h.size; omega⟩
theorem Mod.below {fp fp' : List Nat} {w w' : World} (h : Mod fp fp' w w') {B : Nat} (hB : B ≤ w.heap.size) (hf : ∀ k, k ∈ fp → B ≤ k) : Below B w w' :=
  ⟨h.os, h.tape, h.output, h.size, fun k hk => h.block k (by omega) (fun e => by have := hf k e; omega)⟩
/-! a directory's look-up -/
theorem bab (a b : ByteArray) : (a == b) = decide (a = b) := by
  rw [Bool.eq_iff_iff, decide_eq_true_iff]
  obtain ⟨a⟩ := a
  obtain ⟨b⟩ := b
  show (a == b) = true ↔ _
  rw [beq_iff_eq, ByteArray.mk.injEq]
def look (d : Dir) (k : ByteArray) : Option Nat := (d.find? (fun e => decide (e.1 = k))).map (·.2.1)
def lookAt (d : Dir) (k : ByteArray) : Option Nat := d.findIdx? (fun e => decide (e.1 = k))
theorem find_enc (k : ByteArray) : ∀ (d : Dir) (i : Nat), Instr.findNow .string (.string k) (d.map encE) i = some ((lookAt d k).map fun j => (i + j, .int .i64 (((look d k).getD 0 : Nat) : Int)))
  | [], i => rfl
  | e :: d, i => by
    have h := find_enc k d (i + 1)
    unfold lookAt at h ⊢
    unfold look at h ⊢
    simp only [List.map_cons, Instr.findNow, List.findIdx?_cons, List.find?_cons]
    have hs : Instr.sameNow .string (.string k) (encE e).key = some (decide (e.1 = k)) := by
      show some (k == e.1) = _
      rw [bab]; congr 1; rw [Bool.eq_iff_iff]; simp [eq_comm]
    rw [hs]
    by_cases he : e.1 = k
    · simp [he, encE]
    · simp only [he, decide_false, Bool.false_eq_true, if_false]
      rw [h]
      cases List.findIdx? (fun e => decide (e.1 = k)) d with
      | none => rfl
      | some j => simp [Nat.add_comm, Nat.add_left_comm]
theorem len_enc (d : Dir) : (encDir d).size = d.length := by simp [encDir]
theorem run_findKey (w : World) (d : Dir) (k : ByteArray) : (Instr.findKey 9 (.string k) (encDir d).toList).run Tryz.prog w = .ok ((lookAt d k).map fun j => (j, .int .i64 (((look d k).getD 0 : Nat) : Int))) w := by
  have h := find_enc k d 0
  simp only [Nat.zero_add] at h
  unfold Instr.findKey
  rw [Sem.run_bind, run_underlying Tryz.underlying9]
  simp only [Result.andThen_ok, encDir, List.toList_toArray, h]
  rfl
theorem run_checkKey9 (b : Bool) (n : Nat) (w : World) (k : ByteArray) : (Instr.checkKey b (n + 1) 9 (.string k)).run Tryz.prog w = .ok () w := by
  unfold Instr.checkKey
  rw [Sem.run_bind, run_underlying Tryz.underlying9]
  rfl
theorem run_getMap (w : World) (M : Nat) (es : Array MapEntry) (c : Nat) (h : w.heap[M]? = some (.map es c)) : (getObj M).run Tryz.prog w = .ok (.map es c) w := by
  simp [getObj, Sem.run, h]
theorem run_setMap (w : World) (M : Nat) (es es' : Array MapEntry) (c c' : Nat) (h : w.heap[M]? = some (.map es c)) : (setObj M (.map es' c')).run Tryz.prog w = .ok () { w with heap := w.heap.setIfInBounds M (.map es' c') } := by
  simp [setObj, Sem.run, h]
theorem look_cases (d : Dir) (k : ByteArray) : (lookAt d k = none ∧ look d k = none) ∨ ∃ i e, lookAt d k = some i ∧ d[i]? = some e ∧ e.1 = k ∧ look d k = some e.2.1 := by
  unfold lookAt look
  induction d with
  | nil => exact .inl ⟨rfl, rfl⟩
  | cons e d ih =>
    simp only [List.findIdx?_cons, List.find?_cons]
    by_cases he : e.1 = k
    · right; exact ⟨0, e, by simp [he], rfl, he, by simp [he]⟩
    · simp only [he, decide_false, Bool.false_eq_true, if_false]
      rcases ih with ⟨h1, h2⟩ | ⟨i, e', h1, h2, h3, h4⟩
      · left; rw [h1, h2]; exact ⟨rfl, rfl⟩
      · right; exact ⟨i + 1, e', by rw [h1]; rfl, by simpa using h2, h3, h4⟩
theorem run_lookup (w : World) (M : Nat) (d : Dir) (c : Nat) (k : ByteArray) (ok : Bool) (h : w.heap[M]? = some (.map (encDir d) c)) :
    (Instr.lookup 98 (.map (some M)) (.string k) ok).run Tryz.prog w = .ok (if ok then .tuple #[.int .i64 (((look d k).getD 0 : Nat) : Int), .bool (look d k).isSome] else .int .i64 (((look d k).getD 0 : Nat) : Int)) w := by
  have hz : (zeroValue 3).run Tryz.prog w = .ok (.int .i64 0) w := by kernel_rfl
  have hf := run_findKey w d k
  unfold Instr.lookup
  simp only [Sem.run_bind, run_underlying Tryz.underlying98, Result.andThen_ok, run_getMap w M _ c h, Sem.run_pure, run_checkKey9 _ 9999, hf]
  rcases look_cases d k with ⟨h1, h2⟩ | ⟨i, e, h1, _, _, h2⟩
  · cases ok <;> simp [h1, h2, hz]
  · cases ok <;> simp [h1, h2]
def setMap (w : World) (M : Nat) (d : Dir) (c : Nat) : World := { w with heap := w.heap.setIfInBounds M (.map (encDir d) c) }
theorem setMap_size (w : World) (M : Nat) (d : Dir) (c : Nat) : (setMap w M d c).heap.size = w.heap.size := by simp [setMap]
theorem setMap_at {w : World} {M : Nat} (h : M < w.heap.size) (d : Dir) (c : Nat) : (setMap w M d c).heap[M]? = some (.map (encDir d) c) := by simp [setMap, h]
theorem setMap_other (w : World) (M k : Nat) (h : k ≠ M) (d : Dir) (c : Nat) : (setMap w M d c).heap[k]? = w.heap[k]? := by
  simp only [setMap]; rw [Array.getElem?_setIfInBounds_ne (Ne.symm h)]
/-- a name more, or another file for it -/
def dirSet (d : Dir) (c : Nat) (k : ByteArray) (v : Nat) : Dir := match lookAt d k with
  | some i => d.modify i fun e => (k, v, e.2.2)
  | none => d ++ [(k, v, c)]
def clkSet (d : Dir) (c : Nat) (k : ByteArray) : Nat := match lookAt d k with
  | some _ => c
  | none => c + 1
def dirDel (d : Dir) (k : ByteArray) : Dir := match lookAt d k with
  | some i => d.eraseIdx i
  | none => d
theorem encDir_get (d : Dir) (i : Nat) : (encDir d)[i]? = (d[i]?).map encE := by simp [encDir]
theorem dirSet_none {d : Dir} {k : ByteArray} (h : lookAt d k = none) (c v : Nat) : (encDir d).push { key := .string k, val := .int .i64 (v : Int), born := c } = encDir (dirSet d c k v) ∧ c + 1 = clkSet d c k := by
  unfold dirSet clkSet
  rw [h]
  exact ⟨by simp [encDir, encE], rfl⟩
theorem dirSet_some {d : Dir} {k : ByteArray} {i : Nat} (h : lookAt d k = some i) (c v : Nat) : ((encDir d).modify i fun e => { e with key := .string k, val := .int .i64 (v : Int) }) = encDir (dirSet d c k v) ∧ c = clkSet d c k := by
  unfold dirSet clkSet
  rw [h]
  refine ⟨?_, rfl⟩
  apply Array.ext_getElem?
  intro j
  rw [encDir_get, List.getElem?_modify, Array.getElem?_modify, encDir_get]
  by_cases hj : i = j
  · subst hj; cases d[i]? <;> simp [encE]
  · simp [hj]
theorem dirDel_none {d : Dir} {k : ByteArray} (h : lookAt d k = none) : encDir d = encDir (dirDel d k) := by unfold dirDel; rw [h]
theorem dirDel_some {d : Dir} {k : ByteArray} {i : Nat} (h : lookAt d k = some i) : (encDir d).eraseIdxIfInBounds i = encDir (dirDel d k) := by
  unfold dirDel
  rw [h]
  unfold encDir
  rw [List.eraseIdxIfInBounds_toArray]
  congr 1
  apply List.ext_getElem?
  intro j
  simp only [List.getElem?_eraseIdx, List.getElem?_map]
  split <;> rfl
theorem run_update (w : World) (M : Nat) (d : Dir) (c : Nat) (k : ByteArray) (v : Nat) (h : w.heap[M]? = some (.map (encDir d) c)) :
    (Instr.mapUpdate 98 (.map (some M)) (.string k) (.int .i64 (v : Int))).run Tryz.prog w = .ok () (setMap w M (dirSet d c k v) (clkSet d c k)) := by
  have hf := run_findKey w d k
  unfold Instr.mapUpdate
  simp only [Sem.run_bind, run_underlying Tryz.underlying98, Result.andThen_ok, run_getMap w M _ c h, run_checkKey9 _ 9999, hf]
  rcases look_cases d k with ⟨h1, h2⟩ | ⟨i, e, h1, h3, h4, h2⟩
  · obtain ⟨e1, e2⟩ := dirSet_none h1 c v
    simp only [h1, Option.map_none, run_setMap w M _ _ c _ h, e1]
    unfold setMap
    rw [← e2]
  · obtain ⟨e1, e2⟩ := dirSet_some h1 c v
    simp only [h1, Option.map_some]
    have hk : (Instr.keyThatStays (((encDir d)[i]?.map (·.key)).getD (.string k)) (.string k)).run Tryz.prog w = .ok (.string k) w := by
      rw [encDir_get, h3]
      simp [Instr.keyThatStays, encE, h4, Instr.sameBits, bab]
    rw [Sem.run_bind, hk]
    simp only [Result.andThen_ok, run_setMap w M _ _ c _ h, e1]
    unfold setMap
    rw [← e2]
theorem run_delete (w : World) (M : Nat) (d : Dir) (c : Nat) (k : ByteArray) (ty : TypeId) (h : w.heap[M]? = some (.map (encDir d) c)) :
    (Builtin.delete_ #[98, 9] ty #[.map (some M), .string k]).run Tryz.prog w = .ok (.tuple #[]) (setMap w M (dirDel d k) c) := by
  have hf := run_findKey w d k
  unfold Builtin.delete_
  simp only [List.getElem?_toArray, List.getElem?_cons_zero, List.getElem?_cons_succ, Sem.run_bind, run_underlying Tryz.underlying98, Result.andThen_ok, run_getMap w M _ c h, run_checkKey9 _ 9999, hf]
  rcases look_cases d k with ⟨h1, h2⟩ | ⟨i, e, h1, h3, h4, h2⟩
  · have e1 := dirDel_none h1
    simp only [h1, Option.map_none]
    rw [Sem.run_bind, run_setMap w M _ _ c _ h, e1]
    rfl
  · have e1 := dirDel_some h1
    simp only [h1, Option.map_some]
    rw [Sem.run_bind, run_setMap w M _ _ c _ h, e1]
    rfl
theorem wpList_delete_dir {ops : Array Oper} {rest : List Oper} {o : Oper} {a : Act} {w : World} {Q : Exit → Act → World → Prop} (hgd : o.guard = none) (hdst : o.dst = none) (s x : Operand) (ho : o.op = .call { callee := .builtin .delete, args := #[s, x], argTypes := #[98, 9] })
    (M : Nat) (d : Dir) (c : Nat) (k : ByteArray) (hs : a.eval s = .map (some M)) (hx : a.eval x = .string k) (h : w.heap[M]? = some (.map (encDir d) c))
    (hK : wpList Tryz.prog ops Q rest a (setMap w M (dirDel d k) c)) : wpList Tryz.prog ops Q (o :: rest) a w := by
  refine wpList_plain hgd fun K hK' => ?_
  have hrun := run_delete w M d c k o.type h
  unfold Oper.wp
  simp [execOp, ho, resolve, invoke, builtin, hs, hx, hrun, Result.andThen]
  rw [Oper.upon_value, hdst]; exact hK' _ _ hK
end Go.Proofs.Herb
