/- ChoresBack's walk. A table one of whose bytes is another one: plain. -/
import Derived.Test.YtbeaehhdglhihaaGreatDoorQc22
import Derived.Test.YtbeaehhdglhihaaGreatDoorQc31
import Derived.Test.YtbeaehhdglhihaaGreatDoorQc32
import Derived.Test.YtbeaehhdglhihaaGreatDoorQc33
namespace Go.Proofs.Herb
open Go.RowKit Go.Sort
theorem tbCells_at {ts : List Tab} {k : Nat} {t : Tab} (h : ts[k]? = some t) (j : Nat) (hj : j < 4) : (tbCells ts)[k * 4 + j]? = t.cells[j]? := by
  induction ts generalizing k with
  | nil => simp at h
  | cons x r ih =>
    have e : tbCells (x :: r) = x.cells ++ tbCells r := rfl
    cases k with
    | zero =>
      rw [List.getElem?_cons_zero] at h
      cases h
      rw [e, List.getElem?_append_left (by simp [Tab.cells]; omega), Nat.zero_mul, Nat.zero_add]
    | succ k =>
      rw [List.getElem?_cons_succ] at h
      rw [e, List.getElem?_append_right (by simp [Tab.cells]; omega), show (k + 1) * 4 + j - x.cells.length = k * 4 + j by simp [Tab.cells]; omega]
      exact ih h
/-- a slice of tables, read: its cells -/
theorem tab_at {w : World} {b0 : Nat} {a : Option Addr} {N : Nat} {ts : List Tab} (hF : Fr w b0 54 4 (.slice a N N) N (tbCells ts)) (hN : 0 < N) :
    ∃ tb : Nat, a = some ⟨tb, 0, none⟩ ∧ b0 ≤ tb ∧ tb < w.heap.size ∧ ∀ k t, ts[k]? = some t → k < N → w.cell? ⟨tb, k * 4, none⟩ = some (.int .u64 (t.file : Int)) ∧ w.cell? ⟨tb, k * 4 + 1, none⟩ = some (.int .u32 (t.bytes : Int)) ∧ w.cell? ⟨tb, k * 4 + 2, none⟩ = some (.string t.low) ∧ w.cell? ⟨tb, k * 4 + 3, none⟩ = some (.string t.high) := by
  rcases hF.2 with ⟨e, h0⟩ | ⟨g, cap, cur, e, hge, hh, _, _, _, hcur⟩
  · cases e; omega
  · cases e
    refine ⟨g, rfl, hge, lt_of_block hh, fun k t hk hN => ?_⟩
    have h1 : ∀ j u, j < 4 → t.cells[j]? = some u → w.cell? ⟨g, k * 4 + j, none⟩ = some u := fun j u hj hu => by
      have h2 := tbCells_at hk j hj
      rw [hu] at h2
      rw [cell_of_row w g _ _ _ _ hh]
      rw [← hcur, List.getElem?_take_of_lt (by omega)] at h2
      simpa using h2
    exact ⟨h1 0 _ (by omega) rfl, h1 1 _ (by omega) rfl, h1 2 _ (by omega) rfl, h1 3 _ (by omega) rfl⟩
end Go.Proofs.Herb
namespace Go.Proofs.Herb
open Go.RowKit
/-! the sum tells of one byte that is another one -/
theorem crcBit_inj {a b : BitVec 32} (h : crcBit a = crcBit b) : a = b := by
  have hz : crcBit (a ^^^ b) = 0#32 := by rw [crcBit_xor, h, BitVec.xor_self]
  have key : ∀ x : BitVec 32, crcBit x = 0#32 → x = 0#32 := by
    intro x hx
    unfold crcBit at hx
    have h31 := congrArg (fun y => y.getLsbD 31) hx
    simp only [BitVec.getLsbD_xor, BitVec.getLsbD_ushiftRight] at h31
    cases hl : x.getLsbD 0 with
    | true => rw [hl] at h31; simp at h31
    | false =>
      rw [hl] at hx
      simp at hx
      apply BitVec.eq_of_getLsbD_eq
      intro i hi
      cases i with
      | zero => simpa using hl
      | succ i =>
        have := congrArg (fun y => y.getLsbD i) hx
        simp only [BitVec.getLsbD_ushiftRight] at this
        rw [Nat.add_comm] at this
        simpa using this
  exact BitVec.xor_eq_zero_iff.1 (key _ hz)
theorem crcBits_inj : ∀ (n : Nat) {a b : BitVec 32}, crcBits n a = crcBits n b → a = b
  | 0, _, _, h => h
  | n + 1, _, _, h => crcBit_inj (crcBits_inj n h)
theorem crcByte_inj {x y : BitVec 32} {c : BitVec 8} (h : crcByte x c = crcByte y c) : x = y := by
  have := crcBits_inj 8 h
  exact (BitVec.xor_right_inj _).1 (by rw [BitVec.xor_comm, this, BitVec.xor_comm])
theorem crcByte_inj2 {x : BitVec 32} {c d : BitVec 8} (h : crcByte x c = crcByte x d) : c = d := by
  have h1 := crcBits_inj 8 h
  have h2 : c.setWidth 32 = d.setWidth 32 := (BitVec.xor_right_inj _).1 h1
  apply BitVec.eq_of_toNat_eq
  have h3 := congrArg BitVec.toNat h2
  simp only [BitVec.toNat_setWidth] at h3
  have := c.isLt
  have := d.isLt
  omega
theorem crcFold_inj : ∀ (l : List UInt8) {x y : BitVec 32}, crcFold x l = crcFold y l → x = y
  | [], _, _, h => h
  | c :: l, _, _, h => crcByte_inj (c := c.toBitVec) (crcFold_inj l h)
theorem crcFold_set : ∀ (l : List UInt8) (i : Nat) (c : UInt8) (x : BitVec 32), i < l.length → l.getD i 0 ≠ c → crcFold x (l.set i c) ≠ crcFold x l
  | [], _, _, _, h, _ => by simp at h
  | d :: l, 0, c, x, _, hc => by
    intro h
    have h1 := crcFold_inj l (x := crcByte x c.toBitVec) (y := crcByte x d.toBitVec) h
    have h2 := crcByte_inj2 h1
    apply hc
    show d = c
    exact (UInt8.eq_of_toBitVec_eq h2).symm
  | d :: l, i + 1, c, x, hi, hc => by
    intro h
    exact crcFold_set l i c (crcByte x d.toBitVec) (by simpa using hi) (by simpa using hc) h
theorem crcMore_set {l : List UInt8} {i : Nat} {c : UInt8} (s : BitVec 32) (hi : i < l.length) (hc : l.getD i 0 ≠ c) : crcMore s (l.set i c) ≠ crcMore s l := by
  intro h
  unfold crcMore at h
  refine crcFold_set l i c (~~~ s) hi hc ?_
  have h1 := congrArg (fun y => ~~~ y) h
  simpa only [BitVec.not_not] using h1
theorem getD_opt (x : List UInt8) (j : Nat) : x.getD j 0 = (x[j]?).getD 0 := rfl
/-- a sum at the end finds one byte that is another one -/
theorem sum_set {x : List UInt8} {n : Nat} (hx : x.length = n + 4) (h : num4 x n = (crcMore 0 (x.take n)).toNat) {j : Nat} {c : UInt8} (hj : j < x.length) (hc : x.getD j 0 ≠ c) : num4 (x.set j c) n ≠ (crcMore 0 ((x.set j c).take n)).toNat := by
  intro he
  rw [List.take_set] at he
  by_cases hjn : j < n
  · have e1 : num4 (x.set j c) n = num4 x n := by
      unfold num4
      rw [List.getElem?_set_ne (by omega), List.getElem?_set_ne (by omega), List.getElem?_set_ne (by omega), List.getElem?_set_ne (by omega)]
    rw [e1, h] at he
    refine crcMore_set (l := x.take n) (i := j) (c := c) 0 (by rw [List.length_take]; omega) ?_ (BitVec.eq_of_toNat_eq he.symm)
    rw [getD_opt, List.getElem?_take_of_lt hjn]
    exact hc
  · have e1 : (x.take n).set j c = x.take n := List.set_eq_of_length_le (by rw [List.length_take]; omega)
    rw [e1, ← h] at he
    have hb : (x[j]?).getD 0 ≠ c := hc
    have hb2 : ((x[j]?).getD 0).toNat ≠ c.toNat := fun e => hb (UInt8.toNat_inj.1 e)
    have hs : ((x.set j c)[j]?).getD 0 = c := by rw [List.getElem?_set_self hj]; rfl
    unfold num4 at he
    rcases (show j = n ∨ j = n + 1 ∨ j = n + 2 ∨ j = n + 3 by omega) with rfl | rfl | rfl | rfl
    · rw [hs, List.getElem?_set_ne (by omega), List.getElem?_set_ne (by omega), List.getElem?_set_ne (by omega)] at he
      have h1 := ((x[j]?).getD 0).toNat_lt
      have h2 := c.toNat_lt
      omega
    · rw [hs, List.getElem?_set_ne (by omega), List.getElem?_set_ne (by omega), List.getElem?_set_ne (by omega)] at he
      omega
    · rw [hs, List.getElem?_set_ne (by omega), List.getElem?_set_ne (by omega), List.getElem?_set_ne (by omega)] at he
      omega
    · rw [hs, List.getElem?_set_ne (by omega), List.getElem?_set_ne (by omega), List.getElem?_set_ne (by omega)] at he
      omega
theorem blk_sum {x : List UInt8} {l : List Item} (h : BlkOf x l) : 12 ≤ x.length ∧ num4 x (x.length - 4) = (crcMore 0 (x.take (x.length - 4))).toNat := by
  have h1 := blk_open h
  unfold openB at h1
  split at h1
  · cases h1
  · split at h1
    · cases h1
    · rename_i h2 h3
      exact ⟨by omega, by simpa using h3⟩
theorem blk_set {x : List UInt8} {l l' : List Item} (h : BlkOf x l) {j : Nat} {c : UInt8} (hj : j < x.length) (hc : x.getD j 0 ≠ c) : ¬ BlkOf (x.set j c) l' := fun h' => by
  obtain ⟨h1, h2⟩ := blk_sum h
  obtain ⟨-, h3⟩ := blk_sum h'
  rw [List.length_set] at h3
  exact sum_set (n := x.length - 4) (by omega) h2 hj hc h3
theorem part_set (b : List UInt8) (i : Nat) (c : UInt8) (A M : Nat) : ((b.set i c).drop A).take M = if A ≤ i ∧ i < A + M then ((b.drop A).take M).set (i - A) c else (b.drop A).take M := by
  rw [List.drop_set]
  by_cases h : i < A
  · rw [if_pos h, if_neg (by omega)]
  · rw [if_neg h, List.take_set]
    by_cases h2 : i < A + M
    · rw [if_pos ⟨by omega, h2⟩]
    · rw [if_neg (by omega)]
      exact List.set_eq_of_length_le (by rw [List.length_take]; omega)
theorem part_get {b : List UInt8} {i : Nat} {c : UInt8} {A M : Nat} (hc : b.getD i 0 ≠ c) (h1 : A ≤ i) (h2 : i < A + M) : ((b.drop A).take M).getD (i - A) 0 ≠ c := by
  rw [getD_opt, List.getElem?_take_of_lt (by omega), List.getElem?_drop, show A + (i - A) = i by omega]
  exact hc
/-- what a table with a byte turned may still be opened as -/
theorem turn_opens {b : List UInt8} {r r' : Rdr} {i : Nat} {c : UInt8} (h0 : Opens b r) (hi : i < b.length) (hc : b.getD i 0 ≠ c) (h : Opens (b.set i c) r') :
    i < ftN b 4 ∧ r'.chunks = r.chunks ∧ r'.props = r.props ∧ r'.filter = r.filter ∧ r'.b = b.set i c := by
  have hL := h0.len
  have hE : i < b.length - 40 := by
    rcases Nat.lt_or_ge i (b.length - 40) with h1 | h1
    · exact h1
    · exfalso
      have s0 := h0.sum
      have s1 := h.sum
      unfold ftN at s0 s1
      rw [List.length_set, List.drop_set, if_neg (by omega)] at s1
      refine sum_set (x := b.drop (b.length - 40)) (n := 36) (by rw [List.length_drop]; omega) s0 (j := i - (b.length - 40)) (c := c) (by rw [List.length_drop]; omega) ?_ s1
      rw [getD_opt, List.getElem?_drop, show b.length - 40 + (i - (b.length - 40)) = i by omega]
      exact hc
  have hft : ∀ k, ftN (b.set i c) k = ftN b k := fun k => by
    unfold ftN
    rw [List.length_set, List.drop_set, if_pos hE]
  have hP : ∀ k, ftP (b.set i c) k = if ftN b (4 + 8 * k) ≤ i ∧ i < ftN b (4 + 8 * k) + ftN b (8 + 8 * k) then (ftP b k).set (i - ftN b (4 + 8 * k)) c else ftP b k := fun k => by
    unfold ftP
    rw [hft, hft]
    exact part_set b i c _ _
  have c0 := h0.c0
  have c1 := h0.c1
  have c2 := h0.c2
  have hg : ∀ k, ftN b (4 + 8 * k) ≤ i → i < ftN b (4 + 8 * k) + ftN b (8 + 8 * k) → (i - ftN b (4 + 8 * k) < (ftP b k).length ∧ (ftP b k).getD (i - ftN b (4 + 8 * k)) 0 ≠ c) := fun k h1 h2 => by
    refine ⟨?_, part_get hc h1 h2⟩
    unfold ftP
    rw [List.length_take, List.length_drop]
    omega
  have hA0 : i < ftN b 4 := by
    rcases Nat.lt_or_ge i (ftN b 4) with h1 | h1
    · exact h1
    · exfalso
      by_cases h2 : i < ftN b 12
      · -- the chunks' block
        obtain ⟨l, k1, -⟩ := h0.idx
        obtain ⟨l', k2, -⟩ := h.idx
        have e := hP 0
        rw [if_pos ⟨h1, by show i < ftN b 4 + ftN b 8; omega⟩] at e
        rw [e] at k2
        obtain ⟨g1, g2⟩ := hg 0 h1 (by show i < ftN b 4 + ftN b 8; omega)
        exact blk_set k1 g1 g2 k2
      · by_cases h3 : i < ftN b 20
        · have s0 := h0.s1
          have s1 := h.s1
          have e := hP 1
          rw [if_pos ⟨by show ftN b 12 ≤ i; omega, by show i < ftN b 12 + ftN b 16; omega⟩] at e
          rw [e, hft] at s1
          obtain ⟨g1, g2⟩ := hg 1 (by show ftN b 12 ≤ i; omega) (by show i < ftN b 12 + ftN b 16; omega)
          exact crcMore_set 0 g1 g2 (BitVec.eq_of_toNat_eq (s1.symm.trans s0))
        · have s0 := h0.s2
          have s1 := h.s2
          have e := hP 2
          rw [if_pos ⟨by show ftN b 20 ≤ i; omega, by show i < ftN b 20 + ftN b 24; omega⟩] at e
          rw [e, hft] at s1
          obtain ⟨g1, g2⟩ := hg 2 (by show ftN b 20 ≤ i; omega) (by show i < ftN b 20 + ftN b 24; omega)
          exact crcMore_set 0 g1 g2 (BitVec.eq_of_toNat_eq (s1.symm.trans s0))
  have q0 : ftP (b.set i c) 0 = ftP b 0 := by rw [hP 0, if_neg (by show ¬ (ftN b 4 ≤ i ∧ _); omega)]
  have q1 : ftP (b.set i c) 1 = ftP b 1 := by rw [hP 1, if_neg (by show ¬ (ftN b 12 ≤ i ∧ _); omega)]
  have q2 : ftP (b.set i c) 2 = ftP b 2 := by rw [hP 2, if_neg (by show ¬ (ftN b 20 ≤ i ∧ _); omega)]
  refine ⟨hA0, ?_, ?_, ?_, h.b⟩
  · obtain ⟨l, k1, k2⟩ := h0.idx
    obtain ⟨l', k3, k4⟩ := h.idx
    rw [q0] at k3
    rw [blk_one k1 k3, hft] at k4
    rw [k2] at k4
    exact (Option.some.inj k4).symm
  · have p0 := h0.props
    have p1 := h.props
    rw [q2, p0] at p1
    exact (Option.some.inj p1).symm
  · rw [h.filter, h0.filter, q1]
/-- a chunk's facts, where its bytes are as they were -/
theorem chk_same {r r' : Rdr} {i : Nat} {c : UInt8} (hb : r'.b = r.b.set i c) (hp : r'.props = r.props) {k : Chk} (hk : ¬ (k.beg ≤ i ∧ i < k.fin)) {fs : List Fact} (h : ChkOf r k fs) : ChkOf r' k fs := by
  obtain ⟨l, h1, h2, h3⟩ := h
  refine ⟨l, ?_, h2, by rw [hp]; exact h3⟩
  rw [hb, part_set, if_neg (by omega)]
  exact h1
/-- a chunk one of whose bytes is another one has none -/
theorem chk_turned {r r' : Rdr} {i : Nat} {c : UInt8} (hb : r'.b = r.b.set i c) (hi : i < r.b.length) (hc : r.b.getD i 0 ≠ c) {k : Chk} (h1 : k.beg ≤ i) (h2 : i < k.fin) {fs : List Fact} (h : ChkOf r k fs) : ¬ ∃ fs', ChkOf r' k fs' := fun ⟨fs', l', k1, _⟩ => by
  obtain ⟨l, h3, -⟩ := h
  rw [hb, part_set, if_pos ⟨h1, by omega⟩] at k1
  exact blk_set h3 (by rw [List.length_take, List.length_drop]; omega) (part_get hc h1 (by omega)) k1
theorem keepS_all {s : ByteArray} {fs : List Fact} (h : ∀ f ∈ fs, bL (kput f) s.data.toList = false) : keepS s fs = fs.map fun f => (f, 0) := by
  unfold keepS
  rw [List.filter_eq_self.2 (fun f hf => by rw [h f hf]; rfl)]
/-- what is told up to a chunk that can't be read -/
theorem told_bad {r : Rdr} {s : ByteArray} : ∀ {cs : List Chk} {a : List Fact} {k : Chk} {ds : List Chk}, ChksOf r cs a → (¬ ∃ fs, ChkOf r k fs) → FromR r s (cs ++ k :: ds) (keepS s a ++ [(zFact, 13)])
  | [], a, k, ds, h, hk => by
    obtain rfl : a = [] := h
    exact .inr ⟨hk, rfl⟩
  | c :: cs, a, k, ds, h, hk => by
    obtain ⟨x, y, h1, h2, rfl⟩ := h
    refine .inl ⟨x, keepS s y ++ [(zFact, 13)], h1, told_bad h2 hk, ?_⟩
    rw [keepS_append, List.append_assoc]
theorem seek_low {f : Fact} (o : f.Ok) : bL (kput f) (seekB [] 4294967295) = false := by
  cases h : bL (kput f) (seekB [] 4294967295) with
  | false => rfl
  | true =>
    exfalso
    have h2 := (seek_order o ⟨#[]⟩ 4294967295 (by decide)).1 h
    rcases h2 with h2 | ⟨h2, h3⟩
    · have : ∀ x : List UInt8, bL x [] = false := fun x => by cases x <;> rfl
      rw [show (⟨#[]⟩ : ByteArray).data.toList = [] from rfl, this] at h2
      cases h2
    · have := o.valid
      omega
/-- which chunk a place lies in -/
theorem chunk_of {l : List Fact} {line : Nat} (h : GoodF line l ∧ 0 < l.length) (ho : ∀ f ∈ l, f.Ok) (hl : (tabB line l).length ≤ 65536) {i : Nat} : ∀ (d j : Nat), j + d = (chksF l).length → atF l j ≤ i → i < (outB l).length → ∃ k, j ≤ k ∧ k < (chksF l).length ∧ atF l k ≤ i ∧ i < atF l (k + 1)
  | 0, j, hj, h1, h2 => by
    rw [chksF_len] at hj
    obtain rfl : j = (idxI l).length := by omega
    rw [atF_end] at h1
    omega
  | d + 1, j, hj, h1, h2 => by
    by_cases h3 : i < atF l (j + 1)
    · exact ⟨j, Nat.le_refl _, by omega, h1, h3⟩
    · obtain ⟨k, k1, k2⟩ := chunk_of h ho hl d (j + 1) (by omega) (by omega) h2
      exact ⟨k, by omega, k2⟩
theorem chks_take {line : Nat} {l : List Fact} (h : GoodF line l ∧ 0 < l.length) (ho : ∀ f ∈ l, f.Ok) (hl : (tabB line l).length ≤ 65536) : ∀ k, k ≤ (chksF l).length → ∀ r' : Rdr, (∀ j, (hj : j < k) → (hj2 : j < (chksF l).length) → ∀ fs, ChkOf (rdrF line l) ((chksF l)[j]) fs → ChkOf r' ((chksF l)[j]) fs) → ChksOf r' ((chksF l).take k) (l.take (fromF l k))
  | 0, _, r', _ => by rw [List.take_zero, fromF_zero, List.take_zero]; exact rfl
  | k + 1, hk, r', hr => by
    have h1 := chks_take h ho hl k (by omega) r' (fun j hj hj2 => hr j (by omega) hj2)
    obtain ⟨h2, h3, h4⟩ := chk_tab h ho hl (i := k) (by omega)
    have h5 := h1.snoc (hr k (by omega) (by omega) _ h2)
    rw [List.take_append_getElem] at h5
    have e : l.take (fromF l k) ++ (l.drop (fromF l k)).take (fromF l (k + 1) - fromF l k) = l.take (fromF l (k + 1)) := by
      have := List.take_add (l := l) (i := fromF l k) (j := fromF l (k + 1) - fromF l k)
      rw [show fromF l k + (fromF l (k + 1) - fromF l k) = fromF l (k + 1) by omega] at this
      exact this.symm
    rw [e] at h5
    exact h5
/-- a table with a byte turned that is opened still: all its facts are not told, and of them those ahead of a chunk that can't be read -/
theorem turn_tab {line : Nat} {l : List Fact} (h : GoodF line l ∧ 0 < l.length) (ho : ∀ f ∈ l, f.Ok) (hm : l.length ≤ 6000) (hl : (tabB line l).length ≤ 65536) {i : Nat} {c : UInt8} (hi : i < (tabB line l).length) (hc : (tabB line l).getD i 0 ≠ c) {r' : Rdr} (hr : Opens ((tabB line l).set i c) r') :
    (¬ ∃ fs, AllR r' fs) ∧ ∃ m, m < l.length ∧ FromR r' ⟨(seekB [] 4294967295).toArray⟩ (r'.chunks.drop (seekI r'.chunks ⟨(seekB [] 4294967295).toArray⟩)) ((l.take m).map (fun f => (f, 0)) ++ [(zFact, 13)]) ∧ (∀ fs, ChksOf r' r'.chunks fs → fs.length ≤ 6000) := by
  have h0 := opens_tab h ho hm hl
  obtain ⟨hA, hch, hpr, -, hb⟩ := turn_opens h0 hi hc hr
  have hA4 : ftN (tabB line l) 4 = (outB l).length := by
    have tl := tab_len line l
    have h1 := (tab_parts line l hl 0 (by decide)).1
    unfold ftN
    rw [num4_drop2]
    rw [show (tabB line l).length - 40 + 4 = (tabB line l).length - 36 + 8 * 0 by have := h0.len; omega, h1]
    rfl
  rw [hA4] at hA
  have hck : r'.chunks = chksF l := hch
  obtain ⟨k, -, hk, a1, a2⟩ := chunk_of h ho hl (chksF l).length 0 (by omega) (by rw [atF_zero]; exact Nat.zero_le _) hA
  have hkl : k < (idxI l).length := by rw [← chksF_len]; exact hk
  have hkc : (chksF l)[k] = chkAt l k := by
    have := chksF_get l hkl
    rw [List.getElem?_eq_getElem hk] at this
    exact Option.some.inj this
  obtain ⟨t1, t2, t3⟩ := chk_tab h ho hl hk
  have hno : ¬ ∃ fs, ChkOf r' ((chksF l)[k]) fs := chk_turned (r := rdrF line l) hb hi hc (by rw [hkc]; exact a1) (by rw [hkc]; exact a2) t1
  have hmono : ∀ j, j < k → atF l (j + 1) ≤ atF l k := by
    have step : ∀ j, j < (chksF l).length → atF l j ≤ atF l (j + 1) := fun j hj => by
      obtain ⟨S, m, xs, K, V, hcx⟩ := chunk_all h ho hl (i := j) (by rw [← chksF_len]; exact hj)
      rw [hcx.next]
      omega
    intro j hj
    have key : ∀ d, j + 1 + d ≤ k → atF l (j + 1) ≤ atF l (j + 1 + d) := by
      intro d
      induction d with
      | zero => intro _; exact Nat.le_refl _
      | succ d ih => intro hd; exact Nat.le_trans (ih (by omega)) (step (j + 1 + d) (by omega))
    have := key (k - (j + 1)) (by omega)
    rwa [show j + 1 + (k - (j + 1)) = k by omega] at this
  have hpre := chks_take h ho hl k (by omega) r' (fun j hj hj2 fs hfs => by
    have hjc : (chksF l)[j] = chkAt l j := by
      have := chksF_get l (i := j) (by rw [← chksF_len]; exact hj2)
      rw [List.getElem?_eq_getElem hj2] at this
      exact Option.some.inj this
    refine chk_same (r := rdrF line l) (i := i) (c := c) hb hpr ?_ hfs
    rw [hjc]
    show ¬ (atF l j ≤ i ∧ i < atF l (j + 1))
    have := hmono j hj
    omega)
  have hnoall : ∀ fs, ¬ ChksOf r' r'.chunks fs := fun fs hfs => by
    rw [hck] at hfs
    exact hno (hfs.get hk)
  refine ⟨fun ⟨fs, hfs, _⟩ => hnoall fs hfs, fromF l k, by omega, ?_, fun fs hfs => absurd hfs (hnoall fs)⟩
  rw [hck]
  have hlow : ∀ f ∈ l, bL (kput f) (seekB [] 4294967295) = false := fun f hf => seek_low (ho _ hf)
  have hs0 : seekI (chksF l) ⟨(seekB [] 4294967295).toArray⟩ = 0 := by
    rcases Nat.eq_zero_or_pos (seekI (chksF l) ⟨(seekB [] 4294967295).toArray⟩) with h1 | h1
    · exact h1
    · exfalso
      have h2 := seekI_lt (cs := chksF l) (s := ⟨(seekB [] 4294967295).toArray⟩) (i := 0) (by omega) h1
      obtain ⟨n, hn, -, hlast⟩ := last_tab h ho hl (i := 0) (by omega)
      rw [hlast] at h2
      rw [hlow _ (List.getElem_mem hn)] at h2
      cases h2
  rw [hs0, List.drop_zero]
  have e := told_bad (s := ⟨(seekB [] 4294967295).toArray⟩) (k := (chksF l)[k]) (ds := (chksF l).drop (k + 1)) hpre hno
  rw [← List.drop_eq_getElem_cons hk, List.take_append_drop] at e
  rw [keepS_all (fs := l.take (fromF l k)) (fun f hf => hlow f (List.mem_of_mem_take hf))] at e
  exact e
end Go.Proofs.Herb
