/- tables.Build for those who call it: what it answers. For facts that can be read. Facts, a part of them; which may be a table, one by one: plain. How many bytes a table has at most; which facts may be one: plain. A table's bytes tell its facts: plain. -/
import Derived.Test.YtcmiillgniglaaaGreatDoorQf11
namespace Go.Proofs.Herb
open Go.RowKit
theorem build_no (line : Nat) (q : Option Addr) (n c : Nat) (fs : List Fact) (w : World) (hn : fs.length = n) (hm : n ≤ 6000) (hr : Rd w q (fCells fs)) (ho : ∀ f ∈ fs, f.Ok) (h : ¬ (GoodF line fs ∧ 0 < fs.length)) :
    Calls Tryz.prog 54 #[.int .u64 (line : Int), .slice q n c] w fun e w' => e = .returned (.tuple #[.slice none 0 0, .agg zProps, .int .i64 1]) ∧ Below w.heap.size w w' :=
  (build_any line q n c fs w hn hm hr ho).mono fun e w' h' => by
    obtain ⟨hb, h1 | h1 | h1⟩ := h'
    · exact ⟨h1.2, hb⟩
    · exact absurd ⟨h1.1, h1.2.1⟩ h
    · exact absurd ⟨h1.1, h1.2.1⟩ h
theorem build_big (line : Nat) (q : Option Addr) (n c : Nat) (fs : List Fact) (w : World) (hn : fs.length = n) (hm : n ≤ 6000) (hr : Rd w q (fCells fs)) (ho : ∀ f ∈ fs, f.Ok) (h : GoodF line fs ∧ 0 < fs.length) (hl : 65536 < (tabB line fs).length) :
    Calls Tryz.prog 54 #[.int .u64 (line : Int), .slice q n c] w fun e w' => e = .returned (.tuple #[.slice none 0 0, .agg zProps, .int .i64 3]) ∧ Below w.heap.size w w' :=
  (build_any line q n c fs w hn hm hr ho).mono fun e w' h' => by
    obtain ⟨hb, h1 | h1 | h1⟩ := h'
    · exact absurd h h1.1
    · exact ⟨h1.2.2.2, hb⟩
    · have := h1.2.2.1.2.2; omega
theorem build_ok (line : Nat) (q : Option Addr) (n c : Nat) (fs : List Fact) (w : World) (hn : fs.length = n) (hm : n ≤ 6000) (hr : Rd w q (fCells fs)) (ho : ∀ f ∈ fs, f.Ok) (h : GoodF line fs ∧ 0 < fs.length) (hl : (tabB line fs).length ≤ 65536) :
    Calls Tryz.prog 54 #[.int .u64 (line : Int), .slice q n c] w fun e w' => ∃ p, e = .returned (.tuple #[.slice p (tabB line fs).length (tabB line fs).length, .agg (propsF line fs).cells.toArray, .int .i64 0]) ∧
      Fr w' w.heap.size 5 1 (.slice p (tabB line fs).length (tabB line fs).length) (tabB line fs).length ((tabB line fs).map bv) ∧ Below w.heap.size w w' :=
  (build_any line q n c fs w hn hm hr ho).mono fun e w' h' => by
    obtain ⟨hb, h1 | h1 | h1⟩ := h'
    · exact absurd h h1.1
    · exact absurd ((fits_iff h.1 h.2 ho).2 hl) h1.2.2.1
    · obtain ⟨_, _, _, p, h2, h3⟩ := h1
      exact ⟨p, h2, h3, hb⟩
/-- what it answers: whether -/
noncomputable def buildE (line : Nat) (fs : List Fact) : Int := open Classical in if GoodF line fs ∧ 0 < fs.length then (if (tabB line fs).length ≤ 65536 then 0 else 3) else 1
theorem buildE_zero {line : Nat} {fs : List Fact} : buildE line fs = 0 ↔ (GoodF line fs ∧ 0 < fs.length) ∧ (tabB line fs).length ≤ 65536 := by
  by_cases h : GoodF line fs ∧ 0 < fs.length
  · by_cases hl : (tabB line fs).length ≤ 65536
    · exact ⟨fun _ => ⟨h, hl⟩, fun _ => by unfold buildE; rw [if_pos h, if_pos hl]⟩
    · exact ⟨fun e => by unfold buildE at e; rw [if_pos h, if_neg hl] at e; omega, fun e => absurd e.2 hl⟩
  · exact ⟨fun e => by unfold buildE at e; rw [if_neg h] at e; omega, fun e => absurd e.1 h⟩
theorem buildE_one {line : Nat} {fs : List Fact} : buildE line fs = 1 ↔ ¬ (GoodF line fs ∧ 0 < fs.length) := by
  by_cases h : GoodF line fs ∧ 0 < fs.length
  · by_cases hl : (tabB line fs).length ≤ 65536
    · exact ⟨fun e => by unfold buildE at e; rw [if_pos h, if_pos hl] at e; omega, fun e => absurd h e⟩
    · exact ⟨fun e => by unfold buildE at e; rw [if_pos h, if_neg hl] at e; omega, fun e => absurd h e⟩
  · exact ⟨fun _ => h, fun _ => by unfold buildE; rw [if_neg h]⟩
theorem props_cells8 (p : Props) : p.cells.toArray.size = 8 ∧ ∀ v ∈ p.cells.toArray.toList, v.oneCell' = true := by simp [Props.cells, Value.oneCell']
theorem build_e (line : Nat) (q : Option Addr) (n c : Nat) (fs : List Fact) (w : World) (hn : fs.length = n) (hm : n ≤ 6000) (hr : Rd w q (fCells fs)) (ho : ∀ f ∈ fs, f.Ok) :
    Calls Tryz.prog 54 #[.int .u64 (line : Int), .slice q n c] w fun e w' => ∃ p m d arr, e = .returned (.tuple #[.slice p m d, .agg arr, .int .i64 (buildE line fs)]) ∧ arr.size = 8 ∧ (∀ v ∈ arr.toList, v.oneCell' = true) ∧ Below w.heap.size w w' := by
  by_cases h : GoodF line fs ∧ 0 < fs.length
  · by_cases hl : (tabB line fs).length ≤ 65536
    · rw [buildE_zero.2 ⟨h, hl⟩]
      exact (build_ok line q n c fs w hn hm hr ho h hl).mono fun e w' ⟨p, h1, _, h3⟩ => ⟨p, _, _, _, h1, (props_cells8 _).1, (props_cells8 _).2, h3⟩
    · have e : buildE line fs = 3 := by unfold buildE; rw [if_pos h, if_neg hl]
      rw [e]
      exact (build_big line q n c fs w hn hm hr ho h (by omega)).mono fun e w' ⟨h1, h3⟩ => ⟨none, 0, 0, _, h1, rfl, zProps1, h3⟩
  · rw [buildE_one.2 h]
    exact (build_no line q n c fs w hn hm hr ho h).mono fun e w' ⟨h1, h3⟩ => ⟨none, 0, 0, _, h1, rfl, zProps1, h3⟩
end Go.Proofs.Herb
namespace Go.Proofs.Herb
open Go.RowKit
/-- each of the first, and each two neighbours of them -/
def MayK (line : Nat) (l : List Fact) (k : Nat) : Prop := 0 < l.length ∧ ∀ i, i < k → buildE line ((l.drop i).take 1) = 0 ∧ (0 < i → buildE line ((l.drop (i - 1)).take 2) = 0)
theorem MayK.step {line : Nat} {l : List Fact} {k : Nat} : MayK line l (k + 1) ↔ MayK line l k ∧ buildE line ((l.drop k).take 1) = 0 ∧ (0 < k → buildE line ((l.drop (k - 1)).take 2) = 0) := by
  constructor
  · rintro ⟨h0, h⟩
    exact ⟨⟨h0, fun i hi => h i (by omega)⟩, h k (by omega)⟩
  · rintro ⟨⟨h0, h⟩, h1⟩
    refine ⟨h0, fun i hi => ?_⟩
    by_cases e : i = k
    · subst e; exact h1
    · exact h i (by omega)
end Go.Proofs.Herb
namespace Go.Proofs.Herb
open Go.RowKit
theorem bUp_le {l : List Item} {B : Nat} (h : ∀ x ∈ l, x.key.size + x.val.size ≤ B) : ∀ k, k ≤ l.length → (bUp l k).length ≤ k * (30 + B)
  | 0, _ => by simp [bUp]
  | k + 1, hk => by
    have h1 := bUp_le h k (by omega)
    have h2 := itB_len l k
    have hkl : k < l.length := by omega
    rw [kAt_get hkl, vAt_get hkl, size_toList, size_toList] at h2
    have h3 := h _ (List.getElem_mem hkl)
    rw [bUp_succ, List.length_append, Nat.succ_mul]
    omega
theorem bAll_le {l : List Item} {B : Nat} (h : ∀ x ∈ l, x.key.size + x.val.size ≤ B) : (bAll l).length ≤ l.length * (31 + B) + 11 := by
  have h1 := bUp_le h l.length (Nat.le_refl _)
  have h2 := pUp_len l l.length
  rw [bAll_len, h2]
  rw [show 31 + B = (30 + B) + 1 by omega, Nat.mul_add, Nat.mul_one]
  omega
theorem fold_le {l : List Item} {B : Nat} (h : ∀ x ∈ l, x.key.size + x.val.size ≤ B) : ∀ (r : List (Nat × Nat)) (a : Nat) (s : List UInt8 × List Item), ChainC l.length a r → (r.foldl (stepB l) s).1.length ≤ s.1.length + (l.length - a) * (42 + B) ∧ r.length ≤ l.length - a
  | [], a, s, hc => ⟨by simp, by simp⟩
  | x :: r, a, s, hc => by
    obtain ⟨h1, h2, h3, h4⟩ := hc
    obtain ⟨h5, h6⟩ := fold_le h r x.2 (stepB l s x) h4
    rw [List.foldl_cons]
    have hb := bAll_le (l := subI l x) (B := B) (fun y hy => h y (List.mem_of_mem_drop (List.mem_of_mem_take hy)))
    rw [sub_len h3] at hb
    have e : (stepB l s x).1.length = s.1.length + (bAll (subI l x)).length := by unfold stepB; simp
    rw [e] at h5
    have hx : (l.length - a) * (42 + B) = (l.length - x.2) * (42 + B) + (x.2 - x.1) * (42 + B) := by rw [← Nat.add_mul]; congr 1; omega
    have hy : (x.2 - x.1) * (42 + B) = (x.2 - x.1) * (31 + B) + (x.2 - x.1) * 11 := by rw [← Nat.mul_add]; congr 1; omega
    refine ⟨by omega, ?_⟩
    rw [List.length_cons]
    omega
theorem good_items {line : Nat} {fs : List Fact} (hg : GoodF line fs) : ∀ x ∈ itemsF fs, x.key.size ≤ 79 ∧ x.val.size ≤ 256 := by
  intro x hx
  obtain ⟨f, hf, rfl⟩ := List.mem_map.1 hx
  obtain ⟨i, hi, rfl⟩ := List.mem_iff_getElem.1 hf
  obtain ⟨_, h1, _, h3, _⟩ := hg i hi
  have h4 : (fs[i]).key.size ≤ 32 := by unfold mayF at h1; exact (of_decide_eq_true h1).2.1
  have h5 := esc_len (fs[i]).key.data.toList
  have h6 : (fs[i]).key.data.toList.length = (fs[i]).key.size := by rw [Array.length_toList]; rfl
  have h7 : (itemF fs[i]).key.size = (kput fs[i]).length := by unfold itemF; simp [ByteArray.size]
  have h8 : (kput fs[i]).length = (esc (fs[i]).key.data.toList).length + 2 + 13 := by unfold kput; rw [List.length_append, List.length_append, tailB_len]; rfl
  have h9 : (itemF fs[i]).val.size = (fs[i]).val.size := rfl
  exact ⟨by omega, by omega⟩
theorem good_idx {line : Nat} {fs : List Fact} (hg : GoodF line fs) : ∀ x ∈ idxI fs, x.key.size ≤ 79 ∧ x.val.size ≤ 20 := by
  have key : ∀ (p : List (Nat × Nat)) (s : List UInt8 × List Item), (∀ x ∈ s.2, x.key.size ≤ 79 ∧ x.val.size ≤ 20) → ∀ x ∈ (p.foldl (stepB (itemsF fs)) s).2, x.key.size ≤ 79 ∧ x.val.size ≤ 20 := by
    intro p
    induction p with
    | nil => intro s hs; exact hs
    | cons x r ih =>
      intro s hs
      rw [List.foldl_cons]
      refine ih _ (fun y hy => ?_)
      unfold stepB at hy
      rcases List.mem_append.1 hy with hy | hy
      · exact hs y hy
      · rw [List.mem_singleton] at hy
        subst hy
        refine ⟨lastKey_size (fun z hz => (good_items hg z (List.mem_of_mem_drop (List.mem_of_mem_take hz))).1), ?_⟩
        have h1 := (vput_len s.1.length).2
        have h2 := (vput_len (bAll (subI (itemsF fs) x)).length).2
        simp only [ByteArray.size, List.size_toArray, List.length_append]
        omega
  exact key _ ([], []) (fun x hx => by cases hx)
theorem pp_len2 (p : Props) : (ppB p).length ≤ 80 + p.low.size + p.high.size := by
  have h1 := (vput_len p.line).2
  have h2 := (vput_len p.many).2
  have h3 := (vput_len p.least).2
  have h4 := (vput_len p.greatest).2
  have h5 := (vput_len p.early).2
  have h6 := (vput_len p.late).2
  have h7 := tput_len2 p.low.data.toList
  have h8 := tput_len2 p.high.data.toList
  have h9 := (vput_len p.low.data.toList.length).2
  have h10 := (vput_len p.high.data.toList.length).2
  have h11 := size_toList2 p.low
  have h12 := size_toList2 p.high
  unfold ppB
  simp only [List.length_append]
  omega
theorem props_keys {line : Nat} {fs : List Fact} (hg : GoodF line fs) (h0 : 0 < fs.length) : (propsF line fs).low.size ≤ 32 ∧ (propsF line fs).high.size ≤ 32 := by
  cases fs with
  | nil => simp at h0
  | cons f r =>
    have hk := good_key hg
    exact ⟨hk f (by simp), hk _ (List.getLast_mem (by simp))⟩
theorem foot0_len (line : Nat) (fs : List Fact) : (foot0 line fs).length = 36 := by unfold foot0; simp [le4_len]
theorem tab_len (line : Nat) (fs : List Fact) : (tabB line fs).length = (outB fs).length + (idxB fs).length + (filB fs).length + (tailB2 line fs).length + 40 := by
  unfold tabB bodyB
  simp only [List.length_append, foot0_len, le4_len]
end Go.Proofs.Herb
namespace Go.Proofs.Herb
open Go.RowKit
/-! numbers ahead of whatever -/
theorem byteOf_inj {x y : Nat × Bool} (hx : x.1 < 128) (hy : y.1 < 128) (h : byteOf x = byteOf y) : x = y := by
  have h2 := congrArg UInt8.toNat h
  unfold byteOf at h2
  rw [UInt8.toNat_ofNat', UInt8.toNat_ofNat'] at h2
  obtain ⟨a, b⟩ := x
  obtain ⟨c, d⟩ := y
  simp only at hx hy h2
  cases b <;> cases d <;> simp only [if_true, Bool.false_eq_true, if_false] at h2 <;> simp <;> omega
theorem gF_pre : ∀ (f n m : Nat) (r s : List UInt8), 1 ≤ f → n < 128 ^ f → m < 128 ^ f → (gF f n).map byteOf ++ r = (gF f m).map byteOf ++ s → n = m ∧ r = s
  | 0, _, _, _, _, h, _, _, _ => by omega
  | f + 1, n, m, r, s, _, hn, hm, h => by
    rw [gF, gF, List.map_cons, List.map_cons, List.cons_append, List.cons_append, List.cons.injEq] at h
    obtain ⟨h1, h2⟩ := h
    have h3 := byteOf_inj (Nat.mod_lt n (by decide)) (Nat.mod_lt m (by decide)) h1
    simp only [Prod.mk.injEq, decide_eq_decide] at h3
    by_cases hb : 128 ≤ n
    · have hb2 := h3.2.1 hb
      rw [if_pos hb, if_pos hb2] at h2
      cases f with
      | zero => simp at hn; omega
      | succ f =>
        rw [Nat.pow_succ] at hn hm
        obtain ⟨h4, h5⟩ := gF_pre (f + 1) (n / 128) (m / 128) r s (by omega) (Nat.div_lt_of_lt_mul (by omega)) (Nat.div_lt_of_lt_mul (by omega)) h2
        exact ⟨by omega, h5⟩
    · have hb2 : ¬ 128 ≤ m := fun h => hb (h3.2.2 h)
      rw [if_neg hb, if_neg hb2] at h2
      exact ⟨by omega, by simpa using h2⟩
theorem vput_pre {n m : Nat} {r s : List UInt8} (hn : n < 18446744073709551616) (hm : m < 18446744073709551616) (h : vput n ++ r = vput m ++ s) : n = m ∧ r = s :=
  gF_pre 10 n m r s (by decide) (Nat.lt_trans hn (by decide)) (Nat.lt_trans hm (by decide)) h
theorem tput_pre {a b r s : List UInt8} (ha : a.length < 18446744073709551616) (hb : b.length < 18446744073709551616) (h : tput a ++ r = tput b ++ s) : a = b ∧ r = s := by
  unfold tput at h
  rw [List.append_assoc, List.append_assoc] at h
  obtain ⟨h1, h2⟩ := vput_pre ha hb h
  exact List.append_inj h2 h1
theorem le4_inj {n m : Nat} (hn : n < 4294967296) (hm : m < 4294967296) (h : le4 n = le4 m) : n = m := by
  unfold le4 at h
  simp only [List.cons.injEq, and_true] at h
  obtain ⟨h1, h2, h3, h4⟩ := h
  have k1 := congrArg UInt8.toNat h1
  have k2 := congrArg UInt8.toNat h2
  have k3 := congrArg UInt8.toNat h3
  have k4 := congrArg UInt8.toNat h4
  rw [UInt8.toNat_ofNat', UInt8.toNat_ofNat'] at k1 k2 k3 k4
  omega
/-! a block's items -/
theorem comL_take : ∀ (a b : List UInt8), a.take (comL a b) = b.take (comL a b)
  | [], _ => by simp [comL]
  | _ :: _, [] => by simp [comL]
  | x :: a, y :: b => by
    rw [comL]
    split
    · rename_i h
      rw [List.take_succ_cons, List.take_succ_cons, comL_take a b, h]
    · rfl
theorem kAt_sh (l : List Item) (i : Nat) : kAt l i = (kAt l (i - 1)).take (shAt l i) ++ (kAt l i).drop (shAt l i) := by
  have h : (kAt l (i - 1)).take (shAt l i) = (kAt l i).take (shAt l i) := by
    unfold shAt
    split
    · rfl
    · exact comL_take _ _
  rw [h, List.take_append_drop]
/-- all is short -/
def Short (l : List Item) : Prop := ∀ x ∈ l, x.key.size < 18446744073709551616 ∧ x.val.size < 18446744073709551616
theorem Short.k {l : List Item} (h : Short l) (i : Nat) : (kAt l i).length < 18446744073709551616 ∧ (vAt l i).length < 18446744073709551616 := by
  unfold kAt vAt
  cases hi : l[i]? with
  | none => simp
  | some x =>
    have := h x (List.mem_of_getElem? hi)
    simp only [Option.map_some, Option.getD_some, size_toList]
    exact this
theorem bUp_split (l : List Item) : ∀ (d i : Nat), ∃ t, bUp l (i + d) = bUp l i ++ t
  | 0, i => ⟨[], by simp⟩
  | d + 1, i => by
    obtain ⟨t, h⟩ := bUp_split l d i
    exact ⟨t ++ itB l (i + d), by rw [show i + (d + 1) = i + d + 1 by omega, bUp_succ, h, List.append_assoc]⟩
theorem itB_same {l m : List Item} (hl : Short l) (hm : Short m) {i : Nat} {t s : List UInt8} (hp : i ≠ 0 → kAt l (i - 1) = kAt m (i - 1)) (h : itB l i ++ t = itB m i ++ s) : kAt l i = kAt m i ∧ vAt l i = vAt m i := by
  unfold itB at h
  simp only [List.append_assoc] at h
  have b1 := Nat.lt_of_le_of_lt (shAt_le l i) (hl.k i).1
  have b2 := Nat.lt_of_le_of_lt (shAt_le m i) (hm.k i).1
  obtain ⟨h1, h2⟩ := vput_pre b1 b2 h
  obtain ⟨h3, h4⟩ := tput_pre (by rw [List.length_drop]; exact Nat.lt_of_le_of_lt (Nat.sub_le _ _) (hl.k i).1) (by rw [List.length_drop]; exact Nat.lt_of_le_of_lt (Nat.sub_le _ _) (hm.k i).1) h2
  obtain ⟨h5, _⟩ := tput_pre (hl.k i).2 (hm.k i).2 h4
  refine ⟨?_, h5⟩
  rw [kAt_sh l i, kAt_sh m i, h3, h1]
  by_cases e : i = 0
  · subst e
    have : shAt m 0 = 0 := by unfold shAt; rfl
    rw [this]; simp
  · rw [hp e]
theorem itB_ne (l : List Item) (i : Nat) : itB l i ≠ [] := by
  intro h
  have h1 := (vput_len (shAt l i)).1
  have h2 := congrArg List.length h
  unfold itB at h2
  simp only [List.length_append, List.length_nil] at h2
  omega
theorem bUp_same {l m : List Item} : ∀ i, (∀ j, j < i → kAt l j = kAt m j ∧ vAt l j = vAt m j) → bUp l i = bUp m i
  | 0, _ => rfl
  | i + 1, h => by
    rw [bUp_succ, bUp_succ, bUp_same i (fun j hj => h j (by omega))]
    congr 1
    unfold itB shAt
    rw [(h i (by omega)).1, (h i (by omega)).2]
    by_cases e : i % 4 = 0
    · simp only [if_pos e]
    · simp only [if_neg e, (h (i - 1) (by omega)).1]
theorem item_ext {x y : Item} (h1 : x.key.data.toList = y.key.data.toList) (h2 : x.val.data.toList = y.val.data.toList) : x = y := by
  obtain ⟨⟨a⟩, ⟨b⟩⟩ := x
  obtain ⟨⟨c⟩, ⟨d⟩⟩ := y
  simp only at h1 h2
  rw [Array.toList_inj.1 h1, Array.toList_inj.1 h2]
theorem bUp_inj {l m : List Item} (hl : Short l) (hm : Short m) (h : bUp l l.length = bUp m m.length) : l = m := by
  have key : ∀ i, i ≤ l.length → i ≤ m.length → ∀ j, j < i → kAt l j = kAt m j ∧ vAt l j = vAt m j := by
    intro i
    induction i with
    | zero => intro _ _ j hj; omega
    | succ i ih =>
      intro h1 h2 j hj
      have ih' := ih (by omega) (by omega)
      by_cases e : j < i
      · exact ih' j e
      · obtain rfl : j = i := by omega
        obtain ⟨t, ht⟩ := bUp_split l (l.length - (j + 1)) (j + 1)
        obtain ⟨s, hs⟩ := bUp_split m (m.length - (j + 1)) (j + 1)
        rw [show j + 1 + (l.length - (j + 1)) = l.length by omega, bUp_succ, List.append_assoc] at ht
        rw [show j + 1 + (m.length - (j + 1)) = m.length by omega, bUp_succ, List.append_assoc] at hs
        rw [ht, hs, bUp_same j ih'] at h
        exact itB_same hl hm (fun e => (ih' (j - 1) (by omega)).1) (List.append_cancel_left h)
  have hlen : l.length = m.length := by
    rcases Nat.lt_trichotomy l.length m.length with h1 | h1 | h1
    · exfalso
      have hk := bUp_same l.length (key l.length (Nat.le_refl _) (by omega))
      obtain ⟨s, hs⟩ := bUp_split m (m.length - (l.length + 1)) (l.length + 1)
      rw [show l.length + 1 + (m.length - (l.length + 1)) = m.length by omega, bUp_succ, List.append_assoc, ← h, hk] at hs
      have := (List.append_right_eq_self (xs := bUp m l.length) (ys := itB m l.length ++ s)).1 hs.symm
      exact itB_ne m l.length (List.append_eq_nil_iff.1 this).1
    · exact h1
    · exfalso
      have hk := bUp_same m.length (key m.length (by omega) (Nat.le_refl _))
      obtain ⟨s, hs⟩ := bUp_split l (l.length - (m.length + 1)) (m.length + 1)
      rw [show m.length + 1 + (l.length - (m.length + 1)) = l.length by omega, bUp_succ, List.append_assoc, h, hk] at hs
      have := (List.append_right_eq_self (xs := bUp m m.length) (ys := itB l m.length ++ s)).1 hs.symm
      exact itB_ne l m.length (List.append_eq_nil_iff.1 this).1
  refine List.ext_getElem hlen fun i h1 h2 => ?_
  obtain ⟨k1, k2⟩ := key l.length (Nat.le_refl _) (by omega) i h1
  rw [kAt_get h1, kAt_get h2] at k1
  rw [vAt_get h1, vAt_get h2] at k2
  exact item_ext k1 k2
theorem bAll_inj {l m : List Item} (hl : Short l) (hm : Short m) (h1 : l.length < 4000000000) (h2 : m.length < 4000000000) (h : bAll l = bAll m) : l = m := by
  unfold bAll at h
  have h3 := (List.append_inj' h (by rw [le4_len, le4_len])).1
  unfold bBody at h3
  obtain ⟨h4, h5⟩ := List.append_inj' h3 (by rw [le4_len, le4_len])
  have p1 := pUp_len l l.length
  have p2 := pUp_len m m.length
  have h6 := le4_inj (by omega) (by omega) h5
  have h7 := (List.append_inj' h4 (by omega)).1
  exact bUp_inj hl hm h7
/-! a table -/
theorem Short.sub {l : List Item} (h : Short l) (x : Nat × Nat) : Short (subI l x) := fun y hy => h y (List.mem_of_mem_drop (List.mem_of_mem_take hy))
end Go.Proofs.Herb
