/- A table's bytes tell its facts: plain. -/
import Derived.Test.YtnmbkaohjbcpmaaMayP
namespace Go.Proofs.Herb
open Go.RowKit
/-! numbers ahead of whatever -/
theorem byteOf_inj {x y : Nat × Bool} (hx : x.1 < 128) (hy : y.1 < 128) (h : byteOf x = byteOf y) : x = y := by
  have h2 := congrArg UInt8.toNat h
  unfold byteOf at h2
  rw [UInt8.toNat_ofNat', UInt8.toNat_ofNat'] at h2
  obtain ⟨a, b⟩ := x
  obtain ⟨c, d⟩ := y
  simp only at hx hy h2
  cases b <;> cases d <;> simp only [if_true, Bool.false_eq_true, if_false] at h2 <;> simp <;> omega
theorem gF_pre : ∀ (f n m : Nat) (r s : List UInt8), 1 ≤ f → n < 128 ^ f → m < 128 ^ f → (gF f n).map byteOf ++ r = (gF f m).map byteOf ++ s → n = m ∧ r = s
  | 0, _, _, _, _, h, _, _, _ => by omega
  | f + 1, n, m, r, s, _, hn, hm, h => by
    rw [gF, gF, List.map_cons, List.map_cons, List.cons_append, List.cons_append, List.cons.injEq] at h
    obtain ⟨h1, h2⟩ := h
    have h3 := byteOf_inj (Nat.mod_lt n (by decide)) (Nat.mod_lt m (by decide)) h1
    simp only [Prod.mk.injEq, decide_eq_decide] at h3
    by_cases hb : 128 ≤ n
    · have hb2 := h3.2.1 hb
      rw [if_pos hb, if_pos hb2] at h2
      cases f with
      | zero => simp at hn; omega
      | succ f =>
        rw [Nat.pow_succ] at hn hm
        obtain ⟨h4, h5⟩ := gF_pre (f + 1) (n / 128) (m / 128) r s (by omega) (Nat.div_lt_of_lt_mul (by omega)) (Nat.div_lt_of_lt_mul (by omega)) h2
        exact ⟨by omega, h5⟩
    · have hb2 : ¬ 128 ≤ m := fun h => hb (h3.2.2 h)
      rw [if_neg hb, if_neg hb2] at h2
      exact ⟨by omega, by simpa using h2⟩
theorem vput_pre {n m : Nat} {r s : List UInt8} (hn : n < 18446744073709551616) (hm : m < 18446744073709551616) (h : vput n ++ r = vput m ++ s) : n = m ∧ r = s :=
  gF_pre 10 n m r s (by decide) (Nat.lt_trans hn (by decide)) (Nat.lt_trans hm (by decide)) h
theorem tput_pre {a b r s : List UInt8} (ha : a.length < 18446744073709551616) (hb : b.length < 18446744073709551616) (h : tput a ++ r = tput b ++ s) : a = b ∧ r = s := by
  unfold tput at h
  rw [List.append_assoc, List.append_assoc] at h
  obtain ⟨h1, h2⟩ := vput_pre ha hb h
  exact List.append_inj h2 h1
theorem le4_inj {n m : Nat} (hn : n < 4294967296) (hm : m < 4294967296) (h : le4 n = le4 m) : n = m := by
  unfold le4 at h
  simp only [List.cons.injEq, and_true] at h
  obtain ⟨h1, h2, h3, h4⟩ := h
  have k1 := congrArg UInt8.toNat h1
  have k2 := congrArg UInt8.toNat h2
  have k3 := congrArg UInt8.toNat h3
  have k4 := congrArg UInt8.toNat h4
  rw [UInt8.toNat_ofNat', UInt8.toNat_ofNat'] at k1 k2 k3 k4
  omega
/-! a block's items -/
theorem comL_take : ∀ (a b : List UInt8), a.take (comL a b) = b.take (comL a b)
  | [], _ => by simp [comL]
  | _ :: _, [] => by simp [comL]
  | x :: a, y :: b => by
    rw [comL]
    split
    · rename_i h
      rw [List.take_succ_cons, List.take_succ_cons, comL_take a b, h]
    · rfl
theorem kAt_sh (l : List Item) (i : Nat) : kAt l i = (kAt l (i - 1)).take (shAt l i) ++ (kAt l i).drop (shAt l i) := by
  have h : (kAt l (i - 1)).take (shAt l i) = (kAt l i).take (shAt l i) := by
    unfold shAt
    split
    · rfl
    · exact comL_take _ _
  rw [h, List.take_append_drop]
/-- all is short -/
def Short (l : List Item) : Prop := ∀ x ∈ l, x.key.size < 18446744073709551616 ∧ x.val.size < 18446744073709551616
theorem Short.k {l : List Item} (h : Short l) (i : Nat) : (kAt l i).length < 18446744073709551616 ∧ (vAt l i).length < 18446744073709551616 := by
  unfold kAt vAt
  cases hi : l[i]? with
  | none => simp
  | some x =>
    have := h x (List.mem_of_getElem? hi)
    simp only [Option.map_some, Option.getD_some, size_toList]
    exact this
theorem bUp_split (l : List Item) : ∀ (d i : Nat), ∃ t, bUp l (i + d) = bUp l i ++ t
  | 0, i => ⟨[], by simp⟩
  | d + 1, i => by
    obtain ⟨t, h⟩ := bUp_split l d i
    exact ⟨t ++ itB l (i + d), by rw [show i + (d + 1) = i + d + 1 by omega, bUp_succ, h, List.append_assoc]⟩
theorem itB_same {l m : List Item} (hl : Short l) (hm : Short m) {i : Nat} {t s : List UInt8} (hp : i ≠ 0 → kAt l (i - 1) = kAt m (i - 1)) (h : itB l i ++ t = itB m i ++ s) : kAt l i = kAt m i ∧ vAt l i = vAt m i := by
  unfold itB at h
  simp only [List.append_assoc] at h
  have b1 := Nat.lt_of_le_of_lt (shAt_le l i) (hl.k i).1
  have b2 := Nat.lt_of_le_of_lt (shAt_le m i) (hm.k i).1
  obtain ⟨h1, h2⟩ := vput_pre b1 b2 h
  obtain ⟨h3, h4⟩ := tput_pre (by rw [List.length_drop]; exact Nat.lt_of_le_of_lt (Nat.sub_le _ _) (hl.k i).1) (by rw [List.length_drop]; exact Nat.lt_of_le_of_lt (Nat.sub_le _ _) (hm.k i).1) h2
  obtain ⟨h5, _⟩ := tput_pre (hl.k i).2 (hm.k i).2 h4
  refine ⟨?_, h5⟩
  rw [kAt_sh l i, kAt_sh m i, h3, h1]
  by_cases e : i = 0
  · subst e
    have : shAt m 0 = 0 := by unfold shAt; rfl
    rw [this]; simp
  · rw [hp e]
theorem itB_ne (l : List Item) (i : Nat) : itB l i ≠ [] := by
  intro h
  have h1 := (vput_len (shAt l i)).1
  have h2 := congrArg List.length h
  unfold itB at h2
  simp only [List.length_append, List.length_nil] at h2
  omega
theorem bUp_same {l m : List Item} : ∀ i, (∀ j, j < i → kAt l j = kAt m j ∧ vAt l j = vAt m j) → bUp l i = bUp m i
  | 0, _ => rfl
  | i + 1, h => by
    rw [bUp_succ, bUp_succ, bUp_same i (fun j hj => h j (by omega))]
    congr 1
    unfold itB shAt
    rw [(h i (by omega)).1, (h i (by omega)).2]
    by_cases e : i % 4 = 0
    · simp only [if_pos e]
    · simp only [if_neg e, (h (i - 1) (by omega)).1]
theorem item_ext {x y : Item} (h1 : x.key.data.toList = y.key.data.toList) (h2 : x.val.data.toList = y.val.data.toList) : x = y := by
  obtain ⟨⟨a⟩, ⟨b⟩⟩ := x
  obtain ⟨⟨c⟩, ⟨d⟩⟩ := y
  simp only at h1 h2
  rw [Array.toList_inj.1 h1, Array.toList_inj.1 h2]
theorem bUp_inj {l m : List Item} (hl : Short l) (hm : Short m) (h : bUp l l.length = bUp m m.length) : l = m := by
  have key : ∀ i, i ≤ l.length → i ≤ m.length → ∀ j, j < i → kAt l j = kAt m j ∧ vAt l j = vAt m j := by
    intro i
    induction i with
    | zero => intro _ _ j hj; omega
    | succ i ih =>
      intro h1 h2 j hj
      have ih' := ih (by omega) (by omega)
      by_cases e : j < i
      · exact ih' j e
      · obtain rfl : j = i := by omega
        obtain ⟨t, ht⟩ := bUp_split l (l.length - (j + 1)) (j + 1)
        obtain ⟨s, hs⟩ := bUp_split m (m.length - (j + 1)) (j + 1)
        rw [show j + 1 + (l.length - (j + 1)) = l.length by omega, bUp_succ, List.append_assoc] at ht
        rw [show j + 1 + (m.length - (j + 1)) = m.length by omega, bUp_succ, List.append_assoc] at hs
        rw [ht, hs, bUp_same j ih'] at h
        exact itB_same hl hm (fun e => (ih' (j - 1) (by omega)).1) (List.append_cancel_left h)
  have hlen : l.length = m.length := by
    rcases Nat.lt_trichotomy l.length m.length with h1 | h1 | h1
    · exfalso
      have hk := bUp_same l.length (key l.length (Nat.le_refl _) (by omega))
      obtain ⟨s, hs⟩ := bUp_split m (m.length - (l.length + 1)) (l.length + 1)
      rw [show l.length + 1 + (m.length - (l.length + 1)) = m.length by omega, bUp_succ, List.append_assoc, ← h, hk] at hs
      have := (List.append_right_eq_self (xs := bUp m l.length) (ys := itB m l.length ++ s)).1 hs.symm
      exact itB_ne m l.length (List.append_eq_nil_iff.1 this).1
    · exact h1
    · exfalso
      have hk := bUp_same m.length (key m.length (by omega) (Nat.le_refl _))
      obtain ⟨s, hs⟩ := bUp_split l (l.length - (m.length + 1)) (m.length + 1)
      rw [show m.length + 1 + (l.length - (m.length + 1)) = l.length by omega, bUp_succ, List.append_assoc, h, hk] at hs
      have := (List.append_right_eq_self (xs := bUp m m.length) (ys := itB l m.length ++ s)).1 hs.symm
      exact itB_ne l m.length (List.append_eq_nil_iff.1 this).1
  refine List.ext_getElem hlen fun i h1 h2 => ?_
  obtain ⟨k1, k2⟩ := key l.length (Nat.le_refl _) (by omega) i h1
  rw [kAt_get h1, kAt_get h2] at k1
  rw [vAt_get h1, vAt_get h2] at k2
  exact item_ext k1 k2
theorem bAll_inj {l m : List Item} (hl : Short l) (hm : Short m) (h1 : l.length < 4000000000) (h2 : m.length < 4000000000) (h : bAll l = bAll m) : l = m := by
  unfold bAll at h
  have h3 := (List.append_inj' h (by rw [le4_len, le4_len])).1
  unfold bBody at h3
  obtain ⟨h4, h5⟩ := List.append_inj' h3 (by rw [le4_len, le4_len])
  have p1 := pUp_len l l.length
  have p2 := pUp_len m m.length
  have h6 := le4_inj (by omega) (by omega) h5
  have h7 := (List.append_inj' h4 (by omega)).1
  exact bUp_inj hl hm h7
/-! a table -/
def blks (l : List Item) (r : List (Nat × Nat)) : List (List UInt8) := r.map fun x => bAll (subI l x)
def valsB : Nat → List (List UInt8) → List (List UInt8)
  | _, [] => []
  | a, b :: r => (vput a ++ vput b.length) :: valsB (a + b.length) r
theorem fold_out (l : List Item) : ∀ (r : List (Nat × Nat)) (s : List UInt8 × List Item), (r.foldl (stepB l) s).1 = s.1 ++ (blks l r).flatten ∧ (r.foldl (stepB l) s).2.map (·.val.data.toList) = s.2.map (·.val.data.toList) ++ valsB s.1.length (blks l r)
  | [], s => by simp [blks, valsB]
  | x :: r, s => by
    obtain ⟨h1, h2⟩ := fold_out l r (stepB l s x)
    rw [List.foldl_cons, h1, h2]
    unfold stepB blks
    simp only [List.map_cons, List.flatten_cons, List.append_assoc, List.map_append, List.map_nil, valsB, List.length_append, true_and]
    rfl
theorem outB_eq (fs : List Fact) : outB fs = (blks (itemsF fs) (chunksOf (itemsF fs))).flatten := by
  have := (fold_out (itemsF fs) (chunksOf (itemsF fs)) ([], [])).1
  rw [List.nil_append] at this
  exact this
theorem idx_vals (fs : List Fact) : (idxI fs).map (·.val.data.toList) = valsB 0 (blks (itemsF fs) (chunksOf (itemsF fs))) := by
  have := (fold_out (itemsF fs) (chunksOf (itemsF fs)) ([], [])).2
  rw [List.map_nil, List.nil_append] at this
  exact this
theorem vals_inj : ∀ (A B : List (List UInt8)) (a : Nat), a < 1000000 → (∀ x ∈ A, x.length < 1000000) → (∀ x ∈ B, x.length < 1000000) → a + A.flatten.length < 1000000 → valsB a A = valsB a B → A.map List.length = B.map List.length
  | [], [], _, _, _, _, _, _ => rfl
  | [], _ :: _, _, _, _, _, _, h => by simp [valsB] at h
  | _ :: _, [], _, _, _, _, _, h => by simp [valsB] at h
  | x :: A, y :: B, a, ha, hA, hB, hs, h => by
    simp only [valsB, List.cons.injEq] at h
    obtain ⟨h1, h2⟩ := h
    have h3 := List.append_cancel_left h1
    have b1 := hA x (by simp)
    have b2 := hB y (by simp)
    have h4 := (vput_pre (r := []) (s := []) (show x.length < _ by omega) (show y.length < _ by omega) (by rw [h3])).1
    rw [List.flatten_cons, List.length_append] at hs
    rw [← h4] at h2
    rw [List.map_cons, List.map_cons, h4, vals_inj A B (a + x.length) (by omega) (fun z hz => hA z (by simp [hz])) (fun z hz => hB z (by simp [hz])) (by omega) h2]
theorem flat_inj : ∀ (A B : List (List UInt8)), A.map List.length = B.map List.length → A.flatten = B.flatten → A = B
  | [], [], _, _ => rfl
  | [], _ :: _, h, _ => by simp at h
  | _ :: _, [], h, _ => by simp at h
  | x :: A, y :: B, h1, h2 => by
    rw [List.map_cons, List.map_cons, List.cons.injEq] at h1
    rw [List.flatten_cons, List.flatten_cons] at h2
    obtain ⟨h3, h4⟩ := List.append_inj h2 h1.1
    rw [h3, flat_inj A B h1.2 h4]
theorem chain_flat {l : List Item} : ∀ {r : List (Nat × Nat)} {a : Nat}, ChainC l.length a r → (r.map (subI l)).flatten = l.drop a
  | [], a, h => by
    unfold ChainC at h
    rw [h]; simp
  | x :: r, a, h => by
    obtain ⟨h1, h2, h3, h4⟩ := h
    rw [List.map_cons, List.flatten_cons, chain_flat h4]
    unfold subI
    rw [h1]
    conv => rhs; rw [← List.take_append_drop (x.2 - a) (l.drop a)]
    rw [List.drop_drop, show a + (x.2 - a) = x.2 by omega]
theorem mem_len {A : List (List UInt8)} : ∀ x ∈ A, x.length ≤ A.flatten.length := by
  intro x hx
  induction A with
  | nil => cases hx
  | cons y A ih =>
    rw [List.flatten_cons, List.length_append]
    rcases List.mem_cons.1 hx with rfl | h
    · omega
    · have := ih h; omega
theorem Short.sub {l : List Item} (h : Short l) (x : Nat × Nat) : Short (subI l x) := fun y hy => h y (List.mem_of_mem_drop (List.mem_of_mem_take hy))
theorem good_short {line : Nat} {fs : List Fact} (hg : GoodF line fs) : Short (itemsF fs) ∧ Short (idxI fs) :=
  ⟨fun x hx => by have := good_items hg x hx; omega, fun x hx => by have := good_idx hg x hx; omega⟩
theorem kput_inj {f g : Fact} (of : f.Ok) (og : g.Ok) (hf : mayF f = true) (hg : mayF g = true) (h : kput f = kput g) : f.key = g.key ∧ f.valid = g.valid ∧ f.seq = g.seq ∧ f.kind = g.kind := by
  have no : ∀ {a b : Fact}, a.Ok → b.Ok → mayF a = true → mayF b = true → kput a = kput b → ¬ cmpF a b < 0 := fun oa ob ha hb he hc => by
    have := kput_lt oa ob ha hb hc
    rw [he, bl_irrefl] at this
    cases this
  have n1 := no of og hf hg h
  have n2 := no og of hg hf h.symm
  unfold cmpF at n1 n2
  rw [orZ_cons] at n1 n2
  have hk : f.key = g.key := by
    by_cases e : f.key = g.key
    · exact e
    · exfalso
      rw [if_neg (fun h => e (cmpS_zero.1 h)), cmpS_neg] at n1
      rw [if_neg (fun h => e (cmpS_zero.1 h).symm), cmpS_neg] at n2
      have hne : f.key.data.toList ≠ g.key.data.toList := fun h2 => e (by
        have h3 : f.key.data = g.key.data := Array.toList_inj.1 h2
        cases hfk : f.key; cases hgk : g.key
        rw [hfk, hgk] at h3
        simp only at h3
        rw [h3])
      exact n2 (bl_total (by simpa using n1) hne)
  rw [if_pos (cmpS_zero.2 hk), orZ_cons] at n1
  rw [if_pos (cmpS_zero.2 hk.symm), orZ_cons] at n2
  have hv : f.valid = g.valid := by
    by_cases e : f.valid = g.valid
    · exact e
    · exfalso
      rw [if_neg (fun h => e (cmpN_zero.1 h).symm), cmpN_neg] at n1
      rw [if_neg (fun h => e (cmpN_zero.1 h)), cmpN_neg] at n2
      omega
  rw [if_pos (cmpN_zero.2 hv.symm), orZ_cons] at n1
  rw [if_pos (cmpN_zero.2 hv), orZ_cons] at n2
  have hs : f.seq = g.seq := by
    by_cases e : f.seq = g.seq
    · exact e
    · exfalso
      rw [if_neg (fun h => e (cmpN_zero.1 h).symm), cmpN_neg] at n1
      rw [if_neg (fun h => e (cmpN_zero.1 h)), cmpN_neg] at n2
      omega
  rw [if_pos (cmpN_zero.2 hs.symm), orZ_cons] at n1
  rw [if_pos (cmpN_zero.2 hs), orZ_cons] at n2
  have hd : f.kind = g.kind := by
    by_cases e : f.kind = g.kind
    · exact e
    · exfalso
      rw [if_neg (fun h => e (cmpN_zero.1 h)), cmpN_neg] at n1
      rw [if_neg (fun h => e (cmpN_zero.1 h).symm), cmpN_neg] at n2
      omega
  exact ⟨hk, hv, hs, hd⟩
theorem items_inj {line : Nat} {l m : List Fact} (hl : GoodF line l) (hm : GoodF line m) (ol : ∀ f ∈ l, f.Ok) (om : ∀ f ∈ m, f.Ok) (h : itemsF l = itemsF m) : l = m := by
  have hlen : l.length = m.length := by simpa [itemsF] using congrArg List.length h
  refine List.ext_getElem hlen fun i h1 h2 => ?_
  have he : itemF l[i] = itemF m[i] := by
    have := congrArg (·[i]?) h
    simpa [itemsF, h1, h2] using this
  obtain ⟨_, a1, a2, a3, _⟩ := hl i h1
  obtain ⟨_, b1, b2, b3, _⟩ := hm i h2
  unfold itemF at he
  rw [Item.mk.injEq, ByteArray.mk.injEq] at he
  obtain ⟨k1, k2, k3, k4⟩ := kput_inj (ol _ (List.getElem_mem h1)) (om _ (List.getElem_mem h2)) a1 b1 (by simpa using congrArg Array.toList he.1)
  generalize l[i] = f at *
  generalize m[i] = g at *
  obtain ⟨f0, f1, f2, f3, f4, f5⟩ := f
  obtain ⟨g0, g1, g2, g3, g4, g5⟩ := g
  simp only at k1 k2 k3 k4 a2 b2 he
  rw [k1, k2, k3, k4, a2, b2, he.2]
theorem tab_inj {line : Nat} {l m : List Fact} (hl : GoodF line l) (hm : GoodF line m) (ol : ∀ f ∈ l, f.Ok) (om : ∀ f ∈ m, f.Ok) (bl : (tabB line l).length ≤ 65536) (bm : (tabB line m).length ≤ 65536) (h : tabB line l = tabB line m) : l = m := by
  have tl := tab_len line l
  have tm := tab_len line m
  unfold tabB at h
  obtain ⟨h1, h2⟩ := List.append_inj' h (by simp only [List.length_append, foot0_len, le4_len])
  have h3 := (List.append_inj' h2 (by rw [le4_len, le4_len])).1
  unfold foot0 at h3
  simp only [List.append_assoc] at h3
  have h4 := (List.append_inj h3 rfl).2
  obtain ⟨h5, h6⟩ := List.append_inj h4 (by rw [le4_len, le4_len])
  obtain ⟨h7, _⟩ := List.append_inj h6 (by rw [le4_len, le4_len])
  have ho := le4_inj (by omega) (by omega) h5
  have hi := le4_inj (by omega) (by omega) h7
  unfold bodyB at h1
  simp only [List.append_assoc] at h1
  obtain ⟨k1, k2⟩ := List.append_inj h1 ho
  obtain ⟨k3, _⟩ := List.append_inj k2 hi
  have il : ∀ (fs : List Fact), (itemsF fs).length = fs.length := fun fs => by simp [itemsF]
  have n1 : ∀ {fs : List Fact}, (idxB fs).length ≤ 65536 → (idxI fs).length < 4000000000 := fun {fs} hb => by
    have e : (idxB fs).length = (bUp (idxI fs) (idxI fs).length).length + (pUp (idxI fs) (idxI fs).length).length + 8 := bAll_len _
    rw [pUp_len] at e
    omega
  have hidx : idxI l = idxI m := bAll_inj (good_short hl).2 (good_short hm).2 (n1 (by omega)) (n1 (by omega)) k3
  obtain ⟨A, hA⟩ : ∃ A, A = blks (itemsF l) (chunksOf (itemsF l)) := ⟨_, rfl⟩
  obtain ⟨B, hB⟩ : ∃ A, A = blks (itemsF m) (chunksOf (itemsF m)) := ⟨_, rfl⟩
  have hv : valsB 0 A = valsB 0 B := by rw [hA, hB, ← idx_vals, ← idx_vals, hidx]
  have hf : A.flatten = B.flatten := by rw [hA, hB, ← outB_eq, ← outB_eq, k1]
  have bA : A.flatten.length ≤ 65536 := by rw [hA, ← outB_eq]; omega
  have bB : B.flatten.length ≤ 65536 := by rw [hB, ← outB_eq]; omega
  have hml := vals_inj A B 0 (by decide) (fun x hx => by have := mem_len x hx; omega) (fun x hx => by have := mem_len x hx; omega) (by omega) hv
  have hAB := flat_inj A B hml hf
  have hs : (chunksOf (itemsF l)).map (subI (itemsF l)) = (chunksOf (itemsF m)).map (subI (itemsF m)) := by
    rw [hA, hB] at hAB
    have hcl : (chunksOf (itemsF l)).length = (chunksOf (itemsF m)).length := by simpa [blks] using congrArg List.length hAB
    refine List.ext_getElem (by simpa using hcl) fun i h1 h2 => ?_
    rw [List.getElem_map, List.getElem_map]
    have h1' : i < (chunksOf (itemsF l)).length := by simpa using h1
    have h2' : i < (chunksOf (itemsF m)).length := by simpa using h2
    have he := congrArg (·[i]?) hAB
    simp only [blks, List.getElem?_map, List.getElem?_eq_getElem h1', List.getElem?_eq_getElem h2', Option.map_some, Option.some.injEq] at he
    have b1 : ∀ {fs : List Fact} {x : Nat × Nat}, (bAll (subI (itemsF fs) x)).length ≤ 65536 → (subI (itemsF fs) x).length < 4000000000 := fun {fs x} hb => by
      rw [bAll_len, pUp_len] at hb
      omega
    refine bAll_inj ((good_short hl).1.sub _) ((good_short hm).1.sub _) (b1 ?_) (b1 ?_) he
    · have := mem_len (A := A) (bAll (subI (itemsF l) (chunksOf (itemsF l))[i])) (by rw [hA]; exact List.mem_map.2 ⟨_, List.getElem_mem h1', rfl⟩)
      omega
    · have := mem_len (A := B) (bAll (subI (itemsF m) (chunksOf (itemsF m))[i])) (by rw [hB]; exact List.mem_map.2 ⟨_, List.getElem_mem h2', rfl⟩)
      omega
  have hitems : itemsF l = itemsF m := by
    have h1 := chain_flat (chunks_chain (itemsF l))
    have h2 := chain_flat (chunks_chain (itemsF m))
    rw [List.drop_zero] at h1 h2
    rw [← h1, ← h2, hs]
  exact items_inj hl hm ol om hitems
theorem other_plain (line : Nat) (l m : List Fact) (ol : ∀ f ∈ l, f.Ok) (om : ∀ f ∈ m, f.Ok) (h1 : buildE line l = 0) (h2 : buildE line m = 0) : tabB line l = tabB line m ↔ l = m := by
  obtain ⟨⟨g1, _⟩, b1⟩ := buildE_zero.1 h1
  obtain ⟨⟨g2, _⟩, b2⟩ := buildE_zero.1 h2
  exact ⟨tab_inj g1 g2 ol om b1 b2, fun h => by rw [h]⟩
end Go.Proofs.Herb
