
/- unions.Of: what one list has that another has not, of keys that can be taken over; or the keys that clash. For facts that can be read. -/
import Derived.Test.YtnkkfdlmcpnokaaUok
import Derived.Test.YtnkkfdlmcpnokaaUbr
import Derived.Test.YtnkkfdlmcpnokaaUbs
import Derived.Test.YtnkkfdlmcpnokaaUdf
namespace Go.Proofs.Herb
open Go.RowKit
/-! plain -/
theorem inS_diff (k : ByteArray) (a b : List Fact) : inS k (diffS a b) = !sameB a b k := by
  rw [Bool.eq_iff_iff, inS_iff, diffS_mem]
  simp
def uCh (base a b : List Fact) (ks : List ByteArray) : List Chg := ks.flatMap fun k => if comesB base a b k = true then brS a b k else []
def uCl (base a b : List Fact) (ks : List ByteArray) : List ByteArray := ks.filter (clashB base a b)
theorem dnD_len (l : List Nat) : (dnD l).length ≤ l.length := by
  have hn : (dnD l).Nodup := (dnD_strict l).imp fun h => by omega
  exact hn.length_le_of_subset fun v hv => dnD_mem.1 hv
theorem brS_len (a b : List Fact) (k : ByteArray) : (brS a b k).length ≤ b.length := by
  have h1 : ∀ l : List Nat, (l.flatMap (chg1 a b k)).length ≤ l.length := fun l => by
    induction l with
    | nil => exact Nat.le_refl _
    | cons v l ih =>
      rw [List.flatMap_cons, List.length_append, List.length_cons]
      have := chg1_len a b k v
      omega
  have h2 : (timesF b k).length ≤ b.length := by unfold timesF; rw [List.length_map]; exact List.length_filter_le _ _
  exact Nat.le_trans (h1 _) (Nat.le_trans (dnD_len _) h2)
theorem uCh_snoc (base a b : List Fact) (ks : List ByteArray) (k : ByteArray) : uCh base a b (ks ++ [k]) = uCh base a b ks ++ if comesB base a b k = true then brS a b k else [] := by simp [uCh]
theorem uCl_snoc (base a b : List Fact) (ks : List ByteArray) (k : ByteArray) : uCl base a b (ks ++ [k]) = uCl base a b ks ++ if clashB base a b k = true then [k] else [] := by
  unfold uCl
  rw [List.filter_append]
  congr 1
  by_cases h : clashB base a b k = true <;> simp [h]
theorem uCh_len (base a b : List Fact) : ∀ ks : List ByteArray, (uCh base a b ks).length ≤ ks.length * b.length
  | [] => by simp [uCh]
  | k :: ks => by
    have h1 := uCh_len base a b ks
    have h2 : uCh base a b (k :: ks) = (if comesB base a b k = true then brS a b k else []) ++ uCh base a b ks := by simp [uCh]
    have h3 : (if comesB base a b k = true then brS a b k else []).length ≤ b.length := by
      split
      · exact brS_len a b k
      · simp
    rw [h2, List.length_append, List.length_cons, Nat.succ_mul]
    omega
theorem uCl_len (base a b : List Fact) (ks : List ByteArray) : (uCl base a b ks).length ≤ ks.length := List.length_filter_le _ _
theorem lsAt_all {Ls : Nat → List Fact} {j : Nat} (h : j < 3) : lsAt Ls 3 0 j = Ls j := by unfold lsAt; rw [if_pos h]
theorem kAt_all (Ls : Nat → List Fact) (k : ByteArray) : k ∈ kAt Ls 3 0 ↔ k ∈ keyL (Ls 0) ∨ k ∈ keyL (Ls 1) ∨ k ∈ keyL (Ls 2) := by
  unfold kAt
  rw [List.mem_append, List.mem_flatMap]
  constructor
  · rintro (⟨j, hj, h⟩ | h)
    · rcases three (List.mem_range.1 hj) with rfl | rfl | rfl
      · exact .inl h
      · exact .inr (.inl h)
      · exact .inr (.inr h)
    · simp [keyL] at h
  · rintro (h | h | h)
    · exact .inl ⟨0, by simp, h⟩
    · exact .inl ⟨1, by simp, h⟩
    · exact .inl ⟨2, by simp, h⟩
theorem keys_all {Ls : Nat → List Fact} {t : List KyE} (h : KyInv (kAt Ls 3 0) (lsAt Ls 3 0) t) : nmS (t.map (·.key)) = uKeys (Ls 0) (Ls 1) (Ls 2) := by
  unfold uKeys
  refine strict_unique (nmS_strict _) (nmS_strict _) fun y => ?_
  rw [nmS_mem, nmS_mem, List.mem_append, List.mem_append, or_assoc, ← kAt_all]
  constructor
  · intro hy
    obtain ⟨x, hx, rfl⟩ := List.mem_map.1 hy
    exact h.come x hx
  · intro hy
    have hin : ∀ j, j < 3 → y ∈ keyL (Ls j) → y ∈ t.map (·.key) := fun j hj hm => by
      obtain ⟨f, hf, rfl⟩ := List.mem_map.1 hm
      obtain ⟨x, hx, e⟩ := h.all j hj f (by rw [lsAt_all hj]; exact hf)
      exact List.mem_map.2 ⟨x, hx, e⟩
    rcases (kAt_all Ls y).1 hy with h | h | h
    · exact hin 0 (by omega) h
    · exact hin 1 (by omega) h
    · exact hin 2 (by omega) h
theorem inn_key {Ls : Nat → List Fact} {t : List KyE} (h : KyInv (kAt Ls 3 0) (lsAt Ls 3 0) t) {x : KyE} (hx : x ∈ t) {j : Nat} (hj : j < 3) : KeyF (x.inn j) (Ls j) x.key :=
  ⟨(h.inn x hx j hj).1, fun v => by rw [(h.inn x hx j hj).2, lsAt_all hj]⟩
theorem keyF_len {l : List (Nat × Fact)} {A : List Fact} {k : ByteArray} (h : KeyF l A k) : l.length ≤ A.length := by
  have h1 : (l.map (·.1)).length ≤ (timesF A k).length := List.Nodup.length_le_of_subset h.once fun v hv => (h.time v).1 hv
  have h2 : (timesF A k).length ≤ A.length := by unfold timesF; rw [List.length_map]; exact List.length_filter_le _ _
  rw [List.length_map] at h1
  omega
theorem uKeys_len (base a b : List Fact) : (uKeys base a b).length ≤ base.length + a.length + b.length := by
  have := nmS_len (keyL base ++ keyL a ++ keyL b)
  unfold uKeys
  simp only [List.length_append, keyL, List.length_map] at this ⊢
  exact this
theorem t_len {Ls : Nat → List Fact} {t : List KyE} (h : KyInv (kAt Ls 3 0) (lsAt Ls 3 0) t) : t.length ≤ (Ls 0).length + (Ls 1).length + (Ls 2).length := by
  have h1 : ((kyTop t).map (·.1)).Nodup := h.keys
  have h2 : ((kyTop t).map (·.1)).length ≤ (keyL (Ls 0) ++ keyL (Ls 1) ++ keyL (Ls 2)).length := h1.length_le_of_subset fun y hy => by
    obtain ⟨z, hz, rfl⟩ := List.mem_map.1 hy
    obtain ⟨x, hx, rfl⟩ := List.mem_map.1 hz
    rw [List.mem_append, List.mem_append, or_assoc, ← kAt_all]
    exact h.come x hx
  simp only [List.length_append, keyL, List.length_map, kyTop] at h2
  exact h2
theorem own_kinds2 {w w' : World} {base b2 : Nat} {e e2 : TypeId} {k k2 : Nat} {v v2 : Value} {n n2 : Nat} {xs ys : List Value} (h : w.ownsRow base e k v n xs) (h2 : w.ownsRow b2 e2 k2 v2 n2 ys) (he : e ≠ e2) (hg : w.grownBy w' v2.ownBlock) : w'.ownsRow base e k v n xs := by
  obtain ⟨h1, h3⟩ := h
  refine ⟨h1, ?_⟩
  rcases h3 with h3 | ⟨g, cap, cur, rfl, hb, hh, r⟩
  · exact .inl h3
  · refine .inr ⟨g, cap, cur, rfl, hb, (hg.block g (lt_of_block hh) fun h4 => ?_).trans hh, r⟩
    obtain ⟨-, h5⟩ := h2
    rcases h5 with ⟨rfl, -⟩ | ⟨g2, cap2, cur2, rfl, hb2, hh2, r2⟩
    · cases h4
    · cases h4
      rw [hh] at hh2
      cases hh2
      exact he rfl
theorem cgCells_len (l : List Chg) : (cgCells l).length = l.length * 4 := by
  induction l with
  | nil => rfl
  | cons c l ih =>
    have h : cgCells (c :: l) = c.cells ++ cgCells l := by simp [cgCells]
    rw [h, List.length_append, ih, List.length_cons]
    simp [Chg.cells]
    omega
/-! the closures -/
theorem clipC_any (q : Option Addr) (n c : Nat) (w : World) (hn : n ≤ c) (hc : c ≤ maxLen) (_hq : q = none → c = 0) :
    Calls Try.prog 26 #[.slice q n c] w fun e w' => e = .returned (.slice q n n) ∧ w' = w := by
  unfold maxLen at hc
  go_enter Try.func26, Try.ntmps26
  cases q with
  | none =>
    obtain rfl : c = 0 := _hq rfl
    obtain rfl : n = 0 := by omega
    go_wp2
    go_ret
    exact ⟨rfl, rfl⟩
  | some a =>
    go_wp2
    go_ret
    exact ⟨by simp, rfl⟩
theorem diffS_len (a b : List Fact) : (diffS a b).length ≤ a.length + b.length := by
  have h1 := nmS_len (keyL a ++ keyL b)
  have h2 : (diffS a b).length ≤ (nmS (keyL a ++ keyL b)).length := List.length_filter_le _ _
  simp [keyL] at h1 h2 ⊢
  omega
theorem of1_any (q1 q2 : Option Addr) (n1 c1 n2 c2 : Nat) (a b : List Fact) (w : World) (ha : a.length = n1) (hb : b.length = n2) (hm1 : n1 ≤ 400000) (hm2 : n2 ≤ 400000) (hra : Rd w q1 (fCells a)) (hrb : Rd w q2 (fCells b)) :
    Calls Try.prog 19 #[.slice q1 n1 c1, .slice q2 n2 c2] w fun e w' => ∃ L q, e = .returned (.func (.func 20) #[] #[.pointer (some ⟨L, 0, none⟩)]) ∧ Boxed w' L 28 (.slice q (diffS a b).length (diffS a b).length) ∧ Rd w' q (strs (diffS a b)) ∧ Below w.heap.size w w' := by
  have k1 := diff_any q1 q2 n1 c1 n2 c2 a b w ha hb hm1 hm2 hra hrb
  clear hra hrb
  go_enter Try.func19, Try.ntmps19
  go_wp2_with (go_at_call 14; with_reducible refine k1.mono ?_; rintro e w1 ⟨q, rfl, _, h1, h2⟩)
  go_ret
  exact ⟨_, q, rfl, Boxed.new _ _ _, h1.alloc _, h2.alloc h2.size _⟩
theorem of11_any (L : Nat) (q : Option Addr) (m : Nat) (K : List ByteArray) (k : ByteArray) (w : World) (hm : K.length = m) (hm2 : m ≤ 1000000) (hx : Boxed w L 28 (.slice q m m)) (hr : Rd w q (strs K)) (hs : StrictS K) :
    Calls Try.prog 20 #[.string k, .pointer (some ⟨L, 0, none⟩)] w fun e w' => e = .returned (.bool (inS k K)) ∧ w' = w := by
  have k1 := bsearch_s q m m K k w hm hm2 hr hs
  have c1 := hx.cell
  clear hr hs hx
  go_enter Try.func20, Try.ntmps20
  go_wp2_with (go_at_call 21; with_reducible refine k1.mono ?_; rintro e w1 ⟨i, rfl, rfl⟩)
  go_ret
  exact ⟨rfl, rfl⟩
set_option maxRecDepth 100000 in
set_option maxHeartbeats 8000000 in
theorem of_any (q : Nat → Option Addr) (n c : Nat → Nat) (Ls : Nat → List Fact) (w : World) (hn : ∀ i, i < 3 → (Ls i).length = n i) (hm : ∀ i, i < 3 → n i ≤ 1000) (hr : ∀ i, i < 3 → Rd w (q i) (fCells (Ls i))) (hks : ∀ i, i < 3 → ∀ f ∈ Ls i, f.key.size ≤ maxLen) :
    Calls Try.prog 9 #[.slice (q 0) (n 0) (c 0), .slice (q 1) (n 1) (c 1), .slice (q 2) (n 2) (c 2)] w fun e w' => ∃ q1 q2,
      e = .returned (.tuple #[.slice q1 (uChg (Ls 0) (Ls 1) (Ls 2)).length (uChg (Ls 0) (Ls 1) (Ls 2)).length, .slice q2 (uClash (Ls 0) (Ls 1) (Ls 2)).length (uClash (Ls 0) (Ls 1) (Ls 2)).length]) ∧
        Rd w' q1 (cgCells (uChg (Ls 0) (Ls 1) (Ls 2))) ∧ Rd w' q2 (strs (uClash (Ls 0) (Ls 1) (Ls 2))) ∧ Below w.heap.size w w' := by
  have k0 := byKey_any q n c Ls w hn (fun i hi => Nat.le_trans (hm i hi) (by omega)) hr
  have HN := hid hn
  have HR := hid hr
  have HKS := hid hks
  have hm0 := hm 0 (by omega)
  have hm1 := hm 1 (by omega)
  have hm2 := hm 2 (by omega)
  clear hn hr hks hm
  go_enter Try.func9, Try.ntmps9
  go_upto_region 4 with (first
    | (go_at_call 18; with_reducible refine k0.mono ?_; rintro e w1 ⟨M, t, rfl, hA1, hI, hb1⟩; have HA1 := hid hA1; have HI := hid hI; have HB1 := hid hb1; have k1 := of1_any (q 1) (q 2) (n 1) (c 1) (n 2) (c 2) (Ls 1) (Ls 2) w1 (HN.out 1 (by omega)) (HN.out 2 (by omega)) (by omega) (by omega) ((HR.out 1 (by omega)).below hb1) ((HR.out 2 (by omega)).below hb1); clear hA1 hI hb1 k0)
    | (go_at_call 19; with_reducible refine k1.mono ?_; rintro e w2 ⟨L1, p1, rfl, x1, r1, b1⟩; have X1 := hid x1; have R1 := hid r1; have HB2 := hid (HB1.out.trans (b1.mono HB1.out.size)); have B12 := hid b1; have k2 := of1_any (q 2) (q 0) (n 2) (c 2) (n 0) (c 0) (Ls 2) (Ls 0) w2 (HN.out 2 (by omega)) (HN.out 0 (by omega)) (by omega) (by omega) ((HR.out 2 (by omega)).below HB2.out) ((HR.out 0 (by omega)).below HB2.out); clear x1 r1 b1 k1)
    | (go_at_call 19; with_reducible refine k2.mono ?_; rintro e w3 ⟨L2, p2, rfl, x2, r2, b2⟩; have X2 := hid x2; have R2 := hid r2; have HB3 := hid (HB2.out.trans (b2.mono HB2.out.size)); have B23 := hid b2; have k3 := of1_any (q 1) (q 0) (n 1) (c 1) (n 0) (c 0) (Ls 1) (Ls 0) w3 (HN.out 1 (by omega)) (HN.out 0 (by omega)) (by omega) (by omega) ((HR.out 1 (by omega)).below HB3.out) ((HR.out 0 (by omega)).below HB3.out); clear x2 r2 b2 k2)
    | (go_at_call 19; with_reducible refine k3.mono ?_; rintro e w4 ⟨L3, p3, rfl, x3, r3, b3⟩; have X3 := hid x3; have R3 := hid r3; have HB4 := hid (HB3.out.trans (b3.mono HB3.out.size)); have B34 := hid b3; clear x3 r3 b3 k3))
  have HA4 := hid (((HA1.out.below B12.out).below B23.out).below B34.out)
  have kk := keys_any (some M) w4
  have ko := outer_any M t w.heap.size w4 HA4.out HI.out.keys (fun x hx => by
    have h1 := (kAt_all Ls x.key).1 (HI.out.come x hx)
    have h2 : ∀ j, j < 3 → x.key ∈ keyL (Ls j) → x.key.size ≤ maxLen := fun j hj hm => by
      obtain ⟨f, hf, e⟩ := List.mem_map.1 hm
      rw [← e]
      exact HKS.out j hj f hf
    rcases h1 with h1 | h1 | h1
    · exact h2 0 (by omega) h1
    · exact h2 1 (by omega) h1
    · exact h2 2 (by omega) h1) (by
    have h1 := t_len HI.out
    rw [HN.out 0 (by omega), HN.out 1 (by omega), HN.out 2 (by omega)] at h1
    omega)
  have hKin : ∀ k, k ∈ uKeys (Ls 0) (Ls 1) (Ls 2) → ∃ x ∈ t, x.key = k := fun k hk => by
    rw [← keys_all HI.out, nmS_mem] at hk
    obtain ⟨x, hx, e⟩ := List.mem_map.1 hk
    exact ⟨x, hx, e⟩
  have hKl := uKeys_len (Ls 0) (Ls 1) (Ls 2)
  rw [HN.out 0 (by omega), HN.out 1 (by omega), HN.out 2 (by omega)] at hKl
  rw [keys_all HI.out] at ko
  obtain ⟨KK, hKK⟩ : ∃ KK, KK = uKeys (Ls 0) (Ls 1) (Ls 2) := ⟨_, rfl⟩
  rw [← hKK] at ko hKin hKl
  obtain ⟨nk, hnk⟩ : ∃ nk, KK.length = nk := ⟨_, rfl⟩
  rw [hnk] at ko hKl
  have HKI := hid hKin
  have HKK := hid hKK
  have HNK := hid hnk
  have X14 := hid ((B34.out.block _ (Nat.lt_of_lt_of_le X1.out.lt B23.out.size)).trans ((B23.out.block _ X1.out.lt).trans X1.out))
  have R14 := hid ((R1.out.below B23.out).below B34.out)
  have X24 := hid ((B34.out.block _ X2.out.lt).trans X2.out)
  have R24 := hid (R2.out.below B34.out)
  clear hKin hKK hnk HB1 HB2 HB3 B12 B23 B34 HA1 X1 X2 R1 R2
  go_upto_region 5 with (first
    | (go_at_call 23; with_reducible refine kk.mono ?_; rintro e w5 ⟨rfl, rfl⟩)
    | (go_at_call 22; with_reducible refine ko.mono ?_; rintro e w6 ⟨qk, ck, rfl, hrk, hb6⟩; have RK := hid hrk; have B46 := hid hb6; clear hrk hb6))
  clear kk ko
  have HA6 := hid (HA4.out.below B46.out)
  have X16 : Hid (Boxed w6 L1 28 (.slice p1 (diffS (Ls 1) (Ls 2)).length (diffS (Ls 1) (Ls 2)).length)) := hid ((B46.out.block _ (lt_of_block X14.out)).trans X14.out)
  have X26 : Hid (Boxed w6 L2 28 (.slice p2 (diffS (Ls 2) (Ls 0)).length (diffS (Ls 2) (Ls 0)).length)) := hid ((B46.out.block _ (lt_of_block X24.out)).trans X24.out)
  have X36 : Hid (Boxed w6 L3 28 (.slice p3 (diffS (Ls 1) (Ls 0)).length (diffS (Ls 1) (Ls 0)).length)) := hid ((B46.out.block _ X3.out.lt).trans X3.out)
  have R16 := hid (R14.out.below B46.out)
  have R26 := hid (R24.out.below B46.out)
  have R36 := hid (R3.out.below B46.out)
  have HB6 := hid (HB4.out.trans (B46.out.mono HB4.out.size))
  clear HA4 X14 X24 X3 R14 R24 R3 HB4 B46 HR HKS
  go_wp2
  go_loopw [6, 7, 38] (fun v6 v7 v38 wr => ∃ (j : Nat), v38 = .int .i64 j ∧ j ≤ nk ∧ Hid (wr.ownsRow w6.heap.size 44 4 v6 (uCh (Ls 0) (Ls 1) (Ls 2) (KK.take j)).length (cgCells (uCh (Ls 0) (Ls 1) (Ls 2) (KK.take j)))) ∧ Hid (wr.ownsRow w6.heap.size 9 1 v7 (uCl (Ls 0) (Ls 1) (Ls 2) (KK.take j)).length (strs (uCl (Ls 0) (Ls 1) (Ls 2) (KK.take j)))) ∧ Hid (Below w6.heap.size w6 wr)) (fun _ _ v38 _ => nk - (intOf v38).toNat)
  case atStart => exact ⟨0, rfl, Nat.zero_le _, World.ownsRow_nil _ _ _ _, World.ownsRow_nil _ _ _ _, Below.refl _ _⟩
  case round =>
    obtain ⟨j, rfl, hjn, HC, HK, HB⟩ := hrel
    by_cases hlt : j < nk
    · have hjl : j < KK.length := by rw [HNK.out]; exact hlt
      obtain ⟨k, hk⟩ : ∃ k, k = KK[j]'hjl := ⟨_, rfl⟩
      have hget : (strs KK)[j]? = some (.string k) := by rw [hk]; simp [strs, hjl]
      have HT : Hid (KK.take (j + 1) = KK.take j ++ [k]) := by show _ = _; rw [hk, List.take_succ_eq_append_getElem hjl]
      obtain ⟨x, hx, hxk⟩ := HKI.out k (by rw [hk]; exact List.getElem_mem _)
      rcases RK.out.below HB.out with hz | ⟨b, off, rfl, hrk⟩
      · rw [hz] at hget; simp at hget
      have ck1 := hrk _ _ hget
      have hlC := uCh_len (Ls 0) (Ls 1) (Ls 2) (KK.take j)
      have hlL := uCl_len (Ls 0) (Ls 1) (Ls 2) (KK.take j)
      have htk : (KK.take j).length ≤ j := by rw [List.length_take]; omega
      have hl2 := HN.out 2 (by omega)
      have hl1 := HN.out 1 (by omega)
      have hl0 := HN.out 0 (by omega)
      have hlC2 : (KK.take j).length * (Ls 2).length ≤ 3000 * 1000 := Nat.mul_le_mul (by omega) (by omega)
      have hbr := brS_len (Ls 1) (Ls 2) k
      obtain ⟨nC, hnC⟩ : ∃ x, (uCh (Ls 0) (Ls 1) (Ls 2) (KK.take j)).length = x := ⟨_, rfl⟩
      obtain ⟨nL, hnL⟩ : ∃ x, (uCl (Ls 0) (Ls 1) (Ls 2) (KK.take j)).length = x := ⟨_, rfl⟩
      obtain ⟨nm, hnm⟩ : ∃ x, (brS (Ls 1) (Ls 2) k).length = x := ⟨_, rfl⟩
      rw [hnC] at HC hlC
      rw [hnL] at HK hlL
      rw [hnm] at hbr
      have HNC := hid hnC
      have HNL := hid hnL
      have HNM := hid hnm
      have hnC1 : nC ≤ 3000000 := by omega
      have hnL1 : nL ≤ 3000 := by omega
      have hnm1 : nm ≤ 1000 := by omega
      obtain ⟨qa, ca, rfl, ha1, ha2, _⟩ := own_shape HC.out
      obtain ⟨qb, cb, rfl, hb1, hb2, _⟩ := own_shape HK.out
      have hA := HA6.out.below HB.out
      have hlk := run_lookup0 (P := Try.prog) hA.top keyS Try.underlying45 (zeroKey wr) k false
      rw [← hxk, kyTop_mem HI.out.keys hx] at hlk
      simp only [Option.map_some, Option.getD_some, Bool.false_eq_true, if_false] at hlk
      rw [hxk] at hlk
      have kbr := brought_any x.blk (x.inn 1) (x.inn 2) (Ls 1) (Ls 2) k wr (hA.inn x hx 1 (by omega)) (hA.inn x hx 2 (by omega)) (by rw [← hxk]; exact inn_key HI.out hx (by omega)) (by rw [← hxk]; exact inn_key HI.out hx (by omega)) (by have := keyF_len (inn_key HI.out hx (j := 1) (by omega)); omega) (by have := keyF_len (inn_key HI.out hx (j := 2) (by omega)); omega)
      rw [hnm] at kbr
      obtain ⟨bx, hbx⟩ : ∃ bx, x.blk = bx := ⟨_, rfl⟩
      rw [hbx] at kbr hlk
      change _ = Result.ok (Value.agg #[.map (some (bx 0)), .map (some (bx 1)), .map (some (bx 2))]) _ at hlk
      have kab := of11_any L1 p1 _ (diffS (Ls 1) (Ls 2)) k wr rfl (by have := diffS_len (Ls 1) (Ls 2); omega) ((HB.out.block _ (lt_of_block X16.out)).trans X16.out) (R16.out.below HB.out) (diffS_strict _ _)
      have kbb := of11_any L2 p2 _ (diffS (Ls 2) (Ls 0)) k wr rfl (by have := diffS_len (Ls 2) (Ls 0); omega) ((HB.out.block _ (lt_of_block X26.out)).trans X26.out) (R26.out.below HB.out) (diffS_strict _ _)
      rw [inS_diff] at kab kbb
      clear hx hxk hbx hk hget hrk hjl hA htk hl2 hl1 hl0 hlC hlL hlC2 hbr hnC hnL hnm
      cases h1 : sameB (Ls 1) (Ls 2) k with
      | true =>
        rw [h1] at kab
        simp only [Bool.not_true] at kab
        have hC2 : uCh (Ls 0) (Ls 1) (Ls 2) (KK.take (j + 1)) = uCh (Ls 0) (Ls 1) (Ls 2) (KK.take j) := by rw [HT.out, uCh_snoc, show comesB (Ls 0) (Ls 1) (Ls 2) k = false from by unfold comesB; simp [h1], if_neg (by decide), List.append_nil]
        have hK2 : uCl (Ls 0) (Ls 1) (Ls 2) (KK.take (j + 1)) = uCl (Ls 0) (Ls 1) (Ls 2) (KK.take j) := by rw [HT.out, uCl_snoc, show clashB (Ls 0) (Ls 1) (Ls 2) k = false from by unfold clashB; simp [h1], if_neg (by decide), List.append_nil]
        have HC2 := hid hC2
        have HK2 := hid hK2
        clear hC2 hK2 h1
        go_wp2_with (first | (go_at_call 20; with_reducible refine kab.mono ?_; rintro e w' ⟨rfl, rfl⟩) | (go_at_call 20; with_reducible refine kbb.mono ?_; rintro e w' ⟨rfl, rfl⟩))
        go_roundw
        case rel => exact ⟨j + 1, by go_num, by omega, by rw [HC2.out, HNC.out]; exact HC, by rw [HK2.out, HNL.out]; exact HK, HB⟩
        case measure => simp [intOf]; omega
      | false =>
        rw [h1] at kab
        simp only [Bool.not_false] at kab
        cases h2 : sameB (Ls 2) (Ls 0) k with
        | true =>
          rw [h2] at kbb
          simp only [Bool.not_true] at kbb
          have hC2 : uCh (Ls 0) (Ls 1) (Ls 2) (KK.take (j + 1)) = uCh (Ls 0) (Ls 1) (Ls 2) (KK.take j) := by rw [HT.out, uCh_snoc, show comesB (Ls 0) (Ls 1) (Ls 2) k = false from by unfold comesB; simp [h2], if_neg (by decide), List.append_nil]
          have hK2 : uCl (Ls 0) (Ls 1) (Ls 2) (KK.take (j + 1)) = uCl (Ls 0) (Ls 1) (Ls 2) (KK.take j) := by rw [HT.out, uCl_snoc, show clashB (Ls 0) (Ls 1) (Ls 2) k = false from by unfold clashB; simp [h2], if_neg (by decide), List.append_nil]
          have HC2 := hid hC2
          have HK2 := hid hK2
          clear hC2 hK2 h1 h2
          go_wp2_with (first | (go_at_call 20; with_reducible refine kab.mono ?_; rintro e w' ⟨rfl, rfl⟩) | (go_at_call 20; with_reducible refine kbb.mono ?_; rintro e w' ⟨rfl, rfl⟩))
          go_roundw
          case rel => exact ⟨j + 1, by go_num, by omega, by rw [HC2.out, HNC.out]; exact HC, by rw [HK2.out, HNL.out]; exact HK, HB⟩
          case measure => simp [intOf]; omega
        | false =>
          rw [h2] at kbb
          simp only [Bool.not_false] at kbb
          replace h1 := hid h1
          replace h2 := hid h2
          go_upto_region 9 with (first | (go_at_call 20; with_reducible refine kab.mono ?_; rintro e w' ⟨rfl, rfl⟩) | (go_at_call 20; with_reducible refine kbb.mono ?_; rintro e w' ⟨rfl, rfl⟩) | (go_at_call 24; with_reducible refine kbr.mono ?_; rintro e w7 ⟨vm, rfl, hvm, hb7⟩; obtain ⟨qm, cm, rfl, hm1, hm2, hm3⟩ := own_shape hvm; have HRM := hid (Fr.of_own hvm).rd; have H77 := hid hb7; clear hvm hb7))
          have HC7 := hid (own_below HC.out H77.out)
          have HK7 := hid (own_below HK.out H77.out)
          have HB7 := hid (HB.out.trans (H77.out.mono HB.out.size))
          have hs7 := HB7.out.size
          have kaa := of11_any L3 p3 _ (diffS (Ls 1) (Ls 0)) k w7 rfl (by have := diffS_len (Ls 1) (Ls 0); have := HN.out 1 (by omega); have := HN.out 0 (by omega); omega) ((HB7.out.block _ (lt_of_block X36.out)).trans X36.out) (R36.out.below HB7.out) (diffS_strict _ _)
          rw [inS_diff] at kaa
          clear kab kbb kbr HC HK HB H77 hlk ck1
          cases h3 : sameB (Ls 1) (Ls 0) k with
          | false =>
            rw [h3] at kaa
            simp only [Bool.not_false] at kaa
            have hC2 : uCh (Ls 0) (Ls 1) (Ls 2) (KK.take (j + 1)) = uCh (Ls 0) (Ls 1) (Ls 2) (KK.take j) := by rw [HT.out, uCh_snoc, show comesB (Ls 0) (Ls 1) (Ls 2) k = false from by unfold comesB; simp [h1.out, h2.out, h3], if_neg (by decide), List.append_nil]
            have hK2 : uCl (Ls 0) (Ls 1) (Ls 2) (KK.take (j + 1)) = uCl (Ls 0) (Ls 1) (Ls 2) (KK.take j) ++ [k] := by rw [HT.out, uCl_snoc, show clashB (Ls 0) (Ls 1) (Ls 2) k = true from by unfold clashB; simp [h1.out, h2.out, h3], if_pos rfl]
            have HC2 := hid hC2
            have HK2 := hid hK2
            clear hC2 hK2 h3
            obtain ⟨i0, hi, hz0, hz1, hz2⟩ := info_parts infoStr
            go_wp2_with (first | (go_at_call 20; with_reducible refine kaa.mono ?_; rintro e w' ⟨rfl, rfl⟩) | (at_builtin; refine wpList_append_own _ rfl _ _ 28 rfl w6.heap.size 9 i0 (.string ⟨#[]⟩) 1 16 Try.underlying28 hi hz0 hz1 hz2 rfl (by decide) _ _ _ rfl (HK7.out.alloc _) _ 1 1 [.string k] rfl rfl (cell_one_new _ _ _) (by simp [Value.oneCell']) (by unfold maxLen; omega) (by omega) (by simp; omega) ?_; intro v' w8 hown' hgrow _; have HOW := hid hown'; have HGR := hid hgrow; clear hown' hgrow))
            have HB8 : Hid (Below w6.heap.size w6 w8) := Below.grown' (HB7.out.alloc (by omega) _) (HK7.out.alloc _) HGR.out (by simp; omega)
            have HC8 := hid (own_kinds2 (HC7.out.alloc _) (HK7.out.alloc _) (by decide) HGR.out)
            go_roundw
            case rel =>
              refine ⟨j + 1, by go_num, by omega, by rw [HC2.out, HNC.out]; exact HC8, ?_, HB8⟩
              rw [HK2.out]
              show w8.ownsRow _ _ _ _ _ _
              have e1 : (uCl (Ls 0) (Ls 1) (Ls 2) (KK.take j) ++ [k]).length = nL + 1 := by rw [List.length_append, HNL.out]; rfl
              have e2 : strs (uCl (Ls 0) (Ls 1) (Ls 2) (KK.take j) ++ [k]) = strs (uCl (Ls 0) (Ls 1) (Ls 2) (KK.take j)) ++ [.string k] := by simp [strs]
              rw [e1, e2]
              exact HOW.out
            case measure => simp [intOf]; omega
          | true =>
            rw [h3] at kaa
            simp only [Bool.not_true] at kaa
            cases h4 : hasT (Ls 1) (Ls 2) k with
            | false =>
              have hC2 : uCh (Ls 0) (Ls 1) (Ls 2) (KK.take (j + 1)) = uCh (Ls 0) (Ls 1) (Ls 2) (KK.take j) := by rw [HT.out, uCh_snoc, show comesB (Ls 0) (Ls 1) (Ls 2) k = false from by unfold comesB; simp [h1.out, h2.out, h3, h4], if_neg (by decide), List.append_nil]
              have hK2 : uCl (Ls 0) (Ls 1) (Ls 2) (KK.take (j + 1)) = uCl (Ls 0) (Ls 1) (Ls 2) (KK.take j) ++ [k] := by rw [HT.out, uCl_snoc, show clashB (Ls 0) (Ls 1) (Ls 2) k = true from by unfold clashB; simp [h1.out, h2.out, h3, h4], if_pos rfl]
              have HC2 := hid hC2
              have HK2 := hid hK2
              clear hC2 hK2 h3 h4
              obtain ⟨i0, hi, hz0, hz1, hz2⟩ := info_parts infoStr
              go_wp2_with (first | (go_at_call 20; with_reducible refine kaa.mono ?_; rintro e w' ⟨rfl, rfl⟩) | (at_builtin; refine wpList_append_own _ rfl _ _ 28 rfl w6.heap.size 9 i0 (.string ⟨#[]⟩) 1 16 Try.underlying28 hi hz0 hz1 hz2 rfl (by decide) _ _ _ rfl (HK7.out.alloc _) _ 1 1 [.string k] rfl rfl (cell_one_new _ _ _) (by simp [Value.oneCell']) (by unfold maxLen; omega) (by omega) (by simp; omega) ?_; intro v' w8 hown' hgrow _; have HOW := hid hown'; have HGR := hid hgrow; clear hown' hgrow))
              have HB8 : Hid (Below w6.heap.size w6 w8) := Below.grown' (HB7.out.alloc (by omega) _) (HK7.out.alloc _) HGR.out (by simp; omega)
              have HC8 := hid (own_kinds2 (HC7.out.alloc _) (HK7.out.alloc _) (by decide) HGR.out)
              go_roundw
              case rel =>
                refine ⟨j + 1, by go_num, by omega, by rw [HC2.out, HNC.out]; exact HC8, ?_, HB8⟩
                rw [HK2.out]
                show w8.ownsRow _ _ _ _ _ _
                have e1 : (uCl (Ls 0) (Ls 1) (Ls 2) (KK.take j) ++ [k]).length = nL + 1 := by rw [List.length_append, HNL.out]; rfl
                have e2 : strs (uCl (Ls 0) (Ls 1) (Ls 2) (KK.take j) ++ [k]) = strs (uCl (Ls 0) (Ls 1) (Ls 2) (KK.take j)) ++ [.string k] := by simp [strs]
                rw [e1, e2]
                exact HOW.out
              case measure => simp [intOf]; omega
            | true =>
              have hC2 : uCh (Ls 0) (Ls 1) (Ls 2) (KK.take (j + 1)) = uCh (Ls 0) (Ls 1) (Ls 2) (KK.take j) ++ brS (Ls 1) (Ls 2) k := by rw [HT.out, uCh_snoc, show comesB (Ls 0) (Ls 1) (Ls 2) k = true from by unfold comesB; simp [h1.out, h2.out, h3, h4], if_pos rfl]
              have hK2 : uCl (Ls 0) (Ls 1) (Ls 2) (KK.take (j + 1)) = uCl (Ls 0) (Ls 1) (Ls 2) (KK.take j) := by rw [HT.out, uCl_snoc, show clashB (Ls 0) (Ls 1) (Ls 2) k = false from by unfold clashB; simp [h1.out, h2.out, h3, h4], if_neg (by decide), List.append_nil]
              have HC2 := hid hC2
              have HK2 := hid hK2
              clear hC2 hK2 h3 h4
              go_wp2_with (first | (go_at_call 20; with_reducible refine kaa.mono ?_; rintro e w' ⟨rfl, rfl⟩) | (at_builtin; refine wpList_append_rd rfl _ _ 27 rfl w6.heap.size 44 (.agg #[.string ⟨#[]⟩, .int .u32 0, .int .u8 0, .string ⟨#[]⟩]) 4 40 Try.underlying27 infoCg rfl (by decide) _ _ _ rfl HC7.out qm nm cm (cgCells (brS (Ls 1) (Ls 2) k)) rfl hm3 (by rw [cgCells_len, HNM.out]) HRM.out (cgCells_one _) (by unfold maxLen; omega) (by omega) (by omega) ?_; intro v' w8 hown' hgrow _; have HOW := hid hown'; have HGR := hid hgrow; clear hown' hgrow))
              have HB8 : Hid (Below w6.heap.size w6 w8) := Below.grown' HB7.out HC7.out HGR.out (by omega)
              have HK8 := hid (own_kinds2 HK7.out HC7.out (by decide) HGR.out)
              go_roundw
              case rel =>
                refine ⟨j + 1, by go_num, by omega, ?_, by rw [HK2.out, HNL.out]; exact HK8, HB8⟩
                rw [HC2.out]
                show w8.ownsRow _ _ _ _ _ _
                rw [List.length_append, HNC.out, HNM.out, cgCells_append]
                exact HOW.out
              case measure => simp [intOf]; omega
    · obtain rfl : j = nk := by omega
      have et : KK.take j = KK := by rw [← HNK.out]; exact List.take_length
      rw [et, HKK.out] at HC HK
      have eC : uCh (Ls 0) (Ls 1) (Ls 2) (uKeys (Ls 0) (Ls 1) (Ls 2)) = uAll (Ls 0) (Ls 1) (Ls 2) := rfl
      have eL : uCl (Ls 0) (Ls 1) (Ls 2) (uKeys (Ls 0) (Ls 1) (Ls 2)) = uClash (Ls 0) (Ls 1) (Ls 2) := rfl
      rw [eC] at HC
      rw [eL] at HK
      obtain ⟨qa, ca, rfl, ha1, ha2, ha3⟩ := own_shape HC.out
      obtain ⟨qb, cb, rfl, hb1, hb2, hb3⟩ := own_shape HK.out
      have HRA := hid (Fr.of_own HC.out).rd
      have HRB := hid (Fr.of_own HK.out).rd
      have HBW := hid (HB6.out.trans (HB.out.mono HB6.out.size))
      obtain ⟨nA, hnA⟩ : ∃ x, (uAll (Ls 0) (Ls 1) (Ls 2)).length = x := ⟨_, rfl⟩
      obtain ⟨nB, hnB⟩ : ∃ x, (uClash (Ls 0) (Ls 1) (Ls 2)).length = x := ⟨_, rfl⟩
      have HNA := hid hnA
      have HNB := hid hnB
      rw [hnA] at ha1
      rw [hnB] at hb1
      rw [hnA, hnB]
      have kA := clipC_any qa nA ca wr ha1 ha2 ha3
      have kB := clipS_any qb nB cb wr hb1 hb2 hb3
      have hnL := uCl_len (Ls 0) (Ls 1) (Ls 2) (uKeys (Ls 0) (Ls 1) (Ls 2))
      rw [eL, hnB, ← HKK.out, HNK.out] at hnL
      clear hnA hnB HC HK et eC eL
      by_cases hz : nB = 0
      · subst hz
        have h0 : Hid (uClash (Ls 0) (Ls 1) (Ls 2) = []) := List.eq_nil_of_length_eq_zero HNB.out
        go_wp2_with (go_at_call 26; with_reducible refine kA.mono ?_; rintro e w' ⟨rfl, rfl⟩)
        go_ret2
        have e1 : uChg (Ls 0) (Ls 1) (Ls 2) = uAll (Ls 0) (Ls 1) (Ls 2) := by unfold uChg; rw [if_pos h0.out]
        refine ⟨qa, none, ?_, ?_, ?_, HBW.out⟩
        · rw [e1, HNA.out, h0.out]; rfl
        · rw [e1]; exact HRA.out
        · rw [h0.out]; exact .inl rfl
      · have hz2 : (0 : Int) < (nB : Int) := by omega
        have h0 : Hid (uClash (Ls 0) (Ls 1) (Ls 2) ≠ []) := fun e => hz (by rw [← HNB.out, e]; rfl)
        go_wp2_with (go_at_call 25; with_reducible refine kB.mono ?_; rintro e w' ⟨rfl, rfl⟩)
        go_ret2
        have e1 : uChg (Ls 0) (Ls 1) (Ls 2) = [] := by unfold uChg; rw [if_neg h0.out]
        refine ⟨none, qb, ?_, ?_, ?_, HBW.out⟩
        · rw [e1, HNB.out]; rfl
        · rw [e1]; exact .inl rfl
        · exact HRB.out
end Go.Proofs.Herb
