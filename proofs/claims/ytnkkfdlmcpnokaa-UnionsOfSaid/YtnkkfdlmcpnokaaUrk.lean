
/- The reference of chapter 17: Keys: every key of some lists once, rising. For lists that can be read. -/
import Derived.Test.YtnkkfdlmcpnokaaUrf
namespace Go.Proofs.Herb
open Go.RowKit
section
variable {w : World} {ops : Array Oper} {rest : List Oper} {o : Oper} {a : Act} {K : Act → World → Prop} {Q : Exit → Act → World → Prop} {E : Prop}
theorem stepS (hgd : o.guard = none) (s x : Operand) (ho : o.op = .call { callee := .builtin .append, args := #[s, x], argTypes := #[28, 28] })
    (base : Nat) (q : Option Addr) (n c : Nat) (l : List ByteArray) (hs : a.eval s = .slice q n c) (hown : w.ownsRow base 9 1 (.slice q n c) n (strs l))
    (ad : Option Addr) (m d : Nat) (k : List ByteArray) (hx : a.eval x = .slice ad m d) (hl : k.length = m) (hr : Rd w ad (strs k)) (hsz : n + m ≤ 1000000) (hbase : base ≤ w.heap.size)
    (h : ∀ q' c' w', w'.ownsRow base 9 1 (.slice q' (n + m) c') (n + m) (strs (l ++ k)) → Below base w w' → (q = none → Below w.heap.size w w') → K (a.put o.dst (.slice q' (n + m) c')) w') :
    if Region.wanted o (yielded ops a.tmps) = true then Oper.wp Try.prog o a w K Q else E := by
  rw [if_pos (by simp [Region.wanted, hgd])]
  obtain ⟨i, hi, hz, hsize, hby⟩ := info_parts infoStr
  have h1s : ∀ u ∈ strs k, u.oneCell' = true := fun u hu => by
    unfold strs at hu
    obtain ⟨y, _, rfl⟩ := List.mem_map.1 hu
    rfl
  obtain ⟨q', c', w', hrun, h1, h2, h3⟩ := run_append_own_src (P := Try.prog) w base 28 28 o.type 9 i (.string ⟨#[]⟩) 1 16 Try.underlying28 hi hz hsize hby rfl (by decide) _ n (strs l) hown (.slice ad m d) m (strs k) (src_rd (by decide) Try.underlying28 d (by simp [strs, hl]) hr h1s) (by unfold maxLen; omega) (by omega) hbase
  unfold Oper.wp execOp
  simp only [ho, resolve, invoke, builtin, Sem.run_bind, Sem.run_pure, Result.andThen_ok, List.map_toArray, List.map_cons, List.map_nil, hs, hx, hrun]
  have e : strs l ++ strs k = strs (l ++ k) := by simp [strs]
  rw [e] at h1
  exact h q' c' w' h1 (Below.grown' (Below.refl _ _) hown h2 hbase) (fun e => by subst e; exact (Below.refl _ _).grown h2 (Nat.le_refl _) (fun g hg => by cases hg))
end
theorem ins_at (s : ByteArray) : ∀ (out : List ByteArray) (k : Nat), k ≤ out.length → (∀ t, t < k → ltS (kD out t) s = true) → (k = out.length ∨ ltS (kD out k) s = false) →
    insS s out = if k < out.length ∧ kD out k = s then out else out.take k ++ s :: out.drop k
  | [], k, hk, _, _ => by
    obtain rfl : k = 0 := by simpa using hk
    simp [insS]
  | x :: out, 0, _, _, h2 => by
    have h3 : ltS x s = false := by rcases h2 with h2 | h2
                                    · simp at h2
                                    · exact h2
    unfold insS
    rw [if_neg (by rw [h3]; decide)]
    by_cases e : x = s
    · rw [if_pos e, if_pos ⟨by simp, e⟩]
    · rw [if_neg e, if_neg (fun h => e h.2)]; rfl
  | x :: out, k + 1, hk, h1, h2 => by
    have h3 : ltS x s = true := h1 0 (by omega)
    have ih := ins_at s out k (by simpa using hk) (fun t ht => h1 (t + 1) (by omega)) (by
      rcases h2 with h2 | h2
      · exact .inl (by simpa using h2)
      · exact .inr h2)
    unfold insS
    rw [if_pos h3, ih]
    have e : (k + 1 < (x :: out).length ∧ kD (x :: out) (k + 1) = s) ↔ (k < out.length ∧ kD out k = s) := by simp [kD]
    by_cases h : k < out.length ∧ kD out k = s
    · rw [if_pos h, if_pos (e.2 h)]
    · rw [if_neg h, if_neg (fun h' => h (e.1 h'))]; rfl
theorem nmS_snoc (l : List ByteArray) (k : ByteArray) : nmS (l ++ [k]) = insS k (nmS l) := by unfold nmS; rw [List.foldl_append]; rfl
theorem kAt_len {Ls : Nat → List Fact} (i j : Nat) (hi : i ≤ 3) (h : ∀ i, i < 3 → (Ls i).length ≤ 1000) (hj : j ≤ 1000) : (kAt Ls i j).length ≤ 4000 := by
  unfold kAt
  rw [List.length_append]
  have h1 : (keyL ((Ls i).take j)).length ≤ 1000 := by unfold keyL; rw [List.length_map, List.length_take]; omega
  have h2 : ∀ i, i ≤ 3 → ((List.range i).flatMap (fun x => keyL (Ls x))).length ≤ 1000 * i := by
    intro i
    induction i with
    | zero => intro _; simp
    | succ i ih =>
      intro hi
      rw [List.range_succ, List.flatMap_append, List.length_append]
      have := ih (by omega)
      have := h i (by omega)
      have e : (List.flatMap (fun x => keyL (Ls x)) [i]).length = (Ls i).length := by simp [keyL]
      rw [e]
      omega
  have h3 := h2 i hi
  have h4 : 1000 * i ≤ 3000 := by omega
  omega
set_option maxRecDepth 100000 in
set_option maxHeartbeats 40000000 in
theorem keys_ref (G : Nat) (q : Nat → Option Addr) (n c : Nat → Nat) (Ls : Nat → List Fact) (w : World) (hg : ∀ i, i < 3 → w.cell? ⟨G, i, none⟩ = some (.slice (q i) (n i) (c i))) (hn : ∀ i, i < 3 → (Ls i).length = n i) (hm : ∀ i, i < 3 → n i ≤ 1000) (hr : ∀ i, i < 3 → Rd w (q i) (fCells (Ls i))) :
    Calls Try.prog 27 #[.slice (some ⟨G, 0, none⟩) 3 3] w fun e w' => ∃ q' c', e = .returned (.slice q' (uKeys (Ls 0) (Ls 1) (Ls 2)).length c') ∧ Rd w' q' (strs (uKeys (Ls 0) (Ls 1) (Ls 2))) ∧ Below w.heap.size w w' := by
  have HG := hid hg
  have HN := hid hn
  have HM := hid hm
  have HR := hid hr
  clear hg hn hm hr
  go_enter Try.func27, Try.ntmps27
  go_wp2
  go_loopw [3, 4] (fun v i wr => ∃ (j : Nat) (qo : Option Addr) (no co : Nat), j ≤ 3 ∧ i = .int .i64 (j : Int) ∧ v = .slice qo no co ∧ Hid ((nmS (kAt Ls j 0)).length = no) ∧ Hid (wr.ownsRow w.heap.size 9 1 (.slice qo no co) no (strs (nmS (kAt Ls j 0)))) ∧ Hid (Below w.heap.size w wr)) (fun _ i _ => 3 - (intOf i).toNat)
  case atStart => exact ⟨0, none, 0, 0, by omega, rfl, rfl, rfl, World.ownsRow_nil _ _ _ _, Below.refl _ _⟩
  case round =>
    obtain ⟨i, qo, no, co, hi3, rfl, rfl, HL, HO, HB⟩ := hrel
    by_cases hi : i < 3
    · have hii : (i : Int) < 3 := by omega
      have g := HG.out i hi
      obtain ⟨qi, hqi⟩ : ∃ x, q i = x := ⟨_, rfl⟩
      obtain ⟨ni, hni⟩ : ∃ x, n i = x := ⟨_, rfl⟩
      obtain ⟨ci, hci⟩ : ∃ x, c i = x := ⟨_, rfl⟩
      have HRi : Hid (Rd w qi (fCells (Ls i))) := by show Rd _ _ _; rw [← hqi]; exact HR.out i hi
      have HNi : Hid ((Ls i).length = ni) := by show _ = _; rw [← hni]; exact HN.out i hi
      have bni := HM.out i hi
      rw [hqi, hni, hci] at g
      rw [hni] at bni
      have HGi := hid g
      have hGl := World.block_lt_of_cell? w _ g
      clear hqi hni hci g
      go_upto_region 5 with fail
      go_wp2
      go_loopw [3, 5] (fun v jv wr => ∃ (j : Nat) (qo : Option Addr) (no co : Nat), j ≤ ni ∧ jv = .int .i64 (j : Int) ∧ v = .slice qo no co ∧ Hid ((nmS (kAt Ls i j)).length = no) ∧ Hid (wr.ownsRow w.heap.size 9 1 (.slice qo no co) no (strs (nmS (kAt Ls i j)))) ∧ Hid (Below w.heap.size w wr)) (fun _ jv _ => ni - (intOf jv).toNat)
      case atStart => exact ⟨0, qo, no, co, Nat.zero_le _, rfl, rfl, HL, HO, HB⟩
      case round =>
        clear HL HO HB
        obtain ⟨j, qo, no, co, hjn, rfl, rfl, HL, HO, HB⟩ := hrel
        have g := (HB.out.cell (p := ⟨G, i, none⟩) hGl).trans HGi.out
        by_cases hj : j < ni
        · have hjl : j < (Ls i).length := by rw [HNi.out]; exact hj
          obtain ⟨bb, off, rfl, hb, hf⟩ := fact_at (HRi.out.below HB.out) (j := j) hjl
          obtain ⟨s, hs⟩ : ∃ s, ((Ls i)[j]).key = s := ⟨_, rfl⟩
          have c0 := hf.c0
          rw [hs] at c0
          obtain ⟨OUT, hOUT⟩ : ∃ O, nmS (kAt Ls i j) = O := ⟨_, rfl⟩
          have HNX : Hid (nmS (kAt Ls i (j + 1)) = insS s OUT) := by show _ = _; rw [kAt_put Ls i j hjl, nmS_snoc, hs, hOUT]
          rw [hOUT] at HL HO
          have hno : no ≤ 4000 := by
            rw [← HL.out, ← hOUT]
            have h1 := nmS_len (kAt Ls i j)
            have h2 := kAt_len (Ls := Ls) i j hi3 (fun i hi => by rw [HN.out i hi]; exact HM.out i hi) (by omega)
            omega
          obtain ⟨ho1, ho2⟩ : no ≤ co ∧ co ≤ maxLen := by
            obtain ⟨q9, c9, e9, h1, h2, _⟩ := own_shape HO.out
            cases e9
            exact ⟨h1, h2⟩
          have hrd := (Fr.of_own HO.out).rd
          have HRD := hid hrd
          have i0 : (0 : Int) ≤ (j : Int) := by omega
          have i1 : (j : Int) < (ni : Int) := by omega
          have hsw := HB.out.size
          clear hf hs hOUT hrd hjl
          go_upto_region 9 with fail
          clear c0 g hb
          go_wp2
          go_loopw [7] (fun kv wk => ∃ k : Nat, k ≤ no ∧ kv = .int .i64 (k : Int) ∧ Hid (∀ t, t < k → ltS (kD OUT t) s = true) ∧ wk = wr) (fun kv _ => no - (intOf kv).toNat)
          case atStart => exact ⟨0, Nat.zero_le _, rfl, fun t ht => absurd ht (Nat.not_lt_zero _), rfl⟩
          case round =>
            obtain ⟨k, hk, rfl, HP, rfl⟩ := hrel
            by_cases hkn : k < no
            · obtain ⟨bo, oo, rfl, gk⟩ := rd_text HRD.out (j := k) (by rw [HL.out]; exact hkn)
              obtain ⟨y, hy⟩ : ∃ y, kD OUT k = y := ⟨_, rfl⟩
              have gk2 : wr.cell? ⟨bo, oo + k, none⟩ = some (.string y) := by rw [gk, ← hy, kD_get (by rw [HL.out]; exact hkn)]
              have HY := hid hy
              have k0 : (0 : Int) ≤ (k : Int) := by omega
              have k1 : (k : Int) < (no : Int) := by omega
              clear gk hy
              cases hlt : ltS y s with
              | true =>
                have hbl : Op.bytesLess y.toList s.toList = true := by rw [← hlt]; unfold ltS; rw [ByteArray.toList_eq, ByteArray.toList_eq]
                have HP2 : Hid (∀ t, t < k + 1 → ltS (kD OUT t) s = true) := fun t ht => by
                  rcases Nat.lt_or_ge t k with h | h
                  · exact HP.out t h
                  · obtain rfl : t = k := by omega
                    rw [HY.out]; exact hlt
                clear hlt
                go_wp2
                go_roundw
                case rel => exact ⟨k + 1, by omega, by go_num, HP2, by first | rfl | trivial⟩
                case measure => simp [intOf]; omega
              | false =>
                have hbl : Op.bytesLess y.toList s.toList = false := by rw [← hlt]; unfold ltS; rw [ByteArray.toList_eq, ByteArray.toList_eq]
                have HIN := hid (ins_at s OUT k (by rw [HL.out]; exact hk) HP.out (.inr (by rw [HY.out]; exact hlt)))
                by_cases hys : y = s
                · have HT : Hid (nmS (kAt Ls i (j + 1)) = OUT) := by show _ = _; rw [HNX.out, HIN.out, if_pos ⟨by rw [HL.out]; exact hkn, by rw [HY.out]; exact hys⟩]
                  subst hys
                  clear hlt
                  go_wp2
                  go_roundw
                  case rel => exact ⟨j + 1, _, no, co, by omega, by go_num, rfl, by rw [HT.out]; exact HL, by rw [HT.out]; exact HO, HB⟩
                  case measure => simp [intOf]; omega
                · have HT : Hid (nmS (kAt Ls i (j + 1)) = OUT.take k ++ s :: OUT.drop k) := by show _ = _; rw [HNX.out, HIN.out, if_neg (fun h => hys (by rw [← HY.out]; exact h.2))]
                  have hne := ne_text hys
                  clear hlt hys
                  go_upto_region 13 with fail
                  have HRd : Hid (∀ W, Below wr.heap.size wr W → Rd W (some ⟨bo, oo + k, none⟩) (strs (OUT.drop k))) := fun W hW => by
                    have := (HRD.out.below hW).drop k
                    have e : strs (OUT.drop k) = (strs OUT).drop k := by simp [strs, List.map_drop]
                    rw [e]; exact this
                  have HRk : Hid (∀ W, Below wr.heap.size wr W → Rd W (some ⟨bo, oo, none⟩) (strs (OUT.take k))) := fun W hW => by
                    have := (HRD.out.below hW).take k
                    have e : strs (OUT.take k) = (strs OUT).take k := by simp [strs, List.map_take]
                    rw [e]; exact this
                  have HD1 : Hid (Below wr.heap.size wr wr.drew) := below_drew (Below.refl _ _)
                  have HD2 : Hid (Below wr.heap.size wr (wr.drew.alloc (.cells #[.string s] 9))) := HD1.out.alloc (Nat.le_refl _) _
                  have HRS : Hid (Rd (wr.drew.alloc (.cells #[.string s] 9)) (some ⟨wr.heap.size, 0, none⟩) (strs [s])) := Rd.new wr.drew (strs [s]) _
                  have htk : (OUT.take k).length = k := by rw [List.length_take, HL.out]; omega
                  have hdk : (OUT.drop k).length = no - k := by rw [List.length_drop, HL.out]
                  have HTK := hid htk
                  have HDK := hid hdk
                  clear htk hdk
                  have kc1 : (k : Int) ≤ (co : Int) := by omega
                  have kc2 : (k : Int) ≤ (no : Int) := by omega
                  have kc3 : k ≤ co := by omega
                  have kc4 : (no : Int) ≤ (co : Int) := by omega
                  go_region_law (first
                    | (refine stepS rfl (.const (.slice none 0 0)) (.tmp 59) rfl wr.heap.size none 0 0 [] rfl (World.ownsRow_nil _ _ _ _) (some ⟨bo, oo, none⟩) k co (OUT.take k) rfl HTK.out (HRk.out _ HD1.out) (by omega) (Nat.le_refl _) ?_; intro q5 c5 w5 hown5 hb5 _; rw [Nat.zero_add, List.nil_append] at hown5; have HO5 := hid hown5; have HB5 := hid (HD1.out.trans hb5); clear hown5 hb5)
                    | (refine stepS rfl (.const (.slice none 0 0)) (.tmp 59) rfl wr.heap.size none 0 0 [] rfl (World.ownsRow_nil _ _ _ _) (some ⟨bo, oo, none⟩) k co (OUT.take k) rfl HTK.out (HRk.out _ HD2.out) (by omega) HD2.out.size ?_; intro q5 c5 w5 hown5 hb5 hbn; rw [Nat.zero_add, List.nil_append] at hown5; have HO5 := hid hown5; have HB5 := hid (HD2.out.trans hb5); have HRS5 := hid (HRS.out.below (hbn rfl)); clear hown5 hb5 hbn)
                    | (refine stepS rfl (.tmp 60) (.tmp 62) rfl wr.heap.size q5 k c5 (OUT.take k) rfl (own_below HO5.out ((Below.refl _ _).alloc (Nat.le_refl _) _)) (some ⟨w5.heap.size, 0, none⟩) 1 1 [s] rfl rfl (Rd.new w5 (strs [s]) _) (by omega) (by have := HB5.out.size; simp; omega) ?_; intro q6 c6 w6 hown6 hb6 _; have HO6 := hid hown6; have HB6 := hid ((HB5.out.alloc HB5.out.size _).trans hb6); clear hown6 hb6)
                    | (refine stepS rfl (.tmp 60) (.tmp 62) rfl wr.heap.size q5 k c5 (OUT.take k) rfl HO5.out (some ⟨wr.heap.size, 0, none⟩) 1 1 [s] rfl rfl HRS5.out (by omega) HB5.out.size ?_; intro q6 c6 w6 hown6 hb6 _; have HO6 := hid hown6; have HB6 := hid (HB5.out.trans hb6); clear hown6 hb6)
                    | (refine stepS rfl (.tmp 63) (.tmp 66) rfl wr.heap.size q6 (k + 1) c6 (OUT.take k ++ [s]) rfl HO6.out _ _ _ (OUT.drop k) rfl HDK.out (by rw [if_neg (by omega)]; exact HRd.out _ HB6.out) (by omega) HB6.out.size ?_; intro q7 c7 w7 hown7 hb7 _; have HO7 := hid hown7; have HB7 := hid (HB6.out.trans hb7); clear hown7 hb7))
                  all_goals
                    go_wp2
                    go_roundw
                    case rel =>
                      refine ⟨j + 1, q7, _, c7, by omega, by go_num, rfl, ?_, ?_, HB.out.trans (HB7.out.mono hsw)⟩
                      · show _ = _
                        rw [HT.out, List.length_append, List.length_cons, HTK.out, HDK.out]; omega
                      · show World.ownsRow _ _ _ _ _ _ _
                        have e : OUT.take k ++ s :: OUT.drop k = OUT.take k ++ [s] ++ OUT.drop k := by simp
                        rw [HT.out, e]
                        exact own_mono HO7.out hsw
                    case measure => simp [intOf]; omega
            · obtain rfl : k = no := by omega
              have HIN := hid (ins_at s OUT k (by rw [HL.out]; exact Nat.le_refl _) HP.out (.inl HL.out.symm))
              have HT : Hid (nmS (kAt Ls i (j + 1)) = OUT.take k ++ s :: OUT.drop k) := by show _ = _; rw [HNX.out, HIN.out, if_neg (fun h => by have := h.1; rw [HL.out] at this; omega)]
              go_upto_region 13 with fail
              rcases HO.out.2 with ⟨hv, hz9⟩ | ⟨g9, cap9, cur9, hv, _⟩
              · cases hv
                have HO0 : Hid (nmS (kAt Ls i (j + 1)) = [s]) := by show _ = _; rw [HT.out, List.eq_nil_of_length_eq_zero HL.out]; rfl
                have HD1 : Hid (Below wr.heap.size wr wr.drew) := below_drew (Below.refl _ _)
                have HD2 : Hid (Below wr.heap.size wr (wr.drew.alloc (.cells #[.string s] 9))) := HD1.out.alloc (Nat.le_refl _) _
                have HRS : Hid (Rd (wr.drew.alloc (.cells #[.string s] 9)) (some ⟨wr.heap.size, 0, none⟩) (strs [s])) := Rd.new wr.drew (strs [s]) _
                go_region_law (first
                  | (refine stepS rfl (.const (.slice none 0 0)) (.tmp 59) rfl wr.heap.size none 0 0 [] rfl (World.ownsRow_nil _ _ _ _) none 0 0 [] rfl rfl (.inl rfl) (by omega) (Nat.le_refl _) ?_; intro q5 c5 w5 hown5 hb5 _; rw [Nat.zero_add, List.nil_append] at hown5; have HO5 := hid hown5; have HB5 := hid (HD1.out.trans hb5); clear hown5 hb5)
                  | (refine stepS rfl (.const (.slice none 0 0)) (.tmp 59) rfl wr.heap.size none 0 0 [] rfl (World.ownsRow_nil _ _ _ _) none 0 0 [] rfl rfl (.inl rfl) (by omega) HD2.out.size ?_; intro q5 c5 w5 hown5 hb5 hbn; rw [Nat.zero_add, List.nil_append] at hown5; have HO5 := hid hown5; have HB5 := hid (HD2.out.trans hb5); have HRS5 := hid (HRS.out.below (hbn rfl)); clear hown5 hb5 hbn)
                  | (refine stepS rfl (.tmp 60) (.tmp 62) rfl wr.heap.size q5 0 c5 [] rfl (own_below HO5.out ((Below.refl _ _).alloc (Nat.le_refl _) _)) (some ⟨w5.heap.size, 0, none⟩) 1 1 [s] rfl rfl (Rd.new w5 (strs [s]) _) (by omega) (by have := HB5.out.size; simp; omega) ?_; intro q6 c6 w6 hown6 hb6 _; rw [Nat.zero_add, List.nil_append] at hown6; have HO6 := hid hown6; have HB6 := hid ((HB5.out.alloc HB5.out.size _).trans hb6); clear hown6 hb6)
                  | (refine stepS rfl (.tmp 60) (.tmp 62) rfl wr.heap.size q5 0 c5 [] rfl HO5.out (some ⟨wr.heap.size, 0, none⟩) 1 1 [s] rfl rfl HRS5.out (by omega) HB5.out.size ?_; intro q6 c6 w6 hown6 hb6 _; rw [Nat.zero_add, List.nil_append] at hown6; have HO6 := hid hown6; have HB6 := hid (HB5.out.trans hb6); clear hown6 hb6)
                  | (refine stepS rfl (.tmp 63) (.tmp 66) rfl wr.heap.size q6 1 c6 [s] rfl HO6.out none 0 0 [] rfl rfl (.inl rfl) (by omega) HB6.out.size ?_; intro q7 c7 w7 hown7 hb7 _; rw [Nat.add_zero, List.append_nil] at hown7; have HO7 := hid hown7; have HB7 := hid (HB6.out.trans hb7); clear hown7 hb7))
                all_goals
                  go_wp2
                  go_roundw
                  case rel =>
                    refine ⟨j + 1, q7, _, c7, by omega, by go_num, rfl, ?_, ?_, HB.out.trans (HB7.out.mono hsw)⟩
                    · show _ = _
                      rw [HO0.out]; rfl
                    · show World.ownsRow _ _ _ _ _ _ _
                      rw [HO0.out]
                      exact own_mono HO7.out hsw
                  case measure => simp [intOf]; omega
              · cases hv
                have HRk : Hid (∀ W, Below wr.heap.size wr W → Rd W (some ⟨g9, 0, none⟩) (strs (OUT.take k))) := fun W hW => by
                  have := (HRD.out.below hW).take k
                  have e : strs (OUT.take k) = (strs OUT).take k := by simp [strs, List.map_take]
                  rw [e]; exact this
                have HD1 : Hid (Below wr.heap.size wr wr.drew) := below_drew (Below.refl _ _)
                have HD2 : Hid (Below wr.heap.size wr (wr.drew.alloc (.cells #[.string s] 9))) := HD1.out.alloc (Nat.le_refl _) _
                have HRS : Hid (Rd (wr.drew.alloc (.cells #[.string s] 9)) (some ⟨wr.heap.size, 0, none⟩) (strs [s])) := Rd.new wr.drew (strs [s]) _
                have htk : (OUT.take k).length = k := by rw [List.length_take, HL.out]; omega
                have hdk : (OUT.drop k).length = 0 := by rw [List.length_drop, HL.out]; omega
                have HTK := hid htk
                have HDK := hid hdk
                clear htk hdk
                have kc1 : (k : Int) ≤ (co : Int) := by omega
                have kc2 : (k : Int) ≤ (k : Int) := by omega
                have kc3 : k ≤ co := by omega
                have kc4 : (k : Int) ≤ (co : Int) := by omega
                go_region_law (first
                  | (refine stepS rfl (.const (.slice none 0 0)) (.tmp 59) rfl wr.heap.size none 0 0 [] rfl (World.ownsRow_nil _ _ _ _) (some ⟨g9, 0, none⟩) k co (OUT.take k) rfl HTK.out (HRk.out _ HD1.out) (by omega) (Nat.le_refl _) ?_; intro q5 c5 w5 hown5 hb5 _; rw [Nat.zero_add, List.nil_append] at hown5; have HO5 := hid hown5; have HB5 := hid (HD1.out.trans hb5); clear hown5 hb5)
                  | (refine stepS rfl (.const (.slice none 0 0)) (.tmp 59) rfl wr.heap.size none 0 0 [] rfl (World.ownsRow_nil _ _ _ _) (some ⟨g9, 0, none⟩) k co (OUT.take k) rfl HTK.out (HRk.out _ HD2.out) (by omega) HD2.out.size ?_; intro q5 c5 w5 hown5 hb5 hbn; rw [Nat.zero_add, List.nil_append] at hown5; have HO5 := hid hown5; have HB5 := hid (HD2.out.trans hb5); have HRS5 := hid (HRS.out.below (hbn rfl)); clear hown5 hb5 hbn)
                  | (refine stepS rfl (.tmp 60) (.tmp 62) rfl wr.heap.size q5 k c5 (OUT.take k) rfl (own_below HO5.out ((Below.refl _ _).alloc (Nat.le_refl _) _)) (some ⟨w5.heap.size, 0, none⟩) 1 1 [s] rfl rfl (Rd.new w5 (strs [s]) _) (by omega) (by have := HB5.out.size; simp; omega) ?_; intro q6 c6 w6 hown6 hb6 _; have HO6 := hid hown6; have HB6 := hid ((HB5.out.alloc HB5.out.size _).trans hb6); clear hown6 hb6)
                  | (refine stepS rfl (.tmp 60) (.tmp 62) rfl wr.heap.size q5 k c5 (OUT.take k) rfl HO5.out (some ⟨wr.heap.size, 0, none⟩) 1 1 [s] rfl rfl HRS5.out (by omega) HB5.out.size ?_; intro q6 c6 w6 hown6 hb6 _; have HO6 := hid hown6; have HB6 := hid (HB5.out.trans hb6); clear hown6 hb6)
                  | (refine stepS rfl (.tmp 63) (.tmp 66) rfl wr.heap.size q6 (k + 1) c6 (OUT.take k ++ [s]) rfl HO6.out _ _ _ (OUT.drop k) rfl HDK.out (.inl (by rw [List.eq_nil_of_length_eq_zero HDK.out]; try rfl)) (by omega) HB6.out.size ?_; intro q7 c7 w7 hown7 hb7 _; have HO7 := hid hown7; have HB7 := hid (HB6.out.trans hb7); clear hown7 hb7))
                all_goals
                  go_wp2
                  go_roundw
                  case rel =>
                    refine ⟨j + 1, q7, _, c7, by omega, by go_num, rfl, ?_, ?_, HB.out.trans (HB7.out.mono hsw)⟩
                    · show _ = _
                      rw [HT.out, List.length_append, List.length_cons, HTK.out, HDK.out]; try omega
                    · show World.ownsRow _ _ _ _ _ _ _
                      have e : OUT.take k ++ s :: OUT.drop k = OUT.take k ++ [s] ++ OUT.drop k := by simp
                      rw [HT.out, e]
                      exact own_mono HO7.out hsw
                  case measure => simp [intOf]; omega
        · obtain rfl : j = ni := by omega
          have HL4 : Hid ((nmS (kAt Ls (i + 1) 0)).length = no) := by show _ = _; rw [kAt_next, HNi.out]; exact HL.out
          have HO4 : Hid (wr.ownsRow w.heap.size 9 1 (.slice qo no co) no (strs (nmS (kAt Ls (i + 1) 0)))) := by show World.ownsRow _ _ _ _ _ _ _; rw [kAt_next, HNi.out]; exact HO.out
          go_wp2
          go_roundw
          case rel => exact ⟨i + 1, qo, no, co, by omega, by go_num, rfl, HL4, HO4, HB⟩
          case measure => simp [intOf]; omega
    · obtain rfl : i = 3 := by omega
      have eU : nmS (kAt Ls 3 0) = uKeys (Ls 0) (Ls 1) (Ls 2) := by
        unfold uKeys
        refine strict_unique (nmS_strict _) (nmS_strict _) fun y => ?_
        rw [nmS_mem, nmS_mem, List.mem_append, List.mem_append, or_assoc, ← kAt_all]
      rw [eU] at HL HO
      go_wp2
      go_ret
      exact ⟨qo, co, by rw [HL.out]; rfl, (Fr.of_own HO.out).rd, HB.out⟩
end Go.Proofs.Herb
