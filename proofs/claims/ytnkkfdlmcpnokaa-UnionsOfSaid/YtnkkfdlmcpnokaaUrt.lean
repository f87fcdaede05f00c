
/- The reference of chapter 19: brought. For lists that can be read. -/
import Derived.Test.YtnkkfdlmcpnokaaUrp
import Derived.Deep.QuietTactic
import Derived.BigQuiet
import Derived.Deep.CutBlock
import Derived.Test.YtnkkfdlmcpnokaaSpl
namespace Go.Proofs.Herb
open Go.RowKit
section
variable {w : World} {ops : Array Oper} {rest : List Oper} {o : Oper} {a : Act} {K : Act → World → Prop} {Q : Exit → Act → World → Prop} {E : Prop}
theorem stepC (hgd : o.guard = none) (s x : Operand) (ho : o.op = .call { callee := .builtin .append, args := #[s, x], argTypes := #[27, 27] })
    (base : Nat) (q : Option Addr) (n c : Nat) (l : List Chg) (hs : a.eval s = .slice q n c) (hown : w.ownsRow base 44 4 (.slice q n c) n (cgCells l))
    (ad : Option Addr) (m d : Nat) (k : List Chg) (hx : a.eval x = .slice ad m d) (hl : k.length = m) (hr : Rd w ad (cgCells k)) (hsz : n + m ≤ 1000000) (hbase : base ≤ w.heap.size)
    (h : ∀ q' c' w', w'.ownsRow base 44 4 (.slice q' (n + m) c') (n + m) (cgCells (l ++ k)) → Below base w w' → (q = none → Below w.heap.size w w') → K (a.put o.dst (.slice q' (n + m) c')) w') :
    if Region.wanted o (yielded ops a.tmps) = true then Oper.wp Try.prog o a w K Q else E := by
  rw [if_pos (by simp [Region.wanted, hgd])]
  obtain ⟨i, hi, hz, hsize, hby⟩ := info_parts infoCg
  obtain ⟨q', c', w', hrun, h1, h2, h3⟩ := run_append_own_src (P := Try.prog) w base 27 27 o.type 44 i (.agg #[.string ⟨#[]⟩, .int .u32 0, .int .u8 0, .string ⟨#[]⟩]) 4 40 Try.underlying27 hi hz hsize hby rfl (by decide) _ n (cgCells l) hown (.slice ad m d) m (cgCells k) (src_rd (by decide) Try.underlying27 d (by rw [cgCells_len, hl]) hr (cgCells_one _)) (by unfold maxLen; omega) (by omega) hbase
  unfold Oper.wp execOp
  simp only [ho, resolve, invoke, builtin, Sem.run_bind, Sem.run_pure, Result.andThen_ok, List.map_toArray, List.map_cons, List.map_nil, hs, hx, hrun]
  rw [← cgCells_append] at h1
  exact h q' c' w' h1 (Below.grown' (Below.refl _ _) hown h2 hbase) (fun e => by subst e; exact (Below.refl _ _).grown h2 (Nat.le_refl _) (fun g hg => by cases hg))
end
theorem fV_gen (o : Option Fact) : ∃ x : Fact, fV o = fV (some x) ∧ (o = some x ∨ o = none) := by
  cases o with
  | none => exact ⟨⟨⟨#[]⟩, 0, 0, 0, 0, ⟨#[]⟩⟩, rfl, .inr rfl⟩
  | some x => exact ⟨x, rfl, .inl rfl⟩
theorem chg1_of {a b : List Fact} {k : ByteArray} {v : Nat} {x y : Fact} {o : Option Fact} (ho : findF a k v = o) (hx : o = some x ∨ o = none) (hy : findF b k v = some y) :
    chg1 a b k v = if (o.isSome && (decide (x.kind = y.kind) && decide (x.val = y.val))) = true then [] else [⟨k, v, y.kind, y.val⟩] := by
  unfold chg1 lookF
  rw [ho, hy]
  rcases hx with rfl | rfl
  · simp
  · simp
theorem brP_len (a b : List Fact) (k : ByteArray) (j : Nat) : (brP a b k j).length ≤ b.length := by
  have h1 : ∀ l : List Nat, (l.flatMap (chg1 a b k)).length ≤ l.length := fun l => by
    induction l with
    | nil => exact Nat.le_refl _
    | cons v l ih =>
      rw [List.flatMap_cons, List.length_append, List.length_cons]
      have := chg1_len a b k v
      omega
  have h2 : (timesF (b.take j) k).length ≤ b.length := by unfold timesF; rw [List.length_map]; exact Nat.le_trans (List.length_filter_le _ _) (by rw [List.length_take]; omega)
  exact Nat.le_trans (h1 _) (Nat.le_trans (dnD_len _) h2)
def ChgAt (W : World) (Z : Nat) (c : Chg) : Prop := W.cell? ⟨Z, 0, none⟩ = some (.string c.key) ∧ W.cell? ⟨Z, 1, none⟩ = some (.int .u32 (c.valid : Int)) ∧ W.cell? ⟨Z, 2, none⟩ = some (.int .u8 (c.kind : Int)) ∧ W.cell? ⟨Z, 3, none⟩ = some (.string c.val)
theorem cgCells_cons (c : Chg) (l : List Chg) : cgCells (c :: l) = .string c.key :: .int .u32 (c.valid : Int) :: .int .u8 (c.kind : Int) :: .string c.val :: cgCells l := rfl
theorem cgCells_take (l : List Chg) (k : Nat) : cgCells (l.take k) = (cgCells l).take (k * 4) := by
  induction l generalizing k with
  | nil => simp [cgCells]
  | cons c l ih =>
    cases k with
    | zero => simp [cgCells]
    | succ k => rw [List.take_succ_cons, cgCells_cons, cgCells_cons, ih, show (k + 1) * 4 = k * 4 + 1 + 1 + 1 + 1 by omega]; simp only [List.take_succ_cons]
theorem cgCells_drop (l : List Chg) (k : Nat) : cgCells (l.drop k) = (cgCells l).drop (k * 4) := by
  induction l generalizing k with
  | nil => simp [cgCells]
  | cons c l ih =>
    cases k with
    | zero => simp [cgCells]
    | succ k => rw [List.drop_succ_cons, cgCells_cons, ih, show (k + 1) * 4 = k * 4 + 1 + 1 + 1 + 1 by omega]; simp only [List.drop_succ_cons]
theorem chg_slice_to (q : Option Addr) (n c k : Nat) (hq : (q = none ∧ n = 0 ∧ c = 0) ∨ ∃ b o, q = some ⟨b, o, none⟩) (hk : k ≤ n) (hc : n ≤ c) (w : World) :
    (Instr.slice 27 (.slice q n c) none (some (.int .i64 (k : Int))) none).run Try.prog w = .ok (.slice q k c) w := by
  rcases hq with ⟨rfl, rfl, rfl⟩ | ⟨b, o, rfl⟩
  · obtain rfl : k = 0 := by omega
    go_simp
  · have i0 : (0 : Int) ≤ (k : Int) := by omega
    have i1 : (k : Int) ≤ (c : Int) := by omega
    have i2 : (k : Int) ≤ (n : Int) := by omega
    have i3 : k ≤ c := by omega
    go_simp
theorem chg_slice_from (q : Option Addr) (n c k : Nat) (hq : (q = none ∧ n = 0 ∧ c = 0) ∨ ∃ b o, q = some ⟨b, o, none⟩) (hk : k ≤ n) (hc : n ≤ c) :
    ∃ q9, (∀ w : World, (Instr.slice 27 (.slice q n c) (some (.int .i64 (k : Int))) none none).run Try.prog w = .ok (.slice q9 (n - k) (c - k)) w) ∧ ∀ (W : World) (l : List Chg), l.length = n → Rd W q (cgCells l) → Rd W q9 (cgCells (l.drop k)) := by
  rcases hq with ⟨rfl, rfl, rfl⟩ | ⟨b, o, rfl⟩
  · obtain rfl : k = 0 := by omega
    refine ⟨none, fun w => by go_simp, fun W l hl _ => ?_⟩
    rw [List.eq_nil_of_length_eq_zero hl]
    exact .inl rfl
  · have i0 : (0 : Int) ≤ (k : Int) := by omega
    have i1 : (k : Int) ≤ (n : Int) := by omega
    by_cases h : c = k
    · have hn : n = k := by omega
      subst h
      subst hn
      refine ⟨some ⟨b, o, none⟩, fun w => by go_simp, fun W l hl _ => ?_⟩
      rw [List.drop_eq_nil_of_le (by omega)]
      exact .inl rfl
    · refine ⟨some ⟨b, o + k * 4, none⟩, fun w => by go_simp, fun W l hl hr => ?_⟩
      rw [cgCells_drop]
      exact hr.drop _
set_option maxRecDepth 100000 in
set_option maxHeartbeats 20000000 in
theorem brought_ref (q p : Option Addr) (n c m d : Nat) (a b : List Fact) (k : ByteArray) (w : World) (hn : a.length = n) (hm : b.length = m) (bn : n ≤ 1000) (bm : m ≤ 1000) (hr : Rd w q (fCells a)) (hs : Rd w p (fCells b)) :
    Calls Try.prog 30 #[.slice q n c, .slice p m d, .string k] w fun e w' => ∃ v, e = .returned v ∧ w'.ownsRow w.heap.size 44 4 v (brS a b k).length (cgCells (brS a b k)) ∧ Below w.heap.size w w' := by
  have HN := hid hn
  have HM := hid hm
  have HR := hid hr
  have HS := hid hs
  clear hn hm hr hs
  go_enter Try.func30, Try.ntmps30
  go_wp2
  go_loopw [7, 8] (fun v jv wr => ∃ (j : Nat) (qo : Option Addr) (no co : Nat), j ≤ m ∧ jv = .int .i64 (j : Int) ∧ v = .slice qo no co ∧ Hid ((brP a b k j).length = no) ∧ Hid (wr.ownsRow w.heap.size 44 4 (.slice qo no co) no (cgCells (brP a b k j))) ∧ Hid (Below w.heap.size w wr)) (fun _ jv _ => m - (intOf jv).toNat)
  case atStart => exact ⟨0, none, 0, 0, Nat.zero_le _, rfl, rfl, rfl, World.ownsRow_nil _ _ _ _, Below.refl _ _⟩
  case round =>
    obtain ⟨j, qo, no, co, hjm, rfl, rfl, HL, HO, HB⟩ := hrel
    by_cases hlt : j < m
    · have hjl : j < b.length := by rw [HM.out]; exact hlt
      obtain ⟨bb, off, rfl, hb, hf⟩ := fact_at (HS.out.below HB.out) (j := j) hjl
      obtain ⟨f, hfe⟩ : ∃ f, b[j] = f := ⟨_, rfl⟩
      have hfm : f ∈ b := by rw [← hfe]; exact List.getElem_mem _
      have i0 : (0 : Int) ≤ (j : Int) := by omega
      have i1 : (j : Int) < (m : Int) := by omega
      by_cases he : f.key = k
      · obtain ⟨y, hy⟩ := findF_has hfm
        rw [he] at hy
        obtain ⟨-, hyk, hyv⟩ := findF_some hy
        have HIN : Hid (∀ C, chg1 a b k f.valid = [C] → C.valid = f.valid → brP a b k (j + 1) = insC C (brP a b k j)) := fun C h1 h2 => brP_ins hjl (by rw [hfe]; exact he) (by rw [hfe]; exact h1) (by rw [hfe]; exact h2)
        have HNO : Hid (chg1 a b k f.valid = [] → brP a b k (j + 1) = brP a b k j) := fun h1 => brP_none hjl (by rw [hfe]; exact he) (by rw [hfe]; exact h1)
        rw [hfe] at hf
        obtain ⟨c0, c1, c2, c3, c4, c5⟩ := hf
        have hbe : (f.key.toList == k.toList) = true := by rw [he]; exact eq_text _
        obtain ⟨V, hV⟩ : ∃ V, V = f.valid := ⟨_, rfl⟩
        rw [← hV] at c1 hy hyv HIN HNO
        have HYK := hid hyk
        clear hyk
        have k1 := find_any q n c a k V wr HN.out (by omega) (HR.out.below HB.out)
        obtain ⟨x, hx1, hx2⟩ := fV_gen (findF a k V)
        have hch := chg1_of rfl hx2 hy
        obtain ⟨is, his⟩ : ∃ is, (findF a k V).isSome = is := ⟨_, rfl⟩
        rw [hx1, fV_some, his] at k1
        rw [his] at hch
        obtain ⟨SK, hSK⟩ : ∃ SK, SK = (is && (decide (x.kind = y.kind) && decide (x.val = y.val))) := ⟨_, rfl⟩
        rw [← hSK] at hch
        have HSK := hid hSK
        have HCH := hid hch
        have hk2 : ∀ W, Below wr.heap.size wr W → _ := fun W hW => find_any (some ⟨bb, off, none⟩) m d b k V W HM.out (by omega) ((HS.out.below HB.out).below hW)
        have HY := hid hy
        have H2 := hid hk2
        obtain ⟨OUT, hOUT⟩ : ∃ O, brP a b k j = O := ⟨_, rfl⟩
        rw [hOUT] at HL HO HIN HNO
        have hnl := brP_len a b k j
        rw [hOUT, HM.out, HL.out] at hnl
        clear hfm hy hk2 he hfe hjl hSK hch hx1 hx2 his c2 c3 c4 c5 hV hOUT
        go_upto_region 6 with fail
        clear hbe c0
        go_upto_region 7 with (go_at_call 42; with_reducible refine k1.mono ?_; rintro e w2 ⟨rfl, b2⟩; have HB2 := hid b2; clear b2)
        obtain ⟨X, hX⟩ : ∃ X, X = w2.heap.size := ⟨_, rfl⟩
        have hx0 : (w2.alloc (.cells #[.string x.key, .int .u32 (x.valid : Int), .int .u64 (x.seq : Int), .int .u64 (x.line : Int), .int .u8 (x.kind : Int), .string x.val] 42)).heap[X]? = some (.cells #[.string x.key, .int .u32 (x.valid : Int), .int .u64 (x.seq : Int), .int .u64 (x.line : Int), .int .u8 (x.kind : Int), .string x.val] 42 (0, 0)) := by rw [hX]; exact World.alloc_heap_new _ _
        have hb3 := HB2.out.alloc HB2.out.size (.cells #[.string x.key, .int .u32 (x.valid : Int), .int .u64 (x.seq : Int), .int .u64 (x.line : Int), .int .u8 (x.kind : Int), .string x.val] 42)
        rw [← hX]
        generalize (w2.alloc (.cells #[.string x.key, .int .u32 (x.valid : Int), .int .u64 (x.seq : Int), .int .u64 (x.line : Int), .int .u8 (x.kind : Int), .string x.val] 42)) = W3 at hx0 hb3 ⊢
        have HB3 := hid hb3
        have e4 : W3.cell? ⟨X, 4, none⟩ = some (.int .u8 (x.kind : Int)) := by rw [cell_of_row _ _ _ _ _ _ hx0]; rfl
        have e5 : W3.cell? ⟨X, 5, none⟩ = some (.string x.val) := by rw [cell_of_row _ _ _ _ _ _ hx0]; rfl
        have hXl := lt_of_block hx0
        have k2 := H2.out W3 hb3
        have c1' : W3.cell? ⟨bb, off + j * 6 + 1, none⟩ = some (.int .u32 (V : Int)) := (hb3.cell (p := ⟨bb, off + j * 6 + 1, none⟩) hb).trans c1
        rw [HY.out] at k2
        simp only [fV_some, Option.isSome_some] at k2
        rw [hyv, HYK.out] at k2
        clear hX hx0 hb3 c1 hb HB2
        go_upto_region 8 with (go_at_call 42; with_reducible refine k2.mono ?_; rintro e w4 ⟨rfl, b4⟩; have B34 := hid b4; have HB4 := hid (HB3.out.trans (b4.mono HB3.out.size)); clear b4)
        obtain ⟨Y, hY⟩ : ∃ Y, Y = w4.heap.size := ⟨_, rfl⟩
        have hy0 : (w4.alloc (.cells #[.string k, .int .u32 (V : Int), .int .u64 (y.seq : Int), .int .u64 (y.line : Int), .int .u8 (y.kind : Int), .string y.val] 42)).heap[Y]? = some (.cells #[.string k, .int .u32 (V : Int), .int .u64 (y.seq : Int), .int .u64 (y.line : Int), .int .u8 (y.kind : Int), .string y.val] 42 (0, 0)) := by rw [hY]; exact World.alloc_heap_new _ _
        have hb35 := B34.out.alloc B34.out.size (.cells #[.string k, .int .u32 (V : Int), .int .u64 (y.seq : Int), .int .u64 (y.line : Int), .int .u8 (y.kind : Int), .string y.val] 42)
        have hb5 := HB4.out.alloc HB4.out.size (.cells #[.string k, .int .u32 (V : Int), .int .u64 (y.seq : Int), .int .u64 (y.line : Int), .int .u8 (y.kind : Int), .string y.val] 42)
        rw [← hY]
        generalize (w4.alloc (.cells #[.string k, .int .u32 (V : Int), .int .u64 (y.seq : Int), .int .u64 (y.line : Int), .int .u8 (y.kind : Int), .string y.val] 42)) = W5 at hy0 hb35 hb5 ⊢
        have HB5 := hid (HB.out.trans (hb5.mono HB.out.size))
        have HBr5 := hid hb5
        have g4 := (hb35.cell (p := ⟨X, 4, none⟩) hXl).trans e4
        have g5 := (hb35.cell (p := ⟨X, 5, none⟩) hXl).trans e5
        have k1' : W5.cell? ⟨Y, 1, none⟩ = some (.int .u32 (V : Int)) := by rw [cell_of_row _ _ _ _ _ _ hy0]; rfl
        have k4 : W5.cell? ⟨Y, 4, none⟩ = some (.int .u8 (y.kind : Int)) := by rw [cell_of_row _ _ _ _ _ _ hy0]; rfl
        have k5 : W5.cell? ⟨Y, 5, none⟩ = some (.string y.val) := by rw [cell_of_row _ _ _ _ _ _ hy0]; rfl
        clear hY hy0 hb35 hb5 e4 e5 hXl c1' hyv k1 k2
        go_cut [64] (fun v wd => v = .bool SK ∧ W5 = wd)
        case first =>
          cases is with
          | false =>
            go_wp2
            go_meet
            exact ⟨by rw [HSK.out]; rfl, rfl⟩
          | true =>
            by_cases hkk : x.kind = y.kind
            · by_cases hvv : x.val = y.val
              · have hS1 : SK = true := by rw [HSK.out]; simp [hkk, hvv]
                rw [hkk] at g4
                rw [hvv] at g5
                clear hkk hvv
                go_wp2
                go_meet
                exact ⟨by rw [hS1], rfl⟩
              · have hS1 : SK = false := by rw [HSK.out]; simp [hvv]
                have hne := ne_text hvv
                rw [hkk] at g4
                clear hkk hvv
                go_wp2
                go_meet
                exact ⟨by rw [hS1], rfl⟩
            · have hS1 : SK = false := by rw [HSK.out]; simp [hkk]
              have hk2 : ¬ ((x.kind : Int) = (y.kind : Int)) := by omega
              clear hkk
              go_wp2
              go_meet
              exact ⟨by rw [hS1], rfl⟩
        case rest =>
          obtain ⟨rfl, rfl⟩ := hcut
          clear g4 g5 HSK
          cases SK with
          | true =>
            have HT := hid (HNO.out (by rw [HCH.out]; rfl))
            clear k1' k4 k5
            go_wp2
            go_roundw
            case rel => exact ⟨j + 1, qo, no, co, by omega, by go_num, rfl, by rw [HT.out]; exact HL, by rw [HT.out]; exact own_below HO.out HBr5.out, HB5⟩
            case measure => simp [intOf]; omega
          | false =>
            have HNX := hid (HIN.out ⟨k, V, y.kind, y.val⟩ (by rw [HCH.out]; rfl) rfl)
            go_upto_region 10 with fail
            obtain ⟨Z, hZ⟩ : ∃ Z, Z = W5.heap.size := ⟨_, rfl⟩
            have hz0 : (W5.alloc (.cells #[.string k, .int .u32 (V : Int), .int .u8 (y.kind : Int), .string y.val] 44)).heap[Z]? = some (.cells #[.string k, .int .u32 (V : Int), .int .u8 (y.kind : Int), .string y.val] 44 (0, 0)) := by rw [hZ]; exact World.alloc_heap_new _ _
            have hb6 : Below wr.heap.size wr (W5.alloc (.cells #[.string k, .int .u32 (V : Int), .int .u8 (y.kind : Int), .string y.val] 44)) := HBr5.out.alloc HBr5.out.size _
            rw [← hZ]
            generalize (W5.alloc (.cells #[.string k, .int .u32 (V : Int), .int .u8 (y.kind : Int), .string y.val] 44)) = W6 at hz0 hb6 ⊢
            have hZS : Hid (∀ W, Below W6.heap.size W6 W → ChgAt W Z ⟨k, V, y.kind, y.val⟩) := fun W hW => by
              have hl := lt_of_block hz0
              refine ⟨?_, ?_, ?_, ?_⟩
              · rw [hW.cell (p := ⟨Z, 0, none⟩) hl, cell_of_row _ _ _ _ _ _ hz0]; rfl
              · rw [hW.cell (p := ⟨Z, 1, none⟩) hl, cell_of_row _ _ _ _ _ _ hz0]; rfl
              · rw [hW.cell (p := ⟨Z, 2, none⟩) hl, cell_of_row _ _ _ _ _ _ hz0]; rfl
              · rw [hW.cell (p := ⟨Z, 3, none⟩) hl, cell_of_row _ _ _ _ _ _ hz0]; rfl
            have HB6 := hid (HB.out.trans (hb6.mono HB.out.size))
            have HO6 := hid (own_below HO.out hb6)
            have hqs : (qo = none ∧ no = 0 ∧ co = 0) ∨ ∃ b o, qo = some ⟨b, o, none⟩ := by
              rcases HO.out.2 with ⟨hv, hz9⟩ | ⟨g9, cap9, cur9, hv, _⟩
              · cases hv
                exact .inl ⟨rfl, rfl, rfl⟩
              · cases hv
                exact .inr ⟨_, _, rfl⟩
            have ho1 : no ≤ co := by
              obtain ⟨q9, c9, e9, h1, h2, h3⟩ := own_shape HO.out
              cases e9
              exact h1
            have HQS := hid hqs
            have HRD := hid (Fr.of_own HO6.out).rd
            clear hZ hz0 hb6 k1' k4 k5 HBr5 HB5 hqs HO
            go_upto_block 2 with fail
            go_cut [14] (fun kv wd => ∃ k' : Nat, k' ≤ no ∧ kv = .int .i64 (k' : Int) ∧ Hid (∀ t, t < k' → V < (cD OUT t).valid) ∧ Hid (k' = no ∨ ¬ V < (cD OUT k').valid) ∧ Hid (Below W6.heap.size W6 wd))
            case first =>
              go_wp2_with fail
              go_loopw [14] (fun kv wk => ∃ k' : Nat, k' ≤ no ∧ kv = .int .i64 (k' : Int) ∧ Hid (∀ t, t < k' → V < (cD OUT t).valid) ∧ Hid (Below W6.heap.size W6 wk)) (fun kv _ => no - (intOf kv).toNat)
              case atStart => exact ⟨0, Nat.zero_le _, rfl, fun t ht => absurd ht (Nat.not_lt_zero _), Below.refl _ _⟩
              case round =>
                obtain ⟨k', hk, rfl, HP, HBk⟩ := hrel
                have k0 : (0 : Int) ≤ (k' : Int) := by omega
                obtain ⟨z0, z1, z2, z3⟩ := hZS.out _ HBk.out
                clear z0 z2 z3
                by_cases hkn : k' < no
                · obtain ⟨bo, oo, rfl, g0, g1, g2, g3⟩ := cg_at (HRD.out.below HBk.out) (j := k') (by rw [HL.out]; exact hkn)
                  have k1 : (k' : Int) < (no : Int) := by omega
                  obtain ⟨x2, hx2⟩ : ∃ x, (OUT[k']'(by rw [HL.out]; exact hkn)).valid = x := ⟨_, rfl⟩
                  have hcd : (cD OUT k').valid = x2 := by rw [cD_get (by rw [HL.out]; exact hkn)]; exact hx2
                  rw [hx2] at g1
                  have HCD := hid hcd
                  clear hx2 hcd g0 g2 g3
                  by_cases hgt : V < x2
                  · have h4 : (V : Int) < (x2 : Int) := by omega
                    have HP2 : Hid (∀ t, t < k' + 1 → V < (cD OUT t).valid) := fun t ht => by
                      rcases Nat.lt_or_ge t k' with h | h
                      · exact HP.out t h
                      · obtain rfl : t = k' := by omega
                        rw [HCD.out]; exact hgt
                    go_upto_region 11 with fail
                    go_quiet (fail)
                    have HBq := hid (below_drewN HBk.out nq)
                    go_wp2
                    go_roundw
                    case rel => exact ⟨k' + 1, by omega, by go_num, HP2, HBq⟩
                    case measure => simp [intOf]; omega
                  · have h4 : ¬ (V : Int) < (x2 : Int) := by omega
                    have HP2 : Hid (k' = no ∨ ¬ V < (cD OUT k').valid) := .inr (by rw [HCD.out]; exact hgt)
                    go_upto_region 11 with fail
                    go_quiet (fail)
                    have HBq := hid (below_drewN HBk.out nq)
                    go_wp2
                    go_meet
                    exact ⟨k', hk, rfl, HP, HP2, HBq⟩
                · obtain rfl : k' = no := by omega
                  have h4 : decide ((k' : Int) < (k' : Int)) = false := by simp
                  go_upto_region 11 with fail
                  go_quiet (fail)
                  have HBq := hid (below_drewN HBk.out nq)
                  go_wp2
                  go_meet
                  exact ⟨k', Nat.le_refl _, rfl, HP, .inl rfl, HBq⟩
            case rest =>
              obtain ⟨k', hk, rfl, HP, HX, HB7⟩ := hcut
              have HIA := hid (insC_at ⟨k, V, y.kind, y.val⟩ OUT k' (by rw [HL.out]; exact hk) HP.out (by rw [HL.out]; exact HX.out))
              rename_i hK
              refine hK _ _ ?_
              clear hK
              have k0 : (0 : Int) ≤ (k' : Int) := by omega
              go_upto_region 13 with fail
              go_cut [102] (fun v wd => ∃ B : Bool, v = .bool B ∧ Hid (B = true → insC ⟨k, V, y.kind, y.val⟩ OUT = OUT.take k' ++ ⟨k, V, y.kind, y.val⟩ :: OUT.drop k') ∧ Hid (B = false → insC ⟨k, V, y.kind, y.val⟩ OUT = OUT) ∧ Hid (Below W6.heap.size W6 wd))
              case first =>
                obtain ⟨z0, z1, z2, z3⟩ := hZS.out _ HB7.out
                clear z0 z2 z3
                by_cases hkn : k' < no
                · obtain ⟨bo, oo, rfl, g0, g1, g2, g3⟩ := cg_at (HRD.out.below HB7.out) (j := k') (by rw [HL.out]; exact hkn)
                  have k1 : (k' : Int) < (no : Int) := by omega
                  have k2 : ¬ ((k' : Int) = (no : Int)) := by omega
                  obtain ⟨x2, hx2⟩ : ∃ x, (OUT[k']'(by rw [HL.out]; exact hkn)).valid = x := ⟨_, rfl⟩
                  have hcd : (cD OUT k').valid = x2 := by rw [cD_get (by rw [HL.out]; exact hkn)]; exact hx2
                  rw [hx2] at g1
                  have HCD := hid hcd
                  clear hx2 hcd g0 g2 g3
                  by_cases hgt : x2 = V
                  · have h4 : (x2 : Int) = (V : Int) := by omega
                    have hr1 : Hid (insC ⟨k, V, y.kind, y.val⟩ OUT = OUT) := by show _ = _; rw [HIA.out, if_pos ⟨by rw [HL.out]; exact hkn, by rw [HCD.out]; exact hgt⟩]
                    rw [h4] at g1
                    clear h4 hgt
                    go_quiet (fail)
                    have HBq := hid (below_drewN HB7.out nq)
                    go_wp2
                    go_meet
                    exact ⟨false, congrArg Value.bool (by simp; omega), (fun h => by cases h), fun _ => hr1.out, HBq⟩
                  · have h4 : ¬ ((x2 : Int) = (V : Int)) := by omega
                    have hr1 : Hid (insC ⟨k, V, y.kind, y.val⟩ OUT = OUT.take k' ++ ⟨k, V, y.kind, y.val⟩ :: OUT.drop k') := by show _ = _; rw [HIA.out, if_neg (fun h => hgt (by rw [← HCD.out]; exact h.2))]
                    clear hgt
                    go_quiet (fail)
                    have HBq := hid (below_drewN HB7.out nq)
                    go_wp2
                    go_meet
                    exact ⟨true, congrArg Value.bool (by simp; omega), fun _ => hr1.out, (fun h => by cases h), HBq⟩
                · obtain rfl : k' = no := by omega
                  have hr1 : Hid (insC ⟨k, V, y.kind, y.val⟩ OUT = OUT.take k' ++ ⟨k, V, y.kind, y.val⟩ :: OUT.drop k') := by show _ = _; rw [HIA.out, if_neg (fun h => by have := h.1; rw [HL.out] at this; omega)]
                  go_quiet (fail)
                  have HBq := hid (below_drewN HB7.out nq)
                  go_wp2
                  go_meet
                  exact ⟨true, rfl, fun _ => hr1.out, fun h => (by cases h), HBq⟩
              case rest =>
                obtain ⟨B, rfl, HT1, HT2, HB8⟩ := hcut
                clear HB7 HP HX HIA
                cases B with
                | false =>
                  have HT : Hid (brP a b k (j + 1) = OUT) := by show _ = _; rw [HNX.out]; exact HT2.out rfl
                  have HB9 := hid (HB6.out.trans (HB8.out.mono HB6.out.size))
                  have HO9 := hid (own_below HO6.out HB8.out)
                  go_wp2
                  go_roundw
                  case rel => exact ⟨j + 1, qo, no, co, by omega, by go_num, rfl, by rw [HT.out]; exact HL, by rw [HT.out]; exact HO9, HB9⟩
                  case measure => simp [intOf]; omega
                | true =>
                  have HT : Hid (brP a b k (j + 1) = OUT.take k' ++ ⟨k, V, y.kind, y.val⟩ :: OUT.drop k') := by show _ = _; rw [HNX.out]; exact HT1.out rfl
                  clear HT1 HT2
                  go_upto_region 14 with fail
                  obtain ⟨wb, hwb⟩ : ∃ x, x = wc := ⟨_, rfl⟩
                  rw [← hwb]
                  rw [← hwb] at HB8
                  clear hwb
                  have HSS := hid (show ∀ W, Below wb.heap.size wb W → ChgAt W Z ⟨k, V, y.kind, y.val⟩ from fun W hW => hZS.out W (HB8.out.trans (hW.mono HB8.out.size)))
                  have HBb := hid (HB6.out.trans (HB8.out.mono HB6.out.size))
                  have hsl1 := chg_slice_to qo no co k' HQS.out hk ho1
                  obtain ⟨q9, hsl2, hr9⟩ := chg_slice_from qo no co k' HQS.out hk ho1
                  have HRd := hid (show ∀ W, Below wb.heap.size wb W → Rd W q9 (cgCells (OUT.drop k')) from fun W hW => hr9 W OUT HL.out (HRD.out.below (HB8.out.trans (hW.mono HB8.out.size))))
                  have HRk := hid (show ∀ W, Below wb.heap.size wb W → Rd W qo (cgCells (OUT.take k')) from fun W hW => by rw [cgCells_take]; exact (HRD.out.below (HB8.out.trans (hW.mono HB8.out.size))).take _)
                  have HTK : Hid ((OUT.take k').length = k') := by show _ = _; rw [List.length_take, HL.out]; omega
                  have HDK : Hid ((OUT.drop k').length = no - k') := by show _ = _; rw [List.length_drop, HL.out]
                  have hbd : Below wb.heap.size wb wb.drew := below_drew (Below.refl _ _)
                  clear hr9
                  refine wp_region_held_drew (S := fun w' => ChgAt w' Z ⟨k, V, y.kind, y.val⟩) (by kernel_rfl) (HSS.out _ hbd) (fun hHeld => ?_)
                  refine take_held (v := ?_) 0 rfl (by kernel_rfl) (by kernel_rfl) (by kernel_rfl) (fun _ _ _ h => h) (Or.inl ⟨by rfl, ?_⟩) (by assumption) ?_
                  rotate_left
                  · intro w hSw
                    obtain ⟨s0, s1, s2, s3⟩ := hSw
                    go_simp
                    try with_reducible rfl
                  simp only [Act.put, List.setIfInBounds_toArray, List.set_cons_zero, List.set_cons_succ]
                  refine take_held (v := ?_) 1 rfl (by kernel_rfl) (by kernel_rfl) (by kernel_rfl) (fun _ _ _ h => h) (Or.inl ⟨by rfl, ?_⟩) (by assumption) ?_
                  rotate_left
                  · intro w hSw
                    obtain ⟨s0, s1, s2, s3⟩ := hSw
                    go_simp
                    try with_reducible rfl
                  simp only [Act.put, List.setIfInBounds_toArray, List.set_cons_zero, List.set_cons_succ]
                  refine take_held (v := ?_) 2 rfl (by kernel_rfl) (by kernel_rfl) (by kernel_rfl) (fun _ _ _ h => h) (Or.inl ⟨by rfl, ?_⟩) (by assumption) ?_
                  rotate_left
                  · intro w hSw
                    obtain ⟨s0, s1, s2, s3⟩ := hSw
                    go_simp
                    try with_reducible rfl
                  simp only [Act.put, List.setIfInBounds_toArray, List.set_cons_zero, List.set_cons_succ]
                  refine take_held (v := ?_) 4 rfl (by kernel_rfl) (by kernel_rfl) (by kernel_rfl) (fun _ _ _ h => h) (Or.inl ⟨by rfl, ?_⟩) (by assumption) ?_
                  rotate_left
                  · intro w hSw
                    obtain ⟨s0, s1, s2, s3⟩ := hSw
                    go_simp
                    try with_reducible rfl
                  simp only [Act.put, List.setIfInBounds_toArray, List.set_cons_zero, List.set_cons_succ]
                  refine take_held (v := ?_) 7 rfl (by kernel_rfl) (by kernel_rfl) (by kernel_rfl) (fun _ _ _ h => h) (Or.inl ⟨by rfl, ?_⟩) (by assumption) ?_
                  rotate_left
                  · intro w hSw
                    obtain ⟨s0, s1, s2, s3⟩ := hSw
                    go_simp
                    try with_reducible rfl
                  simp only [Act.put, List.setIfInBounds_toArray, List.set_cons_zero, List.set_cons_succ]
                  refine take_held (v := ?_) 8 rfl (by kernel_rfl) (by kernel_rfl) (by kernel_rfl) (fun _ _ _ h => h) (Or.inl ⟨by rfl, ?_⟩) (by assumption) ?_
                  rotate_left
                  · intro w hSw
                    obtain ⟨s0, s1, s2, s3⟩ := hSw
                    go_simp
                    try with_reducible rfl
                  simp only [Act.put, List.setIfInBounds_toArray, List.set_cons_zero, List.set_cons_succ]
                  refine take_held (v := ?_) 9 rfl (by kernel_rfl) (by kernel_rfl) (by kernel_rfl) (fun _ _ _ h => h) (Or.inl ⟨by rfl, ?_⟩) (by assumption) ?_
                  rotate_left
                  · intro w hSw
                    obtain ⟨s0, s1, s2, s3⟩ := hSw
                    go_simp
                    try with_reducible rfl
                  simp only [Act.put, List.setIfInBounds_toArray, List.set_cons_zero, List.set_cons_succ]
                  refine wpAnyH_ready (rs := [3, 5]) (by kernel_rfl) (by simp) ?_
                  refine cons_held 3 rfl (fun K hK => ?_) ?_
                  · refine stepC rfl (.const (.slice none 0 0)) (.tmp 105) rfl wb.heap.size none 0 0 [] rfl (World.ownsRow_nil _ _ _ _) qo k' co (OUT.take k') rfl HTK.out (HRk.out _ hbd) (by omega) (Nat.le_refl _) ?_
                    intro q3 c3 w3 hown3 hg3 _
                    have hb3 : Below wb.heap.size wb w3 := hbd.trans hg3
                    refine hK.out _ _ (HSS.out _ hb3) (fun hHeld2 => ?_)
                    clear hK K
                    refine wpAnyH_ready (rs := [5]) (by kernel_rfl) (by simp) ?_
                    refine cons_held 5 rfl (fun K hK => ?_) AllReadyH.nil
                    go_simp
                    obtain ⟨qb, hqb⟩ : ∃ g, g = w3.heap.size := ⟨_, rfl⟩
                    obtain ⟨w4, hw4⟩ : ∃ g, g = w3.alloc (.cells #[.string k, .int .u32 (V : Int), .int .u8 (y.kind : Int), .string y.val] 44) := ⟨_, rfl⟩
                    have hb34 : Below w3.heap.size w3 w4 := by rw [hw4]; exact (Below.refl _ _).alloc (Nat.le_refl _) _
                    have hb4 : Below wb.heap.size wb w4 := hb3.trans (hb34.mono hb3.size)
                    have hown4 := own_below hown3 hb34
                    rw [Nat.zero_add] at hown4
                    have hrd : Rd w4 (some ⟨qb, 0, none⟩) (cgCells [⟨k, V, y.kind, y.val⟩]) := by rw [hw4, hqb]; exact Rd.new _ [.string k, .int .u32 (V : Int), .int .u8 (y.kind : Int), .string y.val] _
                    rw [← hw4, ← hqb]
                    refine hK.out _ _ (HSS.out _ hb4) (fun hHeld3 => ?_)
                    clear hK K
                    refine wpAnyH_ready (rs := [6]) (by kernel_rfl) (by simp) ?_
                    refine cons_held 6 rfl (fun K hK => ?_) AllReadyH.nil
                    refine stepC rfl (.tmp 106) (.tmp 108) rfl wb.heap.size q3 (k') c3 ([] ++ OUT.take k') rfl hown4 (some ⟨qb, 0, none⟩) 1 1 [⟨k, V, y.kind, y.val⟩] rfl rfl hrd (by omega) hb4.size ?_
                    intro q6 c6 w6 hown6 hg6 _
                    have hb6 : Below wb.heap.size wb w6 := hb4.trans hg6
                    refine hK.out _ _ (HSS.out _ hb6) (fun hHeld6 => ?_)
                    clear hK K
                    refine wpAnyH_ready (rs := [10]) (by kernel_rfl) (by simp) ?_
                    refine cons_held 10 rfl (fun K hK => ?_) AllReadyH.nil
                    refine stepC rfl (.tmp 109) (.tmp 112) rfl wb.heap.size q6 (k' + 1) c6 ([] ++ OUT.take k' ++ [⟨k, V, y.kind, y.val⟩]) rfl hown6 q9 (no - k') (co - k') (OUT.drop k') rfl HDK.out (HRd.out _ hb6) (by omega) hb6.size ?_
                    intro q10 c10 w10 hown10 hg10 _
                    have hb10 : Below wb.heap.size wb w10 := hb6.trans hg10
                    refine hK.out _ _ (HSS.out _ hb10) (fun hHeld10 => ?_)
                    clear hK K
                    refine take_held (v := ?_) 11 rfl (by kernel_rfl) (by kernel_rfl) (by kernel_rfl) (fun _ _ _ h => h) (Or.inl ⟨by rfl, ?_⟩) (by assumption) ?_
                    rotate_left
                    · intro w hSw
                      obtain ⟨s0, s1, s2, s3⟩ := hSw
                      go_simp
                      try with_reducible rfl
                    simp only [Act.put, List.setIfInBounds_toArray, List.set_cons_zero, List.set_cons_succ]
                    refine wpAnyH_done (by kernel_rfl) ?_ _
                    have HO10 := hid hown10
                    have HB10 := hid hb10
                    clear hown10 hown6 hown3 hg3 hg6 hg10 hb10 hb6
                    go_wp2
                    go_roundw
                    case rel =>
                      refine ⟨j + 1, q10, _, c10, by omega, by go_num, rfl, ?_, ?_, HBb.out.trans (HB10.out.mono HBb.out.size)⟩
                      · show _ = _
                        rw [HT.out, List.length_append, List.length_cons, HTK.out, HDK.out]; omega
                      · show World.ownsRow _ _ _ _ _ _ _
                        have e : OUT.take k' ++ ⟨k, V, y.kind, y.val⟩ :: OUT.drop k' = [] ++ OUT.take k' ++ [⟨k, V, y.kind, y.val⟩] ++ OUT.drop k' := by simp
                        rw [HT.out, e]
                        exact own_mono HO10.out HBb.out.size
                    case measure => simp [intOf]; omega
                  refine cons_held 5 rfl (fun K hK => ?_) AllReadyH.nil
                  go_simp
                  obtain ⟨qb, hqb⟩ : ∃ g, g = wb.heap.size := ⟨_, rfl⟩
                  obtain ⟨w4, hw4⟩ : ∃ g, g = (wb.alloc (.cells #[.string k, .int .u32 (V : Int), .int .u8 (y.kind : Int), .string y.val] 44)).drew := ⟨_, rfl⟩
                  have hb4 : Below wb.heap.size wb w4 := by rw [hw4]; exact ((Below.refl _ _).alloc (Nat.le_refl _) _).drew
                  have hrd4 : Rd w4 (some ⟨qb, 0, none⟩) (cgCells [⟨k, V, y.kind, y.val⟩]) := by rw [hw4, hqb]; exact (Rd.new _ [.string k, .int .u32 (V : Int), .int .u8 (y.kind : Int), .string y.val] _).below (Below.refl _ _).drew
                  refine hK.out _ _ (show _ from by rw [← hw4]; exact HSS.out _ hb4) (fun hHeld2 => ?_)
                  rw [← hw4, ← hqb]
                  clear hK K
                  refine wpAnyH_ready (rs := [3]) (by kernel_rfl) (by simp) ?_
                  refine cons_held 3 rfl (fun K hK => ?_) AllReadyH.nil
                  refine stepC rfl (.const (.slice none 0 0)) (.tmp 105) rfl wb.heap.size none 0 0 [] rfl (World.ownsRow_nil _ _ _ _) qo k' co (OUT.take k') rfl HTK.out (HRk.out _ hb4) (by omega) hb4.size ?_
                  intro q3 c3 w3 hown3 hg3 hn3
                  have hb3 : Below wb.heap.size wb w3 := hb4.trans hg3
                  have hrd : Rd w3 (some ⟨qb, 0, none⟩) (cgCells [⟨k, V, y.kind, y.val⟩]) := hrd4.below (hn3 rfl)
                  refine hK.out _ _ (HSS.out _ hb3) (fun hHeld3 => ?_)
                  clear hK K
                  refine wpAnyH_ready (rs := [6]) (by kernel_rfl) (by simp) ?_
                  refine cons_held 6 rfl (fun K hK => ?_) AllReadyH.nil
                  refine stepC rfl (.tmp 106) (.tmp 108) rfl wb.heap.size q3 (0 + k') c3 ([] ++ OUT.take k') rfl hown3 (some ⟨qb, 0, none⟩) 1 1 [⟨k, V, y.kind, y.val⟩] rfl rfl hrd (by omega) hb3.size ?_
                  intro q6 c6 w6 hown6 hg6 _
                  have hb6 : Below wb.heap.size wb w6 := hb3.trans hg6
                  refine hK.out _ _ (HSS.out _ hb6) (fun hHeld6 => ?_)
                  clear hK K
                  refine wpAnyH_ready (rs := [10]) (by kernel_rfl) (by simp) ?_
                  refine cons_held 10 rfl (fun K hK => ?_) AllReadyH.nil
                  refine stepC rfl (.tmp 109) (.tmp 112) rfl wb.heap.size q6 (0 + k' + 1) c6 ([] ++ OUT.take k' ++ [⟨k, V, y.kind, y.val⟩]) rfl hown6 q9 (no - k') (co - k') (OUT.drop k') rfl HDK.out (HRd.out _ hb6) (by omega) hb6.size ?_
                  intro q10 c10 w10 hown10 hg10 _
                  have hb10 : Below wb.heap.size wb w10 := hb6.trans hg10
                  refine hK.out _ _ (HSS.out _ hb10) (fun hHeld10 => ?_)
                  clear hK K
                  refine take_held (v := ?_) 11 rfl (by kernel_rfl) (by kernel_rfl) (by kernel_rfl) (fun _ _ _ h => h) (Or.inl ⟨by rfl, ?_⟩) (by assumption) ?_
                  rotate_left
                  · intro w hSw
                    obtain ⟨s0, s1, s2, s3⟩ := hSw
                    go_simp
                    try with_reducible rfl
                  simp only [Act.put, List.setIfInBounds_toArray, List.set_cons_zero, List.set_cons_succ]
                  refine wpAnyH_done (by kernel_rfl) ?_ _
                  rw [Nat.zero_add] at hown10
                  have HO10 := hid hown10
                  have HB10 := hid hb10
                  clear hown10 hown6 hown3 hg3 hg6 hg10 hb10 hb6
                  go_wp2
                  go_roundw
                  case rel =>
                    refine ⟨j + 1, q10, _, c10, by omega, by go_num, rfl, ?_, ?_, HBb.out.trans (HB10.out.mono HBb.out.size)⟩
                    · show _ = _
                      rw [HT.out, List.length_append, List.length_cons, HTK.out, HDK.out]; omega
                    · show World.ownsRow _ _ _ _ _ _ _
                      have e : OUT.take k' ++ ⟨k, V, y.kind, y.val⟩ :: OUT.drop k' = [] ++ OUT.take k' ++ [⟨k, V, y.kind, y.val⟩] ++ OUT.drop k' := by simp
                      rw [HT.out, e]
                      exact own_mono HO10.out HBb.out.size
                  case measure => simp [intOf]; omega
      · have hne := ne_text he
        have HT := hid (brP_skip (a := a) (k := k) hjl (by rw [hfe]; exact he))
        rw [hfe] at hf
        obtain ⟨c0, c1, c2, c3, c4, c5⟩ := hf
        clear he hfm hjl hfe c1 c2 c3 c4 c5
        go_wp2
        go_roundw
        case rel => exact ⟨j + 1, qo, no, co, by omega, by go_num, rfl, by rw [HT.out]; exact HL, by rw [HT.out]; exact HO, HB⟩
        case measure => simp [intOf]; omega
    · obtain rfl : j = m := by omega
      have hall := brP_all a b k
      rw [HM.out] at hall
      rw [hall] at HL HO
      go_wp2
      go_ret
      exact ⟨_, rfl, by rw [HL.out]; exact HO.out, HB.out⟩
end Go.Proofs.Herb
