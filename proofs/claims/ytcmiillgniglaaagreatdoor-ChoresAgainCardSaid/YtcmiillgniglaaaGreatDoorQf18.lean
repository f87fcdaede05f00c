/- The parts of facts, of which each becomes a table: where they begin and end; together they are the facts; a key lies in one alone. Plain lists; no condition. The contracts of chores.parts and of its iterator. For facts that can be read. (printed by gen_chi.py) The contract of chores.built: the tables of facts' parts, or why there are none. For facts that can be read. -/
import Derived.Test.YtcmiillgniglaaaGreatDoorQf04
import Derived.Test.YtcmiillgniglaaaGreatDoorQf12
import Derived.Test.YtcmiillgniglaaaGreatDoorQf16
import Derived.Test.YtcmiillgniglaaaGreatDoorQf17
namespace Go.Proofs.Herb
open Go.RowKit
def facN (f : Fact) : Nat := f.key.size + f.val.size + 16
def keyAt (l : List Fact) (i : Nat) : Option ByteArray := (l[i]?).map (·.key)
def facAt (l : List Fact) (i : Nat) : Nat := ((l[i]?).map facN).getD 0
theorem facAt_get {l : List Fact} {i : Nat} (h : i < l.length) : facAt l i = facN l[i] := by unfold facAt; rw [List.getElem?_eq_getElem h]; rfl
theorem keyAt_get {l : List Fact} {i : Nat} (h : i < l.length) : keyAt l i = some l[i].key := by unfold keyAt; rw [List.getElem?_eq_getElem h]; rfl
/-- where parts begin and end -/
def ptF (l : List Fact) : Nat → Nat → Nat → Nat → List (Nat × Nat)
  | 0, _, from_, _ => if from_ < l.length then [(from_, l.length)] else []
  | f + 1, k, from_, size => if 2048 ≤ size + facAt l k ∧ (k + 1 = l.length ∨ keyAt l (k + 1) ≠ keyAt l k) then (from_, k + 1) :: ptF l f (k + 1) (k + 1) 0 else ptF l f (k + 1) from_ (size + facAt l k)
def partsI (l : List Fact) : List (Nat × Nat) := ptF l l.length 0 0 0
/-- parts that follow one another, a key in one alone -/
inductive PtOk (l : List Fact) : Nat → List (Nat × Nat) → Prop
  | nil : PtOk l l.length []
  | cons {a b : Nat} {r : List (Nat × Nat)} : a < b → b ≤ l.length → (b < l.length → keyAt l b ≠ keyAt l (b - 1)) → PtOk l b r → PtOk l a ((a, b) :: r)
theorem ptF_ok (l : List Fact) : ∀ (f k from_ size : Nat), k + f = l.length → from_ ≤ k → PtOk l from_ (ptF l f k from_ size)
  | 0, k, from_, size, h, hf => by
    unfold ptF
    by_cases q : from_ < l.length
    · rw [if_pos q]
      exact .cons q (Nat.le_refl _) (fun h => absurd h (Nat.lt_irrefl _)) .nil
    · rw [if_neg q]
      obtain rfl : from_ = l.length := by omega
      exact .nil
  | f + 1, k, from_, size, h, hf => by
    unfold ptF
    by_cases q : 2048 ≤ size + facAt l k ∧ (k + 1 = l.length ∨ keyAt l (k + 1) ≠ keyAt l k)
    · rw [if_pos q]
      refine .cons (by omega) (by omega) (fun hl => ?_) (ptF_ok l f (k + 1) (k + 1) 0 (by omega) (Nat.le_refl _))
      rcases q.2 with e | e
      · omega
      · rw [Nat.add_sub_cancel]; exact e
    · rw [if_neg q]
      exact ptF_ok l f (k + 1) from_ _ (by omega) (by omega)
theorem parts_ok (l : List Fact) : PtOk l 0 (partsI l) := ptF_ok l l.length 0 0 0 (by omega) (Nat.le_refl _)
def subF (l : List Fact) (x : Nat × Nat) : List Fact := (l.take x.2).drop x.1
theorem subF_len {l : List Fact} {x : Nat × Nat} (h : x.2 ≤ l.length) : (subF l x).length = x.2 - x.1 := by unfold subF; rw [List.length_drop, List.length_take]; omega
theorem subF_get {l : List Fact} {x : Nat × Nat} (_h : x.2 ≤ l.length) {i : Nat} (hi : i < x.2 - x.1) : (subF l x)[i]? = l[x.1 + i]? := by
  unfold subF
  rw [List.getElem?_drop, List.getElem?_take_of_lt (by omega)]
theorem PtOk.join {l : List Fact} {a : Nat} {r : List (Nat × Nat)} (h : PtOk l a r) : (r.map (subF l)).flatten = l.drop a := by
  induction h with
  | nil => simp
  | @cons a b r h1 h2 h3 h4 ih =>
    rw [List.map_cons, List.flatten_cons, ih]
    have e : l.drop a = subF l (a, b) ++ l.drop b := by
      unfold subF
      dsimp only
      have h := List.take_append_drop (b - a) (l.drop a)
      rw [List.drop_drop, show a + (b - a) = b by omega] at h
      rw [← h, List.drop_take]
    rw [e]
theorem PtOk.each {l : List Fact} {a : Nat} {r : List (Nat × Nat)} (h : PtOk l a r) : ∀ x ∈ r, a ≤ x.1 ∧ x.1 < x.2 ∧ x.2 ≤ l.length := by
  induction h with
  | nil => intro x hx; cases hx
  | @cons a b r h1 h2 h3 h4 ih =>
    intro x hx
    rcases List.mem_cons.1 hx with rfl | hx
    · exact ⟨Nat.le_refl _, h1, h2⟩
    · have := ih x hx
      exact ⟨by omega, this.2.1, this.2.2⟩
theorem PtOk.len {l : List Fact} {a : Nat} {r : List (Nat × Nat)} (h : PtOk l a r) : r.length + a ≤ l.length := by
  induction h with
  | nil => simp
  | @cons a b r h1 h2 h3 h4 ih => rw [List.length_cons]; omega
/-- two parts, one behind the other: where one ends the other begins -/
theorem PtOk.next {l : List Fact} {a : Nat} {r : List (Nat × Nat)} (h : PtOk l a r) : ∀ (i : Nat) x y, r[i]? = some x → r[i + 1]? = some y → x.2 = y.1 ∧ keyAt l y.1 ≠ keyAt l (y.1 - 1) := by
  induction h with
  | nil => intro i x y hx _; simp at hx
  | @cons a b r h1 h2 h3 h4 ih =>
    intro i x y hx hy
    rcases i with _ | i
    · rw [List.getElem?_cons_zero] at hx
      cases hx
      rw [List.getElem?_cons_succ] at hy
      cases h4 with
      | nil => simp at hy
      | cons g1 g2 g3 g4 =>
        rw [List.getElem?_cons_zero] at hy
        cases hy
        exact ⟨rfl, h3 (by omega)⟩
    · rw [List.getElem?_cons_succ] at hx hy
      exact ih i x y hx hy
/-- facts of one line, in order -/
def RiseF (l : List Fact) : Prop := ∀ i (h : i + 1 < l.length), l[i + 1].line = l[i].line ∧ cmpF (l[i]'(by omega)) l[i + 1] < 0
theorem RiseF.line {l : List Fact} (h : RiseF l) : ∀ i (hi : i < l.length), l[i].line = (l[0]'(by omega)).line
  | 0, _ => rfl
  | i + 1, hi => (h i hi).1.trans (h.line i (by omega))
theorem ba_ext {a b : ByteArray} (h : a.toList = b.toList) : a = b := by
  rw [ByteArray.toList_eq, ByteArray.toList_eq] at h
  cases a; cases b
  simp only [ByteArray.mk.injEq]
  exact Array.toList_inj.1 h
theorem cmpF_less {a b : Fact} (h : cmpF a b < 0) (hk : b.key ≠ a.key) : Op.bytesLess a.key.toList b.key.toList = true := by
  by_cases q : sLt a.key b.key = true
  · exact q
  · exfalso
    have e : cmpS a.key b.key = 1 := by
      unfold cmpS
      rw [if_neg q, if_neg (fun h => hk (ba_ext (by simpa using h)).symm)]
    unfold cmpF orZ at h
    rw [e, if_neg (by decide)] at h
    omega
/-- a part's line -/
def lineF (p : List Fact) : Nat := (p.head?.map (·.line)).getD 0
/-- a table, as it is told -/
structure Tab where
  file : Nat
  bytes : Nat
  low : ByteArray
  high : ByteArray
def Tab.cells (t : Tab) : List Value := [.int .u64 (t.file : Int), .int .u32 (t.bytes : Int), .string t.low, .string t.high]
def tabOf (n : Nat) (p : List Fact) : Tab := ⟨n, (tabB (lineF p) p).length, (propsF (lineF p) p).low, (propsF (lineF p) p).high⟩
def tabsF (next : Nat) : List (List Fact) → List Tab
  | [] => []
  | p :: r => tabOf next p :: tabsF (next + 1) r
noncomputable def builtE : List (List Fact) → Int
  | [] => 0
  | p :: r => if buildE (lineF p) p ≠ 0 then buildE (lineF p) p else builtE r
theorem tabsF_len (next : Nat) (ps : List (List Fact)) : (tabsF next ps).length = ps.length := by
  induction ps generalizing next with
  | nil => rfl
  | cons p r ih => rw [tabsF, List.length_cons, List.length_cons, ih]
theorem tabsF_get (next : Nat) (ps : List (List Fact)) (i : Nat) : (tabsF next ps)[i]? = (ps[i]?).map (tabOf (next + i)) := by
  induction ps generalizing next i with
  | nil => rfl
  | cons p r ih =>
    cases i with
    | zero => rfl
    | succ i => rw [tabsF, List.getElem?_cons_succ, List.getElem?_cons_succ, ih, show next + 1 + i = next + (i + 1) by omega]
theorem built_zero : ∀ {ps : List (List Fact)} (_ : builtE ps = 0), ∀ p ∈ ps, buildE (lineF p) p = 0
  | [], _, p, hp => by cases hp
  | q :: r, h, p, hp => by
    unfold builtE at h
    by_cases e : buildE (lineF q) q = 0
    · rw [if_neg (fun h => h e)] at h
      rcases List.mem_cons.1 hp with rfl | hp
      · exact e
      · exact built_zero h p hp
    · rw [if_pos e] at h
      exact absurd h e
end Go.Proofs.Herb
namespace Go.Proofs.Herb
open Go.RowKit
attribute [local go_sem] Oper.semAt_some
theorem parts_any (v : Value) (w : World) (hv : ∃ q n c, v = .slice q n c) :
    Calls Tryz.prog 57 #[v] w fun e w' => e = .returned (.func (.func 87) #[] #[.pointer (some ⟨w.heap.size, 0, none⟩)]) ∧ w' = w.alloc (.cells #[v] 23) := by
  obtain ⟨q, n, c, rfl⟩ := hv
  go_enter Tryz.func57, Tryz.ntmps57
  go_wp2
  go_ret
  exact ⟨rfl, rfl⟩
theorem parts_nil {l : List Fact} (h : l.length = 0) : partsI l = [] := by
  obtain rfl := List.eq_nil_of_length_eq_zero h
  rfl
/-- a part is one of these, behind those that have come -/
def PtGood (l : List Fact) (pre : List (Nat × Nat)) (x : Nat × Nat) : Prop := x.1 < x.2 ∧ x.2 ≤ l.length ∧ ∃ rest, partsI l = pre ++ x :: rest
set_option maxRecDepth 100000 in
set_option maxHeartbeats 4000000 in
theorem parts1_in (nn Bn b off c base n : Nat) (q : Option Addr) (hnn : 1 ≤ nn) (l : List Fact) (hn : l.length = n) (hm : n ≤ 6000) (hc : n ≤ c) (hq : 0 < n → q = some ⟨b, off, none⟩) (hks : ∀ f ∈ l, f.key.size ≤ 140737488355328 ∧ f.val.size ≤ 140737488355328) :
    SeqGood Fence.wide nn Tryz.prog 87 #[.pointer (some ⟨Bn, 0, none⟩)] (fun x : Nat × Nat => #[.slice (some ⟨b, off + x.1 * 6, none⟩) (x.2 - x.1) (c - x.1)]) (Only (fun _ => False)) (fun pre x _ => PtGood l pre x)
      (fun A B => KeepB Bn A B ∧ KeepB b A B) (fun xs => xs = partsI l) base (fun W => Boxed W Bn 23 (.slice q n c) ∧ Rd W q (fCells l)) := by
  intro lp J Jx W hb hOk hJ hJx hY h0
  have HY := hid hY
  have HJ := hid hJ
  have HOk := hid hOk
  have Hn := hid hn
  have Hks := hid hks
  clear hY hJ hJx hOk hb hn hks
  refine callsIn_of_wp Tryz.func87 rfl trivial ?_ rfl
  simp only [Tryz.ntmps87, List.size_toArray, List.length_cons, List.length_nil, Nat.reduceAdd, Nat.reduceSub, Array.replicate_succ, Array.replicate_zero, List.push_toArray, List.append_toArray, List.nil_append, List.cons_append]
  have cW := HOk.out.1.cell
  by_cases hn0 : n = 0
  · subst hn0
    gi_wp2
    gi_loopw [3, 9] (fun v3 v9 wr => v3 = .int .i64 0 ∧ v9 = .int .i64 0 ∧ wr = W) (fun _ _ _ => 0)
    case atStart => exact ⟨rfl, rfl, rfl⟩
    case round =>
      obtain ⟨rfl, rfl, rfl⟩ := hrel
      gi_wp2
      refine ⟨rfl, _, results_none rfl _ _ _, ?_⟩
      exact ⟨⟨_, rfl⟩, .inl ⟨[], (parts_nil Hn.out).symm, h0⟩⟩
  obtain rfl := hq (by omega)
  clear hq
  gi_wp2
  clear cW
  gi_loopw [3, 4, 9] (fun v3 v4 v9 wr => ∃ (f k from_ size : Nat) (pre : List (Nat × Nat)), v3 = .int .i64 (from_ : Int) ∧ v4 = .int .i64 (size : Int) ∧ v9 = .int .i64 (k : Int) ∧ k + f = n ∧ from_ ≤ k ∧ size ≤ k * 281474976710672 ∧ partsI l = pre ++ ptF l f k from_ size ∧ J pre wr ∧
      Boxed wr Bn 23 (.slice (some ⟨b, off, none⟩) n c) ∧ Rd wr (some ⟨b, off, none⟩) (fCells l)) (fun _ _ v9 _ => n - (intOf v9).toNat)
  case atStart => exact ⟨n, 0, 0, 0, [], rfl, rfl, rfl, by omega, Nat.le_refl _, by omega, by unfold partsI; rw [Hn.out]; rfl, h0, HOk.out.1, HOk.out.2⟩
  case round =>
    obtain ⟨f, k, from_, size, pre, rfl, rfl, rfl, hkf, hfk, hsize, hch, hJp, hbox, hrd⟩ := hrel
    have Hch := hid hch
    have HJp := hid hJp
    have Hbox := hid hbox
    have Hrd := hid hrd
    have cB := hbox.cell
    clear hch hJp hbox hrd
    by_cases hlt : k < n
    · have hkl : k < l.length := by rw [Hn.out]; exact hlt
      obtain ⟨f, rfl⟩ : ∃ f', f = f' + 1 := ⟨f - 1, by omega⟩
      obtain ⟨b', off', e, hbq, hfa⟩ := fact_at Hrd.out hkl
      cases e
      obtain ⟨c0, c1, c2, c3, c4, c5⟩ := hfa
      have hsz := Hks.out _ (List.getElem_mem hkl)
      have hszk := facAt_get hkl
      have hkey := keyAt_get hkl
      obtain ⟨x, hx⟩ : ∃ x, x = l[k] := ⟨_, rfl⟩
      rw [← hx] at c0 c1 c2 c3 c4 c5 hsz hszk hkey
      unfold facN at hszk
      obtain ⟨S, hS⟩ : ∃ S, S = size + facAt l k := ⟨_, rfl⟩
      have hSe : S = size + (x.key.size + x.val.size + 16) := by rw [hS, hszk]
      have hS2 : S ≤ (k + 1) * 281474976710672 := by omega
      have hS3 : S ≤ 1688849860264032000 := by omega
      have w1 : IntKind.i64.wrap ((x.key.size : Int) + (x.val.size : Int)) = (x.key.size : Int) + (x.val.size : Int) := by rw [IntKind.wrap_i64]; omega
      have i0 : (0 : Int) ≤ (k : Int) := by omega
      have i1 : (k : Int) < (n : Int) := by omega
      have wk : IntKind.i64.wrap ((k : Int) + 1) = (k : Int) + 1 := by rw [IntKind.wrap_i64]; omega
      have HS := hid hS
      have HKey := hid hkey
      clear hS hszk hkey hx
      obtain ⟨Wa, hWa⟩ : ∃ Wa, Wa = wr.alloc (.cells #[.string x.key, .int .u32 (x.valid : Int), .int .u64 (x.seq : Int), .int .u64 (x.line : Int), .int .u8 (x.kind : Int), .string x.val] 50) := ⟨_, rfl⟩
      have hBa : Below wr.heap.size wr Wa := by rw [hWa]; exact (Below.refl _ _).alloc (Nat.le_refl _) _
      have HJa := hid (HJ.out _ _ _ HJp.out (Only.of_below hBa))
      have Hboxa := hid (show Boxed Wa Bn 23 (.slice (some ⟨b, off, none⟩) n c) from (hBa.block _ Hbox.out.lt).trans Hbox.out)
      have Hrda := hid (Hrd.out.below hBa)
      have Hnew := hid (show Wa.heap[wr.heap.size]? = some (.cells #[.string x.key, .int .u32 (x.valid : Int), .int .u64 (x.seq : Int), .int .u64 (x.line : Int), .int .u8 (x.kind : Int), .string x.val] 50 (0, 0)) by rw [hWa]; exact heap_alloc_new _ _)
      have HWa := hid hWa
      clear hBa hWa
      gi_upto_region 4 with fail
      rw [← HWa.out]
      have n0 := cell_of_row Wa wr.heap.size 0 _ _ _ Hnew.out
      have n5 := cell_of_row Wa wr.heap.size 5 _ _ _ Hnew.out
      have cBa := Hboxa.out.cell
      have w2 : IntKind.i64.wrap ((x.key.size : Int) + (x.val.size : Int) + 16) = (x.key.size : Int) + (x.val.size : Int) + 16 := by rw [IntKind.wrap_i64]; omega
      have w3 : IntKind.i64.wrap ((size : Int) + ((x.key.size : Int) + (x.val.size : Int) + 16)) = (S : Int) := by rw [IntKind.wrap_i64]; omega
      gi_upto_region 5 with fail
      have hSz : (size : Int) + ((x.key.size : Int) + (x.val.size : Int) + 16) = (S : Int) := by omega
      have HSz := hid hSz
      have HSe := hid hSe
      have HS2 := hid hS2
      clear hSz hSe hS2 hS3 w1 w2 w3
      have nk1 : keyAt l (k + 1) ≠ keyAt l k ∨ keyAt l (k + 1) = keyAt l k := by
        by_cases e : keyAt l (k + 1) = keyAt l k
        · exact .inr e
        · exact .inl e
      by_cases h5 : 2048 ≤ S
      · have d1 : decide (2048 ≤ (size : Int) + ((x.key.size : Int) + (x.val.size : Int) + 16)) = true := by rw [HSz.out]; simp; omega
        by_cases hk1 : k + 1 = n
        · have e1 : (((k : Int) + 1) == (n : Int)) = true := by simp; omega
          have hwhy := hid (show 2048 ≤ size + facAt l k ∧ (k + 1 = l.length ∨ keyAt l (k + 1) ≠ keyAt l k) from ⟨by rw [← HS.out]; exact h5, .inl (by rw [Hn.out]; exact hk1)⟩)
          clear h5 hk1 nk1
          have hst : ptF l (f + 1) k from_ size = (from_, k + 1) :: ptF l f (k + 1) (k + 1) 0 := by rw [ptF, if_pos hwhy.out]
          have hgood : PtGood l pre (from_, k + 1) := ⟨by show from_ < k + 1; omega, by show k + 1 ≤ _; omega, _, by rw [Hch.out, hst]⟩
          have HST := hid hst
          have HGood := hid hgood
          clear hst hgood
          refine wpIn_wide.2 ?_
          go_quiet (fail)
          obtain ⟨W5, hW5⟩ : ∃ W5, W5 = Wa.drewN nq := ⟨_, rfl⟩
          have hB5 : Below Wa.heap.size Wa W5 := by rw [hW5]; exact below_drewN (Below.refl _ _) nq
          rw [← hW5]
          have HJ5 := hid (HJ.out _ _ _ HJa.out (Only.of_below hB5))
          have Hbox5 := hid (show Boxed W5 Bn 23 (.slice (some ⟨b, off, none⟩) n c) from (hB5.block _ Hboxa.out.lt).trans Hboxa.out)
          have Hrd5 := hid (Hrda.out.below hB5)
          have cB5 := Hbox5.out.cell
          clear hB5 hW5
          obtain ⟨fn, tmps, assign, body, hy, hR⟩ := HY.out pre (from_, k + 1) _ HJ5.out HGood.out
          dsimp only at hy
          have HR := hid hR
          clear hR
          gi_wp2
          refine HR.out.mono ?_
          rintro e W2 (⟨rfl, hJ2, hk1, hk2⟩ | ⟨rfl, hJ2⟩)
          · have hbox2 : Boxed W2 Bn 23 (.slice (some ⟨b, off, none⟩) n c) := hk1 _ Hbox5.out
            have hrd2 : Rd W2 (some ⟨b, off, none⟩) (fCells l) := rd_keep Hrd5.out hk2
            have HJ2 := hid hJ2
            have Hbox2 := hid hbox2
            have Hrd2 := hid hrd2
            clear hJ2 hk1 hk2 hbox2 hrd2 hy HR
            gi_wp2
            go_roundw
            case rel => exact ⟨f, k + 1, k + 1, 0, pre ++ [(from_, k + 1)], by go_num, rfl, by go_num, by omega, by omega, by omega, by rw [Hch.out, HST.out]; simp, HJ2.out, Hbox2.out, Hrd2.out⟩
            case measure => simp [intOf]; omega
          · have HJ2 := hid hJ2
            clear hJ2 hy HR
            gi_wp2
            refine bodyPost_ret (results_none rfl _ _ _) rfl ?_
            exact ⟨⟨_, rfl⟩, .inr ⟨_, HJ2.out⟩⟩
        · have e1 : (((k : Int) + 1) == (n : Int)) = false := by simp; omega
          have hk1l : k + 1 < l.length := by rw [Hn.out]; omega
          obtain ⟨b3, off3, e3, _, hfy⟩ := fact_at Hrda.out hk1l
          cases e3
          obtain ⟨y, hy⟩ : ∃ y, y = l[k + 1] := ⟨_, rfl⟩
          rw [← hy] at hfy
          have yk := hfy.c0
          have hky := keyAt_get hk1l
          rw [← hy] at hky
          have i2 : (0 : Int) ≤ (k : Int) + 1 := by omega
          have i3 : (k : Int) + 1 < (n : Int) := by omega
          clear hfy hy
          by_cases hkk : y.key = x.key
          · have ne1 : (y.key.toList == x.key.toList) = true := by rw [hkk]; exact beq_self_eq_true _
            have ne2 : (y.key.toList != x.key.toList) = false := by rw [hkk]; simp
            have hwhy := hid (show ¬ (2048 ≤ size + facAt l k ∧ (k + 1 = l.length ∨ keyAt l (k + 1) ≠ keyAt l k)) from fun h => by
              rcases h.2 with e | e
              · omega
              · exact e (by rw [hky, HKey.out, hkk]))
            clear h5 hk1 nk1 hky hkk
            refine wpIn_wide.2 ?_
            go_quiet (fail)
            obtain ⟨W5, hW5⟩ : ∃ W5, W5 = Wa.drewN nq := ⟨_, rfl⟩
            have hB5 : Below Wa.heap.size Wa W5 := by rw [hW5]; exact below_drewN (Below.refl _ _) nq
            rw [← hW5]
            have HJ5 := hid (HJ.out _ _ _ HJa.out (Only.of_below hB5))
            have Hbox5 := hid (show Boxed W5 Bn 23 (.slice (some ⟨b, off, none⟩) n c) from (hB5.block _ Hboxa.out.lt).trans Hboxa.out)
            have Hrd5 := hid (Hrda.out.below hB5)
            have cB5 := Hbox5.out.cell
            clear hB5 hW5
            gi_wp2
            go_roundw
            case rel => exact ⟨f, k + 1, from_, S, pre, rfl, by rw [HSz.out], by go_num, by omega, by omega, HS2.out, by rw [Hch.out, ptF, if_neg hwhy.out, ← HS.out], HJ5.out, Hbox5.out, Hrd5.out⟩
            case measure => simp [intOf]; omega
          · have ne1 : (y.key.toList == x.key.toList) = false := by
              cases h : y.key.toList == x.key.toList
              · rfl
              · exact absurd (ba_ext (by simpa using h)) hkk
            have ne2 : (y.key.toList != x.key.toList) = true := by simpa [bne] using ne1
            have hwhy := hid (show 2048 ≤ size + facAt l k ∧ (k + 1 = l.length ∨ keyAt l (k + 1) ≠ keyAt l k) from ⟨by rw [← HS.out]; exact h5, .inr (by rw [hky, HKey.out]; exact fun h => hkk (Option.some.inj h))⟩)
            clear h5 hk1 nk1 hky hkk
            have hst : ptF l (f + 1) k from_ size = (from_, k + 1) :: ptF l f (k + 1) (k + 1) 0 := by rw [ptF, if_pos hwhy.out]
            have hgood : PtGood l pre (from_, k + 1) := ⟨by show from_ < k + 1; omega, by show k + 1 ≤ _; omega, _, by rw [Hch.out, hst]⟩
            have HST := hid hst
            have HGood := hid hgood
            clear hst hgood
            refine wpIn_wide.2 ?_
            go_quiet (fail)
            obtain ⟨W5, hW5⟩ : ∃ W5, W5 = Wa.drewN nq := ⟨_, rfl⟩
            have hB5 : Below Wa.heap.size Wa W5 := by rw [hW5]; exact below_drewN (Below.refl _ _) nq
            rw [← hW5]
            have HJ5 := hid (HJ.out _ _ _ HJa.out (Only.of_below hB5))
            have Hbox5 := hid (show Boxed W5 Bn 23 (.slice (some ⟨b, off, none⟩) n c) from (hB5.block _ Hboxa.out.lt).trans Hboxa.out)
            have Hrd5 := hid (Hrda.out.below hB5)
            have cB5 := Hbox5.out.cell
            clear hB5 hW5
            obtain ⟨fn, tmps, assign, body, hy, hR⟩ := HY.out pre (from_, k + 1) _ HJ5.out HGood.out
            dsimp only at hy
            have HR := hid hR
            clear hR
            gi_wp2
            refine HR.out.mono ?_
            rintro e W2 (⟨rfl, hJ2, hk1, hk2⟩ | ⟨rfl, hJ2⟩)
            · have hbox2 : Boxed W2 Bn 23 (.slice (some ⟨b, off, none⟩) n c) := hk1 _ Hbox5.out
              have hrd2 : Rd W2 (some ⟨b, off, none⟩) (fCells l) := rd_keep Hrd5.out hk2
              have HJ2 := hid hJ2
              have Hbox2 := hid hbox2
              have Hrd2 := hid hrd2
              clear hJ2 hk1 hk2 hbox2 hrd2 hy HR
              gi_wp2
              go_roundw
              case rel => exact ⟨f, k + 1, k + 1, 0, pre ++ [(from_, k + 1)], by go_num, rfl, by go_num, by omega, by omega, by omega, by rw [Hch.out, HST.out]; simp, HJ2.out, Hbox2.out, Hrd2.out⟩
              case measure => simp [intOf]; omega
            · have HJ2 := hid hJ2
              clear hJ2 hy HR
              gi_wp2
              refine bodyPost_ret (results_none rfl _ _ _) rfl ?_
              exact ⟨⟨_, rfl⟩, .inr ⟨_, HJ2.out⟩⟩
      · have d1 : decide (2048 ≤ (size : Int) + ((x.key.size : Int) + (x.val.size : Int) + 16)) = false := by rw [HSz.out]; simp; omega
        have hwhy := hid (show ¬ (2048 ≤ size + facAt l k ∧ (k + 1 = l.length ∨ keyAt l (k + 1) ≠ keyAt l k)) from fun h => h5 (by rw [HS.out]; exact h.1))
        clear h5 nk1
        refine wpIn_wide.2 ?_
        go_quiet (fail)
        obtain ⟨W5, hW5⟩ : ∃ W5, W5 = Wa.drewN nq := ⟨_, rfl⟩
        have hB5 : Below Wa.heap.size Wa W5 := by rw [hW5]; exact below_drewN (Below.refl _ _) nq
        rw [← hW5]
        have HJ5 := hid (HJ.out _ _ _ HJa.out (Only.of_below hB5))
        have Hbox5 := hid (show Boxed W5 Bn 23 (.slice (some ⟨b, off, none⟩) n c) from (hB5.block _ Hboxa.out.lt).trans Hboxa.out)
        have Hrd5 := hid (Hrda.out.below hB5)
        have cB5 := Hbox5.out.cell
        clear hB5 hW5
        gi_wp2
        go_roundw
        case rel => exact ⟨f, k + 1, from_, S, pre, rfl, by rw [HSz.out], by go_num, by omega, by omega, HS2.out, by rw [Hch.out, ptF, if_neg hwhy.out, ← HS.out], HJ5.out, Hbox5.out, Hrd5.out⟩
        case measure => simp [intOf]; omega
    · obtain rfl : k = n := by omega
      obtain rfl : f = 0 := by omega
      by_cases hfr : from_ < k
      · have i2 : (from_ : Int) < (k : Int) := by omega
        have hst : ptF l 0 k from_ size = [(from_, k)] := by unfold ptF; rw [if_pos (by rw [Hn.out]; exact hfr), Hn.out]
        have hgood : PtGood l pre (from_, k) := ⟨hfr, by show k ≤ _; rw [Hn.out]; exact Nat.le_refl _, [], by rw [Hch.out, hst]⟩
        have HST := hid hst
        obtain ⟨fn, tmps, assign, body, hy, hR⟩ := HY.out pre (from_, k) _ HJp.out hgood
        dsimp only at hy
        have HR := hid hR
        clear hst hgood hR
        gi_wp2
        refine HR.out.mono ?_
        rintro e W2 (⟨rfl, hJ2, hk1, hk2⟩ | ⟨rfl, hJ2⟩)
        · have HJ2 := hid hJ2
          clear hJ2 hk1 hk2 hy HR
          gi_wp2
          refine ⟨rfl, _, results_none rfl _ _ _, ?_⟩
          exact ⟨⟨_, rfl⟩, .inl ⟨_, by rw [Hch.out, HST.out], HJ2.out⟩⟩
        · have HJ2 := hid hJ2
          clear hJ2 hy HR
          gi_wp2
          refine ⟨rfl, _, results_none rfl _ _ _, ?_⟩
          exact ⟨⟨_, rfl⟩, .inr ⟨_, HJ2.out⟩⟩
      · have i2 : ¬ ((from_ : Int) < (k : Int)) := by omega
        have hst : ptF l 0 k from_ size = [] := by unfold ptF; rw [if_neg (by rw [Hn.out]; exact hfr)]
        have HST := hid hst
        clear hst
        gi_wp2
        refine ⟨rfl, _, results_none rfl _ _ _, ?_⟩
        exact ⟨⟨_, rfl⟩, .inl (by have h := HJp.out; rw [show pre = partsI l by rw [Hch.out, HST.out, List.append_nil]] at h; exact h)⟩
end Go.Proofs.Herb
namespace Go.Proofs.Herb
open Go.RowKit
attribute [local go_sem] Oper.semAt_some
def partsL (l : List Fact) : List (List Fact) := (partsI l).map (subF l)
/-- the files' cells -/
def flCells : Nat → List (List Fact) → List Value → List Value
  | n, p :: ps, v :: vs => (tabOf n p).cells ++ v :: flCells (n + 1) ps vs
  | _, _, _ => []
theorem flCells_snoc : ∀ (n : Nat) (ps : List (List Fact)) (vs : List Value) (p : List Fact) (v : Value), vs.length = ps.length → flCells n (ps ++ [p]) (vs ++ [v]) = flCells n ps vs ++ ((tabOf (n + ps.length) p).cells ++ [v])
  | n, [], [], p, v, _ => rfl
  | n, [], _ :: _, _, _, h => by cases h
  | n, _ :: _, [], _, _, h => by cases h
  | n, q :: ps, u :: vs, p, v, h => by
    show (tabOf n q).cells ++ u :: flCells (n + 1) (ps ++ [p]) (vs ++ [v]) = ((tabOf n q).cells ++ u :: flCells (n + 1) ps vs) ++ _
    rw [flCells_snoc (n + 1) ps vs p v (by simpa using h), List.length_cons, show n + 1 + ps.length = n + (ps.length + 1) by omega]
    simp
/-- the files' bytes lie in rows of their own -/
def RowsB (W : World) (base : Nat) (vs : List Value) (ps : List (List Fact)) : Prop :=
  vs.length = ps.length ∧ ∀ (i : Nat) v p, vs[i]? = some v → ps[i]? = some p → ∃ a, v = .slice a (tabB (lineF p) p).length (tabB (lineF p) p).length ∧ Fr W base 5 1 v (tabB (lineF p) p).length ((tabB (lineF p) p).map bv)
theorem RowsB.stay {A W : World} {base : Nat} {vs : List Value} {ps : List (List Fact)} (h : RowsB A base vs ps) (hk : ∀ g cs, base ≤ g → A.heap[g]? = some (.cells cs 5 (0, 0)) → W.heap[g]? = A.heap[g]?) : RowsB W base vs ps := by
  refine ⟨h.1, fun i v p h1 h2 => ?_⟩
  obtain ⟨a, e, f1, f2⟩ := h.2 i v p h1 h2
  refine ⟨a, e, f1, ?_⟩
  rcases f2 with f2 | ⟨g, cap, cur, hv, hg, hh, r⟩
  · exact .inl f2
  · exact .inr ⟨g, cap, cur, hv, hg, (hk g cur hg hh).trans hh, r⟩
theorem RowsB.below {A W : World} {base : Nat} {vs : List Value} {ps : List (List Fact)} (h : RowsB A base vs ps) (hb : Below A.heap.size A W) : RowsB W base vs ps := h.stay fun g _ _ hh => hb.block g (lt_of_block hh)
theorem builtE_snoc {ps : List (List Fact)} (h : ∀ p ∈ ps, buildE (lineF p) p = 0) (p : List Fact) (r : List (List Fact)) (hp : buildE (lineF p) p ≠ 0) : builtE (ps ++ p :: r) = buildE (lineF p) p := by
  induction ps with
  | nil =>
    show (if buildE (lineF p) p ≠ 0 then _ else _) = _
    rw [if_pos hp]
  | cons q t ih =>
    show (if buildE (lineF q) q ≠ 0 then _ else builtE (t ++ p :: r)) = _
    rw [if_neg (fun e => e (h q List.mem_cons_self))]
    exact ih fun x hx => h x (List.mem_cons_of_mem _ hx)
theorem builtE_all {ps : List (List Fact)} (h : ∀ p ∈ ps, buildE (lineF p) p = 0) : builtE ps = 0 := by
  induction ps with
  | nil => rfl
  | cons q t ih =>
    show (if buildE (lineF q) q ≠ 0 then _ else builtE t) = _
    rw [if_neg (fun e => e (h q List.mem_cons_self))]
    exact ih fun x hx => h x (List.mem_cons_of_mem _ hx)
/-- where the range over the parts stands -/
structure BltI (w : World) (B next : Nat) (q : Option Addr) (l : List Fact) (pre : List (Nat × Nat)) (W : World) : Prop where
  bn : Boxed W B 22 (.int .u64 ((next + pre.length : Nat) : Int))
  out : ∃ a c vs, Boxed W (B + 1) 74 (.slice a pre.length c) ∧ W.ownsRow (B + 4) 78 5 (.slice a pre.length c) pre.length (flCells next (pre.map (subF l)) vs) ∧ RowsB W (B + 4) vs (pre.map (subF l))
  er : Boxed W (B + 2) 32 (.int .i64 0)
  all : Rd W q (fCells l)
  below : Below B w W
  okk : ∀ p ∈ pre.map (subF l), buildE (lineF p) p = 0
  size : B + 4 ≤ W.heap.size
/-- how the range ends early -/
def BltX (w : World) (B : Nat) (l : List Fact) (c : Code) (W : World) : Prop :=
  c = .ret ∧ Boxed W (B + 1) 74 (.slice none 0 0) ∧ Boxed W (B + 2) 32 (.int .i64 (builtE (partsL l))) ∧ Below B w W ∧ builtE (partsL l) ≠ 0
theorem BltI.stays (w : World) (B next : Nat) (q : Option Addr) (l : List Fact) (pre : List (Nat × Nat)) : Stays (BltI w B next q l pre) := by
  rintro A W ⟨h1, ⟨a, c, vs, h2, h3, h4⟩, h5, h6, h7, h8, h9⟩ hb
  have hs : B ≤ A.heap.size := by omega
  exact ⟨(hb.block _ h1.lt).trans h1, ⟨a, c, vs, (hb.block _ h2.lt).trans h2, own_below h3 hb, h4.below hb⟩, (hb.block _ h5.lt).trans h5, h6.below hb, h7.trans (hb.mono hs), h8, Nat.le_trans h9 hb.size⟩
theorem BltI.only (w : World) (B next : Nat) (q : Option Addr) (l : List Fact) (pre : List (Nat × Nat)) (A W : World) (h : BltI w B next q l pre A) (hr : Only (fun _ => False) A W) : BltI w B next q l pre W :=
  BltI.stays _ _ _ _ _ _ _ _ h (hr.below (Nat.le_refl _) (fun _ _ => id))
theorem rd_putObj {W : World} {q : Option Addr} {xs : List Value} {b0 : Nat} (h : Rd W q xs) (hq : ∀ b off, q = some ⟨b, off, none⟩ → xs ≠ [] → b < b0) {g : Nat} (o o' : Obj) (hg : b0 ≤ g) : Rd (W.putObj g o') q xs := by
  rcases h with h | ⟨b, off, e, hc⟩
  · exact .inl h
  · by_cases hx : xs = []
    · exact .inl hx
    · have := hq b off e hx
      have h2 := rd_keep (A := W) (B := W.putObj g o') (b := b) (off := off) (xs := xs) (.inr ⟨b, off, rfl, hc⟩) (KeepB.putObj W g o o' (by omega))
      rw [e]
      exact h2
theorem BltI.turns (w : World) (B next : Nat) (q : Option Addr) (l : List Fact) (b0 : Nat) (hb : B + 4 ≤ b0) (hq : ∀ b off, q = some ⟨b, off, none⟩ → fCells l ≠ [] → b < b0) (pre : List (Nat × Nat)) : Turns b0 (BltI w B next q l pre) := by
  rintro W g o o' ⟨h1, ⟨a, c, vs, h2, h3, h4⟩, h5, h6, h7, h8, h9⟩ hl ho hc
  refine ⟨boxed_putObj h1 o' ho hc, ⟨a, c, vs, boxed_putObj h2 o' ho hc, own_putObj h3 o' ho hc, h4.stay fun k cs _ hk => World.putObj_heap_other (fun e => by subst e; rw [ho] at hk; cases hk; cases hc)⟩, boxed_putObj h5 o' ho hc, rd_putObj h6 hq o o' hl, below_putObj h7 (by omega) o' ho, h8, by simpa [World.putObj] using h9⟩
theorem infoCf : (Tryz.prog.info? 78).map (fun i => (i.zero, i.size, i.bytes)) = some (some (.agg #[.int .u64 0, .int .u32 0, .string ⟨#[]⟩, .string ⟨#[]⟩, .slice none 0 0]), 5, 72) := by kernel_rfl
theorem built_results {tmps : Array Value} {w : World} {B : Nat} {v : Value} {e : Int} (h1 : Boxed w (B + 1) 74 v) (h2 : Boxed w (B + 2) 32 (.int .i64 e)) (h4 : tmps.getD 4 undef = .pointer (some ⟨B + 1, 0, none⟩)) (h5 : tmps.getD 5 undef = .pointer (some ⟨B + 2, 0, none⟩)) :
    (results Tryz.f32 tmps).run Tryz.prog w = .ok (.tuple #[v, .int .i64 e]) w := by
  have c3 := h1.cell
  have c4 := h2.cell
  have hr : (Tryz.f32).results = #[.cell 4 74, .cell 5 32] := rfl
  have e3 : (loadVar 74 ⟨B + 1, 0, none⟩).run Tryz.prog w = .ok v w := by go_simp
  have e4 : (loadVar 32 ⟨B + 2, 0, none⟩).run Tryz.prog w = .ok (.int .i64 e) w := by go_simp
  simp [results, asAddr] at h4 h5 ⊢
  simp [h4, h5, e3, e4]
def BuiltP (l : List Fact) (next : Nat) (b0 : Nat) (w : World) (e : Ending) (w' : World) : Prop :=
  Below b0 w w' ∧ ((builtE (partsL l) ≠ 0 ∧ e = .returned (.tuple #[.slice none 0 0, .int .i64 (builtE (partsL l))])) ∨
    (builtE (partsL l) = 0 ∧ ∃ a c vs, e = .returned (.tuple #[.slice a (partsL l).length c, .int .i64 0]) ∧ w'.ownsRow b0 78 5 (.slice a (partsL l).length c) (partsL l).length (flCells next (partsL l) vs) ∧ RowsB w' b0 vs (partsL l)))
theorem build_c (line : Nat) (q : Option Addr) (n c : Nat) (fs : List Fact) (w : World) (hn : fs.length = n) (hm : n ≤ 6000) (hr : Rd w q (fCells fs)) (ho : ∀ f ∈ fs, f.Ok) :
    Calls Tryz.prog 54 #[.int .u64 (line : Int), .slice q n c] w fun e w' => Below w.heap.size w w' ∧ ((∃ E : Int, (E = 1 ∨ E = 3) ∧ buildE line fs = E ∧ e = .returned (.tuple #[.slice none 0 0, .agg zProps, .int .i64 E])) ∨
      (buildE line fs = 0 ∧ ∃ p, e = .returned (.tuple #[.slice p (tabB line fs).length (tabB line fs).length, .agg (propsF line fs).cells.toArray, .int .i64 0]) ∧ Fr w' w.heap.size 5 1 (.slice p (tabB line fs).length (tabB line fs).length) (tabB line fs).length ((tabB line fs).map bv))) := by
  by_cases h : GoodF line fs ∧ 0 < fs.length
  · by_cases hl : (tabB line fs).length ≤ 65536
    · exact (build_ok line q n c fs w hn hm hr ho h hl).mono fun e w' ⟨p, h1, h2, h3⟩ => ⟨h3, .inr ⟨buildE_zero.2 ⟨h, hl⟩, p, h1, h2⟩⟩
    · exact (build_big line q n c fs w hn hm hr ho h (by omega)).mono fun e w' ⟨h1, h3⟩ => ⟨h3, .inl ⟨3, .inr rfl, by unfold buildE; rw [if_pos h, if_neg hl], h1⟩⟩
  · exact (build_no line q n c fs w hn hm hr ho h).mono fun e w' ⟨h1, h3⟩ => ⟨h3, .inl ⟨1, .inl rfl, buildE_one.2 h, h1⟩⟩
theorem props_arr (p : Props) : p.cells.toArray = #[.int .u64 (p.line : Int), .int .u64 (p.many : Int), .string p.low, .string p.high, .int .u64 (p.least : Int), .int .u64 (p.greatest : Int), .int .u32 (p.early : Int), .int .u32 (p.late : Int)] := rfl
theorem zProps_arr : zProps = #[.int .u64 0, .int .u64 0, .string ⟨#[]⟩, .string ⟨#[]⟩, .int .u64 0, .int .u64 0, .int .u32 0, .int .u32 0] := rfl
theorem fr_mono {w : World} {base b0 : Nat} {e : TypeId} {k n : Nat} {v : Value} {xs : List Value} (h : Fr w base e k v n xs) (hb : b0 ≤ base) : Fr w b0 e k v n xs :=
  ⟨h.1, h.2.imp id fun ⟨g, cap, cur, h1, h2, h3⟩ => ⟨g, cap, cur, h1, Nat.le_trans hb h2, h3⟩⟩
theorem own_shut {A W : World} {b0 base : Nat} {e : TypeId} {k n : Nat} {v : Value} {xs : List Value} (h : A.ownsRow base e k v n xs) (hs : Shut b0 A W) : W.ownsRow base e k v n xs := by
  obtain ⟨h1, h2⟩ := h
  refine ⟨h1, ?_⟩
  rcases h2 with h2 | ⟨g, cap, cur, hv, hg, hh, r⟩
  · exact .inl h2
  · exact .inr ⟨g, cap, cur, hv, hg, hs.cells _ _ _ _ hh, r⟩
theorem RowsB.mono {W : World} {base b0 : Nat} {vs : List Value} {ps : List (List Fact)} (h : RowsB W base vs ps) (hb : b0 ≤ base) : RowsB W b0 vs ps := by
  refine ⟨h.1, fun i v p h1 h2 => ?_⟩
  obtain ⟨a, e, f1, f2⟩ := h.2 i v p h1 h2
  refine ⟨a, e, f1, ?_⟩
  rcases f2 with f2 | ⟨g, cap, cur, hv, hg, hh, r⟩
  · exact .inl f2
  · exact .inr ⟨g, cap, cur, hv, Nat.le_trans hb hg, hh, r⟩
theorem RowsB.snoc {W : World} {base : Nat} {vs : List Value} {ps : List (List Fact)} (h : RowsB W base vs ps) {a : Option Addr} {p : List Fact} (hf : Fr W base 5 1 (.slice a (tabB (lineF p) p).length (tabB (lineF p) p).length) (tabB (lineF p) p).length ((tabB (lineF p) p).map bv)) : RowsB W base (vs ++ [.slice a (tabB (lineF p) p).length (tabB (lineF p) p).length]) (ps ++ [p]) := by
  refine ⟨by rw [List.length_append, List.length_append, h.1]; rfl, fun i v p' h1 h2 => ?_⟩
  by_cases hi : i < ps.length
  · rw [List.getElem?_append_left (by rw [h.1]; exact hi)] at h1
    rw [List.getElem?_append_left hi] at h2
    exact h.2 i v p' h1 h2
  · rw [List.getElem?_append_right (by rw [h.1]; omega), h.1] at h1
    rw [List.getElem?_append_right (by omega)] at h2
    have hz : i - ps.length = 0 := by have := (List.getElem?_eq_some_iff.1 h2).1; simp at this; omega
    rw [hz] at h1 h2
    simp at h1 h2
    subst h1 h2
    exact ⟨a, rfl, hf⟩
theorem subF_line {l : List Fact} {x0 x1 : Nat} (h : x0 < x1) (h2 : x1 ≤ l.length) : lineF (subF l (x0, x1)) = (l[x0]'(by omega)).line := by
  unfold lineF
  rw [List.head?_eq_getElem?, subF_get (by exact h2) (by show 0 < x1 - x0; omega), Nat.add_zero, List.getElem?_eq_getElem (by omega)]
  rfl
set_option maxRecDepth 100000 in
set_option maxHeartbeats 4000000 in
theorem built_any (next : Nat) (q : Option Addr) (n c : Nat) (l : List Fact) (w : World) (hnx : next + 6001 < 18446744073709551616) (hn : l.length = n) (hm : n ≤ 6000) (hc : n ≤ c) (hr : Rd w q (fCells l)) (ho : ∀ f ∈ l, f.Ok) (hz : ∀ f ∈ l, f.key.size ≤ 140737488355328 ∧ f.val.size ≤ 140737488355328) :
    Calls Tryz.prog 32 #[.int .u64 (next : Int), .slice q n c] w (BuiltP l next w.heap.size w) := by
  refine (callsIn_wide (n := 3)).1 (callsIn_of_wp_marks Tryz.func32 rfl trivial ?_ rfl)
  refine wpIn_wide.2 ?_
  simp only [Tryz.ntmps32, List.size_toArray, List.length_cons, List.length_nil, Nat.reduceAdd, Nat.reduceSub, Array.replicate_succ, Array.replicate_zero, List.push_toArray, List.append_toArray, List.nil_append, List.cons_append]
  have Hn := hid hn
  have Hr := hid hr
  have Ho := hid ho
  have Hz := hid hz
  clear hn hr ho hz
  obtain ⟨b, off, hq, hbb0⟩ : ∃ b off, (0 < n → q = some ⟨b, off, none⟩) ∧ (b < w.heap.size ∨ b = w.heap.size + 3) := by
    by_cases h0 : n = 0
    · exact ⟨w.heap.size + 3, 0, fun h => by omega, .inr rfl⟩
    · obtain ⟨b, off, e, hb, _⟩ := fact_at Hr.out (j := 0) (by have := Hn.out; omega)
      exact ⟨b, off, fun _ => e, .inl hb⟩
  have hqb : ∀ b off, q = some ⟨b, off, none⟩ → fCells l ≠ [] → b < w.heap.size := fun b off e hx => by
    rcases Hr.out with h | ⟨b', off', e', hc⟩
    · exact absurd h hx
    · rw [e] at e'
      cases e'
      obtain ⟨u, hu⟩ := List.exists_mem_of_ne_nil _ hx
      obtain ⟨i, hi⟩ := List.mem_iff_getElem?.1 hu
      exact World.block_lt_of_cell? w _ (hc i u hi)
  go_upto_region 1 with fail
  obtain ⟨B, hB⟩ : ∃ B, B = w.heap.size := ⟨_, rfl⟩
  obtain ⟨w1, hw1⟩ : ∃ w1, ((w.alloc (.cells #[.int .u64 (next : Int)] 22)).alloc (.cells #[.slice none 0 0] 74)).alloc (.cells #[.int .i64 0] 32) = w1 := ⟨_, rfl⟩
  have hA1 : Below w.heap.size w w1 := by rw [← hw1]; exact (((Below.refl _ _).alloc (Nat.le_refl _) _).alloc (by simp) _).alloc (by simp; omega) _
  have hs1 : w1.heap.size = B + 3 := by rw [← hw1, hB]; simp
  have x0 : Boxed w1 B 22 (.int .u64 (next : Int)) := by
    rw [← hw1, hB]
    exact ((Boxed.new w 22 (.int .u64 (next : Int))).alloc _).alloc _
  have x1 : Boxed w1 (B + 1) 74 (.slice none 0 0) := by
    rw [← hw1, hB]
    have h := Boxed.new (w.alloc (.cells #[.int .u64 (next : Int)] 22)) 74 (.slice none 0 0)
    rw [World.size_alloc] at h
    exact h.alloc _
  have x2 : Boxed w1 (B + 2) 32 (.int .i64 0) := by
    rw [← hw1, hB]
    have h := Boxed.new ((w.alloc (.cells #[.int .u64 (next : Int)] 22)).alloc (.cells #[.slice none 0 0] 74)) 32 (.int .i64 0)
    simpa [World.size_alloc] using h
  rw [hw1, show w.heap.size + 1 + 1 = B + 2 by omega, show w.heap.size + 1 = B + 1 by omega, ← hB]
  rw [← hB] at hbb0 hqb hA1
  have HB := hid hB
  have HX0 := hid x0
  have HX1 := hid x1
  have HX2 := hid x2
  have HA1 := hid hA1
  have HR1 := hid (Hr.out.below (show Below w.heap.size w w1 by rw [← hB]; exact hA1))
  clear x0 x1 x2 hw1 hB
  go_wp2_with fail
  refine (parts_any _ w1 ⟨_, _, _, rfl⟩).mono ?_
  rintro e w4 ⟨rfl, hw4⟩
  have hb4 : Below w1.heap.size w1 w4 := by rw [hw4]; exact (Below.refl _ _).alloc (Nat.le_refl _) _
  have hs4 : w4.heap.size = B + 4 := by rw [hw4]; simp; omega
  have hxn : Boxed w4 (B + 3) 23 (.slice q n c) := by rw [hw4, ← hs1]; exact Boxed.new _ _ _
  rw [hs1]
  have hI0 : BltI w B next q l [] w4 :=
    ⟨(hb4.block _ HX0.out.lt).trans HX0.out, ⟨none, 0, [], (hb4.block _ HX1.out.lt).trans HX1.out, World.ownsRow_nil _ _ _ _, ⟨rfl, fun i v p h1 _ => by simp at h1⟩⟩, (hb4.block _ HX2.out.lt).trans HX2.out, HR1.out.below hb4, HA1.out.trans (hb4.mono (by omega)), fun p hp => (by cases hp), by omega⟩
  have HXN := hid hxn
  have HI0 := hid hI0
  have HR4 := hid (HR1.out.below hb4)
  have HQ := hid hq
  have HQb := hid hqb
  clear hxn hI0 hb4 hw4 hq hqb HX0 HX1 HX2 hA1
  go_wp2_with fail
  refine wpIn_wide.1 (wpIn_range_stop (n := 3) rfl (by omega) (gf := 87) (lb := #[.pointer (some ⟨B + 3, 0, none⟩)]) rfl trivial (enters_of Tryz.func87 (by kernel_rfl) rfl)
    (fun _ => rfl) (parts1_in 2 (B + 3) b off c w4.heap.size n q (by omega) l Hn.out hm hc HQ.out Hz.out) (Nat.le_refl _) (fun W hb => ⟨(hb.block _ HXN.out.lt).trans HXN.out, HR4.out.below hb⟩)
    (fun A B' C h k => ⟨KeepB.trans A B' C h.1 k.1, KeepB.trans A B' C h.2 k.2⟩) (fun W g o o' hg _ _ => ⟨KeepB.putObj W g o o' (by omega), KeepB.putObj W g o o' (by omega)⟩)
    (fun A B' h => h.keeps _) (BltI w B next q l) (fun c _ W => BltX w B l c W) (BltI.stays _ _ _ _ _) (BltI.only _ _ _ _ _) ?xr (BltI.turns _ _ _ _ _ _ (by omega) (fun b off e hx => by have := HQb.out b off e hx; omega)) ?xt (fun _ _ _ _ _ _ h _ _ _ => h)
    HI0.out ?a1 ?assign ?body ?done ?stop)
  case xr =>
    rintro c s A W ⟨rfl, h1, h2, h3, h4⟩ hr
    have hb : Below A.heap.size A W := hr.below (Nat.le_refl _) (fun _ _ => id)
    have hsz : B ≤ A.heap.size := by have := h3.size; have := HB.out; omega
    exact ⟨rfl, (hb.block _ h1.lt).trans h1, (hb.block _ h2.lt).trans h2, h3.trans (hb.mono hsz), h4⟩
  case xt =>
    rintro c s W g o o' ⟨rfl, h1, h2, h3, h4⟩ hg ho hc
    exact ⟨rfl, boxed_putObj h1 o' ho hc, boxed_putObj h2 o' ho hc, below_putObj h3 (by omega) o' ho, h4⟩
  case assign =>
    intro g x W K hK
    gi_wp2
    exact hK
  case stop =>
    rintro D c pre W hD ⟨rfl, h1, h2, h3, h4⟩ hD0
    refine wpIn_wide.2 ?_
    go_wp2
    refine leaves_marks (base := B) _ _ ⟨⟨D, rfl, by omega, hD0, fun d hd => by cases hd⟩, trivial⟩ (fun w' hs => ?_)
    exact ⟨_, built_results (hs.cells _ _ _ _ h1) (hs.cells _ _ _ _ h2) rfl rfl, by rw [← HB.out]; exact h3.trans (hs.below _ (Nat.le_refl _)), .inl ⟨h4, rfl⟩⟩
  case done =>
    rintro D xs W hD hxs hI hD0
    obtain ⟨a, ca, vs, h1, h2, h3⟩ := hI.out
    have hps : partsL l = xs.map (subF l) := by unfold partsL; rw [hxs]
    rw [← hps] at h2 h3
    have hxl : xs.length = (partsL l).length := by rw [hps, List.length_map]
    rw [hxl] at h1 h2
    have hok := builtE_all (show ∀ p ∈ partsL l, buildE (lineF p) p = 0 by rw [hps]; exact hI.okk)
    obtain ⟨M, hM⟩ : ∃ M, M = (partsL l).length := ⟨_, rfl⟩
    rw [← hM] at h1 h2
    have c1 := h1.cell
    have f1 := h1.frozen
    have hx1 := h1.set (.slice a M ca)
    have hx2 : Boxed (W.setCell ⟨B + 1, 0, none⟩ (.slice a M ca)) (B + 2) 32 (.int .i64 0) := (heap_setCell_other _ _ _ _ (show B + 2 ≠ B + 1 by omega)).trans hI.er
    have c2 := hx2.cell
    have f2 := hx2.frozen
    have hy2 := hx2.set (.int .i64 0)
    have hy1 : Boxed ((W.setCell ⟨B + 1, 0, none⟩ (.slice a M ca)).setCell ⟨B + 2, 0, none⟩ (.int .i64 0)) (B + 1) 74 (.slice a M ca) := (heap_setCell_other _ _ _ _ (show B + 1 ≠ B + 2 by omega)).trans hx1
    have hoth : ∀ g, B + 4 ≤ g → ((W.setCell ⟨B + 1, 0, none⟩ (.slice a M ca)).setCell ⟨B + 2, 0, none⟩ (.int .i64 0)).heap[g]? = W.heap[g]? := fun g hg => (heap_setCell_other _ _ _ _ (show g ≠ B + 2 by omega)).trans (heap_setCell_other _ _ _ _ (show g ≠ B + 1 by omega))
    have hbl : Below B w ((W.setCell ⟨B + 1, 0, none⟩ (.slice a M ca)).setCell ⟨B + 2, 0, none⟩ (.int .i64 0)) := (hI.below.setCell (p := ⟨B + 1, 0, none⟩) (by show B ≤ B + 1; omega) _).setCell (p := ⟨B + 2, 0, none⟩) (by show B ≤ B + 2; omega) _
    have hD1 : ((W.setCell ⟨B + 1, 0, none⟩ (.slice a M ca)).setCell ⟨B + 2, 0, none⟩ (.int .i64 0)).heap[D]? = some (.deferred (some [])) := (hoth D (by omega)).trans hD0
    have HH2 := hid (bown_keep h2 fun g hg => hoth g (own_lt2 h2 g hg).1)
    have HH3 := hid (h3.stay fun g _ hg _ => hoth g hg)
    have HY1 := hid hy1
    have HY2 := hid hy2
    have HBl := hid hbl
    have HD1 := hid hD1
    have HM := hid hM
    have HOk := hid hok
    clear h1 h2 h3 hx1 hx2 hy1 hy2 hoth hbl hD1 hI hps hxl hM hok hxs
    go_wp2
    refine leaves_marks (base := B) _ _ ⟨⟨D, rfl, by omega, HD1.out, fun d hd => by cases hd⟩, trivial⟩ (fun w' hs => ?_)
    exact ⟨_, built_results (hs.cells _ _ _ _ HY1.out) (hs.cells _ _ _ _ HY2.out) rfl rfl, by rw [← HB.out]; exact HBl.out.trans (hs.below _ (Nat.le_refl _)), .inr ⟨HOk.out, a, ca, vs, by rw [← HM.out], by rw [← HM.out, ← HB.out]; exact own_mono (own_shut HH2.out hs) (by omega), by rw [← HB.out]; exact (HH3.out.stay fun g cs _ hh => (hs.cells _ _ _ _ hh).trans hh.symm).mono (by omega)⟩⟩
  case body =>
    rintro g pre ⟨x0, x1⟩ W hg hI hgd
    obtain ⟨hx01, hx1, rest, hrest⟩ : PtGood l pre (x0, x1) := hgd
    dsimp only at hx01 hx1
    have hn0 : 0 < n := by have := Hn.out; omega
    obtain ⟨Y, hY⟩ : ∃ Y, Y = x1 - x0 := ⟨_, rfl⟩
    dsimp only
    rw [← hY]
    obtain ⟨P, hP⟩ : ∃ P, P = subF l (x0, x1) := ⟨_, rfl⟩
    have hPl : P.length = Y := by rw [hP, subF_len (by exact hx1), hY]
    have hq := HQ.out hn0
    have hrp : Rd W (some ⟨b, off + x0 * 6, none⟩) (fCells P) := by
      have h := hI.all
      rw [hq] at h
      have h2 := (h.drop (x0 * 6)).take (Y * 6)
      rw [← fCells_drop, ← fCells_take, hY, ← List.drop_take] at h2
      rw [hP]
      exact h2
    have hfa : FactAt W b (off + x0 * 6) (l[x0]'(by omega)) := by
      obtain ⟨b', off', e, _, h⟩ := fact_at hI.all (j := x0) (by omega)
      rw [hq] at e
      cases e
      exact h
    obtain ⟨LN, hLN⟩ : ∃ LN, LN = lineF P := ⟨_, rfl⟩
    have cl := hfa.c3
    rw [← subF_line hx01 hx1, ← hP, ← hLN] at cl
    have hoP : ∀ f ∈ P, f.Ok := fun f hf => by
      rw [hP] at hf
      exact Ho.out f (List.mem_of_mem_take (List.mem_of_mem_drop hf))
    have HP := hid (build_c LN (some ⟨b, off + x0 * 6, none⟩) Y (c - x0) P W hPl (by have := Hn.out; omega) hrp hoP)
    have i0 : (0 : Int) < (Y : Int) := by omega
    have HI := hid hI
    have HRe := hid hrest
    have HPd := hid hP
    have HLN := hid hLN
    clear hI hrest hP hLN hPl hrp hfa hoP hY
    gi_wp2
    refine ⟨trivial, (CallsIn.inRound g (callsIn_wide.2 HP.out)).mono ?_⟩
    rintro e W1 ⟨hb1, ⟨E, hE13, hEb, rfl⟩ | ⟨hE0, p, rfl, hfr⟩⟩
    · have HI1 := hid (BltI.stays _ _ _ _ _ _ _ _ HI.out hb1)
      have hbE : (E != 0) = true := by rcases hE13 with h | h <;> rw [h] <;> rfl
      rw [zProps_arr]
      obtain ⟨Wp, hWp⟩ : ∃ Wp, Wp = (W1.alloc (.cells #[.int .u64 0, .int .u64 0, .string ⟨#[]⟩, .string ⟨#[]⟩, .int .u64 0, .int .u64 0, .int .u32 0, .int .u32 0] 98)).setRow W1.heap.size #[.int .u64 0, .int .u64 0, .string ⟨#[]⟩, .string ⟨#[]⟩, .int .u64 0, .int .u64 0, .int .u32 0, .int .u32 0] := ⟨_, rfl⟩
      have hbp : Below W1.heap.size W1 Wp := by rw [hWp]; exact below_setRow ((Below.refl _ _).alloc (Nat.le_refl _) _) (Nat.le_refl _) _
      have hbp0 : Below W.heap.size W Wp := hb1.trans (hbp.mono hb1.size)
      have hIp := BltI.stays _ _ _ _ _ _ _ _ HI1.out hbp
      have HWp := hid hWp
      clear hWp
      gi_upto_region 4 with (refine wpListIn_store_block rfl 98 _ _ rfl _ _ _ _ rfl rfl (heap_alloc_new _ _) rfl infoProps (by simp [Value.oneCell']) ?_)
      rw [← HWp.out]
      obtain ⟨a, ca, vs, h1, h2, h3⟩ := hIp.out
      have hsW := HI.out.size
      have c1 := h1.cell
      have f1 := h1.frozen
      have hx1 := h1.set (.slice none 0 0)
      have hx2 : Boxed (Wp.setCell ⟨B + 1, 0, none⟩ (.slice none 0 0)) (B + 2) 32 (.int .i64 0) := (heap_setCell_other _ _ _ _ (show B + 2 ≠ B + 1 by omega)).trans hIp.er
      have c2 := hx2.cell
      have f2 := hx2.frozen
      have HY2 := hid (hx2.set (.int .i64 E))
      have HY1 := hid (show Boxed ((Wp.setCell ⟨B + 1, 0, none⟩ (.slice none 0 0)).setCell ⟨B + 2, 0, none⟩ (.int .i64 E)) (B + 1) 74 (.slice none 0 0) from (heap_setCell_other _ _ _ _ (show B + 1 ≠ B + 2 by omega)).trans hx1)
      have HBl := hid (show Below B w ((Wp.setCell ⟨B + 1, 0, none⟩ (.slice none 0 0)).setCell ⟨B + 2, 0, none⟩ (.int .i64 E)) from (hIp.below.setCell (p := ⟨B + 1, 0, none⟩) (by show B ≤ B + 1; omega) _).setCell (p := ⟨B + 2, 0, none⟩) (by show B ≤ B + 2; omega) _)
      have HKf := hid (show KeepsFrom w4.heap.size W ((Wp.setCell ⟨B + 1, 0, none⟩ (.slice none 0 0)).setCell ⟨B + 2, 0, none⟩ (.int .i64 E)) from ⟨by simpa using hbp0.size, fun k o hk hko _ => (heap_setCell_other _ _ _ _ (show k ≠ B + 2 by omega)).trans ((heap_setCell_other _ _ _ _ (show k ≠ B + 1 by omega)).trans ((hbp0.block k (lt_of_block hko)).trans hko))⟩)
      have hBE : builtE (partsL l) = E := by
        have hps : partsL l = pre.map (subF l) ++ P :: rest.map (subF l) := by unfold partsL; rw [HRe.out, List.map_append, List.map_cons, HPd.out]
        rw [hps, builtE_snoc HI.out.okk P _ (by rw [← HLN.out, hEb]; rcases hE13 with h | h <;> rw [h] <;> decide), ← HLN.out, hEb]
      have HBE := hid hBE
      have HE13 := hid hE13
      clear h1 h2 h3 hx1 hx2 hIp hbp hbp0 hb1 hBE hEb hE13
      gi_wp2
      exact ⟨HKf.out, rfl, HY1.out, by rw [HBE.out]; exact HY2.out, HBl.out, by rw [HBE.out]; rcases HE13.out with h | h <;> rw [h] <;> decide⟩
    · have HI1 := hid (BltI.stays _ _ _ _ _ _ _ _ HI.out hb1)
      rw [props_arr]
      obtain ⟨pp, hpp⟩ : ∃ pp, Hid (pp = propsF LN P) := ⟨_, hid rfl⟩
      rw [← hpp.out]
      have hTL : (tabB LN P).length ≤ 65536 := (buildE_zero.1 hE0).2
      obtain ⟨TL, hTLd⟩ : ∃ TL, Hid (TL = (tabB LN P).length) := ⟨_, hid rfl⟩
      rw [← hTLd.out] at hfr hTL ⊢
      obtain ⟨Wp, hWp⟩ : ∃ Wp, Wp = (W1.alloc (.cells #[.int .u64 0, .int .u64 0, .string ⟨#[]⟩, .string ⟨#[]⟩, .int .u64 0, .int .u64 0, .int .u32 0, .int .u32 0] 98)).setRow W1.heap.size #[.int .u64 (pp.line : Int), .int .u64 (pp.many : Int), .string pp.low, .string pp.high, .int .u64 (pp.least : Int), .int .u64 (pp.greatest : Int), .int .u32 (pp.early : Int), .int .u32 (pp.late : Int)] := ⟨_, rfl⟩
      have hbp : Below W1.heap.size W1 Wp := by rw [hWp]; exact below_setRow ((Below.refl _ _).alloc (Nat.le_refl _) _) (Nat.le_refl _) _
      have hrow : Wp.heap[W1.heap.size]? = some (.cells #[.int .u64 (pp.line : Int), .int .u64 (pp.many : Int), .string pp.low, .string pp.high, .int .u64 (pp.least : Int), .int .u64 (pp.greatest : Int), .int .u32 (pp.early : Int), .int .u32 (pp.late : Int)] 98 (0, 0)) := by rw [hWp]; exact setRow_heap _ _ _ _ _ _ (heap_alloc_new _ _)
      have hbp0 : Below W.heap.size W Wp := hb1.trans (hbp.mono hb1.size)
      have hIp := BltI.stays _ _ _ _ _ _ _ _ HI1.out hbp
      have y2 := cell_of_row Wp W1.heap.size 2 _ _ _ hrow
      have y3 := cell_of_row Wp W1.heap.size 3 _ _ _ hrow
      have HWp := hid hWp
      have bE : ((0 : Int) != 0) = false := rfl
      clear hWp
      gi_upto_region 4 with (refine wpListIn_store_block rfl 98 _ _ rfl _ _ _ _ rfl rfl (heap_alloc_new _ _) rfl infoProps (by simp [Value.oneCell']) ?_)
      rw [← HWp.out]
      obtain ⟨a, ca, vs, h1, h2, h3⟩ := hIp.out
      have hsW := HI.out.size
      have hsp : B + 4 ≤ Wp.heap.size := hIp.size
      have hpre : pre.length ≤ 6000 := by
        have h := (parts_ok l).len
        rw [HRe.out, List.length_append] at h
        have := Hn.out
        omega
      have hvl := h3.1
      obtain ⟨M, hM⟩ : ∃ M, M = pre.length := ⟨_, rfl⟩
      obtain ⟨NX, hNX⟩ : ∃ NX, NX = next + pre.length := ⟨_, rfl⟩
      have xB := hIp.bn
      rw [← hM] at h1 h2 hpre
      rw [← hNX] at xB
      have hNXl : NX + 1 < 18446744073709551616 := by omega
      have w32 : IntKind.u32.wrap (TL : Int) = (TL : Int) := by rw [IntKind.wrap_u32]; omega
      have w64 : IntKind.u64.wrap ((NX : Int) + 1) = (NX : Int) + 1 := by rw [IntKind.wrap_u64]; omega
      have cB := xB.cell
      have c1 := h1.cell
      obtain ⟨WA, hWA⟩ : ∃ y, y = Wp.alloc (.cells #[.int .u64 (NX : Int), .int .u32 (TL : Int), .string pp.low, .string pp.high, .slice p TL TL] 78) := ⟨_, rfl⟩
      have hbA : Below Wp.heap.size Wp WA := by rw [hWA]; exact (Below.refl _ _).alloc (Nat.le_refl _) _
      have hoa : WA.ownsRow (B + 4) 78 5 (.slice a M ca) M (flCells next (pre.map (subF l)) vs) := own_below h2 hbA
      have hsrc : Src Tryz.prog 5 74 (.slice (some ⟨Wp.heap.size, 0, none⟩) 1 1) 1 [.int .u64 (NX : Int), .int .u32 (TL : Int), .string pp.low, .string pp.high, .slice p TL TL] WA := by
        rw [hWA]
        exact src_rd (by decide) Tryz.underlying74 1 rfl (Rd.new Wp [.int .u64 (NX : Int), .int .u32 (TL : Int), .string pp.low, .string pp.high, .slice p TL TL] 78) (by simp [Value.oneCell'])
      have hsz : B + 4 ≤ WA.heap.size := Nat.le_trans hsp hbA.size
      obtain ⟨Hst, hHst⟩ : ∃ H : Option Addr → Nat → World → Prop, H = fun q6 c6 W5 => BoxStep Wp (W5.setCell ⟨B + 1, 0, none⟩ (.slice q6 (M + 1) c6)) (B + 1) (B + 4) B 74 78 5 (.slice a M ca) (.slice q6 (M + 1) c6) (M + 1) (flCells next ((pre ++ [(x0, x1)]).map (subF l)) (vs ++ [.slice p TL TL])) := ⟨_, rfl⟩
      have hst : ∀ q6 c6 W5, W5.ownsRow (B + 4) 78 5 (.slice q6 (M + 1) c6) (M + 1) (flCells next (pre.map (subF l)) vs ++ [.int .u64 (NX : Int), .int .u32 (TL : Int), .string pp.low, .string pp.high, .slice p TL TL]) → WA.grownBy W5 (Value.ownBlock (.slice a M ca)) → W5.cell? ⟨B + 1, 0, none⟩ = some (.slice a M ca) ∧ W5.frozen? ⟨B + 1, 0, none⟩ = false ∧ Hst q6 c6 W5 := by
        intro q6 c6 W5 k1 k2
        have k1' : W5.ownsRow (B + 4) 78 5 (.slice q6 (M + 1) c6) (M + 1) (flCells next ((pre ++ [(x0, x1)]).map (subF l)) (vs ++ [.slice p TL TL])) := by
          rw [List.map_append, List.map_cons, List.map_nil, flCells_snoc _ _ _ _ _ hvl, List.length_map, ← hNX, ← HPd.out]
          unfold tabOf Tab.cells
          dsimp only
          rw [← HLN.out, ← hTLd.out, ← hpp.out]
          exact k1
        obtain ⟨m1, m2⟩ := box_step (b0 := B) h1 h2 hbA k1' k2 (by decide) (by omega) (by omega) (by omega)
        rw [hHst]
        exact ⟨m1.cell, m1.frozen, m2⟩
      subst hWA
      have HOa := hid hoa
      have HSrc := hid hsrc
      have HSz := hid hsz
      have HSt := hid hst
      have HHst := hid hHst
      have HM := hid hM
      have HNX := hid hNX
      have HBp0 := hid hbp0
      have HB1 := hid hb1
      have HBp := hid hbp
      have HFr := hid hfr
      have HE0 := hid hE0
      have HIp := hid hIp
      have HX0 := hid xB
      have H2 := hid h2
      have H3 := hid h3
      clear hoa hsrc hsz hst hHst hM hNX hbA hbp0 hb1 hbp hfr hE0 hIp xB h1 h2 h3 hrow
      gi_upto_region 7 with (gi_at_builtin; refine wpListIn_append_src rfl (.tmp 26) (.tmp 38) 74 74 rfl (B + 4) 78 (.agg #[.int .u64 0, .int .u32 0, .string ⟨#[]⟩, .string ⟨#[]⟩, .slice none 0 0]) 5 72 Tryz.underlying74 infoCf rfl (by decide) a M ca _ rfl HOa.out _ 1 [.int .u64 (NX : Int), .int .u32 (TL : Int), .string pp.low, .string pp.high, .slice p TL TL] rfl HSrc.out (by unfold maxLen; omega) (by omega) HSz.out ?_; intro q6 c6 W5 k1 k2 k3; obtain ⟨c11, f11, hst⟩ := HSt.out q6 c6 W5 k1 k2)
      rw [HHst.out] at hst
      have hlo := own_lt2 H2.out
      clear k1 k2 k3 c11 f11 cB c1
      obtain ⟨W8, hW8⟩ : ∃ x, x = W5.setCell ⟨B + 1, 0, none⟩ (.slice q6 (M + 1) c6) := ⟨_, rfl⟩
      rw [← hW8] at hst ⊢
      have far : ∀ g, g < B + 4 → g ≠ B + 1 → W8.heap[g]? = Wp.heap[g]? := fun g e1 e2 => hst.far g (by omega) e2 (fun e => by have := (hlo g e).1; omega)
      have xB8 : Boxed W8 B 22 (.int .u64 (NX : Int)) := (far B (by omega) (by omega)).trans HX0.out
      have cB8 := xB8.cell
      have fB8 := xB8.frozen
      have far0 : ∀ g, g < B + 4 → W.heap.size > g ∧ Wp.heap[g]? = W.heap[g]? := fun g e1 => ⟨by omega, HBp0.out.block g (by omega)⟩
      have hb18 := HBp0.out.size
      have HS := hid hst
      have HFar := hid far
      have HFar0 := hid far0
      have HX8 := hid xB8
      have HLo := hid hlo
      have hn : (pre ++ [(x0, x1)]).length = M + 1 := by rw [List.length_append, HM.out]; rfl
      have HNn := hid hn
      clear hst far far0 xB8 hlo hW8 hn
      gi_wp2
      obtain ⟨W9, hW9⟩ : ∃ x, x = W8.setCell ⟨B, 0, none⟩ (.int .u64 ((NX : Int) + 1)) := ⟨_, rfl⟩
      rw [← hW9]
      have o9 : ∀ g, g ≠ B → W9.heap[g]? = W8.heap[g]? := fun g hg => by rw [hW9]; exact heap_setCell_other _ _ _ _ (show g ≠ B from hg)
      have kk : ∀ g, g < B + 4 → g ≠ B + 1 → g ≠ B → KeepB g W W9 := fun g e1 e2 e3 o ho => (o9 g e3).trans ((HFar.out g e1 e2).trans ((HFar0.out g e1).2.trans ho))
      have hbb : b < B + 4 ∧ b ≠ B + 1 ∧ b ≠ B := by rcases hbb0 with h | h <;> omega
      have hrows : RowsB W9 (B + 4) (vs ++ [.slice p TL TL]) ((pre ++ [(x0, x1)]).map (subF l)) := by
        have hfr := HFr.out
        rw [hTLd.out, HLN.out] at hfr ⊢
        rw [List.map_append, List.map_cons, List.map_nil, ← HPd.out]
        exact (H3.out.snoc (fr_mono (hfr.below HBp.out) hsW)).stay fun g cs e1 e2 => (o9 g (by omega)).trans (HS.out.kind g 5 ⟨cs, _, e2⟩ (by decide) (by omega))
      refine ⟨⟨?_, fun k o hk hko hc => ?_⟩, ⟨kk (B + 3) (by omega) (by omega) (by omega), kk b hbb.1 hbb.2.1 hbb.2.2⟩, ?_⟩
      · have h1 := (HS.out.keeps 0).size
        have h2 : W9.heap.size = W8.heap.size := by rw [hW9]; simp
        omega
      · have h1 := (HS.out.keeps (B + 4)).same k o (by omega) ((HBp0.out.block k (lt_of_block hko)).trans hko) hc
        exact (o9 k (by omega)).trans h1
      · refine ⟨?_, ⟨q6, c6, vs ++ [.slice p TL TL], ?_, ?_, hrows⟩, ?_, ?_, ?_, fun y hy => ?_, ?_⟩
        · rw [HNn.out, hW9, show next + (M + 1) = NX + 1 by rw [HNX.out, HM.out]; omega]
          exact HX8.out.set _
        · rw [HNn.out]
          exact (o9 (B + 1) (by omega)).trans HS.out.box
        · rw [HNn.out]
          exact bown_keep HS.out.own fun g hg => o9 g (by have := (own_lt2 HS.out.own g hg).1; omega)
        · exact (o9 (B + 2) (by omega)).trans ((HFar.out (B + 2) (by omega) (by omega)).trans HIp.out.er)
        · have h := HI.out.all
          rw [hq] at h ⊢
          exact rd_keep h (kk b hbb.1 hbb.2.1 hbb.2.2)
        · have h := HIp.out.below.trans HS.out.below
          rw [hW9]
          exact h.setCell (p := ⟨B, 0, none⟩) (Nat.le_refl _) _
        · rw [List.map_append] at hy
          rcases List.mem_append.1 hy with h | h
          · exact HI.out.okk y h
          · rw [List.map_cons, List.map_nil, List.mem_singleton, ← HPd.out] at h
            rw [h, ← HLN.out]
            exact HE0.out
        · have h1 := (HS.out.keeps 0).size
          have h2 : W9.heap.size = W8.heap.size := by rw [hW9]; simp
          omega
end Go.Proofs.Herb
