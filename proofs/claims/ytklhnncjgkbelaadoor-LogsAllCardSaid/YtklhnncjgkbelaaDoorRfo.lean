/- The contract of the reference's Of (logs): the records of a log's bytes. For bytes that can be read. -/
import Derived.Test.YtklhnncjgkbelaaDoorRfg
import Derived.Test.YtklhnncjgkbelaaDoorRecs
import Derived.Laws.AppendOwn
import Derived.OwnWalk
namespace Go.Proofs.Herb
open Go.RowKit
attribute [local go_sem] Oper.semAt_some
/-- where the loop stands: behind these records -/
structure OfI (w : World) (pre : List (List UInt8 × Nat)) (v : Value) (W : World) : Prop where
  own : ∃ vs : List Value, vs.length = pre.length ∧ W.ownsRow w.heap.size 22 1 v pre.length vs ∧ ∀ (i : Nat) (x : Value) (p : List UInt8 × Nat), vs[i]? = some x → pre[i]? = some p → Fr W w.heap.size 5 1 x p.1.length (p.1.map bv)
  below : Below w.heap.size w W
theorem OfI.world {w W W2 : World} {pre : List (List UInt8 × Nat)} {v : Value} (h : OfI w pre v W) (hb : Below W.heap.size W W2) : OfI w pre v W2 := by
  obtain ⟨vs, h1, h2, h3⟩ := h.own
  exact ⟨⟨vs, h1, own_below h2 hb, fun i x p hx hp => (h3 i x p hx hp).below hb⟩, h.below.trans (hb.mono h.below.size)⟩
theorem OfI.push {w W W2 : World} {pre : List (List UInt8 × Nat)} {q q2 : Option Addr} {c c2 : Nat} {vs : List Value} {x : Value} {p : List UInt8 × Nat} {tmp : Obj} (hl : vs.length = pre.length)
    (hown : W.ownsRow w.heap.size 22 1 (.slice q pre.length c) pre.length vs) (hf : ∀ (i : Nat) (x : Value) (p : List UInt8 × Nat), vs[i]? = some x → pre[i]? = some p → Fr W w.heap.size 5 1 x p.1.length (p.1.map bv)) (hb : Below w.heap.size w W)
    (hx : Fr W w.heap.size 5 1 x p.1.length (p.1.map bv)) (h1 : W2.ownsRow w.heap.size 22 1 (.slice q2 (pre.length + 1) c2) (pre.length + 1) (vs ++ [x])) (hg : (W.alloc tmp).grownBy W2 (Value.slice q pre.length c).ownBlock) :
    OfI w (pre ++ [p]) (.slice q2 (pre ++ [p]).length c2) W2 := by
  have hs := hb.size
  have ob : ∀ g, (Value.slice q pre.length c).ownBlock = some g → w.heap.size ≤ g ∧ ∃ cur, W.heap[g]? = some (.cells cur 22 (0, 0)) := by
    intro g hg'
    rcases hown.2 with ⟨e, _⟩ | ⟨g', cap, cur, e, hb, hh, _⟩
    · rw [e] at hg'; cases hg'
    · rw [e] at hg'; cases hg'; exact ⟨hb, cur, hh⟩
  have far : ∀ {x : Value} {n : Nat} {xs : List Value}, Fr W w.heap.size 5 1 x n xs → Fr W2 w.heap.size 5 1 x n xs := by
    rintro x n xs ⟨f1, f2⟩
    refine ⟨f1, ?_⟩
    rcases f2 with f2 | ⟨g, cap, cur, hv, hgl, hh, r⟩
    · exact .inl f2
    · have hlt := (Array.getElem?_eq_some_iff.1 hh).1
      refine .inr ⟨g, cap, cur, hv, hgl, ?_, r⟩
      rw [hg.block g (by rw [World.size_alloc]; omega) (fun e => by obtain ⟨_, cur', h'⟩ := ob g e.symm; rw [hh] at h'; cases h'), Below.heap_alloc _ _ _ hlt]
      exact hh
  refine ⟨⟨vs ++ [x], by rw [List.length_append, List.length_append, hl]; rfl, by rw [List.length_append]; exact h1, fun i y r hy hr => ?_⟩, (hb.alloc (by omega) tmp).grown hg (by rw [World.size_alloc]; omega) (fun k e => (ob k e).1)⟩
  rcases Nat.lt_or_ge i pre.length with h | h
  · rw [List.getElem?_append_left (by omega)] at hy
    rw [List.getElem?_append_left h] at hr
    exact far (hf i y r hy hr)
  · rw [List.getElem?_append_right (by omega)] at hy
    rw [List.getElem?_append_right h] at hr
    rcases Nat.eq_zero_or_pos (i - pre.length) with h0 | h0
    · rw [hl, h0] at hy
      rw [h0] at hr
      cases hy; cases hr
      exact far hx
    · rw [hl] at hy
      rw [List.getElem?_eq_none (by simp; omega)] at hy
      cases hy
set_option maxRecDepth 100000 in
set_option maxHeartbeats 4000000 in
theorem ref_logs (a : Option Addr) (n cb : Nat) (l : List UInt8) (w : World) (hn : l.length = n) (hcb : n ≤ cb) (hm : n ≤ 1000000) (hr : Rd w a (l.map bv)) :
    Calls Tryd.prog 7 #[.slice a n cb] w fun e w' => ∃ v, e = .returned (.tuple #[v, .bool (decide (endOf (recsOf l) = l.length))]) ∧ Rows w' w.heap.size v ((recsOf l).map (·.1)) ∧ Below w.heap.size w w' := by
  have Hn := hid hn
  have Hr := hid hr
  obtain ⟨i0, hi, hz0, hz1, hz2⟩ := info_parts infoRow
  clear hn hr
  go_enter Tryd.func7, Tryd.ntmps7
  go_wp2_with fail
  go_loopw [4, 5] (fun v i wr => ∃ (A f : Nat) (pre : List (List UInt8 × Nat)) (q : Option Addr) (c : Nat), v = .slice q pre.length c ∧ i = .int .i64 (A : Int) ∧ A ≤ n ∧ n < f + A ∧ recsOf l = pre ++ recsF f l A ∧ A = endOf pre ∧ OfI w pre (.slice q pre.length c) wr) (fun _ i _ => n - (intOf i).toNat)
  case atStart => exact ⟨0, n + 1, [], none, 0, rfl, rfl, Nat.zero_le _, by omega, by rw [← Hn.out]; rfl, rfl, ⟨⟨[], rfl, World.ownsRow_nil _ _ _ _, fun i x p hx => by cases hx⟩, Below.refl _ _⟩⟩
  case round =>
    obtain ⟨A, f, pre, q, c, rfl, rfl, hA, hf, hd, hE, hI⟩ := hrel
    have HD := hid hd
    have HE := hid hE
    have HI := hid hI
    have hpl : pre.length ≤ n := by have h1 := congrArg List.length hd; rw [List.length_append] at h1; have h2 := recsOf_length l; rw [Hn.out] at h2; omega
    obtain ⟨E, hEr⟩ : ∃ E, Hid (E = (getOne l A).2.2) := ⟨_, hid rfl⟩
    obtain ⟨L, hL⟩ : ∃ L, Hid (L = (getOne l A).1) := ⟨_, hid rfl⟩
    obtain ⟨X, hX⟩ : ∃ X, Hid (X = (getOne l A).2.1) := ⟨_, hid rfl⟩
    have hG := ref_get a n cb A l wr Hn.out hcb (by omega) hA (Hr.out.below hI.below)
    rw [← hEr.out, ← hL.out, ← hX.out] at hG
    have HG := hid hG
    have hsr := hI.below.size
    obtain ⟨PL, hPL⟩ : ∃ x, Hid (x = pre.length) := ⟨_, hid rfl⟩
    rw [← hPL.out] at hpl ⊢
    clear hG hd hE hI
    by_cases h0 : E = 0
    · subst h0
      have ho := getOne_ok hEr.out.symm
      rw [← hL.out, ← hX.out, Hn.out] at ho
      have hn := recsF_next (f := f) (by rw [Hn.out]; exact hf) hEr.out.symm
      rw [← hL.out, ← hX.out, Hn.out] at hn
      have hXN : X ≤ n := ho.2.1
      have hXa : A < X := by omega
      have Hnx := hid hn.1
      have hf' : n < f - 1 + X := hn.2
      clear hn ho
      go_wp2_with fail
      refine HG.out.mono ?_
      rintro e w2 ⟨v, rfl, hv, hb2⟩
      obtain ⟨q2, c2, rfl, -, -, -, -⟩ := hv.shape
      have HV := hid (hv.mono hsr)
      have HI2 := hid (HI.out.world hb2)
      obtain ⟨vs, v1, v2, v3⟩ := HI2.out.own
      have HV1 := hid v1
      have HV2 := hid v2
      have HV3 := hid v3
      obtain ⟨LL, hLL⟩ : ∃ x, Hid (x = L.length) := ⟨_, hid rfl⟩
      rw [← hLL.out]
      have hs2 := HI2.out.below.size
      clear hv hb2 v1 v2 v3 HG
      have HOwn := hid (show w2.ownsRow w.heap.size 22 1 (.slice q PL c) PL vs by have h := HV2.out; rw [← hPL.out] at h; exact h)
      go_wp2_with (at_builtin; refine wpList_append_own _ rfl (.tmp 23) (.tmp 25) 26 rfl w.heap.size 22 i0 (.slice none 0 0) 1 24 Tryd.underlying26 hi hz0 hz1 hz2 rfl (by decide) (.slice q PL c) PL vs rfl (HOwn.out.alloc _) ⟨w2.heap.size, 0, none⟩ 1 1 [.slice q2 LL c2] rfl rfl (cell_one_new _ _ _) (by simp [Value.oneCell']) (by unfold maxLen; omega) (by omega) (by simp; omega) ?_; intro v' w3 hown' hgrow _; obtain ⟨g', cap', rfl⟩ := ownsRow_succ hown'; have HP := hid (OfI.push (p := (L, X)) HV1.out HV2.out HV3.out HI2.out.below HV.out (by rw [← hPL.out, ← hLL.out]; exact hown') (by rw [← hPL.out]; exact hgrow)); clear hown' hgrow)
      exact ⟨⟨X, f - 1, pre ++ [(L, X)], some ⟨g', 0, none⟩, cap', by rw [List.length_append, ← hPL.out]; rfl, rfl, hXN, hf', by rw [HD.out, Hnx.out, List.append_assoc]; rfl, (show X = endOf (pre ++ [(L, X)]) from by rw [endOf_snoc]), HP.out⟩, by simp [intOf]; omega⟩
    · have hb : (E != 0) = true := by simpa using h0
      have he := recsF_end (f := f) (show (getOne l A).2.2 ≠ 0 by rw [← hEr.out]; exact h0)
      have hpre : recsOf l = pre := by rw [HD.out, he, List.append_nil]
      have HPre := hid hpre
      clear he h0 hpre
      go_wp2_with fail
      refine HG.out.mono ?_
      rintro e w2 ⟨v, rfl, hv, hb2⟩
      have HI2 := hid (HI.out.world hb2)
      clear hv hb2 HG
      go_wp2
      go_ret2
      obtain ⟨vs, v1, v2, v3⟩ := HI2.out.own
      refine ⟨.slice q PL c, ?_, ?_, HI2.out.below⟩
      · have hbool : decide (endOf (recsOf l) = l.length) = ((A : Int) == (n : Int)) := by
          rw [HPre.out, ← HE.out, Hn.out, Bool.eq_iff_iff]; simp; omega
        rw [hbool]
        rfl
      · rw [HPre.out]
        refine ⟨vs, by rw [v1, List.length_map], ?_, fun i x l' hx hl => ?_⟩
        · rw [v1, hPL.out]; exact Fr.of_own v2
        · rw [List.getElem?_map] at hl
          cases hp : pre[i]? with
          | none => rw [hp] at hl; cases hl
          | some p => rw [hp] at hl; cases hl; exact v3 i x p hx hp
end Go.Proofs.Herb
