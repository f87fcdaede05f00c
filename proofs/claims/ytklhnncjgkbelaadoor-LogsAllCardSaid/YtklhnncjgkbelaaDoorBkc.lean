/- The Book's Bytes and Records: the contracts. For a Book of the call's own that lies in memory as BookAt says, in worlds where strconv's table of powers of ten reads as it was laid. -/
import Derived.Test.YtklhnncjgkbelaaDoorBkb
namespace Go.Proofs.Herb
open Go.RowKit
attribute [local go_sem] Oper.semAt_some
set_option maxRecDepth 100000 in
set_option maxHeartbeats 1000000 in
theorem bytes_any (K base : Nat) (ss : List Sh) (q : Option Addr) (n c : Nat) (w : World) (h : BookAt w K base ss) (hl : ss.length ≤ 1000000) (hK : base ≤ K) (hbs : base ≤ w.heap.size) (ht : Pow10 w) :
    Calls Tryd.prog 21 #[.pointer (some ⟨K, 0, none⟩), .slice q n c] w fun e w' => e = .returned (.tuple #[]) ∧ ∃ m, m < 256 ∧ BookAt w' K base (ss ++ [⟨q, n, c, m⟩]) ∧ KpB w w' ∧ Below base w w' := by
  have HM := hid (mark_any K base ss w h hl ht)
  have H := hid h
  clear h ht
  go_enter Tryd.func21, Tryd.ntmps21
  go_wp2_with fail
  refine HM.out.mono ?_
  rintro e w1 ⟨⟨S, rfl⟩, hb1⟩
  have HB1 := hid hb1
  have hs1 := hb1.size
  obtain ⟨M, hM⟩ : ∃ M, M = (ss.length + 1) % 256 := ⟨_, rfl⟩
  have i0 : (((ss.length + 1 : Nat) : Int) % 256) = (M : Int) := by omega
  obtain ⟨L, hL⟩ : ∃ L, L = ss.length + 1 := ⟨_, rfl⟩
  rw [← hL] at i0 ⊢
  have hM2 : M < 256 := by omega
  have HK := hid (keep_any K base ss ⟨q, n, c, M⟩ w1 (H.out.below hb1) hl hK (by omega))
  clear hb1 hM hL
  go_wp2_with fail
  refine HK.out.mono ?_
  rintro e w2 ⟨rfl, h1, h2, h3⟩
  have H1 := hid h1
  have H2 := hid h2
  have H3 := hid h3
  clear h1 h2 h3
  go_wp2
  go_end0
  exact ⟨rfl, M, hM2, H1.out, (KpB.of_below HB1.out).trans H2.out, (HB1.out.mono hbs).trans H3.out⟩
theorem Fr.kpB {w w' : World} {base : Nat} {e : TypeId} {k : Nat} {v : Value} {n : Nat} {xs : List Value} (h : Fr w base e k v n xs) (hk : KpB w w') (h1 : e ≠ 34) (h2 : e ≠ 66) : Fr w' base e k v n xs := by
  obtain ⟨f1, f2⟩ := h
  refine ⟨f1, ?_⟩
  rcases f2 with f2 | ⟨g, cap, cur, hv, hg, hh, r⟩
  · exact .inl f2
  · exact .inr ⟨g, cap, cur, hv, hg, (hk.2 g _ _ _ hh h1 h2).trans hh, r⟩
theorem ShRow.kpB {w w' : World} {s : Sh} {k : Nat} (h : ShRow w s k) (hk : KpB w w') : ShRow w' s k := by
  obtain ⟨h1, h2, h3, h4⟩ := h
  refine ⟨h1, h2, h3, ?_⟩
  rcases h4 with h4 | ⟨g, cur, e1, e2, e3, e4⟩
  · exact .inl h4
  · exact .inr ⟨g, cur, e1, (hk.2 g _ _ _ e2 (by decide) (by decide)).trans e2, e3, e4⟩
theorem ShRow.of_fr {w : World} {base n : Nat} {s : Sh} {xs : List Value} (h : Fr w base 5 1 s.sl n xs) (hm : s.m < 256) : ShRow w s 0 ∧ ∀ g, s.blk = some g → base ≤ g ∧ g < w.heap.size := by
  obtain ⟨q, n', c, mk⟩ := s
  rcases h.2 with ⟨e, hn⟩ | ⟨g, cap, cur, e, hg, hh, h1, h2, h3, h4⟩
  · unfold Sh.sl at e
    cases e
    exact ⟨⟨Nat.le_refl _, Nat.zero_le _, hm, .inl ⟨rfl, rfl⟩⟩, fun g hg => by cases hg⟩
  · unfold Sh.sl at e
    cases e
    refine ⟨⟨h1, h2, hm, .inr ⟨g, cur, rfl, hh, by rw [Nat.mul_one] at h3; exact h3, fun i hi => absurd hi (Nat.not_lt_zero _)⟩⟩, fun g' hg' => ?_⟩
    cases hg'
    exact ⟨hg, (Array.getElem?_eq_some_iff.1 hh).1⟩
/-- one sheet's row lies ahead of another one's -/
def AheadS (s t : Sh) : Prop := ∀ g h, s.blk = some g → t.blk = some h → g < h
/-- sheets whose rows lie in these blocks and share none -/
structure ShsOk (w : World) (lo hi : Nat) (hs : List Sh) : Prop where
  row : ∀ s ∈ hs, ShRow w s 0
  lo : ∀ s ∈ hs, ∀ g, s.blk = some g → lo ≤ g
  hi : ∀ s ∈ hs, ∀ g, s.blk = some g → g < hi
  ap : hs.Pairwise AheadS
theorem ShsOk.kpB {w w' : World} {lo hi : Nat} {hs : List Sh} (h : ShsOk w lo hi hs) (hk : KpB w w') : ShsOk w' lo hi hs := ⟨fun s hs => (h.row s hs).kpB hk, h.lo, h.hi, h.ap⟩
theorem ShsOk.append {w : World} {lo mid hi : Nat} {hs ks : List Sh} (h : ShsOk w lo mid hs) (k : ShsOk w mid hi ks) (h1 : mid ≤ hi) (h2 : lo ≤ mid) : ShsOk w lo hi (hs ++ ks) := by
  refine ⟨fun s hs' => ?_, fun s hs' => ?_, fun s hs' => ?_, List.pairwise_append.2 ⟨h.ap, k.ap, fun a ha b hb g g' hg hg' => Nat.lt_of_lt_of_le (h.hi a ha g hg) (k.lo b hb g' hg')⟩⟩
  all_goals rcases List.mem_append.1 hs' with q | q
  · exact h.row s q
  · exact k.row s q
  · exact h.lo s q
  · intro g hg; exact Nat.le_trans h2 (k.lo s q g hg)
  · intro g hg; exact Nat.lt_of_lt_of_le (h.hi s q g hg) h1
  · exact k.hi s q
theorem sl_blk (s : Sh) : s.sl.ownBlock = s.blk := by obtain ⟨q, n, c, m⟩ := s; cases q <;> rfl
theorem shs_of_rows {w : World} {b1 : Nat} {hs : List Sh} {vs : List Value} {ls : List (List UInt8)} (hv : hs.map Sh.sl = vs) (hm : ∀ s ∈ hs, s.m < 256) (hl : vs.length = ls.length)
    (hr : ∀ (i : Nat) (x : Value) (l : List UInt8), vs[i]? = some x → ls[i]? = some l → Fr w b1 5 1 x l.length (l.map bv)) (hp : vs.Pairwise Ahead) : ShsOk w b1 w.heap.size hs := by
  have hone : ∀ s ∈ hs, ShRow w s 0 ∧ ∀ g, s.blk = some g → b1 ≤ g ∧ g < w.heap.size := fun s h => by
    obtain ⟨i, hi, rfl⟩ := List.getElem_of_mem h
    have h1 : vs[i]? = some hs[i].sl := by rw [← hv, List.getElem?_map, List.getElem?_eq_getElem hi]; rfl
    have hil : i < ls.length := by rw [← hl, ← hv, List.length_map]; exact hi
    exact ShRow.of_fr (hr i _ _ h1 (List.getElem?_eq_getElem hil)) (hm _ h)
  refine ⟨fun s h => (hone s h).1, fun s h g hg => ((hone s h).2 g hg).1, fun s h g hg => ((hone s h).2 g hg).2, ?_⟩
  rw [← hv] at hp
  exact (List.pairwise_map.1 hp).imp fun {a b} h g g' hg hg' => h g g' (by rw [sl_blk]; exact hg) (by rw [sl_blk]; exact hg')
set_option maxRecDepth 100000 in
set_option maxHeartbeats 1000000 in
/-- a sheet for each of the rows -/
theorem records_any (K base b1 : Nat) (ss : List Sh) (v : Value) (ls : List (List UInt8)) (W0 w : World) (h : BookAt w K base ss) (hr : RowsA W0 b1 v ls) (hk0 : KpB W0 w) (hl : ss.length + ls.length ≤ 1000000) (hK : base ≤ K) (hbs : base ≤ w.heap.size) (hg : 0 < base) (ht : Pow10 w) :
    Calls Tryd.prog 9 #[.pointer (some ⟨K, 0, none⟩), v] w fun e w' => e = .returned (.tuple #[]) ∧ ∃ hs : List Sh, hs.length = ls.length ∧ BookAt w' K base (ss ++ hs) ∧ ShsOk w' b1 W0.heap.size hs ∧ KpB w w' ∧ Below base w w' := by
  obtain ⟨vs, hvl, hfr, hrows, hap⟩ := hr
  obtain ⟨q, c, rfl, hc, hcm, -, -⟩ := hfr.shape
  obtain ⟨N, hN⟩ : ∃ N, N = vs.length := ⟨_, rfl⟩
  rw [← hN] at hfr hc ⊢
  have H := hid h
  have HFr := hid (hfr.kpB hk0 (by decide) (by decide))
  have HK0 := hid hk0
  have HT := hid ht
  have HR := hid hrows
  have HAp := hid hap
  have HN := hid hN
  have HVl := hid hvl
  have HNl := hid (show N = ls.length by rw [hN, hvl])
  have hl1 : ss.length + N ≤ 1000000 := by rw [HNl.out]; exact hl
  clear h hfr ht hrows hap hN hvl hl hk0
  go_enter Tryd.func9, Tryd.ntmps9
  go_wp2_with fail
  go_loopw [4] (fun i wr => ∃ (k : Nat) (hs : List Sh), k ≤ N ∧ i = .int .i64 (k : Int) ∧ hs.map Sh.sl = vs.take k ∧ (∀ s ∈ hs, s.m < 256) ∧ BookAt wr K base (ss ++ hs) ∧ KpB w wr ∧ Below base w wr) (fun i _ => N - (intOf i).toNat)
  case atStart => exact ⟨0, [], Nat.zero_le _, rfl, rfl, fun s hs => (by cases hs), by rw [List.append_nil]; exact H.out, KpB.refl _, Below.refl _ _⟩
  case round =>
    obtain ⟨k, hs, hk, rfl, hmap, hm, hB, hkp, hbl⟩ := hrel
    by_cases hlt : k < N
    · have hkv : k < vs.length := by rw [← HN.out]; exact hlt
      have hrd := (HFr.out.kpB hkp (by decide) (by decide)).rd
      obtain ⟨b, o, rfl, hcell⟩ := hrd.cell hkv
      obtain ⟨q1, c1, hv1, -, -, -, -⟩ := (HR.out k _ _ (List.getElem?_eq_getElem hkv) (List.getElem?_eq_getElem (show k < ls.length by rw [← HNl.out]; exact hlt))).shape
      obtain ⟨n1, hn1⟩ : ∃ x, x = (ls[k]'(by rw [← HNl.out]; exact hlt)).length := ⟨_, rfl⟩
      rw [← hn1] at hv1
      rw [hv1] at hcell
      have hlen : (ss ++ hs).length = ss.length + k := by
        have h1 := congrArg List.length hmap
        rw [List.length_map, List.length_take] at h1
        rw [List.length_append]; omega
      have HB := hid (bytes_any K base (ss ++ hs) q1 n1 c1 wr hB (by rw [hlen]; omega) hK (Nat.le_trans hbs hkp.1) (HT.out.on hbl hg))
      have HMap := hid hmap
      have HM := hid hm
      have HKp := hid hkp
      have HBl := hid hbl
      have HV1 := hid hv1
      have i0 : (0 : Int) ≤ (k : Int) := by omega
      have i1 : (k : Int) < (N : Int) := by omega
      clear hmap hm hB hkp hbl hn1 hrd hv1 hlen
      go_wp2_with fail
      refine HB.out.mono ?_
      rintro e w2 ⟨rfl, m, hm, h1, h2, h3⟩
      have H1 := hid h1
      have H2 := hid (HKp.out.trans h2)
      have H3 := hid (HBl.out.trans h3)
      clear h1 h2 h3
      go_wp2
      go_roundw
      case rel => exact ⟨k + 1, hs ++ [⟨q1, n1, c1, m⟩], by omega, by go_num, by rw [List.map_append, HMap.out, List.take_succ_eq_append_getElem hkv, HV1.out]; rfl, fun s hs' => (by
        rcases List.mem_append.1 hs' with q | q
        · exact HM.out s q
        · obtain rfl := List.mem_singleton.1 q
          exact hm), by rw [← List.append_assoc]; exact H1.out, H2.out, H3.out⟩
      case measure => simp [intOf]; omega
    · obtain rfl : k = N := by omega
      have hmap' : hs.map Sh.sl = vs := by rw [hmap, List.take_of_length_le (by rw [← HN.out]; exact Nat.le_refl _)]
      have HS := hid (shs_of_rows hmap' hm HVl.out HR.out HAp.out)
      have HL := hid (show hs.length = ls.length by rw [← HNl.out, HN.out, ← hmap', List.length_map])
      have HKp := hid hkp
      have HBl := hid hbl
      have HBk := hid hB
      clear hmap hm hB hkp hbl hmap'
      go_wp2
      go_end0
      exact ⟨rfl, hs, HL.out, HBk.out, HS.out.kpB (HK0.out.trans HKp.out), HKp.out, HBl.out⟩
theorem ShsOk.lower {w : World} {lo lo' hi : Nat} {hs : List Sh} (h : ShsOk w lo hi hs) (hl : lo' ≤ lo) : ShsOk w lo' hi hs := ⟨h.row, fun s hs g hg => Nat.le_trans hl (h.lo s hs g hg), h.hi, h.ap⟩
theorem Pow10.lt {w : World} (h : Pow10 w) : 0 < w.heap.size := by
  unfold Pow10 Lib.TabIs World.var? at h
  rw [gPow10] at h
  simp only [Option.bind_some] at h
  rcases Nat.lt_or_ge 0 w.heap.size with q | q
  · exact q
  · rw [Array.getElem?_eq_none q] at h; cases h
end Go.Proofs.Herb
