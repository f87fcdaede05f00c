/- The Book's mark, keep, Bytes and Records: the contracts. For a Book of the call's own that lies in memory as BookAt says, in worlds where strconv's table of powers of ten reads as it was laid. -/
import Derived.Test.YtklhnncjgkbelaaDoorBka
import Derived.Test.YtklhnncjgkbelaaDoorIto
import Derived.Test.YtklhnncjgkbelaaDoorRecs
import Derived.Laws.AppendOwn
import Derived.OwnWalk
import Derived.Lib.ItoaLen
import Derived.WalkLawsBesides
import Derived.WalkSpells
import Derived.Deep.QuietTactic
import Derived.Deep.DeepCutAuto
namespace Go.Proofs.Herb
open Go.RowKit
attribute [local go_sem] Oper.semAt_some
theorem Pow10.on {w w' : World} {B : Nat} (h : Pow10 w) (hb : Below B w w') (hB : 0 < B) : Pow10 w' := by
  unfold Pow10 Lib.TabIs World.var? at *
  rw [gPow10] at *
  simp only [Option.bind_some] at *
  rw [hb.block _ hB]
  exact h
theorem infoSheet : (Tryd.prog.info? 66).map (fun i => (i.zero, i.size, i.bytes)) = some (some .nilIface, 1, 16) := by kernel_rfl
/-- a Book of the call's own, and its sheets of bytes -/
structure BookAt (w : World) (K base : Nat) (ss : List Sh) : Prop where
  row : ∃ q c, w.heap[K]? = some (.cells #[.slice q ss.length c] 34 (0, 0)) ∧ w.ownsRow base 66 1 (.slice q ss.length c) ss.length (ss.map Sh.v)
/-- what keeps all blocks but a Book's -/
def KpB (w w' : World) : Prop := w.heap.size ≤ w'.heap.size ∧ ∀ (g : Nat) (cs : Array Value) (t : TypeId) (fr : Nat × Nat), w.heap[g]? = some (.cells cs t fr) → t ≠ 34 → t ≠ 66 → w'.heap[g]? = w.heap[g]?
theorem KpB.refl (w : World) : KpB w w := ⟨Nat.le_refl _, fun _ _ _ _ _ _ _ => rfl⟩
theorem KpB.trans {a b c : World} (h : KpB a b) (k : KpB b c) : KpB a c := ⟨Nat.le_trans h.1 k.1, fun g cs t fr hg h1 h2 => (k.2 g cs t fr ((h.2 g cs t fr hg h1 h2).trans hg) h1 h2).trans (h.2 g cs t fr hg h1 h2)⟩
theorem KpB.of_below {w w' : World} (h : Below w.heap.size w w') : KpB w w' := ⟨h.size, fun g _ _ _ hg _ _ => h.block g (Array.getElem?_eq_some_iff.1 hg).1⟩
theorem BookAt.below {w w' : World} {K base : Nat} {ss : List Sh} (h : BookAt w K base ss) (hb : Below w.heap.size w w') : BookAt w' K base ss := by
  obtain ⟨q, c, h1, h2⟩ := h.row
  exact ⟨q, c, (hb.block K (Array.getElem?_eq_some_iff.1 h1).1).trans h1, own_below h2 hb⟩
set_option maxRecDepth 100000 in
set_option maxHeartbeats 1000000 in
theorem mark_any (K base : Nat) (ss : List Sh) (w : World) (h : BookAt w K base ss) (hl : ss.length ≤ 1000000) (ht : Pow10 w) :
    Calls Tryd.prog 33 #[.pointer (some ⟨K, 0, none⟩)] w fun e w' => (∃ S, e = .returned (.tuple #[.int .u64 ((ss.length + 1 : Nat) : Int), .string S])) ∧ Below w.heap.size w w' := by
  obtain ⟨q, c, h1, h2⟩ := h.row
  obtain ⟨N, hN⟩ : ∃ N, N = ss.length := ⟨_, rfl⟩
  rw [← hN] at h1 h2 hl ⊢
  have k0 : w.cell? ⟨K, 0, none⟩ = some (.slice q N c) := (cell_of_row _ _ 0 _ _ _ h1).trans rfl
  have HT := hid ht
  have HI := itoa_any (N + 1) (by omega) w HT.out
  rw [show ((N + 1 : Nat) : Int) = (N : Int) + 1 by omega] at HI ⊢
  have HI2 := hid HI
  clear h h1 h2 hN ht HI
  go_enter Tryd.func33, Tryd.ntmps33
  go_wp2_with fail
  refine HI2.out.mono ?_
  rintro e w' ⟨rfl, hb⟩
  have HB := hid hb
  obtain ⟨S, hS⟩ : ∃ S : ByteArray, S = ⟨(Lib.itoa ((N : Int) + 1)).toArray⟩ := ⟨_, rfl⟩
  have hSz : S.size ≤ 21 := by
    rw [hS]
    have h := Lib.itoa_length_le ((N : Int) + 1) (by omega) (by omega)
    simpa [ByteArray.size] using h
  rw [← hS]
  clear hb hS
  go_wp2
  go_ret2
  exact ⟨⟨_, rfl⟩, HB.out⟩
theorem own_keep0 {w w' : World} {base : Nat} {e : TypeId} {k : Nat} {v : Value} {n : Nat} {xs : List Value} (h : w.ownsRow base e k v n xs) (hb : ∀ g, v.ownBlock = some g → w'.heap[g]? = w.heap[g]?) : w'.ownsRow base e k v n xs := by
  obtain ⟨h1, h2⟩ := h
  refine ⟨h1, ?_⟩
  rcases h2 with h2 | ⟨g, cap, cur, e, hl, hh, r⟩
  · exact .inl h2
  · exact .inr ⟨g, cap, cur, e, hl, (hb g (by rw [e]; rfl)).trans hh, r⟩
theorem keep_done {w W : World} {K base N c c2 : Nat} {q q2 : Option Addr} {xs ys : List Value} {tmp : Obj} (h1 : w.heap[K]? = some (.cells #[.slice q N c] 34 (0, 0))) (h2 : w.ownsRow base 66 1 (.slice q N c) N xs)
    (hown : W.ownsRow base 66 1 (.slice q2 (N + 1) c2) (N + 1) ys) (hg : (w.alloc tmp).grownBy W (Value.slice q N c).ownBlock) (hK : base ≤ K) (hbs : base ≤ w.heap.size) :
    W.heap[K]? = some (.cells #[.slice q N c] 34 (0, 0)) ∧ (W.setCell ⟨K, 0, none⟩ (.slice q2 (N + 1) c2)).heap[K]? = some (.cells #[.slice q2 (N + 1) c2] 34 (0, 0)) ∧
      (W.setCell ⟨K, 0, none⟩ (.slice q2 (N + 1) c2)).ownsRow base 66 1 (.slice q2 (N + 1) c2) (N + 1) ys ∧ KpB w (W.setCell ⟨K, 0, none⟩ (.slice q2 (N + 1) c2)) ∧ Below base w (W.setCell ⟨K, 0, none⟩ (.slice q2 (N + 1) c2)) := by
  have hKl := (Array.getElem?_eq_some_iff.1 h1).1
  have ob : ∀ g, (Value.slice q N c).ownBlock = some g → base ≤ g ∧ ∃ cur, w.heap[g]? = some (.cells cur 66 (0, 0)) := by
    intro g hg'
    rcases h2.2 with ⟨e, _⟩ | ⟨g', cap, cur, e, hb, hh, _⟩
    · rw [e] at hg'; cases hg'
    · rw [e] at hg'; cases hg'; exact ⟨hb, cur, hh⟩
  have ob2 : ∀ g, (Value.slice q2 (N + 1) c2).ownBlock = some g → ∃ cur, W.heap[g]? = some (.cells cur 66 (0, 0)) := by
    intro g hg'
    rcases hown.2 with ⟨e, _⟩ | ⟨g', cap, cur, e, hb, hh, _⟩
    · rw [e] at hg'; cases hg'
    · rw [e] at hg'; cases hg'; exact ⟨cur, hh⟩
  have hs := hg.size
  rw [World.size_alloc] at hs
  have same : ∀ g, g < w.heap.size → (Value.slice q N c).ownBlock ≠ some g → W.heap[g]? = w.heap[g]? := fun g hl hne =>
    (hg.block g (by rw [World.size_alloc]; omega) (fun e => hne e.symm)).trans (Below.heap_alloc _ _ _ hl)
  have hKW := (same K hKl (fun e => by obtain ⟨_, cur, hh⟩ := ob K e; rw [h1] at hh; cases hh)).trans h1
  refine ⟨hKW, (heap_setCell_same _ _ 0 _ _ _ hKW).trans rfl, own_keep0 hown (fun g hg' => heap_setCell_other _ _ _ _ (fun e => by subst e; obtain ⟨cur, hh⟩ := ob2 _ hg'; rw [hKW] at hh; cases hh)), ⟨by simp [World.setCell]; omega, fun g cs t fr hgc t1 t2 => ?_⟩, ?_⟩
  · have hgl := (Array.getElem?_eq_some_iff.1 hgc).1
    rw [heap_setCell_other _ _ _ _ (show g ≠ K from fun e => by subst e; rw [h1] at hgc; cases hgc; exact t1 rfl)]
    exact same g hgl (fun e => by obtain ⟨_, cur, hh⟩ := ob g e; rw [hgc] at hh; cases hh; exact t2 rfl)
  · exact ((((Below.refl base w).alloc hbs tmp).grown hg (by rw [World.size_alloc]; omega) (fun k e => (ob k e).1)).setCell (p := ⟨K, 0, none⟩) hK _)
set_option maxRecDepth 100000 in
set_option maxHeartbeats 1000000 in
theorem keep_any (K base : Nat) (ss : List Sh) (s : Sh) (w : World) (h : BookAt w K base ss) (hl : ss.length ≤ 1000000) (hK : base ≤ K) (hbs : base ≤ w.heap.size) :
    Calls Tryd.prog 34 #[.pointer (some ⟨K, 0, none⟩), s.v] w fun e w' => e = .returned (.tuple #[]) ∧ BookAt w' K base (ss ++ [s]) ∧ KpB w w' ∧ Below base w w' := by
  obtain ⟨q, c, h1, h2⟩ := h.row
  obtain ⟨N, hN⟩ : ∃ N, N = ss.length := ⟨_, rfl⟩
  rw [← hN] at h1 h2 hl
  have k0 : w.cell? ⟨K, 0, none⟩ = some (.slice q N c) := (cell_of_row _ _ 0 _ _ _ h1).trans rfl
  obtain ⟨G, hV⟩ : ∃ G, G = s.agg := ⟨_, rfl⟩
  show Calls _ _ #[_, .iface 81 s.agg] _ _
  rw [← hV]
  obtain ⟨i0, hi, hz0, hz1, hz2⟩ := info_parts infoSheet
  have k0 : w.cell? ⟨K, 0, none⟩ = some (.slice q N c) := (cell_of_row _ _ 0 _ _ _ h1).trans rfl
  have HV := hid hV
  have H1 := hid h1
  have H2 := hid h2
  have HN := hid hN
  clear h h1 h2 hN hV
  go_enter Tryd.func34, Tryd.ntmps34
  go_wp2_with (at_builtin; refine wpList_append_own _ rfl (.tmp 8) (.tmp 10) 32 rfl base 66 i0 .nilIface 1 16 Tryd.underlying32 hi hz0 hz1 hz2 rfl (by decide) (.slice q N c) N (ss.map Sh.v) rfl (H2.out.alloc _) ⟨w.heap.size, 0, none⟩ 1 1 [.iface 81 G] rfl rfl (cell_one_new _ _ _) (by simp [Value.oneCell']) (by unfold maxLen; omega) (by omega) (by simp; omega) ?_; intro v' w1 hown hg _; obtain ⟨q2, c2, rfl⟩ : ∃ q2 c2, v' = .slice q2 (N + 1) c2 := (by obtain ⟨g2, c2, e⟩ := ownsRow_succ hown; exact ⟨_, _, e⟩); have HD := hid (keep_done H1.out H2.out hown hg hK hbs); have k1 : w1.cell? ⟨K, 0, none⟩ = some (.slice q N c) := (cell_of_row _ _ 0 _ _ _ HD.out.1).trans rfl; have f1 : w1.frozen? ⟨K, 0, none⟩ = false := frozen_of_row _ _ _ _ _ HD.out.1; clear hown hg k0)
  refine bodyPost_end (results_none rfl _ _ _) rfl ?_
  refine ⟨rfl, ⟨_, _, by rw [List.length_append, ← HN.out]; exact HD.out.2.1, by rw [List.length_append, ← HN.out, List.map_append]; simpa [HV.out, Sh.v] using HD.out.2.2.1⟩, HD.out.2.2.2.1, HD.out.2.2.2.2⟩
end Go.Proofs.Herb
