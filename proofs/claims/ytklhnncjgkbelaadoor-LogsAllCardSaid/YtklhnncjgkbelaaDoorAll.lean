/- The contract of logs.All. For a disk as DiskAt says. -/
import Derived.Test.YtklhnncjgkbelaaDoorRecs
import Derived.Test.YtklhnncjgkbelaaDoorDskA
import Derived.RangeFuncNested
import Derived.Maps.AppendAt
import Derived.OwnWalkIn
import Derived.Deep.RegionHeld3
namespace Go.Proofs.Herb
open Go.RowKit
attribute [local go_sem] Oper.semAt_some
theorem clip_rows (a : Option Addr) (n c : Nat) (w : World) (hn : n ≤ c) (_hc : c ≤ maxLen) :
    Calls Tryd.prog 18 #[.slice a n c] w fun e w' => e = .returned (.slice a n n) ∧ w = w' := by
  unfold maxLen at _hc
  go_enter Tryd.func18, Tryd.ntmps18
  go_wp2
  go_ret
  exact ⟨rfl, rfl⟩
def allL (s : DS) (k : ByteArray) : List (List UInt8) := (recsOf (readL s k)).map (·.1)
def allW (s : DS) (k : ByteArray) : Bool := decide (knownE s k = 0) && decide (endOf (recsOf (readL s k)) = (readL s k).length)
theorem Fr.far {W W2 : World} {base : Nat} {e : TypeId} {k : Nat} {v : Value} {n : Nat} {xs : List Value} (h : Fr W base e k v n xs)
    (hf : ∀ (g : Nat) (cs : Array Value), W.heap[g]? = some (.cells cs e (0, 0)) → base ≤ g → W2.heap[g]? = W.heap[g]?) : Fr W2 base e k v n xs := by
  obtain ⟨h1, h2⟩ := h
  refine ⟨h1, ?_⟩
  rcases h2 with h2 | ⟨g, cap, cur, hv, hg, hh, r⟩
  · exact .inl h2
  · exact .inr ⟨g, cap, cur, hv, hg, (hf g cur hh hg).trans hh, r⟩
theorem all_end {w W : World} {R D b3 n c : Nat} {q : Option Addr} {xs : List Rc} {B : List UInt8} (hR : Boxed W R 26 (.slice q n c)) (hrow : W.ownsRow b3 22 1 (.slice q n c) n (xs.map Rc.v)) (hn : n = xs.length)
    (hfr : ∀ x ∈ xs, Fr W b3 5 1 x.v x.l.length (x.l.map bv)) (hBW : Below w.heap.size w W) (hRb : R < b3) (h0R : w.heap.size ≤ R) (hD : b3 ≤ D) (hK : W.heap[D]? = some (.deferred (some []))) (hS : xs.map Rc.dat = recsOf B) (hA : (xs.map Rc.v).Pairwise Ahead) :
    (W.setCell ⟨R, 0, none⟩ (.slice q n n)).drew.heap[D]? = some (.deferred (some [])) ∧ Boxed ((W.setCell ⟨R, 0, none⟩ (.slice q n n)).drew.putObj D (.deferred none)) R 26 (.slice q n n) ∧
      RowsA ((W.setCell ⟨R, 0, none⟩ (.slice q n n)).drew.putObj D (.deferred none)) w.heap.size (.slice q n n) ((recsOf B).map (·.1)) ∧ Below w.heap.size w ((W.setCell ⟨R, 0, none⟩ (.slice q n n)).drew.putObj D (.deferred none)) := by
  have hDs := (Array.getElem?_eq_some_iff.1 hK).1
  have hs := hBW.size
  have set_other : ∀ g, g < W.heap.size → g ≠ R → (W.setCell ⟨R, 0, none⟩ (.slice q n n)).heap[g]? = W.heap[g]? := fun g hg h1 => (grownBy_setCell' W R _).block g hg (fun e => h1 (by cases e; rfl))
  have hK1 : (W.setCell ⟨R, 0, none⟩ (.slice q n n)).drew.heap[D]? = some (.deferred (some [])) := (set_other D hDs (by omega)).trans hK
  have far : ∀ g, g < W.heap.size → g ≠ R → g ≠ D → ((W.setCell ⟨R, 0, none⟩ (.slice q n n)).drew.putObj D (.deferred none)).heap[g]? = W.heap[g]? := fun g hg h1 h2 =>
    (World.putObj_heap_other h2).trans (set_other g hg h1)
  have nD : ∀ {g : Nat} {cs : Array Value} {t : TypeId} {fr : Nat × Nat}, W.heap[g]? = some (.cells cs t fr) → g ≠ D := by
    intro g cs t fr hg e; subst e; rw [hK] at hg; cases hg
  have hls : (recsOf B).map (·.1) = xs.map Rc.l := by rw [← hS, List.map_map]; rfl
  refine ⟨hK1, (World.putObj_heap_other (by omega)).trans (hR.set _), ⟨xs.map Rc.v, by rw [hls]; simp, ?_, ?_, hA⟩, ?_⟩
  · rw [List.length_map, ← hn]
    exact (((Fr.of_own hrow).far fun g cs hg hb => far g (lt_of_block hg) (by omega) (nD hg)).clip).mono (by omega)
  · intro i x l hx hl
    rw [hls] at hl
    rw [List.getElem?_map] at hx hl
    cases hi : xs[i]? with
    | none => rw [hi] at hx; cases hx
    | some y =>
      rw [hi] at hx hl
      cases hx; cases hl
      exact ((hfr y (List.mem_of_getElem? hi)).far fun g cs hg hb => far g (lt_of_block hg) (by omega) (nD hg)).mono (by omega)
  · refine (hBW.trans (((Below.refl _ W).setCell (p := ⟨R, 0, none⟩) h0R (.slice q n n)).drew)).trans ?_
    exact (Below.refl w.heap.size _).grown (grownBy_putObj' _ D _) (by simp; omega) (fun k e => by cases e; omega)
set_option maxRecDepth 100000 in
set_option maxHeartbeats 2000000 in
theorem all_apart (m : DM) (s : DS) (k : ByteArray) (hk : k.size ≤ maxLen) (w : World) (h : DiskAt w m s) (hd : DirOk s.names s.nclock s.files.length) (hb : ∀ f ∈ s.files, f.b.length ≤ 4194304) :
    Calls Tryd.prog 6 #[.pointer (some ⟨m.D, 0, none⟩), .string k] w fun e w' => ∃ v, e = .returned (.tuple #[v, .bool (allW s k), .int .i64 (knownE s k)]) ∧ RowsA w' w.heap.size v (allL s k) ∧ Below w.heap.size w w' := by
  refine (callsIn_wide (n := 3)).1 (callsIn_of_wp_marks Tryd.func6 rfl trivial ?_ rfl)
  refine wpIn_wide.2 ?_
  simp only [Tryd.ntmps6, List.size_toArray, List.length_cons, List.length_nil, Nat.reduceAdd, Nat.reduceSub, Array.replicate_succ, Array.replicate_zero, List.push_toArray, List.append_toArray, List.nil_append, List.cons_append]
  obtain ⟨B, hB⟩ : ∃ B, B = readL s k := ⟨_, rfl⟩
  have hBl : B.length ≤ 4194304 := by
    rw [hB]; unfold readL; split
    · rename_i q
      obtain ⟨i, hi, hn, hil⟩ := known_ok q hd
      unfold fileL; rw [hi, Option.getD_some, List.getElem?_eq_getElem hil]
      exact hb _ (List.getElem_mem hil)
    · simp
  obtain ⟨N, hN⟩ : ∃ N, B.length = N := ⟨_, rfl⟩
  have hr := read_clip m s k hk (w.alloc (.cells #[.slice none 0 0] 26)) (h.below ((Below.refl _ _).alloc (Nat.le_refl _) _)) hd hb
  rw [← hB, hN] at hr
  rw [hN] at hBl
  have Hr := hid hr
  have HB := hid hB
  have HN := hid hN
  clear hr hB hN h hd hb
  by_cases q : knownE s k = 0
  · have Q := hid q
    clear q
    go_wp2_with (first
      | (go_at_call 10; refine Hr.out.mono ?_; rintro e w1 ⟨q0, rfl, hv, hb1⟩; rw [Q.out]; have Hv := hid hv; have Hb1 := hid hb1; have hs1 := hb1.size; rw [World.size_alloc] at hs1; clear hv hb1)
      | (go_at_call 17; refine (records_in _ _ _ _).mono ?_; rintro e w2 ⟨rfl, rfl⟩))
    obtain ⟨w3, hw3⟩ : ∃ w3, (w1.alloc (.cells #[.int .i64 0] 3)).alloc (.cells #[.slice q0 N N] 22) = w3 := ⟨_, rfl⟩
    have hsz : w3.heap.size = w1.heap.size + 2 := by rw [← hw3]; simp
    have hB13 : Below w1.heap.size w1 w3 := by rw [← hw3]; exact ((Below.refl _ _).alloc (Nat.le_refl _) _).alloc (by simp) _
    have hR1 : Boxed w1 w.heap.size 26 (.slice none 0 0) := (Hb1.out.block _ (by simp)).trans (Boxed.new w _ _)
    have hR3 : Boxed w3 w.heap.size 26 (.slice none 0 0) := (hB13.block _ hR1.lt).trans hR1
    have hE3 : Boxed w3 w1.heap.size 3 (.int .i64 0) := by rw [← hw3]; exact (Boxed.new w1 _ _).alloc _
    have hN3 : w3.heap[w1.heap.size + 1]? = some (.cells #[.slice q0 N N] 22 (0, 0)) := by
      rw [← hw3]
      have := World.alloc_heap_new (w1.alloc (.cells #[.int .i64 0] 3)) (.cells #[.slice q0 N N] 22)
      rwa [World.size_alloc] at this
    have hF3 := Hv.out.below hB13
    have hB3 : Below w.heap.size w w3 := (((Below.refl _ w).alloc (Nat.le_refl _) _).trans (Hb1.out.mono (by simp))).trans (hB13.mono (by omega))
    have h10 : w.heap.size < w1.heap.size := hR1.lt
    rw [hw3]
    have HF3 := hid hF3
    have HN3 := hid hN3
    have HR3 := hid hR3
    have HE3 := hid hE3
    have HB3 := hid hB3
    have Hsz := hid hsz
    clear hw3 hsz hB13 hR1 hR3 hE3 hN3 hF3 hB3
    refine wpIn_wide.1 (wpIn_range_good (n := 3) rfl (by omega) (gf := 29) (lb := #[.pointer (some ⟨w1.heap.size + 1, 0, none⟩)]) rfl trivial (enters_of Tryd.func29 (by kernel_rfl) rfl)
      (fun x : Rc => #[x.v, .int .i64 (x.next : Int)]) (fun _ => rfl) (GoodRc B w3.heap.size) (Bk (w1.heap.size + 1)) (fun xs => xs.map Rc.dat = recsOf B)
      (fun l J W hb hJ hY h0 => records1_in 2 l (w1.heap.size + 1) w3.heap.size (by omega) q0 N B HN.out (by omega) W ((hb.block _ (by have := Hsz.out; omega)).trans HN3.out) hb.size J hJ _ (HF3.out.below hb) hY h0)
      (fun _ _ _ => Bk.trans) (fun W l o o' hl ho hc => Bk.putObj _ W l o o' (by have := Hsz.out; omega) ho hc)
      (AllI w B w3.heap.size w.heap.size w1.heap.size) (AllI.stays w B w3.heap.size w.heap.size w1.heap.size) (AllI.turns w B w3.heap.size w.heap.size w1.heap.size w3.heap.size (by have := Hsz.out; omega)) (GoodRc.turns B w3.heap.size w3.heap.size)
      ⟨⟨_, HR3.out, World.ownsRow_nil _ _ _ _⟩, HE3.out, fun x hx => (by cases hx), ⟨_, rfl⟩, HB3.out, Nat.le_refl _, List.Pairwise.nil⟩
      (fun x => { tmps := #[.pointer (some ⟨m.D, 0, none⟩), .string k, undef, undef, .pointer (some ⟨w.heap.size, 0, none⟩), .bool false, .int .i64 0, .slice q0 N N, .pointer (some ⟨w1.heap.size, 0, none⟩), x.v, .int .i64 (x.next : Int),
          .tuple #[.slice q0 N N, .int .i64 0], .pointer (some ⟨m.D, 0, none⟩), .string k, .tuple #[.slice q0 N N, .int .i64 0], .slice q0 N N, .int .i64 0, .int .i64 0, .bool false, undef, .slice q0 N N,
          .func (.func 29) #[] #[.pointer (some ⟨w1.heap.size + 1, 0, none⟩)], x.v, .int .i64 (x.next : Int), undef, undef, undef, undef, undef, undef, undef, undef, undef, undef, undef], defers := [] }) ?assign ?body ?done)
    case assign =>
      intro l x W K hK
      gi_wp2
      exact hK
    case body =>
      rintro l pre ⟨xv, xl, xn⟩ W ⟨⟨v, hR, hrow⟩, hE, hfr, hpre, hBW, hb3, hap⟩ ⟨⟨rest, hnext⟩, hxf, hxa⟩
      have Hap := hid hap
      have Hxa := hid hxa
      clear hap hxa
      dsimp only at hxf ⊢
      obtain ⟨qx, cx, rfl, _, _, _, _⟩ := hxf.shape
      have hRc := hR.cell
      have hEc := hE.cell
      have hlt : (pre.map Rc.v).length + 1 ≤ 4194304 := by
        have h1 := recsOf_length B
        rw [hnext] at h1
        simp at h1
        have := HN.out
        simp; omega
      obtain ⟨i0, hi, hz0, hz1, hz2⟩ := info_parts infoRow
      have hsW := hBW.size
      have HRr := hid hR
      have HEe := hid hE
      have Hrow := hid hrow
      have Hfr := hid hfr
      have Hxf := hid hxf
      have Hn := hid hnext
      have HBW := hid hBW
      clear hR hE hrow hfr hxf hnext hBW hpre
      gi_wp2_with (gi_at_builtin; refine wpListIn_append_own _ rfl _ _ 26 rfl w3.heap.size 22 i0 (.slice none 0 0) 1 24 Tryd.underlying26 hi hz0 hz1 hz2 rfl (by decide) _ _ _ rfl (Hrow.out.alloc _) ⟨W.heap.size, 0, none⟩ 1 1 [.slice qx xl.length cx] rfl rfl (cell_one_new _ _ _) (by simp [Value.oneCell']) (by unfold maxLen; simp at hlt; omega) (by simp at hlt; omega) (by simp; omega) ?_; intro v' w1' hown' hgrow _; obtain ⟨g', cap', rfl⟩ := ownsRow_succ hown'; obtain ⟨p1, p2, p3, p4, p5, p6, p7, p8⟩ := body_step (Bn := w1.heap.size + 1) (b0 := w.heap.size) (nx := .int .i64 (xn : Int)) HRr.out HEe.out Hrow.out hown' hgrow (by have := Hsz.out; omega) (by have := Hsz.out; omega) (by have := Hsz.out; omega) (by omega) (by omega) (by omega) (by omega) (by omega) hb3; have hc1 := p1.cell; have hf1 := p1.frozen; have hc2 := p2.cell; have hf2 := p2.frozen; have P := hid (And.intro p3 (And.intro p4 (And.intro p5 (And.intro p6 (And.intro p7 p8))))); clear p1 p2 p3 p4 p5 p6 p7 p8 hgrow hown')
      refine ⟨P.out.2.2.2.1, P.out.2.2.2.2.1, ⟨_, P.out.1, by simpa using P.out.2.2.1⟩, by simpa [endOf_snoc, Rc.dat] using P.out.2.1, ?_, ⟨rest, by rw [Hn.out]; simp⟩, HBW.out.trans P.out.2.2.2.2.2, Nat.le_trans hb3 P.out.2.2.2.1.size, ?_⟩
      rotate_left
      · rw [List.map_append, List.pairwise_append]
        refine ⟨Hap.out, List.pairwise_singleton _ _, fun a ha b hb => ?_⟩
        obtain ⟨y, hy, rfl⟩ := List.mem_map.1 ha
        obtain ⟨z, hz, rfl⟩ := List.mem_map.1 hb
        obtain rfl := List.mem_singleton.1 hz
        exact Hxa.out y hy
      intro y hy
      rcases List.mem_append.1 hy with h | h
      · exact (Hfr.out y h).bk P.out.2.2.2.2.1
      · obtain rfl := List.mem_singleton.1 h
        exact Hxf.out.bk P.out.2.2.2.2.1
    case done =>
      rintro D xs W hD hS ⟨⟨v, hR, hrow⟩, hE, hfr, hpre, hBW, _, hap⟩ hK
      obtain ⟨q2, c2, rfl, hc2, hm2, _⟩ := own_shape hrow
      have cR := hR.cell
      have fR := hR.frozen
      have cE := hE.cell
      obtain ⟨en, hen⟩ : ∃ en, en = endOf (xs.map Rc.dat) := ⟨_, rfl⟩
      rw [← hen] at cE
      have n1 : ¬ w1.heap.size = w.heap.size := by omega
      have n2 : ¬ w.heap.size = w1.heap.size := by omega
      have cE2 : ∀ u, (W.setCell ⟨w.heap.size, 0, none⟩ u).cell? ⟨w1.heap.size, 0, none⟩ = some (.int .i64 (en : Int)) := fun u => by
        have h := (hE.other (B' := w.heap.size) n1 u).cell
        rw [← hen] at h; exact h
      have HAp := hid hap
      clear hap
      have Hen := hid hen
      have HS := hid hS
      have HR := hid hR
      have HE := hid hE
      have Hrow := hid hrow
      have Hfr := hid hfr
      have HBW := hid hBW
      have HK := hid hK
      clear hen hS hR hE hrow hfr hBW hpre hK
      have HF := hid (all_end (w := w) HR.out Hrow.out (by simp) Hfr.out HBW.out (by have := Hsz.out; omega) (Nat.le_refl _) hD HK.out HS.out HAp.out)
      have hW : allW s k = ((en : Int) == (N : Int)) := by
        unfold allW
        rw [Q.out, ← HB.out, HN.out, ← HS.out, ← Hen.out, Bool.eq_iff_iff]; simp; omega
      have HA := hid (show allL s k = (recsOf B).map (·.1) from by rw [HB.out]; rfl)
      have HW := hid hW
      clear hW
      go_wp2
      refine wp_region_noPanic ?_
      go_region_with (go_at_call 18; refine (clip_rows q2 _ c2 _ hc2 hm2).mono ?_; rintro e w4 ⟨rfl, rfl⟩; dsimp only)
      all_goals
        refine NoPanic.normal ?_
        go_wp2
        refine ⟨by simp, .inl ⟨_, _, rfl, run_takeDeferred HF.out.1, ?_⟩⟩
        refine ⟨.tuple #[.slice q2 xs.length xs.length, .bool ((en : Int) == (N : Int)), .int .i64 0], ?_, _, ?_, by rw [HA.out]; exact HF.out.2.2.1, HF.out.2.2.2⟩
        · have hc := HF.out.2.1.cell
          simp [results, Tryd.results6, go_sem, hc]
        · rw [HW.out, Q.out]
  · have b1 : (knownE s k != 0) = true := by simpa using q
    have HA := hid (show allL s k = [] from by unfold allL readL; rw [if_neg q]; rfl)
    have HW := hid (show allW s k = false from by unfold allW; simp [q])
    clear q
    go_wp2_with (go_at_call 10; refine Hr.out.mono ?_; rintro e w1 ⟨q0, rfl, hv, hb1⟩; have Hb1 := hid hb1; have hR1 : Boxed w1 w.heap.size 26 (.slice none 0 0) := (hb1.block _ (by simp)).trans (Boxed.new w _ _); have hc := hR1.cell; have hf := hR1.frozen; have HR1 := hid hR1; clear hv hb1 hR1)
    have hR2 := HR1.out.set (.slice none 0 0)
    have hc2 := hR2.cell
    refine ⟨.tuple #[.slice none 0 0, .bool false, .int .i64 (knownE s k)], by simp [results, Tryd.results6, go_sem, hc2], .slice none 0 0, ?_, ?_, ?_⟩
    · rw [HW.out]
    · rw [HA.out]
      exact ⟨[], rfl, Fr.of_own (World.ownsRow_nil _ _ _ _), fun i x l hx => (by cases hx), List.Pairwise.nil⟩
    · exact ((((Below.refl _ w).alloc (Nat.le_refl _) _).trans (Hb1.out.mono (by simp)))).setCell (p := ⟨w.heap.size, 0, none⟩) (Nat.le_refl _) _
theorem all_any (m : DM) (s : DS) (k : ByteArray) (hk : k.size ≤ maxLen) (w : World) (h : DiskAt w m s) (hd : DirOk s.names s.nclock s.files.length) (hb : ∀ f ∈ s.files, f.b.length ≤ 4194304) :
    Calls Tryd.prog 6 #[.pointer (some ⟨m.D, 0, none⟩), .string k] w fun e w' => ∃ v, e = .returned (.tuple #[v, .bool (allW s k), .int .i64 (knownE s k)]) ∧ Rows w' w.heap.size v (allL s k) ∧ Below w.heap.size w w' :=
  (all_apart m s k hk w h hd hb).mono fun _ _ ⟨v, h1, h2, h3⟩ => ⟨v, h1, h2.rows, h3⟩
theorem all_nil (k : ByteArray) (w : World) : Calls Tryd.prog 6 #[.pointer none, .string k] w fun e w' => e = .returned (.tuple #[.slice none 0 0, .bool false, .int .i64 2]) ∧ Below w.heap.size w w' := by
  refine (callsIn_wide (n := 3)).1 (callsIn_of_wp_marks Tryd.func6 rfl trivial ?_ rfl)
  refine wpIn_wide.2 ?_
  simp only [Tryd.ntmps6, List.size_toArray, List.length_cons, List.length_nil, Nat.reduceAdd, Nat.reduceSub, Array.replicate_succ, Array.replicate_zero, List.push_toArray, List.append_toArray, List.nil_append, List.cons_append]
  go_wp2_with (go_at_call 10; refine (read_nil k _).mono ?_; rintro e w1 ⟨rfl, rfl⟩)
  refine ⟨.tuple #[.slice none 0 0, .bool false, .int .i64 2], by simp [results, Tryd.results6, go_sem], rfl, (Below.refl _ w).alloc (Nat.le_refl _) _⟩
theorem Rows.below {w w' : World} {base : Nat} {v : Value} {ls : List (List UInt8)} (h : Rows w base v ls) (hb : Below w.heap.size w w') : Rows w' base v ls := by
  obtain ⟨vs, h1, h2, h3⟩ := h
  exact ⟨vs, h1, h2.below hb, fun i x l hx hl => (h3 i x l hx hl).below hb⟩
theorem Rows.shape {w : World} {base : Nat} {v : Value} {ls : List (List UInt8)} (h : Rows w base v ls) : ∃ q c, v = .slice q ls.length c ∧ ls.length ≤ c ∧ c ≤ maxLen ∧ (q = none → c = 0) ∧
    ∀ (i : Nat) (l : List UInt8), ls[i]? = some l → ∃ b off q' c', q = some ⟨b, off, none⟩ ∧ w.cell? ⟨b, off + i, none⟩ = some (.slice q' l.length c') ∧ l.length ≤ c' ∧ c' ≤ maxLen ∧ Rd w q' (l.map bv) ∧ (q' = none → c' = 0) ∧ (∀ b off, q' = some ⟨b, off, none⟩ → base ≤ b) := by
  obtain ⟨vs, h1, h2, h3⟩ := h
  obtain ⟨q, c, rfl, hc, hm, hr, hz⟩ := h2.shape
  refine ⟨q, c, by rw [h1], by omega, hm, fun e => (hz e).2, fun i l hl => ?_⟩
  have hi : i < vs.length := by rw [h1]; exact (List.getElem?_eq_some_iff.1 hl).1
  obtain ⟨b, off, hq, hce⟩ := hr.cell hi
  have hf := h3 i _ l (List.getElem?_eq_getElem hi) hl
  obtain ⟨q', c', hv, hc', hm', hr', hz'⟩ := hf.shape
  refine ⟨b, off, q', c', hq, by rw [hce, hv], hc', hm', hr', fun e => (hz' e).2, ?_⟩
  rw [hv] at hf
  rcases hf.2 with ⟨h, _⟩ | ⟨g, cap, cur, hv', hb, _⟩
  · rw [Value.slice.injEq] at h; rw [h.1]; intro b off e; cases e
  · rw [Value.slice.injEq] at hv'; rw [hv'.1]; intro b off e; cases e; exact hb
end Go.Proofs.Herb
