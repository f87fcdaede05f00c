/- ReadersVoid's walk. -/
import Derived.Test.YtnmbkaohjbcpmaaLwv
namespace Go
variable {P : Program} {Q : Exit → Act → World → Prop}
/-- so many rounds of a loop, one behind the other -/
def LoopN (P : Program) (c : Code) (Q : Exit → Act → World → Prop) : Nat → Act → World → Prop
  | 0, _, _ => False
  | n + 1, a, w => c.wp P (Exit.then (LoopN P c Q n) Q) a w
theorem wp_loopN {c : Code} {a : Act} {w : World} (n : Nat) (h : LoopN P c Q n a w) : (Code.loop c).wp P Q a w := by
  intro b k cs
  have key : ∀ n a w, LoopN P c Q n a w → ∃ e a' w', Q e a' w' ∧ Arrives P (lone (b.at a (.code c :: .inLoop c :: k)) cs w) b k cs e a' w' := by
    intro n
    induction n with
    | zero => intro a w h; exact h.elim
    | succ n ih =>
      intro a w h
      obtain ⟨e, a₁, w₁, hq, harr⟩ := h b (.inLoop c :: k) cs
      cases e with
      | normal =>
        obtain ⟨e₂, a₂, w₂, hq₂, harr₂⟩ := ih a₁ w₁ hq
        exact ⟨e₂, a₂, w₂, hq₂, .of_steps (Steps.trans harr (.one step_inLoop)) harr₂⟩
      | exit id => exact ⟨_, a₁, w₁, hq, .pass (x := .inLoop c) rfl (fun _ _ => .inl (by simp)) harr⟩
      | goto l => exact ⟨_, a₁, w₁, hq, .pass (x := .inLoop c) rfl (fun _ _ => .inl (by simp)) harr⟩
      | ret => exact ⟨_, a₁, w₁, hq, .pass (x := .inLoop c) rfl (fun _ _ => .inl (by simp)) harr⟩
      | panic ch => exact ⟨_, a₁, w₁, hq, .pass (x := .inLoop c) rfl (fun _ _ => .inl (by simp)) harr⟩
      | outgrown => exact ⟨_, a₁, w₁, hq, .pass (x := .inLoop c) rfl (fun _ _ => .inl (by simp)) harr⟩
  obtain ⟨e, a', w', hq, harr⟩ := key n a w h
  exact ⟨e, a', w', hq, .of_steps (.one step_loop) harr⟩
end Go
namespace Go.Proofs.Herb
open Go.RowKit
attribute [local go_sem] Oper.semAt_some
set_option maxRecDepth 100000 in
set_option maxHeartbeats 1000000 in
/-- the iterator of no reader -/
theorem fromn_in (nn b1 b2 b3 : Nat) (hnn : 1 ≤ nn) (q : Option Addr) :
    SeqGood Fence.wide nn Try.prog 22 #[.pointer (some ⟨b1, 0, none⟩), .pointer (some ⟨b2, 0, none⟩), .pointer (some ⟨b3, 0, none⟩)] (fun x : Fact × Int => #[.agg x.1.cells.toArray, .int .i64 x.2]) (Only (fun _ => False))
      (fun _ _ _ => False) (fun _ _ => True) (fun xs => xs = []) 0 (fun W => Boxed W b1 31 (.pointer q) ∧ NoRdr W q) := by
  intro lp J Jx W hb hOk hJ hJx hY h0
  have H0 := hid h0
  have HN := hid hOk.2
  have c1 := hOk.1.cell
  clear hb hOk hJ hJx hY h0
  refine callsIn_of_wp Try.func22 rfl trivial ?_ rfl
  simp only [Try.ntmps22, List.size_toArray, List.length_cons, List.length_nil, Nat.reduceAdd, Nat.reduceSub, Array.replicate_succ, Array.replicate_zero, List.push_toArray, List.append_toArray, List.nil_append, List.cons_append]
  gi_wp2
  refine ⟨trivial, (callsIn_wide.2 (there_no HN.out)).mono ?_⟩
  rintro e w' ⟨rfl, rfl⟩
  gi_wp2
  refine bodyPost_ret (results_none rfl _ _ _) rfl ?_
  exact ⟨⟨_, rfl⟩, .inl ⟨[], rfl, H0.out⟩⟩
/-- where ReadersVoid stands -/
structure VoI (w : World) (ds : List Deferred) (RB LB NB : Nat) (W : World) : Prop where
  mrk : Marks w.heap.size ds W
  rb : Boxed W RB 4 (.bool false)
  lb : W.heap[LB]? = some (.cells #[.pointer none, .pointer (some ⟨NB, 0, none⟩)] 31 (0, 0))
  nb : W.heap[NB]? = some (.cells (rdRow (.slice none 0 0) (.slice none 0 0) noProps (.slice none 0 0)) 30 (0, 0))
  below : Below w.heap.size w W
theorem VoI.stays {w : World} {ds : List Deferred} {RB LB NB : Nat} {A C : World} (h : VoI w ds RB LB NB A) (hb : Below A.heap.size A C) : VoI w ds RB LB NB C :=
  ⟨h.mrk.keeps (keepsFrom_below hb), (hb.block _ h.rb.lt).trans h.rb, (hb.block _ (lt_of_block h.lb)).trans h.lb, (hb.block _ (lt_of_block h.nb)).trans h.nb, h.below.trans (hb.mono h.below.size)⟩
theorem VoI.turns {w : World} {ds : List Deferred} {RB LB NB : Nat} {W : World} {l : Nat} {o : Obj} (o' : Obj) (h : VoI w ds RB LB NB W) (hw : w.heap.size ≤ l) (hd : ∀ d ∈ ds, d.target ≠ .collected l) (ho : W.heap[l]? = some o) (hc : o.isCells = false) : VoI w ds RB LB NB (W.putObj l o') :=
  ⟨h.mrk.putObj _ hd, boxed_putObj h.rb o' ho hc, (World.putObj_heap_other (fun e => by have h3 := h.lb; subst e; rw [ho] at h3; cases h3; cases hc)).trans h.lb, (World.putObj_heap_other (fun e => by have h3 := h.nb; subst e; rw [ho] at h3; cases h3; cases hc)).trans h.nb, below_putObj h.below hw o' ho⟩
theorem vr_results {tmps : Array Value} {w : World} {B : Nat} {v : Value} (h4 : tmps.getD 4 undef = .pointer (some ⟨B, 0, none⟩)) (g1 : Boxed w B 4 v) :
    (results Try.f3 tmps).run Try.prog w = .ok v w := by
  have hr : (Try.f3).results = #[.cell 4 4] := rfl
  have a1 := g1.cell
  simp [results] at h4 ⊢
  simp [h4, go_sem, a1]
theorem pn_any {q : Option Addr} {w : World} (h : NoRdr w q) : Calls Try.prog 10 #[.pointer q] w fun e w' => e = .returned (.agg #[.int .u64 0, .int .u64 0, .string ⟨#[]⟩, .string ⟨#[]⟩, .int .u64 0, .int .u64 0, .int .u32 0, .int .u32 0]) ∧ Below w.heap.size w w' := props_no h
set_option maxRecDepth 100000 in
set_option maxHeartbeats 4000000 in
theorem void_any (key : ByteArray) (valid : Nat) (w : World) :
    Calls Try.prog 3 #[.string key, .int .u32 (valid : Int)] w fun e w' => e = .returned (.bool true) ∧ Below w.heap.size w w' := by
  refine (callsIn_wide (n := 3)).1 (callsIn_of_wp_marks Try.func3 rfl trivial ?_ rfl)
  refine wpIn_wide.2 ?_
  simp only [Try.ntmps3, List.size_toArray, List.length_cons, List.length_nil, Nat.reduceAdd, Nat.reduceSub, Array.replicate_succ, Array.replicate_zero, List.push_toArray, List.append_toArray, List.nil_append, List.cons_append]
  by_cases hk : key.size ≤ 1000
  · have hkb : decide ((1000 : Int) < (key.size : Int)) = false := by simp; omega
    have hneP : ∀ W : World, (binOp .neq 27 (.agg #[.int .u64 0, .int .u64 0, .string ⟨#[]⟩, .string ⟨#[]⟩, .int .u64 0, .int .u64 0, .int .u32 0, .int .u32 0]) (.agg #[.int .u64 0, .int .u64 0, .string ⟨#[]⟩, .string ⟨#[]⟩, .int .u64 0, .int .u64 0, .int .u32 0, .int .u32 0])).run Try.prog W = .ok (.bool false) W := fun W => neqProps W _ _ rfl ⟨noProps, rfl⟩
    have hnf : ∀ (c : Array Value) (w : World), (binOp .eql 40 (.func (.func 22) #[] c) .nilFunc).run Try.prog w = .ok (.bool false) w := fun c w => by kernel_rfl
    go_wp2_with fail
    obtain ⟨RB, hRB⟩ : ∃ n, n = w.heap.size := ⟨_, rfl⟩
    obtain ⟨NB, hNB⟩ : ∃ n, n = w.heap.size + 1 := ⟨_, rfl⟩
    obtain ⟨LB, hLB⟩ : ∃ n, n = w.heap.size + 1 + 1 := ⟨_, rfl⟩
    obtain ⟨w1, hw1⟩ : ∃ W, W = ((w.alloc (.cells #[.bool false] 4)).alloc (.cells #[.slice none 0 0, .slice none 0 0, .int .u64 0, .int .u64 0, .string ⟨#[]⟩, .string ⟨#[]⟩, .int .u64 0, .int .u64 0, .int .u32 0, .int .u32 0, .slice none 0 0] 30)).alloc (.cells #[.pointer none, .pointer (some ⟨NB, 0, none⟩)] 31) := ⟨_, rfl⟩
    have hV1 : VoI w [] RB LB NB w1 := by
      rw [hw1]
      refine ⟨trivial, ?_, ?_, ?_, (((Below.refl _ _).alloc (Nat.le_refl _) _).alloc (by simp) _).alloc (by simp; omega) _⟩
      · rw [hRB]; exact ((Boxed.new w 4 _).alloc _).alloc _
      · rw [hLB, show w.heap.size + 1 + 1 = ((w.alloc (.cells #[.bool false] 4)).alloc (.cells #[.slice none 0 0, .slice none 0 0, .int .u64 0, .int .u64 0, .string ⟨#[]⟩, .string ⟨#[]⟩, .int .u64 0, .int .u64 0, .int .u32 0, .int .u32 0, .slice none 0 0] 30)).heap.size by simp]
        exact heap_alloc_new _ _
      · rw [hNB, show w.heap.size + 1 = (w.alloc (.cells #[.bool false] 4)).heap.size by simp]
        exact (Below.heap_alloc _ _ _ (by simp)).trans (heap_alloc_new _ _)
    rw [hNB] at hw1
    have HV1 := hid hV1
    rw [← hLB, ← hw1, ← hNB, ← hRB]
    have hRw : w.heap.size ≤ RB := by omega
    clear hV1 hw1 hLB hNB hRB
    refine wp_loopN 3 ?_
    show Code.wp _ _ _ _ _
    -- rounds
    -- round 0
    have cl0 : w1.cell? ⟨LB, 0, none⟩ = some (.pointer none) := by rw [cell_of_row _ _ _ _ _ _ HV1.out.lb]; rfl
    have HNo0 := hid (show ∀ W', Below w1.heap.size w1 W' → NoRdr W' none from fun W' hb => .inl rfl)
    go_upto_region 11 with (first | (go_at_call 8; refine (all_no (HNo0.out _ (Below.refl _ _))).mono ?_; rintro e w' ⟨rfl, rfl⟩) | (go_at_call 9; refine (has_no key (HNo0.out _ (Below.refl _ _))).mono ?_; rintro e w' ⟨rfl, rfl⟩) | (go_at_call 10; refine (pn_any (HNo0.out _ (Below.refl _ _))).mono ?_; rintro e v0 ⟨rfl, hb0⟩))
    have HV0 := hid (HV1.out.stays hb0)
    have HBv0 := hid hb0
    have clv0 : v0.cell? ⟨LB, 0, none⟩ = some (.pointer none) := by rw [cell_of_row _ _ _ _ _ _ HV0.out.lb]; rfl
    clear cl0 hb0
    go_wp2_with fail
    refine (fromR_any none key valid v0).mono ?_
    rintro e u0 ⟨rfl, hu0⟩
    have hbu0 : Below v0.heap.size v0 u0 := by rw [hu0]; exact (((Below.refl _ _).alloc (Nat.le_refl _) _).alloc (by simp) _).alloc (by simp; omega) _
    have hz0 : Boxed u0 v0.heap.size 31 (.pointer none) := by
      rw [hu0]
      exact ((Boxed.new v0 _ _).alloc _).alloc _
    obtain ⟨X0, hX0⟩ : ∃ x, x = v0.heap.size := ⟨_, rfl⟩
    rw [← hX0] at hz0 ⊢
    have HU0 := hid (HV0.out.stays hbu0)
    have HZ0 := hid hz0
    have HNu0 := hid (show ∀ W', Below u0.heap.size u0 W' → NoRdr W' none from fun W' hb => HNo0.out _ (HBv0.out.trans ((hbu0.trans (hb.mono hbu0.size)).mono HBv0.out.size)))
    have hsu0 := HU0.out.below.size
    have hdl0 : ∀ d ∈ ([] : List Deferred), ∀ l, d.target = .collected l → l < u0.heap.size := fun d hd l hl => HU0.out.mrk.lt d hd l hl
    have HDl0 := hid hdl0
    clear hu0 hbu0 hz0 hX0 clv0 hdl0
    go_wp2_with fail
    refine wpIn_wide.1 (wpIn_range_stop (n := 3) rfl (by omega) (gf := 22) (lb := #[.pointer (some ⟨X0, 0, none⟩), .pointer (some ⟨X0 + 1, 0, none⟩), .pointer (some ⟨X0 + 2, 0, none⟩)]) rfl trivial (enters_of Try.func22 (by kernel_rfl) rfl)
      (fun _ => rfl) (fromn_in 2 X0 (X0 + 1) (X0 + 2) (by omega) none) (Nat.zero_le _) (fun W' hb => ⟨(hb.block _ HZ0.out.lt).trans HZ0.out, HNu0.out _ hb⟩) (fun _ _ _ _ _ => trivial) (fun _ _ _ _ _ _ _ => trivial) (fun A B h => h.keeps _)
      (fun _ W' => VoI w [] RB LB NB W') (fun _ _ _ => False) (fun _ A C h hb => h.stays hb) (fun _ A C h hr => h.stays hr.nothing) (fun _ _ _ _ h _ => h) (fun _ W' l o o' h hl ho hc => h.turns o' (by omega) (fun d hd e => by have := HDl0.out d hd l e; omega) ho hc) (fun _ _ _ _ _ _ h _ _ _ => h) (fun _ _ _ _ _ _ h _ _ _ => h)
      HU0.out _ (fun l x W' K hK => wpIn_skip hK) (fun _ _ _ _ _ _ h => h.elim) ?done0 (fun _ _ _ _ _ h _ => h.elim))
    intro D0 xs0 W0 hD0 hxs0 hW0 hDm0
    have HW0 := hid (show VoI w ({ target := .collected D0, args := #[] } :: []) RB LB NB W0 from ⟨⟨⟨D0, rfl, by omega, hDm0, fun d hd e => by have := HDl0.out d hd D0 e; omega⟩, hW0.mrk⟩, hW0.rb, hW0.lb, hW0.nb, hW0.below⟩)
    clear hxs0 hW0 hDm0
    dsimp only
    go_wp2_with fail
    show Code.wp _ _ _ _ _
    -- round 1
    have cl1 : W0.cell? ⟨LB, 1, none⟩ = some (.pointer (some ⟨NB, 0, none⟩)) := by rw [cell_of_row _ _ _ _ _ _ HW0.out.lb]; rfl
    have HNo1 := hid (show ∀ W', Below W0.heap.size W0 W' → NoRdr W' (some ⟨NB, 0, none⟩) from fun W' hb => .inr ⟨NB, _, _, _, _, _, rfl, (hb.block _ (lt_of_block HW0.out.nb)).trans HW0.out.nb⟩)
    go_upto_region 11 with (first | (go_at_call 8; refine (all_no (HNo1.out _ (Below.refl _ _))).mono ?_; rintro e w' ⟨rfl, rfl⟩) | (go_at_call 9; refine (has_no key (HNo1.out _ (Below.refl _ _))).mono ?_; rintro e w' ⟨rfl, rfl⟩) | (go_at_call 10; refine (pn_any (HNo1.out _ (Below.refl _ _))).mono ?_; rintro e v1 ⟨rfl, hb1⟩))
    have HV1 := hid (HW0.out.stays hb1)
    have HBv1 := hid hb1
    have clv1 : v1.cell? ⟨LB, 1, none⟩ = some (.pointer (some ⟨NB, 0, none⟩)) := by rw [cell_of_row _ _ _ _ _ _ HV1.out.lb]; rfl
    clear cl1 hb1
    go_wp2_with fail
    refine (fromR_any (some ⟨NB, 0, none⟩) key valid v1).mono ?_
    rintro e u1 ⟨rfl, hu1⟩
    have hbu1 : Below v1.heap.size v1 u1 := by rw [hu1]; exact (((Below.refl _ _).alloc (Nat.le_refl _) _).alloc (by simp) _).alloc (by simp; omega) _
    have hz1 : Boxed u1 v1.heap.size 31 (.pointer (some ⟨NB, 0, none⟩)) := by
      rw [hu1]
      exact ((Boxed.new v1 _ _).alloc _).alloc _
    obtain ⟨X1, hX1⟩ : ∃ x, x = v1.heap.size := ⟨_, rfl⟩
    rw [← hX1] at hz1 ⊢
    have HU1 := hid (HV1.out.stays hbu1)
    have HZ1 := hid hz1
    have HNu1 := hid (show ∀ W', Below u1.heap.size u1 W' → NoRdr W' (some ⟨NB, 0, none⟩) from fun W' hb => HNo1.out _ (HBv1.out.trans ((hbu1.trans (hb.mono hbu1.size)).mono HBv1.out.size)))
    have hsu1 := HU1.out.below.size
    have hdl1 : ∀ d ∈ ([{ target := .collected D0, args := #[] }] : List Deferred), ∀ l, d.target = .collected l → l < u1.heap.size := fun d hd l hl => HU1.out.mrk.lt d hd l hl
    have HDl1 := hid hdl1
    clear hu1 hbu1 hz1 hX1 clv1 hdl1
    go_wp2_with fail
    refine wpIn_wide.1 (wpIn_range_stop (n := 3) rfl (by omega) (gf := 22) (lb := #[.pointer (some ⟨X1, 0, none⟩), .pointer (some ⟨X1 + 1, 0, none⟩), .pointer (some ⟨X1 + 2, 0, none⟩)]) rfl trivial (enters_of Try.func22 (by kernel_rfl) rfl)
      (fun _ => rfl) (fromn_in 2 X1 (X1 + 1) (X1 + 2) (by omega) (some ⟨NB, 0, none⟩)) (Nat.zero_le _) (fun W' hb => ⟨(hb.block _ HZ1.out.lt).trans HZ1.out, HNu1.out _ hb⟩) (fun _ _ _ _ _ => trivial) (fun _ _ _ _ _ _ _ => trivial) (fun A B h => h.keeps _)
      (fun _ W' => VoI w [{ target := .collected D0, args := #[] }] RB LB NB W') (fun _ _ _ => False) (fun _ A C h hb => h.stays hb) (fun _ A C h hr => h.stays hr.nothing) (fun _ _ _ _ h _ => h) (fun _ W' l o o' h hl ho hc => h.turns o' (by omega) (fun d hd e => by have := HDl1.out d hd l e; omega) ho hc) (fun _ _ _ _ _ _ h _ _ _ => h) (fun _ _ _ _ _ _ h _ _ _ => h)
      HU1.out _ (fun l x W' K hK => wpIn_skip hK) (fun _ _ _ _ _ _ h => h.elim) ?done1 (fun _ _ _ _ _ h _ => h.elim))
    intro D1 xs1 W1 hD1 hxs1 hW1 hDm1
    have HW1 := hid (show VoI w ({ target := .collected D1, args := #[] } :: [{ target := .collected D0, args := #[] }]) RB LB NB W1 from ⟨⟨⟨D1, rfl, by omega, hDm1, fun d hd e => by have := HDl1.out d hd D1 e; omega⟩, hW1.mrk⟩, hW1.rb, hW1.lb, hW1.nb, hW1.below⟩)
    clear hxs1 hW1 hDm1
    dsimp only
    go_wp2_with fail
    -- end of rounds
    show Code.wp _ _ _ _ _
    go_wp2_with fail
    refine (lives_any _).mono ?_
    rintro e w9 ⟨rfl, hb9⟩
    have HV9 := hid (HW1.out.stays hb9)
    have c9 := HV9.out.rb.cell
    have f9 := HV9.out.rb.frozen
    clear hb9
    go_wp2
    have hx := HV9.out.rb.set (.bool true)
    refine leaves_marks (base := w.heap.size) _ _ (HV9.out.mrk.keeps (Only.keeps (Only.set (R := fun g => g = RB) HV9.out.rb rfl (.bool true)) _)) (fun w' hs => ?_)
    have hx' : Boxed w' RB 4 (.bool true) := hs.cells _ _ _ _ hx
    exact ⟨_, vr_results rfl hx', rfl, (HV9.out.below.setCell (p := ⟨RB, 0, none⟩) hRw _).trans (hs.below _ (Nat.le_refl _))⟩
  · have hkb : decide ((1000 : Int) < (key.size : Int)) = true := by simp; omega
    go_wp2_with fail
    have hb1 : Below w.heap.size w (w.alloc (.cells #[.bool false] 4)) := (Below.refl _ _).alloc (Nat.le_refl _) _
    have hx1 : Boxed (w.alloc (.cells #[.bool false] 4)) w.heap.size 4 (.bool false) := Boxed.new w 4 _
    obtain ⟨RB, hRB⟩ : ∃ n, n = w.heap.size := ⟨_, rfl⟩
    rw [← hRB] at hx1 ⊢
    refine (lives_any _).mono ?_
    rintro e w2 ⟨rfl, hb2⟩
    have hx2 : Boxed w2 RB 4 (.bool false) := (hb2.block _ hx1.lt).trans hx1
    have HB2 := hid (hb1.trans (hb2.mono hb1.size))
    have HX2 := hid hx2
    have c2 := hx2.cell
    have f2 := hx2.frozen
    have hRw : w.heap.size ≤ RB := by omega
    clear hb2 hx2 hb1 hx1 hRB
    go_wp2
    have hx := HX2.out.set (.bool true)
    refine leaves_marks (base := w.heap.size) _ _ trivial (fun w' hs => ?_)
    have hx' : Boxed w' RB 4 (.bool true) := hs.cells _ _ _ _ hx
    exact ⟨_, vr_results rfl hx', rfl, (HB2.out.setCell (p := ⟨RB, 0, none⟩) hRw _).trans (hs.below _ (Nat.le_refl _))⟩
end Go.Proofs.Herb
