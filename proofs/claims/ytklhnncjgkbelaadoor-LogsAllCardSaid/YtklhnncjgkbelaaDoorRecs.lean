/- The contract of the iterator of logs.records, and lemmas on the slice that All collects. -/
import Derived.Shelf.Abstract
import Derived.Shelf.RegionOpen
import Derived.OwnWalkIn
import Derived.TacticsInMore
import Derived.LoopNIn
import Derived.LoopIn
import Derived.Maps.AppendAt
import Derived.Test.YtklhnncjgkbelaaDoorRecP
import Derived.Test.YtklhnncjgkbelaaDoorRng
import Derived.Test.YtklhnncjgkbelaaDoorGet
namespace Go.Proofs.Herb
open Go.RowKit
attribute [local go_sem] Oper.semAt_some
/-- what a round keeps: all blocks of bytes, and one block more -/
def Bk (g0 : Nat) (W W' : World) : Prop := W.heap.size ≤ W'.heap.size ∧ (∀ (g : Nat) (cs : Array Value) (fr : Nat × Nat), W.heap[g]? = some (.cells cs 5 fr) → W'.heap[g]? = W.heap[g]?) ∧ (∀ o : Obj, W.heap[g0]? = some o → W'.heap[g0]? = some o)
theorem Bk.refl (g0 : Nat) (W : World) : Bk g0 W W := ⟨Nat.le_refl _, fun _ _ _ _ => rfl, fun _ h => h⟩
theorem Bk.trans {g0 : Nat} {A B C : World} (h : Bk g0 A B) (k : Bk g0 B C) : Bk g0 A C :=
  ⟨Nat.le_trans h.1 k.1, fun g cs fr hg => (k.2.1 g cs fr ((h.2.1 g cs fr hg).trans hg)).trans (h.2.1 g cs fr hg), fun o ho => k.2.2 o (h.2.2 o ho)⟩
theorem Bk.of_below {g0 : Nat} {A B : World} (h : Below A.heap.size A B) : Bk g0 A B :=
  ⟨h.size, fun g _ _ hg => h.block g (lt_of_block hg), fun _ ho => (h.block g0 (Array.getElem?_eq_some_iff.1 ho).1).trans ho⟩
theorem Fr.bk {w w' : World} {base g0 : Nat} {v : Value} {n : Nat} {xs : List Value} (h : Fr w base 5 1 v n xs) (hb : Bk g0 w w') : Fr w' base 5 1 v n xs := by
  obtain ⟨h1, h2⟩ := h
  refine ⟨h1, ?_⟩
  rcases h2 with h2 | ⟨g, cap, cur, hv, hg, hh, r⟩
  · exact .inl h2
  · exact .inr ⟨g, cap, cur, hv, hg, (hb.2.1 g _ _ hh).trans hh, r⟩
/-- one slice's own block lies ahead of another one's -/
def Ahead (u v : Value) : Prop := ∀ g h, u.ownBlock = some g → v.ownBlock = some h → g < h
theorem fr_lt {W : World} {base : Nat} {e : TypeId} {k : Nat} {v : Value} {n : Nat} {xs : List Value} (h : Fr W base e k v n xs) : ∀ g, v.ownBlock = some g → base ≤ g ∧ g < W.heap.size := by
  intro g hg
  rcases h.2 with ⟨h2, _⟩ | ⟨g', cap, cur, hv, hb, hh, _⟩
  · rw [h2] at hg; cases hg
  · rw [hv] at hg; cases hg
    exact ⟨hb, (Array.getElem?_eq_some_iff.1 hh).1⟩
/-- a record that a round is handed: the next one, and it stands in memory -/
def GoodRc (B : List UInt8) (base : Nat) (pre : List Rc) (x : Rc) (W : World) : Prop := (∃ rest, recsOf B = pre.map Rc.dat ++ x.dat :: rest) ∧ Fr W base 5 1 x.v x.l.length (x.l.map bv) ∧ ∀ y ∈ pre, Ahead y.v x.v
set_option maxRecDepth 100000 in
set_option maxHeartbeats 1000000 in
theorem records_in (a : Option Addr) (n c : Nat) (w : World) :
    Calls Tryd.prog 17 #[.slice a n c] w fun e w' => e = .returned (.func (.func 29) #[] #[.pointer (some ⟨w.heap.size, 0, none⟩)]) ∧ w' = w.alloc (.cells #[.slice a n c] 22) := by
  go_enter Tryd.func17, Tryd.ntmps17
  go_wp2
  go_ret
  exact ⟨rfl, rfl⟩
set_option maxRecDepth 100000 in
set_option maxHeartbeats 2000000 in
theorem records1_in (n l Bn base : Nat) (hn : 1 ≤ n) (q : Option Addr) (N : Nat) (B : List UInt8) (hB : B.length = N) (hN : N ≤ 1000000000) (W : World) (hbox : W.heap[Bn]? = some (.cells #[.slice q N N] 22 (0, 0)))
    (hb0 : base ≤ W.heap.size) (J : List Rc → World → Prop) (hJ : ∀ s, Stays (J s)) (b0 : Nat) (hF : Fr W b0 5 1 (.slice q N N) N (B.map bv))
    (hY : ∀ pre x W1, J pre W1 → GoodRc B base pre x W1 → YieldAt Fence.wide (n - 1) Tryd.prog l #[x.v, .int .i64 (x.next : Int)] W1 fun e W' => e = .returned (.bool true) ∧ J (pre ++ [x]) W' ∧ Bk Bn W1 W')
    (h0 : J [] W) :
    CallsIn Fence.wide n Tryd.prog 29 #[.func (.yield l) #[] #[], .pointer (some ⟨Bn, 0, none⟩)] W fun e W' => (∃ v, e = .returned v) ∧ ∃ xs, xs.map Rc.dat = recsOf B ∧ J xs W' := by
  have HB := hid hB
  have HF := hid hF
  have HY := hid hY
  have HJ := hid hJ
  have Hbox := hid hbox
  clear hB hF hY hJ hbox
  refine callsIn_of_wp Tryd.func29 rfl trivial ?_ rfl
  simp only [Tryd.ntmps29, List.size_toArray, List.length_cons, List.length_nil, Nat.reduceAdd, Nat.reduceSub, Array.replicate_succ, Array.replicate_zero, List.push_toArray, List.append_toArray, List.nil_append, List.cons_append]
  gi_wp2
  gi_loopw [3] (fun i wr => ∃ (at_ f : Nat) (pre : List Rc), i = .int .i64 (at_ : Int) ∧ at_ ≤ N ∧ N < f + at_ ∧ recsOf B = pre.map Rc.dat ++ recsF f B at_ ∧ J pre wr ∧ Bk Bn W wr ∧ ∀ y ∈ pre, ∀ g, y.v.ownBlock = some g → g < wr.heap.size)
    (fun i _ => N - (intOf i).toNat)
  case atStart => exact ⟨0, N + 1, [], rfl, Nat.zero_le _, by omega, by rw [← HB.out]; rfl, h0, Bk.refl _ _, fun y hy => by cases hy⟩
  case round =>
    obtain ⟨at_, f, pre, rfl, hat, hf, hd, hJp, hbk, hlt⟩ := hrel
    have Hlt := hid hlt
    clear hlt
    have hbox := hbk.2.2 _ Hbox.out
    have cbox := cell_of_row wr Bn 0 _ _ _ hbox
    have hrd := (HF.out.bk hbk).rd
    have Hbk := hid hbk
    have Hd := hid hd
    have HJp := hid hJp
    have Hrd := hid hrd
    have HbS := hbk.1
    clear hbk hd hJp hrd hbox
    change wr.cell? ⟨Bn, 0, none⟩ = some (.slice q N N) at cbox
    obtain ⟨E, hE⟩ : ∃ E, E = (getOne B at_).2.2 := ⟨_, rfl⟩
    obtain ⟨L, hL⟩ : ∃ L, L = (getOne B at_).1 := ⟨_, rfl⟩
    obtain ⟨X, hX⟩ : ∃ X, X = (getOne B at_).2.1 := ⟨_, rfl⟩
    have hG := get_any q N at_ B wr HB.out hN hat Hrd.out
    rw [← hE, ← hL, ← hX] at hG
    have HG := hid hG
    have HE := hid hE
    have HL := hid hL
    have HX := hid hX
    clear hG hE hL hX
    by_cases h0 : E = 0
    · subst h0
      have ho := getOne_ok HE.out.symm
      rw [← HL.out, ← HX.out, HB.out] at ho
      have hn := recsF_next (f := f) (by rw [HB.out]; exact hf) HE.out.symm
      rw [← HL.out, ← HX.out, HB.out] at hn
      have hXN : X ≤ N := ho.2.1
      have hXa : at_ < X := by omega
      have Hn := hid hn.1
      have hf' : N < f - 1 + X := hn.2
      clear hn ho
      gi_wp2_with fail
      refine ⟨trivial, (callsIn_wide.2 HG.out).mono ?_⟩
      rintro e W2 ⟨v, rfl, hv, hb2⟩
      obtain ⟨q2, c2, rfl, hc2, hm2, _, _⟩ := hv.shape
      have hbk2 : Bk Bn wr W2 := .of_below hb2
      have hgood : GoodRc B base pre ⟨.slice q2 L.length c2, L, X⟩ W2 := ⟨⟨_, by rw [Hd.out, Hn.out]; rfl⟩, hv.mono (Nat.le_trans hb0 HbS), fun y hy g h hg hh => Nat.lt_of_lt_of_le (Hlt.out y hy g hg) (fr_lt hv h hh).1⟩
      have HvL := hid (fr_lt hv)
      obtain ⟨fn, tmps, assign, body, hy, hR⟩ := HY.out pre _ W2 (HJ.out pre _ _ HJp.out hb2) hgood
      dsimp only at hy
      have Hbk2 := hid hbk2
      have HR := hid hR
      clear hbk2 hgood hv hb2 hR HG
      gi_wp2
      refine HR.out.mono ?_
      rintro e W3 ⟨rfl, hJ3, hk3⟩
      have HJ3 := hid hJ3
      have hs23 := hk3.1
      have hs12 := Hbk2.out.1
      have Hk3 := hid (Hbk.out.trans (Hbk2.out.trans hk3))
      clear hJ3 hk3 hy HR
      gi_wp2
      go_roundw
      case rel => exact ⟨X, f - 1, _, rfl, hXN, hf', by rw [Hd.out, Hn.out, List.map_append, List.append_assoc]; rfl, HJ3.out, Hk3.out, fun y hy g hg => by
        rcases List.mem_append.1 hy with h | h
        · have := Hlt.out y h g hg; omega
        · obtain rfl := List.mem_singleton.1 h
          have := (HvL.out g hg).2; omega⟩
      case measure => simp [intOf]; omega
    · have hb : (E != 0) = true := by simpa using h0
      have he := recsF_end (f := f) (show (getOne B at_).2.2 ≠ 0 by rw [← HE.out]; exact h0)
      have He := hid he
      clear he h0
      gi_wp2_with fail
      refine ⟨trivial, (callsIn_wide.2 HG.out).mono ?_⟩
      rintro e W2 ⟨v, rfl, hv, hb2⟩
      have HJ2 := hid (HJ.out pre _ _ HJp.out hb2)
      clear hv hb2 HG
      gi_wp2
      refine ⟨fun _ h => (by cases h), ?_⟩
      gi_wp2
      refine bodyPost_ret (results_none rfl _ _ _) rfl ?_
      exact ⟨⟨_, rfl⟩, pre, by rw [Hd.out, He.out, List.append_nil], HJ2.out⟩
/-! the slice of records that All collects -/
/-- a slice of the call's own whose elements are slices of bytes of the call's own -/
def Rows (w : World) (base : Nat) (v : Value) (ls : List (List UInt8)) : Prop :=
  ∃ vs : List Value, vs.length = ls.length ∧ Fr w base 22 1 v vs.length vs ∧ ∀ (i : Nat) (x : Value) (l : List UInt8), vs[i]? = some x → ls[i]? = some l → Fr w base 5 1 x l.length (l.map bv)
/-- a slice as Rows says, whose elements share no block -/
def RowsA (w : World) (base : Nat) (v : Value) (ls : List (List UInt8)) : Prop :=
  ∃ vs : List Value, vs.length = ls.length ∧ Fr w base 22 1 v vs.length vs ∧ (∀ (i : Nat) (x : Value) (l : List UInt8), vs[i]? = some x → ls[i]? = some l → Fr w base 5 1 x l.length (l.map bv)) ∧ vs.Pairwise Ahead
theorem RowsA.rows {w : World} {base : Nat} {v : Value} {ls : List (List UInt8)} (h : RowsA w base v ls) : Rows w base v ls := by
  obtain ⟨vs, h1, h2, h3, _⟩ := h
  exact ⟨vs, h1, h2, h3⟩
theorem infoRow : (Tryd.prog.info? 22).map (fun i => (i.zero, i.size, i.bytes)) = some (some (.slice none 0 0), 1, 24) := by kernel_rfl
/-- where the loop stands: behind these records -/
def AllI (w : World) (B : List UInt8) (base R E0 : Nat) (pre : List Rc) (W : World) : Prop :=
  (∃ v, Boxed W R 26 v ∧ W.ownsRow base 22 1 v pre.length (pre.map Rc.v)) ∧ Boxed W E0 3 (.int .i64 ((endOf (pre.map Rc.dat) : Nat) : Int)) ∧ (∀ x ∈ pre, Fr W base 5 1 x.v x.l.length (x.l.map bv)) ∧ (∃ rest, recsOf B = pre.map Rc.dat ++ rest) ∧ Below w.heap.size w W ∧ base ≤ W.heap.size ∧ (pre.map Rc.v).Pairwise Ahead
theorem AllI.stays (w : World) (B : List UInt8) (base R E0 : Nat) (pre : List Rc) : Stays (AllI w B base R E0 pre) := by
  rintro A C ⟨⟨v, h1, h2⟩, h3, h4, h5, h6, h7⟩ hb'
  exact ⟨⟨v, (hb'.block R h1.lt).trans h1, own_below h2 hb'⟩, (hb'.block E0 h3.lt).trans h3, fun x hx => (h4 x hx).below hb', h5, h6.trans (hb'.mono h6.size), Nat.le_trans h7.1 hb'.size, h7.2⟩
theorem AllI.turns (w : World) (B : List UInt8) (base R E0 b0 : Nat) (hb : w.heap.size ≤ b0) (pre : List Rc) : Turns b0 (AllI w B base R E0 pre) := by
  rintro W l o o' ⟨⟨v, h1, h2⟩, h3, h4, h5, h6, h7⟩ hl ho hc
  have ne : ∀ {g : Nat} {cs : Array Value} {t : TypeId} {fr : Nat × Nat}, W.heap[g]? = some (.cells cs t fr) → g ≠ l := by
    intro g cs t fr hg e; subst e; rw [ho] at hg; cases hg; cases hc
  refine ⟨⟨v, (World.putObj_heap_other (ne h1)).trans h1, ownsRow_putObj h2 _ ho hc⟩, (World.putObj_heap_other (ne h3)).trans h3, fun x hx => ?_, h5, ?_, by simpa using h7.1, h7.2⟩
  · obtain ⟨f1, f2⟩ := h4 x hx
    refine ⟨f1, ?_⟩
    rcases f2 with f2 | ⟨g, cap, cur, hv, hg, hh, r⟩
    · exact .inl f2
    · exact .inr ⟨g, cap, cur, hv, hg, (World.putObj_heap_other (ne hh)).trans hh, r⟩
  · exact h6.trans ((Below.refl w.heap.size W).grown (grownBy_putObj' W l o') (Nat.le_trans (Nat.le_trans hb hl) (Nat.le_of_lt (Array.getElem?_eq_some_iff.1 ho).1)) (fun k e => by cases e; omega))
theorem GoodRc.turns (B : List UInt8) (base b0 : Nat) (pre : List Rc) (x : Rc) : Turns b0 (GoodRc B base pre x) := by
  rintro W l o o' ⟨h1, ⟨f1, f2⟩, h3⟩ hl ho hc
  refine ⟨h1, ⟨f1, ?_⟩, h3⟩
  rcases f2 with f2 | ⟨g, cap, cur, hv, hg, hh, r⟩
  · exact .inl f2
  · exact .inr ⟨g, cap, cur, hv, hg, (World.putObj_heap_other (fun e => by subst e; rw [ho] at hh; cases hh; cases hc)).trans hh, r⟩
theorem Bk.putObj (g0 : Nat) (W : World) (l : Nat) (o o' : Obj) (hne : g0 ≠ l) (ho : W.heap[l]? = some o) (hc : o.isCells = false) : Bk g0 W (W.putObj l o') := by
  refine ⟨by simp, fun g cs fr hg => World.putObj_heap_other (fun e => by subst e; rw [ho] at hg; cases hg; cases hc), fun o2 h2 => ?_⟩
  rw [World.putObj_heap_other hne]; exact h2
theorem body_step {W w1 : World} {R E0 Bn b0 b3 : Nat} {v v' u nx : Value} {k m : Nat} {xs ys : List Value} {tmp : Obj} (hR : Boxed W R 26 v) (hE : Boxed W E0 3 u) (hrow : W.ownsRow b3 22 1 v k xs)
    (hown' : w1.ownsRow b3 22 1 v' m ys) (hgrow : (W.alloc tmp).grownBy w1 v.ownBlock) (hRb : R < b3) (hEb : E0 < b3) (hBb : Bn < b3) (hBR : Bn ≠ R) (hBE : Bn ≠ E0) (hRE : R ≠ E0) (h0R : b0 ≤ R) (h0E : b0 ≤ E0) (hb3 : b3 ≤ W.heap.size) :
    Boxed w1 R 26 v ∧ Boxed (w1.setCell ⟨R, 0, none⟩ v') E0 3 u ∧ Boxed ((w1.setCell ⟨R, 0, none⟩ v').setCell ⟨E0, 0, none⟩ nx) R 26 v' ∧ Boxed ((w1.setCell ⟨R, 0, none⟩ v').setCell ⟨E0, 0, none⟩ nx) E0 3 nx ∧
      ((w1.setCell ⟨R, 0, none⟩ v').setCell ⟨E0, 0, none⟩ nx).ownsRow b3 22 1 v' m ys ∧ KeepsFrom b3 W ((w1.setCell ⟨R, 0, none⟩ v').setCell ⟨E0, 0, none⟩ nx) ∧ Bk Bn W ((w1.setCell ⟨R, 0, none⟩ v').setCell ⟨E0, 0, none⟩ nx) ∧
      Below b0 W ((w1.setCell ⟨R, 0, none⟩ v').setCell ⟨E0, 0, none⟩ nx) := by
  have hlo : ∀ g, v.ownBlock = some g → b3 ≤ g ∧ ∃ cur, W.heap[g]? = some (.cells cur 22 (0, 0)) := by
    intro g hg
    rcases hrow.2 with ⟨rfl, _⟩ | ⟨g', cap, cur, rfl, hb, hh, _⟩
    · simp [Value.ownBlock] at hg
    · obtain rfl : g' = g := by simpa [Value.ownBlock] using hg
      exact ⟨hb, cur, hh⟩
  have hlo' : ∀ g, v'.ownBlock = some g → b3 ≤ g := fun g hg => (hown'.lt g hg).1
  have same : ∀ g, g < W.heap.size → v.ownBlock ≠ some g → w1.heap[g]? = W.heap[g]? := fun g hg hne =>
    (hgrow.block g (by simp; omega) (fun e => hne e.symm)).trans (Below.heap_alloc W tmp g hg)
  have nr : v.ownBlock ≠ some R := fun e => by have := (hlo R e).1; omega
  have ne : v.ownBlock ≠ some E0 := fun e => by have := (hlo E0 e).1; omega
  have hR1 : Boxed w1 R 26 v := (same R hR.lt nr).trans hR
  have hE1 : Boxed w1 E0 3 u := (same E0 hE.lt ne).trans hE
  have hsz : W.heap.size ≤ w1.heap.size := by have := hgrow.size; simp at this; omega
  have hE2 := hE1.other (B' := R) hRE.symm v'
  have far : ∀ g, g < W.heap.size → g ≠ R → g ≠ E0 → v.ownBlock ≠ some g → ((w1.setCell ⟨R, 0, none⟩ v').setCell ⟨E0, 0, none⟩ nx).heap[g]? = W.heap[g]? := by
    intro g hg h1 h2 h3
    rw [(grownBy_setCell' _ E0 nx).block g (by rw [World.size_setCell]; omega) (fun e => h2 (by cases e; rfl)), (grownBy_setCell' _ R v').block g (by omega) (fun e => h1 (by cases e; rfl))]
    exact same g hg h3
  have hs2 : ((w1.setCell ⟨R, 0, none⟩ v').setCell ⟨E0, 0, none⟩ nx).heap.size = w1.heap.size := by rw [World.size_setCell, World.size_setCell]
  refine ⟨hR1, hE2, (hR1.set v').other (B' := E0) hRE nx, hE2.set nx, ?_, ⟨by rw [hs2]; exact hsz, fun g o hg ho hc => ?_⟩, ⟨by rw [hs2]; exact hsz, fun g cs fr hg => ?_, fun o ho => ?_⟩, ?_⟩
  · exact ((hown'.kept (grownBy_setCell' w1 R v') (.inr (fun e => by have := hlo' _ e; omega))).kept (grownBy_setCell' _ E0 nx) (.inr (fun e => by have := hlo' _ e; omega)))
  · rw [far g (Array.getElem?_eq_some_iff.1 ho).1 (by omega) (by omega) (fun e => by obtain ⟨_, cur, hh⟩ := hlo g e; rw [ho] at hh; cases hh; cases hc)]
    exact ho
  · exact far g (lt_of_block hg) (fun e => by subst e; rw [show W.heap[g]? = _ from hR] at hg; cases hg) (fun e => by subst e; rw [show W.heap[g]? = _ from hE] at hg; cases hg) (fun e => by obtain ⟨_, cur, hh⟩ := hlo g e; rw [hg] at hh; cases hh)
  · rw [far Bn (by omega) hBR hBE (fun e => by have := (hlo _ e).1; omega)]; exact ho
  · exact ((((Below.refl b0 W).alloc (by omega) tmp).grown hgrow (by simp; omega) (fun j ej => by have := (hlo j ej).1; omega)).setCell (p := ⟨R, 0, none⟩) h0R v').setCell (p := ⟨E0, 0, none⟩) h0E nx
end Go.Proofs.Herb
