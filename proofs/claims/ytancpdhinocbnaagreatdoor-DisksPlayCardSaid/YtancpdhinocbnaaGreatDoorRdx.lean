/- The reference's disk: the contracts of Blown, Dir, Loose, Turn and Copy. For a disk as RefAt says. -/
import Derived.Test.YtancpdhinocbnaaGreatDoorRdf
import Derived.Test.YtancpdhinocbnaaGreatDoorDskY
import Derived.Deep.RegionHeld3
namespace Go.Proofs.Herb
open Go.RowKit
def looseNR (r : RS) (k : ByteArray) : Int := if looseRE r k = 0 then ((((r.files[atR r k]?).map (·.b.length)).getD 0 : Nat) : Int) - ((((r.files[atR r k]?).map (·.sure)).getD 0 : Nat) : Int) else 0
def turnRE (r : RS) (k : ByteArray) (at_ : Int) : Int := if looseRE r k ≠ 0 then looseRE r k else if at_ < 0 ∨ (((((r.files[atR r k]?).map (·.b)).getD []).length : Nat) : Int) ≤ at_ then 1 else 0
def turnR (r : RS) (k : ByteArray) (at_ : Int) (by_ : UInt8) : RS := if turnRE r k at_ ≠ 0 then r else { r with files := r.files.modify (atR r k) fun f => turnB f at_.toNat by_ }
theorem looseR_cases (r : RS) (k : ByteArray) : (mayB k = false ∧ looseRE r k = 1) ∨ (mayB k = true ∧ lookI (nowR r) k < 0 ∧ looseRE r k = 7) ∨ (mayB k = true ∧ ¬ lookI (nowR r) k < 0 ∧ looseRE r k = 0) := by
  unfold looseRE
  cases hm : mayB k
  · exact .inl ⟨rfl, rfl⟩
  · by_cases q : lookI (nowR r) k < 0
    · exact .inr (.inl ⟨rfl, q, by simp [q]⟩)
    · exact .inr (.inr ⟨rfl, q, by simp [q]⟩)
theorem own_at {w : World} {base : Nat} {e : TypeId} {v : Value} {n j : Nat} {xs : List Value} (h : w.ownsRow base e 1 v n xs) (hj : j < n) :
    ∃ g c cur, v = .slice (some ⟨g, 0, none⟩) n c ∧ base ≤ g ∧ w.heap[g]? = some (.cells cur e (0, 0)) ∧ w.cell? ⟨g, j, none⟩ = xs[j]? := by
  obtain ⟨h1, h2⟩ := h
  rcases h2 with ⟨_, h0⟩ | ⟨g, cap, cur, hv, hb, hg, hn, hm, _, ht⟩
  · omega
  · refine ⟨g, cap, cur, hv, hb, hg, ?_⟩
    rw [cell_of_row w g j _ _ _ hg, ← ht, List.getElem?_take_of_lt (by omega)]
    simp
set_option maxHeartbeats 800000 in
theorem blownR_any (U : Nat → Prop) (m : RM) (r : RS) (w : World) (h : RefAt w U m r) :
    Calls Tryz.prog 39 #[.pointer (some ⟨m.D, 0, none⟩)] w fun e w' => e = .returned (.bool r.dead) ∧ w = w' := by
  obtain ⟨_, _, c2, _, _⟩ := h.cells
  clear h
  go_enter Tryz.func39, Tryz.ntmps39
  go_wp2
  go_ret
  exact ⟨rfl, rfl⟩
set_option maxHeartbeats 800000 in
theorem dirR_any (U : Nat → Prop) (m : RM) (r : RS) (w : World) (h : RefAt w U m r) (hg : RGood r) :
    Calls Tryz.prog 38 #[.pointer (some ⟨m.D, 0, none⟩)] w fun e w' => e = .returned (.int .i64 ((r.past.length - 1 : Nat) : Int)) ∧ w = w' := by
  obtain ⟨_, _, _, _, c4⟩ := h.cells
  obtain ⟨q, c, hv, _, _, _⟩ := own_shape h.past
  rw [hv] at c4
  have h0 := hg.p0
  have h1 := hg.p1
  obtain ⟨P, hP⟩ : ∃ P, P = r.past.length := ⟨_, rfl⟩
  rw [← hP] at c4 h0 h1 ⊢
  have w1 : IntKind.i64.wrap ((P : Int) - 1) = ((P - 1 : Nat) : Int) := by rw [IntKind.wrap_i64]; omega
  clear h hg hv hP
  go_enter Tryz.func38, Tryz.ntmps38
  go_wp2
  go_ret
  exact ⟨rfl, rfl⟩
set_option maxRecDepth 100000 in
set_option maxHeartbeats 1600000 in
theorem looseR_any (U : Nat → Prop) (m : RM) (r : RS) (k : ByteArray) (hk : k.size ≤ maxLen) (w : World) (h : RefAt w U m r) (hg : RGood r) :
    Calls Tryz.prog 41 #[.pointer (some ⟨m.D, 0, none⟩), .string k] w fun e w' => e = .returned (.tuple #[.int .i64 (looseNR r k), .int .i64 (looseRE r k)]) ∧ Below w.heap.size w w' := by
  have H := hid h
  have HG := hid hg
  clear h hg
  rcases looseR_cases r k with ⟨q1, hE⟩ | ⟨q1, q2, hE⟩ | ⟨q1, q2, hE⟩
  · have hR : looseNR r k = 0 := by unfold looseNR; rw [if_neg (by rw [hE]; decide)]
    rw [hE, hR]
    have Q1 := hid q1
    clear hE hR q1
    go_enter Tryz.func41, Tryz.ntmps41
    go_wp2_with (go_at_call 75; refine (mayR_any k hk w).mono ?_; rintro e w1 ⟨rfl, rfl⟩; rw [Q1.out])
    go_ret2
    exact ⟨rfl, Below.refl _ _⟩
  · have hR : looseNR r k = 0 := by unfold looseNR; rw [if_neg (by rw [hE]; decide)]
    rw [hE, hR]
    have b2 : decide (lookI (nowR r) k < 0) = true := by simpa using q2
    have Q1 := hid q1
    clear hE hR q1 q2
    go_enter Tryz.func41, Tryz.ntmps41
    go_wp2_with (first | (go_at_call 75; refine (mayR_any k hk w).mono ?_; rintro e w1 ⟨rfl, rfl⟩; rw [Q1.out]) | (go_at_call 51; with_reducible refine (nowR_any U m r w H.out HG.out.p0).mono ?_; rintro e w2 ⟨v, rfl, _, hs, hB⟩; obtain ⟨q, c, rfl, _, _, _, hrd⟩ := hs.rd; have hrd := hid hrd; have hB := hid hB; have hD2 := hid (H.out.below hB.out); clear hs) | (go_at_call 50; refine (lookR_any q _ c (nowR r) k _ rfl (by have := HG.out.n1; omega) hrd.out).mono ?_; rintro e w3 ⟨rfl, rfl⟩))
    go_ret2
    exact ⟨rfl, hB.out⟩
  · obtain ⟨i, hL, hat, hi⟩ := look_at HG.out q2
    have hR : looseNR r k = ((r.files[i]).b.length : Int) - ((r.files[i]).sure : Int) := by unfold looseNR; rw [if_pos hE, hat, List.getElem?_eq_getElem hi]; rfl
    rw [hE, hR]
    have HL := hid hL
    have Q1 := hid q1
    have hbl := HG.out.sure _ (List.getElem_mem hi)
    obtain ⟨N, hN⟩ : ∃ N, N = (r.files[i]).b.length := ⟨_, rfl⟩
    obtain ⟨S, hS⟩ : ∃ S, S = (r.files[i]).sure := ⟨_, rfl⟩
    rw [← hN, ← hS]
    rw [← hN, ← hS] at hbl
    have w1 : IntKind.i64.wrap ((N : Int) - (S : Int)) = (N : Int) - (S : Int) := by rw [IntKind.wrap_i64]; omega
    have HN := hid hN
    have HS := hid hS
    clear hN hS
    have b2 : decide ((i : Int) < 0) = false := by simp
    clear hE hR q1 q2 hL hat
    go_enter Tryz.func41, Tryz.ntmps41
    go_upto_region 6 with (first | (go_at_call 75; refine (mayR_any k hk w).mono ?_; rintro e w1 ⟨rfl, rfl⟩; rw [Q1.out]) | (go_at_call 51; with_reducible refine (nowR_any U m r w H.out HG.out.p0).mono ?_; rintro e w2 ⟨v, rfl, _, hs, hB⟩; obtain ⟨q, c, rfl, _, _, _, hrd⟩ := hs.rd; have hrd := hid hrd; have hB := hid hB; have hD2 := hid (H.out.below hB.out); clear hs) | (go_at_call 50; refine (lookR_any q _ c (nowR r) k _ rfl (by have := HG.out.n1; omega) hrd.out).mono ?_; rintro e w3 ⟨rfl, rfl⟩; rw [HL.out]))
    obtain ⟨g, cf, q0, k0, cs, hfv, hf1, hf2, _, hk1, hk2, hq0, hce, hsu, _, _, _, _⟩ := hD2.out.file hi
    have d3 := hD2.out.cells.2.2.2.1
    rw [hfv] at d3
    rw [← HN.out] at hce hk1
    rw [← HS.out] at hsu
    obtain ⟨P, hP⟩ : ∃ P, P = r.files.length := ⟨_, rfl⟩
    rw [← hP] at d3 hi hf1
    have i0 : (0 : Int) ≤ (i : Int) := by omega
    have i1 : (i : Int) < (P : Int) := by omega
    clear hfv hP hq0
    go_quiet (fail)
    go_wp2
    go_ret2
    rename_i nq _
    exact ⟨rfl, below_drewN hB.out nq⟩
set_option maxRecDepth 100000 in
set_option maxHeartbeats 3200000 in
theorem turnR_any (U : Nat → Prop) (m : RM) (r : RS) (k : ByteArray) (hk : k.size ≤ maxLen) (at_ : Int) (by_ : UInt8) (w : World) (h : RefAt w U m r) (hg : RGood r) :
    Calls Tryz.prog 65 #[.pointer (some ⟨m.D, 0, none⟩), .string k, .int .i64 at_, .int .u8 (by_.toNat : Int)] w fun e w' => ∃ m', e = .returned (.int .i64 (turnRE r k at_)) ∧ RefAt w' (upU U w w') m' (turnR r k at_ by_) ∧ m'.D = m.D ∧ RMod U w w' := by
  have hE : turnRE r k at_ = if looseRE r k ≠ 0 then looseRE r k else if at_ < 0 ∨ (((((r.files[atR r k]?).map (·.b)).getD []).length : Nat) : Int) ≤ at_ then 1 else 0 := rfl
  have hS : turnR r k at_ by_ = if turnRE r k at_ ≠ 0 then r else { r with files := r.files.modify (atR r k) fun f => turnB f at_.toNat by_ } := rfl
  have H := hid h
  have HG := hid hg
  clear h hg
  rcases looseR_cases r k with ⟨q1, hK⟩ | ⟨q1, q2, hK⟩ | ⟨q1, q2, hK⟩
  · rw [if_pos (show looseRE r k ≠ 0 by rw [hK]; decide), hK] at hE
    rw [hE, if_pos (by decide)] at hS
    have Q1 := hid q1
    replace hE := hid hE
    replace hS := hid hS
    clear hK q1
    go_enter Tryz.func65, Tryz.ntmps65
    go_wp2_with (go_at_call 75; refine (mayR_any k hk w).mono ?_; rintro e w1 ⟨rfl, rfl⟩; rw [Q1.out])
    go_ret
    exact ⟨m, by rw [hE.out]; rfl, by rw [hS.out]; exact H.out.upSame, rfl, RMod.refl _ _⟩
  · rw [if_pos (show looseRE r k ≠ 0 by rw [hK]; decide), hK] at hE
    rw [hE, if_pos (by decide)] at hS
    have b2 : decide (lookI (nowR r) k < 0) = true := by simpa using q2
    have Q1 := hid q1
    replace hE := hid hE
    replace hS := hid hS
    clear hK q1 q2
    go_enter Tryz.func65, Tryz.ntmps65
    go_wp2_with (first | (go_at_call 75; refine (mayR_any k hk w).mono ?_; rintro e w1 ⟨rfl, rfl⟩; rw [Q1.out]) | (go_at_call 51; with_reducible refine (nowR_any U m r w H.out HG.out.p0).mono ?_; rintro e w2 ⟨v, rfl, _, hs, hB⟩; obtain ⟨q, c, rfl, _, _, _, hrd⟩ := hs.rd; have hrd := hid hrd; have hB := hid hB; have hD2 := hid (H.out.below hB.out); clear hs) | (go_at_call 50; refine (lookR_any q _ c (nowR r) k _ rfl (by have := HG.out.n1; omega) hrd.out).mono ?_; rintro e w3 ⟨rfl, rfl⟩))
    go_ret
    exact ⟨m, by rw [hE.out]; rfl, by rw [hS.out]; exact hD2.out.upSame, rfl, RMod.of_below U hB.out⟩
  · rw [if_neg (show ¬ (looseRE r k ≠ 0) by rw [hK]; decide)] at hE
    obtain ⟨i, hL, hat, hi⟩ := look_at HG.out q2
    rw [hat, List.getElem?_eq_getElem hi] at hE
    rw [hat] at hS
    replace hE : turnRE r k at_ = if at_ < 0 ∨ (((r.files[i]).b.length : Nat) : Int) ≤ at_ then 1 else 0 := hE
    have HL := hid hL
    have Q1 := hid q1
    have hbl := (HG.out.sure _ (List.getElem_mem hi)).2
    have b2 : decide ((i : Int) < 0) = false := by simp
    clear hK q1 q2 hL hat
    by_cases a0 : at_ < 0
    · have b0 : decide (at_ < 0) = true := by simpa using a0
      rw [if_pos (.inl a0)] at hE
      rw [hE, if_pos (by decide)] at hS
      replace hE := hid hE
      replace hS := hid hS
      clear a0
      go_enter Tryz.func65, Tryz.ntmps65
      go_wp2_with (first | (go_at_call 75; refine (mayR_any k hk w).mono ?_; rintro e w1 ⟨rfl, rfl⟩; rw [Q1.out]) | (go_at_call 51; with_reducible refine (nowR_any U m r w H.out HG.out.p0).mono ?_; rintro e w2 ⟨v, rfl, _, hs, hB⟩; obtain ⟨q, c, rfl, _, _, _, hrd⟩ := hs.rd; have hrd := hid hrd; have hB := hid hB; have hD2 := hid (H.out.below hB.out); clear hs) | (go_at_call 50; refine (lookR_any q _ c (nowR r) k _ rfl (by have := HG.out.n1; omega) hrd.out).mono ?_; rintro e w3 ⟨rfl, rfl⟩; rw [HL.out]))
      go_ret
      exact ⟨m, by rw [hE.out]; rfl, by rw [hS.out]; exact hD2.out.upSame, rfl, RMod.of_below U hB.out⟩
    have b0 : decide (at_ < 0) = false := by simpa using a0
    obtain ⟨nb, hnb⟩ : ∃ nb, nb = (r.files[i]).b.length := ⟨_, rfl⟩
    obtain ⟨P, hP⟩ : ∃ P, P = r.files.length := ⟨_, rfl⟩
    rw [← hnb] at hE hbl
    have Hnb := hid hnb
    have HP := hid hP
    have i0 : (0 : Int) ≤ (i : Int) := by omega
    have i1 : (i : Int) < (P : Int) := by omega
    clear hnb hP
    by_cases a1 : (nb : Int) ≤ at_
    · have b1 : decide ((nb : Int) ≤ at_) = true := by simpa using a1
      rw [if_pos (.inr a1)] at hE
      rw [hE, if_pos (by decide)] at hS
      replace hE := hid hE
      replace hS := hid hS
      clear a0 a1
      go_enter Tryz.func65, Tryz.ntmps65
      go_upto_region 6 with (first | (go_at_call 75; refine (mayR_any k hk w).mono ?_; rintro e w1 ⟨rfl, rfl⟩; rw [Q1.out]) | (go_at_call 51; with_reducible refine (nowR_any U m r w H.out HG.out.p0).mono ?_; rintro e w2 ⟨v, rfl, _, hs, hB⟩; obtain ⟨q, c, rfl, _, _, _, hrd⟩ := hs.rd; have hrd := hid hrd; have hB := hid hB; have hD2 := hid (H.out.below hB.out); clear hs) | (go_at_call 50; refine (lookR_any q _ c (nowR r) k _ rfl (by have := HG.out.n1; omega) hrd.out).mono ?_; rintro e w3 ⟨rfl, rfl⟩; rw [HL.out]))
      obtain ⟨g, cf, q0, k0, cs, hfv, hf1, hf2, hbi, hk1, hk2, hq0, hce, hsu, hsl, hrb, hfr, hgh⟩ := hD2.out.file hi
      have d3 := hD2.out.cells.2.2.2.1
      rw [hfv, ← HP.out] at d3
      rw [← Hnb.out] at hce
      clear hfv hbi hrb hsl hgh hfr hsu hq0
      go_wp2
      go_ret
      exact ⟨m, by rw [hE.out]; rfl, by rw [hS.out]; exact hD2.out.upSame, rfl, RMod.of_below U hB.out⟩
    · rw [if_neg (by omega)] at hE
      rw [hE, if_neg (by decide)] at hS
      obtain ⟨j, rfl⟩ : ∃ j : Nat, at_ = (j : Int) := ⟨at_.toNat, by omega⟩
      have hjn : j < nb := by omega
      have b1 : decide ((nb : Int) ≤ (j : Int)) = false := by simp; omega
      have j0 : (0 : Int) ≤ (j : Int) := by omega
      have j1 : (j : Int) < (nb : Int) := by omega
      replace hE := hid hE
      replace hS := hid hS
      clear a0 a1
      go_enter Tryz.func65, Tryz.ntmps65
      go_upto_region 6 with (first | (go_at_call 75; refine (mayR_any k hk w).mono ?_; rintro e w1 ⟨rfl, rfl⟩; rw [Q1.out]) | (go_at_call 51; with_reducible refine (nowR_any U m r w H.out HG.out.p0).mono ?_; rintro e w2 ⟨v, rfl, _, hs, hB⟩; obtain ⟨q, c, rfl, _, _, _, hrd⟩ := hs.rd; have hrd := hid hrd; have hB := hid hB; have hD2 := hid (H.out.below hB.out); clear hs) | (go_at_call 50; refine (lookR_any q _ c (nowR r) k _ rfl (by have := HG.out.n1; omega) hrd.out).mono ?_; rintro e w3 ⟨rfl, rfl⟩; rw [HL.out]))
      obtain ⟨g, cf, q0, k0, cs, hfv, hf1, hf2, hbi, hk1, hk2, hq0, hce, hsu, hsl, hrb, hfr, hgh⟩ := hD2.out.file hi
      have d3 := hD2.out.cells.2.2.2.1
      have hfv2 := hfv
      rw [hfv, ← HP.out] at d3
      obtain ⟨fb, hfb⟩ : ∃ fb, fb = (r.files[i]).b := ⟨_, rfl⟩
      rw [← Hnb.out] at hce hk1
      rw [← hfb] at hrb
      have hnf : fb.length = nb := by rw [hfb, ← Hnb.out]
      have hgl := lt_of_block hgh
      have hcs : cs[i * 2]? = some (.slice q0 nb k0) := by rw [← hce]; exact (cell_of_row w2 g (i * 2) _ _ _ hgh).symm
      have Hrb := hid hrb
      have Hq0 := hid hq0
      have Hfb := hid hfb
      have Hnf := hid hnf
      have Hfv := hid hfv2
      have Hgh := hid hgh
      have HD3 := hid d3
      rw [HP.out] at HD3
      clear hrb hq0 hfb hnf hfv hfv2 hgh hsl hbi hfr hsu
      obtain ⟨x, hx⟩ : ∃ x, x = fb[j]'(by rw [Hnf.out]; exact hjn) := ⟨_, rfl⟩
      have Hx := hid hx
      have hxor := xor_form x by_
      clear hx
      go_upto_region 10 with (refine wpList_append_rd rfl (.const (.slice none 0 0)) (.tmp 42) 31 rfl w2.heap.size 5 (.int .u8 0) 1 1 Tryz.underlying31 infoU8 rfl (by decide) (.slice none 0 0) 0 [] rfl (World.ownsRow_nil _ _ _ _) q0 nb k0 (fb.map bv) rfl Hq0.out (by simp [Hnf.out]) Hrb.out bv_one (by unfold maxLen; omega) (by omega) (Nat.le_refl _) ?_; intro v5 w5 hown5 hg5 _; rw [Nat.zero_add, List.nil_append] at hown5; obtain ⟨gb, k5, cur5, rfl, hgb, hg5h, hcj⟩ := own_at hown5 (j := j) hjn; rw [List.getElem?_map, List.getElem?_eq_getElem (by rw [Hnf.out]; exact hjn), ← Hx.out] at hcj; unfold bv at hcj; dsimp only [Option.map_some] at hcj; have hfj := frozen_of_row w5 gb j _ _ hg5h; have hb5 := hid (((Below.refl w2.heap.size w2)).grown hg5 (Nat.le_refl _) (fun k hk => nomatch hk)); have hown5 := hid hown5; have hg5h := hid hg5h; clear hg5)
      obtain ⟨w6, hw6⟩ : ∃ wz, wz = w5.setCell ⟨gb, j, none⟩ (.int .u8 ((x ^^^ by_).toNat : Int)) := ⟨_, rfl⟩
      have hb6 : Below w2.heap.size w2 w6 := by rw [hw6]; exact hb5.out.setCell hgb _
      have hown6 := own_setCell hown5.out j (.int .u8 ((x ^^^ by_).toNat : Int))
      rw [← hw6] at hown6
      rw [show w5.setCell ⟨gb, j, none⟩ (.int .u8 ((x.toNat ^^^ by_.toNat : Nat) : Int)) = w6 by rw [hw6, UInt8.toNat_xor]]
      have dd6 := (hD2.out.below hb6).cells.2.2.2.1
      rw [Hfv.out, ← HP.out] at dd6
      have hy6 := (hb6.block g hgl).trans Hgh.out
      have gg := (cell_of_row w6 g (i * 2) _ _ _ hy6).trans hcs
      have gf := frozen_of_row w6 g (i * 2) _ _ hy6
      have HB6 := hid hb6
      have HO6 := hid hown6
      clear hb6 hown6 hy6 hw6 hcj hfj
      go_wp2
      go_ret
      have D6 := (hD2.out.below HB6.out).up (U' := upU U w w6) (fun _ h => .inl h) (fun k hk => by
        rcases hk with hk | hk
        · exact (hD2.out.below HB6.out).low k hk
        · exact hk.2)
      have hsz : w.heap.size ≤ w2.heap.size := hB.out.size
      have hs5 : (fb.map bv).set j (.int .u8 ((x ^^^ by_).toNat : Int)) = (fb.set j (x ^^^ by_)).map bv := by rw [List.map_set]; rfl
      have ho := HO6.out
      rw [hs5] at ho
      have hF := setFc_fin (upU U w w6) m r (i * 2) (.slice (some ⟨gb, 0, none⟩) nb k5) g cf (m.bs.set i (.slice (some ⟨gb, 0, none⟩) nb k5)) (r.files.set i ⟨fb.set j (x ^^^ by_), (r.files[i]).sure⟩) w6 D6 Hfv.out (by simp) (by simp [D6.flen]) (by rw [fCells_set _ _ _ _ _ D6.flen (fun f0 h0 => by rw [List.getElem?_eq_getElem hi] at h0; cases h0; rfl)]) (fun j' v f h1 h2 => by
        by_cases hj : i = j'
        · subst hj
          rw [List.getElem?_set_self hi] at h2
          rw [List.getElem?_set_self (by rw [D6.flen]; exact hi)] at h1
          cases h1; cases h2
          have ho2 : w6.ownsRow w2.heap.size 5 1 (.slice (some ⟨gb, 0, none⟩) nb k5) (fb.set j (x ^^^ by_)).length ((fb.set j (x ^^^ by_)).map bv) := by rw [List.length_set, Hnf.out]; exact ho
          exact slU_own ho2 (fun g h1 h2 => .inr ⟨by omega, h2⟩) (fun g hg => hD2.out.low g (hD2.out.us g hg))
        · rw [List.getElem?_set_ne hj] at h1 h2
          exact D6.bytes j' v f h1 h2)
      refine ⟨by rw [hE.out]; rfl, { m with bs := m.bs.set i (.slice (some ⟨gb, 0, none⟩) nb k5) }, ?_, rfl, ((RMod.of_below U hB.out).seq (RMod.of_below U HB6.out)).trans hF.2⟩
      rw [hS.out, modify_set hi]
      have h0 := hF.1
      have ht : turnB (r.files[i]) ((j : Int)).toNat by_ = ⟨fb.set j (x ^^^ by_), (r.files[i]).sure⟩ := by
        unfold turnB
        rw [← Hfb.out, Int.toNat_natCast, List.getD_eq_getElem?_getD, List.getElem?_eq_getElem (by rw [Hnf.out]; exact hjn), Option.getD_some, ← Hx.out]
      rw [ht]
      exact h0.up (fun k hk => by rcases hk with hk | hk; exact .inl hk; exact .inr (by simpa using hk)) (fun k hk => by
        rcases hk with hk | hk
        · exact h0.low k (.inl hk)
        · exact hk.2)
end Go.Proofs.Herb
namespace Go.Proofs.Herb
open Go.RowKit
theorem fCells_oneU : ∀ (bs : List Value) (fs : List DF), (∀ (i : Nat) v, bs[i]? = some v → v.oneCell' = true) → ∀ u ∈ fCells bs fs, u.oneCell' = true
  | [], _, _, u, hu => by simp [fCells] at hu
  | b :: bs, [], _, u, hu => by simp [fCells] at hu
  | b :: bs, f :: fs, h, u, hu => by
    simp only [fCells, List.mem_cons] at hu
    rcases hu with rfl | rfl | hu
    · exact h 0 _ rfl
    · rfl
    · exact fCells_oneU bs fs (fun i v hv => h (i + 1) v (by simpa using hv)) u hu
theorem RefAt.bsOne {w : World} {U : Nat → Prop} {m : RM} {r : RS} (h : RefAt w U m r) : ∀ (i : Nat) v, m.bs[i]? = some v → v.oneCell' = true := by
  intro i v hv
  have hi : i < r.files.length := by rw [← h.flen]; exact (List.getElem?_eq_some_iff.1 hv).1
  obtain ⟨q, c, rfl, _⟩ := h.bytes i v _ hv (List.getElem?_eq_getElem hi)
  rfl
theorem RefAt.esOne {w : World} {U : Nat → Prop} {m : RM} {r : RS} (h : RefAt w U m r) : ∀ u ∈ m.es, u.oneCell' = true := by
  intro u hu
  obtain ⟨i, hv⟩ := List.mem_iff_getElem?.1 hu
  have hi : i < r.past.length := by rw [← h.elen]; exact (List.getElem?_eq_some_iff.1 hv).1
  obtain ⟨q, c, rfl, _⟩ := h.ents i u _ hv (List.getElem?_eq_getElem hi)
  rfl
/-- a copy lies so -/
theorem copyR_fin {w wf : World} {U : Nat → Prop} {m : RM} {r : RS} {fv pv : Value} {B B2 : Nat} (h : RefAt w U m r) (hB : Below w.heap.size w wf) (h1 : w.heap.size < B) (h2 : B ≤ B2) (hfl : ∀ g, fv.ownBlock = some g → g < B2)
    (hD : wf.heap[w.heap.size]? = some (.cells #[.int .i64 r.room, .int .i64 r.left, .bool r.dead, fv, pv] 55 (0, 0)))
    (hf : wf.ownsRow B 78 2 fv r.files.length (fCells m.bs r.files)) (hp : wf.ownsRow B2 76 1 pv r.past.length m.es) : RefAt wf (upU U w wf) ⟨w.heap.size, fv, pv, m.bs, m.es⟩ r := by
  have hfp : ∀ k, U k → k ∈ (⟨w.heap.size, fv, pv, m.bs, m.es⟩ : RM).fp → k ∈ m.fp := fun k hk hm => by
    exfalso
    have hl := h.low k hk
    simp only [RM.fp, List.mem_cons, List.mem_append, Option.mem_toList] at hm
    rcases hm with e | e | e
    · omega
    · have := (hf.lt k e).1; omega
    · have := (hp.lt k e).1; omega
  refine ⟨hD, own_mono hf (Nat.zero_le _), h.flen, fun i v f e1 e2 => (h.bytes i v f e1 e2).keep (fun _ h => .inl h) (fun k hk _ => hB.block k (h.low k hk)) hfp, own_mono hp (Nat.zero_le _), h.elen, fun i v l e1 e2 => (h.ents i v l e1 e2).keep (fun _ h => .inl h) (fun k hk _ => hB.block k (h.low k hk)) hfp, ?_, fun k hk => ?_, fun k hk => ?_⟩
  · have a1 : ∀ g, fv.ownBlock = some g → w.heap.size < g ∧ g < B2 := fun g e => ⟨by have := (hf.lt g e).1; omega, hfl g e⟩
    have a2 : ∀ g, pv.ownBlock = some g → B2 ≤ g := fun g e => (hp.lt g e).1
    unfold RM.fp
    dsimp only
    cases e1 : fv.ownBlock with
    | none => cases e2 : pv.ownBlock with
      | none => simp
      | some g2 => have := a2 g2 e2; simp; omega
    | some g1 => cases e2 : pv.ownBlock with
      | none => have := a1 g1 e1; simp; omega
      | some g2 => have := a1 g1 e1; have := a2 g2 e2; simp; omega
  · simp only [RM.fp, List.mem_cons, List.mem_append, Option.mem_toList] at hk
    rcases hk with e | e | e
    · exact .inr ⟨by omega, by have := lt_of_block hD; omega⟩
    · have := hf.lt k e; exact .inr ⟨by omega, this.2⟩
    · have := hp.lt k e; exact .inr ⟨by omega, this.2⟩
  · rcases hk with e | e
    · exact Nat.lt_of_lt_of_le (h.low k e) hB.size
    · exact e.2
set_option maxRecDepth 100000 in
set_option maxHeartbeats 3200000 in
theorem copyR_any (U : Nat → Prop) (m : RM) (r : RS) (w : World) (h : RefAt w U m r) (hg : RGood r) :
    Calls Tryz.prog 8 #[.pointer (some ⟨m.D, 0, none⟩)] w fun e w' => ∃ m', e = .returned (.pointer (some ⟨m'.D, 0, none⟩)) ∧ RefAt w' (upU U w w') m' r ∧ Below w.heap.size w w' := by
  obtain ⟨d0, d1, d2, d3, d4⟩ := h.cells
  have ff := h.files
  have pp := h.past
  obtain ⟨qf, cf, hfv, hf1, _, hf3⟩ := own_shape ff
  obtain ⟨qp, cp, hpv, hp1, _, hp3⟩ := own_shape pp
  rw [hfv] at ff d3
  rw [hpv] at pp d4
  have Hfo := hid (fCells_oneU m.bs r.files h.bsOne)
  have Hpo := hid h.esOne
  obtain ⟨NF, hNF⟩ : ∃ N, N = r.files.length := ⟨_, rfl⟩
  obtain ⟨NP, hNP⟩ : ∃ N, N = r.past.length := ⟨_, rfl⟩
  have hfm := hg.f1
  have hpm := hg.p1
  rw [← hNF] at ff d3 hf1 hfm
  rw [← hNP] at pp d4 hp1 hpm
  have Rf := hid (Fr.of_own ff).rd
  have Rp := hid (Fr.of_own pp).rd
  have Lf := hid ff.1
  have Lp := hid pp.1
  have H := hid h
  have HNF := hid hNF
  have HNP := hid hNP
  have HH := hid (show ∀ w', Below w.heap.size w w' → w'.cell? ⟨m.D, 0, none⟩ = some (.int .i64 r.room) ∧ w'.cell? ⟨m.D, 1, none⟩ = some (.int .i64 r.left) ∧ w'.cell? ⟨m.D, 2, none⟩ = some (.bool r.dead) from fun w' hb => by
    have := (h.below hb).cells
    exact ⟨this.1, this.2.1, this.2.2.1⟩)
  have HD4 := hid d4
  clear ff pp hfv hpv hNF hNP h hg
  go_enter Tryz.func8, Tryz.ntmps8
  go_upto_region 1 with fail
  go_cut [3] (fun s3 wc => s3 = .pointer (some ⟨w.heap.size, 0, none⟩) ∧ Below w.heap.size w wc ∧ wc.heap.size = w.heap.size + 1 ∧ wc.heap[w.heap.size]? = some (.cells #[.int .i64 r.room, .int .i64 r.left, .bool r.dead, .slice none 0 0, .slice none 0 0] 55 (0, 0)))
  case first =>
    go_region_held3 (fun w' => w'.cell? ⟨m.D, 0, none⟩ = some (.int .i64 r.room) ∧ w'.cell? ⟨m.D, 1, none⟩ = some (.int .i64 r.left) ∧ w'.cell? ⟨m.D, 2, none⟩ = some (.bool r.dead)) (first | exact HH.out _ (Below.refl _ _).drew | exact HH.out _ ((Below.refl _ _).alloc (Nat.le_refl _) _) | exact HH.out _ ((Below.refl _ _).alloc (Nat.le_refl _) _).drew | exact HH.out _ ((Below.refl _ _).drew.alloc (Nat.le_refl _) _)) (fail)
    all_goals
      go_wp2_with fail
      go_meet
      exact ⟨rfl, (Below.refl _ _).drew.alloc (Nat.le_refl _) _, by simp, heap_alloc_new _ _⟩
  case rest =>
    obtain ⟨rfl, hb, hz, hd⟩ := hcut
    have d3c := (hb.cell (World.block_lt_of_cell? w _ d3)).trans d3
    have d4c := (hb.cell (World.block_lt_of_cell? w _ d4)).trans d4
    have Hb := hid hb
    have Hd := hid hd
    have Hz := hid hz
    have Hhf3 := hid hf3
    have Hhp3 := hid hp3
    clear hb hd d0 d1 d2 d3 d4 hf3 hp3
    go_upto_region 3 with (refine wpList_append_rd rfl (.const (.slice none 0 0)) (.tmp 22) 53 rfl wc.heap.size 78 _ 2 32 Tryz.underlying53 infoFile rfl (by decide) (.slice none 0 0) 0 [] rfl (World.ownsRow_nil _ _ _ _) qf NF cf (fCells m.bs r.files) rfl Hhf3.out Lf.out (Rf.out.below Hb.out) Hfo.out (by unfold maxLen; omega) (by omega) (Nat.le_refl _) ?_; intro v5 w5 hown5 hg5 _; rw [Nat.zero_add, List.nil_append] at hown5; obtain ⟨q5, c5, rfl, _, _, _⟩ := own_shape hown5; have hb5 := hid ((Below.refl wc.heap.size wc).grown hg5 (Nat.le_refl _) (fun k hk => nomatch hk)); have hown5 := hid hown5; have hh5 := hid ((hb5.out.block w.heap.size (by rw [Hz.out]; omega)).trans Hd.out); have k5 := cell_of_row w5 w.heap.size 3 _ _ _ hh5.out; have f5 := frozen_of_row w5 w.heap.size 3 _ _ hh5.out; clear hg5)
    obtain ⟨w6, hw6⟩ : ∃ wz, wz = w5.setCell ⟨w.heap.size, 3, none⟩ (.slice q5 NF c5) := ⟨_, rfl⟩
    rw [← hw6]
    have hh6 : w6.heap[w.heap.size]? = some (.cells #[.int .i64 r.room, .int .i64 r.left, .bool r.dead, .slice q5 NF c5, .slice none 0 0] 55 (0, 0)) := by rw [hw6]; exact (heap_setCell_same _ _ _ _ _ _ hh5.out)
    have hb6 : Below w.heap.size w w6 := by rw [hw6]; exact (Hb.out.trans (hb5.out.mono Hb.out.size)).setCell (Nat.le_refl _) _
    have hown6 : w6.ownsRow wc.heap.size 78 2 (.slice q5 NF c5) NF (fCells m.bs r.files) := by
      rw [hw6]
      exact own_keep hown5.out fun g hg => heap_setCell_other _ _ _ _ (show g ≠ w.heap.size from fun e => by have := (hown5.out.lt g hg).1; rw [Hz.out] at this; omega)
    have d4e := (hb6.cell (World.block_lt_of_cell? w _ HD4.out)).trans HD4.out
    have Hh6 := hid hh6
    have Hb6 := hid hb6
    have Ho6 := hid hown6
    have hw56 : wc.heap.size ≤ w6.heap.size := by rw [hw6]; have := hb5.out.size; simpa using this
    clear hh6 hb6 hown6 hw6 k5 f5 d3c d4c
    go_wp2_with (refine wpList_append_rd rfl (.const (.slice none 0 0)) (.tmp 30) 52 rfl w6.heap.size 76 _ 1 24 Tryz.underlying52 infoEnts rfl (by decide) (.slice none 0 0) 0 [] rfl (World.ownsRow_nil _ _ _ _) qp NP cp m.es rfl Hhp3.out Lp.out (Rp.out.below Hb6.out) Hpo.out (by unfold maxLen; omega) (by omega) (Nat.le_refl _) ?_; intro v7 w7 hown7 hg7 _; rw [Nat.zero_add, List.nil_append] at hown7; obtain ⟨q7, c7, rfl, _, _, _⟩ := own_shape hown7; have hb7 := hid ((Below.refl w6.heap.size w6).grown hg7 (Nat.le_refl _) (fun k hk => nomatch hk)); have hown7 := hid hown7; have hh7 := hid ((hb7.out.block w.heap.size (lt_of_block Hh6.out)).trans Hh6.out); have k7 := cell_of_row w7 w.heap.size 4 _ _ _ hh7.out; have f7 := frozen_of_row w7 w.heap.size 4 _ _ hh7.out; clear hg7)
    go_ret
    have hb8 := (Hb6.out.trans (hb7.out.mono Hb6.out.size)).setCell (p := ⟨w.heap.size, 4, none⟩) (Nat.le_refl _) (.slice q7 NP c7)
    have hs6 := lt_of_block Hh6.out
    have hfin := copyR_fin (wf := w7.setCell ⟨w.heap.size, 4, none⟩ (.slice q7 NP c7)) (fv := .slice q5 NF c5) (pv := .slice q7 NP c7) (B := wc.heap.size) (B2 := w6.heap.size) H.out hb8 (by rw [Hz.out]; omega) hw56 (fun g hg => (Ho6.out.lt g hg).2)
      (heap_setCell_same _ _ _ _ _ _ hh7.out) (by rw [← HNF.out]; exact own_keep (own_below Ho6.out hb7.out) fun g hg => heap_setCell_other _ _ _ _ (show g ≠ w.heap.size from fun e => by have := (Ho6.out.lt g hg).1; rw [Hz.out] at this; omega))
      (by rw [← HNP.out]; exact own_keep hown7.out fun g hg => heap_setCell_other _ _ _ _ (show g ≠ w.heap.size from fun e => by have := (hown7.out.lt g hg).1; omega))
    exact ⟨_, rfl, hfin, hb8⟩
end Go.Proofs.Herb
