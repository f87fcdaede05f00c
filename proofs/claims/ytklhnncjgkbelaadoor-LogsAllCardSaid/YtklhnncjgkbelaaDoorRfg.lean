/- The contract of the reference's Get (frames). For bytes that can be read. -/
import Derived.Test.YtklhnncjgkbelaaDoorRfn
import Derived.Test.YtklhnncjgkbelaaDoorApp
namespace Go.Proofs.Herb
open Go.RowKit
theorem oneR_ok {b : List UInt8} {at_ had : Nat} {begun : Bool} (h : (oneR b at_ begun had).2.2.2 = 0) : (oneR b at_ begun had).2.2.1 ≤ b.length ∧ (oneR b at_ begun had).2.1.length + at_ + 7 ≤ (oneR b at_ begun had).2.2.1 ∧
    ((oneR b at_ begun had).1 = 1 ∨ (oneR b at_ begun had).1 = 2 ∨ (oneR b at_ begun had).1 = 3 ∨ (oneR b at_ begun had).1 = 4) := by
  unfold oneR at h ⊢
  dsimp only at h ⊢
  generalize (((b.drop (at_ + gapN at_)).take 7).getD 4 0).toNat + 256 * (((b.drop (at_ + gapN at_)).take 7).getD 5 0).toNat = N at h ⊢
  generalize ((b.drop (at_ + gapN at_)).take 7).getD 6 0 = k at h ⊢
  by_cases c1 : zeros ((b.drop at_).take (gapN at_)) = false
  · rw [if_pos c1] at h; cases h
  · rw [if_neg c1] at h ⊢
    by_cases c2 : b.length < at_ + gapN at_ + 7
    · rw [if_pos c2] at h; cases h
    · rw [if_neg c2] at h ⊢
      by_cases c3 : fitsB k.toNat begun N (roomN at_) had = false
      · rw [if_pos c3] at h; cases h
      · rw [if_neg c3] at h ⊢
        by_cases c4 : b.length < at_ + gapN at_ + 7 + N
        · rw [if_pos c4] at h; cases h
        · rw [if_neg c4] at h ⊢
          by_cases c5 : (b.drop (at_ + gapN at_)).take 7 ≠ headList k ((b.drop (at_ + gapN at_ + 7)).take N)
          · rw [if_pos c5] at h; cases h
          · rw [if_neg c5]
            refine ⟨by dsimp only; omega, by dsimp only; rw [List.length_take, List.length_drop]; omega, ?_⟩
            dsimp only
            unfold fitsB at c3
            have t : ∀ j : UInt8, k.toNat = j.toNat → k = j := fun j h => UInt8.toNat_inj.1 h
            by_cases k1 : k.toNat = 1
            · exact .inl (t 1 k1)
            · by_cases k2 : k.toNat = 2
              · exact .inr (.inl (t 2 k2))
              · by_cases k3 : k.toNat = 3
                · exact .inr (.inr (.inl (t 3 k3)))
                · by_cases k4 : k.toNat = 4
                  · exact .inr (.inr (.inr (t 4 k4)))
                  · rw [if_neg k1, if_neg k2, if_neg k3, if_neg k4] at c3
                    exact absurd rfl c3
theorem getF_one (f : Nat) (b : List UInt8) (at_ : Nat) (begun : Bool) (rec : List UInt8) : getF (f + 1) b at_ begun rec =
    if (oneR b at_ begun rec.length).2.2.2 ≠ 0 then ([], 0, (oneR b at_ begun rec.length).2.2.2) else
    if (oneR b at_ begun rec.length).1 = 2 ∨ (oneR b at_ begun rec.length).1 = 3 then getF f b (oneR b at_ begun rec.length).2.2.1 true (rec ++ (oneR b at_ begun rec.length).2.1) else (rec ++ (oneR b at_ begun rec.length).2.1, (oneR b at_ begun rec.length).2.2.1, 0) := by
  obtain ⟨r, hr⟩ : ∃ r, r = oneR b at_ begun rec.length := ⟨_, rfl⟩
  rw [← hr, getF]
  unfold oneR at hr
  dsimp only at hr ⊢
  generalize (((b.drop (at_ + gapN at_)).take 7).getD 4 0).toNat + 256 * (((b.drop (at_ + gapN at_)).take 7).getD 5 0).toNat = N at hr ⊢
  generalize ((b.drop (at_ + gapN at_)).take 7).getD 6 0 = k at hr ⊢
  by_cases c1 : zeros ((b.drop at_).take (gapN at_)) = false
  · rw [if_pos c1] at hr ⊢; subst hr; rfl
  · rw [if_neg c1] at hr ⊢
    by_cases c2 : b.length < at_ + gapN at_ + 7
    · rw [if_pos c2] at hr ⊢; subst hr; rfl
    · rw [if_neg c2] at hr ⊢
      by_cases c3 : fitsB k.toNat begun N (roomN at_) rec.length = false
      · rw [if_pos c3] at hr ⊢; subst hr; rfl
      · rw [if_neg c3] at hr ⊢
        by_cases c4 : b.length < at_ + gapN at_ + 7 + N
        · rw [if_pos c4] at hr ⊢; subst hr; rfl
        · rw [if_neg c4] at hr ⊢
          by_cases c5 : (b.drop (at_ + gapN at_)).take 7 ≠ headList k ((b.drop (at_ + gapN at_ + 7)).take N)
          · rw [if_pos c5] at hr ⊢; subst hr; rfl
          · rw [if_neg c5] at hr ⊢; subst hr
            dsimp only
            rw [if_neg (show ¬ ((0 : Int) ≠ 0) from fun h => h rfl)]
set_option maxRecDepth 100000 in
set_option maxHeartbeats 4000000 in
theorem ref_get (a : Option Addr) (n cb at0 : Nat) (l : List UInt8) (w : World) (hn : l.length = n) (hcb : n ≤ cb) (hm : n ≤ 1000000000) (hat : at0 ≤ n) (hr : Rd w a (l.map bv)) :
    Calls Tryd.prog 19 #[.slice a n cb, .int .i64 (at0 : Int)] w fun e w' => ∃ v, e = .returned (.tuple #[v, .int .i64 ((getOne l at0).2.1 : Int), .int .i64 (getOne l at0).2.2]) ∧ Fr w' w.heap.size 5 1 v (getOne l at0).1.length ((getOne l at0).1.map bv) ∧ Below w.heap.size w w' := by
  obtain ⟨F, hF⟩ : ∃ F, F = getOne l at0 := ⟨_, rfl⟩
  rw [← hF]
  by_cases hz : zeros (l.drop at0) = true
  · have hF7 : F = ([], 0, 7) := by
      rw [hF]; unfold getOne
      rw [if_neg (by omega), if_pos hz]
    have HNone := hid (show ∀ (q : Option Addr) (m c : Nat), (l.drop at0).length = m → Rd w q ((l.drop at0).map bv) → Calls Tryd.prog 31 #[.slice q m c] w fun e w' => e = .returned (.bool true) ∧ w = w' from fun q m c h1 h2 => by
      have h := ref_none q m c (l.drop at0) w h1 (by rw [← h1, List.length_drop]; omega) h2
      rw [hz] at h
      exact h)
    have HF7 := hid hF7
    have Hr := hid hr
    have Hn := hid hn
    have HD := hid (show (l.drop at0).length = n - at0 by rw [List.length_drop, hn])
    have i0 : (0 : Int) ≤ (at0 : Int) := by omega
    have i1 : (at0 : Int) ≤ (n : Int) := by omega
    clear hF7 hF hz hr hn
    by_cases hcap : n = at0
    · have hd0 : l.drop at0 = [] := List.eq_nil_of_length_eq_zero (by rw [HD.out]; omega)
      have HE := hid (show ∀ q : Option Addr, Rd w q ((l.drop at0).map bv) from fun q => by rw [hd0]; exact .inl rfl)
      have HL := hid (show (l.drop at0).length = 0 by rw [hd0]; rfl)
      clear hd0
      subst hcap
      go_enter Tryd.func19, Tryd.ntmps19
      go_wp2_with (go_at_call 31; refine (HNone.out _ _ _ HL.out (HE.out _)).mono ?_; rintro e w1 ⟨rfl, rfl⟩)
      all_goals go_ret3
      all_goals exact ⟨_, by rw [HF7.out]; rfl, by rw [HF7.out]; exact Fr.of_own (World.ownsRow_nil _ _ _ _), Below.refl _ _⟩
    · have hne : cb ≠ at0 := by omega
      rcases a with _ | ⟨B, o, m⟩
      · obtain ⟨b', o', e', -⟩ := Hr.out.cell (k := at0) (by rw [List.length_map, Hn.out]; omega)
        cases e'
      · obtain ⟨b', o', e', -⟩ := Hr.out.cell (k := at0) (by rw [List.length_map, Hn.out]; omega)
        cases e'
        have HRd := hid (show Rd w (some ⟨B, o + at0, none⟩) ((l.drop at0).map bv) from by have h := Hr.out.drop at0; rw [← List.map_drop] at h; exact h)
        go_enter Tryd.func19, Tryd.ntmps19
        go_wp2_with (go_at_call 31; refine (HNone.out _ _ _ HD.out HRd.out).mono ?_; rintro e w1 ⟨rfl, rfl⟩)
        go_ret3
        exact ⟨_, by rw [HF7.out]; rfl, by rw [HF7.out]; exact Fr.of_own (World.ownsRow_nil _ _ _ _), Below.refl _ _⟩
  · have hzf : zeros (l.drop at0) = false := by simpa using hz
    have hFg : F = getF (n + 1) l at0 false [] := by
      rw [hF]; unfold getOne
      rw [if_neg (by omega), if_neg hz, hn]
    have hne0 : n ≠ at0 := fun h => hz (by rw [List.drop_eq_nil_of_le (by omega)]; rfl)
    have hne : cb ≠ at0 := by omega
    obtain ⟨B, o, rfl, -⟩ := hr.cell (k := at0) (by rw [List.length_map, hn]; omega)
    have HNone := hid (show ∀ (c : Nat), Calls Tryd.prog 31 #[.slice (some ⟨B, o + at0, none⟩) (n - at0) c] w fun e w' => e = .returned (.bool false) ∧ w = w' from fun c => by
      have h := ref_none (some ⟨B, o + at0, none⟩) (n - at0) c (l.drop at0) w (by rw [List.length_drop, hn]) (by omega) (by have h := hr.drop at0; rw [← List.map_drop] at h; exact h)
      rw [hzf] at h
      exact h)
    have Hr := hid hr
    have Hn := hid hn
    have HFg := hid hFg
    have i0 : (0 : Int) ≤ (at0 : Int) := by omega
    have i1 : (at0 : Int) ≤ (n : Int) := by omega
    clear hF hz hzf hFg hr hn
    go_enter Tryd.func19, Tryd.ntmps19
    go_wp2_with (go_at_call 31; refine (HNone.out _).mono ?_; rintro e w1 ⟨rfl, rfl⟩)
    go_loopw [1, 7, 8] (fun i v bg wr => ∃ (A f : Nat) (B0 : Bool) (rec : List UInt8) (q : Option Addr) (c : Nat), i = .int .i64 (A : Int) ∧ v = .slice q rec.length c ∧ bg = .bool B0 ∧ A ≤ n ∧ n < f + A ∧ getF f l A B0 rec = F ∧ (B0 = false → rec.length = 0) ∧ rec.length ≤ A ∧ wr.ownsRow w.heap.size 5 1 (.slice q rec.length c) rec.length (rec.map bv) ∧ Below w.heap.size w wr) (fun i _ _ _ => n - (intOf i).toNat)
    case atStart => exact ⟨at0, n + 1, false, [], none, 0, rfl, rfl, rfl, hat, by omega, HFg.out.symm, fun _ => rfl, Nat.zero_le _, World.ownsRow_nil _ _ _ _, Below.refl _ _⟩
    case round =>
      obtain ⟨A, f, B0, rec, q, c, rfl, rfl, rfl, hA, hf, hg, hb0, hra, hown, hb⟩ := hrel
      obtain ⟨g, rfl⟩ : ∃ g, f = g + 1 := ⟨f - 1, by omega⟩
      rw [getF_one] at hg
      obtain ⟨r, hr⟩ : ∃ r, Hid (r = oneR l A B0 rec.length) := ⟨_, hid rfl⟩
      obtain ⟨RL, hRL⟩ : ∃ x, Hid (x = rec.length) := ⟨_, hid rfl⟩
      have HOne := hid (ref_one B o n cb A rec.length B0 l wr Hn.out hcb hm hA (by omega) hb0 (Hr.out.below hb))
      have HOk := hid (show r.2.2.2 = 0 → r.2.2.1 ≤ n ∧ r.2.1.length + A + 7 ≤ r.2.2.1 ∧ (r.1 = 1 ∨ r.1 = 2 ∨ r.1 = 3 ∨ r.1 = 4) from by rw [hr.out, ← Hn.out]; exact oneR_ok)
      rw [← hr.out] at hg HOne
      rw [← hRL.out] at hra hown HOne ⊢
      have HG := hid hg
      have HOwn := hid hown
      have HB := hid hb
      have hsr := hb.size
      clear hg hown hb hb0
      obtain ⟨k, x, nx, er⟩ := r
      dsimp only at HOne HOk HG
      go_wp2_with fail
      refine HOne.out.mono ?_
      rintro e w2 ⟨⟨qx, cx, rfl, hsrc⟩, hb2⟩
      have HB2 := hid hb2
      have HSrc := hid hsrc
      clear hb2 hsrc HOne
      by_cases he : er = 0
      · subst he
        obtain ⟨o1, o2, o3⟩ := HOk.out rfl
        obtain ⟨⟨bx, ox, rfl⟩, hrx, hcx⟩ := HSrc.out rfl
        have hg := HG.out
        rw [if_neg (show ¬ ((0 : Int) ≠ 0) from fun h => h rfl)] at hg
        have HG2 := hid hg
        have HRx := hid hrx
        have HO2 := hid (own_below HOwn.out HB2.out)
        have hs2 := HB2.out.size
        obtain ⟨XL, hXL⟩ : ∃ y, Hid (y = x.length) := ⟨_, hid rfl⟩
        rw [← hXL.out] at o2 hcx ⊢
        obtain ⟨KK, hKK⟩ : ∃ y, Hid (y = k.toNat) := ⟨_, hid rfl⟩
        rw [← hKK.out]
        have tk : ∀ j : UInt8, k = j ↔ KK = j.toNat := fun j => by rw [hKK.out]; exact UInt8.toNat_inj.symm
        have HNo := hid (show KK = 1 ∨ KK = 4 → F = (rec ++ x, nx, 0) from fun h => by
          have h1 := HG2.out
          rw [if_neg (by
            rintro (h' | h')
            · have := (tk 2).1 h'; have e2 : (2 : UInt8).toNat = 2 := rfl; omega
            · have := (tk 3).1 h'; have e3 : (3 : UInt8).toNat = 3 := rfl; omega)] at h1
          exact h1.symm)
        have HYes := hid (show KK ≠ 1 → KK ≠ 4 → getF g l nx true (rec ++ x) = F from fun h1 h4 => by
          have h := HG2.out
          rw [if_pos (by
            rcases o3 with h' | h' | h' | h'
            · exact absurd ((tk 1).1 h') h1
            · exact .inl h'
            · exact .inr h'
            · exact absurd ((tk 4).1 h') h4)] at h
          exact h)
        have HLen := hid (show (rec ++ x).length = RL + XL by rw [List.length_append, ← hRL.out, ← hXL.out])
        clear hg hrx HG HSrc HOk tk o3 HG2
        have fin : KK = 1 ∨ KK = 4 → ∀ (q3 : Option Addr) (c3 : Nat) (w3 : World), Grew w.heap.size w2 w3 q q3 (RL + XL) c3 (rec ++ x) →
            ∃ v, Ending.returned (.tuple #[.slice q3 (RL + XL) c3, .int .i64 (nx : Int), .int .i64 0]) = .returned (.tuple #[v, .int .i64 (F.2.1 : Int), .int .i64 F.2.2]) ∧ Fr w3 w.heap.size 5 1 v F.1.length (F.1.map bv) ∧ Below w.heap.size w w3 := fun h q3 c3 w3 G => by
          rw [HNo.out h]
          refine ⟨_, rfl, ?_, HB.out.trans ((HB2.out.mono hsr).trans G.below)⟩
          show Fr w3 w.heap.size 5 1 _ (rec ++ x).length ((rec ++ x).map bv)
          rw [HLen.out]
          exact G.fr
        have HFin := hid fin
        clear fin
        go_wp2_with (at_builtin; refine app22 rfl (.tmp 39) (.tmp 40) rfl w.heap.size q RL c rec rfl HO2.out (some ⟨bx, ox, none⟩) XL cx x rfl (fun h => by cases h) hXL.out.symm HRx.out (by omega) (by omega) ?_; intro q3 c3 w3 G3; have HG3 := hid G3; clear G3)
        · go_ret3
          exact HFin.out (.inl (by rename_i h; omega)) _ _ _ HG3.out
        · go_ret3
          exact HFin.out (.inr (by rename_i h1 h2; simp at h2; omega)) _ _ _ HG3.out
        · rename_i z1 z2
          have z4 : KK ≠ 4 := fun h => by have h2 := z2.2; rw [h] at h2; exact absurd h2 (by decide)
          refine ⟨⟨nx, g, true, rec ++ x, q3, c3, rfl, by rw [HLen.out], rfl, o1, by omega, HYes.out (by omega) z4, fun h => (by cases h), by rw [HLen.out]; omega, by rw [HLen.out]; exact HG3.out.own, HB.out.trans ((HB2.out.mono hsr).trans HG3.out.below)⟩, ?_⟩
          simp [intOf]; omega
      · have b1 : (er != 0) = true := by simpa using he
        have hg := HG.out
        rw [if_pos he] at hg
        have HF2 := hid hg
        clear hg HG
        go_wp2
        go_ret3
        rw [← HF2.out]
        exact ⟨_, rfl, Fr.of_own (World.ownsRow_nil _ _ _ _), HB.out.trans (HB2.out.mono hsr)⟩
end Go.Proofs.Herb
