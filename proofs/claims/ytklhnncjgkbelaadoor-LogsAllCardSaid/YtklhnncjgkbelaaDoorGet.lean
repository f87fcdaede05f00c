/- The contract of frames.Get: the record that stands at a place. For bytes that can be read, one thousand million at most. -/
import Derived.Test.YtklhnncjgkbelaaDoorNou
import Derived.Test.YtklhnncjgkbelaaDoorGet0
import Derived.Test.YtklhnncjgkbelaaDoorArrAt
import Derived.Test.YtklhnncjgkbelaaDoorApp
import Derived.StillTailTactics
import Derived.Deep.RegionHeld3
import Derived.IntWalk
import Derived.Stop.BytesEq
namespace Go.Proofs.Herb
open Go.RowKit
theorem frame_gen (n : Nat) (t : Array Value) (h : t.size = n) : t = ((List.range n).map fun i => t.getD i undef).toArray := by
  apply Array.ext
  · simp [h]
  · intro i h1 h2
    simp [h1]
theorem frame_lit (t : Array Value) (h : t.size = 123) : ∃ u : Nat → Value, t = (List.toArray (u 0 :: u 1 :: u 2 :: u 3 :: u 4 :: u 5 :: u 6 :: u 7 :: u 8 :: u 9 :: u 10 :: u 11 :: u 12 :: u 13 :: u 14 :: u 15 :: u 16 :: u 17 :: u 18 :: u 19 :: u 20 :: u 21 :: u 22 :: u 23 :: u 24 :: u 25 :: u 26 :: u 27 :: u 28 :: u 29 :: u 30 :: u 31 :: u 32 :: u 33 :: u 34 :: u 35 :: u 36 :: u 37 :: u 38 :: u 39 :: u 40 :: u 41 :: u 42 :: u 43 :: u 44 :: u 45 :: u 46 :: u 47 :: u 48 :: u 49 :: u 50 :: u 51 :: u 52 :: u 53 :: u 54 :: u 55 :: u 56 :: u 57 :: u 58 :: u 59 :: u 60 :: u 61 :: u 62 :: u 63 :: u 64 :: u 65 :: u 66 :: u 67 :: u 68 :: u 69 :: u 70 :: u 71 :: u 72 :: u 73 :: u 74 :: u 75 :: u 76 :: u 77 :: u 78 :: u 79 :: u 80 :: u 81 :: u 82 :: u 83 :: u 84 :: u 85 :: u 86 :: u 87 :: u 88 :: u 89 :: u 90 :: u 91 :: u 92 :: u 93 :: u 94 :: u 95 :: u 96 :: u 97 :: u 98 :: u 99 :: u 100 :: u 101 :: u 102 :: u 103 :: u 104 :: u 105 :: u 106 :: u 107 :: u 108 :: u 109 :: u 110 :: u 111 :: u 112 :: u 113 :: u 114 :: u 115 :: u 116 :: u 117 :: u 118 :: u 119 :: u 120 :: u 121 :: u 122 :: [])) := ⟨fun i => t.getD i undef, frame_gen 123 t h⟩
theorem run_eq4 (w : World) (S : BitVec 32) (x0 x1 x2 x3 : UInt8) :
    (Op.equalIn 10000 91 (.agg #[.int .u8 ((S.toNat : Int) % 256), .int .u8 ((S.toNat : Int) / 256 % 256), .int .u8 ((S.toNat : Int) / 65536 % 256), .int .u8 ((S.toNat : Int) / 16777216)])
      (.agg #[.int .u8 (x0.toNat : Int), .int .u8 (x1.toNat : Int), .int .u8 (x2.toNat : Int), .int .u8 (x3.toNat : Int)])).run Tryd.prog w = .ok ([sumByte S 1, sumByte S 256, sumByte S 65536, sumByte S 16777216] == [x0, x1, x2, x3]) w := by
  have hS := S.isLt
  obtain ⟨i, hi, _, hs, _⟩ := info_parts infoU8
  have h := run_equalIn_bytes (P := Tryd.prog) w 9998 91 5 4 Tryd.underlying91 Tryd.underlying5 (fun w => by simp [sizeOf, typeInfo, hi, hs]) [sumByte S 1, sumByte S 256, sumByte S 65536, sumByte S 16777216] [x0, x1, x2, x3] rfl rfl
  have e0 : (S.toNat : Int) % 256 = ((sumByte S 1).toNat : Int) := by rw [sumByte_toNat]; simp
  have e1 : (S.toNat : Int) / 256 % 256 = ((sumByte S 256).toNat : Int) := by rw [sumByte_toNat]; simp
  have e2 : (S.toNat : Int) / 65536 % 256 = ((sumByte S 65536).toNat : Int) := by rw [sumByte_toNat]; simp
  have e3 : (S.toNat : Int) / 16777216 = ((sumByte S 16777216).toNat : Int) := by rw [sumByte_toNat]; simp; omega
  rw [e0, e1, e2, e3]
  exact h
theorem head_iff (x0 x1 x2 x3 x4 x5 x6 : UInt8) (X : List UInt8) (M : Nat) (hM : M = x4.toNat + 256 * x5.toNat) (hX : X.length = M) (S : BitVec 32) (hS : crcMore 0 ([x4, x5, x6] ++ X) = S) :
    ([x0, x1, x2, x3, x4, x5, x6] = headList x6 X) ↔ ([sumByte S 1, sumByte S 256, sumByte S 65536, sumByte S 16777216] == [x0, x1, x2, x3]) = true := by
  have h4 := x4.toNat_lt
  have h5 := x5.toNat_lt
  have t4 : UInt8.ofNat X.length = x4 := by apply UInt8.toNat_inj.1; rw [UInt8.toNat_ofNat']; omega
  have t5 : UInt8.ofNat (X.length / 256) = x5 := by apply UInt8.toNat_inj.1; rw [UInt8.toNat_ofNat']; omega
  have hp : partSum x6 X = S := by unfold partSum tailOf; rw [t4, t5]; exact hS
  unfold headList tailOf
  rw [hp, t4, t5, beq_iff_eq]
  constructor
  · intro h; simp at h; simp [h.1, h.2.1, h.2.2.1, h.2.2.2]
  · intro h; simp at h; simp [h.1, h.2.1, h.2.2.1, h.2.2.2]
theorem bcell {W w1 : World} (hb : Below W.heap.size W w1) : (∀ b o, b < W.heap.size → w1.cell? ⟨b, o, none⟩ = W.cell? ⟨b, o, none⟩) ∧ (∀ b o, b < W.heap.size → w1.frozen? ⟨b, o, none⟩ = W.frozen? ⟨b, o, none⟩) :=
  ⟨fun b o h => hb.cell (p := ⟨b, o, none⟩) h, fun b o h => hb.frozen (p := ⟨b, o, none⟩) h⟩
set_option maxRecDepth 100000 in
set_option maxHeartbeats 4000000 in
theorem get_any (a : Option Addr) (n : Nat) (at0 : Nat) (l : List UInt8) (w : World) (hn : l.length = n) (hm : n ≤ 1000000000) (hat : at0 ≤ n) (hr : Rd w a (l.map bv)) :
    Calls Tryd.prog 30 #[.slice a n n, .int .i64 (at0 : Int)] w fun e w' => ∃ v, e = .returned (.tuple #[v, .int .i64 ((getOne l at0).2.1 : Int), .int .i64 (getOne l at0).2.2]) ∧ Fr w' w.heap.size 5 1 v (getOne l at0).1.length ((getOne l at0).1.map bv) ∧ Below w.heap.size w w' := by
  obtain ⟨F, hF⟩ : ∃ F, F = getOne l at0 := ⟨_, rfl⟩
  rw [← hF]
  have HF := hid hF
  have Hn := hid hn
  have Hr := hid hr
  clear hF hn hr
  go_enter Tryd.func30, Tryd.ntmps30
  go_wp2
  obtain ⟨J, hJ⟩ : ∃ J : Act → World → Prop, J = (fun a' w' => ∃ (at_ f : Nat) (begun : Bool) (rec : List UInt8) (q : Option Addr) (cq : Nat) (cur : Array Value) (t : Array Value), a' = { tmps := t, defers := [] } ∧ t.size = 123 ∧ t.getD 0 undef = .slice a n n ∧ t.getD 1 undef = .int .i64 (at_ : Int) ∧ t.getD 4 undef = .slice q rec.length cq ∧ t.getD 7 undef = .bool begun ∧ t.getD 8 undef = .pointer (some ⟨w.heap.size, 0, none⟩) ∧ at_ ≤ n ∧ n < f + at_ ∧ getF f l at_ begun rec = F ∧ rec.length ≤ at_ ∧ w'.heap[w.heap.size]? = some (.cells cur 85 (0, 0)) ∧ cur.size = 7 ∧ w'.ownsRow (w.heap.size + 1) 5 1 (.slice q rec.length cq) rec.length (rec.map bv) ∧ Below w.heap.size w w') := ⟨_, rfl⟩
  obtain ⟨R, hR⟩ : ∃ R : Act → World → Prop, R = (fun a' w' => ∃ (e0 : Int) (t : Array Value), a' = { tmps := t, defers := [] } ∧ t.size = 123 ∧ t.getD 6 undef = .int .i64 e0 ∧ F = ([], 0, e0) ∧ Below w.heap.size w w') := ⟨_, rfl⟩
  obtain ⟨μ, hμ⟩ : ∃ μ : Act → World → Nat, μ = (fun a' _ => n - (intOf (a'.tmps.getD 1 undef)).toNat) := ⟨_, rfl⟩
  have HJ := hid hJ
  have HR := hid hR
  have Hμ := hid hμ
  clear hJ hR hμ
  refine wp_scope_jumps2 1 0 J R μ rfl rfl ?pass ?halt ?first
  case first =>
    intro hp
    have HP := hid hp
    clear hp
    have b1 : decide ((n : Int) < (at0 : Int)) = false := by simp; omega
    have b0 : decide ((at0 : Int) < 0) = false := by simp
    by_cases h0 : at0 = n
    · subst h0
      have hF7 : F = ([], 0, 7) := by
        rw [HF.out]; unfold getOne; rw [if_neg (by rw [Hn.out]; omega), List.drop_of_length_le (by rw [Hn.out]; omega)]; rfl
      have hF7 := hid hF7
      clear HJ HR Hμ HP
      go_wp2_with (go_at_call 41; refine (noughts_any a 0 0 [] w rfl (by decide) (.inl rfl)).mono ?_; rintro e w' ⟨rfl, rfl⟩; rw [show zeros [] = true from rfl])
      (try rw [jump2_ret]); (try rw [Exit.noGoto_ret])
      go_ret3
      rw [hF7.out]
      exact ⟨_, rfl, Fr.of_own (own_nil22 _ _), Below.refl _ _⟩
    · obtain ⟨b, off, rfl, _⟩ := Hr.out.cell (k := 0) (by simp; have := Hn.out; omega)
      have hal : at0 < n := by omega
      have i1 : (at0 : Int) ≤ (n : Int) := by omega
      have hd : Rd w (some ⟨b, off + at0, none⟩) ((l.drop at0).map bv) := by rw [List.map_drop]; exact Hr.out.drop at0
      have hdl : (l.drop at0).length = n - at0 := by rw [List.length_drop, Hn.out]
      have Hd := hid hd
      have Hdl := hid hdl
      clear hd hdl
      have c1 : ¬ n = at0 := by omega
      cases hz : zeros (l.drop at0)
      · have Hz := hid hz
        have hFg : getF (n + 1) l at0 false [] = F := by
          rw [HF.out]; unfold getOne; rw [if_neg (by rw [Hn.out]; omega), if_neg (by rw [hz]; simp), Hn.out]
        have hFg := hid hFg
        clear hz
        go_wp2_with (go_at_call 41; refine (noughts_any _ _ (n - at0) (l.drop at0) w Hdl.out (by omega) Hd.out).mono ?_; rintro e w' ⟨rfl, rfl⟩; rw [Hz.out])
        apply wp_label
        simp only [Exit.then]
        rename_i hK
        refine hK _ _ (HP.out _ _ ?_)
        rw [HJ.out]
        exact ⟨at0, n + 1, false, [], none, 0, _, _, rfl, rfl, rfl, rfl, rfl, rfl, rfl, by omega, by omega, hFg.out, by simp, heap_alloc_new _ _, rfl, World.ownsRow_nil _ _ _ _, (Below.refl _ _).alloc (Nat.le_refl _) _⟩
      · have Hz := hid hz
        have hF7 : F = ([], 0, 7) := by
          rw [HF.out]; unfold getOne; rw [if_neg (by rw [Hn.out]; omega), if_pos hz]
        have hF7 := hid hF7
        clear HJ HR Hμ HP hz
        go_wp2_with (go_at_call 41; refine (noughts_any _ _ (n - at0) (l.drop at0) w Hdl.out (by omega) Hd.out).mono ?_; rintro e w' ⟨rfl, rfl⟩; rw [Hz.out])
        (try rw [jump2_ret]); (try rw [Exit.noGoto_ret])
        go_ret3
        rw [hF7.out]
        exact ⟨_, rfl, Fr.of_own (own_nil22 _ _), Below.refl _ _⟩
  case halt =>
    intro a' w' hra
    rw [HR.out] at hra
    obtain ⟨e0, t, rfl, hts, h6, hFe, hb⟩ := hra
    obtain ⟨u, rfl⟩ := frame_lit t hts
    change u 6 = _ at h6
    rw [h6]
    clear h6 hts
    have hFe := hid hFe
    have hb := hid hb
    clear HJ HR Hμ
    go_wp2
    (try rw [jump2_ret]); (try rw [Exit.noGoto_ret])
    go_ret3
    rw [hFe.out]
    exact ⟨_, rfl, Fr.of_own (own_nil22 _ _), hb.out⟩
  case pass =>
    intro a' w' hja
    rw [HJ.out] at hja
    obtain ⟨at_, f, begun, rec, q, cq, cur, t, rfl, hts, h0, h1, h4, h7, h8, hal, hf, hG, hrl, hcur, hcs, hown, hB⟩ := hja
    obtain ⟨u, rfl⟩ := frame_lit t hts
    change u 0 = _ at h0
    change u 1 = _ at h1
    change u 4 = _ at h4
    change u 7 = _ at h7
    change u 8 = _ at h8
    rw [h0, h1, h4, h7, h8]
    clear h0 h1 h4 h7 h8 hts
    obtain ⟨g, rfl⟩ : ∃ g, f = g + 1 := ⟨f - 1, by omega⟩
    rw [getF] at hG
    dsimp only at hG
    have Hown := hid hown
    have Hcur := hid hcur
    have Hcs := hid hcs
    have HB := hid hB
    have hBs := hB.size
    have hwl := lt_of_block hcur
    have Hrl := hid hrl
    have Hf := hid hf
    have HG := hid hG
    clear hown hcur hcs hB hrl hf hG
    obtain ⟨G, hGp⟩ : ∃ G, G = gapN at_ := ⟨_, rfl⟩
    have hGl : G < 7 := by rw [hGp]; exact gapN_lt at_
    have HGp := hid hGp
    clear hGp
    have Hrd : Hid (Rd w' a (l.map bv)) := Hr.out.below HB.out
    apply wp_seq_k
    intro K hK
    have HK := hid hK
    clear hK
    by_cases hz : zeros ((l.drop at_).take G) = false
    · have hG1 := HG.out
      rw [← HGp.out, if_pos hz] at hG1
      have HG1 := hid hG1
      have hG0 : 0 < G := by
        rcases Nat.eq_zero_or_pos G with h | h
        · rw [h, List.take_zero] at hz; cases hz
        · exact h
      have hlt : at_ < n := by
        rcases Nat.lt_or_ge at_ n with h | h
        · exact h
        · rw [List.drop_of_length_le (by rw [Hn.out]; omega), List.take_nil] at hz; cases hz
      have hGe : G = 256 - at_ % 256 := by
        have := HGp.out; unfold gapN at this; split at this
        · exact this
        · omega
      have hx : 256 - (at_ : Int) % 256 = (G : Int) := by omega
      have b2 : decide ((G : Int) < 7) = true := by simp; omega
      have Hx := hid hx
      have Hz := hid hz
      clear hGe hx hG1 hz
      obtain ⟨b, off, rfl, _⟩ := Hrd.out.cell (k := 0) (by simp; have := Hn.out; omega)
      have hzl : ((l.drop at_).take G).length = min G (n - at_) := by rw [List.length_take, List.length_drop, Hn.out]
      have Hzl := hid hzl
      clear hzl
      have Hrz : Hid (Rd w' (some ⟨b, off + at_, none⟩) (((l.drop at_).take G).map bv)) := by
        show Rd _ _ _
        rw [List.map_take, List.map_drop]
        exact (Hrd.out.drop at_).take G
      have c1 : ¬ n = at_ := by omega
      by_cases hq : at_ + G ≤ n
      · have b4 : ¬ ((n : Int) < (at_ : Int) + (G : Int)) := by omega
        have b5 : (at_ : Int) + (G : Int) ≤ (n : Int) := by omega
        go_wp2_with (first
          | (go_at_call 37; refine (left_any _ (by omega) (by omega) _).mono ?_; rintro e w1 ⟨rfl, rfl⟩; rw [Hx.out])
          | (go_at_call 41; refine (noughts_any _ _ _ ((l.drop at_).take G) _ (by rw [Hzl.out]; omega) (by omega) Hrz.out).mono ?_; rintro e w1 ⟨rfl, rfl⟩; rw [Hz.out]))
        go_step3
        refine .inr ⟨rfl, ?_⟩
        rw [HR.out]
        exact ⟨4, _, rfl, rfl, rfl, HG1.out.symm, HB.out⟩
      · have b4 : (n : Int) < (at_ : Int) + (G : Int) := by omega
        have b5 : ¬ ((at_ : Int) + (G : Int) ≤ (n : Int)) := by omega
        go_wp2_with (first
          | (go_at_call 37; refine (left_any _ (by omega) (by omega) _).mono ?_; rintro e w1 ⟨rfl, rfl⟩; rw [Hx.out])
          | (go_at_call 41; refine (noughts_any _ _ _ ((l.drop at_).take G) _ (by rw [Hzl.out]; omega) (by omega) Hrz.out).mono ?_; rintro e w1 ⟨rfl, rfl⟩; rw [Hz.out]))
        go_step3
        refine .inr ⟨rfl, ?_⟩
        rw [HR.out]
        exact ⟨4, _, rfl, rfl, rfl, HG1.out.symm, HB.out⟩
    · have hz1 : zeros ((l.drop at_).take G) = true := by simpa using hz
      have Hz := hid hz1
      clear hz hz1
      go_cut [1] (fun s1 wc => s1 = .int .i64 ((at_ + G : Nat) : Int) ∧ wc = w')
      case first =>
        by_cases hg : 256 - at_ % 256 < 7
        · have hGe : G = 256 - at_ % 256 := by rw [HGp.out]; unfold gapN; rw [if_pos hg]
          have hx : 256 - (at_ : Int) % 256 = (G : Int) := by omega
          have b2 : decide ((G : Int) < 7) = true := by simp; omega
          have hG0 : 0 < G := by omega
          have Hx := hid hx
          clear hg hGe hx
          by_cases hE : at_ = n
          · subst hE
            have Hz0 := hid (show (l.drop at_).take G = [] by rw [List.drop_of_length_le (by rw [Hn.out]; omega)]; simp)
            have b3 : ¬ (at_ + G ≤ at_) := by omega
            have b4 : ¬ ((at_ : Int) + (G : Int) < (at_ : Int)) := by omega
            have b5 : (at_ : Int) < (at_ : Int) + (G : Int) := by omega
            go_wp2_with (first
              | (go_at_call 37; refine (left_any _ (by omega) (by omega) _).mono ?_; rintro e w1 ⟨rfl, rfl⟩; rw [Hx.out])
              | (go_at_call 41; refine (noughts_any a 0 0 [] _ rfl (by decide) (.inl rfl)).mono ?_; rintro e w1 ⟨rfl, rfl⟩; rw [show zeros [] = true from rfl]))
            go_meet
            case rel => exact ⟨by simp, rfl⟩
          · obtain ⟨b, off, rfl, _⟩ := Hrd.out.cell (k := 0) (by simp; have := Hn.out; omega)
            have hlt : at_ < n := by omega
            have hzl : ((l.drop at_).take G).length = min G (n - at_) := by rw [List.length_take, List.length_drop, Hn.out]
            have Hzl := hid hzl
            clear hzl
            have Hrz : Hid (Rd w' (some ⟨b, off + at_, none⟩) (((l.drop at_).take G).map bv)) := by
              show Rd _ _ _
              rw [List.map_take, List.map_drop]
              exact (Hrd.out.drop at_).take G
            have c1 : ¬ n = at_ := by omega
            by_cases hq : at_ + G ≤ n
            · have b4 : ¬ ((n : Int) < (at_ : Int) + (G : Int)) := by omega
              have b5 : (at_ : Int) + (G : Int) ≤ (n : Int) := by omega
              go_wp2_with (first
                | (go_at_call 37; refine (left_any _ (by omega) (by omega) _).mono ?_; rintro e w1 ⟨rfl, rfl⟩; rw [Hx.out])
                | (go_at_call 41; refine (noughts_any _ _ _ ((l.drop at_).take G) _ (by rw [Hzl.out]; omega) (by omega) Hrz.out).mono ?_; rintro e w1 ⟨rfl, rfl⟩; rw [Hz.out]))
              go_meet
              case rel => exact ⟨by simp, rfl⟩
            · have b4 : (n : Int) < (at_ : Int) + (G : Int) := by omega
              have b5 : ¬ ((at_ : Int) + (G : Int) ≤ (n : Int)) := by omega
              go_wp2_with (first
                | (go_at_call 37; refine (left_any _ (by omega) (by omega) _).mono ?_; rintro e w1 ⟨rfl, rfl⟩; rw [Hx.out])
                | (go_at_call 41; refine (noughts_any _ _ _ ((l.drop at_).take G) _ (by rw [Hzl.out]; omega) (by omega) Hrz.out).mono ?_; rintro e w1 ⟨rfl, rfl⟩; rw [Hz.out]))
              go_meet
              case rel => exact ⟨by simp, rfl⟩
        · have hGe : G = 0 := by rw [HGp.out]; unfold gapN; rw [if_neg hg]
          obtain ⟨X, hX⟩ : ∃ X : Nat, X = 256 - at_ % 256 := ⟨_, rfl⟩
          have hx : 256 - (at_ : Int) % 256 = (X : Int) := by omega
          have b2 : decide ((X : Int) < 7) = false := by simp; omega
          have Hx := hid hx
          have HGe := hid hGe
          clear hg hGe hx hX
          go_wp2_with (go_at_call 37; refine (left_any _ (by omega) (by omega) _).mono ?_; rintro e w1 ⟨rfl, rfl⟩; rw [Hx.out])
          go_meet
          case rel => exact ⟨by rw [HGe.out]; rfl, rfl⟩
      case rest =>
        obtain ⟨rfl, rfl⟩ := hcut
        refine HK.out _ _ ?_
        clear HK
        obtain ⟨A, hA⟩ : ∃ A, A = at_ + G := ⟨_, rfl⟩
        rw [← hA]
        have HA := hid hA
        have hAt : at_ ≤ A := by omega
        have i00 : (A : Int) < 2000000000 := by omega
        have hG2 := HG.out
        rw [← HGp.out, Hz.out, if_neg (by simp), ← hA] at hG2
        clear hA
        have i0 : (0 : Int) ≤ (A : Int) := by omega
        by_cases hs : n < A + 7
        · rw [if_pos (by rw [Hn.out]; exact hs)] at hG2
          have hG2 := hid hG2
          have b1 : decide ((n : Int) < (A : Int) + 7) = true := by simp; omega
          clear hs
          go_wp2
          go_step3
          refine .inr ⟨rfl, ?_⟩
          rw [HR.out]
          exact ⟨5, _, rfl, rfl, rfl, hG2.out.symm, HB.out⟩
        · rw [if_neg (by rw [Hn.out]; exact hs)] at hG2
          have b1 : decide ((n : Int) < (A : Int) + 7) = false := by simp; omega
          have hAn : A + 7 ≤ n := by omega
          clear hs
          obtain ⟨b, off, rfl, _⟩ := Hrd.out.cell (k := 0) (by simp; have := Hn.out; omega)
          have hrA := (Hrd.out.drop A)
          rw [← List.map_drop] at hrA
          have hlA : (l.drop A).length = n - A := by rw [List.length_drop, Hn.out]
          obtain ⟨x0, x1, x2, x3, x4, x5, x6, tl, htl⟩ : ∃ x0 x1 x2 x3 x4 x5 x6 tl, l.drop A = x0 :: x1 :: x2 :: x3 :: x4 :: x5 :: x6 :: tl := by
            match hd : l.drop A, hlA with
            | x0 :: x1 :: x2 :: x3 :: x4 :: x5 :: x6 :: tl, _ => exact ⟨x0, x1, x2, x3, x4, x5, x6, tl, rfl⟩
            | [], h => simp at h; omega
            | [_], h => simp at h; omega
            | [_, _], h => simp at h; omega
            | [_, _, _], h => simp at h; omega
            | [_, _, _, _], h => simp at h; omega
            | [_, _, _, _, _], h => simp at h; omega
            | [_, _, _, _, _, _], h => simp at h; omega
          have htl7 : l.drop (A + 7) = tl := by rw [← List.drop_drop, htl]; rfl
          rw [htl] at hG2 hrA
          rw [htl7] at hG2
          simp only [List.take_succ_cons, List.take_zero, List.getD_cons_succ, List.getD_cons_zero] at hG2
          obtain ⟨M, hM⟩ : ∃ M, M = x4.toNat + 256 * x5.toNat := ⟨_, rfl⟩
          rw [← hM] at hG2
          have hMl : M < 65536 := by have := x4.toNat_lt; have := x5.toNat_lt; omega
          have HM := hid hM
          have HG2 := hid hG2
          have Htl := hid htl7
          have Htl0 := hid htl
          have HlA := hid hlA
          have HrA := hid hrA
          clear hM hG2 htl7 htl hlA hrA
          have hce : ∀ j (x : UInt8), (x0 :: x1 :: x2 :: x3 :: x4 :: x5 :: x6 :: tl)[j]? = some x → wc.cell? ⟨b, off + A + j, none⟩ = some (.int .u8 (x.toNat : Int)) := fun j x hx => by
            rcases HrA.out with h | ⟨b', off', e, h⟩
            · simp at h
            · cases e
              exact h j _ (by rw [List.getElem?_map, hx]; rfl)
          have e0 := hce 0 x0 rfl
          have e1 := hce 1 x1 rfl
          have e2 := hce 2 x2 rfl
          have e3 := hce 3 x3 rfl
          have e4 := hce 4 x4 rfl
          have e5 := hce 5 x5 rfl
          have e6 := hce 6 x6 rfl
          clear hce
          rw [Nat.add_zero] at e0
          have i1 : (A : Int) ≤ (A : Int) + 7 := by omega
          have i2 : (A : Int) + 7 ≤ (n : Int) := by omega
          have i3 : ¬ n = A := by omega
          have hA7 := run_arrayAt7
          go_upto_region 16 with (refine wpList_store_blk rfl rfl 85 _ _ rfl _ _ _ _ rfl rfl Hcur.out (by rw [Hcs.out]; rfl) info244 (bv_one (l := [x0, x1, x2, x3, x4, x5, x6])) ?_)
          obtain ⟨w5, hw5⟩ : ∃ w5, wc.setRow w.heap.size (#[.int .u8 (x0.toNat : Int), .int .u8 (x1.toNat : Int), .int .u8 (x2.toNat : Int), .int .u8 (x3.toNat : Int), .int .u8 (x4.toNat : Int), .int .u8 (x5.toNat : Int), .int .u8 (x6.toNat : Int)]) = w5 := ⟨_, rfl⟩
          have hH5 : w5.heap[w.heap.size]? = some (.cells (#[.int .u8 (x0.toNat : Int), .int .u8 (x1.toNat : Int), .int .u8 (x2.toNat : Int), .int .u8 (x3.toNat : Int), .int .u8 (x4.toNat : Int), .int .u8 (x5.toNat : Int), .int .u8 (x6.toNat : Int)]) 85 (0, 0)) := by rw [← hw5]; exact setRow_heap _ _ _ _ _ _ Hcur.out
          have hB5 : Below w.heap.size w w5 := by rw [← hw5]; exact below_setRow HB.out (Nat.le_refl _) _
          have hO5 : w5.ownsRow (w.heap.size + 1) 5 1 (.slice q rec.length cq) rec.length (rec.map bv) := by rw [← hw5]; exact own_setRow Hown.out (by omega) _
          rw [hw5]
          have H5 := hid hH5
          have HB5 := hid hB5
          have HO5 := hid hO5
          clear hw5 hH5 hB5 hO5 e0 e1 e2 e3 e4 e5 e6 hA7
          have hrc : rec.length ≤ 4611686018427387904 := by have := Hrl.out; omega
          obtain ⟨ft, hft⟩ : ∃ ft, ft = fitsB x6.toNat begun M (roomN at_) rec.length := ⟨_, rfl⟩
          obtain ⟨rm, hrm0⟩ : ∃ rm, rm = roomN at_ := ⟨_, rfl⟩
          obtain ⟨Y, hY⟩ : ∃ Y : Nat, Y = 256 - A % 256 := ⟨_, rfl⟩
          have hrm1 : (Y : Int) - 7 = (rm : Int) := by rw [hY, hrm0, HA.out, HGp.out]; unfold roomN gapN; split <;> omega
          have hYx : 256 - (A : Int) % 256 = (Y : Int) := by rw [hY]; omega
          have hY2 : (Y : Int) ≤ 256 := by omega
          rw [← hrm0] at hft
          have Hrm0 := hid hrm0
          have Hrm1 := hid hrm1
          have HYx := hid hYx
          have hrml : rm ≤ 65536 := by rw [hrm0]; have := roomN_le at_; omega
          clear hrm0 hrm1 hYx hY
          have HHt := hid hft
          have r0 : w5.cell? ⟨w.heap.size, 0, none⟩ = some (.int .u8 (x0.toNat : Int)) := by rw [cell_of_row w5 w.heap.size 0 _ _ _ H5.out]; rfl
          have r1 : w5.cell? ⟨w.heap.size, 1, none⟩ = some (.int .u8 (x1.toNat : Int)) := by rw [cell_of_row w5 w.heap.size 1 _ _ _ H5.out]; rfl
          have r2 : w5.cell? ⟨w.heap.size, 2, none⟩ = some (.int .u8 (x2.toNat : Int)) := by rw [cell_of_row w5 w.heap.size 2 _ _ _ H5.out]; rfl
          have r3 : w5.cell? ⟨w.heap.size, 3, none⟩ = some (.int .u8 (x3.toNat : Int)) := by rw [cell_of_row w5 w.heap.size 3 _ _ _ H5.out]; rfl
          have r4 : w5.cell? ⟨w.heap.size, 4, none⟩ = some (.int .u8 (x4.toNat : Int)) := by rw [cell_of_row w5 w.heap.size 4 _ _ _ H5.out]; rfl
          have r5 : w5.cell? ⟨w.heap.size, 5, none⟩ = some (.int .u8 (x5.toNat : Int)) := by rw [cell_of_row w5 w.heap.size 5 _ _ _ H5.out]; rfl
          have r6 : w5.cell? ⟨w.heap.size, 6, none⟩ = some (.int .u8 (x6.toNat : Int)) := by rw [cell_of_row w5 w.heap.size 6 _ _ _ H5.out]; rfl
          clear hft
          clear r0 r1 r2 r3 r4 r5 r6
          go_cut [63] (fun s63 wd => s63 = .bool (!ft) ∧ Below w5.heap.size w5 wd)
          case first =>
            refine wp_region_still_tail 7 (by kernel_rfl) (by kernel_rfl) ?_
            simp only [List.take_succ_cons, List.take_zero, List.drop_succ_cons, List.drop_zero]
            change wpStill Tryd.prog _ w5.drew (fun a' => wpList _ _ _ _ a' w5.drew) _ _
            obtain ⟨w6, hw6, hB6⟩ : ∃ w6, w5.drew = w6 ∧ Below w5.heap.size w5 w6 := ⟨_, rfl, (Below.refl _ _).drew⟩
            have hH6 := (hB6.block w.heap.size (lt_of_block H5.out)).trans H5.out
            rw [hw6]
            have HB6 := hid hB6
            clear hw6 hB6
            have r0 : w6.cell? ⟨w.heap.size, 0, none⟩ = some (.int .u8 (x0.toNat : Int)) := by rw [cell_of_row w6 w.heap.size 0 _ _ _ hH6]; rfl
            have r1 : w6.cell? ⟨w.heap.size, 1, none⟩ = some (.int .u8 (x1.toNat : Int)) := by rw [cell_of_row w6 w.heap.size 1 _ _ _ hH6]; rfl
            have r2 : w6.cell? ⟨w.heap.size, 2, none⟩ = some (.int .u8 (x2.toNat : Int)) := by rw [cell_of_row w6 w.heap.size 2 _ _ _ hH6]; rfl
            have r3 : w6.cell? ⟨w.heap.size, 3, none⟩ = some (.int .u8 (x3.toNat : Int)) := by rw [cell_of_row w6 w.heap.size 3 _ _ _ hH6]; rfl
            have r4 : w6.cell? ⟨w.heap.size, 4, none⟩ = some (.int .u8 (x4.toNat : Int)) := by rw [cell_of_row w6 w.heap.size 4 _ _ _ hH6]; rfl
            have r5 : w6.cell? ⟨w.heap.size, 5, none⟩ = some (.int .u8 (x5.toNat : Int)) := by rw [cell_of_row w6 w.heap.size 5 _ _ _ hH6]; rfl
            have r6 : w6.cell? ⟨w.heap.size, 6, none⟩ = some (.int .u8 (x6.toNat : Int)) := by rw [cell_of_row w6 w.heap.size 6 _ _ _ hH6]; rfl
            clear hH6
            still_step
            still_step
            still_step
            still_call ((left_any _ (by omega) (by omega) _).mono (fun _ _ h => ⟨h.1, h.2.symm⟩))
            rw [HYx.out]
            still_step
            still_step
            still_step
            refine wpStill_nil ?_
            go_wp2_with (go_at_call 42; rw [Hrm1.out]; refine (fits_any _ _ _ _ x4 x5 x6 begun rm rec.length hrml hrc _).mono ?_; rintro e w1 ⟨rfl, hb1⟩; rw [← HM.out, ← HHt.out]; have HB7 := hid (HB6.out.trans (hb1.mono HB6.out.size)); clear hb1)
            go_meet
            case rel => exact ⟨rfl, HB7.out⟩
          case rest =>
            obtain ⟨rfl, hB7⟩ := hcut
            have HB7 := hid hB7
            rename_i hK2
            refine hK2 _ _ ?_
            clear hK2 hB7
            have HB8 := hid (HB5.out.trans (HB7.out.mono HB5.out.size))
            cases ft
            · have hfx := HHt.out
              have hG3 := HG2.out
              rw [← Hrm0.out, ← hfx, if_pos rfl] at hG3
              have HG3 := hid hG3
              clear hfx hG3
              rw [Bool.not_false]
              go_wp2
              go_step3
              refine .inr ⟨rfl, ?_⟩
              rw [HR.out]
              exact ⟨4, _, rfl, rfl, rfl, HG3.out.symm, HB8.out⟩
            · have hfx := HHt.out
              have hG3 := HG2.out
              rw [← Hrm0.out, ← hfx, if_neg (by simp)] at hG3
              have hH8 := (HB7.out.block w.heap.size (lt_of_block H5.out)).trans H5.out
              have r0 : wc.cell? ⟨w.heap.size, 0, none⟩ = some (.int .u8 (x0.toNat : Int)) := by rw [cell_of_row wc w.heap.size 0 _ _ _ hH8]; rfl
              have r1 : wc.cell? ⟨w.heap.size, 1, none⟩ = some (.int .u8 (x1.toNat : Int)) := by rw [cell_of_row wc w.heap.size 1 _ _ _ hH8]; rfl
              have r2 : wc.cell? ⟨w.heap.size, 2, none⟩ = some (.int .u8 (x2.toNat : Int)) := by rw [cell_of_row wc w.heap.size 2 _ _ _ hH8]; rfl
              have r3 : wc.cell? ⟨w.heap.size, 3, none⟩ = some (.int .u8 (x3.toNat : Int)) := by rw [cell_of_row wc w.heap.size 3 _ _ _ hH8]; rfl
              have r4 : wc.cell? ⟨w.heap.size, 4, none⟩ = some (.int .u8 (x4.toNat : Int)) := by rw [cell_of_row wc w.heap.size 4 _ _ _ hH8]; rfl
              have r5 : wc.cell? ⟨w.heap.size, 5, none⟩ = some (.int .u8 (x5.toNat : Int)) := by rw [cell_of_row wc w.heap.size 5 _ _ _ hH8]; rfl
              have r6 : wc.cell? ⟨w.heap.size, 6, none⟩ = some (.int .u8 (x6.toNat : Int)) := by rw [cell_of_row wc w.heap.size 6 _ _ _ hH8]; rfl
              have HH8 := hid hH8
              clear hfx hH8
              rw [Bool.not_true]
              by_cases hL : n < A + 7 + M
              · rw [if_pos (by rw [Hn.out]; exact hL)] at hG3
                have HG3 := hid hG3
                have b2 : decide ((n : Int) < (A : Int) + 7 + (M : Int)) = true := by simp; omega
                clear hG3 hL
                go_wp2_with (go_at_call 43; refine (many_any _ _ _ _ _ x4 x5 _).mono ?_; rintro e w1 ⟨rfl, hb1⟩; rw [← HM.out]; have HB9 := hid (HB8.out.trans (hb1.mono HB8.out.size)); clear hb1)
                go_step3
                refine .inr ⟨rfl, ?_⟩
                rw [HR.out]
                exact ⟨5, _, rfl, rfl, rfl, HG3.out.symm, HB9.out⟩
              · rw [if_neg (by rw [Hn.out]; exact hL)] at hG3
                have HG3 := hid hG3
                have b2 : decide ((n : Int) < (A : Int) + 7 + (M : Int)) = false := by simp; omega
                clear hG3
                have b3 : (A : Int) + 7 + (M : Int) ≤ (n : Int) := by omega
                clear hL
                go_wp2_with (go_at_call 43; refine (many_any _ _ _ _ _ x4 x5 _).mono ?_; rintro e w1 ⟨rfl, hb1⟩; rw [← HM.out]; have HB9 := hid (HB7.out.trans (hb1.mono HB7.out.size)); clear hb1)
                clear r0 r1 r2 r3 r4 r5 r6
                have hH9 := (HB9.out.block w.heap.size (lt_of_block H5.out)).trans H5.out
                have r0 : w1.cell? ⟨w.heap.size, 0, none⟩ = some (.int .u8 (x0.toNat : Int)) := by rw [cell_of_row w1 w.heap.size 0 _ _ _ hH9]; rfl
                have r1 : w1.cell? ⟨w.heap.size, 1, none⟩ = some (.int .u8 (x1.toNat : Int)) := by rw [cell_of_row w1 w.heap.size 1 _ _ _ hH9]; rfl
                have r2 : w1.cell? ⟨w.heap.size, 2, none⟩ = some (.int .u8 (x2.toNat : Int)) := by rw [cell_of_row w1 w.heap.size 2 _ _ _ hH9]; rfl
                have r3 : w1.cell? ⟨w.heap.size, 3, none⟩ = some (.int .u8 (x3.toNat : Int)) := by rw [cell_of_row w1 w.heap.size 3 _ _ _ hH9]; rfl
                have r4 : w1.cell? ⟨w.heap.size, 4, none⟩ = some (.int .u8 (x4.toNat : Int)) := by rw [cell_of_row w1 w.heap.size 4 _ _ _ hH9]; rfl
                have r5 : w1.cell? ⟨w.heap.size, 5, none⟩ = some (.int .u8 (x5.toNat : Int)) := by rw [cell_of_row w1 w.heap.size 5 _ _ _ hH9]; rfl
                have r6 : w1.cell? ⟨w.heap.size, 6, none⟩ = some (.int .u8 (x6.toNat : Int)) := by rw [cell_of_row w1 w.heap.size 6 _ _ _ hH9]; rfl
                have HH9 := hid hH9
                have hw9 : w.heap.size < w1.heap.size := lt_of_block hH9
                clear hH9
                have HB10 := hid (HB5.out.trans (HB9.out.mono HB5.out.size))
                obtain ⟨X, hX⟩ : ∃ X, X = tl.take M := ⟨_, rfl⟩
                have hXl : X.length = M := by
                  have h1 := HlA.out; rw [Htl0.out] at h1; simp only [List.length_cons] at h1
                  rw [hX, List.length_take]; omega
                have hG3 := HG3.out
                rw [← hX] at hG3
                have HX := hid hX
                have HXl := hid hXl
                have HG4 := hid hG3
                clear hX hXl hG3
                obtain ⟨S, hS⟩ : ∃ S, crcMore 0 ([x4, x5, x6] ++ X) = S := ⟨_, rfl⟩
                have HS := hid hS
                clear hS
                have j0 : (0 : Int) ≤ (A : Int) + 7 := by omega
                have j1 : (A : Int) + 7 ≤ (A : Int) + 7 + (M : Int) := by omega
                have j2 : IntKind.i64.wrap ((A : Int) + 7 + (M : Int)) = (A : Int) + 7 + (M : Int) := IntWalk.i64_in _ (by omega)
                go_cut [11] (fun s11 wd => s11 = .int .u32 (S.toNat : Int) ∧ Below w1.heap.size w1 wd)
                case first =>
                  rename_i J9 K9 hJ9 hK9
                  have HRX : Hid (∀ w2, Below w1.heap.size w1 w2 → Rd w2 (if n = ((A : Int) + 7).toNat then some ⟨b, off, none⟩ else some ⟨b, off + ((A : Int) + 7).toNat, none⟩) (X.map bv)) := by
                    intro w2 h2
                    split
                    · have h0 : X = [] := List.eq_nil_of_length_eq_zero (by have := HXl.out; omega)
                      exact .inl (by rw [h0]; rfl)
                    · have h3 := (Hr.out.below (HB10.out.trans (h2.mono HB10.out.size))).drop (A + 7)
                      rw [show ((A : Int) + 7).toNat = A + 7 from by omega, HX.out, ← Htl.out, List.map_take, List.map_drop]
                      exact h3.take M
                  have HM2 := hid (show ((A : Int) + 7 + (M : Int)).toNat - ((A : Int) + 7).toNat = M from by omega)
                  go_region_held3 (fun w' => w'.cell? ⟨w.heap.size, 0, none⟩ = some (.int .u8 (x0.toNat : Int)) ∧ w'.cell? ⟨w.heap.size, 1, none⟩ = some (.int .u8 (x1.toNat : Int)) ∧ w'.cell? ⟨w.heap.size, 2, none⟩ = some (.int .u8 (x2.toNat : Int)) ∧ w'.cell? ⟨w.heap.size, 3, none⟩ = some (.int .u8 (x3.toNat : Int)) ∧ w'.cell? ⟨w.heap.size, 4, none⟩ = some (.int .u8 (x4.toNat : Int)) ∧ w'.cell? ⟨w.heap.size, 5, none⟩ = some (.int .u8 (x5.toNat : Int)) ∧ w'.cell? ⟨w.heap.size, 6, none⟩ = some (.int .u8 (x6.toNat : Int))) (first | exact ⟨r0, r1, r2, r3, r4, r5, r6⟩ | exact ⟨(HB2.out.cell (p := ⟨w.heap.size, 0, none⟩) hw9).trans r0, (HB2.out.cell (p := ⟨w.heap.size, 1, none⟩) hw9).trans r1, (HB2.out.cell (p := ⟨w.heap.size, 2, none⟩) hw9).trans r2, (HB2.out.cell (p := ⟨w.heap.size, 3, none⟩) hw9).trans r3, (HB2.out.cell (p := ⟨w.heap.size, 4, none⟩) hw9).trans r4, (HB2.out.cell (p := ⟨w.heap.size, 5, none⟩) hw9).trans r5, (HB2.out.cell (p := ⟨w.heap.size, 6, none⟩) hw9).trans r6⟩ | exact ⟨(HB3.out.cell (p := ⟨w.heap.size, 0, none⟩) hw9).trans r0, (HB3.out.cell (p := ⟨w.heap.size, 1, none⟩) hw9).trans r1, (HB3.out.cell (p := ⟨w.heap.size, 2, none⟩) hw9).trans r2, (HB3.out.cell (p := ⟨w.heap.size, 3, none⟩) hw9).trans r3, (HB3.out.cell (p := ⟨w.heap.size, 4, none⟩) hw9).trans r4, (HB3.out.cell (p := ⟨w.heap.size, 5, none⟩) hw9).trans r5, (HB3.out.cell (p := ⟨w.heap.size, 6, none⟩) hw9).trans r6⟩) (first
                    | (go_at_call 43; refine (many_any _ _ _ _ _ x4 x5 _).mono ?_; rintro e w2 ⟨rfl, hb2⟩; rw [← HM.out]; have hB2 := (((Below.refl w1.heap.size w1).drew).trans hb2); have HB2 := hid hB2; clear hb2 hB2; dsimp only)
                    | (go_at_call 44; rw [HM2.out]; refine (hsum_any _ _ _ _ x4 x5 x6 _ M _ X _ HXl.out (by omega) (HRX.out _ HB2.out)).mono ?_; rintro e w3 ⟨rfl, hb3⟩; rw [HS.out]; have hB3 := (HB2.out.trans (hb3.mono HB2.out.size)); have HB3 := hid hB3; clear hb3 hB3; dsimp only))
                  refine hK9 _ _ (Met.intro (hJ9 _ _ ?_))
                  (repeat apply Exists.intro)
                  exact ⟨⟨rfl, HB3.out⟩, rfl⟩
                case rest =>
                  obtain ⟨rfl, hB11⟩ := hcut
                  rename_i hK3
                  refine hK3 _ _ ?_
                  clear hK3
                  have HB11 := hid hB11
                  have HB12 := hid (HB10.out.trans (hB11.mono HB10.out.size))
                  have hH12 := (hB11.block w.heap.size hw9).trans HH9.out
                  clear r0 r1 r2 r3 r4 r5 r6 hB11
                  have r0 : wc.cell? ⟨w.heap.size, 0, none⟩ = some (.int .u8 (x0.toNat : Int)) := by rw [cell_of_row wc w.heap.size 0 _ _ _ hH12]; rfl
                  have r1 : wc.cell? ⟨w.heap.size, 1, none⟩ = some (.int .u8 (x1.toNat : Int)) := by rw [cell_of_row wc w.heap.size 1 _ _ _ hH12]; rfl
                  have r2 : wc.cell? ⟨w.heap.size, 2, none⟩ = some (.int .u8 (x2.toNat : Int)) := by rw [cell_of_row wc w.heap.size 2 _ _ _ hH12]; rfl
                  have r3 : wc.cell? ⟨w.heap.size, 3, none⟩ = some (.int .u8 (x3.toNat : Int)) := by rw [cell_of_row wc w.heap.size 3 _ _ _ hH12]; rfl
                  have r4 : wc.cell? ⟨w.heap.size, 4, none⟩ = some (.int .u8 (x4.toNat : Int)) := by rw [cell_of_row wc w.heap.size 4 _ _ _ hH12]; rfl
                  have r5 : wc.cell? ⟨w.heap.size, 5, none⟩ = some (.int .u8 (x5.toNat : Int)) := by rw [cell_of_row wc w.heap.size 5 _ _ _ hH12]; rfl
                  have r6 : wc.cell? ⟨w.heap.size, 6, none⟩ = some (.int .u8 (x6.toNat : Int)) := by rw [cell_of_row wc w.heap.size 6 _ _ _ hH12]; rfl
                  have HH12 := hid hH12
                  clear hH12
                  have hSl := S.isLt
                  have hA4 := run_arrayAt4
                  obtain ⟨E, hE⟩ : ∃ E, E = ([sumByte S 1, sumByte S 256, sumByte S 65536, sumByte S 16777216] == [x0, x1, x2, x3]) := ⟨_, rfl⟩
                  have heq := fun w' => run_eq4 w' S x0 x1 x2 x3
                  rw [← hE] at heq
                  have hEi := head_iff x0 x1 x2 x3 x4 x5 x6 X M HM.out HXl.out S HS.out
                  rw [← hE] at hEi
                  have hG5 := HG4.out
                  have HO13 := hid (own_below HO5.out (HB9.out.trans (HB11.out.mono HB9.out.size)))
                  clear hE
                  cases E
                  · rw [if_pos (by intro e; have := hEi.1 e; cases this)] at hG5
                    have HG5 := hid hG5
                    clear hG5 hEi
                    go_wp2
                    go_step3
                    refine .inr ⟨rfl, ?_⟩
                    rw [HR.out]
                    exact ⟨6, _, rfl, rfl, rfl, HG5.out.symm, HB12.out⟩
                  · rw [if_neg (by intro e; exact e (hEi.2 rfl))] at hG5
                    have HG5 := hid hG5
                    clear hG5 hEi
                    go_upto_region 24 with fail
                    clear heq hA4
                    go_cut [4] (fun s4 wd => ∃ q' cq', s4 = .slice q' (rec ++ X).length cq' ∧ wd.ownsRow (w.heap.size + 1) 5 1 (.slice q' (rec ++ X).length cq') (rec ++ X).length ((rec ++ X).map bv) ∧ wd.heap[w.heap.size]? = some (.cells (#[.int .u8 (x0.toNat : Int), .int .u8 (x1.toNat : Int), .int .u8 (x2.toNat : Int), .int .u8 (x3.toNat : Int), .int .u8 (x4.toNat : Int), .int .u8 (x5.toNat : Int), .int .u8 (x6.toNat : Int)]) 85 (0, 0)) ∧ Below w.heap.size w wd)
                    case first =>
                      have HRX : Hid (∀ w2 a, Below wc.heap.size wc w2 → (n ≠ A + 7 → a = some ⟨b, off + (A + 7), none⟩) → Rd w2 a (X.map bv)) := by
                        intro w2 a h2 ha
                        by_cases hE7 : n = A + 7
                        · have h0 : X = [] := List.eq_nil_of_length_eq_zero (by have := HXl.out; omega)
                          exact .inl (by rw [h0]; rfl)
                        · rw [ha hE7]
                          have h3 := (Hr.out.below (HB12.out.trans (h2.mono HB12.out.size))).drop (A + 7)
                          rw [HX.out, ← Htl.out, List.map_take, List.map_drop]
                          exact h3.take M
                      have hXle : rec.length ≤ 1000000000 := by have := Hrl.out; omega
                      by_cases hE7 : n = A + 7
                      · subst hE7
                        go_wp2_with (first
                          | (go_at_call 43; refine (many_any _ _ _ _ _ x4 x5 _).mono ?_; rintro e w2 ⟨rfl, hb2⟩; rw [← HM.out]; have HB2 := hid hb2; clear hb2)
                          | (refine app22 rfl (.tmp 98) (.tmp 105) rfl (w.heap.size + 1) q rec.length cq rec rfl (own_below HO13.out HB2.out) _ _ _ X rfl (fun h => by cases h) (by rw [HXl.out]; omega) (HRX.out _ _ HB2.out (fun h => (h rfl).elim)) (by omega) (by have := HB2.out.size; have := lt_of_block HH12.out; omega) ?_; intro q3 c3 w3 G3; have G3 := hid G3))
                        go_meet
                        case rel => exact ⟨q3, c3, by rw [List.length_append, HXl.out], by have h := G3.out.own; rw [Nat.add_sub_cancel_left] at h; rw [List.length_append, HXl.out]; exact h, (G3.out.below.block w.heap.size (by omega)).trans ((HB2.out.block _ (lt_of_block HH12.out)).trans HH12.out), HB12.out.trans ((HB2.out.mono HB12.out.size).trans (G3.out.below.mono (by omega)))⟩
                      · have b7 : ¬ n = A + 7 := hE7
                        clear hE7
                        go_wp2_with (first
                          | (go_at_call 43; refine (many_any _ _ _ _ _ x4 x5 _).mono ?_; rintro e w2 ⟨rfl, hb2⟩; rw [← HM.out]; have HB2 := hid hb2; clear hb2)
                          | (refine app22 rfl (.tmp 98) (.tmp 105) rfl (w.heap.size + 1) q rec.length cq rec rfl (own_below HO13.out HB2.out) _ _ _ X rfl (fun h => by cases h) (by rw [HXl.out]; omega) (HRX.out _ _ HB2.out (fun _ => rfl)) (by omega) (by have := HB2.out.size; have := lt_of_block HH12.out; omega) ?_; intro q3 c3 w3 G3; have G3 := hid G3))
                        go_meet
                        case rel => exact ⟨q3, c3, by rw [List.length_append, HXl.out], by have h := G3.out.own; rw [Nat.add_sub_cancel_left] at h; rw [List.length_append, HXl.out]; exact h, (G3.out.below.block w.heap.size (by omega)).trans ((HB2.out.block _ (lt_of_block HH12.out)).trans HH12.out), HB12.out.trans ((HB2.out.mono HB12.out.size).trans (G3.out.below.mono (by omega)))⟩
                    case rest =>
                      obtain ⟨q', cq', rfl, hO14, hH14, hB14⟩ := hcut
                      rename_i hK4
                      refine hK4 _ _ ?_
                      have HO14 := hid hO14
                      have HH14 := hid hH14
                      have HB14 := hid hB14
                      have hw14 := lt_of_block hH14
                      clear hK4 hO14 hB14 r0 r1 r2 r3 r4 r5 r6
                      have r0 : wc.cell? ⟨w.heap.size, 0, none⟩ = some (.int .u8 (x0.toNat : Int)) := by rw [cell_of_row wc w.heap.size 0 _ _ _ hH14]; rfl
                      have r1 : wc.cell? ⟨w.heap.size, 1, none⟩ = some (.int .u8 (x1.toNat : Int)) := by rw [cell_of_row wc w.heap.size 1 _ _ _ hH14]; rfl
                      have r2 : wc.cell? ⟨w.heap.size, 2, none⟩ = some (.int .u8 (x2.toNat : Int)) := by rw [cell_of_row wc w.heap.size 2 _ _ _ hH14]; rfl
                      have r3 : wc.cell? ⟨w.heap.size, 3, none⟩ = some (.int .u8 (x3.toNat : Int)) := by rw [cell_of_row wc w.heap.size 3 _ _ _ hH14]; rfl
                      have r4 : wc.cell? ⟨w.heap.size, 4, none⟩ = some (.int .u8 (x4.toNat : Int)) := by rw [cell_of_row wc w.heap.size 4 _ _ _ hH14]; rfl
                      have r5 : wc.cell? ⟨w.heap.size, 5, none⟩ = some (.int .u8 (x5.toNat : Int)) := by rw [cell_of_row wc w.heap.size 5 _ _ _ hH14]; rfl
                      have r6 : wc.cell? ⟨w.heap.size, 6, none⟩ = some (.int .u8 (x6.toNat : Int)) := by rw [cell_of_row wc w.heap.size 6 _ _ _ hH14]; rfl
                      clear hH14
                      have hG6 := HG5.out
                      obtain ⟨Lr, hLr⟩ : ∃ Lr, Lr = (rec ++ X).length := ⟨_, rfl⟩
                      rw [← hLr]
                      have hv23 : Lr ≤ cq' ∧ cq' ≤ maxLen := by
                        obtain ⟨_, _, h1, h2, h3, _⟩ := (Fr.of_own HO14.out).shape
                        rw [Value.slice.injEq] at h1
                        rw [hLr, h1.2.2]; exact ⟨h2, h3⟩
                      have HLr := hid hLr
                      clear hLr
                      have Hv2 := hid hv23.1
                      have Hv3 := hid hv23.2
                      clear hv23
                      by_cases k2 : x6 = 2
                      · rw [if_pos (.inl k2)] at hG6
                        have HG6 := hid hG6
                        have e2 : ((x6.toNat : Int) == 2) = true := by rw [k2]; rfl
                        clear hG6 k2
                        go_wp2_with (go_at_call 43; refine (many_any _ _ _ _ _ x4 x5 _).mono ?_; rintro e w2 ⟨rfl, hb2⟩; rw [← HM.out]; have HB2 := hid hb2; have r6 := (hb2.cell (p := ⟨w.heap.size, 6, none⟩) hw14).trans r6; clear hb2)
                        go_step3
                        refine .inl ⟨rfl, ?_, ?_⟩
                        · rw [HJ.out]
                          exact ⟨A + 7 + M, g, true, rec ++ X, q', cq', _, _, rfl, rfl, rfl, by go_num, by rw [← HLr.out]; rfl, rfl, rfl, by omega, by have := Hf.out; omega, HG6.out, by rw [List.length_append, HXl.out]; have := Hrl.out; omega, (HB2.out.block _ (lt_of_block HH14.out)).trans HH14.out, rfl, own_below HO14.out HB2.out, HB14.out.trans (HB2.out.mono HB14.out.size)⟩
                        · rw [Hμ.out]
                          simp [intOf]
                          omega
                      · have e2 : ((x6.toNat : Int) == 2) = false := by
                          rw [beq_eq_false_iff_ne]; intro h; apply k2; apply UInt8.toNat_inj.1; rw [show (2 : UInt8).toNat = 2 from rfl]; omega
                        by_cases k3 : x6 = 3
                        · rw [if_pos (.inr k3)] at hG6
                          have HG6 := hid hG6
                          have e3 : ((x6.toNat : Int) == 3) = true := by rw [k3]; rfl
                          clear hG6 k2 k3
                          go_wp2_with (go_at_call 43; refine (many_any _ _ _ _ _ x4 x5 _).mono ?_; rintro e w2 ⟨rfl, hb2⟩; rw [← HM.out]; have HB2 := hid hb2; have r6 := (hb2.cell (p := ⟨w.heap.size, 6, none⟩) hw14).trans r6; clear hb2)
                          go_step3
                          refine .inl ⟨rfl, ?_, ?_⟩
                          · rw [HJ.out]
                            exact ⟨A + 7 + M, g, true, rec ++ X, q', cq', _, _, rfl, rfl, rfl, by go_num, by rw [← HLr.out]; rfl, rfl, rfl, by omega, by have := Hf.out; omega, HG6.out, by rw [List.length_append, HXl.out]; have := Hrl.out; omega, (HB2.out.block _ (lt_of_block HH14.out)).trans HH14.out, rfl, own_below HO14.out HB2.out, HB14.out.trans (HB2.out.mono HB14.out.size)⟩
                          · rw [Hμ.out]
                            simp [intOf]
                            omega
                        · rw [if_neg (by intro h; rcases h with h | h; exact k2 h; exact k3 h)] at hG6
                          have HG6 := hid hG6
                          have e3 : ((x6.toNat : Int) == 3) = false := by
                            rw [beq_eq_false_iff_ne]; intro h; apply k3; apply UInt8.toNat_inj.1; rw [show (3 : UInt8).toNat = 3 from rfl]; omega
                          clear hG6 k2 k3
                          go_wp2_with (first
                            | (go_at_call 43; refine (many_any _ _ _ _ _ x4 x5 _).mono ?_; rintro e w2 ⟨rfl, hb2⟩; rw [← HM.out]; have HB2 := hid hb2; have r6 := (hb2.cell (p := ⟨w.heap.size, 6, none⟩) hw14).trans r6; clear hb2)
                            | (go_at_call 23; refine (clip_bytes q' Lr cq' _ Hv2.out Hv3.out).mono ?_; rintro e w3 ⟨rfl, rfl⟩))
                          (try rw [jump2_ret]); (try rw [Exit.noGoto_ret])
                          go_ret3
                          rw [← HG6.out]
                          exact ⟨.slice q' Lr Lr, by simp, by rw [HLr.out]; exact ((Fr.of_own (own_below HO14.out HB2.out)).clip.mono (by omega)), HB14.out.trans (HB2.out.mono HB14.out.size)⟩
end Go.Proofs.Herb
