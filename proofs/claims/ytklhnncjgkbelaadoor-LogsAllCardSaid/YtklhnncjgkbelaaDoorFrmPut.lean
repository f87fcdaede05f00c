/- The contract of frames.Put: the bytes of a record behind so many. For a record of 65536 bytes at most. -/
import Derived.Test.YtklhnncjgkbelaaDoorProg
import Derived.WalkLawsBesides
import Derived.WalkSpells
import Derived.Outline
import Derived.Deep.LoopGhost
import Derived.Deep.QuietTactic
import Derived.Deep.DeepCutAuto
import Derived.BigQuiet
import Derived.Test.YtklhnncjgkbelaaDoorFrm
namespace Go.Proofs.Herb
open Go.RowKit
theorem info241 : (Tryd.prog.info? 82).map (·.size) = some 2 := by kernel_rfl
set_option maxRecDepth 100000 in
set_option maxHeartbeats 1600000 in
theorem put_any (at_ : Nat) (a : Option Addr) (n c : Nat) (l : List UInt8) (w : World) (hat : at_ < 4611686018427387904) (hn : l.length = n) (hc : n ≤ c) (hm : n ≤ 65536) (hr : Rd w a (l.map bv)) (ha : a = none → c = 0) :
    Calls Tryd.prog 25 #[.int .i64 (at_ : Int), .slice a n c] w fun e w' => ∃ v, e = .returned (.tuple #[v, .int .i64 0]) ∧
      Fr w' w.heap.size 5 1 v (putRec (n + 2) (at_ % 256) false l).length ((putRec (n + 2) (at_ % 256) false l).map bv) ∧ Below w.heap.size w w' := by
  have Hn := hid hn
  have Hr := hid hr
  have Ha := hid ha
  clear hn hr ha
  obtain ⟨p, hp⟩ : ∃ p, p = at_ % 256 := ⟨_, rfl⟩
  have hpl : p < 256 := by omega
  have hp' : ((at_ : Int) % 256) = (p : Int) := by omega
  rw [← hp]
  have Hp := hid hp
  clear hp
  obtain ⟨F, hF⟩ : ∃ F, F = putRec (n + 2) p false l := ⟨_, rfl⟩
  rw [← hF]
  have HF := hid hF
  clear hF
  go_enter Tryd.func25, Tryd.ntmps25
  go_wp2_with fail
  rw [hp']
  clear hp' hat Hp
  go_loopg [1, 6] (n + 2) (fun f s1 s6 wr => ∃ (begun : Bool) (out rec : List UInt8) (a' : Option Addr) (c' : Nat), s1 = .slice a' rec.length c' ∧ rec.length ≤ c' ∧ (a' = none → c' = 0) ∧ wr.ownsRow (w.heap.size + 1) 5 1 s6 out.length (out.map bv) ∧
      wr.heap[w.heap.size]? = some (.cells #[.int .u8 ((kd begun false).toNat : Int), .int .u8 ((kd begun true).toNat : Int)] 82 (0, 0)) ∧ Rd w a' (rec.map bv) ∧ putFuel (p + out.length) begun rec f ∧ F = out ++ putRec f (p + out.length) begun rec ∧
      out.length + rec.length * 20 ≤ 65536 * 20 + (if begun then 13 else 0) ∧ Below w.heap.size w wr)
  case atStart => exact ⟨false, [], l, a, c, by rw [Hn.out], by rw [Hn.out]; exact hc, Ha.out, World.ownsRow_nil _ _ _ _, heap_alloc_new _ _, Hr.out, ⟨by simp, by rw [Hn.out]; simp⟩, HF.out, by rw [Hn.out]; simp; omega, (Below.refl _ _).alloc (Nat.le_refl _) _⟩
  case round =>
    obtain ⟨begun, out, rec, a', c', rfl, hc', ha', hown, hk, hrd, hfu, hfin, hlen, hb⟩ := hrel
    have Hown := hid hown
    have Ha' := hid ha'
    clear ha'
    have Hk := hid hk
    have Hrd := hid hrd
    have Hfu := hid hfu
    have Hfin := hid hfin
    have Hb := hid hb
    have hlen1 : out.length ≤ 1310733 := by cases begun <;> simp at hlen <;> omega
    have hlen2 : rec.length ≤ 65536 := by cases begun <;> simp at hlen <;> omega
    have Hlen := hid hlen
    clear hown hk hrd hfu hfin hb hlen
    obtain ⟨q, cq, rfl⟩ : ∃ q cq, u6 = .slice q out.length cq := by
      obtain ⟨a, c, h, _⟩ := (Fr.of_own Hown.out).shape
      exact ⟨a, c, h⟩
    obtain ⟨r, hr⟩ : ∃ r, r = (p + out.length) % 256 := ⟨_, rfl⟩
    have hrl : r < 256 := by omega
    have hpos : ((p : Int) + (out.length : Int)) % 256 = (r : Int) := by omega
    have HR := hid hr
    clear hr
    go_upto_if 28 with (go_at_call 37; refine (left_any _ (by omega) (by omega) _).mono ?_; rintro e w' ⟨rfl, rfl⟩; dsimp only)
    rw [hpos]
    obtain ⟨g, hg⟩ : ∃ g, g = gapN (p + out.length) := ⟨_, rfl⟩
    have HG := hid hg
    clear hg
    go_cut [6] (fun s6 wc => wc.ownsRow (w.heap.size + 1) 5 1 s6 (out.length + g) ((out ++ List.replicate g 0).map bv) ∧ (wc.heap[w.heap.size]? = some (.cells #[.int .u8 ((kd begun false).toNat : Int), .int .u8 ((kd begun true).toNat : Int)] 82 (0, 0))) ∧ Below w.heap.size w wc)
    case first =>
      by_cases hgl : r ≤ 249
      · have hg0 : g = 0 := by rw [HG.out]; unfold gapN; rw [← HR.out, if_neg (by omega)]
        have Hg0 := hid hg0
        clear hg0
        go_wp2
        go_meet
        case rel => exact ⟨by rw [Hg0.out]; simpa using Hown.out, Hk.out, Hb.out⟩
      · have hg1 : g = 256 - r := by rw [HG.out]; unfold gapN; rw [← HR.out, if_pos (by omega)]
        have Hg1 := hid hg1
        clear hg1
        go_wp2_with (refine wpList_append_zeros rfl (.tmp 29) (.tmp 30) 22 3 rfl (w.heap.size + 1) 5 (.int .u8 0) 1 .i64 Tryd.underlying22 Tryd.underlying3 infoU8 rfl rfl (.slice q out.length cq) out.length _ rfl Hown.out .i64 _ g rfl (by have := Hg1.out; omega) (by unfold maxLen; have := Hg1.out; omega) (by have := Hg1.out; omega) (by have := Hb.out.size; have := lt_of_block Hk.out; omega) ?_; intro v' w1 hown hgr hnil)
        go_meet
        case rel => exact ⟨by rw [List.map_append, ← bvs_zero]; exact hown, (hgr.block _ (lt_of_block Hk.out) (own_ne Hown.out (by omega))).trans Hk.out, Hb.out.grown hgr Hb.out.size (fun j e => by have := (Hown.out.lt j e).1; omega)⟩
    case rest =>
      obtain ⟨hown, hk, hb⟩ := hcut
      have hgl := gapN_lt (p + out.length)
      rw [← HG.out] at hgl
      obtain ⟨q2, cq2, rfl⟩ : ∃ q cq, u6 = .slice q (out.length + g) cq := by
        obtain ⟨a, c, h, _⟩ := (Fr.of_own hown).shape
        exact ⟨a, c, h⟩
      have Hown2 := hid hown
      have Hk2 := hid hk
      have Hb2 := hid hb
      clear hown hk hb hpos hrl Hown Hk
      obtain ⟨L2, hL2⟩ : ∃ L2, L2 = out.length + g := ⟨_, rfl⟩
      have hl2 : L2 ≤ 1310740 := by omega
      obtain ⟨R, hR⟩ : ∃ R, R = roomN (p + out.length) := ⟨_, rfl⟩
      have hR2 : 256 - ((p : Int) + (L2 : Int)) % 256 = (R : Int) + 7 := by
        rw [hR, hL2]
        unfold roomN
        rw [← HG.out]
        have : 7 ≤ 256 - (p + out.length + g) % 256 := by rw [HG.out]; unfold gapN; split <;> omega
        omega
      have hRl := roomN_le (p + out.length)
      rw [← hR] at hRl
      rw [← hL2]
      have HL2 := hid hL2
      have HR2 := hid hR
      clear hR hL2
      have hc0 : wc.cell? ⟨w.heap.size, 0, none⟩ = some (.int .u8 ((kd begun false).toNat : Int)) := by rw [cell_of_row _ _ _ _ _ _ Hk2.out]; rfl
      have hc1 : wc.cell? ⟨w.heap.size, 1, none⟩ = some (.int .u8 ((kd begun true).toNat : Int)) := by rw [cell_of_row _ _ _ _ _ _ Hk2.out]; rfl
      go_upto_if 46 with (go_at_call 37; refine (left_any _ (by omega) (by omega) _).mono ?_; rintro e w' ⟨rfl, rfl⟩; dsimp only; rw [hR2])
      obtain ⟨N, hN⟩ : ∃ N, N = if R < rec.length then R else rec.length := ⟨_, rfl⟩
      have hN' : (if R < rec.length then (R : Int) else (rec.length : Int)) = (N : Int) := by rw [hN]; split <;> rfl
      have hN1 : N ≤ rec.length := by rw [hN]; split <;> omega
      have hN2 : N ≤ 249 := by rw [hN]; split <;> omega
      rw [hN']
      obtain ⟨last, hla⟩ : ∃ last, ((N : Int) == (rec.length : Int)) = last := ⟨_, rfl⟩
      rw [hla]
      have HN := hid hN
      have HLA := hid hla
      clear hN hN' hla
      go_cut [10] (fun s10 wd => s10 = .int .u8 ((kd begun last).toNat : Int) ∧ wd = wc)
      case first =>
        cases last
        · go_wp2
          go_meet
          case rel => exact ⟨rfl, rfl⟩
        · go_wp2
          go_meet
          case rel => exact ⟨rfl, rfl⟩
      case rest =>
        obtain ⟨rfl, rfl⟩ := hcut
        clear hc0 hc1
        have hkk := (kd begun last).toNat_lt
        go_upto_region 16 with (first | (go_at_call 38; refine (headOf_any _ a' N c' (rec.take N) _ (by simp; omega) (by omega) (by rw [List.map_take]; exact (Hrd.out.below Hb2.out).take N)).mono ?_; rintro e w3 ⟨rfl, hb3⟩; have hz3 := hb3.size; have Hb3 := hid hb3; clear hb3; dsimp only) | (refine wpList_store_blk rfl rfl 85 _ _ rfl _ _ _ _ rfl rfl (heap_alloc_new _ _) rfl info244 bv_one ?_))
        obtain ⟨w4, hw4⟩ : ∃ w4, (w3.alloc (.cells #[.int .u8 0, .int .u8 0, .int .u8 0, .int .u8 0, .int .u8 0, .int .u8 0, .int .u8 0] 85)).setRow w3.heap.size ((headList (kd begun last) (rec.take N)).map bv).toArray = w4 := ⟨_, rfl⟩
        have hH4 : w4.heap[w3.heap.size]? = some (.cells ((headList (kd begun last) (rec.take N)).map bv).toArray 85 (0, 0)) := by rw [← hw4]; exact setRow_heap _ _ _ _ _ _ (heap_alloc_new _ _)
        have hB4 : Below w3.heap.size w3 w4 := by rw [← hw4]; exact below_setRow ((Below.refl _ _).alloc (Nat.le_refl _) _) (Nat.le_refl _) _
        rw [hw4]
        have HH4 := hid hH4
        have hs4 := hB4.size
        have HB4 := hid (Hb3.out.trans (hB4.mono hz3))
        clear hw4 hB4 hH4 Hb3
        have hgb := Hb2.out.size
        have hNc : N ≤ c' := by omega
        have hNc' : (N : Int) ≤ (c' : Int) := by omega
        have hgk := lt_of_block Hk2.out
        have hns : (List.map bv (rec.take N)).length = N := by simp; omega
        have Hns := hid hns
        clear hns
        go_cut [6] (fun s6 wd => wd.ownsRow (w.heap.size + 1) 5 1 s6 (L2 + 7 + N) ((out ++ List.replicate g 0 ++ partB (kd begun last) (rec.take N)).map bv) ∧ (wd.heap[w.heap.size]? = some (.cells #[.int .u8 ((kd begun false).toNat : Int), .int .u8 ((kd begun true).toNat : Int)] 82 (0, 0))) ∧ Below w.heap.size w wd)
        case first =>
          have hown4 : w4.drew.ownsRow (w.heap.size + 1) 5 1 (.slice q2 L2 cq2) L2 ((out ++ List.replicate g 0).map bv) := by rw [HL2.out]; exact (own_below Hown2.out HB4.out).drew
          have Hown4 := hid hown4
          clear hown4
          go_region_law (first
            | (refine step_append_rd rfl (.tmp 54) (.tmp 55) 22 rfl (w.heap.size + 1) 5 (.int .u8 0) 1 1 Tryd.underlying22 infoU8 rfl (by decide) (.slice q2 L2 cq2) L2 _ rfl Hown4.out _ 7 7 ((headList (kd begun last) (rec.take N)).map bv) rfl (fun h => by cases h) rfl (Rd.block HH4.out (fun j u hu => by simpa using hu)) bv_one (by unfold maxLen; omega) (by omega) (by simp; omega) ?_; intro v5 w5 hown5 hg5 hn5)
            | (refine step_append_rd rfl (.tmp 56) (.tmp 59) 22 rfl (w.heap.size + 1) 5 (.int .u8 0) 1 1 Tryd.underlying22 infoU8 rfl (by decide) _ (L2 + 7) _ rfl hown5 a' N c' ((rec.take N).map bv) rfl Ha'.out (by simp; omega) (by rw [List.map_take]; exact (Hrd.out.below (((Hb2.out.trans (HB4.out.mono hgb)).drew).grown hg5 (by simp; omega) (fun j e => by have := (Hown4.out.lt j e).1; have := Hb2.out.size; omega))).take N) bv_one (by unfold maxLen; omega) (by omega) (by have := hg5.size; simp at this; omega) ?_; intro v6 w6 hown6 hg6 hn6))
          go_wp2_with fail
          go_meet
          case rel =>
            have hlt5 := hg5.size
            simp at hlt5
            have hbw := Hown4.out
            have hk5 := (hg5.block w.heap.size (by simp; omega) (own_ne Hown4.out (by omega))).trans ((HB4.out.block w.heap.size hgk).trans Hk2.out)
            refine ⟨?_, (hg6.block w.heap.size (by omega) (own_ne hown5 (by omega))).trans hk5, ?_⟩
            · have e : (out ++ List.replicate g 0 ++ partB (kd begun last) (rec.take N)).map bv = ((out ++ List.replicate g 0).map bv ++ (headList (kd begun last) (rec.take N)).map bv) ++ (rec.take N).map bv := by simp [partB]
              rw [e]; exact hown6
            · have h1 : Below w.heap.size w w4.drew := (Hb2.out.trans (HB4.out.mono hgb)).drew
              have h2 := h1.grown hg5 (by simp; omega) (fun j e => by have := (Hown4.out.lt j e).1; omega)
              exact h2.grown hg6 (by omega) (fun j e => by have := (hown5.lt j e).1; omega)
        case rest =>
          obtain ⟨hown, hk, hb⟩ := hcut
          obtain ⟨q7, cq7, rfl⟩ : ∃ q cq, u6 = .slice q (L2 + 7 + N) cq := by
            obtain ⟨a, c, h, _⟩ := (Fr.of_own hown).shape
            exact ⟨a, c, h⟩
          obtain ⟨hcl, hcm⟩ : L2 + 7 + N ≤ cq7 ∧ cq7 ≤ maxLen := by
            obtain ⟨a, c, h, h1, h2, _⟩ := (Fr.of_own hown).shape
            simp at h; omega
          have Hown7 := hid hown
          have Hk7 := hid hk
          have Hb7 := hid hb
          clear hown hk hb
          cases last
          · have hla := HLA.out
            have hNlt : N < rec.length := by have : ¬ N = rec.length := by intro e; rw [e] at hla; simp at hla
                                             omega
            have hNR : N = R := by
              have h := HN.out
              by_cases hRl : R < rec.length
              · rw [if_pos hRl] at h; exact h
              · rw [if_neg hRl] at h; omega
            obtain ⟨b0, off0, rfl, hcz⟩ := Hrd.out.cell (k := 0) (by simp; omega)
            clear hcz
            have hcN : ¬ c' = N := by omega
            have HNR := hid hNR
            clear hNR
            go_wp2_with (refine wpList_store_blk rfl rfl 82 _ _ rfl _ _ _ _ rfl rfl Hk7.out rfl info241 (by intro u hu; simp at hu; rcases hu with rfl | rfl <;> rfl) ?_)
            have hroom : ¬ rec.length ≤ roomN (p + out.length) := by rw [← HR2.out, ← HNR.out]; omega
            obtain ⟨f', hf', hfu'⟩ := putFuel_next Hfu.out hroom
            rw [← HG.out, ← HR2.out, ← HNR.out] at hfu'
            have hoL : (out ++ List.replicate g 0 ++ partB (kd begun false) (rec.take N)).length = L2 + 7 + N := by
              rw [List.length_append, List.length_append, partB_length, List.length_replicate, List.length_take, HL2.out]; omega
            have hpo : p + (out ++ List.replicate g 0 ++ partB (kd begun false) (rec.take N)).length = p + out.length + g + 7 + N := by rw [hoL, HL2.out]; omega
            go_roundg f'
            case measure => omega
            case rel =>
              refine ⟨true, out ++ List.replicate g 0 ++ partB (kd begun false) (rec.take N), rec.drop N, some ⟨b0, off0 + N, none⟩, c' - N, by simp, by simp; omega, (fun h => by cases h), by rw [hoL]; exact own_setRow Hown7.out (by omega) _, setRow_heap _ _ _ _ _ _ Hk7.out, by rw [List.map_drop]; exact Hrd.out.drop N, by rw [hpo]; exact hfu', ?_, ?_, below_setRow Hb7.out (Nat.le_refl _) _⟩
              · rw [Hfin.out, hf', putRec_more hroom, hpo, ← HG.out, ← HR2.out, ← HNR.out]; simp
              · rw [hoL, HL2.out, List.length_drop]
                have h1 := Hlen.out
                have h2 := Hfu.out.1
                have h3 := HNR.out
                by_cases hb : begun = true
                · rw [if_pos hb] at h1
                  have : R = 249 := by rw [HR2.out]; have := h2 hb; unfold roomN gapN; split <;> omega
                  rw [if_pos rfl]; omega
                · rw [if_neg hb] at h1
                  rw [if_pos rfl]; omega
          · have hla := HLA.out
            have hNe : N = rec.length := by have := of_decide_eq_true hla; omega
            have HNe := hid hNe
            clear hNe
            go_wp2_with (go_at_call 23; refine (clip_bytes _ _ _ _ hcl hcm).mono ?_; rintro e w8 ⟨rfl, rfl⟩)
            go_ret2
            have hroom : rec.length ≤ roomN (p + out.length) := by
              rw [← HR2.out]
              have h := HN.out
              have := HNe.out
              by_cases hRl : R < rec.length
              · rw [if_pos hRl] at h; omega
              · omega
            have hF : F = out ++ List.replicate g 0 ++ partB (kd begun true) (rec.take N) := by
              rw [Hfin.out, putRec_last Hfu.out hroom, ← HG.out, HNe.out, List.take_length]; simp
            have hFl : F.length = L2 + 7 + N := by
              rw [hF, List.length_append, List.length_append, partB_length, List.length_replicate, List.length_take, HL2.out]; omega
            refine ⟨_, rfl, ?_, Hb7.out⟩
            rw [hFl, hF]
            exact ((Fr.of_own Hown7.out).clip).mono (by omega)
end Go.Proofs.Herb
