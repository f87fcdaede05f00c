/- The contracts of the reference's Put and With. For a record of 65536 bytes at most. -/
import Derived.Test.YtklhnncjgkbelaaProg
import Derived.WalkLawsBesides
import Derived.WalkSpells
import Derived.Outline
import Derived.Deep.LoopGhost
import Derived.Deep.QuietTactic
import Derived.Deep.DeepCutAuto
import Derived.BigQuiet
import Derived.Test.YtklhnncjgkbelaaRef
namespace Go.Proofs.Herb
open Go.RowKit
set_option maxRecDepth 100000 in
set_option maxHeartbeats 1600000 in
theorem ref_put (at_ : Nat) (a : Option Addr) (n c : Nat) (l : List UInt8) (w : World) (hat : at_ < 4611686018427387904) (hn : l.length = n) (hc : n ≤ c) (hm : n ≤ 65536) (hr : Rd w a (l.map bv)) (ha : a = none → c = 0) :
    Calls Try.prog 28 #[.int .i64 (at_ : Int), .slice a n c] w fun e w' => ∃ v, e = .returned (.tuple #[v, .int .i64 0]) ∧
      Fr w' w.heap.size 5 1 v (putRec (n + 2) (at_ % 256) false l).length ((putRec (n + 2) (at_ % 256) false l).map bv) ∧ Below w.heap.size w w' := by
  have Hn := hid hn
  have Hr := hid hr
  have Ha := hid ha
  clear hn hr ha
  obtain ⟨p, hp⟩ : ∃ p, p = at_ % 256 := ⟨_, rfl⟩
  have hpl : p < 256 := by omega
  have hp' : ((at_ : Int) % 256) = (p : Int) := by omega
  rw [← hp]
  have Hp := hid hp
  clear hp
  obtain ⟨F, hF⟩ : ∃ F, F = putRec (n + 2) p false l := ⟨_, rfl⟩
  rw [← hF]
  have HF := hid hF
  clear hF
  go_enter Try.func28, Try.ntmps28
  go_wp2_with fail
  rw [hp']
  clear hp' hat Hp
  go_loopg [1, 6, 7] (n + 2) (fun f s1 s6 s7 wr => ∃ (begun : Bool) (out rec : List UInt8) (a' : Option Addr) (c' : Nat) (q : Option Addr) (cq : Nat), s1 = .slice a' rec.length c' ∧ rec.length ≤ c' ∧ (a' = none → c' = 0) ∧ s6 = .slice q out.length cq ∧ s7 = .bool begun ∧ wr.ownsRow w.heap.size 5 1 (.slice q out.length cq) out.length (out.map bv) ∧
      Rd w a' (rec.map bv) ∧ putFuel (p + out.length) begun rec f ∧ F = out ++ putRec f (p + out.length) begun rec ∧
      out.length + rec.length * 20 ≤ 65536 * 20 + (if begun then 13 else 0) ∧ Below w.heap.size w wr)
  case atStart => exact ⟨false, [], l, a, c, none, 0, by rw [Hn.out], by rw [Hn.out]; exact hc, Ha.out, rfl, rfl, World.ownsRow_nil _ _ _ _, Hr.out, ⟨by simp, by rw [Hn.out]; simp⟩, HF.out, by rw [Hn.out]; simp; omega, Below.refl _ _⟩
  case round =>
    obtain ⟨begun, out, rec, a', c', q, cq, rfl, hc', ha', rfl, rfl, hown, hrd, hfu, hfin, hlen, hb⟩ := hrel
    have Hown := hid hown
    have Ha' := hid ha'
    have Hrd := hid hrd
    have Hfu := hid hfu
    have Hfin := hid hfin
    have Hb := hid hb
    have hlen1 : out.length ≤ 1310733 := by cases begun <;> simp at hlen <;> omega
    have hlen2 : rec.length ≤ 65536 := by cases begun <;> simp at hlen <;> omega
    have Hlen := hid hlen
    clear hown ha' hrd hfu hfin hb hlen
    obtain ⟨g, hg⟩ : ∃ g, g = gapN (p + out.length) := ⟨_, rfl⟩
    have hgl := gapN_lt (p + out.length)
    obtain ⟨R, hR⟩ : ∃ R, R = roomN (p + out.length) := ⟨_, rfl⟩
    have hRl := roomN_le (p + out.length)
    rw [← hR] at hRl
    rw [← hg] at hgl
    have hR2 : 256 - ((p : Int) + ((out.length : Int) + (g : Int))) % 256 = (R : Int) + 7 := by
      rw [hR]
      unfold roomN
      rw [← hg]
      have : 7 ≤ 256 - (p + out.length + g) % 256 := by rw [hg]; unfold gapN; split <;> omega
      omega
    have HG := hid hg
    have HR := hid hR
    clear hg hR
    by_cases hla : rec.length ≤ R
    · have hla' : decide (rec.length ≤ R) = true := by simp [hla]
      have hF : F = out ++ List.replicate g 0 ++ partB (kd begun true) rec := by
        rw [Hfin.out, putRec_last Hfu.out (by rw [← HR.out]; exact hla), ← HG.out]; simp
      have HF2 := hid hF
      clear hF
      obtain ⟨kk, hkk⟩ : ∃ kk, kk = kd begun true := ⟨_, rfl⟩
      have Hkk := hid hkk
      have hkn : (kk.toNat : Int) = if begun then 4 else 1 := by rw [hkk]; cases begun <;> rfl
      have Hkn := hid hkn
      clear hkk hkn
      cases begun
      all_goals
        go_wp2_with (first
          | (go_at_call 46; refine (ref_gap' _ (p + out.length) (by omega) (by omega) _).mono ?_; rintro e w1 ⟨rfl, rfl⟩; rw [← HG.out])
          | (refine app22z rfl (.tmp 17) (.tmp 22) rfl w.heap.size q out.length cq out rfl Hown.out _ g rfl rfl (by omega) Hb.out.size ?_; intro q1 c1 w1 G1; have G1 := hid G1)
          | (go_at_call 47; refine (ref_part' _ kk Hkn.out.symm a' rec.length c' rec _ rfl (by omega) (Hrd.out.below (Hb.out.trans G1.out.below)) Ha'.out).mono ?_; rintro e w2 ⟨v2, rfl, hv2, hb2⟩; obtain ⟨q2, c2, rfl, hc21, hc22, hrd2, hn2⟩ := hv2.shape; have Hv2 := hid hv2; have Hb2 := hid hb2; have Hrd2 := hid hrd2; have Hn2 := hid hn2; clear hv2 hb2 hrd2 hn2)
          | (refine app22 rfl (.tmp 36) (.tmp 38) rfl w.heap.size q1 (out.length + g) c1 (out ++ List.replicate g 0) rfl (own_below G1.out.own Hb2.out) q2 (rec.length + 7) c2 (partB kk rec) rfl (fun h => (Hn2.out h).2) (by rw [partB_length]; omega) Hrd2.out (by omega) (by have := Hb.out.size; have := G1.out.below.size; have := Hb2.out.size; omega) ?_; intro q3 c3 w3 G3; have G3 := hid G3)
          | (refine app22 rfl (.tmp 40) (.tmp 42) rfl w.heap.size q1 (out.length + g) c1 (out ++ List.replicate g 0) rfl (own_below G1.out.own Hb2.out) q2 (rec.length + 7) c2 (partB kk rec) rfl (fun h => (Hn2.out h).2) (by rw [partB_length]; omega) Hrd2.out (by omega) (by have := Hb.out.size; have := G1.out.below.size; have := Hb2.out.size; omega) ?_; intro q3 c3 w3 G3; have G3 := hid G3))
        go_ret2
        have hFl : F.length = out.length + g + (rec.length + 7) := by rw [HF2.out, List.length_append, List.length_append, partB_length, List.length_replicate]; omega
        refine ⟨_, rfl, ?_, ?_⟩
        · rw [hFl, HF2.out, ← Hkk.out]
          exact G3.out.fr
        · exact Hb.out.trans (G1.out.below.trans ((Hb2.out.mono (by have := Hb.out.size; have := G1.out.below.size; omega)).trans G3.out.below))
    · have hla' : decide (rec.length ≤ R) = false := by simp [hla]
      obtain ⟨b0, off0, rfl, hcz⟩ := Hrd.out.cell (k := 0) (by simp; omega)
      clear hcz
      have hcN : ¬ c' = R := by omega
      have hRc : R ≤ c' := by omega
      have hRc' : (R : Int) ≤ (c' : Int) := by omega
      have hRr : (R : Int) ≤ (rec.length : Int) := by omega
      obtain ⟨kk, hkk⟩ : ∃ kk, kk = kd begun false := ⟨_, rfl⟩
      have Hkk := hid hkk
      have hkn : (kk.toNat : Int) = if begun then 3 else 2 := by rw [hkk]; cases begun <;> rfl
      have Hkn := hid hkn
      clear hkk hkn
      have hroom : ¬ rec.length ≤ roomN (p + out.length) := by rw [← HR.out]; omega
      obtain ⟨f', hf', hfu'⟩ := putFuel_next Hfu.out hroom
      rw [← HG.out, ← HR.out] at hfu'
      have hoL : (out ++ List.replicate g 0 ++ partB kk (rec.take R)).length = out.length + g + (R + 7) := by
        rw [List.length_append, List.length_append, partB_length, List.length_replicate, List.length_take]; omega
      have hpo : p + (out ++ List.replicate g 0 ++ partB kk (rec.take R)).length = p + out.length + g + 7 + R := by rw [hoL]; omega
      have hfin' : F = (out ++ List.replicate g 0 ++ partB kk (rec.take R)) ++ putRec f' (p + out.length + g + 7 + R) true (rec.drop R) := by
        rw [Hfin.out, hf', putRec_more hroom, ← HG.out, ← HR.out, Hkk.out]; simp
      have HFF := hid hfin'
      have HfU := hid hfu'
      have Hf' := hid hf'
      have HoL := hid hoL
      have Hpo := hid hpo
      clear hfin' hfu' hf' hoL hpo hroom
      cases begun
      all_goals
        go_wp2_with (first
          | (go_at_call 46; refine (ref_gap' _ (p + out.length) (by omega) (by omega) _).mono ?_; rintro e w1 ⟨rfl, rfl⟩; rw [← HG.out])
          | (refine app22z rfl (.tmp 17) (.tmp 22) rfl w.heap.size q out.length cq out rfl Hown.out _ g rfl rfl (by omega) Hb.out.size ?_; intro q1 c1 w1 G1; have G1 := hid G1)
          | (go_at_call 47; refine (ref_part' _ kk Hkn.out.symm (some ⟨b0, off0, none⟩) R c' (rec.take R) _ (by simp; omega) (by omega) (by rw [List.map_take]; exact (Hrd.out.below (Hb.out.trans G1.out.below)).take R) Ha'.out).mono ?_; rintro e w2 ⟨v2, rfl, hv2, hb2⟩; obtain ⟨q2, c2, rfl, hc21, hc22, hrd2, hn2⟩ := hv2.shape; have Hv2 := hid hv2; have Hb2 := hid hb2; have Hrd2 := hid hrd2; have Hn2 := hid hn2; clear hv2 hb2 hrd2 hn2)
          | (refine app22 rfl (.tmp 46) (.tmp 51) rfl w.heap.size q1 (out.length + g) c1 (out ++ List.replicate g 0) rfl (own_below G1.out.own Hb2.out) q2 (R + 7) c2 (partB kk (rec.take R)) rfl (fun h => (Hn2.out h).2) (by rw [partB_length, List.length_take]; omega) Hrd2.out (by omega) (by have := Hb.out.size; have := G1.out.below.size; have := Hb2.out.size; omega) ?_; intro q3 c3 w3 G3; have G3 := hid G3))
        go_roundg f'
        case measure => have := Hf'.out; omega
        case rel =>
          refine ⟨true, out ++ List.replicate g 0 ++ partB kk (rec.take R), rec.drop R, some ⟨b0, off0 + R, none⟩, c' - R, q3, c3, by simp, by simp; omega, (fun h => by cases h), by rw [HoL.out], rfl, by rw [HoL.out]; exact G3.out.own, by rw [List.map_drop]; exact Hrd.out.drop R, by rw [Hpo.out]; exact HfU.out, by rw [Hpo.out]; exact HFF.out, ?_, Hb.out.trans (G1.out.below.trans ((Hb2.out.mono (by have := Hb.out.size; have := G1.out.below.size; omega)).trans G3.out.below))⟩
          have h1 := Hlen.out
          have h2 := Hfu.out.1
          rw [HoL.out, List.length_drop, if_pos rfl]
          first
            | (simp only [Bool.false_eq_true, if_false] at h1; omega)
            | (simp only [if_true] at h1; have : R = 249 := (by rw [HR.out]; have := h2 rfl; unfold roomN gapN; split <;> omega); omega)
set_option maxRecDepth 100000 in
set_option maxHeartbeats 800000 in
theorem ref_with (ab : Option Addr) (nb cb : Nat) (b : List UInt8) (a : Option Addr) (n c : Nat) (l : List UInt8) (w : World) (hnb : b.length = nb) (hbm : nb ≤ 4194304) (hrb : Rd w ab (b.map bv)) (hab : ab = none → cb = 0)
    (hn : l.length = n) (hc : n ≤ c) (hm : n ≤ 65536) (hr : Rd w a (l.map bv)) (ha : a = none → c = 0) :
    Calls Try.prog 11 #[.slice ab nb cb, .slice a n c] w fun e w' => ∃ v, e = .returned (.tuple #[v, .int .i64 0]) ∧
      Fr w' w.heap.size 5 1 v (b ++ putRec (n + 2) (nb % 256) false l).length ((b ++ putRec (n + 2) (nb % 256) false l).map bv) ∧ Below w.heap.size w w' := by
  have Hn := hid hn
  have Hr := hid hr
  have Ha := hid ha
  have Hnb := hid hnb
  have Hrb := hid hrb
  have Hab := hid hab
  clear hn hr ha hnb hrb hab
  obtain ⟨F, hF⟩ : ∃ F, F = putRec (n + 2) (nb % 256) false l := ⟨_, rfl⟩
  have HF := hid hF
  have hFl : F.length ≤ 1310747 := by rw [hF]; have := putRec_len (n + 2) (nb % 256) false l (by simp); have := Hn.out; simp at *; omega
  rw [← hF]
  clear hF
  go_enter Try.func11, Try.ntmps11
  go_wp2_with (first
    | (go_at_call 28; refine (ref_put nb a n c l _ (by omega) Hn.out hc hm Hr.out Ha.out).mono ?_; rintro e w1 ⟨v, rfl, hv, hb1⟩; rw [← HF.out] at hv; obtain ⟨q, cq, rfl, hcq1, hcq2, hrq, hnq⟩ := hv.shape; have Hb1 := hid hb1; have Hrq := hid hrq; have Hnq := hid hnq; clear hv hb1 hrq hnq)
    | (refine app22 rfl (.const (.slice none 0 0)) (.tmp 18) rfl w1.heap.size none 0 0 [] rfl (own_nil22 _ _) ab nb cb b rfl Hab.out Hnb.out (Hrb.out.below Hb1.out) (by omega) (Nat.le_refl _) ?_; intro q2 c2 w2 G2; rw [Nat.zero_add, List.nil_append] at G2; have G2 := hid G2)
    | (refine app22 rfl (.tmp 19) (.tmp 20) rfl w1.heap.size q2 nb c2 b rfl G2.out.own q F.length cq F rfl (fun h => (Hnq.out h).2) rfl (Hrq.out.below G2.out.below) (by omega) G2.out.below.size ?_; intro q3 c3 w3 G3; have G3 := hid G3))
  go_ret2
  refine ⟨_, rfl, ?_, ?_⟩
  · rw [List.length_append, Hnb.out]
    exact (G3.out.fr).mono Hb1.out.size
  · exact Hb1.out.trans ((G2.out.below.trans G3.out.below).mono Hb1.out.size)
end Go.Proofs.Herb
