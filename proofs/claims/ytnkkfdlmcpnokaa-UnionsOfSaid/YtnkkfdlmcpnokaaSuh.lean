
/- slices.Sort's family at uint32, the eighth part: pdqsortOrdered sorts; slices.Sort. (printed by gen_spd.py, filled by gen_su.py) -/
import Derived.Test.YtnkkfdlmcpnokaaSuc
import Derived.Test.YtnkkfdlmcpnokaaSud
import Derived.Test.YtnkkfdlmcpnokaaSue
import Derived.Test.YtnkkfdlmcpnokaaSuf
import Derived.Test.YtnkkfdlmcpnokaaSug
import Derived.Deep.Cut
namespace Go.Proofs.Herb
open Go.RowKit Go.Sort
/-- what is left of the sort's work: a part that is to be sorted yet -/
def Cont (a b : Nat) (d : Array Int) (x y : Nat) (dk : Array Int) : Prop := ∀ R, PermIn x y dk R → SortedIn ltInt x y R → PermIn a b d R ∧ SortedIn ltInt a b R
theorem Cont.refl (a b : Nat) (d : Array Int) : Cont a b d a b d := fun _ h1 h2 => ⟨h1, h2⟩
theorem Cont.perm {a b x y : Nat} {d dk d1 : Array Int} (h : Cont a b d x y dk) (p : PermIn x y dk d1) : Cont a b d x y d1 := fun R h1 h2 => h R (permIn_trans _ _ _ _ _ p h1) h2
theorem Cont.eq {a b x y p : Nat} {d d3 : Array Int} (h : Cont a b d x y d3) (hx : 0 < x) (h1 : x ≤ p) (h2 : p < y) (hy : y ≤ d3.size) (hB : Go.Sort.Below ltInt x y d3) (hn : ltInt d3[x - 1]! d3[p]! = false) :
    x < (partitionEqual ltInt d3 x y p).1 ∧ (partitionEqual ltInt d3 x y p).1 ≤ y ∧ (partitionEqual ltInt d3 x y p).2.size = d3.size ∧ Go.Sort.Below ltInt (partitionEqual ltInt d3 x y p).1 y (partitionEqual ltInt d3 x y p).2 ∧ Cont a b d (partitionEqual ltInt d3 x y p).1 y (partitionEqual ltInt d3 x y p).2 := by
  obtain ⟨k1, k2, k3, k4, k5⟩ := round_eq swo_ltInt (partitionEqual_holds ltInt) hx h1 h2 hy hB hn (mid := (partitionEqual ltInt d3 x y p).1) (d4 := (partitionEqual ltInt d3 x y p).2) rfl
  exact ⟨k1, k2, k3, k4, fun R r1 r2 => let q := k5 R r1 r2; h R q.1 q.2⟩
theorem Cont.part {a b x y p : Nat} {d d3 : Array Int} (h : Cont a b d x y d3) (h1 : x ≤ p) (h2 : p < y) (hy : y ≤ d3.size) (hB : Go.Sort.Below ltInt x y d3) :
    x ≤ (partition ltInt d3 x y p).1 ∧ (partition ltInt d3 x y p).1 < y ∧ (partition ltInt d3 x y p).2.2.size = d3.size ∧ Go.Sort.Below ltInt x (partition ltInt d3 x y p).1 (partition ltInt d3 x y p).2.2 ∧ Go.Sort.Below ltInt ((partition ltInt d3 x y p).1 + 1) y (partition ltInt d3 x y p).2.2 ∧
    (∀ L, PermIn x (partition ltInt d3 x y p).1 (partition ltInt d3 x y p).2.2 L → SortedIn ltInt x (partition ltInt d3 x y p).1 L → Go.Sort.Below ltInt ((partition ltInt d3 x y p).1 + 1) y L ∧ Cont a b d ((partition ltInt d3 x y p).1 + 1) y L) ∧
    (∀ L, PermIn ((partition ltInt d3 x y p).1 + 1) y (partition ltInt d3 x y p).2.2 L → SortedIn ltInt ((partition ltInt d3 x y p).1 + 1) y L → Go.Sort.Below ltInt x (partition ltInt d3 x y p).1 L ∧ Cont a b d x (partition ltInt d3 x y p).1 L) := by
  obtain ⟨k1, k2, k3, k4, k5, k6, k7⟩ := round_part swo_ltInt (partition_holds ltInt) h1 h2 hy hB (mid := (partition ltInt d3 x y p).1) (ap := (partition ltInt d3 x y p).2.1) (d4 := (partition ltInt d3 x y p).2.2) rfl
  exact ⟨k1, k2, k3, k4, k5, fun L l1 l2 => ⟨(k6 L l1 l2).1, fun R r1 r2 => let q := (k6 L l1 l2).2 R r1 r2; h R q.1 q.2⟩, fun L l1 l2 => ⟨(k7 L l1 l2).1, fun R r1 r2 => let q := (k7 L l1 l2).2 R r1 r2; h R q.1 q.2⟩⟩
def PdqS (w0 : World) (g off C N cap n : Nat) : Prop := ∀ (a b l : Nat) (d : Array Int) (w : World), b - a < n → Rw w0 g off C d w → d.size = N → a ≤ b → b ≤ N → l ≤ 64 → Go.Sort.Below ltInt a b d →
  Calls Try.prog 63 #[.slice (some ⟨g, off, none⟩) N cap, .int .i64 a, .int .i64 b, .int .i64 l] w fun e w' => e = .returned (.tuple #[]) ∧ ∃ d', PermIn a b d d' ∧ SortedIn ltInt a b d' ∧ Rw w0 g off C d' w'
theorem PdqS.use {w0 : World} {g off C N cap n : Nat} (h : PdqS w0 g off C N cap n) (a b l : Nat) (d : Array Int) (w : World) (h1 : b - a < n) (h2 : Rw w0 g off C d w) (h3 : d.size = N) (h4 : a ≤ b) (h5 : b ≤ N) (h6 : l ≤ 64) (h7 : Go.Sort.Below ltInt a b d) :
    Calls Try.prog 63 #[.slice (some ⟨g, off, none⟩) N cap, .int .i64 a, .int .i64 b, .int .i64 l] w fun e w' => e = .returned (.tuple #[]) ∧ ∃ d', PermIn a b d d' ∧ SortedIn ltInt a b d' ∧ Rw w0 g off C d' w' := h a b l d w h1 h2 h3 h4 h5 h6 h7
set_option maxHeartbeats 64000000 in
set_option maxRecDepth 1000000 in
theorem pdq_step (w0 : World) (g off C N cap n : Nat) (hsz : N < 4611686018427387904) (IH : PdqS w0 g off C N cap n) : PdqS w0 g off C N cap (n + 1) := by
  intro a b l d w hn h hN hab hb hl hB
  have HIH := hid IH
  clear IH
  have HN := hid hN
  have H0 := hid h
  have HB0 := hid hB
  clear hN h hB
  go_enter Try.func63, Try.ntmps63
  go_wp2
  go_loopw [1, 2, 3, 8, 9] (fun va vb vl vwb vwp wr => ∃ (x y l : Nat) (wb wp : Bool) (dk : Array Int), va = .int .i64 x ∧ vb = .int .i64 y ∧ vl = .int .i64 l ∧ vwb = .bool wb ∧ vwp = .bool wp ∧ a ≤ x ∧ x ≤ y ∧ y ≤ b ∧ l ≤ 64 ∧
      Hid (dk.size = N) ∧ Hid (Rw w0 g off C dk wr) ∧ Hid (Go.Sort.Below ltInt x y dk) ∧ Hid (Cont a b d x y dk)) (fun va vb _ _ _ _ => (intOf vb - intOf va).toNat)
  case atStart => exact ⟨a, b, l, true, true, d, rfl, rfl, rfl, rfl, rfl, Nat.le_refl _, hab, Nat.le_refl _, hl, HN, H0, HB0, Cont.refl a b d⟩
  case round =>
    obtain ⟨x, y, l, wb, wp, dk, rfl, rfl, rfl, rfl, rfl, hax, hxy, hyb, hl, HSK, HRK, HBK, HCK⟩ := hrel
    clear HN H0 HB0
    obtain ⟨L, hL⟩ : ∃ L, L = y - x := ⟨_, rfl⟩
    have hLi : ((y : Int) - (x : Int)) = (L : Int) := by omega
    have hyx : x + L = y := by omega
    clear hL
    have hyN : y ≤ N := by omega
    by_cases h12 : L ≤ 12
    · have hc := ins_u w0 g off C N cap x y dk wr HRK.out HSK.out hxy hyN hsz
      go_wp2_with (go_at_call 69; with_reducible refine hc.mono ?_; rintro e w1 ⟨rfl, hw1⟩)
      refine bodyPost_ret (results_none rfl _ _ _) rfl ⟨rfl, ?_⟩
      have hs := insertionSort_holds swo_ltInt dk x y hxy (by have := HSK.out; omega)
      obtain ⟨p1, p2⟩ := HCK.out _ hs.1 hs.2
      exact ⟨_, p1, p2, hw1⟩
    · by_cases hl0 : l = 0
      · subst hl0
        have hc := heap_u w0 g off C N cap x y dk wr HRK.out HSK.out (by omega) hyN hsz
        go_wp2_with (go_at_call 70; with_reducible refine hc.mono ?_; rintro e w1 ⟨rfl, hw1⟩)
        refine bodyPost_ret (results_none rfl _ _ _) rfl ⟨rfl, ?_⟩
        have hs := heapSort_holds swo_ltInt dk x y hxy (by have := HSK.out; omega)
        obtain ⟨p1, p2⟩ := HCK.out _ hs.1 hs.2
        exact ⟨_, p1, p2, hw1⟩
      · have hpos : 0 < L / 8 ∨ L / 8 = 0 := by omega
        clear hpos
        cases wb with
        | false =>
          have hc := brk_u w0 g off C N cap x y dk wr HRK.out HSK.out (by omega) hyN hsz
          obtain ⟨l1, hl1⟩ : ∃ l1 : Nat, (l : Int) - 1 = (l1 : Int) := ⟨l - 1, by omega⟩
          have hl1' : l1 ≤ 64 := by omega
          go_wp2_with (go_at_call 71; with_reducible refine hc.mono ?_; rintro e w1 ⟨rfl, d1, hp1, hw1⟩)
          have HS1 : Hid (d1.size = N) := hid (hp1.1.trans HSK.out)
          have HR1 := hid hw1
          have HB1 := hid (HBK.out.perm (by have := HSK.out; omega) hp1)
          have HC1 := hid (HCK.out.perm hp1)
          clear hp1 hw1 hc HSK HRK HBK HCK
          have hcp := piv_u g off N cap x y w1 (let ⟨G, _, hG, _⟩ := HR1.out.fam HS1.out; ⟨G, hG⟩) HR1.out.lt (by omega) hyN hsz
          go_upto_region 11 with (go_at_call 72; with_reducible refine hcp.mono ?_; rintro e w2 ⟨p, t, rfl, hp1, hp2, ht, hw2⟩)
          have HR2 := hid (HR1.out.below (hw2))
          clear hw2 hcp
          by_cases ht2 : t = 2
          · subst ht2
            have hrv := rev_u w0 g off C N cap x y d1 w2 HR2.out HS1.out (by omega) hyN hsz
            have hrp := reverseRange_holds d1 x y hxy (by have := HS1.out; omega)
            have HSr := hid (hrp.1.trans HS1.out)
            have HBr := hid (HB1.out.perm (by have := HS1.out; omega) hrp)
            have HCr := hid (HC1.out.perm hrp)
            clear hrp
            go_wp2_with (go_at_call 73; with_reducible refine hrv.mono ?_; rintro e w3 ⟨rfl, hw3⟩; have HRr := hid hw3; clear hw3)
            obtain ⟨p2, hp2e⟩ : ∃ p2 : Nat, (y : Int) - 1 - ((p : Int) - (x : Int)) = (p2 : Int) := ⟨(y - 1) - (p - x), by omega⟩
            rw [hp2e]
            have hq1 : x ≤ p2 := by omega
            have hq2 : p2 < y := by omega
            clear hp1 hp2 hp2e
            have hp1 := hq1
            have hp2 := hq2
            clear hq1 hq2
            have HS3 := HSr
            have HR3 := HRr
            have HB3 := HBr
            have HC3 := HCr
            obtain ⟨d3, hd3⟩ : ∃ d3, d3 = reverseRange d1 x y := ⟨_, rfl⟩
            obtain ⟨W3, hW3⟩ : ∃ W3, W3 = w3 := ⟨_, rfl⟩
            rw [← hd3] at HS3 HR3 HB3 HC3
            rw [← hW3] at HR3 ⊢
            clear hd3 hW3
            obtain ⟨G, HG, hcw, hfw⟩ := HR3.out.fam HS3.out
            by_cases hx0 : 0 < x
            · have hx0i : (0 : Int) < (x : Int) := by omega
              go_big_quiet (first | (go_at_call 75; refine Calls.quiet_of_same (less_u _ _ _)))
              go_wp2_with fail
              · have ht : (!ltInt (G (x - 1)) (G p2)) = true := by assumption
                have HR4 := hid (HR3.out.drewN nq)
                clear hcw hfw
                generalize W3.drewN nq = W4 at HR4 ⊢
                clear nq
                have hc := peq_u w0 g off C N cap x y p2 d3 W4 HR4.out HS3.out hp1 hp2 hyN hsz
                obtain ⟨k1, k2, k3, k4, k5⟩ := HC3.out.eq hx0 hp1 hp2 (by have := HS3.out; omega) HB3.out (by have := ht; simp only [HG.out] at this; simpa using this)
                have HK3 := hid (k3.trans HS3.out)
                have HK4 := hid k4
                have HK5 := hid k5
                clear k3 k4 k5 ht
                go_wp2_with (go_at_call 76; with_reducible refine hc.mono ?_; rintro e w5 ⟨rfl, hw5⟩)
                go_roundw
                case rel => exact ⟨_, y, l1, _, _, _, rfl, rfl, rfl, rfl, rfl, by omega, by omega, hyb, by omega, HK3, hid hw5, HK4, HK5⟩
                case measure => simp [intOf]; omega
              · clear hx0i
                have HR4 := hid (HR3.out.drewN nq)
                clear hcw hfw
                generalize W3.drewN nq = W4 at HR4 ⊢
                clear nq
                have hc := part_u w0 g off C N cap x y p2 d3 W4 HR4.out HS3.out hp1 hp2 hyN hsz
                obtain ⟨k1, k2, k3, k4, k5, k6, k7⟩ := HC3.out.part hp1 hp2 (by have := HS3.out; omega) HB3.out
                obtain ⟨mid, hmid⟩ : ∃ m, m = (partition ltInt d3 x y p2).1 := ⟨_, rfl⟩
                obtain ⟨ap, hap⟩ : ∃ m, m = (partition ltInt d3 x y p2).2.1 := ⟨_, rfl⟩
                obtain ⟨d4, hd4⟩ : ∃ m, m = (partition ltInt d3 x y p2).2.2 := ⟨_, rfl⟩
                rw [← hmid, ← hd4, ← hap] at hc
                rw [← hmid] at k1 k2
                rw [← hd4] at k3
                rw [← hmid, ← hd4] at k4 k5 k6 k7
                have HK3 := hid (k3.trans HS3.out)
                have HK4 := hid k4
                have HK5 := hid k5
                have HK6 := hid k6
                have HK7 := hid k7
                clear hmid hap hd4 k3 k4 k5 k6 k7
                have q1 : mid - x < n := by omega
                have q2 : mid ≤ N := by omega
                have q3 : l1 ≤ 64 := by omega
                have q4 : y - (mid + 1) < n := by omega
                have q5 : mid + 1 ≤ y := by omega
                have E1 : Hid (((mid + 1 : Nat) : Int) = (mid : Int) + 1) := by show _ = _; omega
                go_wp2_with (first | (go_at_call 77; with_reducible refine hc.mono ?_; rintro e w5 ⟨rfl, hw5⟩; have HR5 := hid hw5; clear hw5 hc; have hcl := HIH.out.use x mid l1 d4 w5 q1 HR5.out HK3.out k1 q2 q3 HK4.out; have hcr := HIH.out.use (mid + 1) y l1 d4 w5 q4 HR5.out HK3.out q5 hyN q3 HK5.out; rw [E1.out] at hcr) | (go_at_call 63; with_reducible refine hcl.mono ?_; rintro e w6 ⟨rfl, d6, hq1, hq2, hw6⟩; clear hcr) | (go_at_call 63; with_reducible refine hcr.mono ?_; rintro e w6 ⟨rfl, d6, hq1, hq2, hw6⟩; clear hcl))
                · obtain ⟨m1, m2⟩ := HK6.out d6 hq1 hq2
                  go_roundw
                  case rel => exact ⟨mid + 1, y, l1, _, ap, d6, by go_num, rfl, rfl, rfl, rfl, by omega, by omega, hyb, by omega, hid (hq1.1.trans HK3.out), hid hw6, hid m1, hid m2⟩
                  case measure => simp [intOf]; omega
                · obtain ⟨m1, m2⟩ := HK7.out d6 hq1 hq2
                  go_roundw
                  case rel => exact ⟨x, mid, l1, _, ap, d6, rfl, rfl, rfl, rfl, rfl, by omega, by omega, by omega, by omega, hid (hq1.1.trans HK3.out), hid hw6, hid m1, hid m2⟩
                  case measure => simp [intOf]; omega
            · have hx0i : decide ((0 : Int) < (x : Int)) = false := decide_eq_false (by omega)
              have hx0n : decide (0 < x) = false := decide_eq_false (by omega)
              go_big_quiet (first | (go_at_call 75; refine Calls.quiet_of_same (less_u _ _ _)))
              clear hx0i hx0n
              have HR4 := hid (HR3.out.drewN nq)
              clear hcw hfw
              generalize W3.drewN nq = W4 at HR4 ⊢
              clear nq
              have hc := part_u w0 g off C N cap x y p2 d3 W4 HR4.out HS3.out hp1 hp2 hyN hsz
              obtain ⟨k1, k2, k3, k4, k5, k6, k7⟩ := HC3.out.part hp1 hp2 (by have := HS3.out; omega) HB3.out
              obtain ⟨mid, hmid⟩ : ∃ m, m = (partition ltInt d3 x y p2).1 := ⟨_, rfl⟩
              obtain ⟨ap, hap⟩ : ∃ m, m = (partition ltInt d3 x y p2).2.1 := ⟨_, rfl⟩
              obtain ⟨d4, hd4⟩ : ∃ m, m = (partition ltInt d3 x y p2).2.2 := ⟨_, rfl⟩
              rw [← hmid, ← hd4, ← hap] at hc
              rw [← hmid] at k1 k2
              rw [← hd4] at k3
              rw [← hmid, ← hd4] at k4 k5 k6 k7
              have HK3 := hid (k3.trans HS3.out)
              have HK4 := hid k4
              have HK5 := hid k5
              have HK6 := hid k6
              have HK7 := hid k7
              clear hmid hap hd4 k3 k4 k5 k6 k7
              have q1 : mid - x < n := by omega
              have q2 : mid ≤ N := by omega
              have q3 : l1 ≤ 64 := by omega
              have q4 : y - (mid + 1) < n := by omega
              have q5 : mid + 1 ≤ y := by omega
              have E1 : Hid (((mid + 1 : Nat) : Int) = (mid : Int) + 1) := by show _ = _; omega
              go_wp2_with (first | (go_at_call 77; with_reducible refine hc.mono ?_; rintro e w5 ⟨rfl, hw5⟩; have HR5 := hid hw5; clear hw5 hc; have hcl := HIH.out.use x mid l1 d4 w5 q1 HR5.out HK3.out k1 q2 q3 HK4.out; have hcr := HIH.out.use (mid + 1) y l1 d4 w5 q4 HR5.out HK3.out q5 hyN q3 HK5.out; rw [E1.out] at hcr) | (go_at_call 63; with_reducible refine hcl.mono ?_; rintro e w6 ⟨rfl, d6, hq1, hq2, hw6⟩; clear hcr) | (go_at_call 63; with_reducible refine hcr.mono ?_; rintro e w6 ⟨rfl, d6, hq1, hq2, hw6⟩; clear hcl))
              · obtain ⟨m1, m2⟩ := HK6.out d6 hq1 hq2
                go_roundw
                case rel => exact ⟨mid + 1, y, l1, _, ap, d6, by go_num, rfl, rfl, rfl, rfl, by omega, by omega, hyb, by omega, hid (hq1.1.trans HK3.out), hid hw6, hid m1, hid m2⟩
                case measure => simp [intOf]; omega
              · obtain ⟨m1, m2⟩ := HK7.out d6 hq1 hq2
                go_roundw
                case rel => exact ⟨x, mid, l1, _, ap, d6, rfl, rfl, rfl, rfl, rfl, by omega, by omega, by omega, by omega, hid (hq1.1.trans HK3.out), hid hw6, hid m1, hid m2⟩
                case measure => simp [intOf]; omega
          · have ht2i : ((t : Int) == 2) = false := by simp; omega
            go_wp2_with fail
            clear ht2i
            have HS3 := HS1
            have HR3 := HR2
            have HB3 := HB1
            have HC3 := HC1
            obtain ⟨d3, hd3⟩ : ∃ d3, d3 = d1 := ⟨_, rfl⟩
            obtain ⟨W3, hW3⟩ : ∃ W3, W3 = w2 := ⟨_, rfl⟩
            rw [← hd3] at HS3 HR3 HB3 HC3
            rw [← hW3] at HR3 ⊢
            clear hd3 hW3
            obtain ⟨G, HG, hcw, hfw⟩ := HR3.out.fam HS3.out
            by_cases hx0 : 0 < x
            · have hx0i : (0 : Int) < (x : Int) := by omega
              go_big_quiet (first | (go_at_call 75; refine Calls.quiet_of_same (less_u _ _ _)))
              go_wp2_with fail
              · have ht : (!ltInt (G (x - 1)) (G p)) = true := by assumption
                have HR4 := hid (HR3.out.drewN nq)
                clear hcw hfw
                generalize W3.drewN nq = W4 at HR4 ⊢
                clear nq
                have hc := peq_u w0 g off C N cap x y p d3 W4 HR4.out HS3.out hp1 hp2 hyN hsz
                obtain ⟨k1, k2, k3, k4, k5⟩ := HC3.out.eq hx0 hp1 hp2 (by have := HS3.out; omega) HB3.out (by have := ht; simp only [HG.out] at this; simpa using this)
                have HK3 := hid (k3.trans HS3.out)
                have HK4 := hid k4
                have HK5 := hid k5
                clear k3 k4 k5 ht
                go_wp2_with (go_at_call 76; with_reducible refine hc.mono ?_; rintro e w5 ⟨rfl, hw5⟩)
                go_roundw
                case rel => exact ⟨_, y, l1, _, _, _, rfl, rfl, rfl, rfl, rfl, by omega, by omega, hyb, by omega, HK3, hid hw5, HK4, HK5⟩
                case measure => simp [intOf]; omega
              · clear hx0i
                have HR4 := hid (HR3.out.drewN nq)
                clear hcw hfw
                generalize W3.drewN nq = W4 at HR4 ⊢
                clear nq
                have hc := part_u w0 g off C N cap x y p d3 W4 HR4.out HS3.out hp1 hp2 hyN hsz
                obtain ⟨k1, k2, k3, k4, k5, k6, k7⟩ := HC3.out.part hp1 hp2 (by have := HS3.out; omega) HB3.out
                obtain ⟨mid, hmid⟩ : ∃ m, m = (partition ltInt d3 x y p).1 := ⟨_, rfl⟩
                obtain ⟨ap, hap⟩ : ∃ m, m = (partition ltInt d3 x y p).2.1 := ⟨_, rfl⟩
                obtain ⟨d4, hd4⟩ : ∃ m, m = (partition ltInt d3 x y p).2.2 := ⟨_, rfl⟩
                rw [← hmid, ← hd4, ← hap] at hc
                rw [← hmid] at k1 k2
                rw [← hd4] at k3
                rw [← hmid, ← hd4] at k4 k5 k6 k7
                have HK3 := hid (k3.trans HS3.out)
                have HK4 := hid k4
                have HK5 := hid k5
                have HK6 := hid k6
                have HK7 := hid k7
                clear hmid hap hd4 k3 k4 k5 k6 k7
                have q1 : mid - x < n := by omega
                have q2 : mid ≤ N := by omega
                have q3 : l1 ≤ 64 := by omega
                have q4 : y - (mid + 1) < n := by omega
                have q5 : mid + 1 ≤ y := by omega
                have E1 : Hid (((mid + 1 : Nat) : Int) = (mid : Int) + 1) := by show _ = _; omega
                go_wp2_with (first | (go_at_call 77; with_reducible refine hc.mono ?_; rintro e w5 ⟨rfl, hw5⟩; have HR5 := hid hw5; clear hw5 hc; have hcl := HIH.out.use x mid l1 d4 w5 q1 HR5.out HK3.out k1 q2 q3 HK4.out; have hcr := HIH.out.use (mid + 1) y l1 d4 w5 q4 HR5.out HK3.out q5 hyN q3 HK5.out; rw [E1.out] at hcr) | (go_at_call 63; with_reducible refine hcl.mono ?_; rintro e w6 ⟨rfl, d6, hq1, hq2, hw6⟩; clear hcr) | (go_at_call 63; with_reducible refine hcr.mono ?_; rintro e w6 ⟨rfl, d6, hq1, hq2, hw6⟩; clear hcl))
                · obtain ⟨m1, m2⟩ := HK6.out d6 hq1 hq2
                  go_roundw
                  case rel => exact ⟨mid + 1, y, l1, _, ap, d6, by go_num, rfl, rfl, rfl, rfl, by omega, by omega, hyb, by omega, hid (hq1.1.trans HK3.out), hid hw6, hid m1, hid m2⟩
                  case measure => simp [intOf]; omega
                · obtain ⟨m1, m2⟩ := HK7.out d6 hq1 hq2
                  go_roundw
                  case rel => exact ⟨x, mid, l1, _, ap, d6, rfl, rfl, rfl, rfl, rfl, by omega, by omega, by omega, by omega, hid (hq1.1.trans HK3.out), hid hw6, hid m1, hid m2⟩
                  case measure => simp [intOf]; omega
            · have hx0i : decide ((0 : Int) < (x : Int)) = false := decide_eq_false (by omega)
              have hx0n : decide (0 < x) = false := decide_eq_false (by omega)
              go_big_quiet (first | (go_at_call 75; refine Calls.quiet_of_same (less_u _ _ _)))
              clear hx0i hx0n
              have HR4 := hid (HR3.out.drewN nq)
              clear hcw hfw
              generalize W3.drewN nq = W4 at HR4 ⊢
              clear nq
              have hc := part_u w0 g off C N cap x y p d3 W4 HR4.out HS3.out hp1 hp2 hyN hsz
              obtain ⟨k1, k2, k3, k4, k5, k6, k7⟩ := HC3.out.part hp1 hp2 (by have := HS3.out; omega) HB3.out
              obtain ⟨mid, hmid⟩ : ∃ m, m = (partition ltInt d3 x y p).1 := ⟨_, rfl⟩
              obtain ⟨ap, hap⟩ : ∃ m, m = (partition ltInt d3 x y p).2.1 := ⟨_, rfl⟩
              obtain ⟨d4, hd4⟩ : ∃ m, m = (partition ltInt d3 x y p).2.2 := ⟨_, rfl⟩
              rw [← hmid, ← hd4, ← hap] at hc
              rw [← hmid] at k1 k2
              rw [← hd4] at k3
              rw [← hmid, ← hd4] at k4 k5 k6 k7
              have HK3 := hid (k3.trans HS3.out)
              have HK4 := hid k4
              have HK5 := hid k5
              have HK6 := hid k6
              have HK7 := hid k7
              clear hmid hap hd4 k3 k4 k5 k6 k7
              have q1 : mid - x < n := by omega
              have q2 : mid ≤ N := by omega
              have q3 : l1 ≤ 64 := by omega
              have q4 : y - (mid + 1) < n := by omega
              have q5 : mid + 1 ≤ y := by omega
              have E1 : Hid (((mid + 1 : Nat) : Int) = (mid : Int) + 1) := by show _ = _; omega
              go_wp2_with (first | (go_at_call 77; with_reducible refine hc.mono ?_; rintro e w5 ⟨rfl, hw5⟩; have HR5 := hid hw5; clear hw5 hc; have hcl := HIH.out.use x mid l1 d4 w5 q1 HR5.out HK3.out k1 q2 q3 HK4.out; have hcr := HIH.out.use (mid + 1) y l1 d4 w5 q4 HR5.out HK3.out q5 hyN q3 HK5.out; rw [E1.out] at hcr) | (go_at_call 63; with_reducible refine hcl.mono ?_; rintro e w6 ⟨rfl, d6, hq1, hq2, hw6⟩; clear hcr) | (go_at_call 63; with_reducible refine hcr.mono ?_; rintro e w6 ⟨rfl, d6, hq1, hq2, hw6⟩; clear hcl))
              · obtain ⟨m1, m2⟩ := HK6.out d6 hq1 hq2
                go_roundw
                case rel => exact ⟨mid + 1, y, l1, _, ap, d6, by go_num, rfl, rfl, rfl, rfl, by omega, by omega, hyb, by omega, hid (hq1.1.trans HK3.out), hid hw6, hid m1, hid m2⟩
                case measure => simp [intOf]; omega
              · obtain ⟨m1, m2⟩ := HK7.out d6 hq1 hq2
                go_roundw
                case rel => exact ⟨x, mid, l1, _, ap, d6, rfl, rfl, rfl, rfl, rfl, by omega, by omega, by omega, by omega, hid (hq1.1.trans HK3.out), hid hw6, hid m1, hid m2⟩
                case measure => simp [intOf]; omega
        | true =>
          have HS1 := HSK
          have HR1 := HRK
          have HB1 := HBK
          have HC1 := HCK
          have hl1' : l ≤ 64 := hl
          clear HSK HRK HBK HCK
          cases wp with
          | false =>
            have hcp := piv_u g off N cap x y wr (let ⟨G, _, hG, _⟩ := HR1.out.fam HS1.out; ⟨G, hG⟩) HR1.out.lt (by omega) hyN hsz
            go_upto_region 11 with (go_at_call 72; with_reducible refine hcp.mono ?_; rintro e w2 ⟨p, t, rfl, hp1, hp2, ht, hw2⟩)
            have HR2 := hid (HR1.out.below (hw2))
            clear hw2 hcp
            by_cases ht2 : t = 2
            · subst ht2
              have hrv := rev_u w0 g off C N cap x y dk w2 HR2.out HS1.out (by omega) hyN hsz
              have hrp := reverseRange_holds dk x y hxy (by have := HS1.out; omega)
              have HSr := hid (hrp.1.trans HS1.out)
              have HBr := hid (HB1.out.perm (by have := HS1.out; omega) hrp)
              have HCr := hid (HC1.out.perm hrp)
              clear hrp
              go_wp2_with (go_at_call 73; with_reducible refine hrv.mono ?_; rintro e w3 ⟨rfl, hw3⟩; have HRr := hid hw3; clear hw3)
              obtain ⟨p2, hp2e⟩ : ∃ p2 : Nat, (y : Int) - 1 - ((p : Int) - (x : Int)) = (p2 : Int) := ⟨(y - 1) - (p - x), by omega⟩
              rw [hp2e]
              have hq1 : x ≤ p2 := by omega
              have hq2 : p2 < y := by omega
              clear hp1 hp2 hp2e
              have hp1 := hq1
              have hp2 := hq2
              clear hq1 hq2
              have HS3 := HSr
              have HR3 := HRr
              have HB3 := HBr
              have HC3 := HCr
              obtain ⟨d3, hd3⟩ : ∃ d3, d3 = reverseRange dk x y := ⟨_, rfl⟩
              obtain ⟨W3, hW3⟩ : ∃ W3, W3 = w3 := ⟨_, rfl⟩
              rw [← hd3] at HS3 HR3 HB3 HC3
              rw [← hW3] at HR3 ⊢
              clear hd3 hW3
              obtain ⟨G, HG, hcw, hfw⟩ := HR3.out.fam HS3.out
              by_cases hx0 : 0 < x
              · have hx0i : (0 : Int) < (x : Int) := by omega
                go_big_quiet (first | (go_at_call 75; refine Calls.quiet_of_same (less_u _ _ _)))
                go_wp2_with fail
                · have ht : (!ltInt (G (x - 1)) (G p2)) = true := by assumption
                  have HR4 := hid (HR3.out.drewN nq)
                  clear hcw hfw
                  generalize W3.drewN nq = W4 at HR4 ⊢
                  clear nq
                  have hc := peq_u w0 g off C N cap x y p2 d3 W4 HR4.out HS3.out hp1 hp2 hyN hsz
                  obtain ⟨k1, k2, k3, k4, k5⟩ := HC3.out.eq hx0 hp1 hp2 (by have := HS3.out; omega) HB3.out (by have := ht; simp only [HG.out] at this; simpa using this)
                  have HK3 := hid (k3.trans HS3.out)
                  have HK4 := hid k4
                  have HK5 := hid k5
                  clear k3 k4 k5 ht
                  go_wp2_with (go_at_call 76; with_reducible refine hc.mono ?_; rintro e w5 ⟨rfl, hw5⟩)
                  go_roundw
                  case rel => exact ⟨_, y, l, _, _, _, rfl, rfl, rfl, rfl, rfl, by omega, by omega, hyb, by omega, HK3, hid hw5, HK4, HK5⟩
                  case measure => simp [intOf]; omega
                · clear hx0i
                  have HR4 := hid (HR3.out.drewN nq)
                  clear hcw hfw
                  generalize W3.drewN nq = W4 at HR4 ⊢
                  clear nq
                  have hc := part_u w0 g off C N cap x y p2 d3 W4 HR4.out HS3.out hp1 hp2 hyN hsz
                  obtain ⟨k1, k2, k3, k4, k5, k6, k7⟩ := HC3.out.part hp1 hp2 (by have := HS3.out; omega) HB3.out
                  obtain ⟨mid, hmid⟩ : ∃ m, m = (partition ltInt d3 x y p2).1 := ⟨_, rfl⟩
                  obtain ⟨ap, hap⟩ : ∃ m, m = (partition ltInt d3 x y p2).2.1 := ⟨_, rfl⟩
                  obtain ⟨d4, hd4⟩ : ∃ m, m = (partition ltInt d3 x y p2).2.2 := ⟨_, rfl⟩
                  rw [← hmid, ← hd4, ← hap] at hc
                  rw [← hmid] at k1 k2
                  rw [← hd4] at k3
                  rw [← hmid, ← hd4] at k4 k5 k6 k7
                  have HK3 := hid (k3.trans HS3.out)
                  have HK4 := hid k4
                  have HK5 := hid k5
                  have HK6 := hid k6
                  have HK7 := hid k7
                  clear hmid hap hd4 k3 k4 k5 k6 k7
                  have q1 : mid - x < n := by omega
                  have q2 : mid ≤ N := by omega
                  have q3 : l ≤ 64 := by omega
                  have q4 : y - (mid + 1) < n := by omega
                  have q5 : mid + 1 ≤ y := by omega
                  have E1 : Hid (((mid + 1 : Nat) : Int) = (mid : Int) + 1) := by show _ = _; omega
                  go_wp2_with (first | (go_at_call 77; with_reducible refine hc.mono ?_; rintro e w5 ⟨rfl, hw5⟩; have HR5 := hid hw5; clear hw5 hc; have hcl := HIH.out.use x mid l d4 w5 q1 HR5.out HK3.out k1 q2 q3 HK4.out; have hcr := HIH.out.use (mid + 1) y l d4 w5 q4 HR5.out HK3.out q5 hyN q3 HK5.out; rw [E1.out] at hcr) | (go_at_call 63; with_reducible refine hcl.mono ?_; rintro e w6 ⟨rfl, d6, hq1, hq2, hw6⟩; clear hcr) | (go_at_call 63; with_reducible refine hcr.mono ?_; rintro e w6 ⟨rfl, d6, hq1, hq2, hw6⟩; clear hcl))
                  · obtain ⟨m1, m2⟩ := HK6.out d6 hq1 hq2
                    go_roundw
                    case rel => exact ⟨mid + 1, y, l, _, ap, d6, by go_num, rfl, rfl, rfl, rfl, by omega, by omega, hyb, by omega, hid (hq1.1.trans HK3.out), hid hw6, hid m1, hid m2⟩
                    case measure => simp [intOf]; omega
                  · obtain ⟨m1, m2⟩ := HK7.out d6 hq1 hq2
                    go_roundw
                    case rel => exact ⟨x, mid, l, _, ap, d6, rfl, rfl, rfl, rfl, rfl, by omega, by omega, by omega, by omega, hid (hq1.1.trans HK3.out), hid hw6, hid m1, hid m2⟩
                    case measure => simp [intOf]; omega
              · have hx0i : decide ((0 : Int) < (x : Int)) = false := decide_eq_false (by omega)
                have hx0n : decide (0 < x) = false := decide_eq_false (by omega)
                go_big_quiet (first | (go_at_call 75; refine Calls.quiet_of_same (less_u _ _ _)))
                clear hx0i hx0n
                have HR4 := hid (HR3.out.drewN nq)
                clear hcw hfw
                generalize W3.drewN nq = W4 at HR4 ⊢
                clear nq
                have hc := part_u w0 g off C N cap x y p2 d3 W4 HR4.out HS3.out hp1 hp2 hyN hsz
                obtain ⟨k1, k2, k3, k4, k5, k6, k7⟩ := HC3.out.part hp1 hp2 (by have := HS3.out; omega) HB3.out
                obtain ⟨mid, hmid⟩ : ∃ m, m = (partition ltInt d3 x y p2).1 := ⟨_, rfl⟩
                obtain ⟨ap, hap⟩ : ∃ m, m = (partition ltInt d3 x y p2).2.1 := ⟨_, rfl⟩
                obtain ⟨d4, hd4⟩ : ∃ m, m = (partition ltInt d3 x y p2).2.2 := ⟨_, rfl⟩
                rw [← hmid, ← hd4, ← hap] at hc
                rw [← hmid] at k1 k2
                rw [← hd4] at k3
                rw [← hmid, ← hd4] at k4 k5 k6 k7
                have HK3 := hid (k3.trans HS3.out)
                have HK4 := hid k4
                have HK5 := hid k5
                have HK6 := hid k6
                have HK7 := hid k7
                clear hmid hap hd4 k3 k4 k5 k6 k7
                have q1 : mid - x < n := by omega
                have q2 : mid ≤ N := by omega
                have q3 : l ≤ 64 := by omega
                have q4 : y - (mid + 1) < n := by omega
                have q5 : mid + 1 ≤ y := by omega
                have E1 : Hid (((mid + 1 : Nat) : Int) = (mid : Int) + 1) := by show _ = _; omega
                go_wp2_with (first | (go_at_call 77; with_reducible refine hc.mono ?_; rintro e w5 ⟨rfl, hw5⟩; have HR5 := hid hw5; clear hw5 hc; have hcl := HIH.out.use x mid l d4 w5 q1 HR5.out HK3.out k1 q2 q3 HK4.out; have hcr := HIH.out.use (mid + 1) y l d4 w5 q4 HR5.out HK3.out q5 hyN q3 HK5.out; rw [E1.out] at hcr) | (go_at_call 63; with_reducible refine hcl.mono ?_; rintro e w6 ⟨rfl, d6, hq1, hq2, hw6⟩; clear hcr) | (go_at_call 63; with_reducible refine hcr.mono ?_; rintro e w6 ⟨rfl, d6, hq1, hq2, hw6⟩; clear hcl))
                · obtain ⟨m1, m2⟩ := HK6.out d6 hq1 hq2
                  go_roundw
                  case rel => exact ⟨mid + 1, y, l, _, ap, d6, by go_num, rfl, rfl, rfl, rfl, by omega, by omega, hyb, by omega, hid (hq1.1.trans HK3.out), hid hw6, hid m1, hid m2⟩
                  case measure => simp [intOf]; omega
                · obtain ⟨m1, m2⟩ := HK7.out d6 hq1 hq2
                  go_roundw
                  case rel => exact ⟨x, mid, l, _, ap, d6, rfl, rfl, rfl, rfl, rfl, by omega, by omega, by omega, by omega, hid (hq1.1.trans HK3.out), hid hw6, hid m1, hid m2⟩
                  case measure => simp [intOf]; omega
            · have ht2i : ((t : Int) == 2) = false := by simp; omega
              go_wp2_with fail
              clear ht2i
              have HS3 := HS1
              have HR3 := HR2
              have HB3 := HB1
              have HC3 := HC1
              obtain ⟨d3, hd3⟩ : ∃ d3, d3 = dk := ⟨_, rfl⟩
              obtain ⟨W3, hW3⟩ : ∃ W3, W3 = w2 := ⟨_, rfl⟩
              rw [← hd3] at HS3 HR3 HB3 HC3
              rw [← hW3] at HR3 ⊢
              clear hd3 hW3
              obtain ⟨G, HG, hcw, hfw⟩ := HR3.out.fam HS3.out
              by_cases hx0 : 0 < x
              · have hx0i : (0 : Int) < (x : Int) := by omega
                go_big_quiet (first | (go_at_call 75; refine Calls.quiet_of_same (less_u _ _ _)))
                go_wp2_with fail
                · have ht : (!ltInt (G (x - 1)) (G p)) = true := by assumption
                  have HR4 := hid (HR3.out.drewN nq)
                  clear hcw hfw
                  generalize W3.drewN nq = W4 at HR4 ⊢
                  clear nq
                  have hc := peq_u w0 g off C N cap x y p d3 W4 HR4.out HS3.out hp1 hp2 hyN hsz
                  obtain ⟨k1, k2, k3, k4, k5⟩ := HC3.out.eq hx0 hp1 hp2 (by have := HS3.out; omega) HB3.out (by have := ht; simp only [HG.out] at this; simpa using this)
                  have HK3 := hid (k3.trans HS3.out)
                  have HK4 := hid k4
                  have HK5 := hid k5
                  clear k3 k4 k5 ht
                  go_wp2_with (go_at_call 76; with_reducible refine hc.mono ?_; rintro e w5 ⟨rfl, hw5⟩)
                  go_roundw
                  case rel => exact ⟨_, y, l, _, _, _, rfl, rfl, rfl, rfl, rfl, by omega, by omega, hyb, by omega, HK3, hid hw5, HK4, HK5⟩
                  case measure => simp [intOf]; omega
                · clear hx0i
                  have HR4 := hid (HR3.out.drewN nq)
                  clear hcw hfw
                  generalize W3.drewN nq = W4 at HR4 ⊢
                  clear nq
                  have hc := part_u w0 g off C N cap x y p d3 W4 HR4.out HS3.out hp1 hp2 hyN hsz
                  obtain ⟨k1, k2, k3, k4, k5, k6, k7⟩ := HC3.out.part hp1 hp2 (by have := HS3.out; omega) HB3.out
                  obtain ⟨mid, hmid⟩ : ∃ m, m = (partition ltInt d3 x y p).1 := ⟨_, rfl⟩
                  obtain ⟨ap, hap⟩ : ∃ m, m = (partition ltInt d3 x y p).2.1 := ⟨_, rfl⟩
                  obtain ⟨d4, hd4⟩ : ∃ m, m = (partition ltInt d3 x y p).2.2 := ⟨_, rfl⟩
                  rw [← hmid, ← hd4, ← hap] at hc
                  rw [← hmid] at k1 k2
                  rw [← hd4] at k3
                  rw [← hmid, ← hd4] at k4 k5 k6 k7
                  have HK3 := hid (k3.trans HS3.out)
                  have HK4 := hid k4
                  have HK5 := hid k5
                  have HK6 := hid k6
                  have HK7 := hid k7
                  clear hmid hap hd4 k3 k4 k5 k6 k7
                  have q1 : mid - x < n := by omega
                  have q2 : mid ≤ N := by omega
                  have q3 : l ≤ 64 := by omega
                  have q4 : y - (mid + 1) < n := by omega
                  have q5 : mid + 1 ≤ y := by omega
                  have E1 : Hid (((mid + 1 : Nat) : Int) = (mid : Int) + 1) := by show _ = _; omega
                  go_wp2_with (first | (go_at_call 77; with_reducible refine hc.mono ?_; rintro e w5 ⟨rfl, hw5⟩; have HR5 := hid hw5; clear hw5 hc; have hcl := HIH.out.use x mid l d4 w5 q1 HR5.out HK3.out k1 q2 q3 HK4.out; have hcr := HIH.out.use (mid + 1) y l d4 w5 q4 HR5.out HK3.out q5 hyN q3 HK5.out; rw [E1.out] at hcr) | (go_at_call 63; with_reducible refine hcl.mono ?_; rintro e w6 ⟨rfl, d6, hq1, hq2, hw6⟩; clear hcr) | (go_at_call 63; with_reducible refine hcr.mono ?_; rintro e w6 ⟨rfl, d6, hq1, hq2, hw6⟩; clear hcl))
                  · obtain ⟨m1, m2⟩ := HK6.out d6 hq1 hq2
                    go_roundw
                    case rel => exact ⟨mid + 1, y, l, _, ap, d6, by go_num, rfl, rfl, rfl, rfl, by omega, by omega, hyb, by omega, hid (hq1.1.trans HK3.out), hid hw6, hid m1, hid m2⟩
                    case measure => simp [intOf]; omega
                  · obtain ⟨m1, m2⟩ := HK7.out d6 hq1 hq2
                    go_roundw
                    case rel => exact ⟨x, mid, l, _, ap, d6, rfl, rfl, rfl, rfl, rfl, by omega, by omega, by omega, by omega, hid (hq1.1.trans HK3.out), hid hw6, hid m1, hid m2⟩
                    case measure => simp [intOf]; omega
              · have hx0i : decide ((0 : Int) < (x : Int)) = false := decide_eq_false (by omega)
                have hx0n : decide (0 < x) = false := decide_eq_false (by omega)
                go_big_quiet (first | (go_at_call 75; refine Calls.quiet_of_same (less_u _ _ _)))
                clear hx0i hx0n
                have HR4 := hid (HR3.out.drewN nq)
                clear hcw hfw
                generalize W3.drewN nq = W4 at HR4 ⊢
                clear nq
                have hc := part_u w0 g off C N cap x y p d3 W4 HR4.out HS3.out hp1 hp2 hyN hsz
                obtain ⟨k1, k2, k3, k4, k5, k6, k7⟩ := HC3.out.part hp1 hp2 (by have := HS3.out; omega) HB3.out
                obtain ⟨mid, hmid⟩ : ∃ m, m = (partition ltInt d3 x y p).1 := ⟨_, rfl⟩
                obtain ⟨ap, hap⟩ : ∃ m, m = (partition ltInt d3 x y p).2.1 := ⟨_, rfl⟩
                obtain ⟨d4, hd4⟩ : ∃ m, m = (partition ltInt d3 x y p).2.2 := ⟨_, rfl⟩
                rw [← hmid, ← hd4, ← hap] at hc
                rw [← hmid] at k1 k2
                rw [← hd4] at k3
                rw [← hmid, ← hd4] at k4 k5 k6 k7
                have HK3 := hid (k3.trans HS3.out)
                have HK4 := hid k4
                have HK5 := hid k5
                have HK6 := hid k6
                have HK7 := hid k7
                clear hmid hap hd4 k3 k4 k5 k6 k7
                have q1 : mid - x < n := by omega
                have q2 : mid ≤ N := by omega
                have q3 : l ≤ 64 := by omega
                have q4 : y - (mid + 1) < n := by omega
                have q5 : mid + 1 ≤ y := by omega
                have E1 : Hid (((mid + 1 : Nat) : Int) = (mid : Int) + 1) := by show _ = _; omega
                go_wp2_with (first | (go_at_call 77; with_reducible refine hc.mono ?_; rintro e w5 ⟨rfl, hw5⟩; have HR5 := hid hw5; clear hw5 hc; have hcl := HIH.out.use x mid l d4 w5 q1 HR5.out HK3.out k1 q2 q3 HK4.out; have hcr := HIH.out.use (mid + 1) y l d4 w5 q4 HR5.out HK3.out q5 hyN q3 HK5.out; rw [E1.out] at hcr) | (go_at_call 63; with_reducible refine hcl.mono ?_; rintro e w6 ⟨rfl, d6, hq1, hq2, hw6⟩; clear hcr) | (go_at_call 63; with_reducible refine hcr.mono ?_; rintro e w6 ⟨rfl, d6, hq1, hq2, hw6⟩; clear hcl))
                · obtain ⟨m1, m2⟩ := HK6.out d6 hq1 hq2
                  go_roundw
                  case rel => exact ⟨mid + 1, y, l, _, ap, d6, by go_num, rfl, rfl, rfl, rfl, by omega, by omega, hyb, by omega, hid (hq1.1.trans HK3.out), hid hw6, hid m1, hid m2⟩
                  case measure => simp [intOf]; omega
                · obtain ⟨m1, m2⟩ := HK7.out d6 hq1 hq2
                  go_roundw
                  case rel => exact ⟨x, mid, l, _, ap, d6, rfl, rfl, rfl, rfl, rfl, by omega, by omega, by omega, by omega, hid (hq1.1.trans HK3.out), hid hw6, hid m1, hid m2⟩
                  case measure => simp [intOf]; omega
          | true =>
            have hcp := piv_u g off N cap x y wr (let ⟨G, _, hG, _⟩ := HR1.out.fam HS1.out; ⟨G, hG⟩) HR1.out.lt (by omega) hyN hsz
            go_upto_region 11 with (go_at_call 72; with_reducible refine hcp.mono ?_; rintro e w2 ⟨p, t, rfl, hp1, hp2, ht, hw2⟩)
            have HR2 := hid (HR1.out.below (hw2))
            clear hw2 hcp
            have htc : t = 2 ∨ t = 1 ∨ t = 0 := by omega
            rcases htc with rfl | rfl | rfl
            · have hrv := rev_u w0 g off C N cap x y dk w2 HR2.out HS1.out (by omega) hyN hsz
              have hrp := reverseRange_holds dk x y hxy (by have := HS1.out; omega)
              have HSr := hid (hrp.1.trans HS1.out)
              have HBr := hid (HB1.out.perm (by have := HS1.out; omega) hrp)
              have HCr := hid (HC1.out.perm hrp)
              clear hrp
              have HPS := hid (partialInsertionSort_holds swo_ltInt (reverseRange dk x y) x y (by omega) (by have := HSr.out; omega) HBr.out)
              go_wp2_with (first | (go_at_call 73; with_reducible refine hrv.mono ?_; rintro e w3 ⟨rfl, hw3⟩; have HRr := hid hw3; clear hw3) | (go_at_call 74; refine (pin_u w0 g off C N cap x y (reverseRange dk x y) w3 HRr.out HSr.out (by omega) hyN hsz).mono ?_; rintro e w4 ⟨rfl, hw4⟩; have HRp := hid hw4; clear hw4))
              · have hb : (partialInsertionSort ltInt (reverseRange dk x y) x y).2 = true := by assumption
                refine bodyPost_ret (results_none rfl _ _ _) rfl ⟨rfl, ?_⟩
                have hs := HPS.out.2 hb
                obtain ⟨p1, p2⟩ := HCr.out _ HPS.out.1 hs
                exact ⟨_, p1, p2, HRp.out⟩
              · have HSp := hid (HPS.out.1.1.trans HSr.out)
                have HBp := hid (HBr.out.perm (by have := HSr.out; omega) HPS.out.1)
                have HCp := hid (HCr.out.perm HPS.out.1)
                obtain ⟨p2, hp2e⟩ : ∃ p2 : Nat, (y : Int) - 1 - ((p : Int) - (x : Int)) = (p2 : Int) := ⟨(y - 1) - (p - x), by omega⟩
                rw [hp2e]
                have hq1 : x ≤ p2 := by omega
                have hq2 : p2 < y := by omega
                clear hp1 hp2 hp2e
                have hp1 := hq1
                have hp2 := hq2
                clear hq1 hq2
                have HS3 := HSp
                have HR3 := HRp
                have HB3 := HBp
                have HC3 := HCp
                obtain ⟨d3, hd3⟩ : ∃ d3, d3 = (partialInsertionSort ltInt (reverseRange dk x y) x y).1 := ⟨_, rfl⟩
                obtain ⟨W3, hW3⟩ : ∃ W3, W3 = w4 := ⟨_, rfl⟩
                rw [← hd3] at HS3 HR3 HB3 HC3
                rw [← hW3] at HR3 ⊢
                clear hd3 hW3
                obtain ⟨G, HG, hcw, hfw⟩ := HR3.out.fam HS3.out
                by_cases hx0 : 0 < x
                · have hx0i : (0 : Int) < (x : Int) := by omega
                  go_big_quiet (first | (go_at_call 75; refine Calls.quiet_of_same (less_u _ _ _)))
                  go_wp2_with fail
                  · have ht : (!ltInt (G (x - 1)) (G p2)) = true := by assumption
                    have HR4 := hid (HR3.out.drewN nq)
                    clear hcw hfw
                    generalize W3.drewN nq = W4 at HR4 ⊢
                    clear nq
                    have hc := peq_u w0 g off C N cap x y p2 d3 W4 HR4.out HS3.out hp1 hp2 hyN hsz
                    obtain ⟨k1, k2, k3, k4, k5⟩ := HC3.out.eq hx0 hp1 hp2 (by have := HS3.out; omega) HB3.out (by have := ht; simp only [HG.out] at this; simpa using this)
                    have HK3 := hid (k3.trans HS3.out)
                    have HK4 := hid k4
                    have HK5 := hid k5
                    clear k3 k4 k5 ht
                    go_wp2_with (go_at_call 76; with_reducible refine hc.mono ?_; rintro e w5 ⟨rfl, hw5⟩)
                    go_roundw
                    case rel => exact ⟨_, y, l, _, _, _, rfl, rfl, rfl, rfl, rfl, by omega, by omega, hyb, by omega, HK3, hid hw5, HK4, HK5⟩
                    case measure => simp [intOf]; omega
                  · clear hx0i
                    have HR4 := hid (HR3.out.drewN nq)
                    clear hcw hfw
                    generalize W3.drewN nq = W4 at HR4 ⊢
                    clear nq
                    have hc := part_u w0 g off C N cap x y p2 d3 W4 HR4.out HS3.out hp1 hp2 hyN hsz
                    obtain ⟨k1, k2, k3, k4, k5, k6, k7⟩ := HC3.out.part hp1 hp2 (by have := HS3.out; omega) HB3.out
                    obtain ⟨mid, hmid⟩ : ∃ m, m = (partition ltInt d3 x y p2).1 := ⟨_, rfl⟩
                    obtain ⟨ap, hap⟩ : ∃ m, m = (partition ltInt d3 x y p2).2.1 := ⟨_, rfl⟩
                    obtain ⟨d4, hd4⟩ : ∃ m, m = (partition ltInt d3 x y p2).2.2 := ⟨_, rfl⟩
                    rw [← hmid, ← hd4, ← hap] at hc
                    rw [← hmid] at k1 k2
                    rw [← hd4] at k3
                    rw [← hmid, ← hd4] at k4 k5 k6 k7
                    have HK3 := hid (k3.trans HS3.out)
                    have HK4 := hid k4
                    have HK5 := hid k5
                    have HK6 := hid k6
                    have HK7 := hid k7
                    clear hmid hap hd4 k3 k4 k5 k6 k7
                    have q1 : mid - x < n := by omega
                    have q2 : mid ≤ N := by omega
                    have q3 : l ≤ 64 := by omega
                    have q4 : y - (mid + 1) < n := by omega
                    have q5 : mid + 1 ≤ y := by omega
                    have E1 : Hid (((mid + 1 : Nat) : Int) = (mid : Int) + 1) := by show _ = _; omega
                    go_wp2_with (first | (go_at_call 77; with_reducible refine hc.mono ?_; rintro e w5 ⟨rfl, hw5⟩; have HR5 := hid hw5; clear hw5 hc; have hcl := HIH.out.use x mid l d4 w5 q1 HR5.out HK3.out k1 q2 q3 HK4.out; have hcr := HIH.out.use (mid + 1) y l d4 w5 q4 HR5.out HK3.out q5 hyN q3 HK5.out; rw [E1.out] at hcr) | (go_at_call 63; with_reducible refine hcl.mono ?_; rintro e w6 ⟨rfl, d6, hq1, hq2, hw6⟩; clear hcr) | (go_at_call 63; with_reducible refine hcr.mono ?_; rintro e w6 ⟨rfl, d6, hq1, hq2, hw6⟩; clear hcl))
                    · obtain ⟨m1, m2⟩ := HK6.out d6 hq1 hq2
                      go_roundw
                      case rel => exact ⟨mid + 1, y, l, _, ap, d6, by go_num, rfl, rfl, rfl, rfl, by omega, by omega, hyb, by omega, hid (hq1.1.trans HK3.out), hid hw6, hid m1, hid m2⟩
                      case measure => simp [intOf]; omega
                    · obtain ⟨m1, m2⟩ := HK7.out d6 hq1 hq2
                      go_roundw
                      case rel => exact ⟨x, mid, l, _, ap, d6, rfl, rfl, rfl, rfl, rfl, by omega, by omega, by omega, by omega, hid (hq1.1.trans HK3.out), hid hw6, hid m1, hid m2⟩
                      case measure => simp [intOf]; omega
                · have hx0i : decide ((0 : Int) < (x : Int)) = false := decide_eq_false (by omega)
                  have hx0n : decide (0 < x) = false := decide_eq_false (by omega)
                  go_big_quiet (first | (go_at_call 75; refine Calls.quiet_of_same (less_u _ _ _)))
                  clear hx0i hx0n
                  have HR4 := hid (HR3.out.drewN nq)
                  clear hcw hfw
                  generalize W3.drewN nq = W4 at HR4 ⊢
                  clear nq
                  have hc := part_u w0 g off C N cap x y p2 d3 W4 HR4.out HS3.out hp1 hp2 hyN hsz
                  obtain ⟨k1, k2, k3, k4, k5, k6, k7⟩ := HC3.out.part hp1 hp2 (by have := HS3.out; omega) HB3.out
                  obtain ⟨mid, hmid⟩ : ∃ m, m = (partition ltInt d3 x y p2).1 := ⟨_, rfl⟩
                  obtain ⟨ap, hap⟩ : ∃ m, m = (partition ltInt d3 x y p2).2.1 := ⟨_, rfl⟩
                  obtain ⟨d4, hd4⟩ : ∃ m, m = (partition ltInt d3 x y p2).2.2 := ⟨_, rfl⟩
                  rw [← hmid, ← hd4, ← hap] at hc
                  rw [← hmid] at k1 k2
                  rw [← hd4] at k3
                  rw [← hmid, ← hd4] at k4 k5 k6 k7
                  have HK3 := hid (k3.trans HS3.out)
                  have HK4 := hid k4
                  have HK5 := hid k5
                  have HK6 := hid k6
                  have HK7 := hid k7
                  clear hmid hap hd4 k3 k4 k5 k6 k7
                  have q1 : mid - x < n := by omega
                  have q2 : mid ≤ N := by omega
                  have q3 : l ≤ 64 := by omega
                  have q4 : y - (mid + 1) < n := by omega
                  have q5 : mid + 1 ≤ y := by omega
                  have E1 : Hid (((mid + 1 : Nat) : Int) = (mid : Int) + 1) := by show _ = _; omega
                  go_wp2_with (first | (go_at_call 77; with_reducible refine hc.mono ?_; rintro e w5 ⟨rfl, hw5⟩; have HR5 := hid hw5; clear hw5 hc; have hcl := HIH.out.use x mid l d4 w5 q1 HR5.out HK3.out k1 q2 q3 HK4.out; have hcr := HIH.out.use (mid + 1) y l d4 w5 q4 HR5.out HK3.out q5 hyN q3 HK5.out; rw [E1.out] at hcr) | (go_at_call 63; with_reducible refine hcl.mono ?_; rintro e w6 ⟨rfl, d6, hq1, hq2, hw6⟩; clear hcr) | (go_at_call 63; with_reducible refine hcr.mono ?_; rintro e w6 ⟨rfl, d6, hq1, hq2, hw6⟩; clear hcl))
                  · obtain ⟨m1, m2⟩ := HK6.out d6 hq1 hq2
                    go_roundw
                    case rel => exact ⟨mid + 1, y, l, _, ap, d6, by go_num, rfl, rfl, rfl, rfl, by omega, by omega, hyb, by omega, hid (hq1.1.trans HK3.out), hid hw6, hid m1, hid m2⟩
                    case measure => simp [intOf]; omega
                  · obtain ⟨m1, m2⟩ := HK7.out d6 hq1 hq2
                    go_roundw
                    case rel => exact ⟨x, mid, l, _, ap, d6, rfl, rfl, rfl, rfl, rfl, by omega, by omega, by omega, by omega, hid (hq1.1.trans HK3.out), hid hw6, hid m1, hid m2⟩
                    case measure => simp [intOf]; omega
            · have HPS := hid (partialInsertionSort_holds swo_ltInt dk x y (by omega) (by have := HS1.out; omega) HB1.out)
              have hpi := pin_u w0 g off C N cap x y dk w2 HR2.out HS1.out (by omega) hyN hsz
              go_wp2_with (go_at_call 74; with_reducible refine hpi.mono ?_; rintro e w4 ⟨rfl, hw4⟩; have HRp := hid hw4; clear hw4)
              · have hb : (partialInsertionSort ltInt dk x y).2 = true := by assumption
                refine bodyPost_ret (results_none rfl _ _ _) rfl ⟨rfl, ?_⟩
                have hs := HPS.out.2 hb
                obtain ⟨p1, p2⟩ := HC1.out _ HPS.out.1 hs
                exact ⟨_, p1, p2, HRp.out⟩
              · have HSp := hid (HPS.out.1.1.trans HS1.out)
                have HBp := hid (HB1.out.perm (by have := HS1.out; omega) HPS.out.1)
                have HCp := hid (HC1.out.perm HPS.out.1)
                have HS3 := HSp
                have HR3 := HRp
                have HB3 := HBp
                have HC3 := HCp
                obtain ⟨d3, hd3⟩ : ∃ d3, d3 = (partialInsertionSort ltInt dk x y).1 := ⟨_, rfl⟩
                obtain ⟨W3, hW3⟩ : ∃ W3, W3 = w4 := ⟨_, rfl⟩
                rw [← hd3] at HS3 HR3 HB3 HC3
                rw [← hW3] at HR3 ⊢
                clear hd3 hW3
                obtain ⟨G, HG, hcw, hfw⟩ := HR3.out.fam HS3.out
                by_cases hx0 : 0 < x
                · have hx0i : (0 : Int) < (x : Int) := by omega
                  go_big_quiet (first | (go_at_call 75; refine Calls.quiet_of_same (less_u _ _ _)))
                  go_wp2_with fail
                  · have ht : (!ltInt (G (x - 1)) (G p)) = true := by assumption
                    have HR4 := hid (HR3.out.drewN nq)
                    clear hcw hfw
                    generalize W3.drewN nq = W4 at HR4 ⊢
                    clear nq
                    have hc := peq_u w0 g off C N cap x y p d3 W4 HR4.out HS3.out hp1 hp2 hyN hsz
                    obtain ⟨k1, k2, k3, k4, k5⟩ := HC3.out.eq hx0 hp1 hp2 (by have := HS3.out; omega) HB3.out (by have := ht; simp only [HG.out] at this; simpa using this)
                    have HK3 := hid (k3.trans HS3.out)
                    have HK4 := hid k4
                    have HK5 := hid k5
                    clear k3 k4 k5 ht
                    go_wp2_with (go_at_call 76; with_reducible refine hc.mono ?_; rintro e w5 ⟨rfl, hw5⟩)
                    go_roundw
                    case rel => exact ⟨_, y, l, _, _, _, rfl, rfl, rfl, rfl, rfl, by omega, by omega, hyb, by omega, HK3, hid hw5, HK4, HK5⟩
                    case measure => simp [intOf]; omega
                  · clear hx0i
                    have HR4 := hid (HR3.out.drewN nq)
                    clear hcw hfw
                    generalize W3.drewN nq = W4 at HR4 ⊢
                    clear nq
                    have hc := part_u w0 g off C N cap x y p d3 W4 HR4.out HS3.out hp1 hp2 hyN hsz
                    obtain ⟨k1, k2, k3, k4, k5, k6, k7⟩ := HC3.out.part hp1 hp2 (by have := HS3.out; omega) HB3.out
                    obtain ⟨mid, hmid⟩ : ∃ m, m = (partition ltInt d3 x y p).1 := ⟨_, rfl⟩
                    obtain ⟨ap, hap⟩ : ∃ m, m = (partition ltInt d3 x y p).2.1 := ⟨_, rfl⟩
                    obtain ⟨d4, hd4⟩ : ∃ m, m = (partition ltInt d3 x y p).2.2 := ⟨_, rfl⟩
                    rw [← hmid, ← hd4, ← hap] at hc
                    rw [← hmid] at k1 k2
                    rw [← hd4] at k3
                    rw [← hmid, ← hd4] at k4 k5 k6 k7
                    have HK3 := hid (k3.trans HS3.out)
                    have HK4 := hid k4
                    have HK5 := hid k5
                    have HK6 := hid k6
                    have HK7 := hid k7
                    clear hmid hap hd4 k3 k4 k5 k6 k7
                    have q1 : mid - x < n := by omega
                    have q2 : mid ≤ N := by omega
                    have q3 : l ≤ 64 := by omega
                    have q4 : y - (mid + 1) < n := by omega
                    have q5 : mid + 1 ≤ y := by omega
                    have E1 : Hid (((mid + 1 : Nat) : Int) = (mid : Int) + 1) := by show _ = _; omega
                    go_wp2_with (first | (go_at_call 77; with_reducible refine hc.mono ?_; rintro e w5 ⟨rfl, hw5⟩; have HR5 := hid hw5; clear hw5 hc; have hcl := HIH.out.use x mid l d4 w5 q1 HR5.out HK3.out k1 q2 q3 HK4.out; have hcr := HIH.out.use (mid + 1) y l d4 w5 q4 HR5.out HK3.out q5 hyN q3 HK5.out; rw [E1.out] at hcr) | (go_at_call 63; with_reducible refine hcl.mono ?_; rintro e w6 ⟨rfl, d6, hq1, hq2, hw6⟩; clear hcr) | (go_at_call 63; with_reducible refine hcr.mono ?_; rintro e w6 ⟨rfl, d6, hq1, hq2, hw6⟩; clear hcl))
                    · obtain ⟨m1, m2⟩ := HK6.out d6 hq1 hq2
                      go_roundw
                      case rel => exact ⟨mid + 1, y, l, _, ap, d6, by go_num, rfl, rfl, rfl, rfl, by omega, by omega, hyb, by omega, hid (hq1.1.trans HK3.out), hid hw6, hid m1, hid m2⟩
                      case measure => simp [intOf]; omega
                    · obtain ⟨m1, m2⟩ := HK7.out d6 hq1 hq2
                      go_roundw
                      case rel => exact ⟨x, mid, l, _, ap, d6, rfl, rfl, rfl, rfl, rfl, by omega, by omega, by omega, by omega, hid (hq1.1.trans HK3.out), hid hw6, hid m1, hid m2⟩
                      case measure => simp [intOf]; omega
                · have hx0i : decide ((0 : Int) < (x : Int)) = false := decide_eq_false (by omega)
                  have hx0n : decide (0 < x) = false := decide_eq_false (by omega)
                  go_big_quiet (first | (go_at_call 75; refine Calls.quiet_of_same (less_u _ _ _)))
                  clear hx0i hx0n
                  have HR4 := hid (HR3.out.drewN nq)
                  clear hcw hfw
                  generalize W3.drewN nq = W4 at HR4 ⊢
                  clear nq
                  have hc := part_u w0 g off C N cap x y p d3 W4 HR4.out HS3.out hp1 hp2 hyN hsz
                  obtain ⟨k1, k2, k3, k4, k5, k6, k7⟩ := HC3.out.part hp1 hp2 (by have := HS3.out; omega) HB3.out
                  obtain ⟨mid, hmid⟩ : ∃ m, m = (partition ltInt d3 x y p).1 := ⟨_, rfl⟩
                  obtain ⟨ap, hap⟩ : ∃ m, m = (partition ltInt d3 x y p).2.1 := ⟨_, rfl⟩
                  obtain ⟨d4, hd4⟩ : ∃ m, m = (partition ltInt d3 x y p).2.2 := ⟨_, rfl⟩
                  rw [← hmid, ← hd4, ← hap] at hc
                  rw [← hmid] at k1 k2
                  rw [← hd4] at k3
                  rw [← hmid, ← hd4] at k4 k5 k6 k7
                  have HK3 := hid (k3.trans HS3.out)
                  have HK4 := hid k4
                  have HK5 := hid k5
                  have HK6 := hid k6
                  have HK7 := hid k7
                  clear hmid hap hd4 k3 k4 k5 k6 k7
                  have q1 : mid - x < n := by omega
                  have q2 : mid ≤ N := by omega
                  have q3 : l ≤ 64 := by omega
                  have q4 : y - (mid + 1) < n := by omega
                  have q5 : mid + 1 ≤ y := by omega
                  have E1 : Hid (((mid + 1 : Nat) : Int) = (mid : Int) + 1) := by show _ = _; omega
                  go_wp2_with (first | (go_at_call 77; with_reducible refine hc.mono ?_; rintro e w5 ⟨rfl, hw5⟩; have HR5 := hid hw5; clear hw5 hc; have hcl := HIH.out.use x mid l d4 w5 q1 HR5.out HK3.out k1 q2 q3 HK4.out; have hcr := HIH.out.use (mid + 1) y l d4 w5 q4 HR5.out HK3.out q5 hyN q3 HK5.out; rw [E1.out] at hcr) | (go_at_call 63; with_reducible refine hcl.mono ?_; rintro e w6 ⟨rfl, d6, hq1, hq2, hw6⟩; clear hcr) | (go_at_call 63; with_reducible refine hcr.mono ?_; rintro e w6 ⟨rfl, d6, hq1, hq2, hw6⟩; clear hcl))
                  · obtain ⟨m1, m2⟩ := HK6.out d6 hq1 hq2
                    go_roundw
                    case rel => exact ⟨mid + 1, y, l, _, ap, d6, by go_num, rfl, rfl, rfl, rfl, by omega, by omega, hyb, by omega, hid (hq1.1.trans HK3.out), hid hw6, hid m1, hid m2⟩
                    case measure => simp [intOf]; omega
                  · obtain ⟨m1, m2⟩ := HK7.out d6 hq1 hq2
                    go_roundw
                    case rel => exact ⟨x, mid, l, _, ap, d6, rfl, rfl, rfl, rfl, rfl, by omega, by omega, by omega, by omega, hid (hq1.1.trans HK3.out), hid hw6, hid m1, hid m2⟩
                    case measure => simp [intOf]; omega
            · go_wp2_with fail
              have HS3 := HS1
              have HR3 := HR2
              have HB3 := HB1
              have HC3 := HC1
              obtain ⟨d3, hd3⟩ : ∃ d3, d3 = dk := ⟨_, rfl⟩
              obtain ⟨W3, hW3⟩ : ∃ W3, W3 = w2 := ⟨_, rfl⟩
              rw [← hd3] at HS3 HR3 HB3 HC3
              rw [← hW3] at HR3 ⊢
              clear hd3 hW3
              obtain ⟨G, HG, hcw, hfw⟩ := HR3.out.fam HS3.out
              by_cases hx0 : 0 < x
              · have hx0i : (0 : Int) < (x : Int) := by omega
                go_big_quiet (first | (go_at_call 75; refine Calls.quiet_of_same (less_u _ _ _)))
                go_wp2_with fail
                · have ht : (!ltInt (G (x - 1)) (G p)) = true := by assumption
                  have HR4 := hid (HR3.out.drewN nq)
                  clear hcw hfw
                  generalize W3.drewN nq = W4 at HR4 ⊢
                  clear nq
                  have hc := peq_u w0 g off C N cap x y p d3 W4 HR4.out HS3.out hp1 hp2 hyN hsz
                  obtain ⟨k1, k2, k3, k4, k5⟩ := HC3.out.eq hx0 hp1 hp2 (by have := HS3.out; omega) HB3.out (by have := ht; simp only [HG.out] at this; simpa using this)
                  have HK3 := hid (k3.trans HS3.out)
                  have HK4 := hid k4
                  have HK5 := hid k5
                  clear k3 k4 k5 ht
                  go_wp2_with (go_at_call 76; with_reducible refine hc.mono ?_; rintro e w5 ⟨rfl, hw5⟩)
                  go_roundw
                  case rel => exact ⟨_, y, l, _, _, _, rfl, rfl, rfl, rfl, rfl, by omega, by omega, hyb, by omega, HK3, hid hw5, HK4, HK5⟩
                  case measure => simp [intOf]; omega
                · clear hx0i
                  have HR4 := hid (HR3.out.drewN nq)
                  clear hcw hfw
                  generalize W3.drewN nq = W4 at HR4 ⊢
                  clear nq
                  have hc := part_u w0 g off C N cap x y p d3 W4 HR4.out HS3.out hp1 hp2 hyN hsz
                  obtain ⟨k1, k2, k3, k4, k5, k6, k7⟩ := HC3.out.part hp1 hp2 (by have := HS3.out; omega) HB3.out
                  obtain ⟨mid, hmid⟩ : ∃ m, m = (partition ltInt d3 x y p).1 := ⟨_, rfl⟩
                  obtain ⟨ap, hap⟩ : ∃ m, m = (partition ltInt d3 x y p).2.1 := ⟨_, rfl⟩
                  obtain ⟨d4, hd4⟩ : ∃ m, m = (partition ltInt d3 x y p).2.2 := ⟨_, rfl⟩
                  rw [← hmid, ← hd4, ← hap] at hc
                  rw [← hmid] at k1 k2
                  rw [← hd4] at k3
                  rw [← hmid, ← hd4] at k4 k5 k6 k7
                  have HK3 := hid (k3.trans HS3.out)
                  have HK4 := hid k4
                  have HK5 := hid k5
                  have HK6 := hid k6
                  have HK7 := hid k7
                  clear hmid hap hd4 k3 k4 k5 k6 k7
                  have q1 : mid - x < n := by omega
                  have q2 : mid ≤ N := by omega
                  have q3 : l ≤ 64 := by omega
                  have q4 : y - (mid + 1) < n := by omega
                  have q5 : mid + 1 ≤ y := by omega
                  have E1 : Hid (((mid + 1 : Nat) : Int) = (mid : Int) + 1) := by show _ = _; omega
                  go_wp2_with (first | (go_at_call 77; with_reducible refine hc.mono ?_; rintro e w5 ⟨rfl, hw5⟩; have HR5 := hid hw5; clear hw5 hc; have hcl := HIH.out.use x mid l d4 w5 q1 HR5.out HK3.out k1 q2 q3 HK4.out; have hcr := HIH.out.use (mid + 1) y l d4 w5 q4 HR5.out HK3.out q5 hyN q3 HK5.out; rw [E1.out] at hcr) | (go_at_call 63; with_reducible refine hcl.mono ?_; rintro e w6 ⟨rfl, d6, hq1, hq2, hw6⟩; clear hcr) | (go_at_call 63; with_reducible refine hcr.mono ?_; rintro e w6 ⟨rfl, d6, hq1, hq2, hw6⟩; clear hcl))
                  · obtain ⟨m1, m2⟩ := HK6.out d6 hq1 hq2
                    go_roundw
                    case rel => exact ⟨mid + 1, y, l, _, ap, d6, by go_num, rfl, rfl, rfl, rfl, by omega, by omega, hyb, by omega, hid (hq1.1.trans HK3.out), hid hw6, hid m1, hid m2⟩
                    case measure => simp [intOf]; omega
                  · obtain ⟨m1, m2⟩ := HK7.out d6 hq1 hq2
                    go_roundw
                    case rel => exact ⟨x, mid, l, _, ap, d6, rfl, rfl, rfl, rfl, rfl, by omega, by omega, by omega, by omega, hid (hq1.1.trans HK3.out), hid hw6, hid m1, hid m2⟩
                    case measure => simp [intOf]; omega
              · have hx0i : decide ((0 : Int) < (x : Int)) = false := decide_eq_false (by omega)
                have hx0n : decide (0 < x) = false := decide_eq_false (by omega)
                go_big_quiet (first | (go_at_call 75; refine Calls.quiet_of_same (less_u _ _ _)))
                clear hx0i hx0n
                have HR4 := hid (HR3.out.drewN nq)
                clear hcw hfw
                generalize W3.drewN nq = W4 at HR4 ⊢
                clear nq
                have hc := part_u w0 g off C N cap x y p d3 W4 HR4.out HS3.out hp1 hp2 hyN hsz
                obtain ⟨k1, k2, k3, k4, k5, k6, k7⟩ := HC3.out.part hp1 hp2 (by have := HS3.out; omega) HB3.out
                obtain ⟨mid, hmid⟩ : ∃ m, m = (partition ltInt d3 x y p).1 := ⟨_, rfl⟩
                obtain ⟨ap, hap⟩ : ∃ m, m = (partition ltInt d3 x y p).2.1 := ⟨_, rfl⟩
                obtain ⟨d4, hd4⟩ : ∃ m, m = (partition ltInt d3 x y p).2.2 := ⟨_, rfl⟩
                rw [← hmid, ← hd4, ← hap] at hc
                rw [← hmid] at k1 k2
                rw [← hd4] at k3
                rw [← hmid, ← hd4] at k4 k5 k6 k7
                have HK3 := hid (k3.trans HS3.out)
                have HK4 := hid k4
                have HK5 := hid k5
                have HK6 := hid k6
                have HK7 := hid k7
                clear hmid hap hd4 k3 k4 k5 k6 k7
                have q1 : mid - x < n := by omega
                have q2 : mid ≤ N := by omega
                have q3 : l ≤ 64 := by omega
                have q4 : y - (mid + 1) < n := by omega
                have q5 : mid + 1 ≤ y := by omega
                have E1 : Hid (((mid + 1 : Nat) : Int) = (mid : Int) + 1) := by show _ = _; omega
                go_wp2_with (first | (go_at_call 77; with_reducible refine hc.mono ?_; rintro e w5 ⟨rfl, hw5⟩; have HR5 := hid hw5; clear hw5 hc; have hcl := HIH.out.use x mid l d4 w5 q1 HR5.out HK3.out k1 q2 q3 HK4.out; have hcr := HIH.out.use (mid + 1) y l d4 w5 q4 HR5.out HK3.out q5 hyN q3 HK5.out; rw [E1.out] at hcr) | (go_at_call 63; with_reducible refine hcl.mono ?_; rintro e w6 ⟨rfl, d6, hq1, hq2, hw6⟩; clear hcr) | (go_at_call 63; with_reducible refine hcr.mono ?_; rintro e w6 ⟨rfl, d6, hq1, hq2, hw6⟩; clear hcl))
                · obtain ⟨m1, m2⟩ := HK6.out d6 hq1 hq2
                  go_roundw
                  case rel => exact ⟨mid + 1, y, l, _, ap, d6, by go_num, rfl, rfl, rfl, rfl, by omega, by omega, hyb, by omega, hid (hq1.1.trans HK3.out), hid hw6, hid m1, hid m2⟩
                  case measure => simp [intOf]; omega
                · obtain ⟨m1, m2⟩ := HK7.out d6 hq1 hq2
                  go_roundw
                  case rel => exact ⟨x, mid, l, _, ap, d6, rfl, rfl, rfl, rfl, rfl, by omega, by omega, by omega, by omega, hid (hq1.1.trans HK3.out), hid hw6, hid m1, hid m2⟩
                  case measure => simp [intOf]; omega
theorem pdq_all (w0 : World) (g off C N cap : Nat) (hsz : N < 4611686018427387904) : ∀ n, PdqS w0 g off C N cap n
  | 0 => fun _ _ _ _ _ hn => absurd hn (Nat.not_lt_zero _)
  | n + 1 => pdq_step w0 g off C N cap n hsz (pdq_all w0 g off C N cap hsz n)
end Go.Proofs.Herb
