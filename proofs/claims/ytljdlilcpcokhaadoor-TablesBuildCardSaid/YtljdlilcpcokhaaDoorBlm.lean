/- The contract of the iterator of blooms.places. For a key of so many bytes. -/
import Derived.Test.YtljdlilcpcokhaaDoorRgs
import Derived.Test.YtljdlilcpcokhaaDoorFlt
import Derived.Test.YtljdlilcpcokhaaDoorSums
import Derived.Test.YtljdlilcpcokhaaDoorVptP
import Derived.Shelf.Abstract
import Derived.Shelf.RegionOpen
import Derived.OwnWalkIn
import Derived.TacticsInMore
import Derived.LoopNIn
import Derived.LoopIn
import Derived.IntWalk
import Derived.Lib.ConvBytes
import Derived.Laws.BitsAllLaws
namespace Go.Proofs.Herb
open Go.RowKit
attribute [local go_sem] Oper.semAt_some
/-- a place among so many bits -/
def plAt (x : Int) (m : Nat) : Nat := (if x.tmod m < 0 then x.tmod m + m else x.tmod m).toNat
def plF : Nat → Int → Int → Nat → List Nat
  | 0, _, _, _ => []
  | f + 1, x, y, m => plAt x m :: plF f (2 * x - y) (x + 2 * y) m
def placesF (key : List UInt8) (m : Nat) : List Nat := plF 6 (((crcMore 0 key).toNat % 65536 : Nat) : Int) (((crcMore 0 key).toNat / 65536 : Nat) : Int) m
theorem plAt_lt (x : Int) (m : Nat) (h : 0 < m) : plAt x m < m := by
  unfold plAt
  have h1 := Int.tmod_lt_of_pos x (show (0 : Int) < (m : Int) by omega)
  have h2 := Int.lt_tmod_of_pos x (show (0 : Int) < (m : Int) by omega)
  split <;> omega
theorem plF_len : ∀ (f : Nat) (x y : Int) (m : Nat), (plF f x y m).length = f
  | 0, _, _, _ => rfl
  | f + 1, x, y, m => by rw [plF, List.length_cons, plF_len]
theorem plF_lt : ∀ (f : Nat) (x y : Int) (m : Nat), 0 < m → ∀ a ∈ plF f x y m, a < m
  | 0, _, _, _, _, a, h => by cases h
  | f + 1, x, y, m, h0, a, h => by
    rw [plF, List.mem_cons] at h
    rcases h with rfl | h
    · exact plAt_lt _ _ h0
    · exact plF_lt f _ _ m h0 a h
theorem places_any (key : ByteArray) (m : Int) (w : World) :
    Calls Tryd.prog 47 #[.string key, .int .i64 m] w fun e w' => e = .returned (.func (.func 68) #[] #[.pointer (some ⟨w.heap.size, 0, none⟩), .pointer (some ⟨w.heap.size + 1, 0, none⟩)]) ∧ w' = (w.alloc (.cells #[.string key] 9)).alloc (.cells #[.int .i64 m] 3) := by
  go_enter Tryd.func47, Tryd.ntmps47
  go_wp2
  go_ret
  exact ⟨rfl, rfl⟩
theorem convS (w : World) (s : ByteArray) : ∃ c w', (convert 9 27 (.string s)).run Tryd.prog w = .ok (.slice (some ⟨w.heap.size, 0, none⟩) s.size c) w' ∧ Rd w' (some ⟨w.heap.size, 0, none⟩) (s.data.toList.map bv) ∧ Below w.heap.size w w' ∧ s.size ≤ c := by
  refine ⟨_, _, Lib.run_convert_string_bytes w 9 27 5 s Tryd.underlying9 Tryd.underlying27 Tryd.underlying5, .inr ⟨_, _, rfl, fun j u hu => ?_⟩, ⟨rfl, rfl, rfl, by rw [Lib.bytesWorld_size]; omega, fun k hk => Lib.bytesWorld_at_old w 5 s k hk⟩, grownCap_ge _ _ _ _⟩
  have hj : j < s.data.toList.length := by have := (List.getElem?_eq_some_iff.1 hu).1; simpa using this
  have hjs : j < s.size := by rw [Array.length_toList] at hj; exact hj
  rw [Nat.zero_add, Lib.bytesWorld_cell w 5 s j hjs, ← hu, List.getElem?_map, List.getElem?_eq_getElem hj]
  simp only [Option.map_some, bv, List.getD_eq_getElem?_getD, List.getElem?_eq_getElem hj, Option.getD_some]
theorem fl_two : fl 2 = 4611686018427387904 := by decide +kernel
theorem fl_one : fl 1 = 4607182418800017408 := by decide +kernel
theorem turn_run (x y : Int) (hx : x.natAbs < 2 ^ 40) (hy : y.natAbs < 2 ^ 40) (t : TypeId) (w : World) : (binOp .mul t (.complex .f64 (fl x) (fl y)) (.complex .f64 4611686018427387904 4607182418800017408)).run Tryd.prog w = .ok (.complex .f64 (fl (2 * x - y)) (fl (x + 2 * y))) w :=
  run_complex_mul w t _ _ _ _ _ _ (by rw [← fl_two, ← fl_one]; exact turn_fl x y hx hy)
theorem real_run (x : Int) (hx : x.natAbs < 2 ^ 40) (w : World) : (convert 111 3 (.float .f64 (fl x))).run Tryd.prog w = .ok (.int .i64 x) w :=
  run_convert_float_int w 111 3 .f64 .i64 (fl x) x (by rw [Tryd.underlying111]; rfl) Tryd.underlying3 (int_fl x (by omega))
theorem float_run (n : Int) (w : World) : (convert 28 111 (.int .u32 n)).run Tryd.prog w = .ok (.float .f64 (fl n)) w := by
  simp [convert, run_underlying Tryd.underlying28, run_underlying Tryd.underlying111, Conv.intToFloat, nearest_fl]
theorem and_form (S : Nat) (h : S < 4294967296) : bits .and .u32 (S : Int) 65535 = ((S % 65536 : Nat) : Int) := by
  rw [show (65535 : Int) = ((65535 : Nat) : Int) from rfl, u32_and_nat _ _ h (by decide)]
  congr 1
  exact Nat.and_two_pow_sub_one_eq_mod S 16
set_option maxRecDepth 100000 in
set_option maxHeartbeats 2000000 in
theorem places1_in (nn B1 B2 base m : Nat) (hnn : 1 ≤ nn) (key : ByteArray) (hk : key.size ≤ 1000000) (hm0 : 0 < m) (hm : m ≤ 1000000000) :
    SeqGood Fence.wide nn Tryd.prog 68 #[.pointer (some ⟨B1, 0, none⟩), .pointer (some ⟨B2, 0, none⟩)] (fun x : Nat => #[.int .i64 (x : Int)]) (Only (fun _ => False)) (fun pre x _ => x < m ∧ ∃ rest, placesF key.data.toList m = pre ++ x :: rest)
      (fun A B => KeepB B2 A B) (fun xs => xs = placesF key.data.toList m) base (fun W => Boxed W B1 9 (.string key) ∧ Boxed W B2 3 (.int .i64 (m : Int))) := by
  intro lp J Jx W hb hOk hJ hJx hY h0
  have HY := hid hY
  have HJ := hid hJ
  have HOk := hid hOk
  clear hY hJ hJx hOk hb
  refine callsIn_of_wp Tryd.func68 rfl trivial ?_ rfl
  simp only [Tryd.ntmps68, List.size_toArray, List.length_cons, List.length_nil, Nat.reduceAdd, Nat.reduceSub, Array.replicate_succ, Array.replicate_zero, List.push_toArray, List.append_toArray, List.nil_append, List.cons_append]
  have c1 := HOk.out.1.cell
  obtain ⟨cc, W1, hcv, hrd, hb1, hcc⟩ := convS W key
  have hk1 : W1.heap[B2]? = _ := (hb1.block _ HOk.out.2.lt).trans HOk.out.2
  have HX1 := hid hk1
  have HJ1 := hid (HJ.out _ _ _ h0 (Only.of_below hb1))
  obtain ⟨S, hS⟩ : ∃ S, S = (crcMore 0 key.data.toList).toNat := ⟨_, rfl⟩
  have hSl : S < 4294967296 := by rw [hS]; exact (crcMore 0 key.data.toList).isLt
  have hO := of_any (some ⟨W.heap.size, 0, none⟩) key.size cc key.data.toList W1 (by rw [Array.length_toList]; rfl) (by omega) hrd
  rw [← hS] at hO
  have hP : placesF key.data.toList m = plF 6 ((S % 65536 : Nat) : Int) ((S / 65536 : Nat) : Int) m := by unfold placesF; rw [hS]
  have ha := and_form S hSl
  have e2 : (S : Int) / 65536 = ((S / 65536 : Nat) : Int) := by omega
  obtain ⟨X0, hX0⟩ : ∃ X, X = S % 65536 := ⟨_, rfl⟩
  obtain ⟨Y0, hY0⟩ : ∃ X, X = S / 65536 := ⟨_, rfl⟩
  rw [← hX0] at ha hP
  rw [← hY0] at e2 hP
  have hX0l : X0 < 65536 := by omega
  have hY0l : Y0 < 65536 := by omega
  have HP := hid hP
  have HO := hid hO
  have HA := hid ha
  have HE := hid e2
  have hfl := float_run
  have hre := real_run
  clear hS hP hO hrd hb1 hk1 ha e2 h0 hX0 hY0
  gi_wp2_with fail
  refine ⟨trivial, (callsIn_wide.2 HO.out).mono ?_⟩
  rintro e W2 ⟨rfl, hb2⟩
  have hX2 : Boxed W2 B2 3 (.int .i64 (m : Int)) := (hb2.block _ (lt_of_block HX1.out)).trans HX1.out
  have HX2 := hid hX2
  have HJ2 := hid (HJ.out _ _ _ HJ1.out (Only.of_below hb2))
  clear hb2 hX2 hcv
  gi_wp2
  rw [HA.out, HE.out]
  gi_wp2
  gi_loopw [5, 17] (fun v5 v17 wr => ∃ (k : Nat) (x y : Int) (pre : List Nat), k ≤ 6 ∧ v17 = .int .i64 (k : Int) ∧ v5 = .complex .f64 (fl x) (fl y) ∧ x.natAbs ≤ 65536 * 3 ^ k ∧ y.natAbs ≤ 65536 * 3 ^ k ∧ placesF key.data.toList m = pre ++ plF (6 - k) x y m ∧ J pre wr ∧ Boxed wr B2 3 (.int .i64 (m : Int))) (fun _ v17 _ => 6 - (intOf v17).toNat)
  case atStart => exact ⟨0, _, _, [], Nat.zero_le _, rfl, rfl, by omega, by omega, by rw [HP.out]; rfl, HJ2.out, HX2.out⟩
  case round =>
    obtain ⟨k, x, y, pre, hk, rfl, rfl, hx, hy, hpl, hJp, hbox⟩ := hrel
    have cB := hbox.cell
    have Hpl := hid hpl
    have HJp := hid hJp
    have Hbox := hid hbox
    have Hx := hid hx
    have Hy := hid hy
    have h3 : 3 ^ k ≤ 729 := by
      rcases (show k = 0 ∨ k = 1 ∨ k = 2 ∨ k = 3 ∨ k = 4 ∨ k = 5 ∨ k = 6 by omega) with rfl | rfl | rfl | rfl | rfl | rfl | rfl <;> decide
    have hx40 : x.natAbs < 2 ^ 40 := by omega
    have hy40 : y.natAbs < 2 ^ 40 := by omega
    clear hpl hJp hbox hx hy h3
    by_cases hlt : k < 6
    · have hre := real_run x hx40
      have hmu := turn_run x y hx40 hy40
      have t1 : x.tmod (m : Int) < (m : Int) := Int.tmod_lt_of_pos x (by omega)
      have t2 : -(m : Int) < x.tmod (m : Int) := Int.lt_tmod_of_pos x (by omega)
      have hne : ((m : Int) == 0) = false := by rw [beq_eq_false_iff_ne]; omega
      have hnz : ¬ (m : Int) = 0 := by omega
      have hpa : ((plAt x m : Nat) : Int) = if x.tmod (m : Int) < 0 then x.tmod (m : Int) + (m : Int) else x.tmod (m : Int) := by
        unfold plAt
        split <;> omega
      have hlt2 := plAt_lt x m hm0
      obtain ⟨A, hA⟩ : ∃ A, A = plAt x m := ⟨_, rfl⟩
      rw [← hA] at hpa hlt2
      have hst : plF (6 - k) x y m = A :: plF (6 - (k + 1)) (2 * x - y) (x + 2 * y) m := by
        rw [show 6 - k = (6 - (k + 1)) + 1 by omega, plF, hA]
      have HST := hid hst
      obtain ⟨fn, tmps, assign, body, hy', hR⟩ := HY.out pre A wr HJp.out ⟨hlt2, _, by rw [Hpl.out, hst]⟩
      have HR := hid hR
      clear hA hst hR
      by_cases hng : x.tmod (m : Int) < 0
      · rw [if_pos hng] at hpa
        rw [hpa] at hy'
        have dn : decide (x.tmod (m : Int) < 0) = true := by simpa using hng
        clear hpa
        gi_wp2
        refine HR.out.mono ?_
        rintro e W3 (⟨rfl, hJ3, hk3⟩ | ⟨rfl, hJ3⟩)
        · have hbox3 : Boxed W3 B2 3 (.int .i64 (m : Int)) := hk3 _ Hbox.out
          have HJ3 := hid hJ3
          have Hbox3 := hid hbox3
          clear hJ3 hk3 hbox3 hy' HR
          gi_wp2
          go_roundw
          case rel => exact ⟨k + 1, 2 * x - y, x + 2 * y, pre ++ [A], by omega, by go_num, rfl, by have := Hx.out; have := Hy.out; rw [Nat.pow_succ]; omega, by have := Hx.out; have := Hy.out; rw [Nat.pow_succ]; omega, by rw [Hpl.out, HST.out]; simp, HJ3.out, Hbox3.out⟩
          case measure => simp [intOf]; omega
        · have HJ3 := hid hJ3
          clear hJ3 hy' HR
          gi_wp2
          refine bodyPost_ret (results_none rfl _ _ _) rfl ?_
          exact ⟨⟨_, rfl⟩, .inr ⟨_, HJ3.out⟩⟩
      · rw [if_neg hng] at hpa
        rw [hpa] at hy'
        have dn : decide (x.tmod (m : Int) < 0) = false := by simpa using hng
        clear hpa
        gi_wp2
        refine HR.out.mono ?_
        rintro e W3 (⟨rfl, hJ3, hk3⟩ | ⟨rfl, hJ3⟩)
        · have hbox3 : Boxed W3 B2 3 (.int .i64 (m : Int)) := hk3 _ Hbox.out
          have HJ3 := hid hJ3
          have Hbox3 := hid hbox3
          clear hJ3 hk3 hbox3 hy' HR
          gi_wp2
          go_roundw
          case rel => exact ⟨k + 1, 2 * x - y, x + 2 * y, pre ++ [A], by omega, by go_num, rfl, by have := Hx.out; have := Hy.out; rw [Nat.pow_succ]; omega, by have := Hx.out; have := Hy.out; rw [Nat.pow_succ]; omega, by rw [Hpl.out, HST.out]; simp, HJ3.out, Hbox3.out⟩
          case measure => simp [intOf]; omega
        · have HJ3 := hid hJ3
          clear hJ3 hy' HR
          gi_wp2
          refine bodyPost_ret (results_none rfl _ _ _) rfl ?_
          exact ⟨⟨_, rfl⟩, .inr ⟨_, HJ3.out⟩⟩
    · obtain rfl : k = 6 := by omega
      gi_wp2
      refine ⟨rfl, _, results_none rfl _ _ _, ?_⟩
      exact ⟨⟨_, rfl⟩, .inl ⟨pre, by rw [Hpl.out]; simp [plF], HJp.out⟩⟩
end Go.Proofs.Herb
