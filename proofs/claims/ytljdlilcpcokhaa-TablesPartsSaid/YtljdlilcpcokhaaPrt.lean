/- The laws' number and part of a table. For bytes that can be read. -/
import Derived.Test.YtljdlilcpcokhaaBase2
import Derived.Test.YtljdlilcpcokhaaSlc
import Derived.Test.YtljdlilcpcokhaaBlkA
namespace Go.Proofs.Herb
open Go.RowKit
/-- four bytes' number, from a place on -/
def num4 (l : List UInt8) (a : Nat) : Nat := ((l[a]?).getD 0).toNat + 256 * ((l[a + 1]?).getD 0).toNat + 65536 * ((l[a + 2]?).getD 0).toNat + 16777216 * ((l[a + 3]?).getD 0).toNat
theorem num4_lt (l : List UInt8) (a : Nat) : num4 l a < 4294967296 := by
  unfold num4
  have h0 := ((l[a]?).getD 0).toNat_lt
  have h1 := ((l[a + 1]?).getD 0).toNat_lt
  have h2 := ((l[a + 2]?).getD 0).toNat_lt
  have h3 := ((l[a + 3]?).getD 0).toNat_lt
  omega
theorem or4_form (x0 x1 x2 x3 : UInt8) : bits .or .i64 (bits .or .i64 (bits .or .i64 (x0.toNat : Int) ((x1.toNat : Int) * 256)) ((x2.toNat : Int) * 65536)) ((x3.toNat : Int) * 16777216) = ((x0.toNat + 256 * x1.toNat + 65536 * x2.toNat + 16777216 * x3.toNat : Nat) : Int) := by
  have h0 := x0.toNat_lt
  have h1 := x1.toNat_lt
  have h2 := x2.toNat_lt
  have h3 := x3.toNat_lt
  rw [i64_or_bytes]
  rw [show ((x2.toNat : Int) * 65536) = ((65536 * x2.toNat : Nat) : Int) by omega, i64_or_nat _ _ (by omega) (by omega), Nat.or_comm, nat_join 16 _ _ (by omega) (by omega)]
  rw [show ((x3.toNat : Int) * 16777216) = ((16777216 * x3.toNat : Nat) : Int) by omega, i64_or_nat _ _ (by omega) (by omega), Nat.or_comm, nat_join 24 _ _ (by omega) (by omega)]
  congr 1
  omega
theorem rd_num {w : World} {b off : Nat} {l : List UInt8} (h : Rd w (some ⟨b, off, none⟩) (l.map bv)) {a : Nat} (ha : a < l.length) : w.cell? ⟨b, off + a, none⟩ = some (.int .u8 (((l[a]?).getD 0).toNat : Int)) := by
  obtain ⟨b', off', e, hc⟩ := h.cell (k := a) (by rw [List.length_map]; exact ha)
  cases e
  rw [hc, List.getElem_map, List.getElem?_eq_getElem ha]
  rfl
set_option maxRecDepth 100000 in
set_option maxHeartbeats 1000000 in
theorem numL_any (q : Option Addr) (m c : Nat) (l : List UInt8) (w : World) (hl : l.length = m) (h4 : 4 ≤ m) (hr : Rd w q (l.map bv)) :
    Calls Try.prog 14 #[.slice q m c] w fun e w' => e = .returned (.int .i64 (num4 l 0 : Int)) ∧ Below w.heap.size w w' := by
  obtain ⟨b, off, rfl, -⟩ := hr.cell (k := 0) (by rw [List.length_map]; omega)
  have c0 := rd_num hr (a := 0) (by omega)
  have c1 := rd_num hr (a := 1) (by omega)
  have c2 := rd_num hr (a := 2) (by omega)
  have c3 := rd_num hr (a := 3) (by omega)
  rw [Nat.add_zero] at c0
  have hn : num4 l 0 = ((l[0]?).getD 0).toNat + 256 * ((l[1]?).getD 0).toNat + 65536 * ((l[2]?).getD 0).toNat + 16777216 * ((l[3]?).getD 0).toNat := rfl
  rw [hn]
  generalize (l[0]?).getD 0 = x0 at *
  generalize (l[1]?).getD 0 = x1 at *
  generalize (l[2]?).getD 0 = x2 at *
  generalize (l[3]?).getD 0 = x3 at *
  have hf := or4_form x0 x1 x2 x3
  have i0 : (0 : Int) < (m : Int) := by omega
  have i1 : (1 : Int) < (m : Int) := by omega
  have i2 : (2 : Int) < (m : Int) := by omega
  have i3 : (3 : Int) < (m : Int) := by omega
  clear hr hl hn
  go_enter Try.func14, Try.ntmps14
  go_upto_region 1 with (fail)
  go_quiet (fail)
  go_wp2
  go_ret
  have h0 := x0.toNat_lt
  have h1 := x1.toNat_lt
  have h2 := x2.toNat_lt
  have h3 := x3.toNat_lt
  have k : ∀ x : Int, -9223372036854775808 ≤ x ∧ x ≤ 9223372036854775807 → wrap64 x = x := fun x hx => by
    unfold wrap64
    omega
  refine ⟨?_, below_drewN (Below.refl _ _) nq⟩
  rw [k (x0.toNat : Int) (by omega), k (x1.toNat : Int) (by omega), k (x2.toNat : Int) (by omega), k (x3.toNat : Int) (by omega), k ((x1.toNat : Int) * 256) (by omega), k ((x2.toNat : Int) * 65536) (by omega), k ((x3.toNat : Int) * 16777216) (by omega), hf]
  rfl
set_option maxRecDepth 100000 in
set_option maxHeartbeats 1000000 in
/-- a part that the footer tells -/
theorem part_any (q : Option Addr) (m c i A : Nat) (l : List UInt8) (w : World) (hl : l.length = m) (hm : 40 ≤ m) (hml : m ≤ 1000000) (hc : m ≤ c) (hcm : c ≤ maxLen) (hi : i < 3) (hA : A = m - 36 + 8 * i) (hfit : num4 l A + num4 l (A + 4) ≤ m - 40) (hr : Rd w q (l.map bv)) :
    Calls Try.prog 12 #[.slice q m c, .int .i64 (i : Int)] w fun e w' => (∃ q', e = .returned (.tuple #[.slice q' (num4 l (A + 4)) (c - num4 l A), .bool true]) ∧ Rd w' q' (((l.drop (num4 l A)).take (num4 l (A + 4))).map bv)) ∧ Below w.heap.size w w' := by
  unfold maxLen at hcm
  obtain ⟨b, off, rfl, -⟩ := hr.cell (k := 0) (by rw [List.length_map]; omega)
  obtain ⟨N, hN⟩ : ∃ N, N = num4 l A := ⟨_, rfl⟩
  obtain ⟨M, hM⟩ : ∃ N, N = num4 l (A + 4) := ⟨_, rfl⟩
  have hd : ∀ k, num4 (l.drop k) 0 = num4 l k := fun k => by
    unfold num4
    simp only [List.getElem?_drop, Nat.zero_add, Nat.add_zero]
  have HN1 := hid (fun w' (hb : Below w.heap.size w w') => numL_any (some ⟨b, off + A, none⟩) (m - A) (c - A) (l.drop A) w' (by rw [List.length_drop]; omega) (by omega) (by rw [List.map_drop]; exact (hr.below hb).drop A))
  have HN2 := hid (fun w' (hb : Below w.heap.size w w') => numL_any (some ⟨b, off + (A + 4), none⟩) (m - (A + 4)) (c - (A + 4)) (l.drop (A + 4)) w' (by rw [List.length_drop]; omega) (by omega) (by rw [List.map_drop]; exact (hr.below hb).drop (A + 4)))
  rw [hd, ← hN] at HN1
  rw [hd, ← hM] at HN2
  rw [← hN, ← hM] at hfit ⊢
  have Hr := hid hr
  have Hl := hid hl
  have HNe := hid hN
  have HMe := hid hM
  have w1 : IntKind.i64.wrap ((m : Int) - 36) = ((m - 36 : Nat) : Int) := by rw [IntWalk.i64_in _ (by omega)]; omega
  have w2 : IntKind.i64.wrap (8 * (i : Int)) = ((8 * i : Nat) : Int) := by rw [IntWalk.i64_in _ (by omega)]; omega
  have w3 : IntKind.i64.wrap (((m - 36 : Nat) : Int) + ((8 * i : Nat) : Int)) = (A : Int) := by rw [IntWalk.i64_in _ (by omega)]; omega
  have w3' : ((m - 36 : Nat) : Int) + 8 * (i : Int) = (A : Int) := by omega
  have w4 : IntKind.i64.wrap ((A : Int) + 4) = ((A + 4 : Nat) : Int) := by rw [IntWalk.i64_in _ (by omega)]; omega
  have d0 : decide ((m : Int) < 40) = false := by simp; omega
  have i0 : (0 : Int) ≤ (A : Int) := by omega
  have i1 : (A : Int) ≤ (m : Int) := by omega
  have i2 : (0 : Int) ≤ ((A + 4 : Nat) : Int) := by omega
  have i3 : ((A + 4 : Nat) : Int) ≤ (m : Int) := by omega
  clear hr hl hd hN hM hA
  go_enter Try.func12, Try.ntmps12
  go_wp2_with fail
  refine (HN1.out w (Below.refl _ _)).mono ?_
  rintro e wa ⟨rfl, hba⟩
  have HBa := hid hba
  clear hba
  go_wp2_with fail
  refine (HN2.out wa HBa.out).mono ?_
  rintro e wb ⟨rfl, hbb⟩
  have HBb := hid (HBa.out.trans (hbb.mono HBa.out.size))
  clear hbb
  have e1 : decide ((N : Int) < 0) = false := by simp
  have e2 : decide ((M : Int) < 0) = false := by simp
  have e3 : decide (((m : Int) - 40) < (N : Int)) = false := by simp; omega
  have e4 : decide (((m : Int) - 40 - (N : Int)) < (M : Int)) = false := by simp; omega
  go_wp2_with fail
  go_ret2
  refine ⟨⟨some ⟨b, off + N, none⟩, ?_, ?_⟩, HBb.out⟩
  · have e : N + M - N = M := by omega
    show Ending.returned (.tuple #[.slice (some ⟨b, off + N, none⟩) (N + M - N) (c - N), .bool true]) = _
    rw [e]
  · rw [List.map_take, List.map_drop]
    exact ((Hr.out.below HBb.out).drop N).take M
end Go.Proofs.Herb
