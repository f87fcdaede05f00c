/- The contracts of the disk's calls where there is no disk, or one that no call made; and of DisksVoid: it answers true. No condition. -/
import Derived.Test.YtobgcapekongbaaLiv4
import Derived.Test.YtobgcapekongbaaDskY
namespace Go.Proofs.Herb
open Go.RowKit
def VoidAt (w : World) (p : Option Addr) : Prop := p = none ∨ ∃ D, p = some ⟨D, 0, none⟩ ∧ w.cell? ⟨D, 4, none⟩ = some (.map none)
theorem void_there (w : World) (p : Option Addr) (h : VoidAt w p) : Calls Try.prog 37 #[.pointer p] w fun e w' => e = .returned (.bool false) ∧ w = w' := by
  rcases h with rfl | ⟨D, rfl, c4⟩
  · exact there_nil w
  · have hnn := fun (w : World) => run_neq_map_nil (P := Try.prog) w 63 9 3 none Try.underlying63
    go_enter Try.func37, Try.ntmps37
    go_wp2
    go_ret
    exact ⟨rfl, rfl⟩
theorem void_alive (w : World) (p : Option Addr) (h : VoidAt w p) : Calls Try.prog 47 #[.pointer p] w fun e w' => e = .returned (.int .i64 2) ∧ w = w' := by
  have H := hid h
  clear h
  go_enter Try.func47, Try.ntmps47
  go_wp2_with fail
  refine (void_there _ p H.out).mono ?_
  rintro e w1 ⟨rfl, rfl⟩
  go_wp2_with fail
  go_ret
  exact ⟨rfl, rfl⟩
theorem void_found (w : World) (p : Option Addr) (h : VoidAt w p) (k : ByteArray) : Calls Try.prog 50 #[.pointer p, .string k] w fun e w' => e = .returned (.tuple #[.int .i64 0, .int .i64 2]) ∧ w = w' := by
  have H := hid h
  clear h
  go_enter Try.func50, Try.ntmps50
  go_wp2_with fail
  refine (void_there _ p H.out).mono ?_
  rintro e w1 ⟨rfl, rfl⟩
  go_wp2_with fail
  go_ret2
  exact ⟨rfl, rfl⟩
theorem void_known (w : World) (p : Option Addr) (h : VoidAt w p) (k : ByteArray) : Calls Try.prog 45 #[.pointer p, .string k] w fun e w' => e = .returned (.tuple #[.int .i64 0, .int .i64 2]) ∧ w = w' := by
  have H := hid h
  clear h
  go_enter Try.func45, Try.ntmps45
  go_wp2_with fail
  refine (void_alive _ p H.out).mono ?_
  rintro e w1 ⟨rfl, rfl⟩
  go_wp2_with fail
  go_ret2
  exact ⟨rfl, rfl⟩
theorem void_read (w : World) (p : Option Addr) (h : VoidAt w p) (k : ByteArray) : Calls Try.prog 19 #[.pointer p, .string k] w fun e w' => e = .returned (.tuple #[.slice none 0 0, .int .i64 2]) ∧ w = w' := by
  have H := hid h
  clear h
  go_enter Try.func19, Try.ntmps19
  go_wp2_with fail
  refine (void_known _ p H.out k).mono ?_
  rintro e w1 ⟨rfl, rfl⟩
  go_wp2_with fail
  go_ret2
  exact ⟨rfl, rfl⟩
theorem void_loose (w : World) (p : Option Addr) (h : VoidAt w p) (k : ByteArray) : Calls Try.prog 20 #[.pointer p, .string k] w fun e w' => e = .returned (.tuple #[.int .i64 0, .int .i64 2]) ∧ w = w' := by
  have H := hid h
  clear h
  go_enter Try.func20, Try.ntmps20
  go_wp2_with fail
  refine (void_found _ p H.out k).mono ?_
  rintro e w1 ⟨rfl, rfl⟩
  go_wp2_with fail
  go_ret2
  exact ⟨rfl, rfl⟩
theorem void_crash (w : World) (p : Option Addr) (h : VoidAt w p) (dir : Int) (fa : Option Addr) (fn fc : Nat) : Calls Try.prog 13 #[.pointer p, .agg #[.int .i64 dir, .slice fa fn fc]] w fun e w' => e = .returned (.tuple #[.pointer none, .int .i64 2]) ∧ Below w.heap.size w w' := by
  have H := hid h
  clear h
  go_enter Try.func13, Try.ntmps13
  have hA := (Below.refl w.heap.size w).alloc (Nat.le_refl _) (.cells #[.int .i64 dir, .slice fa fn fc] 25)
  have HV : Hid (VoidAt (w.alloc (.cells #[.int .i64 dir, .slice fa fn fc] 25)) p) := hid (H.out.imp id fun ⟨D, h1, h2⟩ => ⟨D, h1, (hA.cell (World.block_lt_of_cell? w _ h2)).trans h2⟩)
  have HA := hid hA
  clear hA
  go_wp2
  refine wp_scope_straight ?_
  go_wp2_with fail
  refine (void_there _ p HV.out).mono ?_
  rintro e w1 ⟨rfl, rfl⟩
  go_wp2_with fail
  rw [Exit.noGoto_ret]
  go_ret2
  exact ⟨rfl, HA.out⟩
theorem void_create (w : World) (p : Option Addr) (h : VoidAt w p) (k : ByteArray) : Calls Try.prog 32 #[.pointer p, .string k] w fun e w' => e = .returned (.int .i64 2) ∧ w = w' := by
  have H := hid h
  clear h
  go_enter Try.func32, Try.ntmps32
  go_wp2_with fail
  refine (void_known _ p H.out k).mono ?_
  rintro e w1 ⟨rfl, rfl⟩
  go_wp2_with fail
  go_ret
  exact ⟨rfl, rfl⟩
theorem void_append (w : World) (p : Option Addr) (h : VoidAt w p) (k : ByteArray) (a : Option Addr) (n c : Nat) : Calls Try.prog 33 #[.pointer p, .string k, .slice a n c] w fun e w' => e = .returned (.int .i64 2) ∧ w = w' := by
  have H := hid h
  clear h
  go_enter Try.func33, Try.ntmps33
  go_wp2_with fail
  refine (void_known _ p H.out k).mono ?_
  rintro e w1 ⟨rfl, rfl⟩
  go_wp2_with fail
  go_ret
  exact ⟨rfl, rfl⟩
theorem void_sync (w : World) (p : Option Addr) (h : VoidAt w p) (k : ByteArray) : Calls Try.prog 16 #[.pointer p, .string k] w fun e w' => e = .returned (.int .i64 2) ∧ w = w' := by
  have H := hid h
  clear h
  go_enter Try.func16, Try.ntmps16
  go_wp2_with fail
  refine (void_known _ p H.out k).mono ?_
  rintro e w1 ⟨rfl, rfl⟩
  go_wp2_with fail
  go_ret
  exact ⟨rfl, rfl⟩
theorem void_rename (w : World) (p : Option Addr) (h : VoidAt w p) (k t : ByteArray) : Calls Try.prog 34 #[.pointer p, .string k, .string t] w fun e w' => e = .returned (.int .i64 2) ∧ w = w' := by
  have H := hid h
  clear h
  go_enter Try.func34, Try.ntmps34
  go_wp2_with fail
  refine (void_known _ p H.out k).mono ?_
  rintro e w1 ⟨rfl, rfl⟩
  go_wp2_with fail
  go_ret
  exact ⟨rfl, rfl⟩
theorem void_remove (w : World) (p : Option Addr) (h : VoidAt w p) (k : ByteArray) : Calls Try.prog 29 #[.pointer p, .string k] w fun e w' => e = .returned (.int .i64 2) ∧ w = w' := by
  have H := hid h
  clear h
  go_enter Try.func29, Try.ntmps29
  go_wp2_with fail
  refine (void_known _ p H.out k).mono ?_
  rintro e w1 ⟨rfl, rfl⟩
  go_wp2_with fail
  go_ret
  exact ⟨rfl, rfl⟩
theorem void_syncDir (w : World) (p : Option Addr) (h : VoidAt w p) : Calls Try.prog 17 #[.pointer p] w fun e w' => e = .returned (.int .i64 2) ∧ w = w' := by
  have H := hid h
  clear h
  go_enter Try.func17, Try.ntmps17
  go_wp2_with fail
  refine (void_alive _ p H.out).mono ?_
  rintro e w1 ⟨rfl, rfl⟩
  go_wp2_with fail
  go_ret
  exact ⟨rfl, rfl⟩
theorem void_setRoom (w : World) (p : Option Addr) (h : VoidAt w p) (n : Int) : Calls Try.prog 35 #[.pointer p, .int .i64 n] w fun e w' => e = .returned (.int .i64 2) ∧ w = w' := by
  have H := hid h
  clear h
  go_enter Try.func35, Try.ntmps35
  go_wp2_with fail
  refine (void_there _ p H.out).mono ?_
  rintro e w1 ⟨rfl, rfl⟩
  go_wp2_with fail
  go_ret
  exact ⟨rfl, rfl⟩
theorem void_fuse (w : World) (p : Option Addr) (h : VoidAt w p) (n : Int) : Calls Try.prog 24 #[.pointer p, .int .i64 n] w fun e w' => e = .returned (.int .i64 2) ∧ w = w' := by
  have H := hid h
  clear h
  go_enter Try.func24, Try.ntmps24
  go_wp2_with fail
  refine (void_there _ p H.out).mono ?_
  rintro e w1 ⟨rfl, rfl⟩
  go_wp2_with fail
  go_ret
  exact ⟨rfl, rfl⟩
theorem void_turn (w : World) (p : Option Addr) (h : VoidAt w p) (k : ByteArray) (n b : Int) : Calls Try.prog 31 #[.pointer p, .string k, .int .i64 n, .int .u8 b] w fun e w' => e = .returned (.int .i64 2) ∧ w = w' := by
  have H := hid h
  clear h
  go_enter Try.func31, Try.ntmps31
  go_wp2_with fail
  refine (void_found _ p H.out k).mono ?_
  rintro e w1 ⟨rfl, rfl⟩
  go_wp2_with fail
  go_ret
  exact ⟨rfl, rfl⟩
theorem void_list (w : World) (p : Option Addr) (h : VoidAt w p) : Calls Try.prog 12 #[.pointer p] w fun e w' => e = .returned (.slice none 0 0) ∧ w = w' := by
  have H := hid h
  clear h
  go_enter Try.func12, Try.ntmps12
  go_wp2_with fail
  refine (void_there _ p H.out).mono ?_
  rintro e w1 ⟨rfl, rfl⟩
  go_wp2_with fail
  go_ret
  exact ⟨rfl, rfl⟩
theorem void_used (w : World) (p : Option Addr) (h : VoidAt w p) : Calls Try.prog 28 #[.pointer p] w fun e w' => e = .returned (.int .i64 0) ∧ w = w' := by
  have H := hid h
  clear h
  go_enter Try.func28, Try.ntmps28
  go_wp2_with fail
  refine (void_there _ p H.out).mono ?_
  rintro e w1 ⟨rfl, rfl⟩
  go_wp2_with fail
  go_ret
  exact ⟨rfl, rfl⟩
theorem void_blown (w : World) (p : Option Addr) (h : VoidAt w p) : Calls Try.prog 26 #[.pointer p] w fun e w' => e = .returned (.bool false) ∧ w = w' := by
  have H := hid h
  clear h
  go_enter Try.func26, Try.ntmps26
  go_wp2_with fail
  refine (void_there _ p H.out).mono ?_
  rintro e w1 ⟨rfl, rfl⟩
  go_wp2_with fail
  go_ret
  exact ⟨rfl, rfl⟩
theorem void_dir (w : World) (p : Option Addr) (h : VoidAt w p) : Calls Try.prog 15 #[.pointer p] w fun e w' => e = .returned (.int .i64 0) ∧ w = w' := by
  have H := hid h
  clear h
  go_enter Try.func15, Try.ntmps15
  go_wp2_with fail
  refine (void_there _ p H.out).mono ?_
  rintro e w1 ⟨rfl, rfl⟩
  go_wp2_with fail
  go_ret
  exact ⟨rfl, rfl⟩
theorem void_copy (w : World) (p : Option Addr) (h : VoidAt w p) : Calls Try.prog 30 #[.pointer p] w fun e w' => e = .returned (.pointer none) ∧ w = w' := by
  have H := hid h
  clear h
  go_enter Try.func30, Try.ntmps30
  go_wp2_with fail
  refine (void_there _ p H.out).mono ?_
  rintro e w1 ⟨rfl, rfl⟩
  go_wp2_with fail
  go_ret
  exact ⟨rfl, rfl⟩
set_option maxRecDepth 100000 in
set_option maxHeartbeats 6400000 in
theorem disksVoid_any (v : ActV) (w : World) (hv : ActOk w v) :
    Calls Try.prog 9 #[.agg #[.int .u8 (v.what : Int), .string v.a, .string v.b, .int .i64 v.n, .slice v.dq v.dn v.dc, .int .i64 v.dir, .slice v.fq v.fn v.fc]] w fun e w' => e = .returned (.bool true) ∧ Below w.heap.size w w' := by
  have hdc : v.dn ≤ v.dc := hv.d1
  have hfc : v.fn ≤ v.fc := hv.f1
  clear hv
  go_enter Try.func9, Try.ntmps9
  go_wp2_with fail
  go_loopw [5] (fun i wr => ∃ j : Nat, i = .int .i64 j ∧ j ≤ 2 ∧ Below w.heap.size w wr ∧ wr.heap[w.heap.size]? = some (.cells #[.int .u8 (v.what : Int), .string v.a, .string v.b, .int .i64 v.n, .slice v.dq v.dn v.dc, .int .i64 v.dir, .slice v.fq v.fn v.fc] 54 (0, 0)) ∧
    wr.heap[w.heap.size + 1]? = some (.cells #[.int .i64 0, .int .i64 0, .bool false, .slice none 0 0, .map none, .map none, .slice none 0 0] 66 (0, 0)) ∧ wr.heap[w.heap.size + 1 + 1]? = some (.cells #[.pointer none, .pointer (some ⟨w.heap.size + 1, 0, none⟩)] 27 (0, 0))) (fun i _ => 2 - (intOf i).toNat)
  case atStart =>
    refine ⟨0, rfl, by omega, ((((Below.refl _ _).alloc (Nat.le_refl _) _).alloc (by simp) _).alloc (by simp; omega) _), ?_, ?_, ?_⟩
    · exact (heap_alloc_old _ _ (by simp; omega)).trans ((heap_alloc_old _ _ (by simp)).trans (heap_alloc_new _ _))
    · exact (heap_alloc_old _ _ (by simp)).trans (new_at (by simp))
    · exact new_at (by simp)
  case round =>
    obtain ⟨j, rfl, hj, hb, h0, h1, h2⟩ := hrel
    by_cases hlt : j < 2
    · obtain ⟨p, hp, hvo⟩ : ∃ p, wr.cell? ⟨w.heap.size + 1 + 1, j, none⟩ = some (.pointer p) ∧ VoidAt wr p := by
        have hc := fun i => cell_of_row wr (w.heap.size + 1 + 1) i _ _ _ h2
        rcases (show j = 0 ∨ j = 1 by omega) with rfl | rfl
        · exact ⟨none, hc 0, .inl rfl⟩
        · exact ⟨_, hc 1, .inr ⟨w.heap.size + 1, rfl, cell_of_row wr (w.heap.size + 1) 4 _ _ _ h1⟩⟩
      have i1 : (0 : Int) ≤ (j : Int) := by omega
      have i2 : (j : Int) < 2 := by omega
      have c0 := fun i => cell_of_row wr w.heap.size i _ _ _ h0
      have ca : wr.cell? ⟨w.heap.size, 1, none⟩ = some (.string v.a) := c0 1
      have cd : wr.cell? ⟨w.heap.size, 5, none⟩ = some (.int .i64 v.dir) := c0 5
      have cf : wr.cell? ⟨w.heap.size, 6, none⟩ = some (.slice v.fq v.fn v.fc) := c0 6
      have HV := hid hvo
      have Hb := hid hb
      have H0 := hid h0
      have H1 := hid h1
      have H2 := hid h2
      clear hvo hb h0 h1 h2 c0
      go_wp2_with (first
        | (go_at_call 19; (with_reducible refine (void_read _ _ HV.out _).mono ?_); rintro e w1 ⟨rfl, rfl⟩)
        | (go_at_call 20; (with_reducible refine (void_loose _ _ HV.out _).mono ?_); rintro e w1 ⟨rfl, rfl⟩))
      refine (void_crash wr p HV.out v.dir v.fq v.fn v.fc).mono ?_
      rintro e w2 ⟨rfl, hB⟩
      have HV : Hid (VoidAt w2 p) := hid (HV.out.imp id fun ⟨D, h1, h2⟩ => ⟨D, h1, (hB.cell (World.block_lt_of_cell? wr _ h2)).trans h2⟩)
      have H0 := hid ((hB.block _ (lt_of_block H0.out)).trans H0.out)
      have H1 := hid ((hB.block _ (lt_of_block H1.out)).trans H1.out)
      have H2 := hid ((hB.block _ (lt_of_block H2.out)).trans H2.out)
      have Hb := hid (Hb.out.trans (hB.mono Hb.out.size))
      clear hB ca cd cf hp
      have c0 := fun i => cell_of_row w2 w.heap.size i _ _ _ H0.out
      have ca : w2.cell? ⟨w.heap.size, 1, none⟩ = some (.string v.a) := c0 1
      have cb : w2.cell? ⟨w.heap.size, 2, none⟩ = some (.string v.b) := c0 2
      have cn : w2.cell? ⟨w.heap.size, 3, none⟩ = some (.int .i64 v.n) := c0 3
      have cd : w2.cell? ⟨w.heap.size, 4, none⟩ = some (.slice v.dq v.dn v.dc) := c0 4
      clear c0
      go_wp2_with (first
        | (go_at_call 32; (with_reducible refine (void_create _ _ HV.out _).mono ?_); rintro e w1 ⟨rfl, rfl⟩)
        | (go_at_call 33; (with_reducible refine (void_append _ _ HV.out _ _ _ _).mono ?_); rintro e w1 ⟨rfl, rfl⟩)
        | (go_at_call 16; (with_reducible refine (void_sync _ _ HV.out _).mono ?_); rintro e w1 ⟨rfl, rfl⟩)
        | (go_at_call 34; (with_reducible refine (void_rename _ _ HV.out _ _).mono ?_); rintro e w1 ⟨rfl, rfl⟩)
        | (go_at_call 29; (with_reducible refine (void_remove _ _ HV.out _).mono ?_); rintro e w1 ⟨rfl, rfl⟩)
        | (go_at_call 17; (with_reducible refine (void_syncDir _ _ HV.out).mono ?_); rintro e w1 ⟨rfl, rfl⟩)
        | (go_at_call 35; (with_reducible refine (void_setRoom _ _ HV.out _).mono ?_); rintro e w1 ⟨rfl, rfl⟩)
        | (go_at_call 24; (with_reducible refine (void_fuse _ _ HV.out _).mono ?_); rintro e w1 ⟨rfl, rfl⟩)
        | (go_at_call 31; (with_reducible refine (void_turn _ _ HV.out _ _ _).mono ?_); rintro e w1 ⟨rfl, rfl⟩)
        | (go_at_call 12; (with_reducible refine (void_list _ _ HV.out).mono ?_); rintro e w1 ⟨rfl, rfl⟩)
        | (go_at_call 28; (with_reducible refine (void_used _ _ HV.out).mono ?_); rintro e w1 ⟨rfl, rfl⟩)
        | (go_at_call 26; (with_reducible refine (void_blown _ _ HV.out).mono ?_); rintro e w1 ⟨rfl, rfl⟩)
        | (go_at_call 15; (with_reducible refine (void_dir _ _ HV.out).mono ?_); rintro e w1 ⟨rfl, rfl⟩)
        | (go_at_call 30; (with_reducible refine (void_copy _ _ HV.out).mono ?_); rintro e w1 ⟨rfl, rfl⟩))
      go_roundw
      case rel => exact ⟨j + 1, by go_num, by omega, Hb.out, H0.out, H1.out, H2.out⟩
      case measure => simp [intOf]; omega
    · obtain rfl : j = 2 := by omega
      have Hb := hid hb
      clear hb h0 h1 h2
      go_wp2_with fail
      refine (lives4_any wr).mono ?_
      rintro e w12 ⟨rfl, hB5⟩
      go_wp2_with fail
      go_ret
      exact ⟨rfl, Hb.out.trans (hB5.mono Hb.out.size)⟩
end Go.Proofs.Herb
