/- A disk and the reference's disk side by side: what both tell (List, Used, Dir, Blown, Loose), and the calls that Two and Twc lack (Sync, Rename, SyncDir, Turn, Copy). For states as DsOk says. -/
import Derived.Test.YtancpdhinocbnaaGreatDoorTwc
import Derived.Test.YtancpdhinocbnaaGreatDoorRdx
import Derived.Test.YtancpdhinocbnaaGreatDoorCpyW
import Derived.Test.YtancpdhinocbnaaGreatDoorTrnP
import Derived.Test.YtancpdhinocbnaaGreatDoorDskN
namespace Go.Proofs.Herb
open Go.RowKit Go.Sort
variable {I : Nat → Prop} {w0 w : World} {md : DM} {s t : DS} {mr : RM} {n : Nat}
theorem Sim.looseN {s : DS} {r : RS} {n : Nat} (h : Sim s r) (ok : DsOk s n) (k : ByteArray) : looseNR r k = looseN s k := by
  unfold looseNR Herb.looseN
  rw [h.looseE ok, h.at_ ok, h.files]
theorem Sim.turnE {s : DS} {r : RS} {n : Nat} (h : Sim s r) (ok : DsOk s n) (k : ByteArray) (a : Int) : turnRE r k a = turnBE s k a := by
  unfold turnRE turnBE fileL
  rw [h.looseE ok, h.at_ ok, h.files]
theorem Sim.turnB {s : DS} {r : RS} {n : Nat} (h : Sim s r) (ok : DsOk s n) (k : ByteArray) (a : Int) (b : UInt8) : Sim (turnBS s k a b) (turnR r k a b) := by
  unfold turnBS turnR
  rw [h.turnE ok, h.at_ ok, h.files]
  split
  · exact h
  · exact h.withFiles
/-- what both tell -/
theorem Two.usedD (T : Two I w0 w md s mr t n) (hn : n ≤ 900000) :
    Calls Tryz.prog 21 #[.pointer (some ⟨md.D, 0, none⟩)] w fun e w' => e = .returned (.int .i64 (usedN s : Int)) ∧ Below w.heap.size w w' :=
  used_any md s w T.disk T.okd.good.ok (Nat.le_trans (used_le T.okd) (by have : n * 4194304 ≤ 900000 * 4194304 := Nat.mul_le_mul_right _ hn; omega))
theorem Two.usedR (T : Two I w0 w md s mr t n) (hn : n ≤ 900000) :
    Calls Tryz.prog 37 #[.pointer (some ⟨mr.D, 0, none⟩)] w fun e w' => e = .returned (.int .i64 (usedN t : Int)) ∧ Below w.heap.size w w' := by
  obtain ⟨U, r, hr, hs, hu⟩ := T.ref
  refine (usedR_any U mr r w hr (hs.good T.okr hn)).mono ?_
  rintro e w' ⟨rfl, hb⟩
  exact ⟨by rw [hs.used T.okr], hb⟩
theorem Two.dirR (T : Two I w0 w md s mr t n) (hn : n ≤ 900000) :
    Calls Tryz.prog 38 #[.pointer (some ⟨mr.D, 0, none⟩)] w fun e w' => e = .returned (.int .i64 (t.changes.length : Int)) ∧ w = w' := by
  obtain ⟨U, r, hr, hs, hu⟩ := T.ref
  refine (dirR_any U mr r w hr (hs.good T.okr hn)).mono ?_
  rintro e w' ⟨rfl, hb⟩
  exact ⟨by rw [hs.plen, Nat.add_sub_cancel], hb⟩
theorem Two.blownR (T : Two I w0 w md s mr t n) :
    Calls Tryz.prog 39 #[.pointer (some ⟨mr.D, 0, none⟩)] w fun e w' => e = .returned (.bool t.dead) ∧ w = w' := by
  obtain ⟨U, r, hr, hs, hu⟩ := T.ref
  refine (blownR_any U mr r w hr).mono ?_
  rintro e w' ⟨rfl, hb⟩
  exact ⟨by rw [hs.dead], hb⟩
theorem Two.looseD (T : Two I w0 w md s mr t n) (k : ByteArray) (hk : k.size ≤ maxLen) :
    Calls Tryz.prog 19 #[.pointer (some ⟨md.D, 0, none⟩), .string k] w fun e w' => e = .returned (.tuple #[.int .i64 (looseN s k), .int .i64 (foundE s k)]) ∧ Below w.heap.size w w' :=
  loose_any md s k hk w T.disk T.okd.good.ok T.okd.sure
theorem Two.looseR (T : Two I w0 w md s mr t n) (hn : n ≤ 900000) (k : ByteArray) (hk : k.size ≤ maxLen) :
    Calls Tryz.prog 41 #[.pointer (some ⟨mr.D, 0, none⟩), .string k] w fun e w' => e = .returned (.tuple #[.int .i64 (looseN t k), .int .i64 (foundE t k)]) ∧ Below w.heap.size w w' := by
  obtain ⟨U, r, hr, hs, hu⟩ := T.ref
  refine (looseR_any U mr r k hk w hr (hs.good T.okr hn)).mono ?_
  rintro e w' ⟨rfl, hb⟩
  exact ⟨by rw [hs.looseN T.okr, hs.looseE T.okr], hb⟩
/-- the calls -/
theorem Two.syncD (T : Two I w0 w md s mr t n) (k : ByteArray) (hk : k.size ≤ maxLen) :
    Calls Tryz.prog 18 #[.pointer (some ⟨md.D, 0, none⟩), .string k] w fun e w' => e = .returned (.int .i64 (syncE s k)) ∧ Two I w0 w' md (syncS s k) mr t n := by
  refine (sync_any md s k hk w T.disk T.okd.good.ok T.okd.f0 T.okd.f1).mono ?_
  rintro e w' ⟨rfl, hd, hM⟩
  exact ⟨rfl, T.move hd hM (T.okd.sync k) (Nat.le_refl _)⟩
theorem Two.renameD (T : Two I w0 w md s mr t n) (hn : n ≤ 900000) (k q : ByteArray) (hk : k.size ≤ maxLen) (hq : q.size ≤ maxLen) :
    Calls Tryz.prog 56 #[.pointer (some ⟨md.D, 0, none⟩), .string k, .string q] w fun e w' => ∃ md', e = .returned (.int .i64 (renameE s k q)) ∧ md'.D = md.D ∧ Two I w0 w' md' (renameS s k q) mr t (n + 1) := by
  refine (rename_any md s k q hk hq w T.disk T.okd.f0 T.okd.f1 (by have := T.okd.changes; omega)).mono ?_
  rintro e w' ⟨md', rfl, hd, hD, hM⟩
  exact ⟨md', rfl, hD, T.move hd hM (T.okd.rename k q) (by omega)⟩
theorem Two.syncDirD (T : Two I w0 w md s mr t n) :
    Calls Tryz.prog 17 #[.pointer (some ⟨md.D, 0, none⟩)] w fun e w' => ∃ md', e = .returned (.int .i64 (syncDirE s)) ∧ md'.D = md.D ∧ Two I w0 w' md' (syncDirT s) mr t n := by
  refine (syncDir_any md s w T.disk T.okd.f0 T.okd.f1).mono ?_
  rintro e w' ⟨md', rfl, hd, hD, hM⟩
  exact ⟨md', rfl, hD, T.move hd hM T.okd.syncDir (Nat.le_refl _)⟩
theorem Two.turnD (T : Two I w0 w md s mr t n) (k : ByteArray) (hk : k.size ≤ maxLen) (a : Int) (b : UInt8) :
    Calls Tryz.prog 64 #[.pointer (some ⟨md.D, 0, none⟩), .string k, .int .i64 a, .int .u8 (b.toNat : Int)] w fun e w' => e = .returned (.int .i64 (turnBE s k a)) ∧ Two I w0 w' md (turnBS s k a b) mr t n := by
  refine (turn_any md s k hk a b w T.disk T.okd.good.ok (fun f hf => (T.okd.sure f hf).2)).mono ?_
  rintro e w' ⟨rfl, hd, hM⟩
  exact ⟨rfl, T.move hd hM (T.okd.turnB k a b) (Nat.le_refl _)⟩
theorem Two.turnR (T : Two I w0 w md s mr t n) (hn : n ≤ 900000) (k : ByteArray) (hk : k.size ≤ maxLen) (a : Int) (b : UInt8) :
    Calls Tryz.prog 65 #[.pointer (some ⟨mr.D, 0, none⟩), .string k, .int .i64 a, .int .u8 (b.toNat : Int)] w fun e w' => ∃ mr', e = .returned (.int .i64 (turnBE t k a)) ∧ mr'.D = mr.D ∧ Two I w0 w' md s mr' (turnBS t k a b) n := by
  obtain ⟨U, r, hr, hs, hu⟩ := T.ref
  refine (turnR_any U mr r k hk a b w hr (hs.good T.okr hn)).mono ?_
  rintro e w' ⟨mr', rfl, hr', hD, hM⟩
  exact ⟨mr', by rw [hs.turnE T.okr], hD, T.refd hu hr' (hs.turnB T.okr k a b) hM (T.okr.turnB k a b) (Nat.le_refl _)⟩
/-- the copies -/
theorem Two.copyD (T : Two I w0 w md s mr t n) (hn : n ≤ 900000) :
    Calls Tryz.prog 7 #[.pointer (some ⟨md.D, 0, none⟩)] w fun e w' => ∃ mo : DM, e = .returned (.pointer (some ⟨mo.D, 0, none⟩)) ∧ DiskAt w' mo s ∧ Below w.heap.size w w' ∧ ∀ k, k ∈ mo.fp → w.heap.size ≤ k :=
  copy_any md s w T.disk (by have := T.okd.files; omega) (by have := T.okd.changes; omega) (fun f hf => (T.okd.sure f hf).2)
theorem Two.copyR {wp : World} (T : Two I w0 wp md s mr t n) (hb : Below wp.heap.size wp w) (hn : n ≤ 900000) :
    Calls Tryz.prog 8 #[.pointer (some ⟨mr.D, 0, none⟩)] w fun e w' => ∃ mr', e = .returned (.pointer (some ⟨mr'.D, 0, none⟩)) ∧ Below w.heap.size w w' ∧
      ∃ (U : Nat → Prop) (r' : RS), RefAt w' (upU U w w') mr' r' ∧ Sim t r' ∧ ∀ k, U k → (I k ∨ w0.heap.size ≤ k) ∧ k < wp.heap.size := by
  obtain ⟨U, r, hr, hs, hu⟩ := T.ref
  refine (copyR_any U mr r w (hr.below hb) (hs.good T.okr hn)).mono ?_
  rintro e w' ⟨mr', rfl, hr', hb'⟩
  exact ⟨mr', rfl, hb', U, r, hr', hs, fun k hk => ⟨(hu k hk).1, hr.low k hk⟩⟩
/-- behind both copies -/
theorem Two.copied {w1 w2 : World} {mo : DM} {m' : RM} {r' : RS} {U : Nat → Prop} (T : Two I w0 w md s mr s n) (hd : DiskAt w1 mo s) (hb : Below w.heap.size w w1) (hf : ∀ k, k ∈ mo.fp → w.heap.size ≤ k)
    (hb2 : Below w1.heap.size w1 w2) (hr : RefAt w2 (upU U w1 w2) m' r') (hs : Sim s r') (hu : ∀ k, U k → (I k ∨ w0.heap.size ≤ k) ∧ k < w.heap.size) : Two I w0 w2 mo s m' s n := by
  have h0 := T.mod.size
  have h1 := hb.size
  refine ⟨hd.below hb2, ⟨_, r', hr, hs, fun k hk => ?_⟩, T.okd, T.okd, fun k hk => .inr (Nat.le_trans h0 (hf k hk)), (T.mod.seq (RMod.of_below I hb)).seq (RMod.of_below I hb2)⟩
  rcases hk with hk | hk
  · exact ⟨(hu k hk).1, fun e => by have := hf k e; have := (hu k hk).2; omega⟩
  · exact ⟨.inr (by have := hk.1; omega), fun e => by have := hd.lt k e; have := hk.1; omega⟩
end Go.Proofs.Herb
