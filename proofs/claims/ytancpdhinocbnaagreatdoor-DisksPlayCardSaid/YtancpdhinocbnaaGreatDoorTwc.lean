/- A disk and the reference's disk side by side: each call of the disk; SameBytes of one list. For states as DsOk says. -/
import Derived.Test.YtancpdhinocbnaaGreatDoorTwo
import Derived.Test.YtancpdhinocbnaaGreatDoorDskM
import Derived.Test.YtancpdhinocbnaaGreatDoorSle
namespace Go.Proofs.Herb
open Go.RowKit
variable {I : Nat → Prop} {w0 w : World} {md : DM} {s t : DS} {mr : RM} {n : Nat}
theorem Two.createD (T : Two I w0 w md s mr t n) (hn : n ≤ 900000) (k : ByteArray) (hk : k.size ≤ maxLen) :
    Calls Tryz.prog 12 #[.pointer (some ⟨md.D, 0, none⟩), .string k] w fun e w' => ∃ md', e = .returned (.int .i64 (createE s k)) ∧ md'.D = md.D ∧ Two I w0 w' md' (createS s k) mr t (n + 2) := by
  refine (create_any md s k w T.disk hk T.okd.f0 T.okd.f1 (by have := T.okd.files; omega) (by have := T.okd.changes; omega) (by have := T.okd.good.many; omega)).mono ?_
  rintro e w' ⟨md', rfl, hd, hD, hM⟩
  exact ⟨md', rfl, hD, T.move hd hM (T.okd.create k) (by omega)⟩
theorem Two.appendD (T : Two I w0 w md s mr t n) (hn : n ≤ 900000) (k : ByteArray) (hk : k.size ≤ maxLen) (a : Option Addr) (m c : Nat) (l : List UInt8) (hl : l.length = m) (hc : m ≤ c) (hcm : c ≤ maxLen) (hr : Rd w a (l.map bv)) (ha : a = none → c = 0)
    (hap : l ≠ [] → ∀ b off, a = some ⟨b, off, none⟩ → b < w0.heap.size ∧ ¬ I b) :
    Calls Tryz.prog 13 #[.pointer (some ⟨md.D, 0, none⟩), .string k, .slice a m c] w fun e w' => ∃ md', e = .returned (.int .i64 (appendE s k l)) ∧ md'.D = md.D ∧ Two I w0 w' md' (appendS s k l) mr t n := by
  have hu := used_le T.okd
  refine (append_any md s k hk a m c l w T.disk T.okd.good.ok (Nat.le_trans hu (by have : n * 4194304 ≤ 900000 * 4194304 := Nat.mul_le_mul_right _ hn; omega)) T.okd.f0 T.okd.f1 T.okd.r0 T.okd.r1 hl hc hcm hr ha (fun h b off e hm => by
    have h1 := hap h b off e
    rcases T.fpb b hm with q | q
    · exact h1.2 q
    · omega) (fun f hf => by have := (T.okd.sure f hf).2; omega)).mono ?_
  rintro e w' ⟨md', rfl, hd, hD, hM⟩
  exact ⟨md', rfl, hD, T.move hd hM (T.okd.append k l) (Nat.le_refl _)⟩
theorem Two.removeD (T : Two I w0 w md s mr t n) (hn : n ≤ 900000) (k : ByteArray) (hk : k.size ≤ maxLen) :
    Calls Tryz.prog 58 #[.pointer (some ⟨md.D, 0, none⟩), .string k] w fun e w' => ∃ md', e = .returned (.int .i64 (removeE s k)) ∧ md'.D = md.D ∧ Two I w0 w' md' (removeS s k) mr t (n + 1) := by
  refine (remove_any md s k hk w T.disk T.okd.f0 T.okd.f1 (by have := T.okd.changes; omega)).mono ?_
  rintro e w' ⟨md', rfl, hd, hD, hM⟩
  exact ⟨md', rfl, hD, T.move hd hM (T.okd.remove k) (by omega)⟩
theorem Two.setRoomD (T : Two I w0 w md s mr t n) (v : Int) :
    Calls Tryz.prog 61 #[.pointer (some ⟨md.D, 0, none⟩), .int .i64 v] w fun e w' => e = .returned (.int .i64 (setRoomE v)) ∧ Two I w0 w' md (setRoomS s v) mr t n := by
  refine (setRoom_any md s v w T.disk).mono ?_
  rintro e w' ⟨rfl, hd, hM⟩
  refine ⟨rfl, T.move hd hM ?_ (Nat.le_refl _)⟩
  unfold setRoomS
  split
  · exact T.okd
  · rename_i h
    exact T.okd.same T.okd.f0 T.okd.f1 (by show (0 : Int) ≤ v; omega) (by show v ≤ (4194304 : Int); omega) rfl rfl rfl rfl rfl rfl T.okd.sure
theorem Two.fuseD (T : Two I w0 w md s mr t n) (v : Int) (hv : v ≤ 9223372036854775807) :
    Calls Tryz.prog 25 #[.pointer (some ⟨md.D, 0, none⟩), .int .i64 v] w fun e w' => e = .returned (.int .i64 (fuseE v)) ∧ Two I w0 w' md (fuseS s v) mr t n := by
  refine (fuseI_any md s v w T.disk).mono ?_
  rintro e w' ⟨rfl, hd, hM⟩
  refine ⟨rfl, T.move hd hM ?_ (Nat.le_refl _)⟩
  unfold fuseS
  split
  · exact T.okd
  · rename_i h
    exact T.okd.same (by show -1 ≤ v; omega) hv T.okd.r0 T.okd.r1 rfl rfl rfl rfl rfl rfl T.okd.sure
theorem Two.readD (T : Two I w0 w md s mr t n) (k : ByteArray) (hk : k.size ≤ maxLen) :
    Calls Tryz.prog 20 #[.pointer (some ⟨md.D, 0, none⟩), .string k] w fun e w' => ∃ q, e = .returned (.tuple #[.slice q (readL s k).length (readL s k).length, .int .i64 (knownE s k)]) ∧ Rd w' q ((readL s k).map bv) ∧ Below w.heap.size w w' := by
  refine (read_clip md s k hk w T.disk T.okd.good.ok (fun f hf => (T.okd.sure f hf).2)).mono ?_
  rintro e w' ⟨q, rfl, hF, hB⟩
  exact ⟨q, rfl, hF.rd, hB⟩
theorem Two.crashD (T : Two I w0 w md s mr t n) (hn : n ≤ 900000) (dir : Int) (fa : Option Addr) (fn fc : Nat) (fl : List Int) (hfn : fl.length = fn) (hfr : Rd w fa (fl.map (Value.int .i64))) :
    Calls Tryz.prog 9 #[.pointer (some ⟨md.D, 0, none⟩), .agg #[.int .i64 dir, .slice fa fn fc]] w fun e w' => ∃ mo : DM, e = .returned (.tuple #[.pointer (some ⟨mo.D, 0, none⟩), .int .i64 0]) ∧ DiskAt w' mo (crashS s dir fl) ∧ Below w.heap.size w w' ∧ ∀ k ∈ mo.fp, w.heap.size < k :=
  crash_any md s dir fa fn fc fl w T.disk hfn hfr (by have := T.okd.changes; omega) (T.okd.crashOk (by omega) dir fl)
/-- behind both crashes -/
theorem Two.crashed {w1 w2 : World} {mo : DM} {m' : RM} {r' : RS} (T : Two I w0 w md s mr s n) (dir : Int) (fl : List Int) (hd : DiskAt w1 mo (crashS s dir fl)) (hb : Below w.heap.size w w1) (hf : ∀ k ∈ mo.fp, w.heap.size < k)
    (hb2 : Below w1.heap.size w1 w2) (hr : RefAt w2 (fun k => w1.heap.size < k ∧ k < w2.heap.size) m' r') (hs : Sim (crashS s dir fl) r') : Two I w0 w2 mo (crashS s dir fl) m' (crashS s dir fl) n :=
  ⟨hd.below hb2, ⟨_, r', hr, hs, fun k hk => ⟨.inr (Nat.le_trans T.mod.size (Nat.le_trans hb.size (Nat.le_of_lt hk.1))), fun e => by have := hd.lt k e; have := hk.1; omega⟩⟩, T.okd.crash dir fl, T.okd.crash dir fl,
    fun k hk => .inr (Nat.le_trans T.mod.size (Nat.le_of_lt (hf k hk))), (T.mod.seq (RMod.of_below I hb)).seq (RMod.of_below I hb2)⟩
theorem sameB_true (a b : Option Addr) (n c d : Nat) (l : List UInt8) (w : World) (hn : l.length = n) (hn' : n ≤ 4611686018427387904) (hr : Rd w a (l.map bv)) (hs : Rd w b (l.map bv)) :
    Calls Tryz.prog 42 #[.slice a n c, .slice b n d] w fun e w' => e = .returned (.bool true) ∧ Below w.heap.size w w' := by
  have H := equal_bytes a b n c n d l l w hn hn hn' hn' hr hs
  rw [show (l == l) = true from beq_self_eq_true l] at H
  have H := hid H
  clear hn hn' hr hs
  go_enter Tryz.func42, Tryz.ntmps42
  go_wp2_with (go_at_call 76; refine H.out.mono ?_; rintro e w1 ⟨rfl, hb⟩)
  go_ret
  exact ⟨rfl, hb⟩
end Go.Proofs.Herb
