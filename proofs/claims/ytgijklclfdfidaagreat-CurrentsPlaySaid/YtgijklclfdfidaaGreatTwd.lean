/- A disk and the reference's disk side by side: each call of the disk; the pointer's Set at no disk; SameBytes of one list; the law's name. For states as DsOk says. -/
import Derived.Test.YtgijklclfdfidaaGreatRgt
import Derived.Test.YtgijklclfdfidaaGreatCurM
import Derived.Test.YtgijklclfdfidaaGreatSle
namespace Go.Proofs.Herb
open Go.RowKit
variable {I : Nat → Prop} {w0 w : World} {md : DM} {s t : DS} {mr : RM} {n : Nat}
theorem Two.setD (T : Two I w0 w md s mr t n) (hn : n ≤ 800000) (N : Nat) (hN : N < 18446744073709551616) :
    Calls Tryz.prog 7 #[.pointer (some ⟨md.D, 0, none⟩), .int .u64 (N : Int)] w fun e w' => ∃ md', e = .returned (.int .i64 (setE s N)) ∧ md'.D = md.D ∧ Two I w0 w' md' (setS s N) mr t (n + 13) := by
  refine (set_any md s n N hN w T.disk T.okd (by omega)).mono ?_
  rintro e w' ⟨md', rfl, hd, hD, hM⟩
  refine ⟨md', rfl, hD, T.move hd hM ?_ (by omega)⟩
  unfold setS
  split
  · exact (T.okd.run _ 6).mono (by omega)
  · exact (T.okd.run _ 5).mono (by omega)
theorem Two.getD (T : Two I w0 w md s mr t n) (hn : n ≤ 900000) :
    Calls Tryz.prog 22 #[.pointer (some ⟨md.D, 0, none⟩)] w fun e w' => e = .returned (.tuple #[.int .u64 (getN s : Int), .int .i64 (getE s)]) ∧ Below w.heap.size w w' :=
  get_any md s n w T.disk T.okd (by omega)
theorem Two.createD (T : Two I w0 w md s mr t n) (hn : n ≤ 900000) (k : ByteArray) (hk : k.size ≤ maxLen) :
    Calls Tryz.prog 9 #[.pointer (some ⟨md.D, 0, none⟩), .string k] w fun e w' => ∃ md', e = .returned (.int .i64 (createE s k)) ∧ md'.D = md.D ∧ Two I w0 w' md' (createS s k) mr t (n + 2) := by
  refine (create_any md s k w T.disk hk T.okd.f0 T.okd.f1 (by have := T.okd.files; omega) (by have := T.okd.changes; omega) (by have := T.okd.good.many; omega)).mono ?_
  rintro e w' ⟨md', rfl, hd, hD, hM⟩
  exact ⟨md', rfl, hD, T.move hd hM (T.okd.create k) (by omega)⟩
theorem Two.appendD (T : Two I w0 w md s mr t n) (hn : n ≤ 900000) (k : ByteArray) (hk : k.size ≤ maxLen) (a : Option Addr) (m c : Nat) (l : List UInt8) (hl : l.length = m) (hc : m ≤ c) (hcm : c ≤ maxLen) (hr : Rd w a (l.map bv)) (ha : a = none → c = 0)
    (hap : l ≠ [] → ∀ b off, a = some ⟨b, off, none⟩ → b < w0.heap.size ∧ ¬ I b) :
    Calls Tryz.prog 12 #[.pointer (some ⟨md.D, 0, none⟩), .string k, .slice a m c] w fun e w' => ∃ md', e = .returned (.int .i64 (appendE s k l)) ∧ md'.D = md.D ∧ Two I w0 w' md' (appendS s k l) mr t n := by
  have hu := used_le T.okd
  refine (append_any md s k hk a m c l w T.disk T.okd.good.ok (Nat.le_trans hu (by have : n * 4194304 ≤ 900000 * 4194304 := Nat.mul_le_mul_right _ hn; omega)) T.okd.f0 T.okd.f1 T.okd.r0 T.okd.r1 hl hc hcm hr ha (fun h b off e hm => by
    have h1 := hap h b off e
    rcases T.fpb b hm with q | q
    · exact h1.2 q
    · omega) (fun f hf => by have := (T.okd.sure f hf).2; omega)).mono ?_
  rintro e w' ⟨md', rfl, hd, hD, hM⟩
  exact ⟨md', rfl, hD, T.move hd hM (T.okd.append k l) (Nat.le_refl _)⟩
theorem Two.removeD (T : Two I w0 w md s mr t n) (hn : n ≤ 900000) (k : ByteArray) (hk : k.size ≤ maxLen) :
    Calls Tryz.prog 14 #[.pointer (some ⟨md.D, 0, none⟩), .string k] w fun e w' => ∃ md', e = .returned (.int .i64 (removeE s k)) ∧ md'.D = md.D ∧ Two I w0 w' md' (removeS s k) mr t (n + 1) := by
  refine (remove_any md s k hk w T.disk T.okd.f0 T.okd.f1 (by have := T.okd.changes; omega)).mono ?_
  rintro e w' ⟨md', rfl, hd, hD, hM⟩
  exact ⟨md', rfl, hD, T.move hd hM (T.okd.remove k) (by omega)⟩
theorem Two.setRoomD (T : Two I w0 w md s mr t n) (v : Int) :
    Calls Tryz.prog 16 #[.pointer (some ⟨md.D, 0, none⟩), .int .i64 v] w fun e w' => e = .returned (.int .i64 (setRoomE v)) ∧ Two I w0 w' md (setRoomS s v) mr t n := by
  refine (setRoom_any md s v w T.disk).mono ?_
  rintro e w' ⟨rfl, hd, hM⟩
  refine ⟨rfl, T.move hd hM ?_ (Nat.le_refl _)⟩
  unfold setRoomS
  split
  · exact T.okd
  · rename_i h
    exact T.okd.same T.okd.f0 T.okd.f1 (by show (0 : Int) ≤ v; omega) (by show v ≤ (4194304 : Int); omega) rfl rfl rfl rfl rfl rfl T.okd.sure
theorem Two.fuseD (T : Two I w0 w md s mr t n) (v : Int) (hv : v ≤ 9223372036854775807) :
    Calls Tryz.prog 18 #[.pointer (some ⟨md.D, 0, none⟩), .int .i64 v] w fun e w' => e = .returned (.int .i64 (fuseE v)) ∧ Two I w0 w' md (fuseS s v) mr t n := by
  refine (fuseI_any md s v w T.disk).mono ?_
  rintro e w' ⟨rfl, hd, hM⟩
  refine ⟨rfl, T.move hd hM ?_ (Nat.le_refl _)⟩
  unfold fuseS
  split
  · exact T.okd
  · rename_i h
    exact T.okd.same (by show -1 ≤ v; omega) hv T.okd.r0 T.okd.r1 rfl rfl rfl rfl rfl rfl T.okd.sure
theorem Two.readD (T : Two I w0 w md s mr t n) (k : ByteArray) (hk : k.size ≤ maxLen) :
    Calls Tryz.prog 24 #[.pointer (some ⟨md.D, 0, none⟩), .string k] w fun e w' => ∃ q, e = .returned (.tuple #[.slice q (readL s k).length (readL s k).length, .int .i64 (knownE s k)]) ∧ Rd w' q ((readL s k).map bv) ∧ Below w.heap.size w w' := by
  refine (read_clip md s k hk w T.disk T.okd.good.ok (fun f hf => (T.okd.sure f hf).2)).mono ?_
  rintro e w' ⟨q, rfl, hF, hB⟩
  exact ⟨q, rfl, hF.rd, hB⟩
theorem Two.crashD (T : Two I w0 w md s mr t n) (hn : n ≤ 900000) (dir : Int) (fa : Option Addr) (fn fc : Nat) (fl : List Int) (hfn : fl.length = fn) (hfr : Rd w fa (fl.map (Value.int .i64))) :
    Calls Tryz.prog 20 #[.pointer (some ⟨md.D, 0, none⟩), .agg #[.int .i64 dir, .slice fa fn fc]] w fun e w' => ∃ mo : DM, e = .returned (.tuple #[.pointer (some ⟨mo.D, 0, none⟩), .int .i64 0]) ∧ DiskAt w' mo (crashS s dir fl) ∧ Below w.heap.size w w' ∧ ∀ k ∈ mo.fp, w.heap.size < k :=
  crash_any md s dir fa fn fc fl w T.disk hfn hfr (by have := T.okd.changes; omega) (T.okd.crashOk (by omega) dir fl)
/-- behind both crashes -/
theorem Two.crashed {w1 w2 : World} {mo : DM} {m' : RM} {r' : RS} (T : Two I w0 w md s mr s n) (dir : Int) (fl : List Int) (hd : DiskAt w1 mo (crashS s dir fl)) (hb : Below w.heap.size w w1) (hf : ∀ k ∈ mo.fp, w.heap.size < k)
    (hb2 : Below w1.heap.size w1 w2) (hr : RefAt w2 (fun k => w1.heap.size < k ∧ k < w2.heap.size) m' r') (hs : Sim (crashS s dir fl) r') : Two I w0 w2 mo (crashS s dir fl) m' (crashS s dir fl) n :=
  ⟨hd.below hb2, ⟨_, r', hr, hs, fun k hk => ⟨.inr (Nat.le_trans T.mod.size (Nat.le_trans hb.size (Nat.le_of_lt hk.1))), fun e => by have := hd.lt k e; have := hk.1; omega⟩⟩, T.okd.crash dir fl, T.okd.crash dir fl,
    fun k hk => .inr (Nat.le_trans T.mod.size (Nat.le_of_lt (hf k hk))), (T.mod.seq (RMod.of_below I hb)).seq (RMod.of_below I hb2)⟩
theorem setC_nil (N : Nat) (w : World) : Calls Tryz.prog 7 #[.pointer none, .int .u64 (N : Int)] w fun e w' => e = .returned (.int .i64 2) ∧ Below w.heap.size w w' := by
  go_enter Tryz.func7, Tryz.ntmps7
  go_wp2_with fail
  refine wp_scope_jumps1 0 (fun _ _ => False) (fun _ _ => 0) rfl ?pass ?first
  case first =>
    intro hp
    clear hp
    go_wp2_with fail
    (with_reducible refine (noneC_nil _).mono ?_)
    rintro e w1 ⟨rfl, rfl⟩
    go_wp2_with fail
    (try rw [jump1_ret])
    go_ret
    exact ⟨rfl, ((Below.refl _ _).alloc (Nat.le_refl _) _).alloc (by simp) _⟩
  case pass =>
    intros
    contradiction
theorem sameB_true (a b : Option Addr) (n c d : Nat) (l : List UInt8) (w : World) (hn : l.length = n) (hn' : n ≤ 4611686018427387904) (hr : Rd w a (l.map bv)) (hs : Rd w b (l.map bv)) :
    Calls Tryz.prog 26 #[.slice a n c, .slice b n d] w fun e w' => e = .returned (.bool true) ∧ Below w.heap.size w w' := by
  have H := equal_bytes a b n c n d l l w hn hn hn' hn' hr hs
  rw [show (l == l) = true from beq_self_eq_true l] at H
  have H := hid H
  clear hn hn' hr hs
  go_enter Tryz.func26, Tryz.ntmps26
  go_wp2_with (go_at_call 62; refine H.out.mono ?_; rintro e w1 ⟨rfl, hb⟩)
  go_ret
  exact ⟨rfl, hb⟩
/-- the law's names -/
def nameL (n : Nat) : ByteArray := if n % 3 = 0 then ⟨#[99]⟩ else if n % 3 = 1 then ⟨#[100]⟩ else ⟨#[120]⟩
theorem nameL_size (n : Nat) : (nameL n).size ≤ maxLen := by unfold nameL maxLen; split; decide; split <;> decide
theorem name_any (n : Nat) (hn : n < 18446744073709551616) (w : World) : Calls Tryz.prog 10 #[.int .u64 (n : Int)] w fun e w' => e = .returned (.string (nameL n)) ∧ Below w.heap.size w w' := by
  have h3 : n % 3 = 0 ∨ n % 3 = 1 ∨ n % 3 = 2 := by omega
  rcases h3 with h | h | h
  · have hr : (n : Int) % 3 = 0 := by omega
    have hN := hid (show nameL n = ⟨#[99]⟩ by unfold nameL; rw [if_pos h])
    clear h
    go_enter Tryz.func10, Tryz.ntmps10
    go_wp2_with fail
    go_ret
    exact ⟨by rw [hN.out]; rfl, (Below.refl _ _).alloc (Nat.le_refl _) _⟩
  · have hr : (n : Int) % 3 = 1 := by omega
    have hN := hid (show nameL n = ⟨#[100]⟩ by unfold nameL; rw [if_neg (by omega), if_pos h])
    clear h
    go_enter Tryz.func10, Tryz.ntmps10
    go_wp2_with fail
    go_ret
    exact ⟨by rw [hN.out]; rfl, (Below.refl _ _).alloc (Nat.le_refl _) _⟩
  · have hr : (n : Int) % 3 = 2 := by omega
    have hN := hid (show nameL n = ⟨#[120]⟩ by unfold nameL; rw [if_neg (by omega), if_neg (by omega)])
    clear h
    go_enter Tryz.func10, Tryz.ntmps10
    go_wp2_with fail
    go_ret
    exact ⟨by rw [hN.out]; rfl, (Below.refl _ _).alloc (Nat.le_refl _) _⟩
end Go.Proofs.Herb
