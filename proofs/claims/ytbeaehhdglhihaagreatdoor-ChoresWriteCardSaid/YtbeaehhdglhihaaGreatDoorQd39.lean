/- A disk and the reference's disk side by side: what both tell (List, Used, Dir, Blown, Loose), and the calls that Two and Twc lack (Sync, Rename, SyncDir, Turn, Copy). For states as DsOk says. Files that are written on a disk, one behind the other, each made sure: what each call answers, and what the disk has behind them. Plain; for states as DsOk says. -/
import Derived.Deep.RegionHeld3
import Derived.Test.YtbeaehhdglhihaaGreatDoorQd30
import Derived.Test.YtbeaehhdglhihaaGreatDoorQd37
import Derived.Test.YtbeaehhdglhihaaGreatDoorQd38
namespace Go.Proofs.Herb
open Go.RowKit Go.Sort
variable {I : Nat → Prop} {w0 w : World} {md : DM} {s t : DS} {mr : RM} {n : Nat}
theorem Sim.looseN {s : DS} {r : RS} {n : Nat} (h : Sim s r) (ok : DsOk s n) (k : ByteArray) : looseNR r k = looseN s k := by
  unfold looseNR Herb.looseN
  rw [h.looseE ok, h.at_ ok, h.files]
theorem Two.dirR (T : Two I w0 w md s mr t n) (hn : n ≤ 900000) :
    Calls Tryz.prog 50 #[.pointer (some ⟨mr.D, 0, none⟩)] w fun e w' => e = .returned (.int .i64 (t.changes.length : Int)) ∧ w = w' := by
  obtain ⟨U, r, hr, hs, hu⟩ := T.ref
  refine (dirR_any U mr r w hr (hs.good T.okr hn)).mono ?_
  rintro e w' ⟨rfl, hb⟩
  exact ⟨by rw [hs.plen, Nat.add_sub_cancel], hb⟩
theorem Two.blownR (T : Two I w0 w md s mr t n) :
    Calls Tryz.prog 48 #[.pointer (some ⟨mr.D, 0, none⟩)] w fun e w' => e = .returned (.bool t.dead) ∧ w = w' := by
  obtain ⟨U, r, hr, hs, hu⟩ := T.ref
  refine (blownR_any U mr r w hr).mono ?_
  rintro e w' ⟨rfl, hb⟩
  exact ⟨by rw [hs.dead], hb⟩
theorem Two.looseD (T : Two I w0 w md s mr t n) (k : ByteArray) (hk : k.size ≤ maxLen) :
    Calls Tryz.prog 53 #[.pointer (some ⟨md.D, 0, none⟩), .string k] w fun e w' => e = .returned (.tuple #[.int .i64 (looseN s k), .int .i64 (foundE s k)]) ∧ Below w.heap.size w w' :=
  loose_any md s k hk w T.disk T.okd.good.ok T.okd.sure
theorem Two.looseR (T : Two I w0 w md s mr t n) (hn : n ≤ 900000) (k : ByteArray) (hk : k.size ≤ maxLen) :
    Calls Tryz.prog 54 #[.pointer (some ⟨mr.D, 0, none⟩), .string k] w fun e w' => e = .returned (.tuple #[.int .i64 (looseN t k), .int .i64 (foundE t k)]) ∧ Below w.heap.size w w' := by
  obtain ⟨U, r, hr, hs, hu⟩ := T.ref
  refine (looseR_any U mr r k hk w hr (hs.good T.okr hn)).mono ?_
  rintro e w' ⟨rfl, hb⟩
  exact ⟨by rw [hs.looseN T.okr, hs.looseE T.okr], hb⟩
end Go.Proofs.Herb
namespace Go.Proofs.Herb
open Go.RowKit Go.Sort
/-- a file more, its bytes, made sure -/
def put1E (s : DS) (k : ByteArray) (b : List UInt8) : Int := if createE s k ≠ 0 then createE s k else if appendE (createS s k) k b ≠ 0 then appendE (createS s k) k b else syncE (appendS (createS s k) k b) k
def put1S (s : DS) (k : ByteArray) (b : List UInt8) : DS := if createE s k ≠ 0 then createS s k else if appendE (createS s k) k b ≠ 0 then appendS (createS s k) k b else syncS (appendS (createS s k) k b) k
def putE (s : DS) : List (ByteArray × List UInt8) → Int
  | [] => 0
  | x :: r => if put1E s x.1 x.2 ≠ 0 then put1E s x.1 x.2 else putE (put1S s x.1 x.2) r
def putS (s : DS) : List (ByteArray × List UInt8) → DS
  | [] => s
  | x :: r => if put1E s x.1 x.2 ≠ 0 then put1S s x.1 x.2 else putS (put1S s x.1 x.2) r
theorem DsOk.put1 {s : DS} {n : Nat} (h : DsOk s n) (k : ByteArray) (b : List UInt8) : DsOk (put1S s k b) (n + 2) := by
  unfold put1S
  split
  · exact h.create k
  · split
    · exact (h.create k).append k b
    · exact ((h.create k).append k b).sync k
theorem DsOk.put {n : Nat} : ∀ {s : DS} (_ : DsOk s n) (l : List (ByteArray × List UInt8)), DsOk (putS s l) (n + 2 * l.length)
  | s, h, [] => h
  | s, h, x :: r => by
    unfold putS
    split
    · exact (h.put1 x.1 x.2).mono (by rw [List.length_cons]; omega)
    · exact (DsOk.put (h.put1 x.1 x.2) r).mono (by rw [List.length_cons]; omega)
end Go.Proofs.Herb
