/- The contracts of the disk's SetRoom, Fuse, Remove, Rename, SyncDir and Loose. For a disk as DiskAt says. -/
import Derived.Test.YtcmiillgniglaaaGreatDoorQf21
namespace Go.Proofs.Herb
open Go.RowKit
def looseN (s : DS) (k : ByteArray) : Int := if foundE s k = 0 then ((((s.files[(look s.names k).getD 0]?).map (·.b.length)).getD 0 : Nat) : Int) - ((((s.files[(look s.names k).getD 0]?).map (·.sure)).getD 0 : Nat) : Int) else 0
theorem found_ok {s : DS} {k : ByteArray} (h : foundE s k = 0) (hd : DirOk s.names s.nclock s.files.length) : ∃ i, look s.names k = some i ∧ foundN s k = (i : Int) ∧ i < s.files.length := by
  unfold foundE at h
  split at h
  · rename_i hm
    split at h
    · rename_i hs
      obtain ⟨i, hi⟩ := Option.isSome_iff_exists.1 hs
      obtain ⟨e, he, rfl⟩ := look_mem hi
      refine ⟨_, hi, ?_, hd.at_ e he⟩
      unfold foundN
      rw [if_pos hm, hi]
      rfl
    · cases h
  · cases h
set_option maxRecDepth 100000 in
set_option maxHeartbeats 1600000 in
theorem loose_any (m : DM) (s : DS) (k : ByteArray) (hk : k.size ≤ maxLen) (w : World) (h : DiskAt w m s) (hd : DirOk s.names s.nclock s.files.length) (hb : ∀ f ∈ s.files, f.sure ≤ f.b.length ∧ f.b.length ≤ 4194304) :
    Calls Tryz.prog 37 #[.pointer (some ⟨m.D, 0, none⟩), .string k] w fun e w' => e = .returned (.tuple #[.int .i64 (looseN s k), .int .i64 (foundE s k)]) ∧ Below w.heap.size w w' := by
  by_cases q : foundE s k = 0
  · obtain ⟨i, hi, hn, hil⟩ := found_ok q hd
    obtain ⟨g, c, q0, k0, hfv, hc1, hbi, hk1, hk2, hqn, hce, hsu, hrd, _, hgl⟩ := h.file hil
    have hL : looseN s k = ((s.files[i]).b.length : Int) - ((s.files[i]).sure : Int) := by unfold looseN; rw [if_pos q, hi, Option.getD_some, List.getElem?_eq_getElem hil]; rfl
    have hbl := hb _ (List.getElem_mem hil)
    have c3 := h.cells.2.2.2.1
    rw [hfv] at c3
    rw [hL, q]
    obtain ⟨nb, hnb⟩ : ∃ nb, nb = (s.files[i]).b.length := ⟨_, rfl⟩
    obtain ⟨ns, hns⟩ : ∃ ns, ns = (s.files[i]).sure := ⟨_, rfl⟩
    rw [← hnb] at hk1 hce hbl ⊢
    rw [← hns] at hsu hbl ⊢
    have i1 : (i : Int) < (s.files.length : Int) := by omega
    have i0 : (0 : Int) ≤ (i : Int) := by omega
    have hw : IntKind.i64.wrap ((nb : Int) - (ns : Int)) = (nb : Int) - (ns : Int) := by rw [IntKind.wrap_i64]; omega
    have H := hid h
    have Q := hid q
    have Hn := hid hn
    clear h q hn hrd hqn hbi hi hL hd hb hnb hns hfv hbl
    go_enter Tryz.func37, Tryz.ntmps37
    go_wp2_with (go_at_call 61; refine (found_any m s k hk w H.out).mono ?_; rintro e w' ⟨rfl, rfl⟩; rw [Q.out, Hn.out])
    go_quiet (fail)
    go_wp2
    go_ret2
    exact ⟨rfl, below_drewN (Below.refl _ _) _⟩
  · have b1 : (foundE s k != 0) = true := by simpa using q
    have hL : looseN s k = 0 := by unfold looseN; rw [if_neg q]
    rw [hL]
    have H := hid h
    clear h q hL hd hb
    go_enter Tryz.func37, Tryz.ntmps37
    go_wp2_with (go_at_call 61; refine (found_any m s k hk w H.out).mono ?_; rintro e w' ⟨rfl, rfl⟩)
    go_ret2
    exact ⟨rfl, Below.refl _ _⟩
theorem seq {a b : ByteArray} (h : a = b) : (a.toList == b.toList) = true := by rw [h]; exact beq_self_eq_true _
end Go.Proofs.Herb
