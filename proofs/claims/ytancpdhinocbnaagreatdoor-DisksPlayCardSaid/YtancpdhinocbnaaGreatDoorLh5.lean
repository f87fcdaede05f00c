/- The contract of the law's has; acts in memory. For disks as DiskAt says. -/
import Derived.Test.YtancpdhinocbnaaGreatDoorLw4
import Derived.Test.YtancpdhinocbnaaGreatDoorOpA
namespace Go.Proofs.Herb
open Go.RowKit Go.Sort
set_option maxRecDepth 100000 in
set_option maxHeartbeats 800000 in
theorem has_true (m : DM) (s : DS) (n : Nat) (k : ByteArray) (l : List UInt8) (w : World) (h : DiskAt w m s) (o : DsOk s n) (hk : knownE s k = 0) (hr : readL s k = l) (hl : l ≠ []) :
    Calls Tryz.prog 24 #[.pointer (some ⟨m.D, 0, none⟩), .string k, .string ⟨l.toArray⟩] w fun e w' => e = .returned (.bool true) ∧ Below w.heap.size w w' := by
  have hks := knownE_size hk
  have H := hid h
  have O := hid o
  have HK := hid hk
  have HR := hid hr
  have HL := hid hl
  clear h o hk hr hl
  go_enter Tryz.func24, Tryz.ntmps24
  go_wp2_with fail
  with_reducible refine (read_clip m s k hks w H.out O.out.good.ok O.out.bytes).mono ?_
  rintro e w1 ⟨q, rfl, hF, hB⟩
  rw [HK.out, HR.out]
  rw [HR.out] at hF
  have hrd := hF.rd
  obtain ⟨bb, oo, rfl, hc0⟩ := hrd.cell (k := 0) (by have := List.length_pos_iff.2 HL.out; simpa using this)
  have hconv := run_convert_bytes_back (P := Tryz.prog) w1 31 9 5 ⟨bb, oo, none⟩ l.length l Tryz.underlying31 Tryz.underlying5 Tryz.underlying9 (fun j hj => by
    obtain ⟨b', o', e, hh⟩ := hrd.cell (k := j) (by simpa using hj)
    cases e
    rw [Addr.add_mid, hh, List.getElem_map]; rfl)
  have HB := hid hB
  clear hB hF hrd hc0
  go_wp2
  go_ret
  exact ⟨by simp, HB.out⟩
theorem rem_yes {k : Nat} {c : Int} (h : (((k : Int) % 11) == c) = true) : ((k % 11 : Nat) : Int) = c := by
  have := beq_iff_eq.1 h; omega
theorem rem_no {k : Nat} {c : Int} (h : (((k : Int) % 11) == c) = false) : ((k % 11 : Nat) : Int) ≠ c := by
  have := beq_eq_false_iff_ne.1 h; omega
/-- an act's cells -/
theorem ActsAt.cells {w : World} {a : Option Addr} {len : Nat} {l : List ActV} (h : ActsAt w a len l) {j : Nat} (hj : j < len) :
    ∃ b off v, a = some ⟨b, off, none⟩ ∧ l[j]? = some v ∧ ActOk w v ∧ b < w.heap.size ∧ ∀ (i : Nat) u, v.cells[i]? = some u → w.cell? ⟨b, off + (j * 7 + i), none⟩ = some u := by
  obtain ⟨h1, h2, h3⟩ := h
  have hjl : j < l.length := by omega
  rcases h3 with rfl | ⟨b, off, rfl, hc⟩
  · simp at hjl
  · have hv : l[j]? = some l[j] := List.getElem?_eq_getElem hjl
    refine ⟨b, off, l[j], rfl, hv, h2 _ (List.getElem_mem _), ?_, fun i u hu => hc j _ hv i u hu⟩
    exact World.block_lt_of_cell? w _ (hc j _ hv 0 _ rfl)
theorem ActOk.below {w w' : World} {v : ActV} (h : ActOk w v) (hb : Below w.heap.size w w') : ActOk w' v :=
  ⟨h.what, h.a, h.b, h.n0, h.n1, h.d0, h.d1, h.d2, h.d3.below hb, h.d4, h.i0, h.i1, h.f0, h.f1, h.f2, h.f3.below hb⟩
theorem ActsAt.below {w w' : World} {a : Option Addr} {len : Nat} {l : List ActV} (h : ActsAt w a len l) (hb : Below w.heap.size w w') : ActsAt w' a len l :=
  ⟨h.1, fun v hv => (h.2.1 v hv).below hb, h.2.2.imp id fun ⟨b, off, ha, hc⟩ => ⟨b, off, ha, fun i v hi j u hj => by
    have := hc i v hi j u hj
    rw [hb.cell (World.block_lt_of_cell? w _ this)]; exact this⟩⟩
theorem ActOk.apart {w : World} {v : ActV} (h : ActOk w v) {fp : List Nat} (hf : ∀ k, k ∈ fp → w.heap.size ≤ k) : v.data ≠ [] → ∀ b off, v.dq = some ⟨b, off, none⟩ → b ∉ fp := by
  intro hd b off hq hb
  have h1 := h.d3.lt hq (by simpa using List.length_pos_iff.2 hd)
  have := hf b hb
  omega
end Go.Proofs.Herb
