/- The contracts of the steps of a pointer's Set (closures and method values). For a disk as DiskAt says. -/
import Derived.Test.YtgijklclfdfidaaGreatCurA
import Derived.Test.YtgijklclfdfidaaGreatFrs
import Derived.Deep.RegionHeld3
namespace Go.Proofs.Herb
open Go.RowKit Go.Sort
/-- a block of one cell -/
def BoxAt (w : World) (b : Nat) (t : TypeId) (v : Value) : Prop := w.heap[b]? = some (.cells #[v] t (0, 0))
theorem BoxAt.cell {w : World} {b : Nat} {t : TypeId} {v : Value} (h : BoxAt w b t v) : w.cell? ⟨b, 0, none⟩ = some v := cell_of_row w b 0 _ _ _ h
theorem BoxAt.lt {w : World} {b : Nat} {t : TypeId} {v : Value} (h : BoxAt w b t v) : b < w.heap.size := lt_of_block h
theorem BoxAt.below {w w' : World} {B b : Nat} {t : TypeId} {v : Value} (h : BoxAt w b t v) (hb : Below B w w') (hB : b < B) : BoxAt w' b t v := (hb.block b hB).trans h
theorem fr_nil {w : World} {base : Nat} {e : TypeId} {n c : Nat} {q : Option Addr} {xs : List Value} (h : Fr w base e 1 (.slice q (n + 1) c) (n + 1) xs) (hq : q = none) : False := by
  subst hq
  rcases h.2 with ⟨h0, _⟩ | ⟨g, cap, cur, hv, _⟩
  · cases h0
  · cases hv
theorem on_any (fn : Fn) (first cap : Array Value) (w : World) :
    Calls Tryz.prog 28 #[.func fn first cap] w fun e w' => e = .returned (.func (.func 29) #[] #[.pointer (some ⟨w.heap.size, 0, none⟩)]) ∧ w' = w.alloc (.cells #[.func fn first cap] 40) := by
  have hmf : ∀ (fn : Fn) (first cap : Array Value) (w : World), (Instr.makeFunc fn first cap).run Tryz.prog w = .ok (.func fn first cap) w := fun _ _ _ _ => rfl
  go_enter Tryz.func28, Tryz.ntmps28
  go_wp2_with fail
  go_ret
  exact ⟨rfl, rfl⟩
theorem rm_call (b : Nat) (m : DM) (s : DS) (n : Nat) (w : World) (hb : BoxAt w b 40 (.func (.func 14) #[.pointer (some ⟨m.D, 0, none⟩)] #[])) (h : DiskAt w m s) (o : DsOk s n) (hn : n ≤ 1000000) :
    Calls Tryz.prog 29 #[.pointer (some ⟨b, 0, none⟩)] w fun e w' => ∃ m', e = .returned (.int .i64 (removeE s kD)) ∧ DiskAt w' m' (removeS s kD) ∧ m'.D = m.D ∧ Mod m.fp m'.fp w w' := by
  have hr := remove_any m s kD (by unfold maxLen; decide) w h o.f0 o.f1 (Nat.le_trans o.changes (by omega))
  have HR := hid hr
  have hc := hb.cell
  clear hr h o hb
  go_enter Tryz.func29, Tryz.ntmps29
  go_wp2_with fail
  refine HR.out.mono ?_
  rintro e w' ⟨m', rfl, h1, h2, h3⟩
  go_wp2_with fail
  go_ret
  exact ⟨m', rfl, h1, h2, h3⟩
theorem cr_call (b : Nat) (m : DM) (s : DS) (n : Nat) (w : World) (hb : BoxAt w b 40 (.func (.func 9) #[.pointer (some ⟨m.D, 0, none⟩)] #[])) (h : DiskAt w m s) (o : DsOk s n) (hn : n ≤ 1000000) :
    Calls Tryz.prog 29 #[.pointer (some ⟨b, 0, none⟩)] w fun e w' => ∃ m', e = .returned (.int .i64 (createE s kD)) ∧ DiskAt w' m' (createS s kD) ∧ m'.D = m.D ∧ Mod m.fp m'.fp w w' := by
  have hr := create_any m s kD w h (by unfold maxLen; decide) o.f0 o.f1 (Nat.le_trans o.files (by omega)) (Nat.le_trans o.changes (by omega)) (Nat.le_trans o.good.many (by omega))
  have HR := hid hr
  have hc := hb.cell
  clear hr h o hb
  go_enter Tryz.func29, Tryz.ntmps29
  go_wp2_with fail
  refine HR.out.mono ?_
  rintro e w' ⟨m', rfl, h1, h2, h3⟩
  go_wp2_with fail
  go_ret
  exact ⟨m', rfl, h1, h2, h3⟩
theorem sy_call (b : Nat) (m : DM) (s : DS) (n : Nat) (w : World) (hb : BoxAt w b 40 (.func (.func 32) #[.pointer (some ⟨m.D, 0, none⟩)] #[])) (h : DiskAt w m s) (o : DsOk s n) :
    Calls Tryz.prog 29 #[.pointer (some ⟨b, 0, none⟩)] w fun e w' => ∃ m', e = .returned (.int .i64 (syncE s kD)) ∧ DiskAt w' m' (syncS s kD) ∧ m'.D = m.D ∧ Mod m.fp m'.fp w w' := by
  have hr := sync_any m s kD (by unfold maxLen; decide) w h o.good.ok o.f0 o.f1
  have HR := hid hr
  have hc := hb.cell
  clear hr h o hb
  go_enter Tryz.func29, Tryz.ntmps29
  go_wp2_with fail
  refine HR.out.mono ?_
  rintro e w' ⟨rfl, h1, h3⟩
  go_wp2_with fail
  go_ret
  exact ⟨m, rfl, h1, rfl, h3⟩
theorem rn_call (b : Nat) (m : DM) (s : DS) (n : Nat) (w : World) (hb : BoxAt w b 24 (.pointer (some ⟨m.D, 0, none⟩))) (h : DiskAt w m s) (o : DsOk s n) (hn : n ≤ 1000000) :
    Calls Tryz.prog 33 #[.pointer (some ⟨b, 0, none⟩)] w fun e w' => ∃ m', e = .returned (.int .i64 (renameE s kD kC)) ∧ DiskAt w' m' (renameS s kD kC) ∧ m'.D = m.D ∧ Mod m.fp m'.fp w w' := by
  have hr := rename_any m s kD kC (by unfold maxLen; decide) (by unfold maxLen; decide) w h o.f0 o.f1 (Nat.le_trans o.changes (by omega))
  have HR := hid hr
  have hc := hb.cell
  clear hr h o hb
  go_enter Tryz.func33, Tryz.ntmps33
  go_wp2_with fail
  refine HR.out.mono ?_
  rintro e w' ⟨m', rfl, h1, h2, h3⟩
  go_wp2_with fail
  go_ret
  exact ⟨m', rfl, h1, h2, h3⟩
set_option maxRecDepth 100000 in
set_option maxHeartbeats 1600000 in
theorem ap_call (b c : Nat) (m : DM) (s : DS) (n N : Nat) (hN : N < 18446744073709551616) (w : World) (hb : BoxAt w b 24 (.pointer (some ⟨m.D, 0, none⟩))) (hc : BoxAt w c 31 (.int .u64 (N : Int))) (h : DiskAt w m s) (o : DsOk s n) (hn : n ≤ 1000000) (hbf : b ∉ m.fp) (hcf : c ∉ m.fp) :
    Calls Tryz.prog 30 #[.pointer (some ⟨b, 0, none⟩), .pointer (some ⟨c, 0, none⟩)] w fun e w' => ∃ m', e = .returned (.int .i64 (appendE s kD (contentL N))) ∧ DiskAt w' m' (appendS s kD (contentL N)) ∧ m'.D = m.D ∧ Mod m.fp m'.fp w w' := by
  have H := hid h
  have O := hid o
  have hcc := fun w' (hB : Below w.heap.size w w') => And.intro (hb.below hB hb.lt).cell (hc.below hB hc.lt).cell
  have HCC := hid hcc
  have hbm := fun w' w6 (m6 : DM) (hB : Below w.heap.size w w') (hM : Mod m.fp m6.fp w' w6) => And.intro (show BoxAt w6 b _ _ from (hM.block b (Nat.lt_of_lt_of_le hb.lt hB.size) hbf).trans (hb.below hB hb.lt)).cell (show BoxAt w6 c _ _ from (hM.block c (Nat.lt_of_lt_of_le hc.lt hB.size) hcf).trans (hc.below hB hc.lt)).cell
  have HBM := hid hbm
  have k1 := hb.cell
  have k2 := hc.cell
  have HLT := hid h.lt
  clear h o hcc hb hc hbm hbf hcf
  go_enter Tryz.func30, Tryz.ntmps30
  go_upto_region 1 with fail
  go_region_held3 (fun w' => w'.cell? ⟨b, 0, none⟩ = some (.pointer (some ⟨m.D, 0, none⟩)) ∧ w'.cell? ⟨c, 0, none⟩ = some (.int .u64 (N : Int))) (first | exact HCC.out _ (Below.refl _ _).drew | (with_reducible exact HCC.out _ HB5.out) | (with_reducible exact HCC6.out) | (with_reducible exact HCC7.out))
    ((first
      | (go_at_call 31; (with_reducible refine (content_any N hN w.drew).mono ?_); rintro e w5 ⟨q5, c5, rfl, hc5, hm5, hF5, hb5⟩; have HF5 := hid hF5; have HB5 := hid ((Below.refl w.heap.size w).drew.trans hb5); have HCC6 := hid (HCC.out w5 HB5.out); clear hF5 hb5; dsimp only)
      | (go_at_call 12; (with_reducible refine (append_any m s kD (by unfold maxLen; decide) q5 12 c5 (contentL N) w5 (H.out.below HB5.out) O.out.good.ok (Nat.le_trans (used_le O.out) (by omega)) O.out.f0 O.out.f1 O.out.r0 O.out.r1 (contentL_len N) hc5 hm5 HF5.out.rd (fun e => (fr_nil HF5.out e).elim) (fun _ b' off e hb' => by have h1 := fr_base HF5.out e; have h2 := HLT.out b' hb'; exact absurd (Nat.lt_of_lt_of_le h2 h1) (Nat.lt_irrefl _)) (fun f hf => Nat.le_trans (O.out.sure f hf).2 (by decide))).mono ?_); rintro e w6 ⟨m6, rfl, h1, h2, h3⟩; have H1 := hid h1; have H2 := hid h2; have H3 := hid ((Mod.of_below m.fp (HB5.out)).trans h3); have HCC7 := hid (HBM.out _ _ _ HB5.out h3); clear h1 h2 h3; dsimp only)))
  all_goals
    go_wp2_with fail
    go_ret
    exact ⟨m6, rfl, H1.out, H2.out, H3.out⟩
end Go.Proofs.Herb
