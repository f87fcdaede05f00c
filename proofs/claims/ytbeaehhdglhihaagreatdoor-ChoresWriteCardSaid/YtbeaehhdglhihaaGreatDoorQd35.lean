/- A disk and the reference's disk side by side in memory: each call of the reference answers as the disk's does. For states as DsOk says. -/
import Derived.Test.YtbeaehhdglhihaaGreatDoorQd33
import Derived.Test.YtbeaehhdglhihaaGreatDoorQd34
namespace Go.Proofs.Herb
open Go.RowKit
/-- the disk tells s, the reference t -/
structure Two (I : Nat → Prop) (w0 w : World) (md : DM) (s : DS) (mr : RM) (t : DS) (n : Nat) : Prop where
  disk : DiskAt w md s
  ref : ∃ U r, RefAt w U mr r ∧ Sim t r ∧ ∀ k, U k → (I k ∨ w0.heap.size ≤ k) ∧ k ∉ md.fp
  okd : DsOk s n
  okr : DsOk t n
  fpb : ∀ k, k ∈ md.fp → I k ∨ w0.heap.size ≤ k
  mod : RMod I w0 w
theorem Sim.good {t : DS} {r : RS} {n : Nat} (h : Sim t r) (ok : DsOk t n) (hn : n ≤ 900000) : RGood r := by
  have hg := ok.good
  refine ⟨by rw [h.plen]; omega, by rw [h.plen]; have := ok.changes; omega, by rw [h.files]; have := ok.files; omega, by rw [h.now ok, entsOf_len]; have := hg.many; omega, by rw [h.left]; exact ok.f0, by rw [h.left]; exact ok.f1, by rw [h.room]; exact ok.r0, by rw [h.room]; exact ok.r1, fun e he => ?_, by rw [h.files]; exact ok.sure⟩
  rw [h.now ok] at he
  obtain ⟨x, hx, _, h2⟩ := look_mem' (mem_entsOf.1 he)
  rw [h.files, ← h2]
  exact hg.file x hx
theorem Sim.all {t : DS} {r : RS} {n : Nat} (h : Sim t r) (ok : DsOk t n) (hn : n ≤ 900000) : ∀ l ∈ r.past, l.length ≤ 1000000 ∧ ∀ e ∈ l, e.2 < r.files.length := by
  intro l hl
  obtain ⟨j, hj⟩ := List.mem_iff_getElem?.1 hl
  have hjl := (List.getElem?_eq_some_iff.1 hj).1
  have hjc : j ≤ t.changes.length := by rw [h.plen] at hjl; omega
  rw [h.past j hjc] at hj
  cases hj
  have hg := ok.dirs j hjc
  refine ⟨by rw [entsOf_len]; have := hg.many; omega, fun e he => ?_⟩
  obtain ⟨x, hx, _, h2⟩ := look_mem' (mem_entsOf.1 he)
  rw [h.files, ← h2]
  exact hg.file x hx
variable {I : Nat → Prop} {w0 w w' : World} {md md' : DM} {s s' t t' : DS} {mr mr' : RM} {n n' : Nat}
theorem RMod.two {I : Nat → Prop} {w0 w w' : World} {F : Nat → Prop} (h : RMod I w0 w) (k : RMod F w w') (hF : ∀ j, F j → I j ∨ w0.heap.size ≤ j) : RMod I w0 w' :=
  ⟨k.os.trans h.os, k.tape.trans h.tape, k.output.trans h.output, Nat.le_trans h.size k.size, fun j hj hn => (k.block j (Nat.lt_of_lt_of_le hj h.size) (fun e => by rcases hF j e with q | q; exact hn q; omega)).trans (h.block j hj hn)⟩
theorem Two.move (T : Two I w0 w md s mr t n) (hd : DiskAt w' md' s') (hm : Mod md.fp md'.fp w w') (ok : DsOk s' n') (hn : n ≤ n') : Two I w0 w' md' s' mr t n' := by
  obtain ⟨U, r, hr, hs, hu⟩ := T.ref
  refine ⟨hd, ⟨U, r, hr.keep fun k hk => hm.block k (hr.low k hk) (hu k hk).2, hs, fun k hk => ⟨(hu k hk).1, fun e => ?_⟩⟩, ok, T.okr.mono hn, fun k hk => ?_, T.mod.two (F := fun j => j ∈ md.fp) ⟨hm.os, hm.tape, hm.output, hm.size, fun k h1 h2 => hm.block k h1 h2⟩ T.fpb⟩
  · rcases hm.grow k e with h | h
    · exact (hu k hk).2 h
    · have := hr.low k hk; omega
  · rcases hm.grow k hk with h | h
    · exact T.fpb k h
    · exact .inr (Nat.le_trans T.mod.size h)
theorem Two.below' (T : Two I w0 w md s mr t n) (hb : Below w.heap.size w w') : Two I w0 w' md s mr t n := by
  obtain ⟨U, r, hr, hs, hu⟩ := T.ref
  exact ⟨T.disk.below hb, ⟨U, r, hr.below hb, hs, hu⟩, T.okd, T.okr, T.fpb, T.mod.seq (RMod.of_below I hb)⟩
theorem Two.mono (T : Two I w0 w md s mr t n) (hn : n ≤ n') : Two I w0 w md s mr t n' := ⟨T.disk, T.ref, T.okd.mono hn, T.okr.mono hn, T.fpb, T.mod⟩
theorem Two.refd (T : Two I w0 w md s mr t n) {U : Nat → Prop} {r' : RS} (hu : ∀ k, U k → (I k ∨ w0.heap.size ≤ k) ∧ k ∉ md.fp) (hr' : RefAt w' (upU U w w') mr' r') (hs' : Sim t' r') (hm : RMod U w w') (ok : DsOk t' n') (hn : n ≤ n') : Two I w0 w' md s mr' t' n' := by
  refine ⟨T.disk.keep fun k hk => hm.block k (T.disk.lt k hk) (fun e => (hu k e).2 hk), ⟨_, r', hr', hs', fun k hk => ?_⟩, T.okd.mono hn, ok, T.fpb, T.mod.two hm fun j hj => (hu j hj).1⟩
  rcases hk with hk | hk
  · exact hu k hk
  · exact ⟨.inr (Nat.le_trans T.mod.size hk.1), fun e => by have := T.disk.lt k e; omega⟩
theorem Two.rebase' {w1 : World} (T : Two I w0 w md s mr t n) (hb : Below w.heap.size w w1) : ∃ I' : Nat → Prop, Two I' w1 w1 md s mr t n ∧ ∀ k, I' k → (I k ∨ w0.heap.size ≤ k) ∧ k < w.heap.size := by
  obtain ⟨U, r, hr, hs, hu⟩ := T.ref
  refine ⟨fun k => k ∈ md.fp ∨ U k, ⟨T.disk.below hb, ⟨U, r, hr.below hb, hs, fun k hk => ⟨.inl (.inr hk), (hu k hk).2⟩⟩, T.okd, T.okr, fun k hk => .inl (.inl hk), RMod.refl _ _⟩, fun k hk => ?_⟩
  rcases hk with hk | hk
  · exact ⟨T.fpb k hk, T.disk.lt k hk⟩
  · exact ⟨(hu k hk).1, hr.low k hk⟩
theorem Two.keepAt (T : Two I w0 w md s mr t n) {k : Nat} {o : Obj} (h : w0.heap[k]? = some o) (hn : ¬ I k) : w.heap[k]? = some o :=
  (T.mod.block k (lt_of_block h) hn).trans h
theorem Two.back {I' : Nat → Prop} {w1 : World} (T : Two I' w1 w md s mr t n) (hm : RMod I w0 w1) (hi : ∀ k, I' k → I k ∨ w0.heap.size ≤ k) : Two I w0 w md s mr t n := by
  obtain ⟨U, r, hr, hs, hu⟩ := T.ref
  have hc : ∀ k, I' k ∨ w1.heap.size ≤ k → I k ∨ w0.heap.size ≤ k := fun k h => by
    rcases h with h | h
    · exact hi k h
    · exact .inr (Nat.le_trans hm.size h)
  exact ⟨T.disk, ⟨U, r, hr, hs, fun k hk => ⟨hc k (hu k hk).1, (hu k hk).2⟩⟩, T.okd, T.okr, fun k hk => hc k (T.fpb k hk), hm.two T.mod hi⟩
/-- what of the world the reference's call may have turned -/
theorem Two.createR (T : Two I w0 w md s mr t n) (hn : n ≤ 900000) (k : ByteArray) (hk : k.size ≤ maxLen) :
    Calls Tryz.prog 43 #[.pointer (some ⟨mr.D, 0, none⟩), .string k] w fun e w' => ∃ mr', e = .returned (.int .i64 (createE t k)) ∧ mr'.D = mr.D ∧ Two I w0 w' md s mr' (createS t k) (n + 2) := by
  obtain ⟨U, r, hr, hs, hu⟩ := T.ref
  have hg := hs.good T.okr hn
  refine (createR_any U mr r k hk w hr hg.p0 hg.p1 hg.f1 hg.n1 hg.l1 hg.l2).mono ?_
  rintro e w' ⟨mr', rfl, hr', hD, hM⟩
  exact ⟨mr', by rw [hs.createE T.okr], hD, T.refd hu hr' (hs.create T.okr k) hM (T.okr.create k) (by omega)⟩
theorem Two.syncR (T : Two I w0 w md s mr t n) (hn : n ≤ 900000) (k : ByteArray) (hk : k.size ≤ maxLen) :
    Calls Tryz.prog 45 #[.pointer (some ⟨mr.D, 0, none⟩), .string k] w fun e w' => ∃ mr', e = .returned (.int .i64 (syncE t k)) ∧ mr'.D = mr.D ∧ Two I w0 w' md s mr' (syncS t k) n := by
  obtain ⟨U, r, hr, hs, hu⟩ := T.ref
  refine (syncR_any U mr r k hk w hr (hs.good T.okr hn)).mono ?_
  rintro e w' ⟨mr', rfl, hr', hD, hM⟩
  exact ⟨mr', by rw [hs.syncE T.okr], hD, T.refd hu hr' (hs.sync T.okr k) hM (T.okr.sync k) (Nat.le_refl _)⟩
/-- the bytes lie where neither disk writes -/
theorem Two.appendR (T : Two I w0 w md s mr t n) (hn : n ≤ 900000) (k : ByteArray) (hk : k.size ≤ maxLen) (a : Option Addr) (m c : Nat) (l : List UInt8) (hl : l.length = m) (hc : m ≤ c) (hcm : c ≤ maxLen) (hr : Rd w a (l.map bv)) (ha : a = none → c = 0)
    (hm : m ≤ 4611686018427387904) (hap : l ≠ [] → ∀ b off, a = some ⟨b, off, none⟩ → b < w0.heap.size ∧ ¬ I b) :
    Calls Tryz.prog 44 #[.pointer (some ⟨mr.D, 0, none⟩), .string k, .slice a m c] w fun e w' => ∃ mr', e = .returned (.int .i64 (appendE t k l)) ∧ mr'.D = mr.D ∧ Two I w0 w' md s mr' (appendS t k l) n := by
  obtain ⟨U, r, hr0, hs, hu⟩ := T.ref
  refine (appendR_any U mr r k hk a m c l w hr0 (hs.good T.okr hn) hl hc hcm hr ha (fun h b off e hU => by
    have h1 := hap h b off e
    rcases (hu b hU).1 with q | q
    · exact h1.2 q
    · omega) hm).mono ?_
  rintro e w' ⟨mr', rfl, hr', hD, hM⟩
  exact ⟨mr', by rw [hs.appendE T.okr], hD, T.refd hu hr' (hs.append T.okr k l) hM (T.okr.append k l) (Nat.le_refl _)⟩
theorem Two.fuseR (T : Two I w0 w md s mr t n) (v : Int) (hv : v ≤ 9223372036854775807) :
    Calls Tryz.prog 29 #[.pointer (some ⟨mr.D, 0, none⟩), .int .i64 v] w fun e w' => e = .returned (.int .i64 (fuseE v)) ∧ Two I w0 w' md s mr (fuseS t v) n := by
  obtain ⟨U, r, hr, hs, hu⟩ := T.ref
  refine (fuseR_any U mr r v w hr).mono ?_
  rintro e w' ⟨rfl, hr', hM, _⟩
  refine ⟨rfl, T.refd hu hr'.upSame (hs.fuse v) hM ?_ (Nat.le_refl _)⟩
  unfold fuseS
  split
  · exact T.okr
  · rename_i h
    exact T.okr.same (by show -1 ≤ v; omega) hv T.okr.r0 T.okr.r1 rfl rfl rfl rfl rfl rfl T.okr.sure
theorem Two.readR (T : Two I w0 w md s mr t n) (hn : n ≤ 900000) (k : ByteArray) (hk : k.size ≤ maxLen) :
    Calls Tryz.prog 52 #[.pointer (some ⟨mr.D, 0, none⟩), .string k] w fun e w' => ∃ v, e = .returned (.tuple #[v, .int .i64 (knownE t k)]) ∧ w'.ownsRow w.heap.size 5 1 v (readL t k).length ((readL t k).map bv) ∧ Below w.heap.size w w' := by
  obtain ⟨U, r, hr, hs, hu⟩ := T.ref
  refine (readR_any U mr r k hk w hr (hs.good T.okr hn)).mono ?_
  rintro e w' ⟨v, rfl, ho, hb⟩
  rw [hs.known T.okr, hs.readL T.okr] at *
  exact ⟨v, rfl, ho, hb⟩
theorem Two.listR (T : Two I w0 w md s mr t n) (hn : n ≤ 900000) :
    Calls Tryz.prog 46 #[.pointer (some ⟨mr.D, 0, none⟩)] w fun e w' => ∃ v, e = .returned v ∧ w'.ownsRow w.heap.size 9 1 v t.names.length (textE (entsOf t.names)) ∧ Below w.heap.size w w' := by
  obtain ⟨U, r, hr, hs, hu⟩ := T.ref
  refine (listR_any U mr r w hr (hs.good T.okr hn)).mono ?_
  rintro e w' ⟨v, rfl, ho, hb⟩
  rw [hs.now T.okr, entsOf_len] at ho
  exact ⟨v, rfl, ho, hb⟩
end Go.Proofs.Herb
