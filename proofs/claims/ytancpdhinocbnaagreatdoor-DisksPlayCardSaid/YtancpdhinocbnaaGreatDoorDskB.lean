/- The contract of the disk's Append. For a disk as DiskAt says. -/
import Derived.Test.YtancpdhinocbnaaGreatDoorDskA
namespace Go.Proofs.Herb
open Go.RowKit
def appendE (s : DS) (k : ByteArray) (b : List UInt8) : Int := if knownE s k ≠ 0 then knownE s k else if s.room - (usedN s : Int) < (b.length : Int) then 9 else letsE s
def appendS (s : DS) (k : ByteArray) (b : List UInt8) : DS :=
  if knownE s k ≠ 0 ∨ s.room - (usedN s : Int) < (b.length : Int) then s else if letsE s ≠ 0 then letsS s else { letsS s with files := s.files.modify ((look s.names k).getD 0) fun f => ⟨f.b ++ b, f.sure⟩ }
theorem modify_set {l : List DF} {i : Nat} (hi : i < l.length) (f : DF → DF) : l.modify i f = l.set i (f l[i]) := by
  apply List.ext_getElem?
  intro j
  rw [List.getElem?_modify, List.getElem?_set]
  by_cases h : i = j
  · subst h; simp [hi]
  · simp [h]
theorem Rd.mod {w w' : World} {a : Option Addr} {xs : List Value} {fp fp' : List Nat} (h : Rd w a xs) (hm : Mod fp fp' w w') (ha : ∀ b off, a = some ⟨b, off, Option.none⟩ → b ∉ fp) : Rd w' a xs := by
  rcases h with h | ⟨b, off, rfl, h⟩
  · exact .inl h
  · refine .inr ⟨b, off, rfl, fun j u hu => ?_⟩
    have hc := h j u hu
    rw [← hc]
    refine World.cell?_of_block (hm.block b (Rd.lt (xs := [u]) (.inr ⟨b, off + j, rfl, fun i v hi => by cases i with | zero => simpa using (by simpa using hi : u = v) ▸ hc | succ i => cases hi⟩) rfl (by simp)) (ha b off rfl))
theorem rd_or {w : World} {a : Option Addr} {l : List UInt8} (h : l ≠ [] → Rd w a (l.map bv)) : Rd w a (l.map bv) := by
  by_cases hl : l = []
  · exact .inl (by rw [hl]; rfl)
  · exact h hl
set_option maxRecDepth 100000 in
set_option maxHeartbeats 1600000 in
theorem append_any (m : DM) (s : DS) (k : ByteArray) (hk : k.size ≤ maxLen) (a : Option Addr) (n c : Nat) (l : List UInt8) (w : World) (h : DiskAt w m s) (hd : DirOk s.names s.nclock s.files.length) (hu : usedN s ≤ 4611686018427387904) (h1 : -1 ≤ s.fuse) (h2 : s.fuse ≤ 9223372036854775807) (hr0 : 0 ≤ s.room) (hr1 : s.room ≤ 4194304)
    (hn : l.length = n) (hc : n ≤ c) (hcm : c ≤ maxLen) (hr : Rd w a (l.map bv)) (ha : a = none → c = 0) (hfp : l ≠ [] → ∀ b off, a = some ⟨b, off, none⟩ → b ∉ m.fp) (hb : ∀ f ∈ s.files, f.b.length ≤ 100000000000) :
    Calls Tryz.prog 13 #[.pointer (some ⟨m.D, 0, none⟩), .string k, .slice a n c] w fun e w' => ∃ m', e = .returned (.int .i64 (appendE s k l)) ∧ DiskAt w' m' (appendS s k l) ∧ m'.D = m.D ∧ Mod m.fp m'.fp w w' := by
  have hE : appendE s k l = if knownE s k ≠ 0 then knownE s k else if s.room - (usedN s : Int) < (l.length : Int) then 9 else letsE s := rfl
  have hS : appendS s k l = if knownE s k ≠ 0 ∨ s.room - (usedN s : Int) < (l.length : Int) then s else if letsE s ≠ 0 then letsS s else { letsS s with files := s.files.modify ((look s.names k).getD 0) fun f => ⟨f.b ++ l, f.sure⟩ } := rfl
  rw [hn] at hE hS
  have Hn := hid hn
  have Hr := hid hr
  have Ha := hid ha
  have Hfp := hid hfp
  have HD := hid hd
  have Hb := hid hb
  have hnm : n ≤ 9223372036854775807 := by unfold maxLen at hcm; omega
  clear hn hr ha hfp hd hb hcm
  by_cases q : knownE s k = 0
  · obtain ⟨i, hi, hkn, hil⟩ := known_ok q HD.out
    rw [q] at hE hS
    simp only [ne_eq, not_true_eq_false, if_false, false_or] at hE hS
    have Q := hid q
    have Hkn := hid hkn
    have c0 := h.cells.1
    have H := hid h
    clear q hkn h
    have hw : IntKind.i64.wrap (s.room - (usedN s : Int)) = s.room - (usedN s : Int) := by rw [IntKind.wrap_i64]; omega
    obtain ⟨full, hfl⟩ : ∃ f, f = decide (s.room - (usedN s : Int) < (n : Int)) := ⟨_, rfl⟩
    go_enter Tryz.func13, Tryz.ntmps13
    go_upto_region 4 with (go_at_call 46; refine (known_any m s k hk _ H.out).mono ?_; rintro e w' ⟨rfl, rfl⟩; rw [Q.out, Hkn.out]; dsimp only)
    go_cut [20] (fun s20 wc => s20 = .bool full ∧ Below w.heap.size w wc)
    case first =>
      go_region_with (go_at_call 21; refine (used_any m s w.drew (H.out.below (Below.refl _ _).drew) HD.out hu).mono ?_; rintro e w1 ⟨rfl, hb1⟩; have c0' := (H.out.below (Below.trans (Below.refl _ _).drew hb1)).cells.1; have hb1 := hid hb1; dsimp only)
      all_goals
        go_wp2_with fail
        go_meet
        exact ⟨by rw [hfl], (Below.refl _ _).drew.trans hb1.out⟩
    case rest =>
      obtain ⟨rfl, hb⟩ := hcut
      have H1 := hid (H.out.below hb)
      have HB := hid (Mod.of_below m.fp hb)
      clear hb c0 hw
      cases full
      · have hf : ¬ (s.room - (usedN s : Int) < (n : Int)) := by simpa using hfl.symm
        rw [if_neg hf] at hE hS
        have hnb : n ≤ 4194304 := by omega
        clear hf hfl
        by_cases q3 : letsE s = 0
        · rw [q3, if_neg (fun h => h rfl), hi, Option.getD_some] at hS
          rw [q3] at hE
          have hE := hid hE
          have hS := hid hS
          have Q3 := hid q3
          clear q3 hi
          go_upto_region 9 with (go_at_call 47; refine (lets_any m s _ H1.out h1 h2).mono ?_; rintro e w1 ⟨rfl, hD1, hM1⟩; rw [Q3.out]; have hD1 := hid hD1; have hM1 := hid hM1; dsimp only)
          obtain ⟨l1, _⟩ := lets_files s
          obtain ⟨g, cf, q0, k0, hfv, hc1, hbi, hk1, hk2, hqn, hce, _, _, hfr, hgl⟩ := hD1.out.file (i := i) (by rw [l1]; exact hil)
          have hof := hD1.out.bytes i _ _ hbi (List.getElem?_eq_getElem (by rw [l1]; exact hil))
          have hbl := Hb.out _ (List.getElem_mem hil)
          simp only [l1] at hfv hc1 hbi hk1 hce hof
          obtain ⟨fl, hfl⟩ : ∃ fl, fl = s.files[i].b := ⟨_, rfl⟩
          obtain ⟨nf, hnf⟩ : ∃ nf, nf = fl.length := ⟨_, rfl⟩
          rw [← hfl, ← hnf] at hbi hk1 hce hof
          rw [← hfl, ← hnf] at hbl
          have hdk := hD1.out.disk
          have d3 := hD1.out.cells.2.2.2.1
          rw [hfv] at d3
          have hrd := rd_or (l := l) fun hl => (Hr.out.mod HB.out (Hfp.out hl)).mod hM1.out (Hfp.out hl)
          have hown0 := hid hof
          have Hrd := hid hrd
          have Hdk := hid hdk
          have hvne : some m.D ≠ (Value.slice q0 nf k0).ownBlock := fun e => ((H1.out.notD.2.2.2.2.2 i _ m.D hbi e.symm)).1 rfl
          have Hvne := hid hvne
          have hgo : m.fv.ownBlock = some g := by rw [hfv]; rfl
          have hgne : some g ≠ (Value.slice q0 nf k0).ownBlock := fun e => by
            have hnd := hD1.out.nodup
            rw [DM.fp_eq] at hnd
            simp only [List.nodup_append, List.mem_append, ne_eq] at hnd
            exact hnd.2.1.2.2 g (by simp [hgo]) g (.inr (List.mem_filterMap.2 ⟨_, List.mem_of_getElem? hbi, e.symm⟩)) rfl
          have Hgne := hid hgne
          have hgh : ∃ cs, w1.heap[g]? = some (.cells cs 68 (0, 0)) := by
            have h := hD1.out.files.2
            rw [hfv] at h
            simp only [l1] at h
            rcases h with ⟨h0, _⟩ | ⟨g', cap, cur, hv, _, hg, _⟩
            · cases h0
            · cases hv; exact ⟨cur, hg⟩
          obtain ⟨cs, hgh⟩ := hgh
          have Hgh := hid hgh
          have hcs : cs[i * 2]? = some (.slice q0 nf k0) := by rw [← hce]; exact (cell_of_row w1 g (i * 2) _ _ _ hgh).symm
          have Hbi := hid hbi
          have Hfv := hid hfv
          have Hce := hid hce
          have Hnf := hid hnf
          have Hfl := hid hfl
          clear hof hrd hdk hvne hgne hgh hbi hfv hnf hfl
          have i1 : (i : Int) < (s.files.length : Int) := by omega
          go_region_law (refine step_append_at rfl (.tmp 48) (.tmp 49) 31 rfl 0 5 (.int .u8 0) 1 1 Tryz.underlying31 infoU8 rfl (by decide) (.slice q0 nf k0) nf (fl.map bv) rfl (own_below hown0.out (Below.refl _ _).drew) a n c (l.map bv) rfl Ha.out (by simp [Hn.out]) (Hrd.out.below (Below.refl _ _).drew) bv_one (by unfold maxLen; omega) (by omega) (by simp) ?_; intro v2 w2 hown2 hg2 hat2; obtain ⟨q2, k2, rfl, hqk, hqm, hqn2⟩ := own_shape hown2; clear hqm hqn2; have hx2 := (hg2.block m.D (lt_of_block Hdk.out) Hvne.out).trans Hdk.out; have dd3 := cell_of_row w2 m.D 3 _ _ _ hx2; rw [Hfv.out] at dd3; have hy2 := (hg2.block g hgl Hgne.out).trans Hgh.out; have gg := (cell_of_row w2 g (i * 2) _ _ _ hy2).trans hcs; have gf := frozen_of_row w2 g (i * 2) _ _ hy2; clear hx2 hy2; have hown2 := hid hown2; have hg2 := hid hg2; have hat2 := hid hat2)
          all_goals
            go_wp2
            go_ret
            have hF := append_fin m (letsS s) i (by rw [l1]; exact hil) w1 w2 g cf _ _ l hD1.out (by rw [Hfv.out, l1]) Hbi.out (by simp only [l1]; rw [← Hfl.out, List.length_append, ← Hnf.out, Hn.out]; simpa using hown2.out) hg2.out hat2.out
            refine ⟨⟨m.D, m.M, m.S, m.fv, m.cv, m.bs.set i (.slice q2 (nf + n) k2)⟩, by rw [hE.out]; rfl, by rw [hS.out]; have h0 := hF.1; rw [modify_set hil]; simp only [l1] at h0; exact h0, rfl, (HB.out.trans hM1.out).trans hF.2⟩
        · have q4 : letsE s = 10 := by unfold letsE at q3 ⊢; split at q3 <;> simp_all
          rw [if_pos q3] at hS
          rw [q4] at hE
          have Q3 := hid q4
          have hE := hid hE
          have hS := hid hS
          clear q3 q4
          go_wp2_with (go_at_call 47; refine (lets_any m s _ H1.out h1 h2).mono ?_; rintro e w1 ⟨rfl, hD1, hM1⟩; rw [Q3.out]; have hD1 := hid hD1; have hM1 := hid hM1)
          go_ret
          exact ⟨m, by rw [hE.out]; rfl, by rw [hS.out]; exact hD1.out, rfl, HB.out.trans hM1.out⟩
      · have hf : (s.room - (usedN s : Int) < (n : Int)) := by simpa using hfl.symm
        rw [if_pos hf] at hE hS
        have hE := hid hE
        have hS := hid hS
        clear hf hfl
        go_wp2
        go_ret
        exact ⟨m, by rw [hE.out]; rfl, by rw [hS.out]; exact H1.out, rfl, HB.out⟩
  · rw [if_pos q] at hE
    rw [if_pos (.inl q)] at hS
    have b1 : (knownE s k != 0) = true := by simpa using q
    have hE := hid hE
    have hS := hid hS
    have H := hid h
    clear h q
    go_enter Tryz.func13, Tryz.ntmps13
    go_wp2_with (go_at_call 46; refine (known_any m s k hk w H.out).mono ?_; rintro e w' ⟨rfl, rfl⟩)
    go_ret
    exact ⟨m, by rw [hE.out]; rfl, by rw [hS.out]; exact H.out, rfl, Mod.refl _ _⟩
end Go.Proofs.Herb
