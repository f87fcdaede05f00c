/- The contract of the disk's Create. For a disk as DiskAt says. -/
import Derived.Test.YtancpdhinocbnaaGreatDoorDskT
namespace Go.Proofs.Herb
open Go.RowKit
def createE (s : DS) (k : ByteArray) : Int := if knownE s k = 0 then 8 else if knownE s k ≠ 7 then knownE s k else if 200 ≤ s.names.length then 3 else letsE s
def createS (s : DS) (k : ByteArray) : DS :=
  if knownE s k ≠ 7 ∨ 200 ≤ s.names.length then s else if letsE s ≠ 0 then letsS s else turnS { letsS s with files := s.files ++ [⟨[], 0⟩] } ⟨k, (s.files.length : Int), ⟨#[]⟩⟩
theorem lets_files (s : DS) : (letsS s).files = s.files ∧ (letsS s).names = s.names ∧ (letsS s).nclock = s.nclock ∧ (letsS s).sured = s.sured ∧ (letsS s).sclock = s.sclock ∧ (letsS s).changes = s.changes ∧ (letsS s).room = s.room := by
  unfold letsS
  split
  · exact ⟨rfl, rfl, rfl, rfl, rfl, rfl, rfl⟩
  · split
    · exact ⟨rfl, rfl, rfl, rfl, rfl, rfl, rfl⟩
    · exact ⟨rfl, rfl, rfl, rfl, rfl, rfl, rfl⟩
theorem run_len_dir (w : World) (M : Nat) (d : Dir) (c : Nat) (h : w.heap[M]? = some (.map (encDir d) c)) (ty : TypeId) : (Builtin.len_ #[47] ty #[.map (some M)]).run Tryz.prog w = .ok (.int .i64 (d.length : Int)) w := by
  rw [← len_enc]
  simp [Builtin.len_, run_underlying Tryz.underlying47, run_getMap w M _ c h, goInt]
theorem len1 {ops : Array Oper} {rest : List Oper} {o : Oper} {a : Act} {w : World} {Q : Exit → Act → World → Prop} (hgd : o.guard = none) (s : Operand) (ho : o.op = .call { callee := .builtin .len, args := #[s], argTypes := #[47] })
    (M : Nat) (d : Dir) (c : Nat) (hs : a.eval s = .map (some M)) (h : w.heap[M]? = some (.map (encDir d) c))
    (hK : wpList Tryz.prog ops Q rest (a.put o.dst (.int .i64 (d.length : Int))) w) : wpList Tryz.prog ops Q (o :: rest) a w := by
  refine wpList_plain hgd fun K hK' => ?_
  have hrun := run_len_dir w M d c h o.type
  unfold Oper.wp
  simp [execOp, ho, resolve, invoke, builtin, hs, hrun, Result.andThen]
  exact hK' _ _ hK
theorem mem_fp_fv {m : DM} {v : Value} {bs : List Value} {k : Nat} (hb : bs.filterMap Value.ownBlock = m.bs.filterMap Value.ownBlock) (h : k ∈ ({ m with fv := v, bs := bs } : DM).fp) : k ∈ m.fp ∨ v.ownBlock = some k := by
  simp only [DM.fp, List.mem_cons, List.mem_append, Option.mem_toList, hb] at h ⊢
  rcases h with h | h | h | h | h
  · exact .inl (.inl h)
  · exact .inl (.inr (.inl h))
  · exact .inl (.inr (.inr (.inl h)))
  · exact .inr h
  · exact .inl (.inr (.inr (.inr (.inr h))))
theorem fCells_append : ∀ (bs : List Value) (fs : List DF) (v : Value) (f : DF), bs.length = fs.length → fCells (bs ++ [v]) (fs ++ [f]) = fCells bs fs ++ [v, .int .i64 (f.sure : Int)]
  | [], [], _, _, _ => rfl
  | b :: bs, g :: fs, v, f, h => by simp [fCells, fCells_append bs fs v f (by simpa using h)]
  | [], _ :: _, _, _, h => by cases h
  | _ :: _, [], _, _, h => by cases h
theorem files_fin (m : DM) (s : DS) (w w1 : World) (q : Option Addr) (c : Nat) (lit : Obj) (D1 : DiskAt w m s)
    (hown : w1.ownsRow 0 68 2 (.slice q (s.files.length + 1) c) (s.files.length + 1) (fCells m.bs s.files ++ [.slice none 0 0, .int .i64 0]))
    (hg : (w.alloc lit).grownBy w1 m.fv.ownBlock) (hat : (Value.slice q (s.files.length + 1) c).ownBlock = m.fv.ownBlock ∨ (Value.slice q (s.files.length + 1) c).ownBlock = some (w.alloc lit).heap.size) :
    DiskAt (w1.setCell ⟨m.D, 3, none⟩ (.slice q (s.files.length + 1) c)) { m with fv := .slice q (s.files.length + 1) c, bs := m.bs ++ [.slice none 0 0] } { s with files := s.files ++ [⟨[], 0⟩] } ∧
    Mod m.fp ({ m with fv := .slice q (s.files.length + 1) c, bs := m.bs ++ [.slice none 0 0] } : DM).fp w (w1.setCell ⟨m.D, 3, none⟩ (.slice q (s.files.length + 1) c)) := by
  have hlt := D1.lt
  obtain ⟨n1, n2, n3, hf, hc, hb⟩ := D1.notD
  have hfb : (m.bs ++ [Value.slice none 0 0]).filterMap Value.ownBlock = m.bs.filterMap Value.ownBlock := by simp [Value.ownBlock]
  have hfne : some m.D ≠ m.fv.ownBlock := fun e => (hf m.D e.symm).1 rfl
  have hDl := lt_of_block D1.disk
  have hsz : (w.alloc lit).heap.size = w.heap.size + 1 := by simp
  have hkk : ∀ k, k < w.heap.size → some k ≠ m.fv.ownBlock → w1.heap[k]? = w.heap[k]? := fun k hk hn =>
    (hg.block k (by omega) hn).trans (heap_alloc_old w _ hk)
  have hk : ∀ k, k ∈ m.fp → k ≠ m.D → some k ≠ m.fv.ownBlock → (w1.setCell ⟨m.D, 3, none⟩ (.slice q (s.files.length + 1) c)).heap[k]? = w.heap[k]? := fun k hk hn h =>
    (heap_setCell_other _ _ _ _ hn).trans (hkk k (hlt k hk) h)
  have hat' : (Value.slice q (s.files.length + 1) c).ownBlock = m.fv.ownBlock ∨ ∃ g, (Value.slice q (s.files.length + 1) c).ownBlock = some g ∧ w.heap.size ≤ g := by
    rcases hat with e | e
    · exact .inl e
    · exact .inr ⟨_, e, by omega⟩
  have hnd := D1.nodup
  rw [DM.fp_eq] at hnd
  simp only [List.nodup_append, List.mem_append, ne_eq] at hnd
  refine ⟨⟨heap_setCell_same _ _ _ _ _ _ ((hkk _ hDl hfne).trans D1.disk), (hk _ (by simp [DM.fp]) (Ne.symm n1) (fun e => (hf _ e.symm).2.1 rfl)).trans D1.names, (hk _ (by simp [DM.fp]) (Ne.symm n2) (fun e => (hf _ e.symm).2.2 rfl)).trans D1.sured, ?_, ?_, ?_, own_keep D1.changes (fun g hg => hk g (mem_fp_c hg) (hc g hg).1 ?_), ?_⟩, ?_⟩
  · dsimp only
    rw [List.length_append, fCells_append _ _ _ _ D1.len]
    refine own_keep hown fun g hgo => heap_setCell_other _ _ _ _ ?_
    rcases hat' with e | ⟨g', e, hg'⟩
    · rw [e] at hgo; intro e2; subst e2; exact hfne hgo.symm
    · rw [e] at hgo; have := Option.some.inj hgo; show g ≠ m.D; omega
  · simp [D1.len]
  · intro i v f hv hff
    by_cases hi : i < m.bs.length
    · have hi2 : i < s.files.length := by rw [← D1.len]; exact hi
      rw [List.getElem?_append_left hi] at hv
      rw [List.getElem?_append_left hi2] at hff
      refine own_keep (D1.bytes i v f hv hff) (fun g hg => hk g (mem_fp_b hv hg) (hb i v g hv hg).1 ?_)
      intro e
      exact hnd.2.1.2.2 g (by simp [← e]) g (.inr (List.mem_filterMap.2 ⟨v, List.mem_of_getElem? hv, hg⟩)) rfl
    · have hi2 : s.files.length ≤ i := by rw [← D1.len]; omega
      rw [List.getElem?_append_right (by omega)] at hv
      rw [List.getElem?_append_right hi2] at hff
      obtain ⟨h1, rfl⟩ := List.getElem?_eq_some_iff.1 hv
      obtain ⟨h2, rfl⟩ := List.getElem?_eq_some_iff.1 hff
      simp only [List.getElem_singleton]
      exact World.ownsRow_nil _ _ _ _
  · intro e
    exact hnd.2.1.2.2 g (by simp [← e]) g (.inl (by simp [hg])) rfl
  · refine nodup_fv D1.nodup hfb ?_
    rcases hat' with e | ⟨g', e, hg'⟩
    · exact .inl e
    · exact .inr ⟨g', e, fun h => by have := hlt g' h; omega⟩
  · refine ⟨hg.os, hg.tape, hg.output, ?_, fun k hk hn => ?_, fun k hk => ?_⟩
    · have := hg.size; simp; omega
    · exact (heap_setCell_other _ _ _ _ (fun e => hn (by rw [e]; simp [DM.fp]))).trans (hkk k hk (fun e => hn (mem_fp_f e.symm)))
    · rcases mem_fp_fv hfb hk with h | h
      · exact .inl h
      · rcases hat' with e | ⟨g', e, hg'⟩
        · exact .inl (mem_fp_f (e.symm.trans h))
        · rw [e] at h; cases h; exact .inr hg'
set_option maxRecDepth 100000 in
set_option maxHeartbeats 800000 in
theorem create_any (m : DM) (s : DS) (k : ByteArray) (w : World) (h : DiskAt w m s) (hk : k.size ≤ maxLen) (h1 : -1 ≤ s.fuse) (h2 : s.fuse ≤ 9223372036854775807) (hl1 : s.files.length ≤ 1000000000) (hl2 : s.changes.length ≤ 1000000000) (hl3 : s.names.length ≤ 1000000000) :
    Calls Tryz.prog 12 #[.pointer (some ⟨m.D, 0, none⟩), .string k] w fun e w' => ∃ m', e = .returned (.int .i64 (createE s k)) ∧ DiskAt w' m' (createS s k) ∧ m'.D = m.D ∧ Mod m.fp m'.fp w w' := by
  obtain ⟨_, _, _, c3, c4, _, _⟩ := h.cells
  have hnm := h.names
  have H := hid h
  clear h
  have hE : createE s k = if knownE s k = 0 then 8 else if knownE s k ≠ 7 then knownE s k else if 200 ≤ s.names.length then 3 else letsE s := rfl
  have hS : createS s k = if knownE s k ≠ 7 ∨ 200 ≤ s.names.length then s else if letsE s ≠ 0 then letsS s else turnS { letsS s with files := s.files ++ [⟨[], 0⟩] } ⟨k, (s.files.length : Int), ⟨#[]⟩⟩ := rfl
  by_cases q1 : knownE s k = 7
  · rw [q1] at hE hS
    simp only [Int.reduceEq, if_false, ne_eq, not_true_eq_false, false_or] at hE hS
    have Q1 := hid q1
    clear q1
    by_cases q2 : 200 ≤ s.names.length
    · rw [if_pos q2] at hE hS
      have b2 : decide ((200 : Int) ≤ (s.names.length : Int)) = true := by simp; omega
      clear q2
      have hE := hid hE
      have hS := hid hS
      go_enter Tryz.func12, Tryz.ntmps12
      go_wp2_with (first | (go_at_call 46; refine (known_any m s k hk _ H.out).mono ?_; rintro e w' ⟨rfl, rfl⟩; rw [Q1.out]) | (refine len1 rfl (.tmp 25) rfl m.M s.names s.nclock rfl H.out.names ?_))
      go_ret
      exact ⟨m, by rw [hE.out]; rfl, by rw [hS.out]; exact H.out, rfl, Mod.refl _ _⟩
    · rw [if_neg q2] at hE hS
      have b2 : decide ((200 : Int) ≤ (s.names.length : Int)) = false := by simp; omega
      clear q2
      by_cases q3 : letsE s = 0
      · rw [q3, if_neg (fun h => h rfl)] at hS
        rw [q3] at hE
        have Q3 := hid q3
        have hE := hid hE
        have hS := hid hS
        clear q3
        obtain ⟨l1, l2, l3, l4, l5, l6, l7⟩ := lets_files s
        have L := hid (And.intro l1 l6)
        clear l1 l2 l3 l4 l5 l6 l7
        go_enter Tryz.func12, Tryz.ntmps12
        go_wp2_with (first
          | (go_at_call 46; refine (known_any m s k hk _ H.out).mono ?_; rintro e w' ⟨rfl, rfl⟩; rw [Q1.out])
          | (refine len1 rfl (.tmp 25) rfl m.M s.names s.nclock rfl H.out.names ?_)
          | (go_at_call 47; refine (lets_any m s _ H.out h1 h2).mono ?_; rintro e w1 ⟨rfl, hD1, hM1⟩; rw [Q3.out]; have hd1 := hD1.disk; have d3 := cell_of_row w1 m.D 3 _ _ _ hd1; have g3 := frozen_of_row w1 m.D 3 _ _ hd1; have hDl := lt_of_block hd1; clear hd1; have hD1 := hid hD1; have hM1 := hid hM1)
          | (refine wpList_append_at rfl (.tmp 37) (.tmp 39) 48 rfl 0 68 _ 2 32 Tryz.underlying48 info111 rfl (by decide) m.fv s.files.length (fCells m.bs s.files) rfl (by rw [← L.out.1]; exact own_below hD1.out.files ((Below.refl _ _).alloc (Nat.le_refl _) _)) (some ⟨w1.heap.size, 0, none⟩) 1 1 [.slice none 0 0, .int .i64 0] rfl (fun h => by cases h) rfl (Rd.new _ _ _) (by simp [Value.oneCell']) (by unfold maxLen; omega) (by omega) (by simp) ?_; intro v2 w2 hown2 hg2 hat2; obtain ⟨q2, k2, rfl, hqk, hqm, hqn⟩ := own_shape hown2; clear hqm hqn; have hx2 := (hg2.block m.D (by simp; omega) (fun e => (H.out.notD.2.2.2.1 m.D e.symm).1 rfl)).trans ((heap_alloc_old w1 _ hDl).trans hD1.out.disk); have dd3 := cell_of_row w2 m.D 3 _ _ _ hx2; have gg3 := frozen_of_row w2 m.D 3 _ _ hx2; clear hx2; have hF := files_fin m (letsS s) w1 w2 q2 k2 _ hD1.out (by rw [L.out.1]; exact hown2) hg2 (by rw [L.out.1]; exact hat2); rw [L.out.1] at hF; have d3' := hF.1.cells.2.2.2.1; dsimp only at d3'; have hF := hid hF)
          | (go_at_call 48; refine (turns_any { m with fv := .slice q2 (s.files.length + 1) k2, bs := m.bs ++ [.slice none 0 0] } { letsS s with files := s.files ++ [⟨[], 0⟩] } ⟨k, (s.files.length : Int), ⟨#[]⟩⟩ _ hF.out.1 (by rw [L.out.2]; exact hl2)).mono ?_; rintro e w3 ⟨v3, rfl, hD3, hM3⟩; have hD3 := hid hD3; have hM3 := hid hM3))
        go_ret
        exact ⟨⟨m.D, m.M, m.S, .slice q2 (s.files.length + 1) k2, v3, m.bs ++ [.slice none 0 0]⟩, by rw [hE.out]; rfl, by rw [hS.out]; exact hD3.out, rfl, (hM1.out.trans hF.out.2).trans hM3.out⟩
      · have q4 : letsE s = 10 := by unfold letsE at q3 ⊢; split at q3 <;> simp_all
        rw [if_pos q3] at hS
        rw [q4] at hE
        have Q3 := hid q4
        have hE := hid hE
        have hS := hid hS
        clear q3 q4
        go_enter Tryz.func12, Tryz.ntmps12
        go_wp2_with (first
          | (go_at_call 46; refine (known_any m s k hk _ H.out).mono ?_; rintro e w' ⟨rfl, rfl⟩; rw [Q1.out])
          | (refine len1 rfl (.tmp 25) rfl m.M s.names s.nclock rfl H.out.names ?_)
          | (go_at_call 47; refine (lets_any m s _ H.out h1 h2).mono ?_; rintro e w1 ⟨rfl, hD1, hM1⟩; rw [Q3.out]; have hD1 := hid hD1; have hM1 := hid hM1))
        go_ret
        exact ⟨m, by rw [hE.out]; rfl, by rw [hS.out]; exact hD1.out, rfl, hM1.out⟩
  · rw [if_pos (.inl q1)] at hS
    have hS := hid hS
    by_cases q2 : knownE s k = 0
    · rw [if_pos q2] at hE
      have hE := hid hE
      have Q2 := hid q2
      clear q1 q2
      go_enter Tryz.func12, Tryz.ntmps12
      go_wp2_with (go_at_call 46; refine (known_any m s k hk _ H.out).mono ?_; rintro e w' ⟨rfl, rfl⟩; rw [Q2.out])
      go_ret
      exact ⟨m, by rw [hE.out]; rfl, by rw [hS.out]; exact H.out, rfl, Mod.refl _ _⟩
    · rw [if_neg q2, if_pos q1] at hE
      have hE := hid hE
      have b1 : (knownE s k == 0) = false := by simpa using q2
      have b2 : (knownE s k == 7) = false := by simpa using q1
      have b3 : (knownE s k != 7) = true := by simpa using q1
      clear q1 q2
      go_enter Tryz.func12, Tryz.ntmps12
      go_wp2_with (go_at_call 46; refine (known_any m s k hk _ H.out).mono ?_; rintro e w' ⟨rfl, rfl⟩)
      go_ret
      exact ⟨m, by rw [hE.out]; rfl, by rw [hS.out]; exact H.out, rfl, Mod.refl _ _⟩
end Go.Proofs.Herb
