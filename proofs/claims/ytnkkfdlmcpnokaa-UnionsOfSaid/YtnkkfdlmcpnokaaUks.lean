
/- A range over an iterator that itself ranges over a map: the law of control; maps.Keys at facts by their times, slices.AppendSeq, Collect, Sorted at uint32: the keys, sorted, in new memory. -/
import Derived.Test.YtnkkfdlmcpnokaaRgs
import Derived.Test.YtnkkfdlmcpnokaaMks
import Derived.Test.YtnkkfdlmcpnokaaUmp
import Derived.Test.YtnkkfdlmcpnokaaUnp
import Derived.Test.YtnkkfdlmcpnokaaSui
import Derived.OwnWalkIn
import Derived.TacticsInMore
import Derived.RegionIn
import Derived.LoopNIn
import Derived.LoopIn
import Derived.Shelf.AbstractIn
namespace Go.Proofs.Herb
open Go.RowKit
section
variable {F : Fence} {n : Nat} {P : Program}
theorem wpIn_range_walk {α : Type} {g : Operand} {ps : Array Tmp} {assign body : Code} {Q : Exit → Act → World → Prop} {a : Act} {w : World}
    (hro : F.round = none) (h1 : 1 ≤ n) {gf : Nat} {lb : Array Value} (hg : a.eval g = .func (.func gf) #[] lb) (hFg : F.fn gf) (eg : ∀ args w, (callFunc gf args).run P w = .ok (.enter gf args) w)
    {encs : α → Array Value} (hps : ∀ x, (encs x).size = ps.size) {Rw : World → World → Prop} {Gd : List α → α → World → Prop} {Kp : World → World → Prop} {S : List α → Prop} {base : Nat} {Ok : World → Prop}
    (hseq : SeqGood F (n - 1) P gf lb encs Rw Gd Kp S base Ok) (hbase : base ≤ w.heap.size) (hOk : ∀ W, Below w.heap.size w W → Ok W)
    (hKt : ∀ A B C, Kp A B → Kp B C → Kp A C) (hKb : ∀ (W : World) (l : Nat) (o o' : Obj), w.heap.size ≤ l → W.heap[l]? = some o → o.isWalk = false → Kp W (W.putObj l o'))
    (hRk : ∀ A B, Rw A B → ∀ (k : Nat) (o : Obj), A.heap[k]? = some o → o.isWalk = false → B.heap[k]? = some o)
    (I : List α → World → Prop) (Ix : Code → List α → World → Prop) (hIb : ∀ s, Stays (I s)) (hIr : ∀ s A B, I s A → Rw A B → I s B) (hXr : ∀ c s A B, Ix c s A → Rw A B → Ix c s B) (hIp : ∀ s, Turns w.heap.size (I s)) (hXp : ∀ c s, Turns w.heap.size (Ix c s)) (hGp : ∀ s x, Turns w.heap.size (Gd s x)) (h0 : I [] w) (a₁ : α → Act)
    (hassign : ∀ (l : Nat) (x : α) (W : World) (K : Act → World → Prop), K (a₁ x) W →
      assign.wpIn (F.inRound l) (n - 1 - 1) P (Exit.then K (fun _ _ _ => False)) { tmps := (ps.zip (encs x)).foldl (fun t (p, v) => t.setIfInBounds p v) a.tmps, defers := [] } W)
    (hbody : ∀ (l : Nat) (pre : List α) (x : α) (W : World), w.heap.size ≤ l → I pre W → Gd pre x W → body.wpIn (F.inRound l) (n - 1 - 1) P (Goes w.heap.size Kp I Ix (pre ++ [x]) W) (a₁ x) W)
    (hdone : ∀ (D : Nat) (xs : List α) (W : World), w.heap.size ≤ D → S xs → I xs W → W.heap[D]? = some (.deferred (some [])) → Q .normal { a with defers := { target := .collected D, args := #[] } :: a.defers } W)
    (hstop : ∀ (D : Nat) (c : Code) (pre : List α) (W : World), w.heap.size ≤ D → Ix c pre W → W.heap[D]? = some (.deferred (some [])) → c.wpIn F n P Q { a with defers := { target := .collected D, args := #[] } :: a.defers } W) :
    (Code.rangeFunc g ps assign body).wpIn F n P Q a w := by
  refine wpIn_rangeFunc fun fn hfn => ?_
  rw [hro]
  obtain ⟨rec, hrec⟩ : ∃ rec : LoopState → Option Code → Loop, rec = fun st pe => { state := st, pending := pe, fn, tmps := a.tmps, params := ps, assign, body, defers := w.heap.size } := ⟨_, rfl⟩
  obtain ⟨V, hV⟩ : ∃ V, (w.alloc (.deferred (some []))).alloc (.loop (rec .ready none)) = V := ⟨_, rfl⟩
  have hVb : Below w.heap.size w V := by rw [← hV]; exact ((Below.refl _ w).alloc (Nat.le_refl _) _).alloc (by simp) _
  have hVD : V.heap[w.heap.size]? = some (.deferred (some [])) := by rw [← hV]; exact (Below.heap_alloc _ _ _ (by simp)).trans (World.alloc_heap_new w _)
  have hVL : V.heap[w.heap.size + 1]? = some (.loop (rec .ready none)) := by
    rw [← hV]; have h := World.alloc_heap_new (w.alloc (.deferred (some []))) (.loop (rec .ready none))
    rwa [World.size_alloc] at h
  have lt_of : ∀ {W : World} {k : Nat} {o : Obj}, W.heap[k]? = some o → k < W.heap.size := fun h => (Array.getElem?_eq_some_iff.1 h).1
  have hVs : w.heap.size ≤ V.heap.size := hVb.size
  refine ⟨w.heap.size + 1, [{ target := .collected w.heap.size, args := #[] }], V, { target := .fn (.func gf) lb, args := #[.func (.yield (w.heap.size + 1)) #[] #[]] }, V, gf,
    #[.func (.yield (w.heap.size + 1)) #[] #[]] ++ lb, V, ?_, ?_, ?_, ?_, fun _ => h1, ?_⟩
  · rw [← hV, hrec]; exact run_enterLoop_outer _ _ _ _ _
  · simp only [resolve, hg]; simp [go_sem]
  · intro f' hf'; simp [Target.leads] at hf'; subst hf'; exact hFg
  · simp [invoke, go_sem, eg]
  · refine (hseq (w.heap.size + 1)
      (fun s W => I s W ∧ W.heap[w.heap.size + 1]? = some (.loop (rec .ready none)) ∧ W.heap[w.heap.size]? = some (.deferred (some [])))
      (fun s W => ∃ c, Ix c s W ∧ W.heap[w.heap.size + 1]? = some (.loop (rec .done (some c))) ∧ W.heap[w.heap.size]? = some (.deferred (some [])))
      V (by omega) (hOk V hVb) ?_ ?_ ?_ ⟨hIb _ _ _ h0 hVb, hVL, hVD⟩).mono ?_
    · intro s A B h hr
      have k := hRk A B hr
      exact ⟨hIr s A B h.1 hr, k _ _ h.2.1 rfl, k _ _ h.2.2 rfl⟩
    · rintro s A B ⟨c, hc, hl, hd⟩ hr
      have k := hRk A B hr
      exact ⟨c, hXr c s A B hc hr, k _ _ hl rfl, k _ _ hd rfl⟩
    · intro pre x W hJW hgd
      have hy := run_yield (P := P) (args := encs x) hJW.2.1 (by rw [hrec]; exact hps x)
      rw [hrec] at hy
      refine ⟨fn, _, assign, body, hy, roundIn_of_wpIn hfn (hassign _ x W _ ?_)⟩
      clear hy
      refine ⟨_, run_beginRound hJW.2.1 (by rw [hrec]), ?_⟩
      obtain ⟨W2, hW2⟩ : ∃ W2, W.putObj (w.heap.size + 1) (.loop { rec .ready none with state := .busy }) = W2 := ⟨_, rfl⟩
      have hL2 : W2.heap[w.heap.size + 1]? = some (.loop { rec .ready none with state := .busy }) := by rw [← hW2]; exact World.putObj_heap_same (lt_of hJW.2.1)
      have hD2 : W2.heap[w.heap.size]? = some (.deferred (some [])) := by rw [← hW2]; exact (World.putObj_heap_other (by omega)).trans hJW.2.2
      have hI2 : I pre W2 := by rw [← hW2]; exact hIp _ _ _ _ _ hJW.1 (by omega) hJW.2.1 rfl
      have hG2 : Gd pre x W2 := by rw [← hW2]; exact hGp _ _ _ _ _ _ hgd (by omega) hJW.2.1 rfl
      have hK2 : Kp W W2 := by rw [← hW2]; exact hKb _ _ _ _ (by omega) hJW.2.1 rfl
      rw [hW2]
      have fin : ∀ (jump : Option Code) (W3 : World), KeepsFrom w.heap.size W2 W3 →
          (Instr.endRound (w.heap.size + 1) jump).run P W3 = .ok (.bool jump.isNone) (W3.putObj (w.heap.size + 1) (.loop (rec (if jump.isNone then .ready else .done) jump))) ∧
          W3.heap[w.heap.size + 1]? = some (.loop { rec .ready none with state := .busy }) ∧
          (W3.putObj (w.heap.size + 1) (.loop (rec (if jump.isNone then .ready else .done) jump))).heap[w.heap.size + 1]? = some (.loop (rec (if jump.isNone then .ready else .done) jump)) ∧
          (W3.putObj (w.heap.size + 1) (.loop (rec (if jump.isNone then .ready else .done) jump))).heap[w.heap.size]? = some (.deferred (some [])) := fun jump W3 hk3 => by
        have hl3 := hk3.same _ _ (by omega) hL2 rfl
        have := run_endRound (P := P) jump hl3
        rw [hrec] at this ⊢
        exact ⟨this, by rw [hrec] at hl3; exact hl3, World.putObj_heap_same (lt_of hl3), (World.putObj_heap_other (by omega)).trans (hk3.same _ _ (Nat.le_refl _) hD2 rfl)⟩
      refine wpIn_mono (hbody _ pre x W2 (by omega) hI2 hG2) fun e a3 W3 hp => ?_
      cases e with
      | normal =>
        obtain ⟨hk, hkp, hi⟩ := hp
        obtain ⟨hr, hl3, hl4, hk4⟩ := fin none W3 hk
        exact ⟨_, _, hr, .inl ⟨rfl, ⟨hIp _ _ _ _ _ hi (by omega) hl3 rfl, hl4, hk4⟩, hKt _ _ _ (hKt _ _ _ hK2 hkp) (hKb _ _ _ _ (by omega) hl3 rfl)⟩⟩
      | ret =>
        obtain ⟨hk, hi⟩ := hp
        obtain ⟨hr, hl3, hl4, hk4⟩ := fin (some .ret) W3 hk
        exact ⟨_, _, hr, .inr ⟨rfl, .ret, hXp _ _ _ _ _ _ hi (by omega) hl3 rfl, hl4, hk4⟩⟩
      | exit id =>
        obtain ⟨hk, hi⟩ := hp
        obtain ⟨hr, hl3, hl4, hk4⟩ := fin (some (.exit id)) W3 hk
        exact ⟨_, _, hr, .inr ⟨rfl, .exit id, hXp _ _ _ _ _ _ hi (by omega) hl3 rfl, hl4, hk4⟩⟩
      | _ => exact hp.elim
    · rintro e W ⟨⟨v, rfl⟩, (⟨xs, hS, hi, hl, hd⟩ | ⟨pre, c, hi, hl, hd⟩)⟩
      · exact ⟨none, _, by have := run_endLoop (P := P) hl (by rw [hrec]; simp); rw [hrec] at this; exact this, hdone _ xs _ (Nat.le_refl _) hS (hIp _ _ _ _ _ hi (by omega) hl rfl) ((World.putObj_heap_other (by omega)).trans hd)⟩
      · exact ⟨some c, _, by have := run_endLoop (P := P) hl (by rw [hrec]; simp); rw [hrec] at this; exact this, hstop _ c pre _ (Nat.le_refl _) (hXp _ _ _ _ _ _ hi (by omega) hl rfl) ((World.putObj_heap_other (by omega)).trans hd)⟩
end
/-- a step of an iterator that walks a map: new blocks, and a turn of a walk's object; below a place nothing is turned -/
structure Stp (b : Nat) (A B : World) : Prop where
  os : B.os = A.os
  tape : B.tape = A.tape
  output : B.output = A.output
  size : A.heap.size ≤ B.heap.size
  same : ∀ (k : Nat) (o : Obj), A.heap[k]? = some o → o.isWalk = false → B.heap[k]? = some o
  below : ∀ k, k < b → B.heap[k]? = A.heap[k]?
theorem Stp.of_below {b : Nat} {A B : World} (hb : b ≤ A.heap.size) (h : Below A.heap.size A B) : Stp b A B :=
  ⟨h.os, h.tape, h.output, h.size, fun k o ho _ => (h.block k (lt_of_block ho)).trans ho, fun k hk => h.block k (by omega)⟩
theorem Stp.of_grown {b r : Nat} {A B : World} (hr : b ≤ r) (h : A.grownBy B (some r)) (hw : ∃ o, A.heap[r]? = some o ∧ o.isWalk = true) (hb : b ≤ A.heap.size) : Stp b A B :=
  ⟨h.os, h.tape, h.output, h.size, fun k o ho hn => by
    rw [h.block k (lt_of_block ho) (fun e => by cases e; obtain ⟨o', h1, h2⟩ := hw; rw [ho] at h1; cases h1; rw [hn] at h2; cases h2)]
    exact ho, fun k hk => h.block k (by omega) (fun e => by cases e; omega)⟩
theorem Stp.toBelow {b : Nat} {A B : World} (h : Stp b A B) : Below b A B := ⟨h.os, h.tape, h.output, h.size, fun k hk => h.below k hk⟩
abbrev ekU : Nat → Value := fun v => .int .u32 (v : Int)
abbrev evF : Fact → Value := fun f => .agg f.cells.toArray
abbrev ekS : ByteArray → Value := fun k => .string k
theorem keyU : KeyK Try.prog 38 ekU := by
  refine ⟨⟨_, Try.underlying38, fun a b => ?_⟩, fun em w k => ?_⟩
  · show some (((a : Int)) == (b : Int)) = _
    congr 1
    rw [Bool.eq_iff_iff]
    simp
    omega
  · unfold Instr.checkKey
    rw [Sem.run_bind, run_underlying Try.underlying38]
    rfl
theorem keyS : KeyK Try.prog 9 ekS := by
  refine ⟨⟨_, Try.underlying9, fun a b => ?_⟩, fun em w k => ?_⟩
  · show some (a == b) = _
    congr 1
    rw [Bool.eq_iff_iff]
    obtain ⟨a⟩ := a
    obtain ⟨b⟩ := b
    simp only [decide_eq_true_iff, ByteArray.mk.injEq]
    show (a == b) = true ↔ _
    rw [beq_iff_eq]
    exact eq_comm
  · unfold Instr.checkKey
    rw [Sem.run_bind, run_underlying Try.underlying9]
    rfl
theorem perm_of_seen {κ υ : Type} {l : List (κ × υ)} {seen : Array Nat} (h : Seen l.length seen) (ha : ∀ i, i < l.length → i ∈ seen.toList) {pre : List κ} (hp : pre.map some = seen.toList.map fun i => (l[i]?).map (·.1)) : pre.Perm (l.map (·.1)) := by
  have h1 : seen.toList.Perm (List.range l.length) := by
    refine (List.perm_ext_iff_of_nodup h.once List.nodup_range).2 fun i => ?_
    rw [List.mem_range]
    exact ⟨h.lt i, ha i⟩
  have h2 := h1.map fun i => (l[i]?).map (·.1)
  rw [← hp] at h2
  have h3 : (List.range l.length).map (fun i => (l[i]?).map (·.1)) = (l.map (·.1)).map some := by
    apply List.ext_getElem?
    intro i
    by_cases hi : i < l.length <;> simp [hi]
  rw [h3] at h2
  have h4 := h2.filterMap id
  simpa using h4
set_option maxRecDepth 100000 in
set_option maxHeartbeats 2000000 in
theorem keys32_in (nn Bm b base : Nat) (hnn : 1 ≤ nn) (l : List (Nat × Fact)) :
    SeqGood Fence.wide nn Try.prog 51 #[.pointer (some ⟨Bm, 0, none⟩)] (fun x : Nat => #[ekU x]) (Stp base) (fun pre _ _ => pre.length < l.length)
      KeepsWalks (fun xs => xs.Perm (l.map (·.1))) base (fun W => Boxed W Bm 56 (.map (some b)) ∧ MapAt W b ekU evF l) := by
  intro lp J Jx W hb hOk hJ hJx hY h0
  have HY := hid hY
  have HJ := hid hJ
  have HOk := hid hOk
  have H0 := hid h0
  have hrg := run_range_map (P := Try.prog) W 56 38 42 b _ _ Try.underlying56 hOk.2
  clear hY hJ hJx hOk h0
  refine callsIn_of_wp Try.func51 rfl trivial ?_ rfl
  simp only [Try.ntmps51, List.size_toArray, List.length_cons, List.length_nil, Nat.reduceAdd, Nat.reduceSub, Array.replicate_succ, Array.replicate_zero, List.push_toArray, List.append_toArray, List.nil_append, List.cons_append]
  have cW := HOk.out.1.cell
  have hbW := HOk.out.2.lt
  gi_wp2
  clear cW hrg
  gi_loopw [3] (fun _ wr => ∃ (seen : Array Nat) (pre : List Nat), Hid (Seen l.length seen) ∧ Hid (pre.map some = seen.toList.map fun i => (l[i]?).map (·.1)) ∧ Hid (wr.heap[W.heap.size]? = some (.mapIter (some b) l.length seen l.length)) ∧ Hid (MapAt wr b ekU evF l) ∧ Hid (J pre wr))
    (fun _ wr => l.length - (wr.iterSeen W.heap.size).size)
  case atStart =>
    have ha : Below W.heap.size W (W.alloc (.mapIter (some b) l.length #[] l.length)) := (Below.refl _ _).alloc (Nat.le_refl _) _
    exact ⟨#[], [], Seen.nil _, rfl, World.alloc_heap_new _ _, hid (HOk.out.2.keep (ha.block b hbW)), hid (HJ.out _ _ _ H0.out (Stp.of_below hb ha))⟩
  case round =>
    obtain ⟨seen, pre, HS, HP, HR, HM, HJp⟩ := hrel
    have hwl := lt_of_block HR.out
    have hsp : pre.length = seen.size := by have := congrArg List.length HP.out; simpa using this
    rcases next0 (P := Try.prog) HR.out HM.out with ⟨hall, hnx⟩ | ⟨i, hi, hni, W2, hg2, hs2, hr2, hnx, hen⟩
    · have HA := hid hall
      clear hall
      gi_wp2
      refine ⟨rfl, _, results_none rfl _ _ _, ?_⟩
      exact ⟨⟨_, rfl⟩, .inl ⟨pre, perm_of_seen HS.out HA.out HP.out, HJp.out⟩⟩
    · have hpl : pre.length < l.length := by rw [hsp]; exact HS.out.size_lt hi hni
      have HJ2 := hid (HJ.out _ _ _ HJp.out (Stp.of_grown hb hg2 ⟨_, HR.out, rfl⟩ (by omega)))
      have HM2 : Hid (MapAt W2 b ekU evF l) := hid (HM.out.keep (hg2.block b HM.out.lt (fun e => by cases e; have h1 : wr.heap[W.heap.size]? = some (.map (mEnt ekU evF 0 l).toArray l.length) := HM.out; rw [HR.out] at h1; cases h1)))
      have HR2 := hid hr2
      have hen2 := hen W2 rfl (HM2.out.trans HM.out.symm)
      have HS2 := hid (HS.out.push hi hni)
      have HSZ : Hid (l.length - (seen.push i).size < l.length - (wr.iterSeen W.heap.size).size) := by
        show _ < _
        rw [show wr.iterSeen W.heap.size = seen from by unfold World.iterSeen; rw [HR.out]]
        have := HS.out.size_lt hi hni
        simp; omega
      obtain ⟨K, hK⟩ : ∃ K, K = l[i].1 := ⟨_, rfl⟩
      obtain ⟨f, hf⟩ : ∃ f, f = l[i].2 := ⟨_, rfl⟩
      rw [← hK, ← hf] at hnx hen2
      have HP2 : Hid ((pre ++ [K]).map some = (seen.push i).toList.map fun i => (l[i]?).map (·.1)) := by
        show _ = _
        rw [List.map_append, HP.out, Array.toList_push, List.map_append]
        simp [hi, hK]
      obtain ⟨fn, tmps, assign, body, hy, hR⟩ := HY.out pre K W2 HJ2.out hpl
      have HRr := hid hR
      clear hK hf hR hen hg2 hs2 hr2 hpl hsp hwl hni
      gi_wp2
      refine HRr.out.mono ?_
      rintro e W3 (⟨rfl, hJ3, hk3⟩ | ⟨rfl, hJ3⟩)
      · have HJ3 := hid hJ3
        have HR3 := hid (hk3.same _ _ HR2.out rfl)
        have HM3 : Hid (MapAt W3 b ekU evF l) := hid (hk3.same _ _ HM2.out rfl)
        clear hJ3 hk3 hy HRr
        gi_wp2
        go_roundw
        case rel => exact ⟨seen.push i, pre ++ [K], HS2, HP2, HR3, HM3, HJ3⟩
        case measure =>
          rw [show W3.iterSeen W.heap.size = seen.push i from by unfold World.iterSeen; rw [HR3.out]]
          exact HSZ.out
      · have HJ3 := hid hJ3
        clear hJ3 hy HRr
        gi_wp2
        refine bodyPost_ret (results_none rfl _ _ _) rfl ?_
        exact ⟨⟨_, rfl⟩, .inr ⟨_, HJ3.out⟩⟩
theorem own_stp {b : Nat} {A B : World} (h : Stp b A B) {base : Nat} {e : TypeId} {k n : Nat} {v : Value} {xs : List Value} (ho : A.ownsRow base e k v n xs) : B.ownsRow base e k v n xs := by
  obtain ⟨h1, h2⟩ := ho
  refine ⟨h1, ?_⟩
  rcases h2 with h2 | ⟨g, cap, cur, hv, hg, hh, r⟩
  · exact .inl h2
  · exact .inr ⟨g, cap, cur, hv, hg, h.same _ _ hh rfl, r⟩
theorem own_putObj {A : World} {l : Nat} {o o' : Obj} (ho : A.heap[l]? = some o) (hc : o.isCells = false) {base : Nat} {e : TypeId} {k n : Nat} {v : Value} {xs : List Value} (h : A.ownsRow base e k v n xs) : (A.putObj l o').ownsRow base e k v n xs := by
  obtain ⟨h1, h2⟩ := h
  refine ⟨h1, ?_⟩
  rcases h2 with h2 | ⟨g, cap, cur, hv, hg, hh, r⟩
  · exact .inl h2
  · exact .inr ⟨g, cap, cur, hv, hg, (World.putObj_heap_other (fun e => by subst e; rw [ho] at hh; cases hh; cases hc)).trans hh, r⟩
attribute [local go_sem] Oper.semAt_some
/-- what has come, in a row of the call's own, boxed -/
structure ApU (w : World) (B : Nat) (pre : List Nat) (W : World) : Prop where
  box : ∃ v, Boxed W B 83 v ∧ W.ownsRow (B + 1) 38 1 v pre.length (pre.map ekU)
  below : Below B w W
theorem infoU : (Try.prog.info? 38).map (fun i => (i.zero, i.size, i.bytes)) = some (some (.int .u32 0), 1, 4) := by kernel_rfl
theorem ApU.stays (w : World) (B : Nat) (pre : List Nat) : Stays (ApU w B pre) := fun A W h hb => by
  obtain ⟨v, h1, h2⟩ := h.box
  exact ⟨⟨v, (hb.block _ h1.lt).trans h1, own_below h2 hb⟩, h.below.trans (hb.mono (by have := h1.lt; omega))⟩
theorem ApU.stp (w : World) (B : Nat) (pre : List Nat) (A W : World) (h : ApU w B pre A) (k : Stp (B + 1) A W) : ApU w B pre W := by
  obtain ⟨v, h1, h2⟩ := h.box
  exact ⟨⟨v, k.same _ _ h1 rfl, own_stp k h2⟩, h.below.trans (k.toBelow.mono (by omega))⟩
theorem ApU.turns (w : World) (B b0 : Nat) (pre : List Nat) (hb : B ≤ b0) : Turns b0 (ApU w B pre) := fun W l o o' h hl ho hc => by
  obtain ⟨v, h1, h2⟩ := h.box
  exact ⟨⟨v, boxed_putObj h1 o' ho hc, own_putObj ho hc h2⟩, below_putObj h.below (by omega) o' ho⟩
/-- an append onto a boxed row: what is no cells stays -/
theorem box_append {W W1 : World} {B : Nat} {t e : TypeId} {k n m : Nat} {v v' : Value} {xs ys : List Value} {cs : Array Value} {tc : TypeId} (hx : Boxed W B t v) (ho : W.ownsRow (B + 1) e k v n xs) (_hown : W1.ownsRow (B + 1) e k v' m ys) (hg : (W.alloc (.cells cs tc)).grownBy W1 v.ownBlock) :
    Boxed W1 B t v ∧ Below (B + 1) W W1 ∧ (∀ (j : Nat) (o : Obj), W.heap[j]? = some o → o.isCells = false → (W1.setCell ⟨B, 0, none⟩ v').heap[j]? = some o) ∧ W.heap.size ≤ (W1.setCell ⟨B, 0, none⟩ v').heap.size := by
  have hne : some B ≠ v.ownBlock := fun h => by have := ho.lt B h.symm; omega
  have hal : ∀ j, j < W.heap.size → (W.alloc (.cells cs tc)).heap[j]? = W.heap[j]? := fun j hj => Below.heap_alloc _ _ _ hj
  have hb1 : Boxed W1 B t v := (hg.block B (by simp; have := hx.lt; omega) hne).trans ((hal B hx.lt).trans hx)
  have hsz := hg.size
  simp only [World.size_alloc] at hsz
  refine ⟨hb1, ((Below.refl _ W).alloc (by have := hx.lt; omega) _).grown hg (by simp; have := hx.lt; omega) (fun j hj => (ho.lt j hj).1), fun j o hj hc => ?_, by rw [World.size_setCell]; omega⟩
  have hjB : j ≠ B := fun e => by subst e; rw [show W.heap[j]? = _ from hx] at hj; cases hj; cases hc
  have hjl := lt_of_block hj
  have hjv : some j ≠ v.ownBlock := fun e => by
    rcases ho.2 with ⟨hv, _⟩ | ⟨g, cap, cur, hv, _, hh, _⟩
    · rw [hv] at e; cases e
    · rw [hv] at e; simp [Value.ownBlock] at e; subst e; rw [hh] at hj; cases hj; cases hc
  rw [heap_setCell_other _ _ _ _ (by simpa using hjB), hg.block j (by simp; omega) hjv, hal j hjl]
  exact hj
set_option maxRecDepth 100000 in
set_option maxHeartbeats 4000000 in
theorem aseq_any (Bm b : Nat) (l : List (Nat × Fact)) (w : World) (hx : Boxed w Bm 56 (.map (some b))) (hm : MapAt w b ekU evF l) (hln : l.length ≤ 1000000) :
    Calls Try.prog 62 #[.slice none 0 0, .func (.func 51) #[] #[.pointer (some ⟨Bm, 0, none⟩)]] w fun e w' =>
      ∃ (v : Value) (xs : List Nat), e = .returned v ∧ xs.Perm (l.map (·.1)) ∧ w'.ownsRow w.heap.size 38 1 v xs.length (xs.map ekU) ∧ Below w.heap.size w w' := by
  obtain ⟨B, hB⟩ : ∃ B, w.heap.size = B := ⟨_, rfl⟩
  have hbm := hx.lt
  have hbl := hm.lt
  obtain ⟨w1, hw1⟩ : ∃ w1, w.alloc (.cells #[.slice none 0 0] 83) = w1 := ⟨_, rfl⟩
  have hb1 : Below B w w1 := by rw [← hw1]; exact (Below.refl _ _).alloc (by omega) _
  have hs1 : w1.heap.size = B + 1 := by rw [← hw1]; simp; omega
  have hx1 : Boxed w1 B 83 (.slice none 0 0) := by rw [← hw1, ← hB]; exact Boxed.new _ _ _
  have HI0 : Hid (ApU w B [] w1) := ⟨⟨_, hx1, World.ownsRow_nil _ _ _ _⟩, hb1⟩
  have HX1 : Hid (Boxed w1 Bm 56 (.map (some b))) := hid ((hb1.block _ (by omega)).trans hx)
  have HM1 : Hid (MapAt w1 b ekU evF l) := hid (hm.keep (hb1.block _ (by omega)))
  have HS1 := hid hs1
  have HBB := hid hB
  clear hx1 hb1 hx hm hs1
  refine (callsIn_wide (n := 3)).1 (callsIn_of_wp_marks Try.func62 rfl trivial ?_ rfl)
  refine wpIn_wide.2 ?_
  simp only [Try.ntmps62, List.size_toArray, List.length_cons, List.length_nil, Nat.reduceAdd, Nat.reduceSub, Array.replicate_succ, Array.replicate_zero, List.push_toArray, List.append_toArray, List.nil_append, List.cons_append]
  go_wp2_with fail
  clear hw1 hB
  refine wpIn_wide.1 (wpIn_range_walk (n := 3) rfl (by omega) (gf := 51) (lb := #[.pointer (some ⟨Bm, 0, none⟩)]) rfl trivial (enters_of Try.func51 (by kernel_rfl) rfl)
    (fun _ => rfl) (keys32_in 2 Bm b (B + 1) (by omega) l) (Nat.le_of_eq HS1.out.symm) (fun W hb => ⟨(hb.block _ HX1.out.lt).trans HX1.out, HM1.out.keep (hb.block _ HM1.out.lt)⟩)
    (fun _ _ _ h k => h.trans k) (fun W g o o' _ ho hw => KeepsWalks.putObj o' ho hw) (fun A W h => h.same) (ApU w B) (fun _ _ _ => False) (ApU.stays w B) (ApU.stp w B) (fun _ _ _ _ h _ => h) (fun pre => ApU.turns w B _ pre (by rw [HS1.out]; omega)) (fun _ _ _ _ _ _ h _ _ _ => h) (fun _ _ _ _ _ _ h _ _ _ => h)
    HI0.out ?a1 ?assign ?body ?done ?stop)
  case assign =>
    intro g x W K hK
    gi_wp2
    exact hK
  case stop =>
    rintro D c pre W hD h hD0
    exact h.elim
  case done =>
    rintro D xs W hD hxs hI hD0
    obtain ⟨v, h1, h2⟩ := hI.box
    have c1 := h1.cell
    have HH := hid h2
    have HBl := hid hI.below
    have HD0 := hid hD0
    have HP := hid hxs
    clear h1 h2 hI hD0 hxs
    go_wp2
    refine leaves_marks (base := B) _ _ ⟨⟨D, rfl, by have := HS1.out; omega, HD0.out, fun d hd => by cases hd⟩, trivial⟩ (fun w' hs => ?_)
    exact ⟨_, results_tmp rfl _ _ _, v, xs, rfl, HP.out, by rw [HBB.out]; exact own_mono (own_shut HH.out hs) (by omega), by rw [HBB.out]; exact HBl.out.trans (hs.below _ (Nat.le_refl _))⟩
  case body =>
    rintro g pre x W hg hI hgd
    obtain ⟨v, h1, h2⟩ := hI.box
    have c1 := h1.cell
    have f1 := h1.frozen
    have hBl := hI.below
    have hBW := h1.lt
    have HX := hid h1
    have HO := hid h2
    have HBl := hid hBl
    have HG := hid hgd
    obtain ⟨q, c, rfl, hc1, hc2, _⟩ := own_shape h2
    obtain ⟨i0, hi, hz0, hz1, hz2⟩ := info_parts infoU
    have hlt : pre.length + 1 ≤ 1000000 := by omega
    clear h1 h2 hI hBl hgd
    gi_wp2_with (gi_at_builtin; refine wpListIn_append_own _ rfl _ _ 83 rfl (B + 1) 38 i0 (.int .u32 0) 1 4 Try.underlying83 hi hz0 hz1 hz2 rfl (by decide) _ _ _ rfl (HO.out.alloc _) ⟨W.heap.size, 0, none⟩ 1 1 [ekU x] rfl rfl (cell_one_new _ _ _) (by simp [Value.oneCell']) (by unfold maxLen; omega) (by omega) (by simp; omega) ?_; intro v' W1 hown' hgrow _; obtain ⟨p1, p2, p3, p4⟩ := box_append HX.out HO.out hown' hgrow; have HP3 := hid p3; have HP4 := hid p4; have HP2 := hid p2; have HX1 := hid p1; have HO1 := hid hown'; obtain ⟨g', cap', rfl⟩ := ownsRow_succ hown'; have hk1 := p1.cell; have hk2 := p1.frozen; clear p1 p2 p3 p4 hown' hgrow)
    refine ⟨⟨HP4.out, fun j o _ ho hc => HP3.out j o ho hc⟩, ⟨HP4.out, fun j o ho hc => HP3.out j o ho (by cases o <;> first | rfl | cases hc)⟩, ⟨⟨_, HX1.out.set _, ?_⟩, ?_⟩⟩
    · have := ownsRow_setCell_below HO1.out (a := ⟨B, 0, none⟩) (by show B < B + 1; omega) (.slice (some ⟨g', 0, none⟩) (pre.length + 1) cap')
      simpa using this
    · exact (HBl.out.trans (HP2.out.mono (by omega))).setCell (p := ⟨B, 0, none⟩) (Nat.le_refl _) _
set_option maxHeartbeats 2000000 in
theorem collect_u (Bm b : Nat) (l : List (Nat × Fact)) (w : World) (hx : Boxed w Bm 56 (.map (some b))) (hm : MapAt w b ekU evF l) (hln : l.length ≤ 1000000) :
    Calls Try.prog 49 #[.func (.func 51) #[] #[.pointer (some ⟨Bm, 0, none⟩)]] w fun e w' =>
      ∃ (v : Value) (xs : List Nat), e = .returned v ∧ xs.Perm (l.map (·.1)) ∧ w'.ownsRow w.heap.size 38 1 v xs.length (xs.map ekU) ∧ Below w.heap.size w w' := by
  have hc := aseq_any Bm b l w hx hm hln
  clear hx hm
  go_enter Try.func49, Try.ntmps49
  go_wp2_with (go_at_call 62; with_reducible refine hc.mono ?_; rintro e w1 ⟨v, xs, rfl, h1, h2, h3⟩)
  go_ret
  exact ⟨v, xs, rfl, h1, h2, h3⟩
open Go.Sort in
theorem rw_start {W : World} {base g cap : Nat} {xs : List Nat} (h : W.ownsRow base 38 1 (.slice (some ⟨g, 0, none⟩) xs.length cap) xs.length (xs.map ekU)) : ∃ C, Rw W g 0 C (xs.map fun n : Nat => (n : Int)).toArray W ∧ C = cap ∧ base ≤ g ∧ xs.length ≤ cap ∧ cap ≤ maxLen := by
  rcases h.2 with ⟨hv, _⟩ | ⟨g', cap', cur, hv, hb, hh, h1, h2, h3, h4⟩
  · cases hv
  · cases hv
    refine ⟨cur.size, ⟨rfl, rfl, rfl, Nat.le_refl _, fun _ _ _ => rfl, cur, hh, rfl, fun j hj => ?_⟩, by omega, hb, h1, h2⟩
    have hjl : j < xs.length := by simpa using hj
    have h5 : (cur.toList.take (xs.length * 1))[j]? = (xs.map ekU)[j]? := by rw [h4]
    rw [List.getElem?_take, if_pos (by omega)] at h5
    simp only [Nat.zero_add]
    rw [← Array.getElem?_toList, h5]
    simp [hjl]
open Go.Sort in
theorem rw_end {W W' : World} {base g C N : Nat} {d : Array Int} (h : Rw W g 0 C d W') (hd : d.size = N) (hb : base ≤ g) (h1 : N ≤ C) (h2 : C ≤ maxLen) : W'.ownsRow base 38 1 (.slice (some ⟨g, 0, none⟩) N C) N (d.toList.map (Value.int .u32)) := by
  obtain ⟨cur, hg, hs, hc⟩ := h.row
  refine ⟨by simp [hd], .inr ⟨g, C, cur, rfl, hb, hg, h1, h2, by omega, ?_⟩⟩
  apply List.ext_getElem?
  intro j
  rw [List.getElem?_take]
  by_cases hj : j < N
  · rw [if_pos (by omega)]
    have := hc j (by omega)
    rw [Nat.zero_add, ← Array.getElem?_toList] at this
    rw [this]
    simp [hj, hd]
  · rw [if_neg (by omega), List.getElem?_eq_none (by simp; omega)]
open Go.Sort in
theorem perm_sorted {d d' : Array Int} {xs : List Nat} (hd : d = (xs.map fun n : Nat => (n : Int)).toArray) (hp : PermIn 0 xs.length d d') (hs : SortedIn ltInt 0 xs.length d') : ∃ vs : List Nat, vs.Perm xs ∧ vs.Pairwise (· ≤ ·) ∧ d'.toList.map (Value.int .u32) = vs.map ekU ∧ d'.size = xs.length := by
  have hsz : d.size = xs.length := by rw [hd]; simp
  have hsz' : d'.size = xs.length := hp.1.trans hsz
  have hp2 : d'.toList.Perm (xs.map fun n : Nat => (n : Int)) := by
    have := hp.2.2
    rw [← hsz] at this
    rw [Array.extract_size] at this
    rw [show d.size = d'.size from hp.1.symm, Array.extract_size] at this
    rw [hd] at this
    simpa using this
  refine ⟨d'.toList.map Int.toNat, ?_, ?_, ?_, hsz'⟩
  · have := hp2.map Int.toNat
    simpa [Function.comp_def] using this
  · rw [List.pairwise_map, List.pairwise_iff_getElem]
    intro i j hi hj hij
    have hj' : j < xs.length := by simpa [hsz'] using hj
    have := hs i j (Nat.zero_le _) hij hj'
    simp only [ltInt, decide_eq_false_iff_not] at this
    rw [getElem!_pos d' j (by omega), getElem!_pos d' i (by omega)] at this
    simp only [Array.getElem_toList]
    omega
  · rw [List.map_map]
    apply List.map_congr_left
    intro x hx
    have := hp2.mem_iff.1 hx
    obtain ⟨n, _, rfl⟩ := List.mem_map.1 this
    rfl
set_option maxHeartbeats 2000000 in
open Go.Sort in
theorem sorted_u (Bm b : Nat) (l : List (Nat × Fact)) (w : World) (hx : Boxed w Bm 56 (.map (some b))) (hm : MapAt w b ekU evF l) (hln : l.length ≤ 1000000) :
    Calls Try.prog 39 #[.func (.func 51) #[] #[.pointer (some ⟨Bm, 0, none⟩)]] w fun e w' =>
      ∃ (v : Value) (xs : List Nat), e = .returned v ∧ xs.Perm (l.map (·.1)) ∧ xs.Pairwise (· ≤ ·) ∧ w'.ownsRow w.heap.size 38 1 v xs.length (xs.map ekU) ∧ RowKit.Below w.heap.size w w' := by
  have hc := collect_u Bm b l w hx hm hln
  clear hx hm
  go_enter Try.func39, Try.ntmps39
  go_wp2_with (go_at_call 49; with_reducible refine hc.mono ?_; rintro e w1 ⟨v, xs, rfl, h1, h2, h3⟩)
  rcases h2.2 with ⟨rfl, hz⟩ | ⟨g, cap, cur, rfl, _⟩
  · have hss : xs = [] := List.eq_nil_of_length_eq_zero hz
    subst hss
    go_wp2_with (go_at_call 50; refine (sort_none 0 w1).mono ?_; rintro e w' ⟨rfl, rfl⟩)
    go_ret
    exact ⟨.slice none 0 0, [], rfl, h1, List.Pairwise.nil, h2, h3⟩
  · obtain ⟨C, hr, rfl, hb, hn, hcm⟩ := rw_start h2
    have hlen : xs.length = l.length := by have := h1.length_eq; simpa using this
    have hs := sort_u g 0 C xs.length C (xs.map fun n : Nat => (n : Int)).toArray w1 hr (by simp) (by omega)
    have H1 := hid h1
    have H3 := hid h3
    clear h1 h2 h3 hr hlen
    go_wp2_with (go_at_call 50; with_reducible refine hs.mono ?_; rintro e w' ⟨rfl, d', p1, p2, p3⟩)
    go_ret
    obtain ⟨vs, q1, q2, q3, q4⟩ := perm_sorted rfl p1 p2
    have hlv : vs.length = xs.length := q1.length_eq
    refine ⟨_, vs, rfl, q1.trans H1.out, q2, ?_, ?_⟩
    · rw [← q3, hlv]
      exact rw_end p3 q4 hb hn hcm
    · exact ⟨p3.os.trans H3.out.os, p3.tape.trans H3.out.tape, p3.output.trans H3.out.output, Nat.le_trans H3.out.size p3.size, fun k hk => (p3.block k (by have := H3.out.size; omega) (by omega)).trans (H3.out.block k hk)⟩
end Go.Proofs.Herb
