
/- A law of control: a range over a function whose iterator hands over values that are good in the world at hand and writes blocks of its own between the rounds, and whose body may leave. No program. -/
import Derived.Test.YtnkkfdlmcpnokaaRng
import Derived.Test.YtnkkfdlmcpnokaaBase2
import Derived.OwnWalkIn
namespace Go.Proofs.Herb
open Go.RowKit
/-- how a round's body ends: it goes on, or it leaves; what it keeps; where the loop stands -/
def Goes {α : Type} (B : Nat) (Kp : World → World → Prop) (I : List α → World → Prop) (Ix : Code → List α → World → Prop) (xs : List α) (W : World) : Exit → Act → World → Prop
  | .normal, _, W' => KeepsFrom B W W' ∧ Kp W W' ∧ I xs W'
  | .ret, _, W' => KeepsFrom B W W' ∧ Ix .ret xs W'
  | .exit id, _, W' => KeepsFrom B W W' ∧ Ix (.exit id) xs W'
  | _, _, _ => False
/-- what an iterator promises: each value handed over is good; all of them, or it was stopped -/
def SeqGood {α : Type} (F : Fence) (n : Nat) (P : Program) (gf : Nat) (lb : Array Value) (encs : α → Array Value) (Rw : World → World → Prop) (Gd : List α → α → World → Prop) (Kp : World → World → Prop) (S : List α → Prop) (base : Nat) (Ok : World → Prop) : Prop :=
  ∀ (l : Nat) (J Jx : List α → World → Prop) (W : World), base ≤ W.heap.size → Ok W → (∀ s A B, J s A → Rw A B → J s B) → (∀ s A B, Jx s A → Rw A B → Jx s B) →
    (∀ pre x W1, J pre W1 → Gd pre x W1 → YieldAt F (n - 1) P l (encs x) W1 fun e W' => (e = .returned (.bool true) ∧ J (pre ++ [x]) W' ∧ Kp W1 W') ∨ (e = .returned (.bool false) ∧ Jx (pre ++ [x]) W')) → J [] W →
    CallsIn F n P gf (#[.func (.yield l) #[] #[]] ++ lb) W fun e W' => (∃ v, e = .returned v) ∧ ((∃ xs, S xs ∧ J xs W') ∨ (∃ pre, Jx pre W'))
variable {F : Fence} {n : Nat} {P : Program}
theorem wpIn_range_stop {α : Type} {g : Operand} {ps : Array Tmp} {assign body : Code} {Q : Exit → Act → World → Prop} {a : Act} {w : World}
    (hro : F.round = none) (h1 : 1 ≤ n) {gf : Nat} {lb : Array Value} (hg : a.eval g = .func (.func gf) #[] lb) (hFg : F.fn gf) (eg : ∀ args w, (callFunc gf args).run P w = .ok (.enter gf args) w)
    {encs : α → Array Value} (hps : ∀ x, (encs x).size = ps.size) {Rw : World → World → Prop} {Gd : List α → α → World → Prop} {Kp : World → World → Prop} {S : List α → Prop} {base : Nat} {Ok : World → Prop}
    (hseq : SeqGood F (n - 1) P gf lb encs Rw Gd Kp S base Ok) (hbase : base ≤ w.heap.size) (hOk : ∀ W, Below w.heap.size w W → Ok W)
    (hKt : ∀ A B C, Kp A B → Kp B C → Kp A C) (hKb : ∀ (W : World) (l : Nat) (o o' : Obj), w.heap.size ≤ l → W.heap[l]? = some o → o.isCells = false → Kp W (W.putObj l o'))
    (hRk : ∀ A B, Rw A B → KeepsFrom w.heap.size A B)
    (I : List α → World → Prop) (Ix : Code → List α → World → Prop) (hIb : ∀ s, Stays (I s)) (hIr : ∀ s A B, I s A → Rw A B → I s B) (hXr : ∀ c s A B, Ix c s A → Rw A B → Ix c s B) (hIp : ∀ s, Turns w.heap.size (I s)) (hXp : ∀ c s, Turns w.heap.size (Ix c s)) (hGp : ∀ s x, Turns w.heap.size (Gd s x)) (h0 : I [] w) (a₁ : α → Act)
    (hassign : ∀ (l : Nat) (x : α) (W : World) (K : Act → World → Prop), K (a₁ x) W →
      assign.wpIn (F.inRound l) (n - 1 - 1) P (Exit.then K (fun _ _ _ => False)) { tmps := (ps.zip (encs x)).foldl (fun t (p, v) => t.setIfInBounds p v) a.tmps, defers := [] } W)
    (hbody : ∀ (l : Nat) (pre : List α) (x : α) (W : World), w.heap.size ≤ l → I pre W → Gd pre x W → body.wpIn (F.inRound l) (n - 1 - 1) P (Goes w.heap.size Kp I Ix (pre ++ [x]) W) (a₁ x) W)
    (hdone : ∀ (D : Nat) (xs : List α) (W : World), w.heap.size ≤ D → S xs → I xs W → W.heap[D]? = some (.deferred (some [])) → Q .normal { a with defers := { target := .collected D, args := #[] } :: a.defers } W)
    (hstop : ∀ (D : Nat) (c : Code) (pre : List α) (W : World), w.heap.size ≤ D → Ix c pre W → W.heap[D]? = some (.deferred (some [])) → c.wpIn F n P Q { a with defers := { target := .collected D, args := #[] } :: a.defers } W) :
    (Code.rangeFunc g ps assign body).wpIn F n P Q a w := by
  refine wpIn_rangeFunc fun fn hfn => ?_
  rw [hro]
  obtain ⟨rec, hrec⟩ : ∃ rec : LoopState → Option Code → Loop, rec = fun st pe => { state := st, pending := pe, fn, tmps := a.tmps, params := ps, assign, body, defers := w.heap.size } := ⟨_, rfl⟩
  obtain ⟨V, hV⟩ : ∃ V, (w.alloc (.deferred (some []))).alloc (.loop (rec .ready none)) = V := ⟨_, rfl⟩
  have hVb : Below w.heap.size w V := by rw [← hV]; exact ((Below.refl _ w).alloc (Nat.le_refl _) _).alloc (by simp) _
  have hVD : V.heap[w.heap.size]? = some (.deferred (some [])) := by rw [← hV]; exact (Below.heap_alloc _ _ _ (by simp)).trans (World.alloc_heap_new w _)
  have hVL : V.heap[w.heap.size + 1]? = some (.loop (rec .ready none)) := by
    rw [← hV]; have h := World.alloc_heap_new (w.alloc (.deferred (some []))) (.loop (rec .ready none))
    rwa [World.size_alloc] at h
  have lt_of : ∀ {W : World} {k : Nat} {o : Obj}, W.heap[k]? = some o → k < W.heap.size := fun h => (Array.getElem?_eq_some_iff.1 h).1
  have hVs : w.heap.size ≤ V.heap.size := hVb.size
  refine ⟨w.heap.size + 1, [{ target := .collected w.heap.size, args := #[] }], V, { target := .fn (.func gf) lb, args := #[.func (.yield (w.heap.size + 1)) #[] #[]] }, V, gf,
    #[.func (.yield (w.heap.size + 1)) #[] #[]] ++ lb, V, ?_, ?_, ?_, ?_, fun _ => h1, ?_⟩
  · rw [← hV, hrec]; exact run_enterLoop_outer _ _ _ _ _
  · simp only [resolve, hg]; simp [go_sem]
  · intro f' hf'; simp [Target.leads] at hf'; subst hf'; exact hFg
  · simp [invoke, go_sem, eg]
  · refine (hseq (w.heap.size + 1)
      (fun s W => I s W ∧ W.heap[w.heap.size + 1]? = some (.loop (rec .ready none)) ∧ W.heap[w.heap.size]? = some (.deferred (some [])))
      (fun s W => ∃ c, Ix c s W ∧ W.heap[w.heap.size + 1]? = some (.loop (rec .done (some c))) ∧ W.heap[w.heap.size]? = some (.deferred (some [])))
      V (by omega) (hOk V hVb) ?_ ?_ ?_ ⟨hIb _ _ _ h0 hVb, hVL, hVD⟩).mono ?_
    · intro s A B h hr
      have k := hRk A B hr
      exact ⟨hIr s A B h.1 hr, k.same _ _ (by omega) h.2.1 rfl, k.same _ _ (Nat.le_refl _) h.2.2 rfl⟩
    · rintro s A B ⟨c, hc, hl, hd⟩ hr
      have k := hRk A B hr
      exact ⟨c, hXr c s A B hc hr, k.same _ _ (by omega) hl rfl, k.same _ _ (Nat.le_refl _) hd rfl⟩
    · intro pre x W hJW hgd
      have hy := run_yield (P := P) (args := encs x) hJW.2.1 (by rw [hrec]; exact hps x)
      rw [hrec] at hy
      refine ⟨fn, _, assign, body, hy, roundIn_of_wpIn hfn (hassign _ x W _ ?_)⟩
      clear hy
      refine ⟨_, run_beginRound hJW.2.1 (by rw [hrec]), ?_⟩
      obtain ⟨W2, hW2⟩ : ∃ W2, W.putObj (w.heap.size + 1) (.loop { rec .ready none with state := .busy }) = W2 := ⟨_, rfl⟩
      have hL2 : W2.heap[w.heap.size + 1]? = some (.loop { rec .ready none with state := .busy }) := by rw [← hW2]; exact World.putObj_heap_same (lt_of hJW.2.1)
      have hD2 : W2.heap[w.heap.size]? = some (.deferred (some [])) := by rw [← hW2]; exact (World.putObj_heap_other (by omega)).trans hJW.2.2
      have hI2 : I pre W2 := by rw [← hW2]; exact hIp _ _ _ _ _ hJW.1 (by omega) hJW.2.1 rfl
      have hG2 : Gd pre x W2 := by rw [← hW2]; exact hGp _ _ _ _ _ _ hgd (by omega) hJW.2.1 rfl
      have hK2 : Kp W W2 := by rw [← hW2]; exact hKb _ _ _ _ (by omega) hJW.2.1 rfl
      rw [hW2]
      have fin : ∀ (jump : Option Code) (W3 : World), KeepsFrom w.heap.size W2 W3 →
          (Instr.endRound (w.heap.size + 1) jump).run P W3 = .ok (.bool jump.isNone) (W3.putObj (w.heap.size + 1) (.loop (rec (if jump.isNone then .ready else .done) jump))) ∧
          W3.heap[w.heap.size + 1]? = some (.loop { rec .ready none with state := .busy }) ∧
          (W3.putObj (w.heap.size + 1) (.loop (rec (if jump.isNone then .ready else .done) jump))).heap[w.heap.size + 1]? = some (.loop (rec (if jump.isNone then .ready else .done) jump)) ∧
          (W3.putObj (w.heap.size + 1) (.loop (rec (if jump.isNone then .ready else .done) jump))).heap[w.heap.size]? = some (.deferred (some [])) := fun jump W3 hk3 => by
        have hl3 := hk3.same _ _ (by omega) hL2 rfl
        have := run_endRound (P := P) jump hl3
        rw [hrec] at this ⊢
        exact ⟨this, by rw [hrec] at hl3; exact hl3, World.putObj_heap_same (lt_of hl3), (World.putObj_heap_other (by omega)).trans (hk3.same _ _ (Nat.le_refl _) hD2 rfl)⟩
      refine wpIn_mono (hbody _ pre x W2 (by omega) hI2 hG2) fun e a3 W3 hp => ?_
      cases e with
      | normal =>
        obtain ⟨hk, hkp, hi⟩ := hp
        obtain ⟨hr, hl3, hl4, hk4⟩ := fin none W3 hk
        exact ⟨_, _, hr, .inl ⟨rfl, ⟨hIp _ _ _ _ _ hi (by omega) hl3 rfl, hl4, hk4⟩, hKt _ _ _ (hKt _ _ _ hK2 hkp) (hKb _ _ _ _ (by omega) hl3 rfl)⟩⟩
      | ret =>
        obtain ⟨hk, hi⟩ := hp
        obtain ⟨hr, hl3, hl4, hk4⟩ := fin (some .ret) W3 hk
        exact ⟨_, _, hr, .inr ⟨rfl, .ret, hXp _ _ _ _ _ _ hi (by omega) hl3 rfl, hl4, hk4⟩⟩
      | exit id =>
        obtain ⟨hk, hi⟩ := hp
        obtain ⟨hr, hl3, hl4, hk4⟩ := fin (some (.exit id)) W3 hk
        exact ⟨_, _, hr, .inr ⟨rfl, .exit id, hXp _ _ _ _ _ _ hi (by omega) hl3 rfl, hl4, hk4⟩⟩
      | _ => exact hp.elim
    · rintro e W ⟨⟨v, rfl⟩, (⟨xs, hS, hi, hl, hd⟩ | ⟨pre, c, hi, hl, hd⟩)⟩
      · exact ⟨none, _, by have := run_endLoop (P := P) hl (by rw [hrec]; simp); rw [hrec] at this; exact this, hdone _ xs _ (Nat.le_refl _) hS (hIp _ _ _ _ _ hi (by omega) hl rfl) ((World.putObj_heap_other (by omega)).trans hd)⟩
      · exact ⟨some c, _, by have := run_endLoop (P := P) hl (by rw [hrec]; simp); rw [hrec] at this; exact this, hstop _ c pre _ (Nat.le_refl _) (hXp _ _ _ _ _ _ hi (by omega) hl rfl) ((World.putObj_heap_other (by omega)).trans hd)⟩
/-- what an iterator does between two rounds: it writes the blocks that R tells, and lays new ones -/
structure Only (R : Nat → Prop) (A B : World) : Prop where
  os : B.os = A.os
  tape : B.tape = A.tape
  output : B.output = A.output
  size : A.heap.size ≤ B.heap.size
  same : ∀ (g : Nat) (o : Obj), A.heap[g]? = some o → ¬ R g → B.heap[g]? = some o
  recd : ∀ (g : Nat) (o : Obj), A.heap[g]? = some o → o.isCells = false → B.heap[g]? = some o
  kind : ∀ (g : Nat) (cs : Array Value) (t : TypeId) (fr : Nat × Nat), A.heap[g]? = some (.cells cs t fr) → ∃ cs', B.heap[g]? = some (.cells cs' t fr)
theorem Only.of_below {R : Nat → Prop} {A B : World} (h : Below A.heap.size A B) : Only R A B :=
  have k : ∀ (g : Nat) (o : Obj), A.heap[g]? = some o → B.heap[g]? = some o := fun g _ ho => (h.block g (Array.getElem?_eq_some_iff.1 ho).1).trans ho
  ⟨h.os, h.tape, h.output, h.size, fun g o ho _ => k g o ho, fun g _ ho _ => k g _ ho, fun g cs _ _ ho => ⟨cs, k g _ ho⟩⟩
theorem Only.refl (R : Nat → Prop) (A : World) : Only R A A := .of_below (Below.refl _ _)
theorem Only.trans {R : Nat → Prop} {A B C : World} (h : Only R A B) (k : Only R B C) : Only R A C :=
  ⟨k.os.trans h.os, k.tape.trans h.tape, k.output.trans h.output, Nat.le_trans h.size k.size, fun g o ho hn => k.same g o (h.same g o ho hn) hn, fun g o ho hc => k.recd g o (h.recd g o ho hc) hc, fun g cs t fr ho => by
    obtain ⟨cs', h'⟩ := h.kind g cs t fr ho
    exact k.kind g cs' t fr h'⟩
theorem Only.set {R : Nat → Prop} {A : World} {g : Nat} {t : TypeId} {v : Value} (hb : Boxed A g t v) (hg : R g) (u : Value) : Only R A (A.setCell ⟨g, 0, none⟩ u) :=
  ⟨rfl, rfl, rfl, by rw [World.size_setCell]; exact Nat.le_refl _,
    fun k o ho hn => ((grownBy_setCell' A g u).block k (Array.getElem?_eq_some_iff.1 ho).1 (fun e => hn (by cases e; exact hg))).trans ho,
    fun k o ho hc => by
      by_cases e : k = g
      · subst e; rw [show A.heap[k]? = _ from hb] at ho; cases ho; cases hc
      · exact ((grownBy_setCell' A g u).block k (Array.getElem?_eq_some_iff.1 ho).1 (fun e' => e (by cases e'; rfl))).trans ho,
    fun k cs t' fr ho => by
      by_cases e : k = g
      · subst e; rw [show A.heap[k]? = _ from hb] at ho; cases ho; exact ⟨_, hb.set u⟩
      · exact ⟨cs, ((grownBy_setCell' A g u).block k (Array.getElem?_eq_some_iff.1 ho).1 (fun e' => e (by cases e'; rfl))).trans ho⟩⟩
theorem Only.keeps {R : Nat → Prop} {A B : World} (h : Only R A B) (b : Nat) : KeepsFrom b A B := ⟨h.size, fun k o _ hk ho => h.recd k o hk ho⟩
theorem Only.below {R : Nat → Prop} {A B : World} (h : Only R A B) {b : Nat} (hb : b ≤ A.heap.size) (hR : ∀ g, g < b → ¬ R g) : Below b A B :=
  ⟨h.os, h.tape, h.output, h.size, fun k hk => by
    obtain ⟨o, ho⟩ : ∃ o, A.heap[k]? = some o := ⟨_, Array.getElem?_eq_getElem (by omega)⟩
    rw [ho]; exact h.same k o ho (hR k hk)⟩
theorem Only.boxed {R : Nat → Prop} {A B : World} (h : Only R A B) {g : Nat} {t : TypeId} {v : Value} (hb : Boxed A g t v) (hg : ¬ R g) : Boxed B g t v := h.same g _ hb hg
/-- a block of cells of this kind -/
def HasKind (W : World) (g : Nat) (t : TypeId) : Prop := ∃ cs fr, W.heap[g]? = some (.cells cs t fr)
theorem HasKind.only {R : Nat → Prop} {A B : World} (h : Only R A B) {g : Nat} {t : TypeId} (hk : HasKind A g t) : HasKind B g t := by
  obtain ⟨cs, fr, ho⟩ := hk
  obtain ⟨cs', h'⟩ := h.kind g cs t fr ho
  exact ⟨cs', fr, h'⟩
theorem HasKind.lt {W : World} {g : Nat} {t : TypeId} (h : HasKind W g t) : g < W.heap.size := by
  obtain ⟨cs, fr, ho⟩ := h; exact (Array.getElem?_eq_some_iff.1 ho).1
theorem HasKind.below {A B : World} {g : Nat} {t : TypeId} (h : HasKind A g t) (hb : Below A.heap.size A B) : HasKind B g t := by
  obtain ⟨cs, fr, ho⟩ := h
  exact ⟨cs, fr, (hb.block g (Array.getElem?_eq_some_iff.1 ho).1).trans ho⟩
theorem own_only {R : Nat → Prop} {A B : World} (h : Only R A B) {base : Nat} {e : TypeId} {k n : Nat} {v : Value} {xs : List Value} (hr : A.ownsRow base e k v n xs) (hne : ∀ g, v.ownBlock = some g → ¬ R g) : B.ownsRow base e k v n xs := by
  obtain ⟨h1, h2⟩ := hr
  refine ⟨h1, ?_⟩
  rcases h2 with h2 | ⟨g, cap, cur, hv, hg, hh, r⟩
  · exact .inl h2
  · exact .inr ⟨g, cap, cur, hv, hg, h.same g _ hh (hne g (by rw [hv]; rfl)), r⟩
/-- an own row does not lie in a block of another kind -/
theorem own_apart {A : World} {base : Nat} {e t : TypeId} {k n : Nat} {v : Value} {xs : List Value} (hr : A.ownsRow base e k v n xs) {b : Nat} (hk : HasKind A b t) (het : e ≠ t) : ∀ g, v.ownBlock = some g → g ≠ b := by
  intro g hg hgb
  subst hgb
  obtain ⟨_, h2⟩ := hr
  obtain ⟨cs, fr, ho⟩ := hk
  rcases h2 with ⟨h2, _⟩ | ⟨g', cap, cur, hv, _, hh, _⟩
  · rw [h2] at hg; simp [Value.ownBlock] at hg
  · rw [hv] at hg; simp [Value.ownBlock] at hg; subst hg
    rw [hh] at ho; cases ho; exact het rfl
/-- what a round keeps of a block -/
def KeepB (b : Nat) (A B : World) : Prop := ∀ o : Obj, A.heap[b]? = some o → B.heap[b]? = some o
theorem KeepB.trans {b : Nat} (A B C : World) (h : KeepB b A B) (k : KeepB b B C) : KeepB b A C := fun o ho => k o (h o ho)
theorem KeepB.putObj {b : Nat} (W : World) (l : Nat) (_o o' : Obj) (h : b ≠ l) : KeepB b W (W.putObj l o') := fun x hx => by rw [World.putObj_heap_other h]; exact hx
theorem KeepB.only {b : Nat} {R : Nat → Prop} {A B : World} (h : Only R A B) (hb : ¬ R b) : KeepB b A B := fun o ho => h.same b o ho hb
theorem HasKind.putObj {W : World} {g : Nat} {t : TypeId} (h : HasKind W g t) {l : Nat} {o : Obj} (o' : Obj) (ho : W.heap[l]? = some o) (hc : o.isCells = false) : HasKind (W.putObj l o') g t := by
  obtain ⟨cs, fr, hk⟩ := h
  exact ⟨cs, fr, (World.putObj_heap_other (fun e => by subst e; rw [ho] at hk; cases hk; cases hc)).trans hk⟩
theorem boxed_putObj {W : World} {g : Nat} {t : TypeId} {v : Value} (h : Boxed W g t v) {l : Nat} {o : Obj} (o' : Obj) (ho : W.heap[l]? = some o) (hc : o.isCells = false) : Boxed (W.putObj l o') g t v :=
  (World.putObj_heap_other (fun e => by subst e; rw [show W.heap[g]? = _ from h] at ho; cases ho; cases hc)).trans h
theorem below_putObj {b : Nat} {w W : World} (h : Below b w W) {l : Nat} (hl : b ≤ l) {o : Obj} (o' : Obj) (ho : W.heap[l]? = some o) : Below b w (W.putObj l o') :=
  h.trans ((Below.refl b W).grown (grownBy_putObj' W l o') (Nat.le_trans hl (Nat.le_of_lt (Array.getElem?_eq_some_iff.1 ho).1)) (fun k e => by cases e; exact hl))
/-- a number in a box -/
def boxN (b : Nat) (w : World) : Nat := match w.cell? ⟨b, 0, none⟩ with
  | some (.int _ n) => n.toNat
  | _ => 0
theorem boxN_of {w : World} {b : Nat} {t : TypeId} {k : IntKind} {m : Nat} (h : Boxed w b t (.int k (m : Int))) : boxN b w = m := by
  unfold boxN; rw [h.cell]; simp
end Go.Proofs.Herb
