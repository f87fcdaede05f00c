/- A law of regions that draw their order: the last operations, each of which waits for all ahead of them, may be walked behind the others. No program. The contract of the disk's Crash. For a disk as DiskAt says. -/
import Derived.StillTailTactics
import Derived.Orders
import Derived.Tactics
import Derived.Deep.RegionHeld3
import Derived.Test.YtbeaehhdglhihaaGreatDoorQc23
namespace Go.Proofs.Herb
/-- as Q; behind the run of the head: R -/
def headQ (R : Act → World → Prop) (Q : Exit → Act → World → Prop) : Exit → Act → World → Prop
  | .normal, a, w => R a w
  | e, a, w => Q e a w
section
variable {P : Program} {md : Region.Mode} {Q : Exit → Act → World → Prop} {R : Act → World → Prop} {ops : Array Oper}
@[go_sem] theorem headQ_normal (a : Act) (w : World) : headQ R Q .normal a w = R a w := rfl
@[go_sem] theorem headQ_exit (id : Nat) (a : Act) (w : World) : headQ R Q (.exit id) a w = Q (.exit id) a w := rfl
@[go_sem] theorem headQ_ret (a : Act) (w : World) : headQ R Q .ret a w = Q .ret a w := rfl
@[go_sem] theorem headQ_panic (ch : List PanicEntry) (a : Act) (w : World) : headQ R Q (.panic ch) a w = Q (.panic ch) a w := rfl
theorem wp_headQ {o : Oper} {a : Act} {w : World} {K : Act → World → Prop} (hh : o.wp P a w K (headQ R Q)) : o.wp P a w K Q := by
  unfold Oper.wp at *
  generalize (execOp a.eval o).run P w = r at *
  cases r with
  | ok n w' =>
    cases n <;> simp only [Oper.upon] at hh ⊢ <;>
      first
        | exact hh
        | exact Calls.mono hh (fun e w'' he => by cases e <;> exact he)
  | halt x w' => cases x <;> simp only [Oper.upon] at hh ⊢ <;> exact hh
theorem wpAny_more : ∀ (f : Nat) (listed : Array Bool) (a : Act) (w : World), wpAny P md ops Q f listed a w → wpAny P md ops Q (f + 1) listed a w
  | 0, _, _, _, h => ⟨fun _ => h.2, fun i hi => by rw [h.1] at hi; cases hi⟩
  | f + 1, _, _, _, h => ⟨h.1, fun i hi => wpOp_mono (fun a' w' h' => wpAny_more f _ a' w' h') (h.2 i hi)⟩
theorem wpAny_le {f : Nat} {listed : Array Bool} {a : Act} {w : World} (h : wpAny P md ops Q f listed a w) : ∀ g, wpAny P md ops Q (g + f) listed a w
  | 0 => by rw [Nat.zero_add]; exact h
  | g + 1 => by rw [Nat.succ_add]; exact wpAny_more _ _ _ _ (wpAny_le h g)
def tlB (md : Region.Mode) (l1 l2 : List Oper) : Bool :=
  l1.all (fun o => o.guard.isNone) && l2.all (fun o => (List.range l1.length).all fun i => o.after.any fun e => Region.binds md e && e.on == i) &&
    (List.range l1.length).all fun j => ((l1[j]?).map (fun o => o.after.all fun e => !Region.binds md e || decide (e.on < j))).getD true
theorem wpAny_split {l1 l2 : List Oper} (hB : tlB md l1 l2 = true)
    (hR : ∀ a w, R a w → wpAny P md (l1 ++ l2).toArray Q l2.length (Array.replicate l1.length true ++ Array.replicate l2.length false) a w) :
    ∀ (f : Nat) (lh : Array Bool) (a : Act) (w : World), lh.size = l1.length → wpAny P md l1.toArray (headQ R Q) f lh a w → wpAny P md (l1 ++ l2).toArray Q (f + l2.length) (lh ++ Array.replicate l2.length false) a w := by
  simp only [tlB, Bool.and_eq_true, List.all_eq_true, List.mem_range] at hB
  obtain ⟨⟨hg, hT⟩, hA⟩ := hB
  have hA' : ∀ j o, l1[j]? = some o → ∀ e ∈ o.after, Region.binds md e = true → e.on < j := by
    intro j o ho e he hb
    have h := hA j (List.getElem?_eq_some_iff.1 ho).1
    rw [ho] at h
    simp only [Option.map_some, Option.getD_some, Array.all_eq_true_iff_forall_mem] at h
    have h2 := h e he
    rw [hb] at h2
    simpa using h2
  have hall : ∀ lh : Array Bool, lh.size = l1.length → Region.ready md l1.toArray lh = [] → lh = Array.replicate l1.length true := by
    intro lh hs hr
    have key : ∀ j, j < l1.length → lh.getD j true = true := by
      intro j
      induction j using Nat.strongRecOn with
      | _ j ih =>
        intro hj
        cases hc : lh.getD j true with
        | true => rfl
        | false =>
          exfalso
          have hm : j ∈ Region.ready md l1.toArray lh := mem_ready.2 ⟨hc, l1[j], by simp [hj], fun e he hb => by
            have hlt := hA' j _ (List.getElem?_eq_getElem hj) e he hb
            have h1 := ih e.on hlt (by omega)
            have h2 : e.on < lh.size := by omega
            simpa [Array.getD, h2] using h1⟩
          rw [hr] at hm
          cases hm
    apply Array.ext
    · simpa using hs
    · intro i h1 h2
      have := key i (by omega)
      simpa [Array.getD, h1] using this
  have hend : ∀ (f : Nat) (lh : Array Bool) (a : Act) (w : World), lh.size = l1.length → Region.ready md l1.toArray lh = [] → R a w → wpAny P md (l1 ++ l2).toArray Q (f + l2.length) (lh ++ Array.replicate l2.length false) a w := by
    intro f lh a w hs hr h
    rw [hall lh hs hr]
    exact wpAny_le (hR a w h) f
  intro f
  induction f with
  | zero => intro lh a w hs h; exact hend 0 lh a w hs h.1 h.2
  | succ f ih =>
    intro lh a w hs h
    by_cases hr : Region.ready md l1.toArray lh = []
    · exact hend (f + 1) lh a w hs hr (h.1 hr)
    · obtain ⟨k, hk⟩ := List.exists_mem_of_ne_nil _ hr
      obtain ⟨hk1, ok, hok, _⟩ := mem_ready.1 hk
      have hkl : k < l1.length := by simpa using (Array.getElem?_eq_some_iff.1 hok).1
      have hks : lh[k]? = some false := by
        have h2 : k < lh.size := by omega
        simp [Array.getD, h2] at hk1
        simp [h2, hk1]
      have hmem : ∀ i, i ∈ Region.ready md (l1 ++ l2).toArray (lh ++ Array.replicate l2.length false) → i < l1.length ∧ i ∈ Region.ready md l1.toArray lh := by
        intro i hi
        obtain ⟨h1, o, ho, h3⟩ := mem_ready.1 hi
        by_cases hil : i < l1.length
        · have ho1 : l1[i]? = some o := by
            have : (l1 ++ l2)[i]? = some o := by simpa using ho
            rwa [List.getElem?_append_left hil] at this
          refine ⟨hil, mem_ready.2 ⟨?_, o, by simpa using ho1, fun e he hb => ?_⟩⟩
          · have h2 : i < lh.size := by omega
            simpa [Array.getD_eq_getD_getElem?, Array.getElem?_append_left h2] using h1
          · have hlt := hA' i o ho1 e he hb
            have h2 : e.on < lh.size := by omega
            have h4 := h3 e he hb
            simpa [Array.getD_eq_getD_getElem?, Array.getElem?_append_left h2] using h4
        · exfalso
          have ho2 : o ∈ l2 := by
            have : (l1 ++ l2)[i]? = some o := by simpa using ho
            rw [List.getElem?_append_right (by omega)] at this
            exact List.mem_of_getElem? this
          have h4 := hT o ho2 k hkl
          simp only [Array.any_eq_true', Bool.and_eq_true, beq_iff_eq] at h4
          obtain ⟨e, he, hb, hon⟩ := h4
          have h5 := h3 e he hb
          rw [hon] at h5
          have h2 : k < lh.size := by omega
          simp [Array.getD_eq_getD_getElem?, Array.getElem?_append_left h2, hks] at h5
      rw [show f + 1 + l2.length = (f + l2.length) + 1 from by omega]
      refine ⟨fun hn => ?_, fun i hi => ?_⟩
      · exfalso
        have : k ∈ Region.ready md (l1 ++ l2).toArray (lh ++ Array.replicate l2.length false) := by
          obtain ⟨_, o, ho, h3⟩ := mem_ready.1 hk
          have ho1 : l1[k]? = some o := by simpa using ho
          have h2 : k < lh.size := by omega
          refine mem_ready.2 ⟨by simp [Array.getD_eq_getD_getElem?, Array.getElem?_append_left h2, hks], o, by simp [List.getElem?_append_left hkl, ho1], fun e he hb => ?_⟩
          have hlt := hA' k o ho1 e he hb
          have h6 : e.on < lh.size := by omega
          have h4 := h3 e he hb
          simpa [Array.getD_eq_getD_getElem?, Array.getElem?_append_left h6] using h4
        rw [hn] at this
        cases this
      · obtain ⟨hil, hi2⟩ := hmem i hi
        have hw := h.2 i hi2
        have hl : (l1 ++ l2).toArray[i]? = l1.toArray[i]? := by simp [List.getElem?_append_left hil]
        have hgi : ∀ o, l1.toArray[i]? = some o → o.guard = none := fun o ho => by
          have : o ∈ l1 := List.mem_of_getElem? (by simpa using ho)
          simpa using hg o this
        have hset : (lh ++ Array.replicate l2.length false).setIfInBounds i true = lh.setIfInBounds i true ++ Array.replicate l2.length false := by
          rw [Array.setIfInBounds_append_left (by omega)]
        unfold wpOp at hw ⊢
        rw [hl]
        rw [hset]
        cases ho : l1.toArray[i]? with
        | none => rw [ho] at hw; exact ih _ _ _ (by simpa using hs) hw
        | some o =>
          rw [ho] at hw
          have hgo := hgi o ho
          simp only [Region.wanted, hgo, if_true] at hw ⊢
          rcases hw with hw | ⟨hw1, hw2⟩
          · exact .inl (Oper.wp_mono (fun a' w' h' => ih _ _ _ (by simpa using hs) h') (wp_headQ hw))
          · exact .inr ⟨hw1, hw2⟩
def splitB (l : List Oper) (n : Nat) : Bool :=
  tlB .any (l.take n) (l.drop n) && Region.seqB .any (l.take n ++ l.drop n).toArray (l.drop n).length (l.take n).length (Array.replicate (l.take n).length true ++ Array.replicate (l.drop n).length false)
theorem wp_region_split {id : Nat} {l : List Oper} {S : World → Prop} {a : Act} {w : World} (n : Nat) (hm : P.follows .mixedOrders = true) (hB : splitB l n = true) (hS : S w.drew)
    (h : S w.drew → wpAnyH P .any (l.take n).toArray (headQ (fun a w => wpList P l.toArray Q (l.drop n) a w) Q) S (l.take n).length (Array.replicate (l.take n).length false) a w.drew) :
    (Code.region id l.toArray true).wp P Q a w := by
  simp only [splitB, Bool.and_eq_true] at hB
  obtain ⟨h1, h2⟩ := hB
  have hl : l.take n ++ l.drop n = l := List.take_append_drop n l
  have h3 := wpAny_of_held _ _ _ _ (h hS)
  have h4 := wpAny_split (P := P) (Q := Q) h1 (R := fun a w => wpList P l.toArray Q (l.drop n) a w) (fun a w hw => by
    refine wpAny_of_seq (l.drop n) (l.take n).length _ a w (fun j => ?_) h2 (by rw [hl]; exact hw)
    simp only [List.getElem?_toArray]
    rw [List.getElem?_append_right (by omega)]
    congr 1
    omega) _ _ a w.drew (by simp) h3
  refine wp_region_any hm ?_
  rw [hl] at h4
  have e1 : l.toArray.size = (l.take n).length + (l.drop n).length := by rw [← List.length_append, hl]; simp
  rw [e1]
  have e2 : Array.replicate ((l.take n).length + (l.drop n).length) false = Array.replicate (l.take n).length false ++ Array.replicate (l.drop n).length false := by simp
  rw [e2]
  exact h4
theorem take_held {S : World → Prop} {l rest : List Oper} {oi : Oper} {v : Value} {fuel : Nat} {listed : Array Bool} {a : Act} {w : World} (i : Nat) (hd : l.drop i = oi :: rest)
    (hs : Region.noSelect l.toArray = true) (hf : Region.free md l.toArray listed i = true) (hr : (Region.ready md l.toArray listed).contains i = true)
    (hQ : ∀ c a w, Q (.panic c) (a.put oi.dst v) w → Q (.panic c) a w) (hy : YieldsIf P l.toArray S oi v a) (hS : S w)
    (h : wpAnyH P md l.toArray Q S fuel (listed.setIfInBounds i true) (a.put oi.dst v) w) : wpAnyH P md l.toArray Q S (fuel + 1) listed a w := by
  have hi : l.toArray[i]? = some oi := by
    have : (l.drop i)[0]? = some oi := by rw [hd]; rfl
    simpa using this
  exact wpAnyH_take hi hs hf hr hQ hy hS h
theorem cons_held {S : World → Prop} {l rest : List Oper} {o : Oper} {rs : List Nat} {fuel : Nat} {listed : Array Bool} {a : Act} {w : World} (i : Nat) (hd : l.drop i = o :: rest)
    (h : ∀ K' : Act → World → Prop, Shut (∀ a w, S w → (S w → wpAnyH P md l.toArray Q S fuel (listed.setIfInBounds i true) a w) → K' a w) → if Region.wanted o (yielded l.toArray a.tmps) = true then Oper.wp P o a w K' Q else K' (a.put o.dst undef) w)
    (hs : AllReadyH P md l.toArray Q S fuel listed a w rs) : AllReadyH P md l.toArray Q S fuel listed a w (i :: rs) := by
  have hi : l.toArray[i]? = some o := by
    have : (l.drop i)[0]? = some o := by rw [hd]; rfl
    simpa using this
  exact AllReadyH.cons hi h hs
end
end Go.Proofs.Herb
namespace Go.Proofs.Herb
open Go.RowKit
/-! what a crash leaves -/
def dirAt (s : DS) : Nat → Dir × Nat
  | 0 => (s.sured, s.sclock)
  | j + 1 => match s.changes[j]? with
    | some x => (turnDir (dirAt s j).1 (dirAt s j).2 x, turnClk (dirAt s j).1 (dirAt s j).2 x)
    | none => dirAt s j
def crash0 (s : DS) (j : Nat) : DS := ⟨s.room, -1, false, [], (dirAt s j).1, (dirAt s j).2, [], 0, []⟩
def keepAt (fl : List Int) (i : Nat) (f : DF) : Nat := f.sure + match fl[i]? with
  | some n => (withinI n ((f.b.length : Int) - (f.sure : Int))).toNat
  | none => 0
def crashAt (s : DS) (fl : List Int) (t0 : DS) (L : List ByteArray) : Nat → DS
  | 0 => t0
  | j + 1 => match L[j]? with
    | some k => let t := crashAt s fl t0 L j
      let f := (s.files[(look t.names k).getD 0]?).getD ⟨[], 0⟩
      { t with files := t.files ++ [⟨f.b.take (keepAt fl j f), keepAt fl j f⟩], names := dirSet t.names t.nclock k j, nclock := clkSet t.names t.nclock k }
    | none => crashAt s fl t0 L j
structure CrashSt (w wc : World) (dir : Int) (fa : Option Addr) (fn fc : Nat) (mo : DM) (t : DS) : Prop where
  at_ : DiskAt wc mo t
  below : Below w.heap.size w wc
  loss : wc.heap[w.heap.size]? = some (.cells #[.int .i64 dir, .slice fa fn fc] 49 (0, 0))
  fp : ∀ k ∈ mo.fp, w.heap.size < k
theorem DiskAt.fresh {w : World} {D M S : Nat} (room fuse : Int) (dead : Bool) (d d' : Dir) (c c' : Nat)
    (hD : w.heap[D]? = some (.cells #[.int .i64 room, .int .i64 fuse, .bool dead, .slice none 0 0, .map (some M), .map (some S), .slice none 0 0] 103 (0, 0)))
    (hM : w.heap[M]? = some (.map (encDir d) c)) (hS : w.heap[S]? = some (.map (encDir d') c')) (h1 : D ≠ M) (h2 : D ≠ S) (h3 : M ≠ S) :
    DiskAt w ⟨D, M, S, .slice none 0 0, .slice none 0 0, []⟩ ⟨room, fuse, dead, [], d, c, d', c', []⟩ :=
  ⟨hD, hM, hS, World.ownsRow_nil _ _ _ _, rfl, (fun i v f h => by cases h), World.ownsRow_nil _ _ _ _, by simp [DM.fp, Value.ownBlock, h1, h2, h3]⟩
theorem Below.alloc1 {b : Nat} {w w' : World} (h : Below b w w') (hb : b ≤ w.heap.size) (o : Obj) : Below b w (w'.alloc o) := h.alloc (Nat.le_trans hb h.size) o
theorem crash_held {m : DM} {s : DS} {w0 w' : World} (H : DiskAt w0 m s) (hb : Below w0.heap.size w0 w') : w'.cell? ⟨m.D, 0, none⟩ = some (.int .i64 s.room) ∧ w'.cell? ⟨m.D, 5, none⟩ = some (.map (some m.S)) ∧ Below w0.heap.size w0 w' := by
  obtain ⟨c0, _, _, _, _, c5, _⟩ := (H.below hb).cells
  exact ⟨c0, c5, hb⟩
theorem crash_new (w w0 : World) (hz : w0.heap.size = w.heap.size + 1) (o1 o2 o3 : Obj) :
    (((w0.alloc o1).alloc o2).alloc o3).drew.heap[w.heap.size + 1]? = some o1 ∧ (((w0.alloc o1).alloc o2).alloc o3).drew.heap[w.heap.size + 1 + 1]? = some o2 ∧ (((w0.alloc o1).alloc o2).alloc o3).drew.heap[w.heap.size + 1 + 1 + 1]? = some o3 ∧
      Below w0.heap.size w0 (((w0.alloc o1).alloc o2).alloc o3).drew := by
  refine ⟨?_, ?_, ?_, (Below.alloc1 (Below.alloc1 (Below.alloc1 (Below.refl _ _) (Nat.le_refl _) _) (Nat.le_refl _) _) (Nat.le_refl _) _).drew⟩
  · exact (heap_alloc_old _ _ (by simp; omega)).trans ((heap_alloc_old _ _ (by simp; omega)).trans (new_at (by omega)))
  · exact (heap_alloc_old _ _ (by simp; omega)).trans (new_at (by simp; omega))
  · exact new_at (by simp; omega)
theorem CrashSt.below' {w wc wd : World} {dir : Int} {fa : Option Addr} {fn fc : Nat} {mo : DM} {t : DS} (C : CrashSt w wc dir fa fn fc mo t) (h : Below wc.heap.size wc wd) : CrashSt w wd dir fa fn fc mo t :=
  ⟨C.at_.below h, C.below.trans (h.mono C.below.size), (h.block _ (lt_of_block C.loss)).trans C.loss, C.fp⟩
theorem cCells_at : ∀ (l : List DC) (j : Nat) (x : DC), l[j]? = some x → (cCells l)[j * 3]? = some (.string x.name) ∧ (cCells l)[j * 3 + 1]? = some (.int .i64 x.file) ∧ (cCells l)[j * 3 + 2]? = some (.string x.gone)
  | [], _, _, h => by simp at h
  | y :: l, 0, x, h => by
    simp only [List.getElem?_cons_zero, Option.some.injEq] at h
    subst h
    exact ⟨rfl, rfl, rfl⟩
  | y :: l, j + 1, x, h => by
    have h2 := cCells_at l j x (by simpa using h)
    have e : cCells (y :: l) = .string y.name :: .int .i64 y.file :: .string y.gone :: cCells l := rfl
    rw [e, show (j + 1) * 3 = j * 3 + 1 + 1 + 1 from by omega]
    simpa using h2
theorem DiskAt.change {w : World} {m : DM} {s : DS} (h : DiskAt w m s) {j : Nat} {x : DC} (hj : s.changes[j]? = some x) :
    ∃ g c, m.cv = .slice (some ⟨g, 0, none⟩) s.changes.length c ∧ w.cell? ⟨g, j * 3, none⟩ = some (.string x.name) ∧ w.cell? ⟨g, j * 3 + 1, none⟩ = some (.int .i64 x.file) ∧ w.cell? ⟨g, j * 3 + 2, none⟩ = some (.string x.gone) := by
  obtain ⟨hl, hx⟩ := h.changes
  rcases hx with ⟨_, h0⟩ | ⟨g, cap, cur, hv, _, hg, hnc, hcm, hcs, ht⟩
  · have := (List.getElem?_eq_some_iff.1 hj).1; omega
  · have hc : ∀ j v, (cCells s.changes)[j]? = some v → w.cell? ⟨g, j, none⟩ = some v := by
      intro j v hj
      rw [cell_of_row w g j _ _ _ hg]
      rw [← ht] at hj
      rw [List.getElem?_take] at hj
      split at hj
      · simpa using hj
      · cases hj
    obtain ⟨a1, a2, a3⟩ := cCells_at _ _ _ hj
    exact ⟨g, cap, hv, hc _ _ a1, hc _ _ a2, hc _ _ a3⟩
theorem CrashSt.turn {w wc wd : World} {dir : Int} {fa : Option Addr} {fn fc : Nat} {mo : DM} {t : DS} (C : CrashSt w wc dir fa fn fc mo t) {d : Dir} {c : Nat} (O : OneMap wc wd mo.M d c) : CrashSt w wd dir fa fn fc mo { t with names := d, nclock := c } := by
  have hM : w.heap.size < mo.M := C.fp _ (by simp [DM.fp])
  refine ⟨C.at_.turnM O, C.below.trans ((O.mod (m := mo)).below C.below.size (fun k hk => Nat.le_of_lt (C.fp k hk))), (O.other _ (lt_of_block C.loss) (by omega)).trans C.loss, C.fp⟩
theorem CrashSt.mod {w wc we : World} {dir : Int} {fa : Option Addr} {fn fc : Nat} {mo mo2 : DM} {t t2 : DS} (C : CrashSt w wc dir fa fn fc mo t) (hd : DiskAt we mo2 t2) (hm : Mod mo.fp mo2.fp wc we) : CrashSt w we dir fa fn fc mo2 t2 :=
  ⟨hd, C.below.trans (hm.below C.below.size (fun k hk => Nat.le_of_lt (C.fp k hk))), (hm.block _ (lt_of_block C.loss) (fun h => by have := C.fp _ h; omega)).trans C.loss, fun k hk => by
    rcases hm.grow k hk with h | h
    · exact C.fp k h
    · have := lt_of_block C.loss; omega⟩
theorem crashAt_next {s : DS} {fl : List Int} {T0 T : DS} {L : List ByteArray} {j i : Nat} {k : ByteArray} {fb : List UInt8} {fs bn kd F : Nat} (hT : T = crashAt s fl T0 L j) (hk : L[j]? = some k) (hl : look T.names k = some i) (hi : i < s.files.length)
    (h1 : fb = s.files[i].b) (h2 : fs = s.files[i].sure) (h3 : bn = fb.length) (h4 : kd = (match fl[j]? with | some n => (withinI n ((bn : Int) - (fs : Int))).toNat | none => 0)) (h5 : F = fs + kd) :
    crashAt s fl T0 L (j + 1) = { T with files := T.files ++ [⟨fb.take F, F⟩], names := dirSet T.names T.nclock k j, nclock := clkSet T.names T.nclock k } := by
  have hF : keepAt fl j s.files[i] = F := by
    unfold keepAt
    rw [← h1, ← h2, ← h3, h5, h4]
  rw [crashAt, hk]
  dsimp only
  rw [← hT, hl, Option.getD_some, List.getElem?_eq_getElem hi, Option.getD_some, hF, h1]
theorem fr_base {w : World} {base : Nat} {e : TypeId} {k : Nat} {q : Option Addr} {n c : Nat} {xs : List Value} (h : Fr w base e k (.slice q n c) n xs) {nb off : Nat} (hq : q = some ⟨nb, off, none⟩) : base ≤ nb := by
  obtain ⟨_, h⟩ := h
  rcases h with ⟨h0, _⟩ | ⟨g, cap, cur, hv, hg, _⟩
  · cases h0; cases hq
  · cases hv; cases hq; exact hg
theorem setS_fp {m : DM} {n k : Nat} (h : k ∈ ({ m with S := n } : DM).fp) : k ∈ m.fp ∨ k = n := by
  simp only [DM.fp, List.mem_cons] at h ⊢
  rcases h with h | h | h | h
  · exact .inl (.inl h)
  · exact .inl (.inr (.inl h))
  · exact .inr h
  · exact .inl (.inr (.inr (.inr h)))
theorem setS_nodup {m : DM} {n : Nat} (h : m.fp.Nodup) (hn : n ∉ m.fp) : ({ m with S := n } : DM).fp.Nodup := by
  simp only [DM.fp, List.nodup_cons, List.mem_cons, not_or] at h hn ⊢
  obtain ⟨⟨a1, _, a3⟩, ⟨_, b2⟩, _, t⟩ := h
  obtain ⟨n1, n2, _, n4⟩ := hn
  exact ⟨⟨a1, Ne.symm n1, a3⟩, ⟨Ne.symm n2, b2⟩, n4, t⟩
theorem DiskAt.setS {w w' : World} {m : DM} {s : DS} (h : DiskAt w m s) {n : Nat} (hn : n ∉ m.fp)
    (hD : w'.heap[m.D]? = some (.cells #[.int .i64 s.room, .int .i64 s.fuse, .bool s.dead, m.fv, .map (some m.M), .map (some n), m.cv] 103 (0, 0)))
    (hN : w'.heap[n]? = some (.map (encDir s.names) s.nclock)) (hk : ∀ k, k ∈ m.fp → k ≠ m.D → w'.heap[k]? = w.heap[k]?) :
    DiskAt w' { m with S := n } { s with sured := s.names, sclock := s.nclock } := by
  obtain ⟨h1, h2, _, hf, hc, hb⟩ := h.notD
  exact ⟨hD, (hk _ (by simp [DM.fp]) (Ne.symm h1)).trans h.names, hN, own_keep h.files (fun g hg => hk g (mem_fp_f hg) (hf g hg).1), h.len,
    fun i v f hv hff => own_keep (h.bytes i v f hv hff) (fun g hg => hk g (mem_fp_b hv hg) (hb i v g hv hg).1), own_keep h.changes (fun g hg => hk g (mem_fp_c hg) (hc g hg).1), setS_nodup h.nodup hn⟩
theorem crash0_next {s : DS} {j : Nat} {x : DC} (h : s.changes[j]? = some x) : crash0 s (j + 1) = { crash0 s j with names := turnDir (dirAt s j).1 (dirAt s j).2 x, nclock := turnClk (dirAt s j).1 (dirAt s j).2 x } := by
  unfold crash0
  rw [dirAt, h]
theorem crashAt_many (s : DS) (fl : List Int) (t0 : DS) (L : List ByteArray) : ∀ j, (crashAt s fl t0 L j).files.length ≤ t0.files.length + j
  | 0 => Nat.le_refl _
  | j + 1 => by
    have := crashAt_many s fl t0 L j
    unfold crashAt
    split
    · simp only [List.length_append, List.length_singleton]; omega
    · omega
theorem cutF (fs kd F k0 : Nat) (h : F = fs + kd) (h2 : F ≤ 4194304) (h3 : F ≤ k0) : (fs : Int) + (kd : Int) = (F : Int) ∧ IntKind.i64.wrap (F : Int) = (F : Int) ∧ ((F : Int)).toNat = F ∧ (F : Int) ≤ (k0 : Int) ∧ (0 : Int) ≤ (F : Int) :=
  ⟨by omega, by rw [IntKind.wrap_i64]; omega, by omega, by omega, by omega⟩
theorem takeF {fb : List UInt8} {bn F : Nat} (h : bn = fb.length) (h2 : F ≤ bn) : (fb.take F).length = F := by
  rw [List.length_take]; omega
theorem leF {fs kd F bn k0 : Nat} (h : F = fs + kd) (h1 : fs + kd ≤ bn) (h2 : bn ≤ k0) (h3 : bn ≤ 4194304) : F ≤ bn ∧ F ≤ k0 ∧ F ≤ 4194304 := by omega
theorem crashAt_few {s : DS} {fl : List Int} {T0 T : DS} {L : List ByteArray} {j J N : Nat} (hT : T = crashAt s fl T0 L j) (h0 : T0 = crash0 s J) (hj : j ≤ N) (hN : N ≤ 1000000000) : T.files.length ≤ 1000000000 := by
  have h := crashAt_many s fl T0 L j
  rw [← hT, h0] at h
  have : (crash0 s J).files.length = 0 := rfl
  omega
theorem crash18 {w wc w2 : World} {dir : Int} {fa : Option Addr} {fn fc : Nat} {mo' : DM} {T : DS} {D B : Nat} {q0 qv : Option Addr} {bn k0 fs F cv : Nat} (C : CrashSt w wc dir fa fn fc mo' T) (hD : mo'.D = D)
    (hbx : wc.heap[B]? = some (.cells #[.slice q0 bn k0, .int .i64 (fs : Int)] 109 (0, 0))) (hb : Below wc.heap.size wc w2) :
    Hid (CrashSt w w2 dir fa fn fc mo' T) ∧ Hid (Below wc.heap.size wc w2) ∧ w2.cell? ⟨B, 0, none⟩ = some (.slice q0 bn k0) ∧ w2.cell? ⟨B, 1, none⟩ = some (.int .i64 (fs : Int)) ∧
      (w2.alloc (.cells #[.slice qv F cv, .int .i64 (F : Int)] 109)).cell? ⟨B, 0, none⟩ = some (.slice q0 bn k0) ∧ (w2.alloc (.cells #[.slice qv F cv, .int .i64 (F : Int)] 109)).cell? ⟨B, 1, none⟩ = some (.int .i64 (fs : Int)) ∧
      w2.cell? ⟨D, 3, none⟩ = some mo'.fv ∧ (w2.alloc (.cells #[.slice qv F cv, .int .i64 (F : Int)] 109)).cell? ⟨D, 3, none⟩ = some mo'.fv := by
  have h2 := (hb.block B (lt_of_block hbx)).trans hbx
  have C2 := C.below' hb
  have h3 := (heap_alloc_old w2 (.cells #[.slice qv F cv, .int .i64 (F : Int)] 109) (lt_of_block h2)).trans h2
  have d2 := C2.at_.disk
  rw [hD] at d2
  have d3 := (heap_alloc_old w2 (.cells #[.slice qv F cv, .int .i64 (F : Int)] 109) (lt_of_block d2)).trans d2
  exact ⟨hid C2, hid hb, cell_of_row w2 B 0 _ _ _ h2, cell_of_row w2 B 1 _ _ _ h2, cell_of_row _ B 0 _ _ _ h3, cell_of_row _ B 1 _ _ _ h3, cell_of_row w2 D 3 _ _ _ d2, cell_of_row _ D 3 _ _ _ d3⟩
theorem crash18b {w wc w2 w3 : World} {dir : Int} {fa : Option Addr} {fn fc : Nat} {mo' : DM} {T : DS} {D B : Nat} {q0 qv : Option Addr} {bn k0 fs F cv : Nat} {V : Value} (hlt : ∀ k ∈ mo'.fp, k < B) (C : CrashSt w wc dir fa fn fc mo' T) (hD : mo'.D = D)
    (hbx : wc.heap[B]? = some (.cells #[.slice q0 bn k0, .int .i64 (fs : Int)] 109 (0, 0))) (hb : Below wc.heap.size wc w2) (hg : (w2.alloc (.cells #[.slice qv F cv, .int .i64 (F : Int)] 109)).grownBy w3 mo'.fv.ownBlock) :
    w3.cell? ⟨B, 0, none⟩ = some (.slice q0 bn k0) ∧ w3.cell? ⟨B, 1, none⟩ = some (.int .i64 (fs : Int)) ∧ w3.cell? ⟨D, 3, none⟩ = some mo'.fv ∧ w3.frozen? ⟨D, 3, none⟩ = false ∧
      (w3.setCell ⟨D, 3, none⟩ V).cell? ⟨B, 0, none⟩ = some (.slice q0 bn k0) ∧ (w3.setCell ⟨D, 3, none⟩ V).cell? ⟨B, 1, none⟩ = some (.int .i64 (fs : Int)) := by
  have h2 := (hb.block B (lt_of_block hbx)).trans hbx
  have C2 := C.below' hb
  have h3 := (heap_alloc_old w2 (.cells #[.slice qv F cv, .int .i64 (F : Int)] 109) (lt_of_block h2)).trans h2
  have d2 := C2.at_.disk
  rw [hD] at d2
  have d3 := (heap_alloc_old w2 (.cells #[.slice qv F cv, .int .i64 (F : Int)] 109) (lt_of_block d2)).trans d2
  have hBf : some B ≠ mo'.fv.ownBlock := fun e => by have := hlt B (mem_fp_f e.symm); omega
  have hDf : some D ≠ mo'.fv.ownBlock := fun e => (C.at_.notD.2.2.2.1 D e.symm).1 hD.symm
  have h4 := (hg.block B (lt_of_block h3) hBf).trans h3
  have d4 := (hg.block D (lt_of_block d3) hDf).trans d3
  have hDB : B ≠ D := fun e => by have := hlt mo'.D (by simp [DM.fp]); omega
  have h5 : (w3.setCell ⟨D, 3, none⟩ V).heap[B]? = _ := (heap_setCell_other _ _ _ _ hDB).trans h4
  exact ⟨cell_of_row w3 B 0 _ _ _ h4, cell_of_row w3 B 1 _ _ _ h4, cell_of_row w3 D 3 _ _ _ d4, frozen_of_row w3 D 3 _ _ d4, cell_of_row _ B 0 _ _ _ h5, cell_of_row _ B 1 _ _ _ h5⟩
theorem wrapB (a b : Nat) (h : b ≤ a) (h2 : a ≤ 4194304) : wrap64 ((a : Int) - (b : Int)) = (a : Int) - (b : Int) := by
  unfold wrap64
  omega
theorem withinB (n : Int) (a b : Nat) (h : b ≤ a) : ((withinI n ((a : Int) - (b : Int))).toNat : Int) = withinI n ((a : Int) - (b : Int)) ∧ b + (withinI n ((a : Int) - (b : Int))).toNat ≤ a := by
  unfold withinI
  omega
theorem withinJ (n : Int) (k : Nat) : ((withinI n (k : Int)).toNat : Int) = withinI n (k : Int) ∧ (withinI n (k : Int)).toNat ≤ k := by
  unfold withinI
  omega
theorem sortedK_len (d : Dir) : (sortedK d).length = d.length := by unfold sortedK; rw [List.length_mergeSort, List.length_map]
theorem names_at {w : World} {q : Option Addr} {d : Dir} {j : Nat} (h : Rd w q ((sortedK d).map encStr)) (hj : j < (sortedK d).length) :
    ∃ b off k, q = some ⟨b, off, none⟩ ∧ w.cell? ⟨b, off + j, none⟩ = some (.string k) ∧ ((sortedK d).map ofL)[j]? = some k := by
  rcases h with h0 | ⟨b, off, hq, hr⟩
  · have : (sortedK d) = [] := by simpa using h0
    rw [this] at hj; simp at hj
  · exact ⟨b, off, ofL (sortedK d)[j], hq, hr j _ (by rw [List.getElem?_map, List.getElem?_eq_getElem hj]; rfl), by rw [List.getElem?_map, List.getElem?_eq_getElem hj]; rfl⟩
structure CrashOk (s : DS) (fl : List Int) (t0 : DS) : Prop where
  keys : DirKeys t0.names t0.nclock
  look : ∀ (j : Nat) (k : ByteArray), ((sortedK t0.names).map ofL)[j]? = some k → ∃ i, look (crashAt s fl t0 ((sortedK t0.names).map ofL) j).names k = some i ∧ i < s.files.length
  sure : ∀ f ∈ s.files, f.sure ≤ f.b.length ∧ f.b.length ≤ 4194304
def crashJ (s : DS) (dir : Int) : Nat := (withinI dir (s.changes.length : Int)).toNat
def crashT (s : DS) (dir : Int) (fl : List Int) : DS :=
  crashAt s fl (crash0 s (crashJ s dir)) ((sortedK (crash0 s (crashJ s dir)).names).map ofL) (sortedK (crash0 s (crashJ s dir)).names).length
def crashS (s : DS) (dir : Int) (fl : List Int) : DS := { crashT s dir fl with sured := (crashT s dir fl).names, sclock := (crashT s dir fl).nclock }
set_option maxRecDepth 100000 in
set_option maxHeartbeats 1600000 in
theorem crash_any (m : DM) (s : DS) (dir : Int) (fa : Option Addr) (fn fc : Nat) (fl : List Int) (w : World) (h : DiskAt w m s) (hn : fl.length = fn) (hr : Rd w fa (fl.map (Value.int .i64))) (hch : s.changes.length ≤ 1000000000)
    (hok : CrashOk s fl (crash0 s (crashJ s dir))) :
    Calls Tryz.prog 18 #[.pointer (some ⟨m.D, 0, none⟩), .agg #[.int .i64 dir, .slice fa fn fc]] w fun e w' => ∃ mo : DM, e = .returned (.tuple #[.pointer (some ⟨mo.D, 0, none⟩), .int .i64 0]) ∧ DiskAt w' mo (crashS s dir fl) ∧ Below w.heap.size w w' ∧ ∀ k ∈ mo.fp, w.heap.size < k := by
  have HOk := hid hok
  have Hn := hid hn
  have Hr := hid hr
  clear hok hn hr
  have H := hid h
  have hDl := lt_of_block h.disk
  clear h
  have hmm := @run_makeMap Tryz.prog
  go_enter Tryz.func18, Tryz.ntmps18
  go_wp2
  refine wp_scope_straight ?_
  go_upto_region 3 with (go_at_call 60; refine (there_any m s _ (H.out.below ((Below.refl _ _).alloc (Nat.le_refl _) _))).mono ?_; rintro e w' ⟨rfl, rfl⟩)
  have HL := hid (show (w.alloc (.cells #[.int .i64 dir, .slice fa fn fc] 49)).heap[w.heap.size]? = some (.cells #[.int .i64 dir, .slice fa fn fc] 49 (0, 0)) from heap_alloc_new _ _)
  obtain ⟨w0, hw0⟩ : ∃ w0, w0 = w.alloc (.cells #[.int .i64 dir, .slice fa fn fc] 49) := ⟨_, rfl⟩
  have hB0 : Below w.heap.size w w0 := by rw [hw0]; exact (Below.refl _ _).alloc (Nat.le_refl _) _
  have hz0 : w0.heap.size = w.heap.size + 1 := by rw [hw0]; simp
  rw [← hw0] at HL ⊢
  have H0 := hid (H.out.below hB0)
  have HB0 := hid hB0
  clear hB0 hw0
  obtain ⟨c0, c1, c2, c3, c4, c5, c6⟩ := H0.out.cells
  clear c1 c2 c3 c4 c6
  go_cut [6] (fun s6 wc => ∃ mo, s6 = .pointer (some ⟨mo.D, 0, none⟩) ∧ CrashSt w wc dir fa fn fc mo (crash0 s 0))
  case first =>
    go_region_held3 (fun w' => w'.cell? ⟨m.D, 0, none⟩ = some (.int .i64 s.room) ∧ w'.cell? ⟨m.D, 5, none⟩ = some (.map (some m.S)) ∧ Below w0.heap.size w0 w') (first | exact crash_held H0.out (Below.refl _ _).drew | exact crash_held H0.out (Below.alloc1 (Below.refl _ _) (Nat.le_refl _) _).drew | exact crash_held H0.out (Below.alloc1 (Below.alloc1 (Below.refl _ _) (Nat.le_refl _) _) (Nat.le_refl _) _).drew | exact crash_held H0.out (Below.alloc1 (Below.alloc1 (Below.alloc1 (Below.refl _ _) (Nat.le_refl _) _) (Nat.le_refl _) _) (Nat.le_refl _) _).drew) (first | (go_at_call 59; refine (clone_any m.S (encDir s.sured) s.sclock _ ?_).mono ?_; (first | exact (H0.out.below (Below.refl _ _).drew).sured | exact (H0.out.below (Below.alloc1 (Below.refl _ _) (Nat.le_refl _) _).drew).sured); rintro e w2 ⟨rfl, rfl⟩; dsimp only))
    all_goals go_wp2_with fail
    all_goals go_meet
    · obtain ⟨n1, n2, n3, n4⟩ := crash_new w w0 hz0 (.map (encDir s.sured) s.sclock) (.map #[] 0) (.cells #[.int .i64 s.room, .int .i64 (-1), .bool false, .slice none 0 0, .map (some (w.heap.size + 1)), .map (some (w.heap.size + 1 + 1)), .slice none 0 0] 103)
      refine ⟨⟨w.heap.size + 1 + 1 + 1, w.heap.size + 1, w.heap.size + 1 + 1, .slice none 0 0, .slice none 0 0, []⟩, rfl, DiskAt.fresh _ _ _ _ _ _ _ n3 n1 n2 (by omega) (by omega) (by omega), HB0.out.trans (n4.mono (by omega)), (n4.block _ (by omega)).trans HL.out, fun k hk => ?_⟩
      simp [DM.fp, Value.ownBlock] at hk
      omega
    · obtain ⟨n1, n2, n3, n4⟩ := crash_new w w0 hz0 (.map #[] 0) (.map (encDir s.sured) s.sclock) (.cells #[.int .i64 s.room, .int .i64 (-1), .bool false, .slice none 0 0, .map (some (w.heap.size + 1 + 1)), .map (some (w.heap.size + 1)), .slice none 0 0] 103)
      refine ⟨⟨w.heap.size + 1 + 1 + 1, w.heap.size + 1 + 1, w.heap.size + 1, .slice none 0 0, .slice none 0 0, []⟩, rfl, DiskAt.fresh _ _ _ _ _ _ _ n3 n2 n1 (by omega) (by omega) (by omega), HB0.out.trans (n4.mono (by omega)), (n4.block _ (by omega)).trans HL.out, fun k hk => ?_⟩
      simp [DM.fp, Value.ownBlock] at hk
      omega
  case rest =>
    obtain ⟨mo, rfl, C⟩ := hcut
    rename_i hK
    refine hK _ _ ?_
    clear hK c0 c5
    have HC := hid C
    have e0 := cell_of_row wc w.heap.size 0 _ _ _ C.loss
    have hcs := (H.out.below C.below).changes
    obtain ⟨qc, kc, hcv, hc1, hc2, hc3⟩ := own_shape hcs
    obtain ⟨_, _, _, _, _, _, c6⟩ := (H.out.below C.below).cells
    rw [hcv] at c6
    have HCv := hid hcv
    clear C hcs hcv
    go_upto_region 4 with fail
    go_cut [7] (fun s7 wd => s7 = .int .i64 (withinI dir (s.changes.length : Int)) ∧ Below wc.heap.size wc wd)
    case first =>
      refine wp_region_still_tail 7 (by kernel_rfl) (by kernel_rfl) ?_
      simp only [List.take_succ_cons, List.take_zero, List.drop_succ_cons, List.drop_zero]
      change wpStill Tryz.prog _ wc.drew (fun a' => wpList _ _ _ _ a' wc.drew) _ _
      obtain ⟨w6, hw6, hB6⟩ : ∃ w6, wc.drew = w6 ∧ Below wc.heap.size wc w6 := ⟨_, rfl, (Below.refl _ _).drew⟩
      have e0' : w6.cell? ⟨w.heap.size, 0, none⟩ = some (.int .i64 dir) := by rw [← hw6]; exact e0
      have c6' : w6.cell? ⟨m.D, 6, none⟩ = some (.slice qc s.changes.length kc) := by rw [← hw6]; exact c6
      rw [hw6]
      have HB6 := hid hB6
      clear hw6 hB6 e0 c6
      still_step
      still_step
      still_step
      still_step
      still_step
      still_step
      still_step
      refine wpStill_nil ?_
      go_wp2_with (go_at_call 61; refine (within_any dir (s.changes.length : Int) _).mono ?_; rintro e w2 ⟨rfl, rfl⟩)
      go_meet
      exact ⟨rfl, HB6.out⟩
    case rest =>
      obtain ⟨rfl, hBd⟩ := hcut
      rename_i hK
      refine hK _ _ ?_
      have HC2 := hid (HC.out.below' hBd)
      clear hK hBd HC e0 c6
      refine wp_seq_k ?_
      intro K1 hK1
      refine wp_label ?_
      refine hK1 _ _ ?_
      clear hK1
      refine wp_seq_k ?_
      intro K2 hK2
      obtain ⟨hJ1, hJ2⟩ := withinJ dir s.changes.length
      obtain ⟨J, hJ⟩ : ∃ J, J = (withinI dir (s.changes.length : Int)).toNat := ⟨_, rfl⟩
      rw [← hJ] at hJ1 hJ2
      rw [← hJ1]
      have HJ := hid hJ
      clear hJ hJ1
      go_cut [] (fun wd => CrashSt w wd dir fa fn fc mo (crash0 s J))
      case first =>
        obtain ⟨_, _, _, _, _, _, c6⟩ := (H.out.below HC2.out.below).cells
        rw [HCv.out] at c6
        go_wp2
        go_loopw [7, 42] (fun a i wr => ∃ (j : Nat) (L : Int), a = .int .i64 L ∧ i = .int .i64 (j : Int) ∧ j ≤ J ∧ L = (J : Int) - (j : Int) ∧ CrashSt w wr dir fa fn fc mo (crash0 s j)) (fun _ i _ => J - (intOf i).toNat)
        case atStart => exact ⟨0, J, rfl, rfl, Nat.zero_le _, by simp, HC2.out⟩
        case round =>
          obtain ⟨j, L, rfl, rfl, hj, hL, C⟩ := hrel
          have HC3 := hid C
          clear C
          by_cases hlt : j < s.changes.length
          · have hx := List.getElem?_eq_getElem hlt
            obtain ⟨x, hxe⟩ : ∃ x, x = s.changes[j] := ⟨_, rfl⟩
            rw [← hxe] at hx
            obtain ⟨g, kg, hg, g0, g1, g2⟩ := (H.out.below HC3.out.below).change hx
            have hqc : qc = some ⟨g, 0, none⟩ := by
              have e := HCv.out.symm.trans hg
              cases e; rfl
            subst hqc
            have Hx := hid hx
            clear hxe hx hg
            by_cases hjJ : j < J
            · have b1 : (L == 0) = false := by simp; omega
              go_upto_region 9 with fail
              obtain ⟨W, hW⟩ : ∃ W, W = wr.alloc (.cells #[.string x.name, .int .i64 x.file, .string x.gone] 106) := ⟨_, rfl⟩
              have hbx : W.heap[wr.heap.size]? = some (.cells #[.string x.name, .int .i64 x.file, .string x.gone] 106 (0, 0)) := by rw [hW]; exact heap_alloc_new _ _
              have hCW : CrashSt w W dir fa fn fc mo (crash0 s j) := by rw [hW]; exact HC3.out.below' ((Below.refl _ _).alloc (Nat.le_refl _) _)
              rw [← hW]
              clear hW g0 g1 g2
              refine wp_region_still_tail 5 (by kernel_rfl) (by kernel_rfl) ?_
              simp only [List.take_succ_cons, List.take_zero, List.drop_succ_cons, List.drop_zero]
              change wpStill Tryz.prog _ W.drew (fun a' => wpList _ _ _ _ a' W.drew) _ _
              obtain ⟨w6, hw6, hB6⟩ : ∃ w6, W.drew = w6 ∧ Below W.heap.size W w6 := ⟨_, rfl, (Below.refl _ _).drew⟩
              rw [hw6]
              have hb6 := (hB6.block _ (lt_of_block hbx)).trans hbx
              have r0 := cell_of_row w6 wr.heap.size 0 _ _ _ hb6
              have r1 := cell_of_row w6 wr.heap.size 1 _ _ _ hb6
              have r2 := cell_of_row w6 wr.heap.size 2 _ _ _ hb6
              have hC6 := hCW.below' hB6
              obtain ⟨_, _, _, _, c4, _, _⟩ := hC6.at_.cells
              have HC6 := hid hC6
              clear hw6 hB6 hb6 hbx hCW hC6
              still_step
              still_step
              still_step
              still_step
              still_step
              refine wpStill_nil ?_
              go_wp2_with (go_at_call 62; refine (turnDir_any mo.M (crash0 s j).names (crash0 s j).nclock x _ HC6.out.at_.names).mono ?_; rintro e w7 ⟨rfl, O⟩; have HO := hid O; clear O)
              go_roundw
              case rel =>
                refine ⟨j + 1, (J : Int) - (j : Int) - 1, by go_num, by go_num, by omega, by omega, ?_⟩
                rw [crash0_next Hx.out]
                exact HC6.out.turn HO.out
              case measure => simp [intOf]; omega
            · obtain rfl : j = J := by omega
              have b1 : (L == 0) = true := by simp; omega
              go_wp2
              go_meet
              exact HC3.out.below' ((Below.refl _ _).alloc (Nat.le_refl _) _)
          · obtain rfl : j = J := by omega
            go_wp2
            go_meet
            exact HC3.out
      case rest =>
        refine hK2 _ _ ?_
        have HC3 := hid hcut
        clear hK2 hcut HC2
        have HOk2 : Hid (CrashOk s fl (crash0 s J)) := hid (by rw [HJ.out]; exact HOk.out)
        obtain ⟨T0, hT0⟩ : ∃ T0, T0 = crash0 s J := ⟨_, rfl⟩
        obtain ⟨NL, hNL⟩ : ∃ NL, NL = (sortedK T0.names).map ofL := ⟨_, rfl⟩
        obtain ⟨N, hN⟩ : ∃ N, N = (sortedK T0.names).length := ⟨_, rfl⟩
        rw [← hT0] at HC3 HOk2
        have HT0 := hid hT0
        have HNL := hid hNL
        have HN := hid hN
        have hNm : N ≤ 1000000000 := by rw [hN, sortedK_len]; exact HOk2.out.keys.many
        clear hT0 hNL hN
        refine wp_seq_k ?_
        intro K3 hK3
        go_cut [] (fun wd => ∃ mo' : DM, mo'.D = mo.D ∧ CrashSt w wd dir fa fn fc mo' (crashAt s fl T0 NL N))
        case first =>
          go_wp2_with (go_at_call 21; refine (list_any mo T0 _ HC3.out.at_ HOk2.out.keys).mono ?_; rintro e w1 ⟨q, rfl, hFr, hB1⟩; rw [← HN.out] at hFr ⊢; have HFr := hid hFr; have HB1 := hid hB1; clear hFr hB1)
          go_loopw [60] (fun i wr => ∃ (j : Nat) (mo' : DM), i = .int .i64 (j : Int) ∧ j ≤ N ∧ mo'.D = mo.D ∧ CrashSt w wr dir fa fn fc mo' (crashAt s fl T0 NL j) ∧ Rd wr q ((sortedK T0.names).map encStr) ∧ (∀ nb off, q = some ⟨nb, off, none⟩ → nb ∉ mo'.fp)) (fun i _ => N - (intOf i).toNat)
          case atStart =>
            refine ⟨0, mo, rfl, Nat.zero_le _, rfl, HC3.out.below' HB1.out, HFr.out.rd, fun nb off e h => ?_⟩
            have h1 := HC3.out.at_.lt nb h
            have h2 := fr_base HFr.out e
            omega
          case round =>
            obtain ⟨j, mo', rfl, hj, hD, C, hRq, hqn⟩ := hrel
            have HC := hid C
            have HRq := hid hRq
            have HQn := hid hqn
            clear C hRq hqn
            by_cases hlt : j < N
            · obtain ⟨nb, off, k, rfl, hcell, hk⟩ := names_at HRq.out (by rw [← HN.out]; exact hlt)
              rw [← HNL.out] at hk
              obtain ⟨i, hlook, hil⟩ := HOk2.out.look j k (by rw [← HNL.out]; exact hk)
              rw [← HNL.out] at hlook
              have Hk := hid hk
              have Hlook := hid hlook
              clear hk hlook
              go_upto_region 15 with fail
              obtain ⟨g, cf, q0, k0, hfv, hcf, z1, hk1, hk2, hqn0, g0, g1, hrd, z2, z3⟩ := (H.out.below HC.out.below).file hil
              clear z1 z2 z3
              have i1 : (i : Int) < (s.files.length : Int) := by omega
              have i0 : (0 : Int) ≤ (i : Int) := by omega
              obtain ⟨fb, hfb⟩ : ∃ fb, fb = s.files[i].b := ⟨_, rfl⟩
              obtain ⟨fs, hfs⟩ : ∃ fs, fs = s.files[i].sure := ⟨_, rfl⟩
              obtain ⟨bn, hbn⟩ : ∃ bn, bn = fb.length := ⟨_, rfl⟩
              rw [← hfb, ← hbn] at hk1 g0
              rw [← hfs] at g1
              rw [← hfb] at hrd
              have HS : Hid (∀ w', Below wr.heap.size wr w' → w'.cell? ⟨m.D, 3, none⟩ = some (.slice (some ⟨g, 0, none⟩) s.files.length cf) ∧ w'.cell? ⟨mo.D, 4, none⟩ = some (.map (some mo'.M)) ∧ w'.cell? ⟨g, i * 2, none⟩ = some (.slice q0 bn k0) ∧ w'.cell? ⟨g, i * 2 + 1, none⟩ = some (.int .i64 (fs : Int)) ∧ (Instr.lookup 98 (.map (some mo'.M)) (.string k) false).run Tryz.prog w' = .ok (.int .i64 (i : Int)) w') := by
                refine hid fun w' hb => ?_
                have hC6 := HC.out.below' hb
                have c3 := (H.out.below hC6.below).cells.2.2.2.1
                rw [hfv] at c3
                obtain ⟨_, _, _, _, c4, _, _⟩ := hC6.at_.cells
                rw [hD] at c4
                have hlk := run_lookup w' mo'.M (crashAt s fl T0 NL j).names (crashAt s fl T0 NL j).nclock k false hC6.at_.names
                rw [Hlook.out] at hlk
                exact ⟨c3, c4, (hb.cell (World.block_lt_of_cell? wr _ g0)).trans g0, (hb.cell (World.block_lt_of_cell? wr _ g1)).trans g1, hlk⟩
              have Hrd := hid hrd
              have Hfb := hid hfb
              have Hfs := hid hfs
              have Hbn := hid hbn
              have Hq0 := hid hqn0
              clear hrd hfb hfs hbn hqn0 hfv g0 g1
              go_cut [12, 13] (fun s12 s13 wd => s12 = .pointer (some ⟨wr.heap.size, 0, none⟩) ∧ s13 = .int .i64 0 ∧ Below wr.heap.size wr wd ∧ wd.heap[wr.heap.size]? = some (.cells #[.slice q0 bn k0, .int .i64 (fs : Int)] 109 (0, 0)))
              case first =>
                go_region_held3 (fun w' => w'.cell? ⟨m.D, 3, none⟩ = some (.slice (some ⟨g, 0, none⟩) s.files.length cf) ∧ w'.cell? ⟨mo.D, 4, none⟩ = some (.map (some mo'.M)) ∧ w'.cell? ⟨g, i * 2, none⟩ = some (.slice q0 bn k0) ∧ w'.cell? ⟨g, i * 2 + 1, none⟩ = some (.int .i64 (fs : Int)) ∧ (Instr.lookup 98 (.map (some mo'.M)) (.string k) false).run Tryz.prog w' = .ok (.int .i64 (i : Int)) w') (first | exact HS.out _ (Below.refl _ _).drew | exact HS.out _ (Below.alloc1 (Below.refl _ _) (Nat.le_refl _) _).drew) (fail)
                all_goals go_wp2_with fail
                all_goals go_meet
                all_goals exact ⟨rfl, rfl, (Below.alloc1 (Below.refl _ _) (Nat.le_refl _) _).drew, heap_alloc_new _ _⟩
              case rest =>
                obtain ⟨rfl, rfl, hBd, hbx⟩ := hcut
                have HC4 := hid (HC.out.below' hBd)
                have HRq4 := hid (HRq.out.below hBd)
                have HRd4 := hid (Hrd.out.below hBd)
                have hsu := HOk2.out.sure _ (List.getElem_mem hil)
                rw [← Hfs.out, ← Hfb.out, ← Hbn.out] at hsu
                obtain ⟨hsu1, hsu2⟩ := hsu
                have e1 : wc.cell? ⟨w.heap.size, 1, none⟩ = some (.slice fa fn fc) := cell_of_row wc w.heap.size 1 _ _ _ HC4.out.loss
                have b0 : wc.cell? ⟨wr.heap.size, 0, none⟩ = some (.slice q0 bn k0) := cell_of_row wc wr.heap.size 0 _ _ _ hbx
                have b1 : wc.cell? ⟨wr.heap.size, 1, none⟩ = some (.int .i64 (fs : Int)) := cell_of_row wc wr.heap.size 1 _ _ _ hbx
                have Hbx := hid hbx
                rename_i hK
                refine hK _ _ ?_
                clear hK hBd hbx
                refine wp_seq_k ?_
                intro K5 hK5
                obtain ⟨kd, hkd⟩ : ∃ kd, kd = (match fl[j]? with | some n => (withinI n ((bn : Int) - (fs : Int))).toNat | none => 0) := ⟨_, rfl⟩
                have hkb : fs + kd ≤ bn := by
                  rw [hkd]
                  split
                  · exact (withinB _ _ _ hsu1).2
                  · omega
                have Hkd := hid hkd
                clear hkd
                go_cut [13] (fun s13 we => s13 = .int .i64 (kd : Int) ∧ Below wc.heap.size wc we)
                case first =>
                  by_cases hjn : j < fn
                  · have hfl : j < fl.length := by rw [Hn.out]; exact hjn
                    have hfj : fl[j]? = some fl[j] := List.getElem?_eq_getElem hfl
                    obtain ⟨x, hx⟩ : ∃ x, x = fl[j] := ⟨_, rfl⟩
                    rw [← hx] at hfj
                    have hkx := Hkd.out
                    rw [hfj] at hkx
                    have hkx2 : (kd : Int) = withinI x ((bn : Int) - (fs : Int)) := by rw [hkx]; exact (withinB _ _ _ hsu1).1
                    have Hkx := hid hkx2
                    clear hkx hkx2 hx
                    rcases Hr.out.below HC4.out.below with h0 | ⟨fb1, fo, hfa, hfc⟩
                    · exfalso
                      have := Hn.out
                      simp at h0
                      rw [h0] at this
                      simp at this
                      omega
                    · have x0 := hfc j _ (by rw [List.getElem?_map, hfj]; rfl)
                      subst hfa
                      clear hfj hfc
                      go_upto_region 17 with fail
                      refine wp_region_still_tail 11 (by kernel_rfl) (by kernel_rfl) ?_
                      simp only [List.take_succ_cons, List.take_zero, List.drop_succ_cons, List.drop_zero]
                      change wpStill Tryz.prog _ wc.drew (fun a' => wpList _ _ _ _ a' wc.drew) _ _
                      obtain ⟨w6, hw6, hB6⟩ : ∃ w6, wc.drew = w6 ∧ Below wc.heap.size wc w6 := ⟨_, rfl, (Below.refl _ _).drew⟩
                      have e1' : w6.cell? ⟨w.heap.size, 1, none⟩ = some (.slice (some ⟨fb1, fo, none⟩) fn fc) := by rw [← hw6]; exact e1
                      have b0' : w6.cell? ⟨wr.heap.size, 0, none⟩ = some (.slice q0 bn k0) := by rw [← hw6]; exact b0
                      have b1' : w6.cell? ⟨wr.heap.size, 1, none⟩ = some (.int .i64 (fs : Int)) := by rw [← hw6]; exact b1
                      have x0' : w6.cell? ⟨fb1, fo + j, none⟩ = some (.int .i64 x) := by rw [← hw6]; exact x0
                      rw [hw6]
                      have HB6 := hid hB6
                      have j1 : (j : Int) < (fn : Int) := by omega
                      have j0 : (0 : Int) ≤ (j : Int) := by omega
                      clear hw6 hB6 e1 b0 b1 x0
                      still_step
                      still_step
                      still_step
                      still_step
                      still_step
                      still_step
                      still_step
                      still_step
                      still_step
                      still_step
                      still_step
                      refine wpStill_nil ?_
                      have hwr := wrapB bn fs hsu1 hsu2
                      go_wp2_with (go_at_call 61; refine (within_any x ((bn : Int) - (fs : Int)) _).mono ?_; rintro e w2 ⟨rfl, rfl⟩)
                      go_meet
                      exact ⟨by rw [Hkx.out], HB6.out⟩
                  · have j1 : ¬ (j : Int) < (fn : Int) := by omega
                    have hk0 : kd = 0 := by rw [Hkd.out, List.getElem?_eq_none (by have := Hn.out; omega)]
                    have Hk0 := hid hk0
                    clear hk0
                    go_wp2
                    go_meet
                    exact ⟨by rw [Hk0.out]; rfl, Below.refl _ _⟩
                case rest =>
                  obtain ⟨rfl, hBd⟩ := hcut
                  have HC5 := hid (HC4.out.below' hBd)
                  have HRq5 := hid (HRq4.out.below hBd)
                  have HRd5 := hid (HRd4.out.below hBd)
                  have hbx := (hBd.block _ (lt_of_block Hbx.out)).trans Hbx.out
                  refine hK5 _ _ ?_
                  clear hK5 hBd e1 b0 b1 HC4 HRq4 HRd4 Hbx
                  have b0 : wc.cell? ⟨wr.heap.size, 0, none⟩ = some (.slice q0 bn k0) := cell_of_row wc wr.heap.size 0 _ _ _ hbx
                  have b1 : wc.cell? ⟨wr.heap.size, 1, none⟩ = some (.int .i64 (fs : Int)) := cell_of_row wc wr.heap.size 1 _ _ _ hbx
                  have Hbx := hid hbx
                  clear hbx
                  obtain ⟨T, hT⟩ : ∃ T, T = crashAt s fl T0 NL j := ⟨_, rfl⟩
                  rw [← hT] at HC5
                  have HT := hid hT
                  have hTn := crashAt_few hT HT0.out hj hNm
                  clear hT
                  obtain ⟨F, hF⟩ : ∃ F, F = fs + kd := ⟨_, rfl⟩
                  obtain ⟨hFb, hFk, hFm⟩ := leF hF hkb hk1 hsu2
                  obtain ⟨hFi, hFw, hFt, hF1, hF0⟩ := cutF fs kd F k0 hF hFm hFk
                  have HF := hid hF
                  have Hfl := hid (takeF Hbn.out hFb)
                  clear hF
                  have HRt := hid (show Rd wc.drew q0 ((fb.take F).map bv) from by rw [List.map_take]; exact (HRd5.out.below (Below.refl _ _).drew).take F)
                  obtain ⟨_, _, _, c3, _, _, _⟩ := HC5.out.at_.cells
                  rw [hD] at c3
                  have hmD : mo.D < wc.heap.size := by rw [← hD]; exact lt_of_block HC5.out.at_.disk
                  have hwr : wr.heap.size < wc.heap.size := lt_of_block Hbx.out
                  have hlt0 : ∀ k ∈ mo'.fp, k < wr.heap.size := HC.out.at_.lt
                  have hnb : nb < wc.heap.size := by
                    have h1 := HRq5.out
                    rcases h1 with h0 | ⟨b', o', hq, hr⟩
                    · have hz : (sortedK T0.names).length = 0 := by simpa using congrArg List.length h0
                      have := HN.out
                      omega
                    · cases hq
                      have hlt2 : j < ((sortedK T0.names).map encStr).length := by simpa [← HN.out] using hlt
                      exact World.block_lt_of_cell? wc _ (hr j _ (List.getElem?_eq_getElem hlt2))
                  go_upto_region 18 with fail
                  go_cut [] (fun we => ∃ mo2 : DM, mo2.D = mo.D ∧ CrashSt w we dir fa fn fc mo2 { T with files := T.files ++ [⟨fb.take F, F⟩] } ∧ Mod mo'.fp mo2.fp wc we)
                  case first =>
                    refine wp_region_split (S := fun w' => w'.cell? ⟨wr.heap.size, 0, none⟩ = some (.slice q0 bn k0) ∧ w'.cell? ⟨wr.heap.size, 1, none⟩ = some (.int .i64 (fs : Int)) ∧ w'.cell? ⟨mo.D, 3, none⟩ = some mo'.fv) 20 (by kernel_rfl) (by kernel_rfl) ⟨b0, b1, c3⟩ (fun hHeld => ?_)
                    simp only [List.take_succ_cons, List.take_zero, List.drop_succ_cons, List.drop_zero]
                    refine take_held (v := ?_) 0 rfl (by kernel_rfl) (by kernel_rfl) (by kernel_rfl) (fun _ _ _ h => h) (Or.inl ⟨by rfl, ?_⟩) (by assumption) ?_
                    rotate_left
                    · intro w hSw
                      obtain ⟨s0, s1, s2⟩ := hSw
                      go_simp
                      try with_reducible rfl
                    simp only [Act.put, List.setIfInBounds_toArray, List.set_cons_zero, List.set_cons_succ]
                    refine take_held (v := ?_) 1 rfl (by kernel_rfl) (by kernel_rfl) (by kernel_rfl) (fun _ _ _ h => h) (Or.inl ⟨by rfl, ?_⟩) (by assumption) ?_
                    rotate_left
                    · intro w hSw
                      obtain ⟨s0, s1, s2⟩ := hSw
                      go_simp
                      try with_reducible rfl
                    simp only [Act.put, List.setIfInBounds_toArray, List.set_cons_zero, List.set_cons_succ]
                    refine take_held (v := ?_) 2 rfl (by kernel_rfl) (by kernel_rfl) (by kernel_rfl) (fun _ _ _ h => h) (Or.inl ⟨by rfl, ?_⟩) (by assumption) ?_
                    rotate_left
                    · intro w hSw
                      obtain ⟨s0, s1, s2⟩ := hSw
                      go_simp
                      try with_reducible rfl
                    simp only [Act.put, List.setIfInBounds_toArray, List.set_cons_zero, List.set_cons_succ]
                    refine take_held (v := ?_) 3 rfl (by kernel_rfl) (by kernel_rfl) (by kernel_rfl) (fun _ _ _ h => h) (Or.inl ⟨by rfl, ?_⟩) (by assumption) ?_
                    rotate_left
                    · intro w hSw
                      obtain ⟨s0, s1, s2⟩ := hSw
                      go_simp
                      try with_reducible rfl
                    simp only [Act.put, List.setIfInBounds_toArray, List.set_cons_zero, List.set_cons_succ]
                    refine take_held (v := ?_) 4 rfl (by kernel_rfl) (by kernel_rfl) (by kernel_rfl) (fun _ _ _ h => h) (Or.inl ⟨by rfl, ?_⟩) (by assumption) ?_
                    rotate_left
                    · intro w hSw
                      obtain ⟨s0, s1, s2⟩ := hSw
                      go_simp
                      try with_reducible rfl
                    simp only [Act.put, List.setIfInBounds_toArray, List.set_cons_zero, List.set_cons_succ]
                    refine take_held (v := ?_) 5 rfl (by kernel_rfl) (by kernel_rfl) (by kernel_rfl) (fun _ _ _ h => h) (Or.inl ⟨by rfl, ?_⟩) (by assumption) ?_
                    rotate_left
                    · intro w hSw
                      obtain ⟨s0, s1, s2⟩ := hSw
                      go_simp
                      try with_reducible rfl
                    simp only [Act.put, List.setIfInBounds_toArray, List.set_cons_zero, List.set_cons_succ]
                    refine take_held (v := ?_) 6 rfl (by kernel_rfl) (by kernel_rfl) (by kernel_rfl) (fun _ _ _ h => h) (Or.inl ⟨by rfl, ?_⟩) (by assumption) ?_
                    rotate_left
                    · intro w hSw
                      obtain ⟨s0, s1, s2⟩ := hSw
                      go_simp
                      try with_reducible rfl
                    simp only [Act.put, List.setIfInBounds_toArray, List.set_cons_zero, List.set_cons_succ]
                    refine take_held (v := ?_) 7 rfl (by kernel_rfl) (by kernel_rfl) (by kernel_rfl) (fun _ _ _ h => h) (Or.inl ⟨by rfl, ?_⟩) (by assumption) ?_
                    rotate_left
                    · intro w hSw
                      obtain ⟨s0, s1, s2⟩ := hSw
                      go_simp
                      try with_reducible rfl
                    simp only [Act.put, List.setIfInBounds_toArray, List.set_cons_zero, List.set_cons_succ]
                    refine take_held (v := ?_) 8 rfl (by kernel_rfl) (by kernel_rfl) (by kernel_rfl) (fun _ _ _ h => h) (Or.inl ⟨by rfl, ?_⟩) (by assumption) ?_
                    rotate_left
                    · intro w hSw
                      obtain ⟨s0, s1, s2⟩ := hSw
                      go_simp
                      try with_reducible rfl
                    simp only [Act.put, List.setIfInBounds_toArray, List.set_cons_zero, List.set_cons_succ]
                    refine take_held (v := ?_) 9 rfl (by kernel_rfl) (by kernel_rfl) (by kernel_rfl) (fun _ _ _ h => h) (Or.inl ⟨by rfl, ?_⟩) (by assumption) ?_
                    rotate_left
                    · intro w hSw
                      obtain ⟨s0, s1, s2⟩ := hSw
                      go_simp
                      try with_reducible rfl
                    simp only [Act.put, List.setIfInBounds_toArray, List.set_cons_zero, List.set_cons_succ]
                    refine take_held (v := ?_) 10 rfl (by kernel_rfl) (by kernel_rfl) (by kernel_rfl) (fun _ _ _ h => h) (Or.inl ⟨by rfl, ?_⟩) (by assumption) ?_
                    rotate_left
                    · intro w hSw
                      obtain ⟨s0, s1, s2⟩ := hSw
                      go_simp
                      try with_reducible rfl
                    simp only [Act.put, List.setIfInBounds_toArray, List.set_cons_zero, List.set_cons_succ]
                    refine take_held (v := ?_) 11 rfl (by kernel_rfl) (by kernel_rfl) (by kernel_rfl) (fun _ _ _ h => h) (Or.inl ⟨by rfl, ?_⟩) (by assumption) ?_
                    rotate_left
                    · intro w hSw
                      obtain ⟨s0, s1, s2⟩ := hSw
                      go_simp
                      try with_reducible rfl
                    simp only [Act.put, List.setIfInBounds_toArray, List.set_cons_zero, List.set_cons_succ]
                    refine take_held (v := ?_) 13 rfl (by kernel_rfl) (by kernel_rfl) (by kernel_rfl) (fun _ _ _ h => h) (Or.inl ⟨by rfl, ?_⟩) (by assumption) ?_
                    rotate_left
                    · intro w hSw
                      obtain ⟨s0, s1, s2⟩ := hSw
                      go_simp
                      try with_reducible rfl
                    simp only [Act.put, List.setIfInBounds_toArray, List.set_cons_zero, List.set_cons_succ]
                    refine take_held (v := ?_) 14 rfl (by kernel_rfl) (by kernel_rfl) (by kernel_rfl) (fun _ _ _ h => h) (Or.inl ⟨by rfl, ?_⟩) (by assumption) ?_
                    rotate_left
                    · intro w hSw
                      obtain ⟨s0, s1, s2⟩ := hSw
                      go_simp
                      try with_reducible rfl
                    simp only [Act.put, List.setIfInBounds_toArray, List.set_cons_zero, List.set_cons_succ]
                    refine take_held (v := ?_) 15 rfl (by kernel_rfl) (by kernel_rfl) (by kernel_rfl) (fun _ _ _ h => h) (Or.inl ⟨by rfl, ?_⟩) (by assumption) ?_
                    rotate_left
                    · intro w hSw
                      obtain ⟨s0, s1, s2⟩ := hSw
                      go_simp
                      try with_reducible rfl
                    simp only [Act.put, List.setIfInBounds_toArray, List.set_cons_zero, List.set_cons_succ]
                    refine take_held (v := ?_) 16 rfl (by kernel_rfl) (by kernel_rfl) (by kernel_rfl) (fun _ _ _ h => h) (Or.inl ⟨by rfl, ?_⟩) (by assumption) ?_
                    rotate_left
                    · intro w hSw
                      obtain ⟨s0, s1, s2⟩ := hSw
                      go_simp
                      try with_reducible rfl
                    simp only [Act.put, List.setIfInBounds_toArray, List.set_cons_zero, List.set_cons_succ]
                    refine wpAnyH_ready (rs := [12]) (by kernel_rfl) (by simp) ?_
                    refine cons_held 12 rfl (fun K hK => ?_) AllReadyH.nil
                    go_simp
                    refine (dclone_own q0 F k0 (fb.take F) wc.drew Hfl.out hFk hFm HRt.out Hq0.out).mono ?_
                    rintro e w2 ⟨v, rfl, hv, hb2⟩
                    obtain ⟨qv, cv, rfl, hv1, hv2, hv3⟩ := own_shape hv
                    clear hv1 hv2 hv3
                    obtain ⟨HA2, HB2, b0c, b1c, b0d, b1d, c3c, c3d⟩ := crash18 (F := F) (qv := qv) (cv := cv) HC5.out hD Hbx.out ((Below.refl _ _).drew.trans hb2)
                    have Hv := hid hv
                    clear hv hb2
                    refine hK.out _ _ ⟨b0c, b1c, c3c⟩ (fun hHeld2 => ?_)
                    clear hK K
                    refine take_held (v := ?_) 17 rfl (by kernel_rfl) (by kernel_rfl) (by kernel_rfl) (fun _ _ _ h => h) (Or.inl ⟨by rfl, ?_⟩) (by assumption) ?_
                    rotate_left
                    · intro w hSw
                      obtain ⟨s0, s1, s2⟩ := hSw
                      go_simp
                      try with_reducible rfl
                    simp only [Act.put, List.setIfInBounds_toArray, List.set_cons_zero, List.set_cons_succ]
                    refine wpAnyH_ready (rs := [18]) (by kernel_rfl) (by simp) ?_
                    refine cons_held 18 rfl (fun K hK => ?_) AllReadyH.nil
                    go_simp
                    refine hK.out _ _ ⟨b0d, b1d, c3d⟩ (fun hHeld3 => ?_)
                    clear hK K
                    refine wpAnyH_ready (rs := [19]) (by kernel_rfl) (by simp) ?_
                    refine cons_held 19 rfl (fun K hK => ?_) AllReadyH.nil
                    refine step_append_at rfl (.tmp 98) (.tmp 112) 100 rfl 0 109 _ 2 32 Tryz.underlying100 info111 rfl (by decide) mo'.fv T.files.length (dfCells mo'.bs T.files) rfl (own_below HA2.out.at_.files ((Below.refl _ _).alloc (Nat.le_refl _) _)) (some ⟨w2.heap.size, 0, none⟩) 1 1 [.slice qv F cv, .int .i64 (F : Int)] rfl (fun h => by cases h) rfl (Rd.new _ _ _) (by simp [Value.oneCell']) (by unfold maxLen; omega) (by omega) (by simp) ?_
                    intro v3 w3 hown3 hg3 hat3
                    obtain ⟨q3, k3, rfl, z1, z2, z3⟩ := own_shape hown3
                    clear z1 z2 z3
                    obtain ⟨b0e, b1e, d3e, f3e, b0f, b1f⟩ := crash18b (V := .slice q3 (T.files.length + 1) k3) hlt0 HC5.out hD Hbx.out HB2.out hg3
                    have HW := hid (files_more mo' T wc w2 w3 q3 k3 _ (.slice qv F cv) ⟨fb.take F, F⟩ HC5.out.at_ HB2.out (by simpa [Hfl.out] using Hv.out) hown3 hg3 hat3)
                    clear hown3 hg3 hat3 b0f b1f
                    refine hK.out _ _ ⟨b0e, b1e, d3e⟩ (fun hHeld4 => ?_)
                    clear hK K
                    simp only [Act.put, List.setIfInBounds_toArray, List.set_cons_zero, List.set_cons_succ]
                    refine wpAnyH_done (by kernel_rfl) ?_ _
                    rw [headQ_normal]
                    go_wp2
                    go_meet
                    rw [← hD]
                    exact ⟨{ mo' with fv := .slice q3 (T.files.length + 1) k3, bs := mo'.bs ++ [.slice qv F cv] }, rfl, HC5.out.mod HW.out.1 HW.out.2, HW.out.2⟩
                  case rest =>
                    obtain ⟨mo2, hD2, hC, hM⟩ := hcut
                    have hnx := crashAt_next HT.out Hk.out (by rw [HT.out]; exact Hlook.out) hil Hfb.out Hfs.out Hbn.out Hkd.out HF.out
                    have Hnx := hid hnx
                    have HC6 := hid hC
                    have HM6 := hid hM
                    obtain ⟨y0, y1, y2, y3, c4, y5, y6⟩ := hC.at_.cells
                    clear y0 y1 y2 y3 y5 y6
                    rw [hD2] at c4
                    have hqn2 : ∀ nb' off', some (⟨nb, off, none⟩ : Addr) = some ⟨nb', off', none⟩ → nb' ∉ mo2.fp := by
                      intro nb' off' e h
                      cases e
                      rcases hM.grow _ h with h | h
                      · exact HQn.out _ _ rfl h
                      · omega
                    have HQn2 := hid hqn2
                    have HRq6 := hid (HRq5.out.mod hM HQn.out)
                    clear hnx hC hM c3 hqn2
                    rename_i hK
                    refine hK _ _ ?_
                    clear hK
                    go_wp2_with (refine upd1 rfl rfl (.tmp 119) (.tmp 120) (.tmp 121) rfl mo2.M T.names T.nclock k j rfl rfl rfl HC6.out.at_.names ?_; intro w5 O hsz; have HO := hid O; clear O hsz)
                    go_roundw
                    case rel =>
                      refine ⟨j + 1, mo2, by go_num, by omega, hD2, ?_, HRq6.out.mod (HO.out.mod (m := mo2)) HQn2.out, HQn2.out⟩
                      rw [Hnx.out]
                      exact HC6.out.turn HO.out
                    case measure => simp [intOf]; omega
            · obtain rfl : j = N := by omega
              go_wp2
              go_meet
              exact ⟨mo', hD, HC.out⟩
        case rest =>
          obtain ⟨mo', hD, hC⟩ := hcut
          refine hK3 _ _ ?_
          obtain ⟨y0, y1, y2, y3, c4, y5, y6⟩ := hC.at_.cells
          rw [hD] at c4
          have HC4 := hid hC
          clear hK3 hC y0 y1 y2 y3 y5 y6
          obtain ⟨X, hX⟩ : ∃ X, X = crashAt s fl T0 NL N := ⟨_, rfl⟩
          have hXs : { X with sured := X.names, sclock := X.nclock } = crashS s dir fl := by
            have h1 : X = crashT s dir fl := by
              rw [hX, HNL.out, HN.out, HT0.out, HJ.out]
              rfl
            rw [h1]
            rfl
          have HXs := hid hXs
          rw [← hX] at HC4
          clear hXs hX
          go_wp2_with (go_at_call 59; refine (clone_any mo'.M _ _ wc HC4.out.at_.names).mono ?_; rintro e w2 ⟨rfl, rfl⟩; have hQ := (heap_alloc_old wc (.map (encDir X.names) X.nclock) (lt_of_block HC4.out.at_.disk)).trans HC4.out.at_.disk; rw [hD] at hQ; have e5 := cell_of_row _ mo.D 5 _ _ _ hQ; have k5 := frozen_of_row _ mo.D 5 _ _ hQ; have HQ := hid hQ; clear hQ)
          rw [Exit.noGoto_ret]
          go_ret2
          have hn : wc.heap.size ∉ mo'.fp := fun h => by have := HC4.out.at_.lt _ h; omega
          have hne : wc.heap.size ≠ mo.D := fun e => hn (by rw [e, ← hD]; simp [DM.fp])
          have hd : DiskAt ((wc.alloc (.map (encDir X.names) X.nclock)).setCell ⟨mo.D, 5, none⟩ (.map (some wc.heap.size))) { mo' with S := wc.heap.size } { X with sured := X.names, sclock := X.nclock } := by
            refine HC4.out.at_.setS hn ?_ ?_ ?_
            · rw [hD]
              exact heap_setCell_same _ _ _ _ _ _ HQ.out
            · exact (heap_setCell_other _ _ _ _ hne).trans (heap_alloc_new _ _)
            · intro k hk hkD
              rw [hD] at hkD
              exact (heap_setCell_other _ _ _ _ hkD).trans (heap_alloc_old _ _ (HC4.out.at_.lt k hk))
          have hm : Mod mo'.fp ({ mo' with S := wc.heap.size } : DM).fp wc ((wc.alloc (.map (encDir X.names) X.nclock)).setCell ⟨mo.D, 5, none⟩ (.map (some wc.heap.size))) := by
            refine ⟨rfl, rfl, rfl, by simp, fun k hk hkn => ?_, fun k hk => ?_⟩
            · have hkD : k ≠ mo.D := fun e => hkn (by rw [e, ← hD]; simp [DM.fp])
              exact (heap_setCell_other _ _ _ _ hkD).trans (heap_alloc_old _ _ hk)
            · rcases setS_fp hk with h | h
              · exact .inl h
              · exact .inr (by omega)
          have hCS := HC4.out.mod hd hm
          refine ⟨{ mo' with S := wc.heap.size }, ?_, ?_, hCS.below, hCS.fp⟩
          · show _ = Ending.returned (.tuple #[.pointer (some ⟨mo'.D, 0, none⟩), .int .i64 0])
            rw [hD]
            rfl
          · rw [← HXs.out]
            exact hd
end Go.Proofs.Herb
