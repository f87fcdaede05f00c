
/- A law of append of whatever source onto a row of the call's own, which tells where the new row lies. For slices that can be read. -/
import Derived.Test.YtnkkfdlmcpnokaaApc
import Derived.BigQuiet
import Derived.Deep.QuietTactic
namespace Go.Proofs.Herb
open Go.RowKit
section
variable {P : Program}
theorem run_append_own_src (w : World) (base : Nat) (t tx ty e : TypeId) (i : TypeInfo) (z : Value) (size bytes : Nat) (ht : P.underlying t = some (.slice e)) (hi : P.info? e = some i) (hz : i.zero = some z)
    (hsize : i.size = size) (hby : i.bytes = bytes) (hzs : z.cells.size = size) (hsz : 0 < size) (v : Value) (n : Nat) (xs : List Value) (hown : w.ownsRow base e size v n xs) (x : Value) (m : Nat) (news : List Value)
    (hs : Src P size tx x m news w) (h63 : n + m ≤ maxLen) (hbytes : (n + m) * bytes ≤ 140737488355328) (hbase : base ≤ w.heap.size) :
    ∃ q' c' w', (Builtin.append_ #[t, tx] ty #[v, x]).run P w = .ok (.slice q' (n + m) c') w' ∧ w'.ownsRow base e size (.slice q' (n + m) c') (n + m) (xs ++ news) ∧ w.grownBy w' v.ownBlock ∧
      (v = .slice q' n c' ∨ ∃ g, q' = some ⟨g, 0, none⟩ ∧ w.heap.size ≤ g) := by
  have hlen : (xs ++ news).length = (n + m) * size := by rw [List.length_append, hown.1, hs.newsLen, Nat.add_mul]
  have grows : ∀ (q : Option Addr) (cap : Nat), v = .slice q n cap → Rd w q xs → cap < n + m → ∃ q' c' w', (Builtin.append_ #[t, tx] ty #[v, x]).run P w = .ok (.slice q' (n + m) c') w' ∧ w'.ownsRow base e size (.slice q' (n + m) c') (n + m) (xs ++ news) ∧ w.grownBy w' v.ownBlock ∧
      (v = .slice q' n c' ∨ ∃ g, q' = some ⟨g, 0, none⟩ ∧ w.heap.size ≤ g) := by
    intro q cap hv hr hg
    subst hsize
    subst hby
    subst hv
    have hold : (Builtin.firstCells i.size n (.slice q n cap)).run P w.drew = .ok xs.toArray w.drew := by
      cases q with
      | none => rw [hr.none]; exact run_firstCells_none _ _ _ _ _
      | some b => exact run_firstCells_some (P := P) w.drew i.size n b n cap xs hown.1 (by simpa using hr.add)
    have hge := grownCap_ge w (n + m) cap e
    have hcm : grownCap w (n + m) cap e ≤ maxLen := grownCap_le_maxLen w (n + m) cap e h63
    have hrun := run_append_grow_src (P := P) w t tx ty e i z ht hi hz q n cap xs hold x m news hs hg (by simp only [maxLen] at h63; omega) (growslice_fits hg hbytes)
    refine ⟨_, _, _, hrun, ⟨hlen, .inr ⟨w.heap.size, _, _, rfl, hbase, heap_alloc_new w.drew _, hge, hcm, ?_, ?_⟩⟩, ⟨rfl, rfl, rfl, by simp, fun k hk _ => Below.heap_alloc w.drew _ k hk⟩, .inr ⟨_, rfl, Nat.le_refl _⟩⟩
    · simp only [Array.size_append, List.size_toArray, size_zeroCells, hzs, hlen, ← Nat.add_mul]
      congr 1
      omega
    · simp only [Array.toList_append]
      rw [← hlen]
      exact List.take_left
  rcases hown.2 with ⟨rfl, rfl⟩ | ⟨g, cap, cur, rfl, hbg, hg, hnc, hcm, hcs, htake⟩
  · by_cases hm : m = 0
    · subst hm
      have hn0 : news = [] := List.eq_nil_of_length_eq_zero (by have := hs.newsLen; omega)
      subst hn0
      have hx0 : xs = [] := List.eq_nil_of_length_eq_zero (by have := hown.1; omega)
      subst hx0
      subst hsize
      have hc := hs.cells
      refine ⟨none, 0, w, ?_, World.ownsRow_nil _ _ _ _, World.grownBy.refl _ _, .inl rfl⟩
      rcases hs.kind with ⟨e', hk⟩ | hk <;> simp [Builtin.append_, run_underlying ht, run_underlying hk, sizeOf, typeInfo, hi, hs.len, hc]
    · exact grows none 0 rfl (.inl (List.eq_nil_of_length_eq_zero (by have := hown.1; omega))) (by omega)
  · by_cases hroom : n + m ≤ cap
    · have hfit : n * size + news.length ≤ cur.size := by rw [hs.newsLen, ← Nat.add_mul, hcs]; exact Nat.mul_le_mul_right _ hroom
      have hst := run_storeCells_at P g (n * size) e news 0 cur w hg (by simpa using hfit) hs.one
      simp only [Nat.add_zero] at hst
      have hc := hs.cells
      subst hsize
      refine ⟨_, _, w.setRow g (cur.toList.take (n * i.size) ++ news ++ cur.toList.drop (n * i.size + news.length)).toArray, ?_, ⟨hlen, .inr ⟨g, cap, _, rfl, hbg, setRow_heap w g cur _ e _ hg, hroom, hcm, ?_, ?_⟩⟩, ⟨rfl, rfl, rfl, by simp, fun k _ hk => setRow_other w g k _ (fun e => hk (by simp [Value.ownBlock, e]))⟩, .inl rfl⟩
      · rcases hs.kind with ⟨e', hk⟩ | hk <;> simp [Builtin.append_, run_underlying ht, run_underlying hk, sizeOf, typeInfo, hi, hs.len, hc, hroom, Addr.add_lit, hst]
      · simp only [List.size_toArray, List.length_append, List.length_take, List.length_drop, Array.length_toList]
        omega
      · rw [htake, ← hlen]
        exact List.take_left
    · refine grows _ cap rfl ?_ (by omega)
      exact .inr ⟨g, 0, rfl, fun j u hu => by
        have := hown.cells (g := g) rfl j u hu
        rw [Addr.add_lit] at this
        exact this⟩
theorem wpList_append_src {w : World} {ops : Array Oper} {rest : List Oper} {o : Oper} {a : Act} {Q : Exit → Act → World → Prop} (hgd : o.guard = none) (s x : Operand) (t tx : TypeId)
    (ho : o.op = .call { callee := .builtin .append, args := #[s, x], argTypes := #[t, tx] })
    (base : Nat) (e : TypeId) (z : Value) (size bytes : Nat) (ht : P.underlying t = some (.slice e)) (hinfo : (P.info? e).map (fun i => (i.zero, i.size, i.bytes)) = some (some z, size, bytes)) (hzs : z.cells.size = size) (hsz : 0 < size)
    (q : Option Addr) (n c : Nat) (xs : List Value) (hs : a.eval s = .slice q n c) (hown : w.ownsRow base e size (.slice q n c) n xs)
    (X : Value) (m : Nat) (news : List Value) (hx : a.eval x = X) (hsrc : Src P size tx X m news w) (h63 : n + m ≤ maxLen) (hbytes : (n + m) * bytes ≤ 140737488355328) (hbase : base ≤ w.heap.size)
    (h : ∀ q' c' w', w'.ownsRow base e size (.slice q' (n + m) c') (n + m) (xs ++ news) → w.grownBy w' (Value.ownBlock (.slice q n c)) → (q' = q ∨ ∃ g, q' = some ⟨g, 0, none⟩ ∧ w.heap.size ≤ g) → wpList P ops Q rest (a.put o.dst (.slice q' (n + m) c')) w') : wpList P ops Q (o :: rest) a w := by
  obtain ⟨i, hi, hz, hsize, hby⟩ := info_parts hinfo
  obtain ⟨q', c', w', hrun, h1, h2, h3⟩ := run_append_own_src (P := P) w base t tx o.type e i z size bytes ht hi hz hsize hby hzs hsz _ n xs hown X m news hsrc h63 hbytes hbase
  refine wpList_plain hgd fun K hK => ?_
  unfold Oper.wp execOp
  simp only [ho, resolve, invoke, builtin, Sem.run_bind, Sem.run_pure, Result.andThen_ok, List.map_toArray, List.map_cons, List.map_nil, hs, hx, hrun]
  refine hK _ _ (h q' c' w' h1 h2 ?_)
  rcases h3 with h3 | h3
  · rw [Value.slice.injEq] at h3; exact .inl h3.1.symm
  · exact .inr h3
end
/-- what an append onto an own row of bytes leaves, and where -/
structure Grew2 (base : Nat) (w w' : World) (q q' : Option Addr) (m c' : Nat) (l : List UInt8) : Prop extends Grew base w w' q q' m c' l where
  place : q' = q ∨ ∃ g, q' = some ⟨g, 0, none⟩ ∧ w.heap.size ≤ g
section
variable {ops : Array Oper} {rest : List Oper} {o : Oper} {a : Act} {w : World} {Q : Exit → Act → World → Prop}
end
/-- two rows of one call's own apart from one another -/
def Apart2 (q p : Option Addr) : Prop := ∀ b c, q = some b → p = some c → b.block ≠ c.block
theorem Apart2.symm {q p : Option Addr} (h : Apart2 q p) : Apart2 p q := fun b c hb hc e => h c b hc hb e.symm
theorem Apart2.grew {base : Nat} {w w' : World} {q q' p : Option Addr} {m c' n c : Nat} {l : List UInt8} {b0 : Nat} {k : List UInt8} (h : Apart2 q p) (g : Grew2 base w w' q q' m c' l) (hp : w.ownsRow b0 5 1 (.slice p n c) n (k.map bv)) : Apart2 q' p := by
  intro b d hb hd
  rcases g.place with rfl | ⟨g', rfl, hg⟩
  · exact h b d hb hd
  · cases hb
    subst hd
    intro e
    have := (hp.lt d.block rfl).2
    simp only at e
    omega
theorem own_grew {base : Nat} {w w' : World} {q q' p : Option Addr} {m c' n c : Nat} {l : List UInt8} {b0 : Nat} {k : List UInt8} (g : Grew2 base w w' q q' m c' l) (h : Apart2 q p) (hp : w.ownsRow b0 5 1 (.slice p n c) n (k.map bv)) : w'.ownsRow b0 5 1 (.slice p n c) n (k.map bv) := by
  obtain ⟨h1, h2⟩ := hp
  refine ⟨h1, ?_⟩
  rcases h2 with h2 | ⟨g', cap, cur, hv, hg, hh, r⟩
  · exact .inl h2
  · refine .inr ⟨g', cap, cur, hv, hg, (g.other g' (lt_of_block hh) (fun b hb e => ?_)).trans hh, r⟩
    rw [Value.slice.injEq] at hv
    exact h b ⟨g', 0, none⟩ hb hv.1 e.symm
/-- a region that only reads, at a class of worlds of one's own -/
theorem region_quiet_c {P : Program} {C : World → Prop} {id : Nat} {Q : Exit → Act → World → Prop} {a : Act} {w : World} {l : List Oper} (hm : P.follows .mixedOrders = true) (hB : Region.lexB .any l.toArray = true) (hC : C { w with drawn := w.drawn + 1 })
    (h : wpQuiet P l.toArray C (fun a' => ∀ w', C w' → Q .normal a' w') l a) : (Code.region id l.toArray true).wp P Q a w :=
  wp_region_quiet (C := C) hm hB hC (by simpa using h)
end Go.Proofs.Herb
