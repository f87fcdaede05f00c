
/- Laws of append onto a slice without room behind it: nothing that was there is written. For slices that can be read. -/
import Derived.Test.YtnkkfdlmcpnokaaApp
import Derived.Deep.AppendSrc
import Derived.Lib.AppendStr
namespace Go.Proofs.Herb
open Go.RowKit
section
variable {P : Program}
theorem src_rd {size : Nat} (hsz : 0 < size) {tx e' : TypeId} (hk : P.underlying tx = some (.slice e')) {w : World} {ad : Option Addr} {m : Nat} (c : Nat) {news : List Value} (hl : news.length = m * size) (hr : Rd w ad news) (h1 : ∀ u ∈ news, u.oneCell' = true) : Src P size tx (.slice ad m c) m news w := by
  cases ad with
  | none =>
    have hn := hr.none
    subst hn
    have hm : m = 0 := by
      rcases Nat.eq_zero_or_pos m with h | h
      · exact h
      · have := Nat.mul_pos h hsz; simp at hl; omega
    subst hm
    exact Src.ofNil w hk c
  | some ad => exact Src.ofSlice w hk ad m c news hl hr.add h1
theorem run_append_clip (w : World) (t tx ty e : TypeId) (i : TypeInfo) (z : Value) (size bytes : Nat) (ht : P.underlying t = some (.slice e)) (hi : P.info? e = some i) (hz : i.zero = some z)
    (hsize : i.size = size) (hby : i.bytes = bytes) (hzs : z.cells.size = size) (hsz : 0 < size) (q : Option Addr) (n : Nat) (xs : List Value) (hlx : xs.length = n * size) (hr : Rd w q xs) (x : Value) (m : Nat) (news : List Value)
    (hs : Src P size tx x m news w) (h63 : n + m ≤ maxLen) (hbytes : (n + m) * bytes ≤ 140737488355328) :
    ∃ q' c' w', (Builtin.append_ #[t, tx] ty #[.slice q n n, x]).run P w = .ok (.slice q' (n + m) c') w' ∧
      ((m = 0 ∧ q' = q ∧ c' = n ∧ w' = w) ∨ (w'.ownsRow w.heap.size e size (.slice q' (n + m) c') (n + m) (xs ++ news) ∧ w.grownBy w' none)) := by
  subst hsize
  subst hby
  by_cases hm : m = 0
  · subst hm
    have hn0 : news = [] := List.eq_nil_of_length_eq_zero (by have := hs.newsLen; omega)
    subst hn0
    refine ⟨q, n, w, ?_, .inl ⟨rfl, rfl, rfl, rfl⟩⟩
    have hc := hs.cells
    cases q with
    | none => rcases hs.kind with ⟨e', hk⟩ | hk <;> simp [Builtin.append_, run_underlying ht, run_underlying hk, sizeOf, typeInfo, hi, hs.len, hc]
    | some b => rcases hs.kind with ⟨e', hk⟩ | hk <;> simp [Builtin.append_, run_underlying ht, run_underlying hk, sizeOf, typeInfo, hi, hs.len, hc, storeCells]
  · have hold : (Builtin.firstCells i.size n (.slice q n n)).run P w.drew = .ok xs.toArray w.drew := by
      cases q with
      | none => rw [hr.none]; exact run_firstCells_none _ _ _ _ _
      | some b => exact run_firstCells_some (P := P) w.drew i.size n b n n xs hlx (by simpa using hr.add)
    have hg : n < n + m := by omega
    have hsmall : n + m ≤ 9223372036854775807 := by simp only [maxLen] at h63; omega
    have hlen : (xs ++ news).length = (n + m) * i.size := by rw [List.length_append, hlx, hs.newsLen, Nat.add_mul]
    have hge := grownCap_ge w (n + m) n e
    have hcm : grownCap w (n + m) n e ≤ maxLen := grownCap_le_maxLen w (n + m) n e h63
    have hrun := run_append_grow_src (P := P) w t tx ty e i z ht hi hz q n n xs hold x m news hs hg (by omega) (growslice_fits hg hbytes)
    refine ⟨_, _, _, hrun, .inr ⟨⟨hlen, .inr ⟨w.heap.size, _, _, rfl, Nat.le_refl _, heap_alloc_new w.drew _, hge, hcm, ?_, ?_⟩⟩, ⟨rfl, rfl, rfl, by simp, fun k hk _ => Below.heap_alloc w.drew _ k hk⟩⟩⟩
    · simp only [Array.size_append, List.size_toArray, size_zeroCells, hzs, hlen, ← Nat.add_mul]
      congr 1
      omega
    · simp only [Array.toList_append]
      rw [← hlen]
      exact List.take_left
theorem wpList_append_clip {w : World} {ops : Array Oper} {rest : List Oper} {o : Oper} {a : Act} {Q : Exit → Act → World → Prop} (hgd : o.guard = none) (s x : Operand) (t tx : TypeId)
    (ho : o.op = .call { callee := .builtin .append, args := #[s, x], argTypes := #[t, tx] })
    (base : Nat) (e : TypeId) (z : Value) (size bytes : Nat) (ht : P.underlying t = some (.slice e)) (hinfo : (P.info? e).map (fun i => (i.zero, i.size, i.bytes)) = some (some z, size, bytes)) (hzs : z.cells.size = size) (hsz : 0 < size)
    (q : Option Addr) (n : Nat) (xs : List Value) (hs : a.eval s = .slice q n n) (hf : Fr w base e size (.slice q n n) n xs)
    (X : Value) (m : Nat) (news : List Value) (hx : a.eval x = X) (hsrc : Src P size tx X m news w) (h63 : n + m ≤ maxLen) (hbytes : (n + m) * bytes ≤ 140737488355328) (hbase : base ≤ w.heap.size)
    (h : ∀ q' c' w', Fr w' base e size (.slice q' (n + m) c') (n + m) (xs ++ news) → n + m ≤ c' → c' ≤ maxLen → (q' = none → c' = 0) → Below w.heap.size w w' → wpList P ops Q rest (a.put o.dst (.slice q' (n + m) c')) w') : wpList P ops Q (o :: rest) a w := by
  obtain ⟨i, hi, hz, hsize, hby⟩ := info_parts hinfo
  have hrd : Rd w q xs := by
    obtain ⟨a', c', h1, _, _, h2, _⟩ := hf.shape
    simp at h1; rw [h1.1]; exact h2
  obtain ⟨q', c', w', hrun, hcase⟩ := run_append_clip (P := P) w t tx o.type e i z size bytes ht hi hz hsize hby hzs hsz q n xs hf.1 hrd X m news hsrc h63 hbytes
  refine wpList_plain hgd fun K hK => ?_
  unfold Oper.wp execOp
  simp only [ho, resolve, invoke, builtin, Sem.run_bind, Sem.run_pure, Result.andThen_ok, List.map_toArray, List.map_cons, List.map_nil, hs, hx, hrun]
  refine hK _ _ ?_
  rcases hcase with ⟨rfl, rfl, rfl, rfl⟩ | ⟨hown, hgr⟩
  · have hn0 : news = [] := List.eq_nil_of_length_eq_zero (by have := hsrc.newsLen; omega)
    subst hn0
    obtain ⟨a', c', h1, h2, h3, _, h4⟩ := hf.shape
    simp at h1
    exact h _ _ _ (by rw [List.append_nil]; exact hf) (Nat.le_refl _) (by simp only [maxLen] at h63 ⊢; omega) (fun e => (h4 (by rw [← h1.1]; exact e)).1) (Below.refl _ _)
  · obtain ⟨a', c2, h1, h2, h3, _, h4⟩ := (Fr.of_own hown).shape
    simp at h1
    exact h _ _ _ ((Fr.of_own hown).mono hbase) (by omega) (by omega) (fun e => by have := (h4 (by rw [← h1.1]; exact e)).2; omega) ⟨hgr.os, hgr.tape, hgr.output, hgr.size, fun k hk => hgr.block k hk (by simp)⟩
end
theorem strCells_bv (s : ByteArray) : byteCells s = s.data.toList.map bv := rfl
section
variable {ops : Array Oper} {rest : List Oper} {o : Oper} {a : Act} {w : World} {Q : Exit → Act → World → Prop}
end
end Go.Proofs.Herb
