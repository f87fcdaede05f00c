
/- Laws of append of zeros, of whole blocks, and what Put writes (putRec): plain lemmas; no program. No condition. -/
import Derived.Test.YtnkkfdlmcpnokaaBase
import Derived.Deep.AppendLies
import Derived.Deep.RegionLaw
namespace Go.Proofs.Herb
open Go.RowKit
section
variable {P : Program} (w : World)
theorem zeroCells_eq (zv : Value) (m : Nat) : Builtin.zeroCells #[zv] m = (List.replicate m zv).toArray := by
  apply Array.ext_getElem?
  intro j
  by_cases hj : j < m
  · simp [Builtin.zeroCells, hj, Nat.mod_one]
  · simp [Builtin.zeroCells, hj]

/-- append(own, make([]T, m)...), T of one cell -/
theorem run_append_own_zeros (base : Nat) (t tn ty e : TypeId) (i : TypeInfo) (zv : Value) (bytes : Nat) (k kn : IntKind) (ht : P.underlying t = some (.slice e)) (htn : P.underlying tn = some (.int kn)) (hi : P.info? e = some i) (hz : i.zero = some zv)
    (hsize : i.size = 1) (hby : i.bytes = bytes) (hzs : zv.cells = #[zv]) (hz1 : zv.oneCell' = true)
    (v : Value) (n : Nat) (xs : List Value) (hown : w.ownsRow base e 1 v n xs) (m : Nat)
    (h63 : n + m ≤ maxLen) (hbytes : (n + m) * bytes ≤ 140737488355328) (hbase : base ≤ w.heap.size) :
    ∃ v' w', (Builtin.append_ #[t, tn] ty #[v, .int k m]).run P w = .ok v' w' ∧ w'.ownsRow base e 1 v' (n + m) (xs ++ List.replicate m zv) ∧ w.grownBy w' v.ownBlock ∧
      (v' = .slice none 0 0 ↔ v = .slice none 0 0 ∧ m = 0) := by
  have hsmall : n + m ≤ 9223372036854775807 := by simp only [maxLen] at h63; omega
  have hw : IntKind.i64.wrap (m : Int) = m := by rw [IntKind.wrap_i64]; omega
  have hneg : ¬ ((m : Int) < 0) := by omega
  have hmb : m * bytes ≤ 140737488355328 := Nat.le_trans (Nat.mul_le_mul_right _ (by omega)) hbytes
  have h48i : ¬ (281474976710656 < (m : Int) * (i.bytes : Int)) := by
    rw [hby, ← Int.natCast_mul]; omega
  have hlen : (xs ++ List.replicate m zv).length = (n + m) * 1 := by rw [List.length_append, hown.1, List.length_replicate]; omega
  have grown : ∀ (old : Nat), old < n + m → ∀ (row : Option Nat),
      (w.drew.alloc (.cells (xs.toArray ++ (List.replicate m zv).toArray ++ Builtin.zeroCells #[zv] (grownCap w (n + m) old e - (n + m))) e)).ownsRow base e 1
        (.slice (some ⟨w.heap.size, 0, none⟩) (n + m) (grownCap w (n + m) old e)) (n + m) (xs ++ List.replicate m zv) ∧
      w.grownBy (w.drew.alloc (.cells (xs.toArray ++ (List.replicate m zv).toArray ++ Builtin.zeroCells #[zv] (grownCap w (n + m) old e - (n + m))) e)) row := by
    intro old ho row
    have hge := grownCap_ge w (n + m) old e
    have hcm : grownCap w (n + m) old e ≤ maxLen := grownCap_le_maxLen w (n + m) old e h63
    have hx := hown.1
    refine ⟨⟨hlen, .inr ⟨w.heap.size, _, _, rfl, hbase, heap_alloc_new w.drew _, hge, hcm, ?_, ?_⟩⟩, ⟨rfl, rfl, rfl, by simp, fun k hk _ => Below.heap_alloc w.drew _ k hk⟩⟩
    · simp only [Array.size_append, List.size_toArray, zeroCells_eq, List.length_replicate]; omega
    · simp only [Array.toList_append, List.append_assoc]
      rw [← List.append_assoc, ← hlen]
      exact List.take_left
  rcases hown.2 with ⟨rfl, rfl⟩ | ⟨g, cap, cur, rfl, hbg, hg, hnc, hcm, hcs, htake⟩
  · have hx : xs = [] := List.eq_nil_of_length_eq_zero (by simpa using hown.1)
    subst hx
    by_cases hm : m = 0
    · subst hm
      refine ⟨.slice none 0 0, w, ?_, World.ownsRow_nil w base e 1, ⟨rfl, rfl, rfl, Nat.le_refl _, fun _ _ _ => rfl⟩, by simp⟩
      have hw0 : IntKind.i64.wrap 0 = 0 := by rw [IntKind.wrap_i64]; rfl
      simp [Builtin.append_, run_underlying ht, run_underlying htn, sizeOf, typeInfo, hi, asInt, asIntOf, hw0]
    · have h63' : ¬ (9223372036854775807 < (m : Int)) := by omega
      have h48' : ¬ (281474976710656 < Builtin.nextslicecap m 0 * i.bytes) := by rw [nextslicecap_zero (by omega), hby]; omega
      have hr : (Builtin.append_ #[t, tn] ty #[.slice none 0 0, .int k m]).run P w = .ok (.slice (some ⟨w.heap.size, 0, none⟩) m (grownCap w m 0 e)) (w.drew.alloc (.cells ((List.replicate m zv).toArray ++ Builtin.zeroCells #[zv] (grownCap w m 0 e - m)) e)) := by
        simp [Builtin.append_, run_underlying ht, run_underlying htn, sizeOf, typeInfo, zeroValue, hi, hz, asInt, asIntOf, hw, hm, hneg, hsize, h63', h48', h48i, Question.forced, run_firstCells_none, newRow, grownCap, hzs, zeroCells_eq]
      have hgr := grown 0 (by omega) (Value.ownBlock (.slice none 0 0))
      simp only [Nat.zero_add, List.nil_append, Array.empty_append] at hgr ⊢
      exact ⟨_, _, hr, hgr.1, hgr.2, by simp [hm]⟩
  · have hxl := hown.1
    by_cases hroom : n + m ≤ cap
    · have hst := run_storeCells_at P g n e (List.replicate m zv) 0 cur w hg (by simp; omega) (by intro u hu; rw [(List.mem_replicate.1 hu).2]; exact hz1)
      simp only [Nat.add_zero] at hst
      have hr : (Builtin.append_ #[t, tn] ty #[.slice (some ⟨g, 0, none⟩) n cap, .int k m]).run P w = .ok (.slice (some ⟨g, 0, none⟩) (n + m) cap) (w.setRow g (cur.toList.take n ++ List.replicate m zv ++ cur.toList.drop (n + (List.replicate m zv).length)).toArray) := by
        by_cases hm : m = 0
        · subst hm
          have hw0 : IntKind.i64.wrap 0 = 0 := by rw [IntKind.wrap_i64]; rfl
          simp [Builtin.append_, run_underlying ht, run_underlying htn, sizeOf, typeInfo, hi, asInt, asIntOf, hw0, hnc, storeCells, setRow_self w g cur e _ hg]
        · simp [Builtin.append_, run_underlying ht, run_underlying htn, sizeOf, typeInfo, zeroValue, hi, hz, asInt, asIntOf, hw, hneg, hsize, h48i, hroom, hm, hzs, zeroCells_eq, Addr.add_lit, hst]
      refine ⟨_, _, hr, ⟨hlen, .inr ⟨g, cap, _, rfl, hbg, setRow_heap w g cur _ e _ hg, hroom, hcm, ?_, ?_⟩⟩, ⟨rfl, rfl, rfl, by simp, fun k _ hk => setRow_other w g k _ (fun e => hk (by simp [Value.ownBlock, e]))⟩, by simp⟩
      · simp only [List.size_toArray, List.length_append, List.length_take, List.length_drop, Array.length_toList]
        simp only [List.length_replicate]; omega
      · simp only [Nat.mul_one] at htake hlen
        rw [htake, Nat.mul_one, ← hlen]
        exact List.take_left
    · have hm : m ≠ 0 := by omega
      have holds : ∀ j u, xs[j]? = some u → w.drew.cell? ((⟨g, 0, none⟩ : Addr).add j) = some u := hown.cells (g := g) rfl
      have hfo := run_firstCells_some (P := P) w.drew i.size n ⟨g, 0, none⟩ n cap xs (by rw [hsize]; exact hxl) holds
      rw [hsize] at hfo
      have h63' : ¬ (9223372036854775807 < ((n : Int) + (m : Int))) := by omega
      have h48' : ¬ (281474976710656 < Builtin.nextslicecap (n + m) cap * i.bytes) := by
        have := growslice_fits (need := n + m) (old := cap) (bytes := bytes) (by omega) hbytes
        rw [hby]; omega
      have hr : (Builtin.append_ #[t, tn] ty #[.slice (some ⟨g, 0, none⟩) n cap, .int k m]).run P w = .ok (.slice (some ⟨w.heap.size, 0, none⟩) (n + m) (grownCap w (n + m) cap e)) (w.drew.alloc (.cells (xs.toArray ++ (List.replicate m zv).toArray ++ Builtin.zeroCells #[zv] (grownCap w (n + m) cap e - (n + m))) e)) := by
        simp [Builtin.append_, run_underlying ht, run_underlying htn, sizeOf, typeInfo, zeroValue, hi, hz, asInt, asIntOf, hw, hroom, hm, hneg, hsize, h63', h48', h48i, Question.forced, hfo, newRow, grownCap, hzs, zeroCells_eq]
      have hgr := grown cap (by omega) (Value.ownBlock (.slice (some ⟨g, 0, none⟩) n cap))
      exact ⟨_, _, hr, hgr.1, hgr.2, by simp⟩
end
section
variable {P : Program}
theorem wp_append_rd {w : World} {o : Oper} {a : Act} {K : Act → World → Prop} {Q : Exit → Act → World → Prop} (s x : Operand) (t : TypeId)
    (ho : o.op = .call { callee := .builtin .append, args := #[s, x], argTypes := #[t, t] })
    (base : Nat) (e : TypeId) (z : Value) (size bytes : Nat) (ht : P.underlying t = some (.slice e)) (hinfo : (P.info? e).map (fun i => (i.zero, i.size, i.bytes)) = some (some z, size, bytes)) (hzs : z.cells.size = size) (hsz : 0 < size)
    (v : Value) (n : Nat) (xs : List Value) (hs : a.eval s = v) (hown : w.ownsRow base e size v n xs)
    (ad : Option Addr) (m c : Nat) (news : List Value) (hx : a.eval x = .slice ad m c) (hnc : ad = none → c = 0) (hl : news.length = m * size) (hr : Rd w ad news) (h1 : ∀ u ∈ news, u.oneCell' = true)
    (h63 : n + m ≤ maxLen) (hbytes : (n + m) * bytes ≤ 140737488355328) (hbase : base ≤ w.heap.size)
    (h : ∀ v' w', w'.ownsRow base e size v' (n + m) (xs ++ news) → w.grownBy w' v.ownBlock → (v' = .slice none 0 0 ↔ v = .slice none 0 0 ∧ m = 0) → K (a.put o.dst v') w') : o.wp P a w K Q := by
  obtain ⟨i, hi, hz, hsize, hby⟩ := info_parts hinfo
  cases ad with
  | none =>
    have hn := hr.none
    subst hn
    have hm : m = 0 := by
      rcases Nat.eq_zero_or_pos m with h | h
      · exact h
      · have := Nat.mul_pos h hsz; simp at hl; omega
    subst hm
    have hc := hnc rfl
    subst hc
    have hrun := run_append_owned_none (P := P) (w := w) base t o.type e i size ht hi v n xs hown
    unfold Oper.wp
    simp [execOp, ho, resolve, invoke, builtin, hs, hx, hrun, Result.andThen]
    exact h v w (by simpa using hown) (World.grownBy.refl _ _) (by simp)
  | some ad =>
    exact wp_append_own w s x t ho base e i z size bytes ht hi hz hsize hby hzs hsz v n xs hs hown ad m c news hx hl hr.add h1 h63 hbytes hbase h
theorem step_append_rd {w : World} {ops : Array Oper} {o : Oper} {a : Act} {K : Act → World → Prop} {Q : Exit → Act → World → Prop} {E : Prop} (hgd : o.guard = none) (s x : Operand) (t : TypeId)
    (ho : o.op = .call { callee := .builtin .append, args := #[s, x], argTypes := #[t, t] })
    (base : Nat) (e : TypeId) (z : Value) (size bytes : Nat) (ht : P.underlying t = some (.slice e)) (hinfo : (P.info? e).map (fun i => (i.zero, i.size, i.bytes)) = some (some z, size, bytes)) (hzs : z.cells.size = size) (hsz : 0 < size)
    (v : Value) (n : Nat) (xs : List Value) (hs : a.eval s = v) (hown : w.ownsRow base e size v n xs)
    (ad : Option Addr) (m c : Nat) (news : List Value) (hx : a.eval x = .slice ad m c) (hnc : ad = none → c = 0) (hl : news.length = m * size) (hr : Rd w ad news) (h1 : ∀ u ∈ news, u.oneCell' = true)
    (h63 : n + m ≤ maxLen) (hbytes : (n + m) * bytes ≤ 140737488355328) (hbase : base ≤ w.heap.size)
    (h : ∀ v' w', w'.ownsRow base e size v' (n + m) (xs ++ news) → w.grownBy w' v.ownBlock → (v' = .slice none 0 0 ↔ v = .slice none 0 0 ∧ m = 0) → K (a.put o.dst v') w') :
    if Region.wanted o (yielded ops a.tmps) = true then Oper.wp P o a w K Q else E := by
  rw [if_pos (by simp [Region.wanted, hgd])]
  exact wp_append_rd s x t ho base e z size bytes ht hinfo hzs hsz v n xs hs hown ad m c news hx hnc hl hr h1 h63 hbytes hbase h
theorem wpList_append_zeros {w : World} {ops : Array Oper} {rest : List Oper} {o : Oper} {a : Act} {Q : Exit → Act → World → Prop} (hgd : o.guard = none) (s x : Operand) (t tn : TypeId)
    (ho : o.op = .call { callee := .builtin .append, args := #[s, x], argTypes := #[t, tn] })
    (base : Nat) (e : TypeId) (zv : Value) (bytes : Nat) (kn : IntKind) (ht : P.underlying t = some (.slice e)) (htn : P.underlying tn = some (.int kn)) (hinfo : (P.info? e).map (fun i => (i.zero, i.size, i.bytes)) = some (some zv, 1, bytes)) (hzs : zv.cells = #[zv]) (hz1 : zv.oneCell' = true)
    (v : Value) (n : Nat) (xs : List Value) (hs : a.eval s = v) (hown : w.ownsRow base e 1 v n xs)
    (k : IntKind) (M : Int) (m : Nat) (hx : a.eval x = .int k M) (hM : M = (m : Int))
    (h63 : n + m ≤ maxLen) (hbytes : (n + m) * bytes ≤ 140737488355328) (hbase : base ≤ w.heap.size)
    (h : ∀ v' w', w'.ownsRow base e 1 v' (n + m) (xs ++ List.replicate m zv) → w.grownBy w' v.ownBlock → (v' = .slice none 0 0 ↔ v = .slice none 0 0 ∧ m = 0) → wpList P ops Q rest (a.put o.dst v') w') : wpList P ops Q (o :: rest) a w := by
  subst hM
  obtain ⟨i, hi, hz, hsize, hby⟩ := info_parts hinfo
  obtain ⟨v', w', hrun, h1, h2, h3⟩ := run_append_own_zeros (P := P) w base t tn o.type e i zv bytes k kn ht htn hi hz hsize hby hzs hz1 v n xs hown m h63 hbytes hbase
  refine wpList_plain hgd fun K hK => ?_
  unfold Oper.wp
  simp [execOp, ho, resolve, invoke, builtin, hs, hx, hrun, Result.andThen]
  exact hK _ _ (h v' w' h1 h2 h3)
end
section
variable {P : Program}
theorem wpList_store_blk {ops : Array Oper} {rest : List Oper} {op : Oper} {a : Act} {w : World} {Q : Exit → Act → World → Prop} (hgd : op.guard = none) (hdst : op.dst = none) (ty : TypeId) (x y : Operand) (ho : op.op = .store ty x y)
    (g : Nat) (t : TypeId) (cur cells : Array Value) (hx : a.eval x = .pointer (some ⟨g, 0, none⟩)) (hy : a.eval y = .agg cells)
    (hg : w.heap[g]? = some (.cells cur t (0, 0))) (hs : cur.size = cells.size)
    (hi : (P.info? ty).map (·.size) = some cells.size) (h1 : ∀ v ∈ cells.toList, v.oneCell' = true)
    (h : wpList P ops Q rest a (w.setRow g cells)) : wpList P ops Q (op :: rest) a w :=
  wpList_store_block hgd ty x y ho g t cur cells hx hy hg hs hi h1 (by rw [hdst]; exact h)
end
/-! frames: a record's bytes -/
def gapN (at_ : Nat) : Nat := if 256 - at_ % 256 < 7 then 256 - at_ % 256 else 0
def roomN (at_ : Nat) : Nat := 256 - (at_ + gapN at_) % 256 - 7
/-- the bytes of a record behind 'at_' bytes, or of what is left of it -/
def putRec : Nat → Nat → Bool → List UInt8 → List UInt8
  | 0, _, _, _ => []
  | f + 1, at_, begun, rec =>
    if rec.length ≤ roomN at_ then List.replicate (gapN at_) 0 ++ partB (if begun then 4 else 1) rec
    else List.replicate (gapN at_) 0 ++ partB (if begun then 3 else 2) (rec.take (roomN at_)) ++ putRec f (at_ + gapN at_ + 7 + roomN at_) true (rec.drop (roomN at_))
/-- enough rounds -/
def putFuel (at_ : Nat) (begun : Bool) (rec : List UInt8) (f : Nat) : Prop := (begun = true → at_ % 256 = 0) ∧ rec.length + (if begun then 1 else 2) ≤ f
theorem putFuel_next {at_ : Nat} {begun : Bool} {rec : List UInt8} {f : Nat} (h : putFuel at_ begun rec f) (hl : ¬ rec.length ≤ roomN at_) : ∃ f', f = f' + 1 ∧ putFuel (at_ + gapN at_ + 7 + roomN at_) true (rec.drop (roomN at_)) f' := by
  obtain ⟨h1, h2⟩ := h
  cases f with
  | zero => cases begun <;> simp at h2
  | succ f =>
    refine ⟨f, rfl, ?_, ?_⟩
    · intro _
      unfold roomN gapN
      split <;> omega
    · cases begun with
      | true =>
        have := h1 rfl
        have hr : roomN at_ = 249 := by unfold roomN gapN; split <;> omega
        simp [hr] at *; omega
      | false => simp at *; omega
theorem Rd.take {w : World} {a : Option Addr} {xs : List Value} (h : Rd w a xs) (k : Nat) : Rd w a (xs.take k) := by
  rcases h with rfl | ⟨b, off, rfl, hc⟩
  · exact .inl (by simp)
  · refine .inr ⟨b, off, rfl, fun j u hu => hc j u ?_⟩
    rw [List.getElem?_take] at hu
    split at hu
    · exact hu
    · cases hu
theorem Rd.drop {w : World} {b off : Nat} {xs : List Value} (h : Rd w (some ⟨b, off, Option.none⟩) xs) (k : Nat) : Rd w (some ⟨b, off + k, Option.none⟩) (xs.drop k) := by
  rcases h with rfl | ⟨b', off', e, hc⟩
  · exact .inl (by simp)
  · simp at e; obtain ⟨rfl, rfl⟩ := e
    refine .inr ⟨_, _, rfl, fun j u hu => ?_⟩
    rw [List.getElem?_drop] at hu
    rw [Nat.add_assoc]; exact hc _ _ hu
def kd (begun last : Bool) : UInt8 := if last then (if begun then 4 else 1) else (if begun then 3 else 2)
theorem gapN_lt (at_ : Nat) : gapN at_ < 7 := by unfold gapN; split <;> omega
theorem roomN_le (at_ : Nat) : roomN at_ ≤ 249 := by unfold roomN gapN; split <;> omega
theorem partB_length (k : UInt8) (l : List UInt8) : (partB k l).length = 7 + l.length := by simp [partB, headList, tailOf]; omega
theorem putRec_last {at_ : Nat} {begun : Bool} {rec : List UInt8} {f : Nat} (h : putFuel at_ begun rec f) (hl : rec.length ≤ roomN at_) : putRec f at_ begun rec = List.replicate (gapN at_) 0 ++ partB (kd begun true) rec := by
  cases f with
  | zero => have := h.2; cases begun <;> simp at this
  | succ f => rw [putRec, if_pos hl]; cases begun <;> rfl
theorem putRec_more {at_ : Nat} {begun : Bool} {rec : List UInt8} {f : Nat} (hl : ¬ rec.length ≤ roomN at_) : putRec (f + 1) at_ begun rec = List.replicate (gapN at_) 0 ++ partB (kd begun false) (rec.take (roomN at_)) ++ putRec f (at_ + gapN at_ + 7 + roomN at_) true (rec.drop (roomN at_)) := by
  rw [putRec, if_neg hl]; cases begun <;> rfl
theorem putRec_len : ∀ (f at_ : Nat) (begun : Bool) (rec : List UInt8), (begun = true → at_ % 256 = 0) → (putRec f at_ begun rec).length ≤ 20 * rec.length + 14 + (if begun then 0 else 13)
  | 0, _, _, _, _ => by simp [putRec]
  | f + 1, at_, begun, rec, h => by
    have hg := gapN_lt at_
    by_cases hl : rec.length ≤ roomN at_
    · rw [putRec, if_pos hl, List.length_append, partB_length, List.length_replicate]; omega
    · rw [putRec_more hl]
      have ih := putRec_len f (at_ + gapN at_ + 7 + roomN at_) true (rec.drop (roomN at_)) (fun _ => by unfold roomN gapN; split <;> omega)
      rw [if_pos rfl, List.length_drop] at ih
      rw [List.length_append, List.length_append, partB_length, List.length_replicate, List.length_take]
      cases begun with
      | true =>
        have : roomN at_ = 249 := by have := h rfl; unfold roomN gapN; split <;> omega
        omega
      | false => simp only [Bool.false_eq_true, if_false]; omega
theorem Fr.clip {w : World} {base : Nat} {e : TypeId} {k : Nat} {q : Option Addr} {n c : Nat} {xs : List Value} (h : Fr w base e k (.slice q n c) n xs) : Fr w base e k (.slice q n n) n xs := by
  obtain ⟨h1, h2⟩ := h
  refine ⟨h1, ?_⟩
  rcases h2 with ⟨h2, h3⟩ | ⟨g, cap, cur, hv, hg, hh, hn, hc, hs, ht⟩
  · simp at h2; obtain ⟨rfl, rfl, rfl⟩ := h2; exact .inl ⟨rfl, rfl⟩
  · simp at hv; obtain ⟨rfl, rfl⟩ := hv
    exact .inr ⟨g, n, cur, rfl, hg, hh, Nat.le_refl _, by omega, Nat.le_trans (Nat.mul_le_mul_right _ hn) hs, ht⟩
theorem own_setRow {w : World} {base : Nat} {e : TypeId} {size : Nat} {v : Value} {n : Nat} {xs : List Value} (h : w.ownsRow base e size v n xs) {g : Nat} (hg : g < base) (cs : Array Value) : (w.setRow g cs).ownsRow base e size v n xs := by
  obtain ⟨h1, h2⟩ := h
  refine ⟨h1, ?_⟩
  rcases h2 with h2 | ⟨g', cap, cur, hv, hb, hh, r⟩
  · exact .inl h2
  · exact .inr ⟨g', cap, cur, hv, hb, (setRow_other w g g' cs (by omega)).trans hh, r⟩
theorem own_ne {w : World} {base : Nat} {e : TypeId} {size : Nat} {v : Value} {n : Nat} {xs : List Value} (h : w.ownsRow base e size v n xs) {b : Nat} (hb : b < base) : some b ≠ v.ownBlock := by
  intro e
  have := (h.lt b e.symm).1
  omega
theorem bvs_zero (g : Nat) : List.replicate g (Value.int .u8 0) = (List.replicate g (0 : UInt8)).map bv := by
  rw [List.map_replicate]; rfl
end Go.Proofs.Herb
